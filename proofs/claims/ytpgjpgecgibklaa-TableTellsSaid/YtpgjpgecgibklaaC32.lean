/- The law 'TableTells': what its code does. -/
import Derived.Test.YtpgjpgecgibklaaC31
import Derived.Test.YtpgjpgecgibklaaV6
set_option linter.unusedVariables false
set_option linter.unusedSimpArgs false
set_option maxRecDepth 100000
namespace Fk
open Go Go.Proofs Go.RowKit
def pkB (t : Tb) : List Nat := if tRight t = true then packL t else []
def pkE (t : Tb) : Int := if tRight t = true then 0 else 100
theorem pk_own {t : Tb} {w' : World} {base n c : Nat} {a : Option Addr} {e : Int} (hok : t.c.ok)
    (h : tRight t = true ∧ e = 0 ∧ n = (packL t).length ∧ OwnL w' base 5 1 b1 a c (packL t) ∨ tRight t = false ∧ e = 100 ∧ a = none ∧ n = 0 ∧ c = 0) :
    e = pkE t ∧ n = (pkB t).length ∧ OwnL w' base 5 1 b1 a c (pkB t) := by
  rcases h with ⟨h1, rfl, rfl, h4⟩ | ⟨h1, rfl, rfl, rfl, rfl⟩
  · simp only [pkE, pkB, h1, if_true]; exact ⟨trivial, trivial, h4⟩
  · simp only [pkE, pkB, h1]; exact ⟨rfl, rfl, OwnL.nil ..⟩
theorem pkB_lt {t : Tb} (hok : t.c.ok) : ∀ x ∈ pkB t, x < 256 := by
  unfold pkB
  split
  · rename_i h; exact pack_lt hok (RtF.of h)
  · simp
theorem pkB_len {t : Tb} (hok : t.c.ok) : (pkB t).length ≤ 2600000 := by
  unfold pkB
  split
  · rename_i h; exact pack_len hok (RtF.of h)
  · simp
theorem rd_same {b : List Nat} {t : Tb} {e : Int} (h : rdT b = some t ∧ e = 0 ∨ rdT b = none ∧ t = zT ∧ e = 100) : t = (rdT b).getD zT ∧ e = if (rdT b).isSome then 0 else 100 := by
  rcases h with ⟨h, rfl⟩ | ⟨h, rfl, rfl⟩ <;> simp [h]
theorem blk_mem {a : Option Addr} {d : Nat} (h : d ∈ (a.map (·.block)).toList) : ∃ A, a = some A ∧ A.block = d := by
  cases a with
  | none => simp at h
  | some A => simp at h; exact ⟨A, rfl, h.symm⟩
theorem f8_ok (t : Tb) (p : TbS) (st : Int) (x : Nat) (hx : x < 256) (b : List Nat) (A : Option Addr) (C : Nat) (hb : ∀ x ∈ b, x < 256) (hC : b.length ≤ C) (hbl : b.length < 2 ^ 63) (w : World) (ht : TbAt w t p) (hr : RowAt w A 1 b1 b) :
    Ct Try.prog 8 #[.agg (t.v p), .int .i64 st, .int .u8 x, .slice A b.length C] w fun v w' => v = .bool true ∧ Md [] w w' := by
  apply f8_in
  intro n1 hn1
  refine ⟨ht.size, fun w2 h2 hL2 => ?_⟩
  have g2 : Good [n1] w w2 := ⟨h2, hL2⟩
  refine in53 ht g2 fun w4 b5 g4 hfew => ?_
  refine Bd_in fun b6 hb6 => Bd_in fun x7 hx7 => Bd_in fun b8 hb8 => Bd_in fun b9 hb9 => If_in (fun _ => in54 g4 fun w11 g11 => ⟨rfl, g11.1⟩) fun h => ?_
  have hb6000 : b.length ≤ 6000 := by
    rw [hb9, hb8, hx7] at h
    cases b6 <;> simp at h
    omega
  clear hb9 hb8 hb6 hx7 h
  refine Jn_in (fun us vs w' => us = [.bool false] ∧ Good [n1] w w') ?_ ?_
  · rintro us vs w15 ⟨rfl, g15⟩
    refine opB_in <| If_f ⟨ht.size, inPk (f59_ok t p w15 (ht.md g15.1)) g15 fun a20 n21 c22 e23 w18 g18 m18 hpk1 => ⟨ht.size, inPk (f60_ok t p w18 (ht.md g18.1)) g18 fun a27 n28 c29 e30 w25 g25 m25 hpk2 => ?_⟩⟩
    obtain ⟨rfl, rfl, own1⟩ := pk_own ht.ok hpk1
    obtain ⟨rfl, rfl, own2⟩ := pk_own ht.ok hpk2
    have hpb := pkB_lt ht.ok
    have hpl := pkB_len ht.ok
    generalize hP : pkB t = P at *
    refine RunW_in0 (str_of_row ((own1.md m25).row encb1) hpb) <| opStr_in <| RunW_in0 (str_of_row (own2.row encb1) hpb) <| opStr_in <| Bd_f (by simp) <| Bd_f (by simp) <| Bd_f rfl <| If_f <| RunW_in0 (str_of_row (hr.md g25.1) hb) <| opStr_in ?_
    refine in61' hb rfl (by omega) hC (hr.md g25.1) g25 fun u q e47 w44 g44 m44 hF hrd1 => fun n48 hn48 => OkC_in hF.cells fun w49 h49 hL49 => ?_
    have g49 := regUp g44 hn48 h49 hL49
    have m49 := mdUp hn48 h49
    refine inRd (f62_ok b A C hb (by omega) hC w49 (hr.md g49.1)) g49 fun u2 q2 e54 w51 g51 m51 hF2 hrd2 => fun n55 hn55 => OkC_in hF2.cells ⟨hF.at.size, hF2.at.size, fun w56 h56 hL56 => ?_⟩
    have g56 := regUp g51 hn55 h56 hL56
    have m56 := mdUp hn55 h56
    obtain ⟨hu1, he1⟩ := rd_same hrd1
    obtain ⟨hu2, he2⟩ := rd_same hrd2
    have huu : u = u2 := hu1.trans hu2.symm
    have hee : e47 = e54 := he1.trans he2.symm
    have q56 : Good [n55, n48, n1] w56 w56 := ⟨Md.refl _ _, g56.2⟩
    refine in63 (hF.at.md (m49.trans (m51.trans m56))) (hF2.at.md m56) q56 fun w58 b59 q58 hb59 => ?_
    cases hb59.2 huu
    have g58 := g56.tr q58.1
    refine Bd_f rfl <| Bd_f (by rw [hee]; simp) <| Bd_f rfl <| If_f <| Bd_e rfl ?_
    have m25_58 : Md [] w25 w58 := m44.trans (m49.trans (m51.trans (m56.trans q58.1)))
    have o1 : OwnL w58 w15.heap.size 5 1 b1 a20 c22 P := own1.md (m25.trans m25_58)
    have o2 : OwnL w58 w18.heap.size 5 1 b1 a27 c29 P := own2.md m25_58
    have F1 : TbF w25.heap.size w58 u q := hF.md (m49.trans (m51.trans (m56.trans q58.1)))
    have F2 : TbF w49.heap.size w58 u2 q2 := hF2.md (m56.trans q58.1)
    have s15 := g15.1.size
    have s18 := m18.size
    have s25 := m25.size
    have s44 := m44.size
    have s49 := m49.size
    have s51 := m51.size
    have hL1 : n1 < w15.heap.size := g15.2 n1 (by simp)
    have ha20 : ∀ B, a20 = some B → w15.heap.size ≤ B.block ∧ B.block < w18.heap.size := fun B hB => own1.lt hB
    have ha27 : ∀ B, a27 = some B → w18.heap.size ≤ B.block ∧ B.block < w25.heap.size := fun B hB => own2.lt hB
    have hta : ∀ B, q.ta = some B → w25.heap.size ≤ B.block ∧ B.block < w44.heap.size := fun B hB => hF.tg.lt hB
    refine LoopP_in (fun m us vs w' => ∃ (i : Nat) (l : List Nat), us = [.int .i64 i] ∧ m = P.length - i ∧ l.length = P.length ∧ (∀ x ∈ l, x < 256) ∧ OwnL w' w15.heap.size 5 1 b1 a20 c22 l ∧ Md (a20.map (·.block)).toList w58 w') P.length
      ⟨0, P, rfl, rfl, rfl, hpb, o1, Md.refl _ _⟩ ?_
    rintro m us vs w67 ⟨i, l, rfl, rfl, hll, hlb, ol, m67⟩
    refine opI_in <| Bd_in fun b69 hb69 => If_in (fun h => ?_) fun h => ?_
    · subst hb69
      have hi : i < l.length := by rw [hll]; have : (i : Int) < (P.length : Int) := of_decide_eq_true h; omega
      have hix : IxOk (i : Int) P.length a20 := by rw [← hll]; exact (ol.row encb1).ix hi
      refine ⟨hix, (ol.row encb1).ld1 hi rfl <| opI_in <| Bd_e (y := (((l[i] + 1) % 256 : Nat) : Int)) (by rw [IntKind.wrap_u8]; omega) ⟨hix, ?_⟩⟩
      obtain ⟨B, rfl, hB1, hB2, hB3, hWr, hown, hmd⟩ := ol.put encb1 (by omega) hi ((l[i] + 1) % 256)
      have hBr := ha20 B rfl
      refine ⟨?_, hWr, Bd_e (inc_i64 (by rw [hll] at hi; omega)) ⟨P.length - (i + 1), by omega, i + 1, _, rfl, rfl, by rw [List.length_set, hll], ?_, hown, m67.trans (hmd.mono (by simp))⟩⟩
      · rw [hB3]; simp; omega
      · intro z hz
        rcases List.mem_or_eq_of_mem_set hz with h | rfl
        · exact hlb z h
        · omega
    clear hb69 h
    have hD1 : ∀ d ∈ (a20.map (·.block)).toList, w15.heap.size ≤ d ∧ d < w18.heap.size := fun d hd => by
      obtain ⟨B, hB, rfl⟩ := blk_mem hd
      exact ha20 B hB
    have g67 : Good [n55, n48, n1] w w67 := ⟨g58.1.old m67 fun d hd => by have := (hD1 d hd).1; omega, fun z hz => by have := g58.2 z hz; have := m67.size; omega⟩
    have p2 : OwnL w67 w18.heap.size 5 1 b1 a27 c29 P := o2.mdD m67 fun B hB hmem => by have := ha27 B hB; have := hD1 _ hmem; omega
    have G1 : TbF w25.heap.size w67 u q := F1.mdN m67 fun d hd => by have := hD1 d hd; omega
    have G2 : TbF w49.heap.size w67 u2 q2 := F2.mdN m67 fun d hd => by have := hD1 d hd; omega
    clear m67 ol hll hlb
    refine BdO_in F1.at.n259 <| opL_in <| Bd_e rfl ?_
    refine LoopP_in (fun m us vs w' => ∃ (i : Nat) (l : List Int), us = [.int .i64 i] ∧ m = u.tg.length - i ∧ l.length = u.tg.length ∧ OwnL w' w25.heap.size 3 1 i1 q.ta q.tc l ∧ Md (q.ta.map (·.block)).toList w67 w') u.tg.length
      ⟨0, u.tg, rfl, rfl, rfl, G1.tg, Md.refl _ _⟩ ?_
    rintro m us vs w82 ⟨i, l, rfl, rfl, hll, ol, m82⟩
    refine opI_in <| Bd_in fun b69 hb69 => If_in (fun h => ?_) fun h => ?_
    · subst hb69
      have hi : i < l.length := by rw [hll]; have : (i : Int) < (u.tg.length : Int) := of_decide_eq_true h; omega
      have hix : IxOk (i : Int) u.tg.length q.ta := by rw [← hll]; exact (ol.row enci1).ix hi
      refine BdO_in F1.at.n259 <| opL_in ⟨hix, (ol.row enci1).ld1 hi rfl <| opI_in <| Bd_in fun x91 hx91 => ⟨hix, ?_⟩⟩
      obtain ⟨B, hBe, hB1, hB2, hB3, hWr, hown, hmd⟩ := ol.put enci1 (by omega) hi x91
      have hBr := hta B hBe
      refine ⟨?_, hWr, Bd_e (inc_i64 (by rw [hll] at hi; have := F1.tgl; omega)) ⟨u.tg.length - (i + 1), by omega, i + 1, _, rfl, rfl, by rw [List.length_set, hll], hown, m82.trans (hmd.mono (by rw [hBe]; simp))⟩⟩
      rw [hB3]; simp; omega
    clear hb69 h
    have hD2 : ∀ d ∈ (q.ta.map (·.block)).toList, w25.heap.size ≤ d ∧ d < w44.heap.size := fun d hd => by
      obtain ⟨B, hB, rfl⟩ := blk_mem hd
      exact hta B hB
    have g82 : Good [n55, n48, n1] w w82 := ⟨g67.1.old m82 fun d hd => by have := (hD2 d hd).1; omega, fun z hz => by have := g67.2 z hz; have := m82.size; omega⟩
    have r2 : OwnL w82 w18.heap.size 5 1 b1 a27 c29 P := p2.mdD m82 fun B hB hmem => by have := ha27 B hB; have := hD2 _ hmem; omega
    have H2 : TbF w49.heap.size w82 u2 q2 := G2.mdN m82 fun d hd => by have := hD2 d hd; omega
    have hn48b : n48 < w82.heap.size := g82.2 n48 (by simp)
    refine ⟨ht.size, inPk (f59_ok t p w82 (ht.md g82.1)) g82 fun a96 n97 c98 e99 w94 g94 m94 hpk3 => ?_⟩
    obtain ⟨rfl, rfl, own3⟩ := pk_own ht.ok hpk3
    rw [hP] at own3 ⊢
    have s94 := m94.size
    refine in61' hb rfl (by omega) hC (hr.md g94.1) g94 fun u3 q3 e104 w101 g101 m101 hF3 hrd3 => OkC_in hF3.cells <| SzIs_in hF.at.size fun w105 h105 hL105 => ?_
    have g105 : Good [n55, n48, n1] w w105 := ⟨g101.1.old h105 (by simp; omega), hL105⟩
    have o3 : OwnL w105 w82.heap.size 5 1 b1 a96 c98 P := (own3.md m101).mdD h105 fun B hB hmem => by have := (own3.lt hB).1; simp at hmem; omega
    have o4 : OwnL w105 w18.heap.size 5 1 b1 a27 c29 P := (r2.md (m94.trans m101)).mdD h105 fun B hB hmem => by have := ha27 B hB; simp at hmem; omega
    have H3 : TbF w94.heap.size w105 u3 q3 := hF3.mdN h105 (by simp; omega)
    have hn48c : n48 < w49.heap.size := g49.2 n48 (by simp)
    have H4 : TbF w49.heap.size w105 u2 q2 := (H2.md (m94.trans m101)).mdN h105 (by simp; omega)
    have huu3 : u3 = u2 := (rd_same hrd3).1.trans hu2.symm
    refine RunW_in0 (str_of_row (o3.row encb1) hpb) <| opStr_in <| RunW_in0 (str_of_row (o4.row encb1) hpb) <| opStr_in <| Bd_t (by simp) ⟨fun _ => H3.at.size, fun _ => H4.at.size, Gd_t <| in63 H3.at H4.at g105 fun w117 b118 g117 hb118 => ?_⟩
    cases hb118.2 huu3
    exact Bd_t rfl <| Gd_t <| RunW_in0 (str_of_row (hr.md g117.1) hb) <| opStr_in <| Bd_t (by simp) <| Bd_t rfl <| Gd_t <| in54 g117 fun w132 g132 => Bd_t rfl ⟨rfl, g132.1⟩
  · have g4d := g4.tr (Md_drew w4)
    refine ⟨ht.size, ht.size, in55 ht g4d fun w139 g139 => in56 ht g139 fun w142 g142 => Bd_f (by simp) ⟨fun _ => ht.size, fun _ => ht.size, Gd_t <| in57 ht st x hx g142 fun w152 g152 => Gd_t <| ?_⟩⟩
    refine (f58_ok t p st x hx w152 (ht.md g152.1)).call g152.2 ?_
    rintro v w' rfl h'
    exact opI_in <| Bd_f (by simp) <| Bd_f rfl ⟨rfl, g152.tr h'⟩
end Fk
