/- The laws 'TableBack' and 'TableCut': what their code does. -/
import Derived.Test.YtpgjpgecgibklaaC28
import Derived.Test.YtpgjpgecgibklaaP3
import Derived.Test.YtpgjpgecgibklaaV5
import Derived.Test.YtpgjpgecgibklaaT6
set_option linter.unusedVariables false
set_option linter.unusedSimpArgs false
set_option maxRecDepth 100000
namespace Fk
open Go Go.Proofs Go.RowKit
section
variable {L : List Nat} {w0 w : World}
/-- What a call of the packer answers, its words met. -/
theorem inPk {f : FuncId} {t : Tb} {p : TbS} {K : Option Addr → Nat → Nat → Int → World → Prop}
    (hf : Ct Try.prog f #[.agg (t.v p)] w fun v w' => (∃ u e, v = .tuple #[u, .int .i64 e] ∧ PkOut t w.heap.size w' u e) ∧ Md [] w w') (h : Good L w0 w)
    (k : ∀ a n c e w', Good L w0 w' → Md [] w w' → (tRight t = true ∧ e = 0 ∧ n = (packL t).length ∧ OwnL w' w.heap.size 5 1 b1 a c (packL t) ∨ tRight t = false ∧ e = 100 ∧ a = none ∧ n = 0 ∧ c = 0) → K a n c e w') :
    CallW Try.prog L f #[.agg (t.v p)] (fun v w' => opTu v fun cs => opL (nthD (Array.toList cs) 0) fun a n c => opI .i64 (nthD (Array.toList cs) 1) fun e => SzIs (Array.size cs) 2 (K a n c e w')) w := by
  refine hf.call h.2 ?_
  rintro v w' ⟨u, e, rfl, hpk⟩ h'
  unfold PkOut at hpk
  refine opTu_in ?_
  split at hpk
  · rename_i hr
    obtain ⟨rfl, a, c, rfl, ho⟩ := hpk
    exact opL_in <| opI_in <| SzIs_in rfl <| k a _ c _ w' (h.tr h') h' (.inl ⟨hr, rfl, rfl, ho⟩)
  · rename_i hr
    obtain ⟨rfl, rfl⟩ := hpk
    exact opL_in <| opI_in <| SzIs_in rfl <| k _ _ _ _ w' (h.tr h') h' (.inr ⟨by simpa using hr, rfl, rfl, rfl, rfl⟩)
/-- What a call of the reader answers, its words met. -/
theorem inRd {f : FuncId} {A : Option Addr} {C : Nat} {b : List Nat} {n : Nat} {K : Array Value → Int → World → Prop}
    (hf : Ct Try.prog f #[.slice A n C] w fun v w' => (∃ cs e, v = .tuple #[.agg cs, .int .i64 e] ∧ RdOut b w.heap.size w' cs e) ∧ Md [] w w') (h : Good L w0 w)
    (k : ∀ t p e w', Good L w0 w' → Md [] w w' → TbF w.heap.size w' t p → (rdT b = some t ∧ e = 0 ∨ rdT b = none ∧ t = zT ∧ e = 100) → K (t.v p) e w') :
    CallW Try.prog L f #[.slice A n C] (fun v w' => opTu v fun cs => opBig (nthD (Array.toList cs) 0) fun cs1 => Array.size cs1 = 261 ∧ opI .i64 (nthD (Array.toList cs) 1) fun e =>
      SzIs (Array.size cs) 2 (Array.size cs1 = 261 ∧ K cs1 e w')) w := by
  refine hf.call h.2 ?_
  rintro v w' ⟨cs, e, rfl, hrd⟩ h'
  unfold RdOut at hrd
  refine opTu_in ?_
  cases hr : rdT b with
  | some t =>
    rw [hr] at hrd
    obtain ⟨rfl, p, rfl, hF⟩ := hrd
    exact opBig_in ⟨hF.at.size, opI_in <| SzIs_in rfl ⟨hF.at.size, k t p 0 w' (h.tr h') h' hF (.inl ⟨hr, rfl⟩)⟩⟩
  | none =>
    rw [hr] at hrd
    obtain ⟨rfl, rfl⟩ := hrd
    have hz := TbF.zero w.heap.size w'
    exact opBig_in ⟨hz.at.size, opI_in <| SzIs_in rfl ⟨hz.at.size, k zT zP 100 w' (h.tr h') h' hz (.inr ⟨hr, rfl, rfl⟩)⟩⟩
theorem in61' {A : Option Addr} {C : Nat} {b : List Nat} {n : Nat} {K : Array Value → Int → World → Prop} (hb : ∀ x ∈ b, x < 256) (hn : n = b.length) (hl : b.length < 2 ^ 40) (hC : b.length ≤ C) (hr : RowAt w A 1 b1 b) (h : Good L w0 w)
    (k : ∀ t p e w', Good L w0 w' → Md [] w w' → TbF w.heap.size w' t p → (rdT b = some t ∧ e = 0 ∨ rdT b = none ∧ t = zT ∧ e = 100) → K (t.v p) e w') :
    CallW Try.prog L 61 #[.slice A n C] (fun v w' => opTu v fun cs => opBig (nthD (Array.toList cs) 0) fun cs1 => Array.size cs1 = 261 ∧ opI .i64 (nthD (Array.toList cs) 1) fun e =>
      SzIs (Array.size cs) 2 (Array.size cs1 = 261 ∧ K cs1 e w')) w := by
  subst hn
  exact inRd (f61_ok b A C hb hl hC w hr) h k
end
theorem str_of_row {w : World} {a : Option Addr} {c : Nat} {l : List Nat} (h : RowAt w a 1 b1 l) (hl : ∀ x ∈ l, x < 256) : (convert 51 9 (.slice a l.length c)).run Try.prog w = .ok (.string (bytesOf l)) w := conv_row h hl _ _ rfl
theorem str_eqL {a b : List Nat} (ha : ∀ x ∈ a, x < 256) (hb : ∀ x ∈ b, x < 256) : ((bytesOf a).toList == (bytesOf b).toList) = decide (a = b) := by
  rw [str_eq, Bool.eq_iff_iff]
  simp only [decide_eq_true_eq]
  exact ⟨bytesOf_inj ha hb, fun h => by rw [h]⟩
theorem zT_noRight : tRight zT = false := by kernel_rfl
theorem f9_ok (t : Tb) (p : TbS) (b : List Nat) (A : Option Addr) (C : Nat) (hb : ∀ x ∈ b, x < 256) (hC : b.length ≤ C) (hbl : b.length < 2 ^ 63) (w : World) (ht : TbAt w t p) (hr : RowAt w A 1 b1 b) :
    Ct Try.prog 9 #[.agg (t.v p), .slice A b.length C] w fun v w' => v = .bool true ∧ Md [] w w' := by
  apply f9_in
  intro n1 hn1
  refine ⟨ht.size, fun w2 h2 hL2 => ?_⟩
  have g2 : Good [n1] w w2 := ⟨h2, hL2⟩
  refine in53 ht g2 fun w4 b5 g4 hfew => ?_
  refine Bd_in fun b6 hb6 => Bd_in fun x7 hx7 => Bd_in fun b8 hb8 => Bd_in fun b9 hb9 => If_in (fun _ => in54 g4 fun w11 g11 => ⟨rfl, g11.1⟩) fun h => ?_
  have hb6000 : b.length ≤ 6000 := by
    rw [hb9, hb8, hx7] at h
    cases b6 <;> simp at h
    omega
  clear hb9 hb8 hb6 hx7
  refine ⟨ht.size, inPk (f59_ok t p w4 (ht.md g4.1)) g4 fun a16 n17 c18 x19 w14 g14 m14 hpk => ?_⟩
  refine Jn_in (fun us vs w' => us = [.bool false] ∧ Good [n1] w w') ?_ ?_
  · rintro us vs w22 ⟨rfl, g22⟩
    refine opB_in <| in61' hb rfl (by omega) hC (hr.md g22.1) g22 fun u q x28 w25 g25 m25 hF hrd => ?_
    refine fun n29 hn29 => OkC_in hF.cells ?_
    rcases hrd with ⟨hrd, rfl⟩ | ⟨hrd, rfl, rfl⟩
    · obtain ⟨hru, hpu, _⟩ := pack_rd hb hrd
      refine Bd_f rfl <| If_f ⟨hF.at.size, fun w54 h54 hL54 => ?_⟩
      have g54 := regUp g25 hn29 h54 hL54
      have m54 := mdUp hn29 h54
      refine inPk (f59_ok u q w54 (hF.at.md m54)) g54 fun a n c e w56 g56 m56 hpk => ?_
      rcases hpk with ⟨_, rfl, rfl, ho⟩ | ⟨hno, _⟩
      · refine Bd_t rfl ⟨fun _ => hF.at.size, Gd_t ?_⟩
        refine in55 (hF.at.md (m54.trans m56)) (L := [n29, n1]) ⟨Md.refl _ _, g56.2⟩ fun w66 g66 => ?_
        refine Bd_t (by rw [hru]; rfl) ?_
        rw [hpu] at ho ⊢
        have g66' := g56.tr g66.1
        refine Gd_t <| RunW_in0 (str_of_row ((ho.row encb1).md g66.1) hb) <| opStr_in <| Gd_t <| RunW_in0 (str_of_row (hr.md g66'.1) hb) <| opStr_in ?_
        refine Bd_t (by simp) <| Bd_t rfl <| Gd_t <| in54 g66' fun w87 g87 => Bd_t rfl ⟨rfl, g87.1⟩
      · rw [hru] at hno; cases hno
    · refine Bd_t rfl <| If_t <| Bd_t rfl ⟨fun _ => hF.at.size, fun w33 h33 hL33 => ?_⟩
      have g33 := regUp g25 hn29 h33 hL33
      have m33 := mdUp hn29 h33
      refine Gd_t <| RunW_in0 (build57 w33) <| opBig_in ⟨(TbF.zero 0 w33).at.size, Gd_t ?_⟩
      refine in63 (hF.at.md m33) (TbF.zero 0 w33).at g33 fun w42 b43 g42 hb43 => ?_
      cases hb43.2 rfl
      exact Bd_t rfl <| Gd_t <| in54 g42 fun w49 g49 => Bd_t rfl ⟨rfl, g49.1⟩
  · refine ⟨ht.size, in55 (ht.md g14.1) (L := [n1]) ⟨Md.refl _ _, g14.2⟩ fun w94 q94 => ?_⟩
    have g94 := g14.tr q94.1
    refine If_in (fun hr => ?_) fun hr => ?_
    · rcases hpk with ⟨_, rfl, rfl, ho⟩ | ⟨hno, _⟩
      · have hR := RtF.of hr
        have hpl := pack_len ht.ok hR
        have hpl2 := pack_lt ht.ok hR
        refine in61' hpl2 rfl (by omega) (by have := ho.cap; omega) ((ho.row encb1).md q94.1) g94 fun u q x100 w97 g97 m97 hF hrd => ?_
        rw [rd_pack ht.ok hr] at hrd
        rcases hrd with ⟨hrd, rfl⟩ | ⟨hrd, _⟩
        · cases hrd
          refine fun n101 hn101 => OkC_in hF.cells <| Bd_f rfl <| Bd_f rfl <| Bd_f rfl ⟨fun _ => ht.size, fun _ => hF.at.size, fun w107 h107 hL107 => ?_⟩
          have g107 := regUp g97 hn101 h107 hL107
          refine Gd_t <| in63 (ht.md g107.1) (hF.at.md (mdUp hn101 h107)) g107 fun w110 b g110 hb => ?_
          cases hb.2 rfl
          exact Bd_f rfl <| Bd_f rfl <| If_f ⟨rfl, g110.1, fun x hx => g110.2 x (List.mem_cons_of_mem _ hx)⟩
        · cases hrd
      · rw [hr] at hno; cases hno
    · rcases hpk with ⟨hno, _⟩ | ⟨_, rfl, rfl, rfl, rfl⟩
      · rw [hr] at hno; cases hno
      · exact Bd_f rfl <| Bd_e rfl <| Bd_f rfl <| Bd_f rfl <| If_f ⟨rfl, g94⟩
end Fk
