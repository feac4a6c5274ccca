/- Contracts of functions, and plain laws: several texts, joined. -/
import Derived.Test.YtpgjpgecgibklaaGR3
import Derived.Test.YtpgjpgecgibklaaGR1
import Derived.Test.YtpgjpgecgibklaaGR2
import Derived.Test.YtpgjpgecgibklaaGK2
import Derived.Laws.Strings2
import Derived.Test.YtpgjpgecgibklaaGV2
set_option linter.unusedVariables false
set_option linter.unusedSimpArgs false
set_option maxRecDepth 100000
set_option maxHeartbeats 4000000
namespace Fk
open Go Go.Proofs Go.RowKit
theorem made51 (m : Nat) (w : World) (hm : m < 2 ^ 20) : ∃ w', (Instr.makeSlice 51 (.int .i64 (m : Int)) (.int .i64 (m : Int))).run Try.prog w = .ok (.slice (some ⟨w.heap.size, 0, none⟩) m m) w' ∧ OwnL w' w.heap.size 5 1 b1 (some ⟨w.heap.size, 0, none⟩) m (List.replicate m 0) ∧ Md [] w w' := by
  have h5 : (Try.prog.info? 5).isSome = true := by kernel_rfl
  obtain ⟨i5, hi5⟩ := Option.isSome_iff_exists.1 h5
  have hz5 : (Try.prog.info? 5).bind (·.zero) = some (.int .u8 0) := by kernel_rfl
  have hs5 : (Try.prog.info? 5).map (fun i => (i.size, i.bytes)) = some (1, 1) := by kernel_rfl
  rw [hi5] at hz5 hs5
  simp only [Option.bind_some, Option.map_some, Option.some.injEq, Prod.mk.injEq] at hz5 hs5
  obtain ⟨w3, hrun, hown, hgr⟩ := run_makeSlice_full (P := Try.prog) w w.heap.size 51 5 i5 (.int .u8 0) 1 (by kernel_rfl) hi5 hz5 hs5.1 .i64 .i64 m (by omega) (by rw [hs5.2]; omega) (by simp [maxLen]; omega) (Nat.le_refl _)
  refine ⟨w3, hrun, ?_, Md_of_grown hgr⟩
  have hmc : (madeCells (Value.int .u8 0).cells (m * 1)).toList = (List.replicate m 0).flatMap b1 := by
    rw [nb1_map, List.map_replicate, Nat.mul_one]
    exact toList_madeCells_one _ m
  unfold OwnL
  rw [← hmc, List.length_replicate]; exact hown
theorem right_m {c : Cl} (hc : c.ok) (h : c.right = true) : 1 ≤ c.m ∧ c.m ≤ 256 := by
  rw [right_iff hc] at h
  unfold Cl.rightR at h
  simp only [Bool.and_eq_true, decide_eq_true_eq] at h
  exact ⟨h.1.1.1, h.1.1.2⟩
theorem first_b (c : Cl) (k : Int) : 0 ≤ (c.first k).1 ∧ (c.first k).1 < 256 := by
  unfold Cl.first
  split
  · split
    · exact ⟨by simp, by simp; omega⟩
    · simp
  · simp
theorem firsts_len (c : Cl) : c.firsts.length = c.m.toNat := by simp [Cl.firsts]
theorem firsts_get (c : Cl) {i : Nat} (h : i < c.firsts.length) : c.firsts[i] = (c.first i).1.toNat := by simp [Cl.firsts]
theorem firsts_lt (c : Cl) : ∀ x ∈ c.firsts, x < 256 := fun x hx => by
  simp only [Cl.firsts, List.mem_map] at hx
  obtain ⟨k, _, rfl⟩ := hx
  have := first_b c k
  omega
section
variable {L : List Nat} {wb w w' : World} {n m c nc tc : Nat} {a na ta : Option Addr} {B : List Rb} {nx tg : List Int}
theorem Ls.name {n0 : Nat} (h : Ls L wb w n m a c B na nc nx ta tc tg) (h0 : w.heap.size ≤ n0) (hm : Md [] w w') (hL : ∀ b ∈ n0 :: L, b < w'.heap.size) : Ls (n0 :: L) wb w' n m a c B na nc nx ta tc tg := by
  have h' := h.md0 hm
  have S := h'.S
  refine ⟨⟨S.blk, S.md, S.nlo, S.mlo, S.map, S.own, S.rows, S.nm, fun b hb => ?_⟩, h'.nx, h'.tg, h'.ap, fun b hb A hA => ?_, fun b hb A hA => ?_, fun p hp A hA b hb => ?_⟩
  · refine ⟨hL b hb, ?_⟩
    rcases List.mem_cons.1 hb with rfl | hb
    · exact ⟨by have := h.S.blk.lt; omega, by have := h.S.map.lt; omega, fun A hA => by have := (h.S.own.lt hA).2; omega⟩
    · exact (h.S.nl b hb).2
  · rcases List.mem_cons.1 hb with rfl | hb
    · have := (h.nx.lt hA).2; omega
    · exact h.l1 b hb A hA
  · rcases List.mem_cons.1 hb with rfl | hb
    · have := (h.tg.lt hA).2; omega
    · exact h.l2 b hb A hA
  · rcases List.mem_cons.1 hb with rfl | hb
    · have := ((h.S.rows p hp).lt hA).2; omega
    · exact h.l3 p hp A hA b hb
theorem Ls.lit (h : Ls L wb w n m a c B none 0 [] none 0 []) (x : Int) : Ls L wb (w.alloc (.cells #[.int .i64 x] 3)) n m a c B none 0 [] (some ⟨w.heap.size, 0, none⟩) 1 [x] := by
  have ma : Md [] w (w.alloc (.cells #[.int .i64 x] 3)) := Md.alloc w _
  have h' := h.md0 ma
  refine ⟨h'.S, h'.nx, OwnL.lit (P := Try.prog) (base := wb.heap.size) enci1 w 3 [x] #[.int .i64 x] h.S.md.size (by simp [maxLen]) rfl, (fun A B hA => by cases hA), h'.l1, fun b hb A hA => ?_, h'.l3⟩
  injection hA with hA; subst hA
  have := h.lt b hb
  simp; omega
end
def dmV (d : Dm) (na : Option Addr) (nc : Nat) (ta : Option Addr) (tc : Nat) : Value := .agg #[.int .i64 d.1, .slice na d.2.1.length nc, .slice ta d.2.2.length tc]
def DmOut (w w' : World) (r : Dm × Int) (v : Value) : Prop := (∃ na nc ta tc, v = .tuple #[dmV r.1 na nc ta tc, .int .i64 r.2] ∧ OwnL w' w.heap.size 3 1 i1 na nc r.1.2.1 ∧ OwnL w' w.heap.size 3 1 i1 ta tc r.1.2.2 ∧ Apt na ta) ∧ Md [] w w'
theorem DmOut.err {w w' : World} (e : Int) (h : Md [] w w') : DmOut w w' ((0, [], []), e) (.tuple #[.agg #[.int .i64 0, .slice none 0 0, .slice none 0 0], .int .i64 e]) :=
  ⟨⟨none, 0, none, 0, rfl, OwnL.nil _ _ _ _ _, OwnL.nil _ _ _ _ _, fun A B hA => by cases hA⟩, h⟩
theorem f67_ok (st : Int) (l : List Ns) (pa : Option Addr) (pc : Nat) (c : Cl) (hc : c.ok) (most : Int) (w : World) (hr : RowAt w pa 8 nsE l) (hl : l.length < 2 ^ 60) :
    Ct Try.prog 67 #[.agg #[.int .i64 st, .slice pa l.length pc], .agg c.v, .int .i64 most] w fun v w' => DmOut w w' (dBld st l c most) v := by
  apply f67_in
  intro n1 hn1 n2 hn2 n3 hn3 w4 h4 hL4
  have g4 : Good [n3, n2, n1] w w4 := ⟨h4, hL4⟩
  refine (f81_ok st l pa pc w4 (hr.md h4) hl).call hL4 ?_
  rintro v w6 rfl m6
  have g6 := g4.tr m6
  refine opB_in <| Bd_in fun b8 hb8 => ⟨fun _ => hc.size, ?_⟩
  refine Gd_to (fun b w' => (nfRight st l = true → b = fitsN c l) ∧ Good [n3, n2, n1] w w') (fun b14 w15 hJ => ?_) (fun fin hcn => ?_) (fun hcn => ⟨(fun h => by rw [hb8, h] at hcn; cases hcn), g6⟩)
  case refine_2 =>
    have hn : nfRight st l = true := by rw [hb8] at hcn; simpa using hcn
    have hlen := (okL_of_right hn).2.2.2.1
    refine (f166_ok c hc st l pa pc w6 (hr.md g6.1) hlen).call g6.2 ?_
    rintro v w12 rfl m12
    exact opB_in <| fin _ _ ⟨fun _ => rfl, g6.tr m12⟩
  obtain ⟨h14, g15⟩ := hJ
  refine Bd_in fun b16 hb16 => Bd_in fun b17 hb17 => Bd_in fun b18 hb18 => Bd_in fun b19 hb19 => Bd_in fun b20 hb20 => Bd_in fun b21 hb21 => ?_
  have e21 : b21 = true ↔ ¬ (nfRight st l = true ∧ fitsN c l = true ∧ 1 ≤ most ∧ most ≤ 5000) := by
    rw [hb21, hb20, hb19, hb18, hb17, hb16, hb8]
    cases hn : nfRight st l with
    | false => simp
    | true =>
      rw [h14 hn]
      cases fitsN c l with
      | false => simp
      | true =>
        by_cases c1 : most < 1
        · simp [c1]; try omega
        · by_cases c2 : most > 5000
          · simp [c1, c2]; try omega
          · simp [c1, c2]; try omega
  refine If_in (fun hb w22 h22 _ => ?_) fun hb => ?_
  · have : dBld st l c most = ((0, [], []), 2) := by unfold dBld; rw [if_neg (e21.1 hb)]
    rw [this]
    exact DmOut.err 2 (g15.1.old h22 (by simp; exact hn3))
  have hcond : nfRight st l = true ∧ fitsN c l = true ∧ 1 ≤ most ∧ most ≤ 5000 := Classical.byContradiction fun h => by have := e21.2 h; rw [hb] at this; cases this
  have ebld : dBld st l c most = (match dAll l most.toNat c.firsts (most.toNat + 1) 0 ([dst l [st]], []) with | none => ((0, [], []), 40) | some p => ((c.m, p.2, tagL l p.1), 0)) := by unfold dBld; rw [if_pos hcond] <;> cases dAll l most.toNat c.firsts (most.toNat + 1) 0 ([dst l [st]], []) <;> rfl
  rw [ebld]
  clear ebld
  obtain ⟨hright, hfit, hm1, hm2⟩ := hcond
  obtain ⟨hok, hst0, hst1, hlen, _⟩ := okL_of_right hright
  have hcr : c.right = true := by unfold fitsN at hfit; rw [Bool.and_eq_true] at hfit; exact hfit.2
  obtain ⟨cm1, cm2⟩ := right_m hc hcr
  refine BdO_in hc.many <| opI_in ?_
  have hcm : c.m = ((c.m.toNat : Nat) : Int) := by omega
  obtain ⟨w26, r26, o26, m26⟩ := made51 c.m.toNat w15 (by omega)
  rw [← hcm] at r26
  have l15 := g15.2
  refine RunW_in r26 (fun b hb => m26.blk b (l15 b hb) (by simp)) <| opL_in <| Bd_e rfl ?_
  have hfl := firsts_len c
  generalize hfa : (some (Addr.mk w15.heap.size 0 none)) = fa at *
  have hfab : ∀ A, fa = some A → A.block = w15.heap.size := fun A hA => by rw [← hfa] at hA; injection hA with hA; subst hA; rfl
  refine LoopP_in (fun mm us vs w' => ∃ (i : Nat) (xs : List Nat), us = [.int .i64 i] ∧ mm = c.m.toNat - i ∧ i ≤ c.m.toNat ∧ OwnL w' w15.heap.size 5 1 b1 fa c.m.toNat xs ∧ xs.length = c.m.toNat ∧ (∀ j, j < i → xs[j]? = c.firsts[j]?) ∧ Md [] w15 w') c.m.toNat
    ⟨0, List.replicate c.m.toNat 0, rfl, rfl, by omega, o26, by simp, fun j hj => by omega, m26⟩ ?_
  rintro mm us vs w34 ⟨i, xs, rfl, hmm, hi, o34, hxl, hxs, m34⟩
  have g34 : Good [n3, n2, n1] w w34 := g15.tr m34
  refine opI_in <| Bd_in fun b36 hb36 => If_in (fun hb => ?_) fun hb => ?_
  · have him : i < c.m.toNat := by rw [hb36] at hb; have : (i : Int) < (c.m.toNat : Int) := of_decide_eq_true hb
                                   omega
    refine ⟨hc.size, ?_⟩
    refine (f42_ok c hc i w34).call g34.2 ?_
    rintro v w38 rfl m38
    refine opTu_in <| opI_in <| opB_in <| SzIs_in rfl ?_
    have fb := first_b c i
    have o38 := o34.md m38
    have hix := (o38.row encb1).ix (i := i) (by omega)
    obtain ⟨A, hA, p1, p2, p3, p4, p5, p6⟩ := o38.put encb1 (by omega) (show i < xs.length by omega) (c.first i).1.toNat
    rw [hxl] at hix
    have m15_38 := m34.trans m38
    have eb : b1 (c.first i).1.toNat = [.int .u8 (c.first i).1] := by unfold b1; rw [Int.toNat_of_nonneg fb.1]
    rw [eb] at p5 p6
    have hAb := hfab A hA
    have hmem : ¬ Addr.block (adAt fa (i : Int) 1) ∈ [n3, n2, n1] := by
      rw [p3, hAb]
      intro hb
      have := l15 _ hb
      omega
    refine ⟨hix, hmem, p4, Bd_e (inc_i64 (by omega)) ⟨c.m.toNat - (i + 1), by omega, i + 1, xs.set i (c.first i).1.toNat, rfl, rfl, by omega, p5, by simpa using hxl, fun j hj => ?_, m15_38.old p6 (by simp; omega)⟩⟩
    by_cases hji : j = i
    · subst hji
      rw [List.getElem?_set_self (by omega), List.getElem?_eq_getElem (by omega), firsts_get]
    · rw [List.getElem?_set_ne (by omega)]
      exact hxs j (by omega)
  have him : i = c.m.toNat := by
    have : ¬ (i : Int) < (c.m.toNat : Int) := by rw [hb36] at hb; exact of_decide_eq_false hb
    omega
  subst him
  have hxf : xs = c.firsts := by
    apply List.ext_getElem?
    intro j
    by_cases hj : j < c.m.toNat
    · exact hxs j hj
    · rw [List.getElem?_eq_none (by omega), List.getElem?_eq_none (by omega)]
  subst hxf
  have hF := o34.row encb1
  have hr34 := hr.md g34.1
  refine Nw_i <| Nw_i <| Nw_i ?_
  have ma : Md [] w34 (w34.alloc (.map #[] 0)) := Md.alloc w34 _
  have hM0 : MapAt (w34.alloc (.map #[] 0)) w34.heap.size (fun s : ByteArray => .string s) (fun x : Int => .int .i64 x) [] := MapAt.new w34 _ _
  have hm43 := hM0.lt
  have sza := ma.size
  have g44 := g34.tr ma
  generalize hw44 : w34.alloc (.map #[] 0) = w44 at *
  have mb : Md [] w44 (w44.alloc (.cells #[.map (some w34.heap.size), .slice none 0 0] 221)) := Md.alloc w44 _
  have bb := Blk.new w44 #[.map (some w34.heap.size), .slice none 0 0] 221
  have hb45 := bb.lt
  have szb := mb.size
  have g46 := g44.tr mb
  generalize hw46 : w44.alloc (.cells #[.map (some w34.heap.size), .slice none 0 0] 221) = w46 at *
  have B46 : Bkp [n3, n2, n1] w34 w46 w44.heap.size w34.heap.size none 0 [] :=
    ⟨bb, ma.trans mb, by omega, Nat.le_refl _, hM0.md mb (by simp), OwnL.nil _ _ _ _ _, by simp, by omega, fun b hb => ⟨g46.2 b hb, by have := g44.2 b hb; omega, by have := g34.2 b hb; omega, fun A hA => by cases hA⟩⟩
  have S46 : Ls [n3, n2, n1] w34 w46 w44.heap.size w34.heap.size none 0 [] none 0 [] none 0 [] := ⟨B46, OwnL.nil _ _ _ _ _, OwnL.nil _ _ _ _ _, (fun A B hA => by cases hA), (fun b hb A hA => by cases hA), (fun b hb A hA => by cases hA), by simp⟩
  have mc : Md [] w46 (w46.alloc (.cells #[.int .i64 st] 3)) := Md.alloc w46 _
  have olc : OwnL (w46.alloc (.cells #[.int .i64 st] 3)) w46.heap.size 3 1 i1 (some ⟨w46.heap.size, 0, none⟩) 1 [st] := OwnL.lit (P := Try.prog) (base := w46.heap.size) enci1 w46 3 [st] #[.int .i64 st] (Nat.le_refl _) (by simp [maxLen]) rfl
  have S48 := S46.md0 mc
  have hb48 : ∀ b ∈ [n3, n2, n1], b < (w46.alloc (.cells #[.int .i64 st] 3)).heap.size := S48.lt
  have hin : ∀ x ∈ [st], 0 ≤ x ∧ x < l.length := by simp; omega
  refine (f167_ok st l pa _ pc 1 _ [st] _ (hr34.md S48.S.md) olc hok hlen (by simp) hin).call S48.lt ?_
  rintro v w50 ⟨A, C, rfl, own⟩ m50
  have S50 := S48.md0 m50
  have hdl : (dst l [st]).length = l.length := (dst_ok hok hin).1
  refine opL_in <| (f169_ok (dst l [st]) A C _ (by omega) w50 own).call S50.lt ?_
  rintro v w55 rfl m55
  have S55 := S50.md0 m55
  refine opStr_in ?_
  refine S55.placeU (dst l [st]) A C _ (own.md m55) S48.S.md.size hb48 (by simp) (by simp) ?_
  intro x60 b61 a' c' B' w58 S58 hcase
  obtain ⟨rfl, rfl, rfl⟩ : b61 = true ∧ B' = [⟨A, C, dst l [st]⟩] ∧ x60 = 0 := by
    rcases hcase with ⟨_, _, k, h1, _⟩ | ⟨h1, h2, _, h3⟩
    · simp [idxB] at h1
    · exact ⟨h1, by simpa using h2, by simpa using h3⟩
  have Sq := S58.md0 (Md_drew w58)
  have hrow : ∀ {L : List Nat} {w' : World} {n m : Nat} {a na ta : Option Addr} {c nc tc : Nat} {nx tg : List Int}, Ls L w34 w' n m a c [⟨A, C, dst l [st]⟩] na nc nx ta tc tg → RowAt w' A 1 bE (dst l [st]) := fun h => (h.S.rows ⟨A, C, dst l [st]⟩ (by simp)).row encbE
  have call170 := fun {L : List Nat} {w' : World} {n m : Nat} {a na ta : Option Addr} {c nc tc : Nat} {nx tg : List Int} (h : Ls L w34 w' n m a c [⟨A, C, dst l [st]⟩] na nc nx ta tc tg) {K : Value → World → Prop} (hk : ∀ v w'', v = .int .i64 (tagF (dst l [st]) l (-1)) → Md [] w' w'' → K v w'') =>
    (f170_ok st l pa A pc C (dst l [st]) w' (hr34.md h.S.md) (hrow h) hdl hlen).call h.lt (K := K) hk
  have h0 : Md [] w w34 := g34.1
  have loop := fun {n69 n m nt : Nat} {a0 : Option Addr} {c0 : Nat} {w' : World} (hn69 : w34.heap.size ≤ n69) (S : Ls [n69, n3, n2, n1] w34 w' n m a0 c0 [⟨A, C, dst l [st]⟩] none 0 [] (some ⟨nt, 0, none⟩) 1 [tagF (dst l [st]) l (-1)]) =>
    l67_ok (p0 := ⟨A, C, dst l [st]⟩) st l pa pc fa c.firsts c.m most hr34 hok hlen hF (firsts_lt c) (by omega) hm1 hm2 h0 hn3 hn69 hdl S
      (R := fun v w' => DmOut w w' (match dAll l most.toNat c.firsts (most.toNat + 1) 0 ([dst l [st]], []) with | none => ((0, [], []), 40) | some p => ((c.m, p.2, tagL l p.1), 0)) v)
      (fun e w' hm => by simp only at e; rw [e]; exact DmOut.err 40 hm)
      (fun p na nc ta tc w' e o1 o2 ap hm => by simp only at e; rw [e]; exact ⟨⟨na, nc, ta, tc, rfl, o1.down h0.size, o2.down h0.size, ap⟩, hm⟩)
  rw [hfl] at loop
  have lo58 : ∀ {w' : World}, Md [] w34 w' → ∀ n, w'.heap.size ≤ n → w34.heap.size ≤ n := fun hm n hn => by have := hm.size; omega
  refine BdO_in hc.many <| opI_in ⟨?_, ?_⟩
  · refine call170 Sq fun v w65 e m65 => ?_
    subst e
    have S65 := Sq.md0 m65
    refine opI_in ⟨Nw_i ?_, ?_⟩
    · intro n69 hn69 w70 m70 hL70 w71 m71 hL71
      have S70 := (S65.lit (tagF (dst l [st]) l (-1))).name hn69 m70 hL70
      have hlo := lo58 (S65.lit (tagF (dst l [st]) l (-1))).S.md n69 hn69
      exact loop hlo (S70.mdL (by simp) hlo m71)
    · intro n69 hn69 w70 m70 hL70
      have hlo := lo58 S65.S.md n69 hn69
      have S70 := (S65.name hn69 m70 hL70).lit (tagF (dst l [st]) l (-1))
      exact Nw_i fun w71 m71 hL71 => loop hlo (S70.mdL (by simp) hlo m71)
  · intro n69 hn69 w70 m70 hL70
    have hlo := lo58 Sq.S.md n69 hn69
    refine call170 (Sq.name hn69 m70 hL70) fun v w65 e m65 => ?_
    subst e
    have S70 := ((Sq.name hn69 m70 hL70).md0 m65).lit (tagF (dst l [st]) l (-1))
    exact opI_in <| Nw_i fun w71 m71 hL71 => loop hlo (S70.mdL (by simp) hlo m71)
end Fk
set_option linter.unusedVariables false
set_option linter.unusedSimpArgs false
set_option maxRecDepth 100000
set_option maxHeartbeats 4000000
namespace Fk
open Go Go.Proofs Go.RowKit
def dNext (dm : Int) (nx : List Int) (at' x : Int) : Int := if 0 ≤ at' then nx.getD (at' * dm + x).toNat (-1) else at'
def dTag (tg : List Int) (a : Int) : Int := if 0 ≤ a then tg.getD a.toNat (-1) else -1
def dGo (dm : Int) (nx tg : List Int) : List Int → Int → List Int
  | [], _ => []
  | x :: xs, a => dTag tg (dNext dm nx a x) :: dGo dm nx tg xs (dNext dm nx a x)
def inCs (dm : Int) (cs : List Int) : Bool := cs.all fun x => decide (0 ≤ x ∧ x < dm)
def dRun (dm : Int) (nx tg cs : List Int) : List Int × Int := if dRight dm nx tg = true ∧ inCs dm cs = true then (dTag tg 0 :: dGo dm nx tg cs 0, 0) else ([], 2)
def rowOut (w w' : World) (r : List Int × Int) (v : Value) : Prop := (∃ (a : Option Addr) (c : Nat), v = .tuple #[.slice a r.1.length c, .int .i64 r.2] ∧ OwnL w' w.heap.size 3 1 i1 a c r.1) ∧ Md [] w w'
structure DrOk (dm : Int) (nx tg : List Int) : Prop where
  m1 : 1 ≤ dm
  m2 : dm ≤ 256
  t1 : 1 ≤ tg.length
  t2 : tg.length ≤ 5000
  nl : (nx.length : Int) = dm * tg.length
  tag : ∀ x ∈ tg, -1 ≤ x ∧ x < 200
  nxt : ∀ x ∈ nx, -1 ≤ x ∧ x < tg.length
theorem drOk {dm : Int} {nx tg : List Int} (h : dRight dm nx tg = true) : DrOk dm nx tg := by
  simp only [dRight, Bool.and_eq_true, decide_eq_true_eq, List.all_eq_true] at h
  exact ⟨h.1.1.1, h.1.1.2.1, h.1.1.2.2.1, h.1.1.2.2.2.1, h.1.1.2.2.2.2, h.1.2, h.2⟩
theorem DrOk.ix {dm : Int} {nx tg : List Int} (h : DrOk dm nx tg) {a x : Int} (h1 : 0 ≤ a) (h2 : a < tg.length) (h3 : 0 ≤ x) (h4 : x < dm) : 0 ≤ a * dm + x ∧ a * dm + x < nx.length ∧ a * dm ≤ 2000000 ∧ 0 ≤ a * dm := by
  have hm1 := h.m1
  have hm2 := h.m2
  have ht2 := h.t2
  have e1 : 0 ≤ a * dm := Int.mul_nonneg h1 (by omega)
  have e2 : (a + 1) * dm ≤ tg.length * dm := Int.mul_le_mul_of_nonneg_right (by omega) (by omega)
  have e3 : (a + 1) * dm = a * dm + dm := by rw [Int.add_mul, Int.one_mul]
  have e4 : (tg.length : Int) * dm = dm * tg.length := Int.mul_comm _ _
  have e5 : dm * (tg.length : Int) ≤ 256 * 5000 := Int.mul_le_mul hm2 (by omega) (by omega) (by omega)
  have := h.nl
  omega
theorem DrOk.next {dm : Int} {nx tg : List Int} (h : DrOk dm nx tg) {a x : Int} (h2 : a < tg.length) (h3 : 0 ≤ x) (h4 : x < dm) : dNext dm nx a x < tg.length := by
  unfold dNext
  split
  · rename_i h1
    obtain ⟨q1, q2, _⟩ := h.ix h1 h2 h3 h4
    have hlt : (a * dm + x).toNat < nx.length := by omega
    rw [List.getD_eq_getElem?_getD, List.getElem?_eq_getElem hlt]
    exact (h.nxt _ (List.getElem_mem hlt)).2
  · exact h2
theorem f203_ok (N : List Bool) (a : Option Addr) (c : Nat) (w : World) (h : RowAt w a 1 bE N) (hl : N.length < 2 ^ 40) : Ct Try.prog 203 #[.slice a N.length c] w fun v w' => v = .bool (N.any id) ∧ Md [] w w' := by
  apply f203_in
  refine LoopP_in (fun mm us vs w' => ∃ (i : Nat), us = [.bool false, .int .i64 i] ∧ mm = N.length - i ∧ i ≤ N.length ∧ N.any id = (N.drop i).any id ∧ w' = w) N.length ⟨0, rfl, rfl, by omega, rfl, rfl⟩ ?_
  rintro mm us vs w4 ⟨i, rfl, hmm, hi, he, rfl⟩
  refine opB_in <| opI_in <| Bd_e rfl <| Bd_in fun b8 hb8 => If_in (fun hb => ?_) fun hb => ?_
  · have hil : i < N.length := by rw [hb8] at hb; have : (i : Int) < (N.length : Int) := of_decide_eq_true hb
                                  omega
    rw [List.drop_eq_getElem_cons hil, List.any_cons] at he
    refine ⟨h.ix hil, h.ld1 hil rfl <| opB_in <| If_in (fun hz => ?_) fun hz => ?_⟩
    · rw [he, hz]; exact ⟨rfl, Md.refl _ _⟩
    · exact Bd_e (inc_i64 (by omega)) ⟨N.length - (i + 1), by omega, i + 1, rfl, rfl, by omega, by rw [he, hz]; rfl, rfl⟩
  · have hil : i = N.length := by
      have : ¬ (i : Int) < (N.length : Int) := by rw [hb8] at hb; exact of_decide_eq_false hb
      omega
    subst hil
    rw [List.drop_of_length_le (Nat.le_refl _)] at he
    rw [he]
    exact ⟨rfl, Md.refl _ _⟩
theorem f204_ok (N M : List Bool) (a a2 : Option Addr) (c c2 : Nat) (w : World) (h : RowAt w a 1 bE N) (h2 : RowAt w a2 1 bE M) (he : M.length = N.length) (hl : N.length < 2 ^ 40) : Ct Try.prog 204 #[.slice a N.length c, .slice a2 M.length c2] w fun v w' => v = .bool (decide (N = M)) ∧ Md [] w w' := by
  apply f204_in
  refine LoopP_in (fun mm us vs w' => ∃ (i : Nat), us = [.bool false, .int .i64 i] ∧ mm = N.length - i ∧ i ≤ N.length ∧ (N = M ↔ N.drop i = M.drop i) ∧ Md [] w w') N.length ⟨0, rfl, rfl, by omega, by simp, Md.refl _ _⟩ ?_
  rintro mm us vs w4 ⟨i, rfl, hmm, hi, hs, hm⟩
  refine opB_in <| opI_in <| Bd_e rfl <| Bd_in fun b8 hb8 => If_in (fun hb => ?_) fun hb => ?_
  · have hil : i < N.length := by rw [hb8] at hb; have : (i : Int) < (N.length : Int) := of_decide_eq_true hb
                                  omega
    have hil2 : i < M.length := by omega
    rw [List.drop_eq_getElem_cons hil, List.drop_eq_getElem_cons hil2, List.cons.injEq] at hs
    have md := hm.trans (Md_drew w4)
    refine ⟨fun w' => Md [] w w', md, h.ix hil, ?_⟩
    show ∃ v, _ ∧ _
    refine ⟨_, fun w' hm => (h.md hm).ld1 hil rfl rfl, opB_in ⟨h2.ix hil2, ?_⟩⟩
    show ∃ v, _ ∧ _
    refine ⟨_, fun w' hm => (h2.md hm).ld1 hil2 rfl rfl, opB_in <| Bd_in fun b20 hb20 => If_in (fun hz => ?_) fun hz => ?_⟩
    · have : ¬ N = M := fun e => by
        have := (hs.1 e).1
        rw [hb20, this] at hz
        revert hz
        cases M[i] <;> simp
      rw [decide_eq_false this]
      exact ⟨rfl, md⟩
    · have hee : N[i] = M[i] := by
        rw [hb20] at hz
        revert hz
        cases N[i] <;> cases M[i] <;> simp
      exact Bd_e (inc_i64 (by omega)) ⟨N.length - (i + 1), by omega, i + 1, rfl, rfl, by omega, by rw [hs]; simp [hee], md⟩
  · have hil : i = N.length := by
      have : ¬ (i : Int) < (N.length : Int) := by rw [hb8] at hb; exact of_decide_eq_false hb
      omega
    subst hil
    rw [List.drop_of_length_le (Nat.le_refl _), List.drop_of_length_le (by omega)] at hs
    rw [decide_eq_true (hs.2 rfl)]
    exact ⟨rfl, hm⟩
theorem dRun_bad {w w' : World} {dm : Int} {nx tg cs : List Int} (hno : ¬ (dRight dm nx tg = true ∧ inCs dm cs = true)) (hm : Md [] w w') : rowOut w w' (dRun dm nx tg cs) (.tuple #[.slice none 0 0, .int .i64 2]) := by
  have e : dRun dm nx tg cs = ([], 2) := by unfold dRun; rw [if_neg hno]
  rw [e]
  exact ⟨⟨none, 0, rfl, OwnL.nil _ _ _ _ _⟩, hm⟩
theorem f70_ok (dm : Int) (nx tg cs : List Int) (na ta ca : Option Addr) (nc tc cc : Nat) (w : World) (h1 : RowAt w na 1 i1 nx) (h2 : RowAt w ta 1 i1 tg) (h3 : RowAt w ca 1 i1 cs) (hl1 : nx.length < 2 ^ 63) (hl2 : tg.length < 2 ^ 63) (hl3 : cs.length < 2 ^ 30) :
    Ct Try.prog 70 #[.agg #[.int .i64 dm, .slice na nx.length nc, .slice ta tg.length tc], .slice ca cs.length cc] w fun v w' => rowOut w w' (dRun dm nx tg cs) v := by
  apply f70_in
  intro n1 hn1 w2 m2 hL2
  refine (f72_ok dm nx tg na ta nc tc w2 (h1.md m2) (h2.md m2) hl1 hl2).call hL2 ?_
  rintro v w4 rfl m4
  have m24 := m2.trans m4
  have l4 : n1 < w4.heap.size := by have := hL2 n1 (by simp); have := m4.size; omega
  refine opB_in ?_
  refine LoopP_in (fun mm us vs w' => ∃ (i : Nat), us = [.bool (dRight dm nx tg && inCs dm (cs.take i)), .int .i64 i] ∧ mm = cs.length - i ∧ i ≤ cs.length ∧ Md [] w4 w') cs.length ⟨0, by simp [inCs], rfl, by omega, Md.refl _ _⟩ ?_
  rintro mm us vs w9 ⟨i, rfl, hmm, hi, m9⟩
  have mw9 := m24.trans m9
  refine opB_in <| opI_in <| Bd_e rfl <| Bd_in fun b13 hb13 => Bd_in fun b14 hb14 => If_in (fun hb => ?_) fun hb => ?_
  · have hbb : i < cs.length ∧ (dRight dm nx tg && inCs dm (cs.take i)) = true := by
      rw [hb14, hb13] at hb
      by_cases hc : (i : Int) < (cs.length : Int)
      · simp only [hc, decide_true, cond_true] at hb; exact ⟨by omega, hb⟩
      · simp [hc] at hb
    obtain ⟨hil, hgo⟩ := hbb
    have mdd := mw9.trans (Md_drew w9)
    refine ⟨fun w' => Md [] w w', mdd, h3.ix hil, ?_⟩
    show ∃ v, _ ∧ _
    refine ⟨_, fun w' hm => (h3.md hm).ld1 hil rfl rfl, opI_in <| Bd_in fun b21 hb21 => ⟨fun _ => h3.ix hil, ?_⟩⟩
    show ∃ v, _ ∧ _
    refine ⟨_, fun _ w' hm => (h3.md hm).ld1 hil rfl rfl, Bd_in fun b28 hb28 => Bd_in fun b29 hb29 => Bd_e (inc_i64 (by omega)) ⟨cs.length - (i + 1), by omega, i + 1, ?_, rfl, by omega, m9.trans (Md_drew w9)⟩⟩
    have hgo' := hgo
    have : inCs dm (cs.take (i + 1)) = (inCs dm (cs.take i) && decide (0 ≤ cs[i] ∧ cs[i] < dm)) := by
      unfold inCs
      rw [List.take_succ_eq_append_getElem hil, List.all_append]; simp
    rw [Bool.and_eq_true] at hgo
    rw [this, hgo.1, hgo.2, hb29, hb28, hb21]
    by_cases c1 : cs[i] ≥ 0
    · by_cases c2 : cs[i] < dm
      · simp [c1, c2]
      · simp [c1, c2]
    · have : ¬ (0 : Int) ≤ cs[i] := c1
      simp [this]
  · refine Bd_in fun b31 hb31 => If_in (fun hz => ?_) fun hz => ?_
    · refine dRun_bad (fun h => ?_) mw9
      rw [hb31, h.1] at hz
      have : inCs dm (cs.take i) = true := by
        unfold inCs
        rw [List.all_eq_true]
        intro x hx
        have := h.2
        unfold inCs at this
        rw [List.all_eq_true] at this
        exact this x (List.mem_of_mem_take hx)
      rw [this] at hz
      simp at hz
    have hgo : (dRight dm nx tg && inCs dm (cs.take i)) = true := by rw [hb31] at hz; simpa using hz
    have hil : i = cs.length := by
      rw [hb14, hb13, hgo] at hb
      by_cases hc : (i : Int) < (cs.length : Int)
      · simp [hc] at hb
      · omega
    subst hil
    rw [List.take_length, Bool.and_eq_true] at hgo
    have D := drOk hgo.1
    have e : dRun dm nx tg cs = (dTag tg 0 :: dGo dm nx tg cs 0, 0) := by unfold dRun; rw [if_pos hgo]
    rw [e]
    have ht1 := D.t1
    have hcs : ∀ x ∈ cs, 0 ≤ x ∧ x < dm := fun x hx => by
      have := hgo.2
      unfold inCs at this
      rw [List.all_eq_true] at this
      exact of_decide_eq_true (this x hx)
    have h0t : (0 : Nat) < tg.length := by omega
    have mdd := mw9.trans (Md_drew w9)
    refine ⟨fun w' => Md [] w w', mdd, h2.ix h0t, ?_⟩
    show ∃ v, _ ∧ _
    refine ⟨_, fun w' hm => (h2.md hm).ld1 h0t rfl rfl, opI_in ?_⟩
    have et : tg[0] = dTag tg 0 := by unfold dTag; rw [if_pos (by omega), List.getD_eq_getElem?_getD, show ((0 : Int).toNat) = 0 from rfl, List.getElem?_eq_getElem h0t]; rfl
    rw [et]
    refine Nw_i ⟨mdd.trans (Md.alloc _ _), Bd_e rfl ?_⟩
    have ma : Md [] w9.drew (w9.drew.alloc (.cells #[.int .i64 (dTag tg 0)] 3)) := Md.alloc _ _
    have ol := OwnL.lit (P := Try.prog) (base := w9.drew.heap.size) enci1 w9.drew 3 [dTag tg 0] #[.int .i64 (dTag tg 0)] (Nat.le_refl _) (by simp [maxLen]) rfl
    have l9 : n1 < w9.drew.heap.size := by have := m9.size; show n1 < w9.heap.size; omega
    have mwa := mdd.trans ma
    generalize hwa : w9.drew.alloc (.cells #[.int .i64 (dTag tg 0)] 3) = wa at *
    generalize hbs : w9.drew.heap.size = bs at *
    have hbsw : w.heap.size ≤ bs := by rw [← hbs]; exact mdd.size
    have hbsa : bs ≤ wa.heap.size := by have := (ol.lt rfl).2; simp only at this; omega
    refine LoopP_in (fun mm us vs w' => ∃ (i : Nat) (at' : Int) (a : Option Addr) (c : Nat) (out : List Int), us = [.int .i64 at', .slice a out.length c, .int .i64 i] ∧ mm = cs.length - i ∧ i ≤ cs.length ∧ at' < tg.length ∧ out.length = i + 1 ∧ out ++ dGo dm nx tg (cs.drop i) at' = dTag tg 0 :: dGo dm nx tg cs 0 ∧ OwnL w' bs 3 1 i1 a c out ∧ bs ≤ w'.heap.size ∧ Md [] w w') cs.length
      ⟨0, 0, _, 1, [dTag tg 0], rfl, rfl, by omega, by omega, rfl, rfl, ol, hbsa, mwa⟩ ?_
    rintro mm us vs w44 ⟨i, at', a, c, out, rfl, hmm, hi, hat, hol, ho, own, hbs44, m44⟩
    refine opI_in <| opL_in <| opI_in <| Bd_in fun b50 hb50 => If_in (fun hb => ?_) fun hb => ?_
    case refine_2 =>
      have hil : i = cs.length := by
        have : ¬ (i : Int) < (cs.length : Int) := by rw [hb50] at hb; exact of_decide_eq_false hb
        omega
      subst hil
      rw [List.drop_of_length_le (Nat.le_refl _)] at ho
      rw [show dGo dm nx tg [] at' = [] from rfl, List.append_nil] at ho
      rw [← ho]
      exact ⟨⟨a, c, rfl, own.down hbsw⟩, m44⟩
    have hil : i < cs.length := by rw [hb50] at hb; have : (i : Int) < (cs.length : Int) := of_decide_eq_true hb
                                   omega
    rw [List.drop_eq_getElem_cons hil] at ho
    have hx := hcs _ (List.getElem_mem hil)
    refine ⟨h3.ix hil, (h3.md m44).ld1 hil rfl <| opI_in ?_⟩
    generalize cs[i] = x at *
    have hnt := D.next hat hx.1 hx.2
    refine Jn_in (fun us vs w' => us = [.int .i64 (dNext dm nx at' x)] ∧ w' = w44) ?_ ?_
    · rintro us vs w55 ⟨rfl, rfl⟩
      refine opI_in <| Jn_in (fun us vs w' => us = [.int .i64 (dTag tg (dNext dm nx at' x))] ∧ w' = w55) ?_ ?_
      · rintro us vs w59 ⟨rfl, rfl⟩
        refine opI_in <| app_one rowT52 enci1 _ rfl own hbs44 (by simp; omega) (fun b hb A hA => by simp at hb; subst hb; have := (own.lt hA).1; omega) (by simp [maxLen]; omega) (by omega) fun a' c' w' o m hA' => opL_in <| Bd_e (inc_i64 (by omega)) ?_
        exact ⟨cs.length - (i + 1), by omega, i + 1, dNext dm nx at' x, a', c', out ++ [dTag tg (dNext dm nx at' x)], rfl, rfl, by omega, hnt, by simp; omega, by rw [← ho]; simp [dGo], o, by have := m.size; omega, m44.old m fun d hd => by obtain ⟨A, hA, rfl⟩ := mem_blk hd; have := (own.lt hA).1; omega⟩
      · refine Bd_in fun b70 hb70 => If_in (fun hb => ?_) fun hb => ?_
        · have h0 : 0 ≤ dNext dm nx at' x := by rw [hb70] at hb; simpa using hb
          obtain ⟨k, hk⟩ := Int.eq_ofNat_of_zero_le h0
          have hkl : k < tg.length := by omega
          rw [hk]
          refine ⟨h2.ix hkl, (h2.md m44).ld1 hkl rfl <| opI_in ⟨?_, rfl⟩⟩
          unfold dTag
          rw [if_pos (by omega), Int.toNat_natCast, List.getD_eq_getElem?_getD, List.getElem?_eq_getElem hkl]; rfl
        · have h0 : ¬ 0 ≤ dNext dm nx at' x := by rw [hb70] at hb; simpa using hb
          refine ⟨?_, rfl⟩
          unfold dTag
          rw [if_neg h0]
    · refine Bd_in fun b74 hb74 => If_in (fun hb => ?_) fun hb => ?_
      · have h0 : 0 ≤ at' := by rw [hb74] at hb; simpa using hb
        obtain ⟨q1, q2, q3, q4⟩ := D.ix h0 hat hx.1 hx.2
        have hm2 := D.m2
        refine Bd_e (y := at' * dm) (by rw [IntKind.wrap_i64]; omega) <| Bd_e (y := (((at' * dm + x).toNat : Nat) : Int)) (by rw [IntKind.wrap_i64]; omega) ?_
        have hk : (at' * dm + x).toNat < nx.length := by omega
        refine ⟨h1.ix hk, (h1.md m44).ld1 hk rfl <| opI_in ⟨?_, rfl⟩⟩
        unfold dNext
        rw [if_pos h0, List.getD_eq_getElem?_getD, List.getElem?_eq_getElem hk]; rfl
      · have h0 : ¬ 0 ≤ at' := by rw [hb74] at hb; simpa using hb
        refine ⟨?_, rfl⟩
        unfold dNext
        rw [if_neg h0]
theorem f132_ok (dm : Int) (nx tg cs : List Int) (na ta ca : Option Addr) (nc tc cc : Nat) (w : World) (h1 : RowAt w na 1 i1 nx) (h2 : RowAt w ta 1 i1 tg) (h3 : RowAt w ca 1 i1 cs) (hl1 : nx.length < 2 ^ 63) (hl2 : tg.length < 2 ^ 63) (hl3 : cs.length < 2 ^ 30) :
    Ct Try.prog 132 #[.agg #[.int .i64 dm, .slice na nx.length nc, .slice ta tg.length tc], .slice ca cs.length cc] w fun v w' => rowOut w w' (dRun dm nx tg cs) v := by
  apply f132_in
  intro n1 hn1 w2 m2 hL2
  refine (f133_ok dm nx tg na ta nc tc w2 (h1.md m2) (h2.md m2) hl1 hl2).call hL2 ?_
  rintro v w4 rfl m4
  have m24 := m2.trans m4
  have l4 : n1 < w4.heap.size := by have := hL2 n1 (by simp); have := m4.size; omega
  refine opB_in <| Bd_in fun b6 hb6 => If_in (fun hb => ?_) fun hb => ?_
  · exact dRun_bad (fun h => by rw [hb6, h.1] at hb; simp at hb) m24
  have hright : dRight dm nx tg = true := by rw [hb6] at hb; simpa using hb
  have D := drOk hright
  have ht1 := D.t1
  have h0t : (0 : Nat) < tg.length := by omega
  have et : tg[0] = dTag tg 0 := by unfold dTag; rw [if_pos (by omega), List.getD_eq_getElem?_getD, show ((0 : Int).toNat) = 0 from rfl, List.getElem?_eq_getElem h0t]; rfl
  refine ⟨h2.ix h0t, (h2.md m24).ld1 h0t rfl <| opI_in <| Nw_i ?_⟩
  rw [et]
  have ma : Md [] w4 (w4.alloc (.cells #[.int .i64 (dTag tg 0)] 3)) := Md.alloc _ _
  have ol := OwnL.lit (P := Try.prog) (base := w4.heap.size) enci1 w4 3 [dTag tg 0] #[.int .i64 (dTag tg 0)] (Nat.le_refl _) (by simp [maxLen]) rfl
  have mwa := m24.trans ma
  generalize hwa : w4.alloc (.cells #[.int .i64 (dTag tg 0)] 3) = wa at *
  have hbsw : w.heap.size ≤ w4.heap.size := m24.size
  generalize hbs : w4.heap.size = bs at *
  have hbsa : bs ≤ wa.heap.size := by have := (ol.lt rfl).2; simp only at this; omega
  refine LoopP_in (fun mm us vs w' => ∃ (i : Nat) (x1 at' : Int) (a : Option Addr) (c : Nat) (out : List Int), us = [.slice none 0 0, .int .i64 x1, .int .i64 at', .slice a out.length c, .int .i64 i] ∧ mm = cs.length - i ∧ i ≤ cs.length ∧ at' < tg.length ∧ out.length = i + 1 ∧ (∀ x ∈ cs.take i, 0 ≤ x ∧ x < dm) ∧ out ++ dGo dm nx tg (cs.drop i) at' = dTag tg 0 :: dGo dm nx tg cs 0 ∧ OwnL w' bs 3 1 i1 a c out ∧ bs ≤ w'.heap.size ∧ Md [] w w') cs.length
    ⟨0, 0, 0, _, 1, [dTag tg 0], rfl, rfl, by omega, by omega, rfl, by simp, rfl, ol, hbsa, mwa⟩ ?_
  rintro mm us vs w14 ⟨i, x1, at', a, c, out, rfl, hmm, hi, hat, hol, hpre, ho, own, hbs44, m14⟩
  refine opL_in <| opI_in <| opI_in <| opL_in <| opI_in <| Bd_e rfl <| Bd_in fun b25 hb25 => If_in (fun hb => ?_) fun hb => ?_
  case refine_2 =>
    have hil : i = cs.length := by
      have : ¬ (i : Int) < (cs.length : Int) := by rw [hb25] at hb; exact of_decide_eq_false hb
      omega
    subst hil
    rw [List.take_length] at hpre
    have e : dRun dm nx tg cs = (dTag tg 0 :: dGo dm nx tg cs 0, 0) := by unfold dRun; rw [if_pos ⟨hright, by unfold inCs; rw [List.all_eq_true]; exact fun x hx => decide_eq_true (hpre x hx)⟩]
    rw [e]
    rw [List.drop_of_length_le (Nat.le_refl _)] at ho
    rw [show dGo dm nx tg [] at' = [] from rfl, List.append_nil] at ho
    rw [← ho]
    exact ⟨⟨a, c, rfl, own.down hbsw⟩, m14⟩
  have hil : i < cs.length := by rw [hb25] at hb; have : (i : Int) < (cs.length : Int) := of_decide_eq_true hb
                                 omega
  have hbad : ¬ (0 ≤ cs[i] ∧ cs[i] < dm) → ¬ (dRight dm nx tg = true ∧ inCs dm cs = true) := fun h1 h2 => by
    have := h2.2
    unfold inCs at this
    rw [List.all_eq_true] at this
    exact h1 (of_decide_eq_true (this _ (List.getElem_mem hil)))
  have hnextpre : (0 ≤ cs[i] ∧ cs[i] < dm) → ∀ x ∈ cs.take (i + 1), 0 ≤ x ∧ x < dm := fun h x hx => by
    rw [List.take_succ_eq_append_getElem hil] at hx
    rcases List.mem_append.1 hx with hx | hx
    · exact hpre x hx
    · simp at hx; rw [hx]; exact h
  rw [List.drop_eq_getElem_cons hil] at ho
  refine Jn_in (fun us vs w' => ∃ (x1 at' : Int) (a : Option Addr) (c : Nat) (out : List Int), us = [.slice none 0 0, .int .i64 x1, .int .i64 at', .slice a out.length c] ∧ at' < tg.length ∧ out.length = i + 2 ∧ (∀ x ∈ cs.take (i + 1), 0 ≤ x ∧ x < dm) ∧ out ++ dGo dm nx tg (cs.drop (i + 1)) at' = dTag tg 0 :: dGo dm nx tg cs 0 ∧ OwnL w' bs 3 1 i1 a c out ∧ bs ≤ w'.heap.size ∧ Md [] w w') ?_ ?_
  · rintro us vs w28 ⟨x1, at', a, c, out, rfl, q1, q2, q3, q4, q5, q6, q7⟩
    exact opL_in <| opI_in <| opI_in <| opL_in <| Bd_e (inc_i64 (by omega)) ⟨cs.length - (i + 1), by omega, i + 1, x1, at', a, c, out, rfl, rfl, by omega, q1, by omega, q3, q4, q5, q6, q7⟩
  have mdd := m14.trans (Md_drew w14)
  refine ⟨fun w' => Md [] w w', mdd, h3.ix hil, ?_⟩
  show ∃ v, _ ∧ _
  refine ⟨_, fun w' hm => (h3.md hm).ld1 hil rfl rfl, opI_in <| Bd_in fun b45 hb45 => ⟨fun _ => h3.ix hil, ?_⟩⟩
  show ∃ v, _ ∧ _
  refine ⟨_, fun _ w' hm => (h3.md hm).ld1 hil rfl rfl, Bd_in fun b52 hb52 => Bd_in fun b53 hb53 => If_in (fun hz => ?_) fun hz => ?_⟩
  · refine dRun_bad (hbad fun h => ?_) mdd
    rw [hb53, hb52, hb45] at hz
    have c1 : ¬ cs[i] < 0 := by omega
    have c2 : ¬ cs[i] ≥ dm := by omega
    simp [c1] at hz
    omega
  have hx : 0 ≤ cs[i] ∧ cs[i] < dm := by
    rw [hb53, hb52, hb45] at hz
    by_cases c1 : cs[i] < 0
    · simp [c1] at hz
    · simp [c1] at hz
      omega
  have hpre' := hnextpre hx
  clear hnextpre hbad
  have hrd := fun (w' : World) (hm : Md [] w w') => (h3.md hm).ld1 (K := fun v => v = .int .i64 cs[i]) hil rfl rfl
  generalize hxe : cs[i] = x at *
  have hnt := D.next hat hx.1 hx.2
  refine Jn_in (fun us vs w' => us = [.int .i64 (dNext dm nx at' x)] ∧ Md [] w w' ∧ OwnL w' bs 3 1 i1 a c out ∧ bs ≤ w'.heap.size) ?_ ?_
  · rintro us vs w56 ⟨rfl, m56, own56, hbs56⟩
    have fin : ∀ t, t = dTag tg (dNext dm nx at' x) → ∀ a' c' w', OwnL w' bs 3 1 i1 a' c' (out ++ [t]) → Md (a.map (·.block)).toList w56 w' → ∃ (x1q at'' : Int) (a : Option Addr) (c : Nat) (out' : List Int), [Value.slice none 0 0, .int .i64 x1, .int .i64 (dNext dm nx at' x), .slice a' (out ++ [t]).length c'] = [.slice none 0 0, .int .i64 x1q, .int .i64 at'', .slice a out'.length c] ∧ at'' < tg.length ∧ out'.length = i + 2 ∧ (∀ x ∈ cs.take (i + 1), 0 ≤ x ∧ x < dm) ∧ out' ++ dGo dm nx tg (cs.drop (i + 1)) at'' = dTag tg 0 :: dGo dm nx tg cs 0 ∧ OwnL w' bs 3 1 i1 a c out' ∧ bs ≤ w'.heap.size ∧ Md [] w w' := fun t et a' c' w' o m => by
      subst et
      exact ⟨x1, _, a', c', out ++ [dTag tg (dNext dm nx at' x)], rfl, hnt, by simp; omega, hpre', by rw [← ho]; simp [dGo], o, by have := m.size; omega, m56.old m fun d hd => by obtain ⟨A, hA, rfl⟩ := mem_blk hd; have := (own56.lt hA).1; omega⟩
    have l56 : ∀ b ∈ [n1], b < w56.heap.size := by simp; omega
    have l56' : ∀ b ∈ [n1], ∀ A, a = some A → A.block ≠ b := fun b hb A hA => by simp at hb; subst hb; have := (own56.lt hA).1; omega
    refine opI_in <| Bd_in fun b58 hb58 => If_in (fun hb => ?_) fun hb => ?_
    · have h0 : 0 ≤ dNext dm nx at' x := by rw [hb58] at hb; simpa using hb
      obtain ⟨k, hk⟩ := Int.eq_ofNat_of_zero_le h0
      have hkl : k < tg.length := by omega
      have et : tg[k] = dTag tg (dNext dm nx at' x) := by
        unfold dTag
        rw [if_pos h0, hk, Int.toNat_natCast, List.getD_eq_getElem?_getD, List.getElem?_eq_getElem hkl]; rfl
      refine ⟨by rw [hk]; exact h2.ix hkl, by rw [hk]; exact (h2.md m56).ld1 hkl rfl <| opI_in <| app_one rowT52 enci1 _ rfl own56 hbs56 l56 l56' (by simp [maxLen]; omega) (by omega) fun a' c' w' o m hA' => opL_in (by rw [← hk]; exact fin _ et a' c' w' o m)⟩
    · have h0 : ¬ 0 ≤ dNext dm nx at' x := by rw [hb58] at hb; simpa using hb
      exact app_one rowT52 enci1 (-1 : Int) rfl own56 hbs56 l56 l56' (by simp [maxLen]; omega) (by omega) fun a' c' w' o m hA' => opL_in (fin _ (by unfold dTag; rw [if_neg h0]) a' c' w' o m)
  · refine Bd_in fun b76 hb76 => If_in (fun hb => ?_) fun hb => ?_
    · have h0 : 0 ≤ at' := by rw [hb76] at hb; simpa using hb
      obtain ⟨q1, q2, q3, q4⟩ := D.ix h0 hat hx.1 hx.2
      have hm2 := D.m2
      have mdd2 := mdd.trans (Md_drew w14.drew)
      refine ⟨fun w' => Md [] w w', mdd2, Bd_e (y := at' * dm) (by rw [IntKind.wrap_i64]; omega) ⟨h3.ix hil, ?_⟩⟩
      show ∃ v, _ ∧ _
      refine ⟨_, hrd, opI_in <| Bd_e (y := (((at' * dm + x).toNat : Nat) : Int)) (by rw [IntKind.wrap_i64]; omega) ?_⟩
      have hk : (at' * dm + x).toNat < nx.length := by omega
      refine ⟨h1.ix hk, ?_⟩
      show ∃ v, _ ∧ _
      refine ⟨_, fun w' hm => (h1.md hm).ld1 hk rfl rfl, opI_in ⟨?_, mdd2, (own.md (Md_drew _)).md (Md_drew _), hbs44⟩⟩
      unfold dNext
      rw [if_pos h0, List.getD_eq_getElem?_getD, List.getElem?_eq_getElem hk]; rfl
    · have h0 : ¬ 0 ≤ at' := by rw [hb76] at hb; simpa using hb
      refine ⟨?_, mdd, own.md (Md_drew _), hbs44⟩
      unfold dNext
      rw [if_neg h0]
end Fk
set_option linter.unusedVariables false
set_option linter.unusedSimpArgs false
set_option maxRecDepth 100000
set_option maxHeartbeats 4000000
namespace Fk
open Go Go.Proofs Go.RowKit
theorem ldNs {w : World} {A : Option Addr} {l : List Ns} (h : RowAt w A 8 nsE l) {i : Nat} (hi : i < l.length) {j : Nat} {v : Value} (hv : (nsE l[i])[j]? = some v) {K : Value → Prop} (k : K v) : Ld w ((adAt A (i : Int) 8).add j) K := by
  obtain ⟨B, rfl, hc⟩ := h i l[i] (List.getElem?_eq_getElem hi)
  exact Ld_in (hc j v hv) k
structure Lr (L : List Nat) (wb w : World) (a : Option Addr) (c : Nat) (B : List Rb) (na : Option Addr) (nc : Nat) (nx : List Int) (ta : Option Addr) (tc : Nat) (tg : List Int) : Prop where
  md : Md [] wb w
  own : OwnL w wb.heap.size 222 1 rbE a c B
  rows : ∀ p ∈ B, OwnL w wb.heap.size 4 1 bE p.a p.c p.N
  nx : OwnL w wb.heap.size 3 1 i1 na nc nx
  tg : OwnL w wb.heap.size 3 1 i1 ta tc tg
  ap : Apt na ta
  lt : ∀ b ∈ L, b < w.heap.size
  l0 : ∀ b ∈ L, ∀ A, a = some A → A.block ≠ b
  l1 : ∀ b ∈ L, ∀ A, na = some A → A.block ≠ b
  l2 : ∀ b ∈ L, ∀ A, ta = some A → A.block ≠ b
  l3 : ∀ p ∈ B, ∀ A, p.a = some A → ∀ b ∈ L, A.block ≠ b
section
variable {L : List Nat} {wb w w' : World} {c nc tc : Nat} {a na ta : Option Addr} {B : List Rb} {nx tg : List Int}
theorem Lr.md0 (h : Lr L wb w a c B na nc nx ta tc tg) (hm : Md [] w w') : Lr L wb w' a c B na nc nx ta tc tg :=
  ⟨h.md.trans hm, h.own.md hm, fun p hp => (h.rows p hp).md hm, h.nx.md hm, h.tg.md hm, h.ap, fun b hb => Nat.lt_of_lt_of_le (h.lt b hb) hm.size, h.l0, h.l1, h.l2, h.l3⟩
theorem Lr.mdL {n0 : Nat} (h : Lr L wb w a c B na nc nx ta tc tg) (h0 : n0 ∈ L) (hlo : wb.heap.size ≤ n0) (hm : Md [n0] w w') : Lr L wb w' a c B na nc nx ta tc tg :=
  ⟨h.md.old hm (by simp; exact hlo), h.own.mdD hm (fun A hA => by simp; exact h.l0 n0 h0 A hA), fun p hp => (h.rows p hp).mdD hm (fun A hA => by simp; exact h.l3 p hp A hA n0 h0), h.nx.mdD hm (fun A hA => by simp; exact h.l1 n0 h0 A hA), h.tg.mdD hm (fun A hA => by simp; exact h.l2 n0 h0 A hA), h.ap, fun b hb => Nat.lt_of_lt_of_le (h.lt b hb) hm.size, h.l0, h.l1, h.l2, h.l3⟩
theorem Lr.mdI {b0 c2 : Nat} {x : Option Addr} {xs : List Int} (h : Lr L wb w a c B na nc nx ta tc tg) (o : OwnL w b0 3 1 i1 x c2 xs) (hlo : wb.heap.size ≤ b0) (hm : Md (x.map (·.block)).toList w w') : Md [] wb w' ∧ OwnL w' wb.heap.size 222 1 rbE a c B ∧ ∀ p ∈ B, OwnL w' wb.heap.size 4 1 bE p.a p.c p.N := by
  refine ⟨h.md.old hm (fun d hd => ?_), h.own.mdD hm (fun A hA hd => ?_), fun p hp => (h.rows p hp).mdD hm (fun A hA hd => ?_)⟩
  · obtain ⟨A, hA, e⟩ := mem_blk hd; have := (o.lt hA).1; omega
  · obtain ⟨X, hX, e⟩ := mem_blk hd; exact own_apt2 o h.own (by decide) X A hX hA e
  · obtain ⟨X, hX, e⟩ := mem_blk hd; exact own_apt2 o (h.rows p hp) (by decide) X A hX hA e
theorem Lr.addN {n0 : Nat} (h : Lr L wb w a c B na nc nx ta tc tg) (h0 : n0 ∈ L) (hlo : wb.heap.size ≤ n0) (x : Int) (hl : nx.length < 2 ^ 30) {K : Option Addr → Nat → Nat → World → Prop}
    (kk : ∀ na' nc' w', Lr L wb w' a c B na' nc' (nx ++ [x]) ta tc tg → K na' (nx ++ [x]).length nc' w') :
    Nw (.cells #[.int .i64 x] 3) w fun b w' => RunW Try.prog L (Builtin.append_ #[52, 52] 52 #[.slice na nx.length nc, .slice (some (Addr.mk b 0 none)) 1 1]) (fun v w'' => opL v fun a' n' c' => Up [n0] L w'' fun w3 => K a' n' c' w3) w' := by
  refine app_one rowT52 enci1 x rfl h.nx h.md.size h.lt h.l1 (by simp [maxLen]; omega) (by omega) fun a' c' w' o hm hA => opL_in fun w3 h3 _ => kk a' c' w3 ?_
  obtain ⟨m', o', r'⟩ := h.mdI h.nx (Nat.le_refl _) hm
  obtain ⟨t', ap'⟩ := own_keep h.tg hm hA h.ap
  exact Lr.mdL ⟨m', o', r', o, t', ap', fun b hb => Nat.lt_of_lt_of_le (h.lt b hb) hm.size, h.l0, fun b hb A hA' => by
    rcases hA A hA' with h1 | h1
    · exact h.l1 b hb A h1
    · have := h.lt b hb; omega, h.l2, h.l3⟩ h0 hlo h3
theorem Lr.addT {n0 : Nat} (h : Lr L wb w a c B na nc nx ta tc tg) (h0 : n0 ∈ L) (hlo : wb.heap.size ≤ n0) (x : Int) (hl : tg.length < 2 ^ 30) {K : Option Addr → Nat → Nat → World → Prop}
    (kk : ∀ ta' tc' w', Lr L wb w' a c B na nc nx ta' tc' (tg ++ [x]) → K ta' (tg ++ [x]).length tc' w') :
    Nw (.cells #[.int .i64 x] 3) w fun b w' => RunW Try.prog L (Builtin.append_ #[52, 52] 52 #[.slice ta tg.length tc, .slice (some (Addr.mk b 0 none)) 1 1]) (fun v w'' => opL v fun a' n' c' => Up [n0] L w'' fun w3 => K a' n' c' w3) w' := by
  refine app_one rowT52 enci1 x rfl h.tg h.md.size h.lt h.l2 (by simp [maxLen]; omega) (by omega) fun a' c' w' o hm hA => opL_in fun w3 h3 _ => kk a' c' w3 ?_
  obtain ⟨m', o', r'⟩ := h.mdI h.tg (Nat.le_refl _) hm
  obtain ⟨t', ap'⟩ := own_keep h.nx hm hA h.ap.symm
  exact Lr.mdL ⟨m', o', r', t', o, ap'.symm, fun b hb => Nat.lt_of_lt_of_le (h.lt b hb) hm.size, h.l0, h.l1, fun b hb A hA' => by
    rcases hA A hA' with h1 | h1
    · exact h.l2 b hb A h1
    · have := h.lt b hb; omega, h.l3⟩ h0 hlo h3
theorem Lr.addB (h : Lr L wb w a c B na nc nx ta tc tg) (N : List Bool) (pa : Option Addr) (pc b0 : Nat) (hN : OwnL w b0 4 1 bE pa pc N) (hb0 : wb.heap.size ≤ b0) (hbL : ∀ b ∈ L, b < b0) (hl : B.length < 2 ^ 30) {K : Option Addr → Nat → Nat → World → Prop}
    (kk : ∀ a' c' w', Lr L wb w' a' c' (B ++ [⟨pa, pc, N⟩]) na nc nx ta tc tg → K a' (B ++ [(⟨pa, pc, N⟩ : Rb)]).length c' w') :
    Nw (.cells #[.slice pa N.length pc] 222) w fun b w' => RunW Try.prog L (Builtin.append_ #[219, 219] 219 #[.slice a B.length c, .slice (some (Addr.mk b 0 none)) 1 1]) (fun v w'' => opL v fun a' n' c' => K a' n' c' w'') w' := by
  refine app_one rowT219 encrb ⟨pa, pc, N⟩ rfl h.own h.md.size h.lt h.l0 (by simp [maxLen]; omega) (by omega) fun a' c' w' o hm hA => opL_in (kk a' c' w' ?_)
  have hx : ∀ d ∈ (a.map (·.block)).toList, ∃ A, a = some A ∧ A.block = d := fun d hd => mem_blk hd
  refine ⟨h.md.old hm (fun d hd => by obtain ⟨A, hA, rfl⟩ := hx d hd; exact (h.own.lt hA).1), o, fun p hp => ?_, h.nx.mdD hm (fun A hA hd => by obtain ⟨X, hX, e⟩ := hx _ hd; exact own_apt2 h.own h.nx (by decide) X A hX hA e), h.tg.mdD hm (fun A hA hd => by obtain ⟨X, hX, e⟩ := hx _ hd; exact own_apt2 h.own h.tg (by decide) X A hX hA e), h.ap, fun b hb => Nat.lt_of_lt_of_le (h.lt b hb) hm.size, fun b hb A hA' => ?_, h.l1, h.l2, fun p hp => ?_⟩
  · rcases List.mem_append.1 hp with hp | hp
    · exact (h.rows p hp).mdD hm (fun A hA hd => by obtain ⟨X, hX, e⟩ := hx _ hd; exact own_apt2 h.own (h.rows p hp) (by decide) X A hX hA e)
    · simp at hp; subst hp
      exact (hN.down hb0).mdD hm (fun A hA hd => by obtain ⟨X, hX, e⟩ := hx _ hd; exact own_apt2 h.own hN (by decide) X A hX hA e)
  · rcases hA A hA' with h1 | h1
    · exact h.l0 b hb A h1
    · have := h.lt b hb; omega
  · rcases List.mem_append.1 hp with hp | hp
    · exact h.l3 p hp
    · simp at hp; subst hp
      intro A hA' b hb e
      have := (hN.lt hA').1
      have := hbL b hb
      omega
end
theorem idxB_drop {N : List Bool} : ∀ (l : List (List Bool)) (i j : Nat) (h : j < l.length), idxB N (l.drop j) (i + j) = if N = l[j] then some (i + j) else idxB N (l.drop (j + 1)) (i + j + 1)
  | l, i, j, h => by
    rw [List.drop_eq_getElem_cons h]
    rfl
theorem any_step {l : List Ns} (hl : OkL l) (b : Nat) (N : List Bool) : (stepF l b N l (offs l.length)).any id = false ↔ byL b N l = [] := by
  rw [byL_nil hl]
  constructor
  · intro h i hi
    unfold On at hi
    rw [List.any_eq_false] at h
    exact h true (List.mem_of_getElem? hi) rfl
  · intro h
    rw [List.any_eq_false]
    intro x hx
    obtain ⟨i, hi, rfl⟩ := List.getElem_of_mem hx
    have := h i
    unfold On at this
    rw [List.getElem?_eq_getElem hi] at this
    simpa using this
theorem f131_ok (st : Int) (l : List Ns) (pa : Option Addr) (pc : Nat) (c : Cl) (hc : c.ok) (most : Int) (w : World) (hr : RowAt w pa 8 nsE l) (hl : l.length < 2 ^ 60) (hk : ∀ x ∈ l, 0 ≤ x.k) :
    Ct Try.prog 131 #[.agg #[.int .i64 st, .slice pa l.length pc], .agg c.v, .int .i64 most] w fun v w' => DmOut w w' (dBld st l c most) v := by
  apply f131_in
  intro n1 hn1 n2 hn2 n3 hn3 w4 h4 hL4
  have g4 : Good [n3, n2, n1] w w4 := ⟨h4, hL4⟩
  refine (f82_ok st l pa pc w4 (hr.md h4) hl hk).call hL4 ?_
  rintro v w6 rfl m6
  have g6 := g4.tr m6
  refine opB_in <| Bd_in fun b8 hb8 => ⟨fun _ => hc.size, ?_⟩
  refine Gd_to (fun b w' => (nfRight st l = true → b = c.rightR) ∧ Good [n3, n2, n1] w w') (fun b14 w15 hJ => ?_) (fun fin hcn => ?_) (fun hcn => ⟨(fun h => by rw [hb8, h] at hcn; cases hcn), g6⟩)
  case refine_2 =>
    refine (f45_ok c hc w6).call g6.2 ?_
    rintro v w12 rfl m12
    exact opB_in <| fin _ _ ⟨fun _ => rfl, g6.tr m12⟩
  obtain ⟨h14, g15⟩ := hJ
  rw [← right_iff hc] at h14
  refine Bd_in fun b16 hb16 => Bd_in fun b17 hb17 => Bd_in fun b18 hb18 => Bd_in fun b19 hb19 => Bd_in fun b20 hb20 => Bd_in fun b21 hb21 => ?_
  have e21 : b21 = true ↔ ¬ (nfRight st l = true ∧ c.right = true ∧ 1 ≤ most ∧ most ≤ 5000) := by
    rw [hb21, hb20, hb19, hb18, hb17, hb16, hb8]
    cases hn : nfRight st l with
    | false => simp
    | true =>
      rw [h14 hn]
      cases c.right with
      | false => simp
      | true =>
        by_cases c1 : most < 1
        · simp [c1]; try omega
        · by_cases c2 : most > 5000
          · simp [c1, c2]; try omega
          · simp [c1, c2]; try omega
  have bad2 : ∀ {w' : World}, Md [] w w' → ¬ (nfRight st l = true ∧ fitsN c l = true ∧ 1 ≤ most ∧ most ≤ 5000) → DmOut w w' (dBld st l c most) (.tuple #[.agg #[.int .i64 0, .slice none 0 0, .slice none 0 0], .int .i64 2]) := fun hm hno => by
    have : dBld st l c most = ((0, [], []), 2) := by unfold dBld; rw [if_neg hno]
    rw [this]
    exact DmOut.err 2 hm
  refine If_in (fun hb w22 h22 _ => ?_) fun hb => ?_
  · refine bad2 (g15.1.old h22 (by simp; exact hn3)) fun h => e21.1 hb ⟨h.1, ?_, h.2.2⟩
    have := h.2.1
    unfold fitsN at this
    rw [Bool.and_eq_true] at this
    exact this.2
  have hcond : nfRight st l = true ∧ c.right = true ∧ 1 ≤ most ∧ most ≤ 5000 := Classical.byContradiction fun h => by have := e21.2 h; rw [hb] at this; cases this
  obtain ⟨hright, hcr, hm1, hm2⟩ := hcond
  obtain ⟨hok, hst0, hst1, hlen, hall⟩ := okL_of_right hright
  have ht0 : ∀ x ∈ l, x.k = 0 → 0 ≤ x.t := fun x hx hk => by have := hall x hx; unfold okNs at this; omega
  obtain ⟨cm1, cm2⟩ := right_m hc hcr
  refine LoopP_in (fun mm us vs w' => ∃ (i : Nat), us = [.int .i64 0, .int .i64 i] ∧ vs = [.agg #[.int .i64 0, .slice none 0 0, .slice none 0 0]] ∧ mm = l.length - i ∧ i ≤ l.length ∧ Good [n3, n2, n1] w w' ∧ (∀ x ∈ l.take i, (x.k != 1 || c.fits x.q) = true)) l.length
    ⟨0, rfl, rfl, rfl, by omega, g15, by simp⟩ ?_
  rintro mm us vs w26 ⟨i, rfl, rfl, hmm, hi, g26, htk⟩
  refine opI_in <| opI_in <| opAg_in <| opI_in <| opL_in <| opL_in <| SzIs_in rfl <| Bd_e rfl <| Bd_in fun b38 hb38 => If_in (fun hb => ?_) fun hb => ?_
  · have hil : i < l.length := by rw [hb38] at hb; have : (i : Int) < (l.length : Int) := of_decide_eq_true hb
                                  omega
    have next : c.fits l[i].q = true ∨ l[i].k ≠ 1 → ∀ x ∈ l.take (i + 1), (x.k != 1 || c.fits x.q) = true := fun h x hx => by
      rw [List.take_succ_eq_append_getElem hil] at hx
      rcases List.mem_append.1 hx with hx | hx
      · exact htk x hx
      · simp at hx; subst hx
        rcases h with h | h
        · simp [h]
        · simp [h]
    have gd := g26.drew
    refine ⟨fun w' => Good [n3, n2, n1] w w', gd, hr.ix hil, ?_⟩
    show ∃ v, _ ∧ _
    refine ⟨.int .u8 l[i].k, fun w' hm => ldNs (hr.md hm.1) hil rfl rfl, opI_in <| Bd_in fun b45 hb45 => ⟨fun _ => hc.size, fun _ => hr.ix hil, ?_⟩⟩
    show ∃ v, _ ∧ _
    refine ⟨.agg #[.int .u64 l[i].s1, .int .u64 l[i].s2, .int .u64 l[i].s3, .int .u64 l[i].s4], fun _ w' hm => ?_, ?_⟩
    · rw [add_add, add_add, add_add, add_add]
      have h := hr.md hm.1
      exact ldNs h hil rfl <| ldNs h hil rfl <| ldNs h hil rfl <| ldNs h hil rfl rfl
    refine opAg_in <| opI_in <| opI_in <| opI_in <| opI_in <| SzIs_in rfl <| Gd_to (fun b w' => (b45 = true → b = c.fitsR l[i].q) ∧ Good [n3, n2, n1] w w') (fun b65 w66 hJ => ?_) (fun fin hcn => ?_) (fun hcn => ⟨(fun h => by rw [h] at hcn; cases hcn), gd⟩)
    case refine_2 =>
      refine (f47_ok c hc l[i].q w26.drew).call gd.2 ?_
      rintro v w63 rfl m63
      exact opB_in <| fin _ _ ⟨fun _ => rfl, gd.tr m63⟩
    obtain ⟨h65, g66⟩ := hJ
    rw [← fits_eq hc] at h65
    refine ⟨g66, Bd_in fun b67 hb67 => Bd_in fun b68 hb68 => If_in (fun hz w69 h69 _ => ?_) fun hz => ?_⟩
    · refine bad2 (g66.1.old h69 (by simp; exact hn3)) fun h => ?_
      have := h.2.1
      unfold fitsN at this
      rw [Bool.and_eq_true, List.all_eq_true] at this
      have := this.1 _ (List.getElem_mem hil)
      rw [hb68, hb67] at hz
      cases h45 : b45 with
      | false => rw [h45] at hz; cases hz
      | true =>
        rw [h65 h45, h45] at hz
        have hk1 : l[i].k = 1 := by rw [hb45] at h45; simpa using h45
        simp [hk1] at this
        rw [this] at hz
        simp at hz
    · refine Bd_e (inc_i64 (by omega)) ⟨l.length - (i + 1), by omega, i + 1, rfl, rfl, rfl, by omega, g66, next ?_⟩
      rw [hb68, hb67] at hz
      cases h45 : b45 with
      | false => right; rw [hb45] at h45; simpa using h45
      | true =>
        left
        rw [h65 h45, h45] at hz
        simpa using hz
  have hil : i = l.length := by
    have : ¬ (i : Int) < (l.length : Int) := by rw [hb38] at hb; exact of_decide_eq_false hb
    omega
  subst hil
  rw [List.take_length] at htk
  have hfit : fitsN c l = true := by unfold fitsN; rw [List.all_eq_true.2 htk, hcr]; rfl
  have ebld : dBld st l c most = (match dAll l most.toNat c.firsts (most.toNat + 1) 0 ([dst l [st]], []) with | none => ((0, [], []), 40) | some p => ((c.m, p.2, tagL l p.1), 0)) := by unfold dBld; rw [if_pos ⟨hright, hfit, hm1, hm2⟩] <;> cases dAll l most.toNat c.firsts (most.toNat + 1) 0 ([dst l [st]], []) <;> rfl
  rw [ebld]
  clear ebld bad2
  have hb0 := dst_begin hok hst0 hst1
  generalize hT : dAll l most.toNat c.firsts (most.toNat + 1) 0 ([dst l [st]], []) = T
  generalize hM : most.toNat = M at *
  have hMm : most = (M : Int) := by omega
  have hcl : (come l st (offs l.length)).length = l.length := come_len hok (offs_len _) hst0 hst1
  rw [hb0] at hT
  have hr26 := hr.md g26.1
  refine (f183_ok st l pa pc w26 hr26 hok hlen hst0 hst1).call g26.2 ?_
  rintro v w72 ⟨a73, c73, rfl, own72⟩ m72
  refine opL_in <| Nw_i <| BdO_in hc.many <| opI_in ?_
  have s72 := m72.size
  have ma : Md [] w72 (w72.alloc (.cells #[.slice a73 (come l st (offs l.length)).length c73] 222)) := Md.alloc w72 _
  have olb : OwnL (w72.alloc (.cells #[.slice a73 (come l st (offs l.length)).length c73] 222)) w26.heap.size 222 1 rbE (some ⟨w72.heap.size, 0, none⟩) 1 [⟨a73, c73, come l st (offs l.length)⟩] := OwnL.lit (P := Try.prog) (base := w26.heap.size) encrb w72 222 [⟨a73, c73, come l st (offs l.length)⟩] #[.slice a73 (come l st (offs l.length)).length c73] s72 (by simp [maxLen]) rfl
  have own77 := own72.md ma
  have g77 : Good [n3, n2, n1] w26 (w72.alloc (.cells #[.slice a73 (come l st (offs l.length)).length c73] 222)) := (Good.tr ⟨m72, fun b hb => Nat.lt_of_lt_of_le (g26.2 b hb) s72⟩ ma)
  have hl26 := g26.2
  have sa := ma.size
  have hlob := (olb.lt rfl).2
  simp only at hlob
  generalize hw77 : w72.alloc (.cells #[.slice a73 (come l st (offs l.length)).length c73] 222) = w77 at *
  intro n80 hn80 w81 h81 hL81
  have hn80' : w26.heap.size ≤ n80 := by omega
  have hne80 : ∀ {A : Addr}, A.block < w77.heap.size → ¬ A.block ∈ [n80] := fun h => by simp; omega
  have S81 : Lr [n80, n3, n2, n1] w26 w81 (some ⟨w72.heap.size, 0, none⟩) 1 [⟨a73, c73, come l st (offs l.length)⟩] none 0 [] none 0 [] := by
    have d80 : Md [] w77 w81 := h81.fresh (by simp; exact hn80)
    refine ⟨g77.1.trans d80, olb.md d80, by simp; exact own77.md d80, OwnL.nil _ _ _ _ _, OwnL.nil _ _ _ _ _, (fun A B hA => by cases hA), hL81, fun b hb A hA => ?_, (fun b hb A hA => by cases hA), (fun b hb A hA => by cases hA), fun p hp A hA b hb => ?_⟩
    · injection hA with hA; subst hA
      simp only [List.mem_cons] at hb
      rcases hb with rfl | hb
      · simp; omega
      · have := hl26 b (by simpa using hb); simp; omega
    · simp at hp; subst hp
      have h1 := own72.lt hA
      simp only [List.mem_cons] at hb
      rcases hb with rfl | hb
      · omega
      · have := hl26 b (by simpa using hb); omega
  have h0 : Md [] w w26 := g26.1
  have hfl := firsts_len c
  refine LoopP_in (fun mm us vs w' => ∃ (i : Nat) (a : Option Addr) (cc : Nat) (B : List Rb) (na : Option Addr) (nc : Nat) (nx : List Int) (ta : Option Addr) (tc : Nat) (tg : List Int),
      us = [.slice a B.length cc, .int .i64 0, .int .i64 i] ∧ vs = [.agg #[.int .i64 0, .slice none 0 0, .slice none 0 0], .agg #[.int .i64 c.m, .slice na nx.length nc, .slice ta tg.length tc]] ∧ Lr [n80, n3, n2, n1] w26 w' a cc B na nc nx ta tc tg ∧ tg = tagL l ((B.map (·.N)).take i) ∧
      B.length ≤ M ∧ i ≤ B.length ∧ mm = M + 1 - i ∧ (∀ p ∈ B, p.N.length = l.length) ∧ nx.length ≤ i * 256 ∧ dAll l M c.firsts mm i (B.map (·.N), nx) = T) (M + 1)
    ⟨0, _, 1, [⟨a73, c73, come l st (offs l.length)⟩], none, 0, [], none, 0, [], rfl, rfl, S81, rfl, by simp; omega, by omega, rfl, by simpa using hcl, by simp, hT⟩ ?_
  rintro mm us vs w85 ⟨i, a, cc, B, na, nc, nx, ta, tc, tg, rfl, rfl, S85, htg, hBM, hi, hmm, hBl, hnx, hD⟩
  refine opL_in <| opI_in <| opI_in <| opAg_in <| opI_in <| opL_in <| opL_in <| SzIs_in rfl <| opAg_in <| opI_in <| opL_in <| opL_in <| SzIs_in rfl <| Bd_e rfl <| Bd_in fun b108 hb108 => If_in (fun hb => ?_) fun hb => ?_
  case refine_2 =>
    have hib : i = B.length := by
      have : ¬ (i : Int) < (B.length : Int) := by rw [hb108] at hb; exact of_decide_eq_false hb
      omega
    subst hib
    obtain ⟨mm', rfl⟩ : ∃ k, mm = k + 1 := ⟨mm - 1, by omega⟩
    have e : T = some (B.map (·.N), nx) := by
      rw [← hD]
      simp [dAll]
    rw [List.take_of_length_le (by simp)] at htg
    intro w' hm _
    have o1 := S85.nx.mdD hm (fun A hA => by simp; exact S85.l1 n3 (by simp) A hA)
    have o2 := S85.tg.mdD hm (fun A hA => by simp; exact S85.l2 n3 (by simp) A hA)
    subst htg
    rw [e]
    exact ⟨⟨na, nc, ta, tc, rfl, o1.down h0.size, o2.down h0.size, S85.ap⟩, (h0.trans S85.md).old hm (by simp; exact hn3)⟩
  have hib : i < B.length := by rw [hb108] at hb; have : (i : Int) < (B.length : Int) := of_decide_eq_true hb
                                omega
  obtain ⟨mm', rfl⟩ : ∃ k, mm = k + 1 := ⟨mm - 1, by omega⟩
  have hN : (B.map (·.N))[i]? = some B[i].N := by rw [List.getElem?_map, List.getElem?_eq_getElem hib]; rfl
  have hD' : (dRow l M c.firsts B[i].N (B.map (·.N), nx)).bind (dAll l M c.firsts mm' (i + 1)) = T := by
    rw [← hD]
    simp only [dAll, hN]
  have hNl : B[i].N.length = l.length := hBl _ (List.getElem_mem hib)
  refine Jn_in (fun us vs w' => ∃ (ta : Option Addr) (tc : Nat) (tg : List Int), us = [] ∧ vs = [.agg #[.int .i64 c.m, .slice na nx.length nc, .slice ta tg.length tc]] ∧ Lr [n80, n3, n2, n1] w26 w' a cc B na nc nx ta tc tg ∧ tg = tagL l ((B.map (·.N)).take (i + 1))) ?_ ?_
  case refine_2 =>
    have Sd := S85.md0 (Md_drew w85)
    have hix := (Sd.own.row encrb).ix hib
    have hld := fun {K : Value → Prop} => (Sd.own.row encrb).ld1 (K := K) hib rfl
    have call184 := fun {K : Value → World → Prop} (hk : ∀ v w', v = .int .i64 (tagF B[i].N l (-1)) → Md [] w85.drew w' → K v w') =>
      (f184_ok st pa B[i].a pc B[i].c l B[i].N (hr26.md Sd.md) ((Sd.rows _ (List.getElem_mem hib)).row encbE) hNl hlen ht0).call Sd.lt (K := K) hk
    have htl2 : tg.length ≤ M := by rw [htg]; simp [tagL]; omega
    have htg2 : tg ++ [tagF B[i].N l (-1)] = tagL l ((B.map (·.N)).take (i + 1)) := by
      rw [List.take_succ_eq_append_getElem (by simpa using hib), htg]
      simp [tagL]
    have app := fun {w' : World} {K : Option Addr → Nat → Nat → World → Prop} (hm : Md [] w85.drew w') (kk : ∀ ta' tc' w'', Lr [n80, n3, n2, n1] w26 w'' a cc B na nc nx ta' tc' (tg ++ [tagF B[i].N l (-1)]) → K ta' (tg ++ [tagF B[i].N l (-1)]).length tc' w'') => (Sd.md0 hm).addT (n0 := n80) (by simp) hn80' (tagF B[i].N l (-1)) (by omega) (K := K) kk
    refine ⟨hix, hld <| opL_in <| call184 fun v w' e hm => ?_, hld <| opL_in ⟨call184 fun v w' e hm => ?_, call184 fun v w' e hm => ?_⟩⟩
    · subst e
      exact opI_in <| app hm fun ta' tc' w' S' => ⟨ta', tc', _, rfl, rfl, S', htg2⟩
    · subst e
      exact opI_in <| app hm fun ta' tc' w' S' => ⟨ta', tc', _, rfl, rfl, S', htg2⟩
    · subst e
      exact opI_in ⟨app hm fun ta' tc' w' S' => ⟨ta', tc', _, rfl, rfl, S', htg2⟩, app hm fun ta' tc' w' S' => ⟨ta', tc', _, rfl, rfl, S', htg2⟩⟩
  generalize hNN : B[i].N = N at *
  clear hD htg S85 hb hb108
  clear ta tc tg
  rintro us vs w111 ⟨ta, tc, tg, rfl, rfl, S111, htg⟩
  refine opAg_in <| opI_in <| opL_in <| opL_in <| SzIs_in rfl ?_
  refine LoopP_in (fun m2 us vs w' => ∃ (j : Nat) (a : Option Addr) (cc : Nat) (B : List Rb) (na : Option Addr) (nc : Nat) (nx : List Int),
      us = [.slice a B.length cc, .int .i64 0, .int .i64 j] ∧ vs = [.agg #[.int .i64 0, .slice none 0 0, .slice none 0 0], .agg #[.int .i64 c.m, .slice na nx.length nc, .slice ta tg.length tc]] ∧ Lr [n80, n3, n2, n1] w26 w' a cc B na nc nx ta tc tg ∧ tg = tagL l ((B.map (·.N)).take (i + 1)) ∧
      B.length ≤ M ∧ (B.map (·.N))[i]? = some N ∧ j ≤ c.m.toNat ∧ m2 = c.m.toNat - j ∧ (∀ p ∈ B, p.N.length = l.length) ∧ nx.length ≤ i * 256 + j ∧ (dRow l M (c.firsts.drop j) N (B.map (·.N), nx)).bind (dAll l M c.firsts mm' (i + 1)) = T) c.m.toNat
    ⟨0, a, cc, B, na, nc, nx, rfl, rfl, S111, htg, hBM, hN, by omega, rfl, hBl, hnx, hD'⟩ ?_
  clear hD' hN hNN hBl hnx htg S111 hib hi hBM
  clear a cc B na nc nx
  rintro m2 us vs w105 ⟨j, a, cc, B, na, nc, nx, rfl, rfl, S105, htg, hBM, hN, hj, hm2', hBl, hnx, hD⟩
  have hib : i < B.length := by
    have := (List.getElem?_eq_some_iff.1 hN).1
    simpa using this
  have hNi : B[i].N = N := by
    rw [List.getElem?_map, List.getElem?_eq_getElem hib] at hN
    simpa using hN
  refine opL_in <| opI_in <| opI_in <| opAg_in <| opI_in <| opL_in <| opL_in <| SzIs_in rfl <| opAg_in <| opI_in <| opL_in <| opL_in <| SzIs_in rfl <| BdO_in hc.many <| opI_in <| Bd_in fun b147 hb147 => If_in (fun hb => ?_) fun hb => ?_
  case refine_2 =>
    have hjF : j = c.firsts.length := by
      have : ¬ (j : Int) < c.m := by rw [hb147] at hb; exact of_decide_eq_false hb
      omega
    rw [List.drop_of_length_le (by omega)] at hD
    exact Bd_e (inc_i64 (by omega)) ⟨mm', by omega, i + 1, a, cc, B, na, nc, nx, ta, tc, tg, rfl, rfl, S105, htg, hBM, by omega, by omega, hBl, by omega, hD⟩
  have hjm : (j : Int) < c.m := by rw [hb147] at hb; exact of_decide_eq_true hb
  have hjF : j < c.firsts.length := by omega
  rw [List.drop_eq_getElem_cons hjF] at hD
  have hb256 := firsts_lt c _ (List.getElem_mem hjF)
  have hbe : (c.firstR j).1 = ((c.firsts[j] : Nat) : Int) := by rw [← first_eq hc, firsts_get]; have := first_b c j; omega
  refine Jn_in (fun us vs w' => ∃ (a : Option Addr) (cc : Nat) (B : List Rb) (na : Option Addr) (nc : Nat) (nx : List Int),
      us = [.slice a B.length cc, .int .i64 0] ∧ vs = [.agg #[.int .i64 0, .slice none 0 0, .slice none 0 0], .agg #[.int .i64 c.m, .slice na nx.length nc, .slice ta tg.length tc]] ∧ Lr [n80, n3, n2, n1] w26 w' a cc B na nc nx ta tc tg ∧ tg = tagL l ((B.map (·.N)).take (i + 1)) ∧
      B.length ≤ M ∧ (B.map (·.N))[i]? = some N ∧ (∀ p ∈ B, p.N.length = l.length) ∧ nx.length ≤ i * 256 + (j + 1) ∧ (dRow l M (c.firsts.drop (j + 1)) N (B.map (·.N), nx)).bind (dAll l M c.firsts mm' (i + 1)) = T) ?_ ?_
  · rintro us vs w127 ⟨a, cc, B, na, nc, nx, rfl, rfl, q1, q2, q3, q4, q5, q6, q7⟩
    exact opL_in <| opI_in <| opAg_in <| opI_in <| opL_in <| opL_in <| SzIs_in rfl <| opAg_in <| opI_in <| opL_in <| opL_in <| SzIs_in rfl <| Bd_e (inc_i64 (by omega)) ⟨c.m.toNat - (j + 1), by omega, j + 1, a, cc, B, na, nc, nx, rfl, rfl, q1, q2, q3, q4, by omega, rfl, q5, q6, q7⟩
  refine ⟨hc.size, ?_⟩
  refine (f43_ok c hc j w105).call S105.lt ?_
  rintro v w174 rfl m174
  have S174 := S105.md0 m174
  refine opTu_in <| opI_in <| opB_in <| SzIs_in rfl ?_
  show Dr _ _
  have Sd := S174.md0 (Md_drew w174)
  simp only [hbe]
  generalize c.firsts[j] = b at *
  refine ⟨fun w' => Md [] w174.drew w', Md.refl _ _, (Sd.own.row encrb).ix hib, ?_⟩
  show ∃ v, _ ∧ _
  refine ⟨_, fun w' hm => ((Sd.md0 hm).own.row encrb).ld1 hib rfl rfl, opL_in ?_⟩
  have hrow := (Sd.rows _ (List.getElem_mem hib)).row encbE
  have hnl : B[i].N.length = l.length := by rw [hNi]; exact hNl
  refine (f185_ok st l pa B[i].a pc B[i].c B[i].N b hb256 w174.drew (hr26.md Sd.md) hrow hnl hok hlen).call Sd.lt ?_
  rintro v w187 ⟨A, C, rfl, own⟩ m187
  have S187 := Sd.md0 m187
  rw [hNi] at own ⊢
  have hany := any_step hok b N
  have hby := dst_by hok b N
  have hSl : (stepF l b N l (offs l.length)).length = l.length := by rw [← hby]; exact (dst_ok hok (byL_in hok b N)).1
  generalize hSt : stepF l b N l (offs l.length) = St at *
  refine opL_in ⟨m187, ?_⟩
  refine (f203_ok St A C w187 (own.row encbE) (by omega)).call S187.lt ?_
  rintro v w192 rfl m192
  have S192 := S187.md0 m192
  have own192 := own.md m192
  refine opB_in <| Bd_in fun b194 hb194 => If_in (fun hb => ?_) fun hb => ?_
  · have hnil : byL b N l = [] := hany.1 (by rw [hb194] at hb; simpa using hb)
    have e1 : oneB l b N (B.map (·.N), nx) = (B.map (·.N), nx ++ [-1]) := by unfold oneB; rw [if_pos hnil]
    have hlt : ¬ M < (oneB l b N (B.map (·.N), nx)).1.length := by rw [e1]; simp; omega
    unfold dRow at hD
    rw [if_neg hlt, e1] at hD
    exact S192.addN (n0 := n80) (by simp) hn80' (-1) (by omega) fun na' nc' w' S' => ⟨a, cc, B, na', nc', nx ++ [-1], rfl, rfl, S', htg, hBM, hN, hBl, by simp; omega, hD⟩
  have hnn : byL b N l ≠ [] := fun e => by
    have := hany.2 e
    rw [hb194, this] at hb
    simp at hb
  refine LoopP_in (fun m3 us vs w' => ∃ (k : Nat), us = [.int .i64 k] ∧ m3 = B.length - k ∧ k ≤ B.length ∧ Md [] w192 w' ∧ idxB St (B.map (·.N)) 0 = idxB St ((B.map (·.N)).drop k) k) B.length
    ⟨0, rfl, rfl, by omega, Md.refl _ _, rfl⟩ ?_
  rintro m3 us vs w206 ⟨k, rfl, hm3, hk', m206, hidx⟩
  have S206 := S192.md0 m206
  have own206 := own192.md m206
  refine opI_in <| Bd_e rfl <| Bd_in fun b209 hb209 => ⟨fun h => ?_, ?_⟩
  · have hkb : k < B.length := by rw [hb209] at h; have : (k : Int) < (B.length : Int) := of_decide_eq_true h
                                  omega
    exact (S206.own.row encrb).ix hkb
  refine Gd_to (fun (u : Option Addr × Nat × Nat) w' => (∀ (h : k < B.length), u = (B[k].a, B[k].N.length, B[k].c)) ∧ w' = w206) (fun u w217 hJ => ?_) (fun fin hcn => ?_) (fun hcn => ⟨fun h => by rw [hb209] at hcn; have := of_decide_eq_false hcn; omega, rfl⟩)
  case refine_2 =>
    have hkb : k < B.length := by rw [hb209] at hcn; have : (k : Int) < (B.length : Int) := of_decide_eq_true hcn
                                  omega
    exact (S206.own.row encrb).ld1 hkb rfl <| opL_in <| fin _ _ ⟨fun _ => rfl, rfl⟩
  obtain ⟨hu, rfl⟩ := hJ
  refine Gd_to (fun x w' => (∀ (h : k < B.length), x = decide (B[k].N = St)) ∧ Md [] w217 w') (fun x w223 hJ => ?_) (fun fin hcn => ?_) (fun hcn => ⟨(fun h => by rw [hb209] at hcn; have := of_decide_eq_false hcn; omega), Md.refl _ _⟩)
  case refine_2 =>
    have hkb : k < B.length := by rw [hb209] at hcn; have : (k : Int) < (B.length : Int) := of_decide_eq_true hcn
                                  omega
    rw [hu hkb]
    have hkl := hBl _ (List.getElem_mem hkb)
    refine (f204_ok B[k].N St B[k].a A B[k].c C w217 ((S206.rows _ (List.getElem_mem hkb)).row encbE) (own206.row encbE) (by rw [hSl, hkl]) (by omega)).call S206.lt ?_
    rintro v w220 rfl m220
    exact opB_in <| fin _ _ ⟨fun _ => rfl, m220⟩
  obtain ⟨hx, m223⟩ := hJ
  have S223 := S206.md0 m223
  have own223 := own206.md m223
  refine Bd_in fun b224 hb224 => Bd_in fun b225 hb225 => If_in (fun hb => ?_) fun hb => ?_
  · have hkb : k < B.length := by
      rw [hb225] at hb
      cases h : b209 with
      | false => rw [h] at hb; cases hb
      | true => rw [hb209] at h; have : (k : Int) < (B.length : Int) := of_decide_eq_true h; omega
    have hne : ¬ St = B[k].N := fun e => by
      have h1 := hx hkb
      rw [decide_eq_true e.symm] at h1
      rw [hb225, hb224, h1] at hb
      revert hb
      cases b209 <;> simp
    refine Bd_e (inc_i64 (by omega)) ⟨B.length - (k + 1), by omega, k + 1, rfl, rfl, by omega, m206.trans m223, ?_⟩
    have := idxB_drop (N := St) (B.map (·.N)) 0 k (by simpa using hkb)
    simp only [Nat.zero_add, List.getElem_map] at this
    rw [hidx, this, if_neg hne]
  · have hcase : (k < B.length ∧ idxB St (B.map (·.N)) 0 = some k) ∨ (k = B.length ∧ idxB St (B.map (·.N)) 0 = none) := by
      by_cases hkb : k < B.length
      · left
        refine ⟨hkb, ?_⟩
        have h1 := hx hkb
        have h9 : b209 = true := by rw [hb209]; exact decide_eq_true (by omega)
        have he : St = B[k].N := by
          rw [hb225, hb224, h9, h1] at hb
          by_cases e : B[k].N = St
          · exact e.symm
          · rw [decide_eq_false e] at hb; cases hb
        have := idxB_drop (N := St) (B.map (·.N)) 0 k (by simpa using hkb)
        simp only [Nat.zero_add, List.getElem_map] at this
        rw [hidx, this, if_pos he]
      · right
        have : k = B.length := by omega
        refine ⟨this, ?_⟩
        rw [hidx, List.drop_of_length_le (by simp; omega)]
        rfl
    refine Jn_in (fun us vs w' => ∃ (a' : Option Addr) (c' : Nat) (B' : List Rb), us = [.slice a' B'.length c'] ∧ Lr [n80, n3, n2, n1] w26 w' a' c' B' na nc nx ta tc tg ∧ oneB l b N (B.map (·.N), nx) = (B'.map (·.N), nx ++ [(k : Int)]) ∧ (∀ p ∈ B', p.N.length = l.length) ∧ (B'.map (·.N))[i]? = some N ∧ B'.length ≤ M + 1 ∧ tg = tagL l ((B'.map (·.N)).take (i + 1))) ?_ ?_
    · rintro us vs w229 ⟨a', c', B', rfl, S229, e1, hB'l, hN', hB'2, htg'⟩
      refine opL_in <| Bd_e rfl <| Bd_in fun b234 hb234 => If_in (fun hb => ?_) fun hb => ?_
      · have hlt : M < (oneB l b N (B.map (·.N), nx)).1.length := by
          rw [hb234] at hb
          have : (B'.length : Int) > most := of_decide_eq_true hb
          rw [e1]; simp; omega
        unfold dRow at hD
        rw [if_pos hlt] at hD
        have hTn : T = none := by rw [← hD]; rfl
        intro w' hm _
        rw [hTn]
        exact DmOut.err 40 ((h0.trans S229.md).old hm (by simp; exact hn3))
      · have hle : B'.length ≤ M := by
          rw [hb234] at hb
          have : ¬ (B'.length : Int) > most := of_decide_eq_false hb
          omega
        have hlt : ¬ M < (oneB l b N (B.map (·.N), nx)).1.length := by rw [e1]; simp; omega
        unfold dRow at hD
        rw [if_neg hlt, e1] at hD
        exact S229.addN (n0 := n80) (by simp) hn80' k (by omega) fun na' nc' w' S' => ⟨a', c', B', na', nc', nx ++ [(k : Int)], rfl, rfl, S', htg', hle, hN', hB'l, by simp; omega, hD⟩
    · refine Bd_e rfl <| Bd_in fun b246 hb246 => If_in (fun hb => ?_) fun hb => ?_
      · obtain ⟨hkB, hno⟩ : k = B.length ∧ idxB St (B.map (·.N)) 0 = none := by
          rcases hcase with ⟨h1, _⟩ | h
          · rw [hb246] at hb; simp at hb; omega
          · exact h
        refine S223.addB St A C _ own223 Sd.md.size Sd.lt (by omega) fun a' c' w' S' => ⟨a', c', B ++ [⟨A, C, St⟩], rfl, S', ?_, fun p hp => ?_, ?_, by simp; omega, ?_⟩
        · unfold oneB
          rw [if_neg hnn]
          simp only [hby, hno, List.length_map, hkB, List.map_append, List.map_cons, List.map_nil]
        · rcases List.mem_append.1 hp with h | h
          · exact hBl p h
          · simp at h; subst h; exact hSl
        · rw [List.map_append, List.getElem?_append_left (by simpa using hib)]; exact hN
        · rw [List.map_append, List.take_append_of_le_length (by simp; omega)]; exact htg
      · obtain ⟨hkB, hso⟩ : k < B.length ∧ idxB St (B.map (·.N)) 0 = some k := by
          rcases hcase with h | ⟨h1, _⟩
          · exact h
          · rw [hb246, h1] at hb; simp at hb
        refine ⟨a, cc, B, rfl, S223, ?_, hBl, hN, by omega, htg⟩
        unfold oneB
        rw [if_neg hnn]
        simp only [hby, hso]
end Fk
set_option linter.unusedVariables false
set_option linter.unusedSimpArgs false
namespace Fk
open Go Go.Proofs Go.RowKit
def cntK (k : Int) (n s : Nat) : Nat := (if k = 1 ∨ k = 4 then 1 else if k = 3 then n - 1 else 0) + s
/-- How many states trees make. -/
def Fo.cnt : Fo → Nat
  | .nil => 0
  | .cons k _ _ _ _ q r => cntK k q.len q.cnt + r.cnt
def Fo.cnt1 : Fo → Nat
  | .nil => 0
  | .cons k _ _ _ _ q r => cntK k q.len q.cnt
theorem len_zero : ∀ {f : Fo}, f.len = 0 → f = .nil
  | .nil, _ => rfl
  | .cons _ _ _ _ _ _ r, h => by simp [Fo.len] at h
theorem nodeOk_inv {k : Int} {z : Bool} {n : Nat} (h : nodeOk k z n = true) : (k = 0 ∧ n = 0 ∧ z = true) ∨ (k = 1 ∧ n = 0 ∧ z = false) ∨ (k = 2 ∧ 2 ≤ n ∧ z = true) ∨ (k = 3 ∧ 2 ≤ n ∧ z = true) ∨ (k = 4 ∧ n = 1 ∧ z = true) := by
  unfold nodeOk at h
  cases z <;> simp at h ⊢ <;> omega
theorem mst_min (most : Nat) (l : List Ns) (x : Ns) (h : l.length ≤ most + 1) : (mst most l x).length = min (l.length + 1) (most + 1) := by
  unfold mst
  split
  · simp; omega
  · omega
theorem tw_min (most : Nat) : ∀ f : Fo, f.right = true →
    (∀ p : List Ns × Int, p.1.length ≤ most + 1 → ((tw most f).cat p).1.length = min (p.1.length + f.cnt) (most + 1)) ∧
    (∀ (to : Int) (l : List Ns), l.length ≤ most + 1 → ((tw most f).alt to l).1.length = min (l.length + (f.cnt + (f.len - 1))) (most + 1) ∧ (((tw most f).alt to l).2 = none ↔ f.len = 0)) ∧
    (∀ p : List Ns × Int, p.1.length ≤ most + 1 → ((tw most f).one p).1.length = min (p.1.length + f.cnt1) (most + 1))
  | .nil, _ => by
    refine ⟨fun p h => ?_, fun to l h => ⟨?_, by simp [tw, Fo.len]⟩, fun p h => ?_⟩
    · show p.1.length = _; simp [Fo.cnt]; omega
    · show l.length = _; simp [Fo.cnt, Fo.len]; omega
    · show p.1.length = _; simp [Fo.cnt1]; omega
  | .cons k a b c d q r, hr => by
    simp only [Fo.right, Bool.and_eq_true] at hr
    obtain ⟨q1, q2, q3⟩ := tw_min most q hr.1.2
    obtain ⟨r1, r2, r3⟩ := tw_min most r hr.2
    have hn := nodeOk_inv hr.1.1
    have one : ∀ p : List Ns × Int, p.1.length ≤ most + 1 → (twOne most k a b c d (tw most q) p).1.length = min (p.1.length + cntK k q.len q.cnt) (most + 1) := by
      intro p hp
      unfold twOne
      split
      · omega
      · rename_i hfull
        rcases hn with ⟨rfl, h2, _⟩ | ⟨rfl, h2, _⟩ | ⟨rfl, h2, _⟩ | ⟨rfl, h2, _⟩ | ⟨rfl, h2, _⟩
        · have := len_zero h2; subst this
          simp [cntK, Fo.cnt]; omega
        · have := len_zero h2; subst this
          simp only [if_true, cntK, Fo.cnt]
          have := mst_min most p.1 ⟨1, a, b, c, d, p.2, 0, 0⟩ hp
          simpa [pst] using this
        · simp [cntK]; have := q1 p hp; simpa using this
        · simp [cntK]
          rw [(q2 p.2 p.1 hp).1]
          omega
        · have hq : q.cnt1 = q.cnt := by
            cases q with
            | nil => simp [Fo.len] at h2
            | cons k' a' b' c' d' q' r' =>
              have hr' : r' = .nil := len_zero (by simp [Fo.len] at h2; omega)
              subst hr'
              simp [Fo.cnt, Fo.cnt1]
          simp [cntK, setA_len]
          have h1 := mst_min most p.1 (spl 0 p.2) hp
          have h3 := q3 (pst most p.1 (spl 0 p.2)) (by simp only [pst]; omega)
          simp only [pst] at h3 ⊢
          rw [h3, h1, hq]
          omega
    refine ⟨fun p hp => ?_, fun to l hl => ⟨?_, ?_⟩, fun p hp => one p hp⟩
    · have h1 := r1 p hp
      have h2 := one ((tw most r).cat p) (by omega)
      show (twOne most k a b c d (tw most q) ((tw most r).cat p)).1.length = _
      rw [h2, h1]
      simp only [Fo.cnt]
      omega
    · have h1 := r2 to l hl
      have h2 := one (((tw most r).alt to l).1, to) (by simp only; omega)
      simp only at h2
      show (twAlt most _ _ to l).1.length = _
      unfold twAlt
      simp only [Fo.cnt, Fo.len]
      cases hq : ((tw most r).alt to l).2 with
      | none =>
        have := h1.2.1 hq
        have hrn := len_zero this
        subst hrn
        simp only
        rw [h2, h1.1]
        simp [Fo.len, Fo.cnt]; omega
      | some at' =>
        have : ¬ r.len = 0 := fun h => by rw [h1.2.2 h] at hq; cases hq
        simp only
        have h3 := mst_min most (twOne most k a b c d (tw most q) (((tw most r).alt to l).1, to)).1 (spl (twOne most k a b c d (tw most q) (((tw most r).alt to l).1, to)).2 at') (by omega)
        show (mst most _ _).length = _
        rw [h3, h2, h1.1]
        omega
    · show (twAlt most _ _ to l).2 = none ↔ _
      unfold twAlt
      simp only [Fo.len]
      cases ((tw most r).alt to l).2 <;> simp
theorem mst_agree {most M : Nat} {l : List Ns} (x : Ns) (h : l.length ≤ most) (hM : most ≤ M) : mst most l x = mst M l x := by
  unfold mst
  rw [if_pos h, if_pos (by omega)]
/-- Where the cap is not met it does not matter. -/
theorem tw_agree {most M : Nat} (hM : most ≤ M) : ∀ f : Fo, f.right = true →
    (∀ p : List Ns × Int, p.1.length + f.cnt ≤ most → (tw most f).cat p = (tw M f).cat p) ∧
    (∀ (to : Int) (l : List Ns), l.length + (f.cnt + (f.len - 1)) ≤ most → (tw most f).alt to l = (tw M f).alt to l) ∧
    (∀ p : List Ns × Int, p.1.length + f.cnt1 ≤ most → (tw most f).one p = (tw M f).one p)
  | .nil, _ => ⟨fun p h => rfl, fun to l h => rfl, fun p h => rfl⟩
  | .cons k a b c d q r, hr => by
    have hr0 := hr
    simp only [Fo.right, Bool.and_eq_true] at hr
    obtain ⟨q1, q2, q3⟩ := tw_agree hM q hr.1.2
    obtain ⟨r1, r2, r3⟩ := tw_agree hM r hr.2
    have hn := nodeOk_inv hr.1.1
    have one : ∀ p : List Ns × Int, p.1.length + cntK k q.len q.cnt ≤ most → twOne most k a b c d (tw most q) p = twOne M k a b c d (tw M q) p := by
      intro p hp
      unfold twOne
      rw [if_neg (show ¬ p.1.length > most by omega), if_neg (show ¬ p.1.length > M by omega)]
      rcases hn with ⟨rfl, h2, _⟩ | ⟨rfl, h2, _⟩ | ⟨rfl, h2, _⟩ | ⟨rfl, h2, _⟩ | ⟨rfl, h2, _⟩
      · simp
      · simp only [if_true]
        unfold pst
        rw [mst_agree _ (by omega) hM]
      · simp [cntK] at hp ⊢; exact q1 p hp
      · simp [cntK] at hp ⊢
        have := q2 p.2 p.1 (by omega)
        rw [this]
        exact ⟨rfl, rfl⟩
      · have hq : q.cnt1 = q.cnt := by
          cases q with
          | nil => simp [Fo.len] at h2
          | cons k' a' b' c' d' q' r' =>
            have hr' : r' = .nil := len_zero (by simp [Fo.len] at h2; omega)
            subst hr'
            simp [Fo.cnt, Fo.cnt1]
        simp [cntK] at hp ⊢
        have h1 : pst most p.1 (spl 0 p.2) = pst M p.1 (spl 0 p.2) := by unfold pst; rw [mst_agree _ (by omega) hM]
        have h2 := mst_min M p.1 (spl 0 p.2) (by omega)
        rw [h1]
        have h3 := q3 (pst M p.1 (spl 0 p.2)) (by simp only [pst]; omega)
        rw [h3]
        exact ⟨rfl, rfl⟩
    refine ⟨fun p hp => ?_, fun to l hl => ?_, fun p hp => one p hp⟩
    · simp only [Fo.cnt] at hp
      have h1 := (tw_min M r hr.2).1 p (by omega)
      show twOne most k a b c d (tw most q) ((tw most r).cat p) = twOne M k a b c d (tw M q) ((tw M r).cat p)
      rw [r1 p (by omega)]
      exact one _ (by omega)
    · simp only [Fo.cnt, Fo.len] at hl
      have h1 := (tw_min M r hr.2).2.1 to l (by omega)
      show twAlt most _ _ to l = twAlt M _ _ to l
      unfold twAlt
      dsimp only
      rw [r2 to l (by omega)]
      have h2 := one (((tw M r).alt to l).1, to) (by simp only; omega)
      rw [h2]
      have h3 := (tw_min M (.cons k a b c d q r) hr0).2.2 (((tw M r).alt to l).1, to) (by simp only; omega)
      change (twOne M k a b c d (tw M q) (((tw M r).alt to l).1, to)).1.length = _ at h3
      simp only [Fo.cnt1] at h3
      cases hq : ((tw M r).alt to l).2 with
      | none => rfl
      | some at' =>
        have : ¬ r.len = 0 := fun h => by rw [h1.2.2 h] at hq; cases hq
        simp only [pst]
        rw [mst_agree _ (by omega) hM]
end Fk
set_option linter.unusedVariables false
set_option linter.unusedSimpArgs false
set_option maxRecDepth 100000
set_option maxHeartbeats 2000000
namespace Fk
open Go Go.Proofs Go.RowKit
structure RS (w0 w : World) (a : Option Addr) (c : Nat) (l : List Ns) : Prop where
  md : Md [] w0 w
  own : OwnL w w0.heap.size 103 8 nsE a c l
/-- A row of states that one appends to, from a world on. -/
structure Sq (w0 wb : World) (pa : Option Addr) (n1 : Nat) (w : World) (a : Option Addr) (c : Nat) (l : List Ns) : Prop where
  rs : RS w0 w a c l
  md : Md (pa.map (·.block)).toList wb w
  rel : ∀ A, a = some A → pa = some A ∨ wb.heap.size ≤ A.block
  nlt : n1 < wb.heap.size
  np : ∀ A, pa = some A → A.block ≠ n1
section
variable {w0 wb w : World} {pa a : Option Addr} {n1 c : Nat} {l : List Ns}
theorem Sq.ln (S : Sq w0 wb pa n1 w a c l) : ∀ b ∈ [n1], b < w.heap.size := fun b hb => by simp at hb; subst hb; have := S.nlt; have := S.md.size; omega
theorem Sq.step (S : Sq w0 wb pa n1 w a c l) {w' : World} {a' : Option Addr} {c' : Nat} {l' : List Ns} (h : RS w0 w' a' c' l') (hm : Md (a.map (·.block)).toList w w') (hA : ∀ A, a' = some A → a = some A ∨ w.heap.size ≤ A.block) : Sq w0 wb pa n1 w' a' c' l' :=
  ⟨h, S.md.row hm S.rel, fun A h1 => by
    rcases hA A h1 with h2 | h2
    · exact S.rel A h2
    · have := S.md.size; right; omega, S.nlt, S.np⟩
end
end Fk
set_option linter.unusedVariables false
set_option linter.unusedSimpArgs false
set_option maxRecDepth 100000
set_option maxHeartbeats 2000000
namespace Fk
open Go Go.Proofs Go.RowKit
theorem one_min {most : Nat} {k a b c d : Int} {q : Fo} (hn : nodeOk k (z4 a b c d) q.len = true) (hq : q.right = true) (p : List Ns × Int) (h : p.1.length ≤ most + 1) : (twOne most k a b c d (tw most q) p).1.length = min (p.1.length + cntK k q.len q.cnt) (most + 1) :=
  (tw_min most (.cons k a b c d q .nil) (by simp [Fo.right, hn, hq])).2.2 p h
theorem one_agree {most M : Nat} (hM : most ≤ M) {k a b c d : Int} {q : Fo} (hn : nodeOk k (z4 a b c d) q.len = true) (hq : q.right = true) (p : List Ns × Int) (h : p.1.length + cntK k q.len q.cnt ≤ most) : twOne most k a b c d (tw most q) p = twOne M k a b c d (tw M q) p :=
  (tw_agree hM (.cons k a b c d q .nil) (by simp [Fo.right, hn, hq])).2.2 p h
theorem bldF_min (most : Nat) : ∀ (f : Fo) (i : Int) (l : List Ns) (bs : List Int), f.right = true → l.length ≤ most + 1 → (bldF most f i l bs).1.length = min (l.length + (f.cnt + f.len)) (most + 1) ∧ (bldF most f i l bs).2.length = bs.length + f.len
  | .nil, i, l, bs, _, hl => by simp only [bldF, Fo.cnt, Fo.len]; omega
  | .cons k a b c d q r, i, l, bs, hr, hl => by
    simp only [Fo.right, Bool.and_eq_true] at hr
    have h1 := mst_min most l ⟨0, 0, 0, 0, 0, 0, 0, i⟩ hl
    have h2 := one_min (most := most) hr.1.1 hr.1.2 (pst most l ⟨0, 0, 0, 0, 0, 0, 0, i⟩) (by simp only [pst]; omega)
    simp only [pst] at h2
    obtain ⟨h3, h4⟩ := bldF_min most r (i + 1) (twOne most k a b c d (tw most q) (pst most l ⟨0, 0, 0, 0, 0, 0, 0, i⟩)).1 (bs ++ [(twOne most k a b c d (tw most q) (pst most l ⟨0, 0, 0, 0, 0, 0, 0, i⟩)).2]) hr.2 (by simp only [pst]; omega)
    simp only [bldF, Fo.cnt, Fo.len]
    simp only [pst] at h3 h4 ⊢
    rw [h3, h4, h2, h1]
    simp
    omega
theorem bldF_agree {most M : Nat} (hM : most ≤ M) : ∀ (f : Fo) (i : Int) (l : List Ns) (bs : List Int), f.right = true → l.length + (f.cnt + f.len) ≤ most → bldF most f i l bs = bldF M f i l bs
  | .nil, i, l, bs, _, hl => rfl
  | .cons k a b c d q r, i, l, bs, hr, hl => by
    simp only [Fo.right, Bool.and_eq_true] at hr
    simp only [Fo.cnt, Fo.len] at hl
    have e1 : pst most l ⟨0, 0, 0, 0, 0, 0, 0, i⟩ = pst M l ⟨0, 0, 0, 0, 0, 0, 0, i⟩ := by unfold pst; rw [mst_agree _ (by omega) hM]
    have h1 := mst_min M l ⟨0, 0, 0, 0, 0, 0, 0, i⟩ (by omega)
    have e2 := one_agree hM hr.1.1 hr.1.2 (pst M l ⟨0, 0, 0, 0, 0, 0, 0, i⟩) (by simp only [pst]; omega)
    have h2 := one_min (most := M) hr.1.1 hr.1.2 (pst M l ⟨0, 0, 0, 0, 0, 0, 0, i⟩) (by simp only [pst]; omega)
    simp only [bldF]
    rw [e1, e2]
    refine bldF_agree hM r _ _ _ hr.2 ?_
    rw [h2]
    simp only [pst]
    omega
theorem joinB_min (most : Nat) : ∀ (bs : List Int) (l : List Ns), l.length ≤ most + 1 → (joinB most bs l).1.length = min (l.length + (bs.length - 1)) (most + 1)
  | [], l, h => by simp [joinB]; omega
  | [b], l, h => by simp [joinB]; omega
  | b :: b2 :: bs, l, h => by
    have h1 := joinB_min most (b2 :: bs) l h
    have h2 := mst_min most (joinB most (b2 :: bs) l).1 (spl b (joinB most (b2 :: bs) l).2) (by omega)
    show (mst most _ _).length = _
    rw [h2, h1]
    simp
    omega
theorem joinB_agree {most M : Nat} (hM : most ≤ M) : ∀ (bs : List Int) (l : List Ns), l.length + (bs.length - 1) ≤ most → joinB most bs l = joinB M bs l
  | [], l, h => rfl
  | [b], l, h => rfl
  | b :: b2 :: bs, l, h => by
    simp only [List.length_cons] at h
    have h1 := joinB_agree hM (b2 :: bs) l (by simp; omega)
    have h2 := joinB_min M (b2 :: bs) l (by omega)
    simp only [List.length_cons] at h2
    show pst most (joinB most (b2 :: bs) l).1 _ = pst M (joinB M (b2 :: bs) l).1 _
    rw [h1]
    unfold pst
    rw [mst_agree _ (by omega) hM]
def Fo.total (f : Fo) : Nat := f.cnt + (2 * f.len - 1)
/-- The machine with a cap that is not met. -/
def bldM (f : Fo) : List Ns × Int := joinB 20000 (bldF 20000 f 0 [] []).2 (bldF 20000 f 0 [] []).1
theorem bld_eq {f : Fo} {most : Int} (h1 : 1 ≤ f.len) (h2 : f.len ≤ 200) (h3 : 1 ≤ most) (h4 : most ≤ 20000) (hr : f.right = true) : bld f most = if most < f.total then ((0, []), 40) else (((bldM f).2, (bldM f).1), 0) := by
  obtain ⟨m, rfl⟩ := Int.eq_ofNat_of_zero_le (show 0 ≤ most by omega)
  unfold bld
  rw [if_pos ⟨h1, h2, h3, h4, hr⟩]
  simp only [Int.toNat_natCast]
  obtain ⟨b1, b2⟩ := bldF_min m f 0 [] [] hr (by simp)
  have b3 := joinB_min m (bldF m f 0 [] []).2 (bldF m f 0 [] []).1 (by omega)
  simp only [List.length_nil] at b1 b2
  unfold Fo.total
  by_cases hc : (m : Int) < ((f.cnt + (2 * f.len - 1) : Nat) : Int)
  · rw [if_pos hc, if_pos (by omega)]
  · rw [if_neg hc, if_neg (by omega)]
    unfold bldM
    have e1 := bldF_agree (show m ≤ 20000 by omega) f 0 [] [] hr (by simp; omega)
    rw [e1] at b1 b2 ⊢
    rw [joinB_agree (show m ≤ 20000 by omega) _ _ (by omega)]
theorem bldM_len {f : Fo} (h1 : 1 ≤ f.len) (hr : f.right = true) (h : f.total ≤ 20000) : (bldM f).1.length = f.total := by
  obtain ⟨b1, b2⟩ := bldF_min 20000 f 0 [] [] hr (by simp)
  have b3 := joinB_min 20000 (bldF 20000 f 0 [] []).2 (bldF 20000 f 0 [] []).1 (by omega)
  simp only [List.length_nil] at b1 b2
  unfold bldM
  unfold Fo.total at h ⊢
  rw [b3]
  omega
/-- States, and beginnings. -/
structure S2 (wb : World) (n1 : Nat) (w : World) (a : Option Addr) (c : Nat) (l : List Ns) (a2 : Option Addr) (c2 : Nat) (bs : List Int) : Prop where
  q : Sq wb wb none n1 w a c l
  o : OwnL w wb.heap.size 3 1 i1 a2 c2 bs
  ap : Apt a2 a
section
variable {wb w : World} {a a2 : Option Addr} {n1 c c2 : Nat} {l : List Ns} {bs : List Int}
theorem S2.st (S : S2 wb n1 w a c l a2 c2 bs) {w' : World} {a' : Option Addr} {c' : Nat} {l' : List Ns} (h : Sq wb wb none n1 w' a' c' l') (hm : Md (a.map (·.block)).toList w w') (hA : ∀ A, a' = some A → a = some A ∨ w.heap.size ≤ A.block) : S2 wb n1 w' a' c' l' a2 c2 bs :=
  ⟨h, S.o.mdD hm fun A hA' hd => by obtain ⟨B, hB, e⟩ := mem_blk hd; exact S.ap A B hA' hB e.symm, fun A B hA' hB e => by
    rcases hA B hB with h1 | h1
    · exact S.ap A B hA' h1 e
    · have := (S.o.lt hA').2; omega⟩
end
end Fk
set_option linter.unusedVariables false
set_option linter.unusedSimpArgs false
set_option maxRecDepth 100000
set_option maxHeartbeats 2000000
namespace Fk
open Go Go.Proofs Go.RowKit
def reZ (_ : Unit) : List Value := [.int .u8 0, .int .u64 0, .int .u64 0, .int .u64 0, .int .u64 0, .slice none 0 0]
theorem encZ : Enc 6 reZ := ⟨fun _ => rfl, by intro x v hv; simp [reZ] at hv; rcases hv with rfl | rfl | rfl <;> rfl⟩
end Fk
set_option linter.unusedVariables false
set_option linter.unusedSimpArgs false
set_option maxRecDepth 100000
set_option maxHeartbeats 2000000
namespace Fk
open Go Go.Proofs Go.RowKit
theorem rgU {L : List Nat} {w0 w : World} {K : Nat → World → Prop} (h : Good L w0 w) (k : ∀ n w', Good (n :: L) w0 w' → Md [] w w' → K n w') : Rg w fun n => Up [n] (n :: L) w (K n) :=
  fun n hn w' hm hL => k n w' ⟨h.1.trans (hm.fresh (by simp; exact hn)), hL⟩ (hm.fresh (by simp; exact hn))
section
variable {L : List Nat} {w0 w : World}
theorem in66 (f : Fo) (A : Option Addr) (C : Nat) (most : Int) (h : Good L w0 w) (hr : RepF w A 0 f) (hl : f.len < 2 ^ 63) {K : Int → Option Addr → Nat → Nat → Int → World → Prop}
    (kk : ∀ a c w', Good L w0 w' → Md [] w w' → OwnL w' w.heap.size 103 8 nsE a c (bld f most).1.2 → K (bld f most).1.1 a (bld f most).1.2.length c (bld f most).2 w') :
    CallW Try.prog L 66 #[.slice A f.len C, .int .i64 most] (fun v w' => opTu v fun cs => opAg (nthD cs.toList 0) fun cs2 => opI .i64 (nthD cs2.toList 0) fun x => opL (nthD cs2.toList 1) fun a n c => SzIs cs2.size 2 (opI .i64 (nthD cs.toList 1) fun e => SzIs cs.size 2 (K x a n c e w'))) w := by
  refine (f66_ok f A C most w hr hl).call h.2 ?_
  rintro v w' ⟨a, c, rfl, own⟩ h'
  exact opTu_in <| opAg_in <| opI_in <| opL_in <| SzIs_in rfl <| opI_in <| SzIs_in rfl <| kk a c w' (h.tr h') h' own
theorem in73 (a b : List Int) (A B : Option Addr) (C D : Nat) (h : Good L w0 w) (ha : RowAt w A 1 i1 a) (hb : RowAt w B 1 i1 b) (hl : a.length < 2 ^ 63) {K : Bool → World → Prop} (kk : ∀ w', Good L w0 w' → Md [] w w' → K (decide (a = b)) w') :
    CallW Try.prog L 73 #[.slice A a.length C, .slice B b.length D] (fun v w' => opB v fun b => K b w') w := by
  refine (f73_ok a b A B C D w ha hb hl).call h.2 ?_
  rintro v w' rfl h'
  exact opB_in (kk w' (h.tr h') h')
end
def exF : Fo := .cons 1 0 17179869184 0 0 .nil (.cons 4 0 0 0 0 (.cons 1 0 8589934592 0 0 .nil .nil) .nil)
def exS : List Ns := [⟨0, 0, 0, 0, 0, 0, 0, 0⟩, ⟨1, 0, 17179869184, 0, 0, 0, 0, 0⟩, ⟨0, 0, 0, 0, 0, 0, 0, 1⟩, ⟨2, 0, 0, 0, 0, 4, 2, 0⟩, ⟨1, 0, 8589934592, 0, 0, 3, 0, 0⟩, ⟨2, 0, 0, 0, 0, 1, 3, 0⟩]
def o42a (m : Int) : Obj := .cells #[.int .u8 1, .int .u64 0, .int .u64 m, .int .u64 0, .int .u64 0, .slice none 0 0] 42
def o42b (m : Int) (n : Nat) : Obj := .cells #[.int .u8 1, .int .u64 0, .int .u64 m, .int .u64 0, .int .u64 0, .slice none 0 0, .int .u8 4, .int .u64 0, .int .u64 0, .int .u64 0, .int .u64 0, .slice (some ⟨n, 0, none⟩) 1 1] 42
theorem ReC.blk {w : World} {n : Nat} {ty : TypeId} {l : List Value} (h : Blk w n ty l) (o : Nat) {k a b c d : Int} {sa : Option Addr} {sn sc : Nat}
    (e0 : l[o]? = some (.int .u8 k)) (e1 : l[o + 1]? = some (.int .u64 a)) (e2 : l[o + 2]? = some (.int .u64 b)) (e3 : l[o + 3]? = some (.int .u64 c)) (e4 : l[o + 4]? = some (.int .u64 d)) (e5 : l[o + 5]? = some (.slice sa sn sc)) :
    ReC w ((Addr.mk n 0 none).add o) k a b c d sa sn sc := by
  have e : ∀ j, ((Addr.mk n 0 none).add o).add j = ⟨n, o + j, none⟩ := fun j => by rw [add_add, ad0']
  unfold ReC
  rw [e, e, e, e, e, e]
  exact ⟨h.cell e0, h.cell e1, h.cell e2, h.cell e3, h.cell e4, h.cell e5⟩
theorem exRep (w : World) : RepF ((w.alloc (o42a 8589934592)).alloc (o42b 17179869184 w.heap.size)) (some ⟨(w.alloc (o42a 8589934592)).heap.size, 0, none⟩) 0 exF := by
  have b1 : Blk (w.alloc (o42a 8589934592)) w.heap.size 42 _ := Blk.new w _ 42
  have b2 : Blk ((w.alloc (o42a 8589934592)).alloc (o42b 17179869184 w.heap.size)) (w.alloc (o42a 8589934592)).heap.size 42 _ := Blk.new (w.alloc (o42a 8589934592)) _ 42
  have b1' := b1.md (Md.alloc (M := []) _ (o42b 17179869184 w.heap.size)) (by simp)
  simp only [exF, RepF, Fo.len]
  refine ⟨⟨_, none, 0, rfl, ReC.blk b2 0 rfl rfl rfl rfl rfl rfl, by omega, trivial⟩, ⟨_, _, 1, rfl, ReC.blk b2 6 rfl rfl rfl rfl rfl rfl, by omega, ⟨_, none, 0, rfl, ReC.blk b1' 0 rfl rfl rfl rfl rfl rfl, by omega, trivial⟩, trivial⟩, trivial⟩
theorem Nw_cs {cs cs' : Array Value} {ty : TypeId} {w : World} {K : Nat → World → Prop} (h : cs' = cs) (k : K w.heap.size (w.alloc (.cells cs ty))) : Nw (.cells cs' ty) w K := by
  subst h
  exact Nw_i k
end Fk
set_option linter.unusedVariables false
set_option linter.unusedSimpArgs false
set_option maxRecDepth 100000
set_option maxHeartbeats 2000000
namespace Fk
open Go Go.Proofs Go.RowKit
def KK0 (l : List Ns) : Prop := ∀ x ∈ l, 0 ≤ x.k
theorem mst_k {most : Nat} {l : List Ns} {x : Ns} (h : KK0 l) (hx : 0 ≤ x.k) : KK0 (mst most l x) := by
  unfold mst
  split
  · intro y hy
    rcases List.mem_append.1 hy with h1 | h1
    · exact h y h1
    · simp at h1; subst h1; exact hx
  · exact h
theorem setA_k {l : List Ns} {i k : Int} (h : KK0 l) : KK0 (setA l i k) := by
  unfold setA
  split
  · rename_i x hx
    intro y hy
    rcases List.mem_or_eq_of_mem_set hy with h1 | h1
    · exact h y h1
    · subst h1; exact h x (List.mem_of_getElem? hx)
  · exact h
theorem tw_k (most : Nat) : ∀ f : Fo, (∀ p : List Ns × Int, KK0 p.1 → KK0 ((tw most f).cat p).1) ∧ (∀ (to : Int) (l : List Ns), KK0 l → KK0 ((tw most f).alt to l).1) ∧ (∀ p : List Ns × Int, KK0 p.1 → KK0 ((tw most f).one p).1)
  | .nil => ⟨fun p h => h, fun to l h => h, fun p h => h⟩
  | .cons k a b c d q r => by
    obtain ⟨q1, q2, q3⟩ := tw_k most q
    obtain ⟨r1, r2, r3⟩ := tw_k most r
    have one : ∀ p : List Ns × Int, KK0 p.1 → KK0 (twOne most k a b c d (tw most q) p).1 := by
      intro p hp
      unfold twOne
      split
      · exact hp
      · split
        · exact mst_k hp (by simp)
        · split
          · exact q1 p hp
          · split
            · exact q2 _ _ hp
            · split
              · exact setA_k (q3 _ (mst_k hp (by simp [spl])))
              · exact hp
    refine ⟨fun p hp => one _ (r1 p hp), fun to l hl => ?_, one⟩
    show KK0 (twAlt most _ _ to l).1
    unfold twAlt
    simp only
    split
    · exact one _ (r2 to l hl)
    · exact mst_k (one _ (r2 to l hl)) (by simp [spl])
theorem bldF_k (most : Nat) : ∀ (f : Fo) (i : Int) (l : List Ns) (bs : List Int), KK0 l → KK0 (bldF most f i l bs).1
  | .nil, i, l, bs, h => h
  | .cons k a b c d q r, i, l, bs, h => by
    simp only [bldF]
    refine bldF_k most r _ _ _ ?_
    exact (tw_k most (.cons k a b c d q .nil)).2.2 _ (mst_k h (Int.le_refl 0))
theorem joinB_k (most : Nat) : ∀ (bs : List Int) (l : List Ns), KK0 l → KK0 (joinB most bs l).1
  | [], l, h => h
  | [b], l, h => h
  | b :: b2 :: bs, l, h => mst_k (joinB_k most (b2 :: bs) l h) (by simp [spl])
theorem bld_k (f : Fo) (most : Int) : KK0 (bld f most).1.2 := by
  unfold bld
  split
  · simp only
    split
    · intro x hx; cases hx
    · exact joinB_k _ _ _ (bldF_k _ _ _ _ _ (by intro x hx; cases hx))
  · intro x hx; cases hx
theorem bld_len (f : Fo) (most : Int) : (bld f most).1.2.length ≤ 20000 := by
  by_cases h : 1 ≤ f.len ∧ f.len ≤ 200 ∧ 1 ≤ most ∧ most ≤ 20000 ∧ f.right = true
  · rw [bld_eq h.1 h.2.1 h.2.2.1 h.2.2.2.1 h.2.2.2.2]
    split
    · simp
    · rename_i hc
      simp only
      rw [bldM_len h.1 h.2.2.2.2 (by omega)]
      omega
  · unfold bld; rw [if_neg h]; simp
theorem in76 (st : Int) (A : Option Addr) (n C : Nat) {L : List Nat} {w0 w : World} (h : Good L w0 w) {K : Bool → World → Prop} (kk : ∀ w', Good L w0 w' → K (decide (n ≤ 300)) w') : CallW Try.prog L 76 #[.agg #[.int .i64 st, .slice A n C]] (fun v w' => opB v fun b => K b w') w := by
  refine (f76_ok st A n C w).call h.2 ?_
  rintro v w' rfl h'
  exact opB_in (kk w' (h.tr h'))
end Fk
set_option linter.unusedVariables false
set_option linter.unusedSimpArgs false
set_option maxRecDepth 100000
namespace Fk
open Go Go.Proofs Go.RowKit
def Fo.app : Fo → Fo → Fo
  | .nil, x => x
  | .cons k a b c d q r, x => .cons k a b c d q (r.app x)
theorem TrF.app {w : World} : ∀ {l l2 : List Tr} {f f2 : Fo}, TrF w l f → TrF w l2 f2 → TrF w (l ++ l2) (f.app f2)
  | [], l2, .nil, f2, _, h2 => h2
  | t :: l, l2, .cons k a b c d q r, f2, ⟨h, h1⟩, h2 => ⟨h, TrF.app h1 h2⟩
  | [], _, .cons .., _, h, _ => h.elim
  | _ :: _, _, .nil, _, h, _ => h.elim
end Fk
set_option linter.unusedVariables false
set_option linter.unusedSimpArgs false
set_option maxRecDepth 100000
set_option maxHeartbeats 4000000
namespace Fk
open Go Go.Proofs Go.RowKit
theorem f161_ok (b : Nat) (hb : b = 97 ∨ b = 98) (w : World) : Ct Try.prog 161 #[.int .u8 (b : Int)] w fun v w' => v = .agg #[.int .u8 1, .int .u64 0, .int .u64 (2 ^ (b - 64)), .int .u64 0, .int .u64 0, .slice none 0 0] ∧ Md [] w w' := by
  apply f161_in
  intro n1 hn1 w2 h2 hL2
  have l1 := hL2 n1 (by simp)
  refine Nw_i ?_
  have ma : Md [] w2 (w2.alloc (.cells #[.int .u8 0, .int .u64 0, .int .u64 0, .int .u64 0, .int .u64 0, .slice none 0 0] 42)) := Md.alloc w2 _
  have ol : OwnL (w2.alloc (.cells #[.int .u8 0, .int .u64 0, .int .u64 0, .int .u64 0, .int .u64 0, .slice none 0 0] 42)) w2.heap.size 42 6 reZ (some ⟨w2.heap.size, 0, none⟩) 1 [()] := OwnL.lit (P := Try.prog) (base := w2.heap.size) encZ w2 42 [()] _ (Nat.le_refl _) (by simp [maxLen]) rfl
  generalize w2.alloc (.cells #[.int .u8 0, .int .u64 0, .int .u64 0, .int .u64 0, .int .u64 0, .slice none 0 0] 42) = w4 at *
  have hN : n1 < w2.heap.size := l1
  have hsz := h2.size
  generalize w2.heap.size = n3 at *
  obtain ⟨A, hA, p1, p2, p3, p4, p5⟩ := own_put (n := 1) ol 0 [.int .u8 1, .int .u64 0, .int .u64 0, .int .u64 0, .int .u64 0, .slice none 0 0] (by simp [reZ]) (by simp)
  injection hA with hA
  subst hA
  have e0 : (Addr.mk n3 0 none).add 0 = ⟨n3, 0, none⟩ := Addr.add_lit _ _ _
  rw [e0] at p3 p4 p5
  generalize setCells w4 ⟨n3, 0, none⟩ 0 [.int .u8 1, .int .u64 0, .int .u64 0, .int .u64 0, .int .u64 0, .slice none 0 0] = w5 at *
  obtain ⟨A, hA, q1, q2, q3, q4, q5⟩ := own_put (n := 1) p4 2 [.int .u64 (2 ^ (b - 64))] (by simp [reZ, wrL]) (by simp)
  injection hA with hA
  subst hA
  have e2 : ((Addr.mk n3 0 none).add 1).add (1 * 1) = (Addr.mk n3 0 none).add 2 := by rw [add_add]
  refine ⟨by simp; omega, p3, Bd_e (y := 1) (by rcases hb with rfl | rfl <;> rfl) <| Bd_e (y := ((b - 64 : Nat) : Int)) (by rcases hb with rfl | rfl <;> rfl) ⟨by omega, Bd_e (y := 2 ^ (b - 64)) (by rcases hb with rfl | rfl <;> rfl) ⟨⟨by omega, by omega⟩, ?_⟩⟩⟩
  rw [show (Int.toNat 1 * 1) = 1 * 1 from rfl, e2]
  have cl := World.ownsRow.cells q4 rfl
  refine ⟨by rw [add_block]; simp; omega, q3, Ld_in (cl 0 _ rfl) <| Ld_in (cl 1 _ rfl) <| Ld_in (cl 2 _ rfl) <| Ld_in (cl 3 _ rfl) <| Ld_in (cl 4 _ rfl) <| Ld_in (cl 5 _ rfl) <| opI_in <| opI_in <| opI_in <| opI_in <| opI_in <| opL_in ?_⟩
  intro w22 h22 _
  exact ⟨rfl, ((((h2.trans ma).old p5 (by simp; omega)).old q5 (by simp; omega)).old h22 (by simp; omega))⟩
section
variable {L : List Nat} {w0 w : World}
theorem in161 (b : Nat) (m : Int) (hb : (b = 97 ∧ m = 8589934592) ∨ (b = 98 ∧ m = 17179869184)) (h : Good L w0 w) {K : Int → Int → Int → Int → Int → Option Addr → Nat → Nat → World → Prop} (kk : ∀ w', Good L w0 w' → Md [] w w' → K 1 0 m 0 0 none 0 0 w') :
    CallW Try.prog L 161 #[.int .u8 (b : Int)] (fun v w' => opAg v fun cs => opI .u8 (nthD cs.toList 0) fun x4 => opI .u64 (nthD cs.toList 1) fun x5 => opI .u64 (nthD cs.toList 2) fun x6 => opI .u64 (nthD cs.toList 3) fun x7 => opI .u64 (nthD cs.toList 4) fun x8 => opL (nthD cs.toList 5) fun a n c => SzIs cs.size 6 (K x4 x5 x6 x7 x8 a n c w')) w := by
  refine (f161_ok b (hb.imp And.left And.left) w).call h.2 ?_
  rintro v w' rfl h'
  have e : (2 : Int) ^ (b - 64) = m := by rcases hb with ⟨rfl, rfl⟩ | ⟨rfl, rfl⟩ <;> rfl
  rw [e]
  exact opAg_in <| opI_in <| opI_in <| opI_in <| opI_in <| opI_in <| opL_in <| SzIs_in rfl <| kk w' (h.tr h') h'
abbrev DIn (L : List Nat) (w0 w : World) (r : Dm × Int) (K : Int → Option Addr → Nat → Nat → Option Addr → Nat → Nat → Int → World → Prop) : Prop :=
  ∀ na nc ta tc w', Good L w0 w' → Md [] w w' → OwnL w' w.heap.size 3 1 i1 na nc r.1.2.1 → OwnL w' w.heap.size 3 1 i1 ta tc r.1.2.2 → K r.1.1 na r.1.2.1.length nc ta r.1.2.2.length tc r.2 w'
theorem in67 (st : Int) (l : List Ns) (A : Option Addr) (C : Nat) (c : Cl) (hc : c.ok) (most : Int) (h : Good L w0 w) (hr : RowAt w A 8 nsE l) (hl : l.length < 2 ^ 40) {K : Int → Option Addr → Nat → Nat → Option Addr → Nat → Nat → Int → World → Prop}
    (kk : DIn L w0 w (dBld st l c most) K) :
    CallW Try.prog L 67 #[.agg #[.int .i64 st, .slice A l.length C], .agg c.v, .int .i64 most] (fun v w' => opTu v fun cs => opAg (nthD cs.toList 0) fun cs2 => opI .i64 (nthD cs2.toList 0) fun x => opL (nthD cs2.toList 1) fun a n c => opL (nthD cs2.toList 2) fun a2 n2 c2 => SzIs cs2.size 3 (opI .i64 (nthD cs.toList 1) fun e => SzIs cs.size 2 (K x a n c a2 n2 c2 e w'))) w := by
  refine (f67_ok st l A C c hc most w hr (by omega)).call h.2 ?_
  rintro v w' ⟨na, nc, ta, tc, rfl, o1, o2, _⟩ h'
  exact opTu_in <| opAg_in <| opI_in <| opL_in <| opL_in <| SzIs_in rfl <| opI_in <| SzIs_in rfl <| kk na nc ta tc w' (h.tr h') h' o1 o2
theorem in131 (st : Int) (l : List Ns) (A : Option Addr) (C : Nat) (c : Cl) (hc : c.ok) (most : Int) (h : Good L w0 w) (hr : RowAt w A 8 nsE l) (hl : l.length < 2 ^ 40) (hk : ∀ x ∈ l, 0 ≤ x.k) {K : Int → Option Addr → Nat → Nat → Option Addr → Nat → Nat → Int → World → Prop}
    (kk : DIn L w0 w (dBld st l c most) K) :
    CallW Try.prog L 131 #[.agg #[.int .i64 st, .slice A l.length C], .agg c.v, .int .i64 most] (fun v w' => opTu v fun cs => opAg (nthD cs.toList 0) fun cs2 => opI .i64 (nthD cs2.toList 0) fun x => opL (nthD cs2.toList 1) fun a n c => opL (nthD cs2.toList 2) fun a2 n2 c2 => SzIs cs2.size 3 (opI .i64 (nthD cs.toList 1) fun e => SzIs cs.size 2 (K x a n c a2 n2 c2 e w'))) w := by
  refine (f131_ok st l A C c hc most w hr (by omega) hk).call h.2 ?_
  rintro v w' ⟨na, nc, ta, tc, rfl, o1, o2, _⟩ h'
  exact opTu_in <| opAg_in <| opI_in <| opL_in <| opL_in <| SzIs_in rfl <| opI_in <| SzIs_in rfl <| kk na nc ta tc w' (h.tr h') h' o1 o2
theorem in70 (dm : Int) (nx tg cs : List Int) (na ta ca : Option Addr) (nc tc cc : Nat) (h : Good L w0 w) (h1 : RowAt w na 1 i1 nx) (h2 : RowAt w ta 1 i1 tg) (h3 : RowAt w ca 1 i1 cs) (hl1 : nx.length < 2 ^ 63) (hl2 : tg.length < 2 ^ 63) (hl3 : cs.length < 2 ^ 30) {K : Option Addr → Nat → Nat → Int → World → Prop}
    (kk : ∀ a c w', Good L w0 w' → Md [] w w' → OwnL w' w.heap.size 3 1 i1 a c (dRun dm nx tg cs).1 → K a (dRun dm nx tg cs).1.length c (dRun dm nx tg cs).2 w') :
    CallW Try.prog L 70 #[.agg #[.int .i64 dm, .slice na nx.length nc, .slice ta tg.length tc], .slice ca cs.length cc] (fun v w' => opTu v fun cs => opL (nthD cs.toList 0) fun a n c => opI .i64 (nthD cs.toList 1) fun e => SzIs cs.size 2 (K a n c e w')) w := by
  refine (f70_ok dm nx tg cs na ta ca nc tc cc w h1 h2 h3 hl1 hl2 hl3).call h.2 ?_
  rintro v w' ⟨a, c, rfl, own⟩ h'
  exact opTu_in <| opL_in <| opI_in <| SzIs_in rfl <| kk a c w' (h.tr h') h' own
theorem in132 (dm : Int) (nx tg cs : List Int) (na ta ca : Option Addr) (nc tc cc : Nat) (h : Good L w0 w) (h1 : RowAt w na 1 i1 nx) (h2 : RowAt w ta 1 i1 tg) (h3 : RowAt w ca 1 i1 cs) (hl1 : nx.length < 2 ^ 63) (hl2 : tg.length < 2 ^ 63) (hl3 : cs.length < 2 ^ 30) {K : Option Addr → Nat → Nat → Int → World → Prop}
    (kk : ∀ a c w', Good L w0 w' → Md [] w w' → OwnL w' w.heap.size 3 1 i1 a c (dRun dm nx tg cs).1 → K a (dRun dm nx tg cs).1.length c (dRun dm nx tg cs).2 w') :
    CallW Try.prog L 132 #[.agg #[.int .i64 dm, .slice na nx.length nc, .slice ta tg.length tc], .slice ca cs.length cc] (fun v w' => opTu v fun cs => opL (nthD cs.toList 0) fun a n c => opI .i64 (nthD cs.toList 1) fun e => SzIs cs.size 2 (K a n c e w')) w := by
  refine (f132_ok dm nx tg cs na ta ca nc tc cc w h1 h2 h3 hl1 hl2 hl3).call h.2 ?_
  rintro v w' ⟨a, c, rfl, own⟩ h'
  exact opTu_in <| opL_in <| opI_in <| SzIs_in rfl <| kk a c w' (h.tr h') h' own
theorem in72d (dm : Int) (nx tg : List Int) (na ta : Option Addr) (nc tc : Nat) (h : Good L w0 w) (h1 : RowAt w na 1 i1 nx) (h2 : RowAt w ta 1 i1 tg) (hl1 : nx.length < 2 ^ 63) (hl2 : tg.length < 2 ^ 63) {K : Bool → World → Prop} (kk : ∀ w', Good L w0 w' → Md [] w w' → K (dRight dm nx tg) w') :
    CallW Try.prog L 72 #[.agg #[.int .i64 dm, .slice na nx.length nc, .slice ta tg.length tc]] (fun v w' => opB v fun b => K b w') w := by
  refine (f72_ok dm nx tg na ta nc tc w h1 h2 hl1 hl2).call h.2 ?_
  rintro v w' rfl h'
  exact opB_in (kk w' (h.tr h') h')
theorem in133d (dm : Int) (nx tg : List Int) (na ta : Option Addr) (nc tc : Nat) (h : Good L w0 w) (h1 : RowAt w na 1 i1 nx) (h2 : RowAt w ta 1 i1 tg) (hl1 : nx.length < 2 ^ 63) (hl2 : tg.length < 2 ^ 63) {K : Bool → World → Prop} (kk : ∀ w', Good L w0 w' → Md [] w w' → K (dRight dm nx tg) w') :
    CallW Try.prog L 133 #[.agg #[.int .i64 dm, .slice na nx.length nc, .slice ta tg.length tc]] (fun v w' => opB v fun b => K b w') w := by
  refine (f133_ok dm nx tg na ta nc tc w h1 h2 hl1 hl2).call h.2 ?_
  rintro v w' rfl h'
  exact opB_in (kk w' (h.tr h') h')
theorem in90 (dm : Int) (na ta : Option Addr) (nn nc tn tc : Nat) (h : Good L w0 w) {K : Bool → World → Prop} (kk : ∀ w', Good L w0 w' → Md [] w w' → K (decide (tn ≤ 60) && decide (nn ≤ 2400)) w') :
    CallW Try.prog L 90 #[.agg #[.int .i64 dm, .slice na nn nc, .slice ta tn tc]] (fun v w' => opB v fun b => K b w') w := by
  refine (f90_ok dm na ta nn nc tn tc w).call h.2 ?_
  rintro v w' rfl h'
  exact opB_in (kk w' (h.tr h') h')
theorem in96 (dm em : Int) (na nb ta tb : List Int) (A B D E : Option Addr) (C1 C2 C3 C4 : Nat) (h : Good L w0 w) (h1 : RowAt w A 1 i1 na) (h2 : RowAt w B 1 i1 ta) (h3 : RowAt w D 1 i1 nb) (h4 : RowAt w E 1 i1 tb) (hl1 : na.length < 2 ^ 63) (hl2 : ta.length < 2 ^ 63) {K : Bool → World → Prop} (kk : ∀ w', Good L w0 w' → Md [] w w' → K (decide (dm = em) && decide (na = nb) && decide (ta = tb)) w') :
    CallW Try.prog L 96 #[.agg #[.int .i64 dm, .slice A na.length C1, .slice B ta.length C2], .agg #[.int .i64 em, .slice D nb.length C3, .slice E tb.length C4]] (fun v w' => opB v fun b => K b w') w := by
  refine (f96_ok dm em na nb ta tb A B D E C1 C2 C3 C4 w h1 h2 h3 h4 hl1 hl2).call h.2 ?_
  rintro v w' rfl h'
  exact opB_in (kk w' (h.tr h') h')
end
theorem f162_ok (dm : Int) (nx tg cs wt : List Int) (na ta ca wa : Option Addr) (nc tc cc wc : Nat) (w : World) (h1 : RowAt w na 1 i1 nx) (h2 : RowAt w ta 1 i1 tg) (h3 : RowAt w ca 1 i1 cs) (h4 : RowAt w wa 1 i1 wt) (hl1 : nx.length < 2 ^ 63) (hl2 : tg.length < 2 ^ 63) (hl3 : cs.length < 2 ^ 30) :
    Ct Try.prog 162 #[.agg #[.int .i64 dm, .slice na nx.length nc, .slice ta tg.length tc], .slice ca cs.length cc, .slice wa wt.length wc] w fun v w' => v = .bool (decide (dRun dm nx tg cs = (wt, 0))) ∧ Md [] w w' := by
  apply f162_in
  intro n1 hn1 w2 m2 hL2
  have g2 : Good [n1] w w2 := ⟨m2, hL2⟩
  have hrl : (dRun dm nx tg cs).1.length < 2 ^ 63 := by
    unfold dRun
    split
    · have : ∀ (l : List Int) (a : Int), (dGo dm nx tg l a).length = l.length := fun l => by
        induction l with
        | nil => intro a; rfl
        | cons x l ih => intro a; simp [dGo, ih]
      simp [this]; omega
    · simp
  refine in70 dm nx tg cs na ta ca nc tc cc g2 (h1.md m2) (h2.md m2) (h3.md m2) hl1 hl2 hl3 fun a c w4 g4 m4 own => ?_
  refine Bd_in fun b10 hb10 => Gd_to (fun b w' => (b10 = true → b = decide ((dRun dm nx tg cs).1 = wt)) ∧ Md [] w w') (fun b w' hJ => ?_) (fun fin hc => ?_) (fun hc => ⟨(fun h => by rw [h] at hc; cases hc), g4.1⟩)
  · obtain ⟨hb, hm⟩ := hJ
    refine Bd_in fun b17 hb17 => ⟨?_, hm⟩
    rw [hb17]
    have e : (dRun dm nx tg cs = (wt, 0)) ↔ ((dRun dm nx tg cs).1 = wt ∧ (dRun dm nx tg cs).2 = 0) := by rw [Prod.ext_iff]
    rw [show decide (dRun dm nx tg cs = (wt, 0)) = decide ((dRun dm nx tg cs).1 = wt ∧ (dRun dm nx tg cs).2 = 0) from decide_eq_decide.2 e]
    cases h10 : b10 with
    | false =>
      have : ¬ (dRun dm nx tg cs).2 = 0 := by rw [hb10] at h10; simpa using h10
      simp [this]
    | true =>
      have : (dRun dm nx tg cs).2 = 0 := by rw [hb10] at h10; simpa using h10
      rw [hb h10]
      simp [this]
  · exact in73 _ wt a wa c wc g4 (own.row enci1) (h4.md g4.1) hrl fun w' g' m' => fin _ _ ⟨fun _ => rfl, g'.1⟩
end Fk
