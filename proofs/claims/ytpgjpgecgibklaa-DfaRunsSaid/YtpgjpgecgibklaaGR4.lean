/- Contracts of functions, and plain laws: several texts, joined. -/
import Derived.Test.YtpgjpgecgibklaaGR3
import Derived.Test.YtpgjpgecgibklaaGV1
set_option linter.unusedVariables false
set_option linter.unusedSimpArgs false
set_option maxRecDepth 100000
set_option maxHeartbeats 4000000
namespace Fk
open Go Go.Proofs Go.RowKit
theorem size31 (w : World) : (Go.sizeOf 3).run Try.prog w = .ok 1 w := by
  have h : (Try.prog.info? 3).map (·.size) = some 1 := by kernel_rfl
  cases hi : Try.prog.info? 3 with
  | none => rw [hi] at h; cases h
  | some i => rw [hi] at h; simp [Go.sizeOf, typeInfo, hi]; simpa using h
theorem i1_get {l : List Int} {j : Nat} {u : Value} (h : (l.flatMap i1)[j]? = some u) : ∃ x, l[j]? = some x ∧ u = .int .i64 x := by
  have e : ∀ l : List Int, l.flatMap i1 = l.map fun x => Value.int .i64 x := fun l => by
    induction l with
    | nil => rfl
    | cons x l ih => rw [List.flatMap_cons, ih]; rfl
  rw [e, List.getElem?_map] at h
  obtain ⟨x, hx, rfl⟩ := Option.map_eq_some_iff.1 h
  exact ⟨x, hx, rfl⟩
/-- Behind a row of numbers come those of another one, from wherever they are read. -/
theorem app_ints {w : World} {base : Nat} {a a2 : Option Addr} {c c2 : Nat} {l l2 : List Int} {L : List Nat}
    (h : OwnL w base 3 1 i1 a c l) (h2 : RowAt w a2 1 i1 l2) (h2n : a2 = none → c2 = 0 ∧ l2 = []) (hb : base ≤ w.heap.size) (hL : ∀ b ∈ L, b < w.heap.size) (hLa : ∀ b ∈ L, ∀ A, a = some A → A.block ≠ b)
    (hn : l.length + l2.length ≤ 2 ^ 40) {K : Value → World → Prop}
    (k : ∀ (a' : Option Addr) (c' : Nat) (w' : World), OwnL w' base 3 1 i1 a' c' (l ++ l2) → Md (a.map (·.block)).toList w w' → (∀ A, a' = some A → a = some A ∨ w.heap.size ≤ A.block) → K (.slice a' (l ++ l2).length c') w') :
    RunW Try.prog L (Builtin.append_ #[52, 52] 52 #[.slice a l.length c, .slice a2 l2.length c2]) K w := by
  cases ha2 : a2 with
  | none =>
    obtain ⟨rfl, rfl⟩ := h2n ha2
    obtain ⟨i, z, hi, hz, hs, hy, hzs⟩ := rowT52.hi
    have := run_append_owned_none (P := Try.prog) w (ty := 52) base 52 3 i 1 rowT52.ht hi _ _ _ h
    refine RunW_in0 this ?_
    have hk := k a c w (by simpa using h) (Md.refl _ _) (fun A hA => .inl hA)
    simpa using hk
  | some A2 =>
    subst ha2
    obtain ⟨a', c', w', hr, ho, hm, hA⟩ := run_app (ty := 52) rowT52 h A2 l2.length c2 (l2.flatMap i1) (enci1.lenL l2) (fun j u hu => by
      obtain ⟨x, hx, rfl⟩ := i1_get hu
      obtain ⟨B, hB, hc⟩ := h2 j x hx
      injection hB with hB
      subst hB
      have := hc 0 _ rfl
      rw [add_add] at this
      simpa using this) (enci1.oneL l2) (by simp [maxLen]; omega) (by omega) hb
    refine RunW_in hr (fun b hbL => hm.blk b (hL b hbL) fun hmem => ?_) ?_
    · cases a with
      | none => simp at hmem
      | some A => simp at hmem; exact hLa b hbL A rfl hmem.symm
    · have := k a' c' w' (by unfold OwnL; rw [List.flatMap_append, List.length_append]; exact ho) hm hA
      rwa [List.length_append] at this
theorem rest_row {w : World} {a : Option Addr} {l : List Int} {c m : Nat} (h : RowAt w a 1 i1 l) (hc : l.length ≤ c) (hm : m ≤ l.length) : RowAt w (if c = m then a else a.map (·.add (m * 1))) 1 i1 (l.drop m) := by
  by_cases e : c = m
  · rw [List.drop_of_length_le (by omega)]
    intro i x hx
    simp at hx
  · rw [if_neg e]; exact h.drop m
theorem dGo_len (dm : Int) (nx tg : List Int) : ∀ (l : List Int) (a : Int), (dGo dm nx tg l a).length = l.length
  | [], a => rfl
  | x :: l, a => by simp [dGo, dGo_len dm nx tg l]
theorem dGo_take (dm : Int) (nx tg : List Int) : ∀ (l : List Int) (a : Int) (t : Nat), (dGo dm nx tg l a).take t = dGo dm nx tg (l.take t) a
  | [], a, t => by simp [dGo]
  | x :: l, a, 0 => rfl
  | x :: l, a, t + 1 => by simp only [dGo, List.take_succ_cons, dGo_take dm nx tg l]
theorem dGo_neg (dm : Int) (nx tg : List Int) : ∀ (l : List Int) (a : Int), a < 0 → ∀ x ∈ dGo dm nx tg l a, x = -1
  | [], a, h => by simp [dGo]
  | y :: l, a, h => by
    have e : dNext dm nx a y = a := by unfold dNext; rw [if_neg (by omega)]
    intro x hx
    simp only [dGo, List.mem_cons, e] at hx
    rcases hx with rfl | hx
    · unfold dTag; rw [if_neg (by omega)]
    · exact dGo_neg dm nx tg l a h x hx
theorem tmod2 (x dm : Int) (h1 : 1 ≤ dm) (h2 : dm ≤ 256) : IntKind.wrap .i64 (x.tmod dm + dm) = x.tmod dm + dm ∧ 0 ≤ (x.tmod dm + dm).tmod dm ∧ (x.tmod dm + dm).tmod dm < dm := by
  have a1 := Int.tmod_lt_of_pos x (show 0 < dm by omega)
  have a2 := Int.lt_tmod_of_pos x (show 0 < dm by omega)
  refine ⟨by rw [IntKind.wrap_i64]; omega, Int.tmod_nonneg _ (by omega), Int.tmod_lt_of_pos _ (by omega)⟩
theorem dRun_ok {dm : Int} {nx tg cs : List Int} (h : dRight dm nx tg = true) (hc : ∀ x ∈ cs, 0 ≤ x ∧ x < dm) : dRun dm nx tg cs = (dTag tg 0 :: dGo dm nx tg cs 0, 0) := by
  unfold dRun
  rw [if_pos ⟨h, by unfold inCs; rw [List.all_eq_true]; exact fun x hx => decide_eq_true (hc x hx)⟩]
theorem f35_ok (dm : Int) (nx tg cs : List Int) (na ta ca : Option Addr) (nc tc cc : Nat) (cut : Int) (hc0 : 0 ≤ cut) (hc1 : cut < 256) (bad : Int) (w : World) (h1 : RowAt w na 1 i1 nx) (h2 : RowAt w ta 1 i1 tg) (h3 : RowAt w ca 1 i1 cs) (hl1 : nx.length < 2 ^ 63) (hl2 : tg.length < 2 ^ 63) (hl3 : cs.length < 2 ^ 63) :
    Ct Try.prog 35 #[.agg #[.int .i64 dm, .slice na nx.length nc, .slice ta tg.length tc], .slice ca cs.length cc, .int .u8 cut, .int .i64 bad] w fun v w' => v = .bool true ∧ Md [] w w' := by
  apply f35_in
  intro n1 hn1 w2 m2 hL2
  have g2 : Good [n1] w w2 := ⟨m2, hL2⟩
  have fin : ∀ {w' : World} {L : List Nat}, Good L w w' → (Value.bool true = .bool true ∧ Md [] w w') := fun h => ⟨rfl, h.1⟩
  refine in90 dm na ta nx.length nc tg.length tc g2 fun w4 g4 m4 => Bd_in fun b6 hb6 => Bd_e rfl <| Bd_in fun b8 hb8 => Bd_in fun b9 hb9 => If_in (fun _ => in65 g4 fun w11 g11 => fin g11) fun hb => ?_
  have hfew : tg.length ≤ 60 ∧ nx.length ≤ 2400 ∧ cs.length ≤ 20 := by
    rw [hb9, hb6, hb8] at hb
    by_cases c1 : tg.length ≤ 60
    · by_cases c2 : nx.length ≤ 2400
      · simp [c1, c2] at hb; exact ⟨c1, c2, by omega⟩
      · simp [c1, c2] at hb
    · simp [c1] at hb
  obtain ⟨ht60, hn24, hc20⟩ := hfew
  refine in72d dm nx tg na ta nc tc g4 (h1.md g4.1) (h2.md g4.1) hl1 hl2 fun w14 g14 m14 => Bd_in fun b16 hb16 => If_in (fun hb => ?_) fun hb => ?_
  · have hr : dRight dm nx tg = false := by rw [hb16] at hb; simpa using hb
    have e : dRun dm nx tg [] = ([], 2) := by unfold dRun; rw [if_neg (by rw [hr]; simp)]
    refine in70 dm nx tg [] na ta none nc tc 0 g14 (h1.md g14.1) (h2.md g14.1) (fun i x h => by simp at h) hl1 hl2 (by simp) fun a c w18 g18 m18 o => ?_
    rw [e]
    exact Bd_e (y := true) rfl <| Bd_e rfl <| Bd_e (y := true) rfl <| Bd_e (y := true) rfl <| Gd_t <| in65 g18 fun w30 g30 => Bd_e (y := true) rfl (fin g30)
  have hr : dRight dm nx tg = true := by rw [hb16] at hb; simpa using hb
  have D := drOk hr
  have dm1 := D.m1
  have dm2 := D.m2
  have dt1 := D.t1
  refine Bd_e rfl ?_
  refine LoopP_in (fun mm us vs w' => ∃ (i : Nat) (a : Option Addr) (c : Nat) (o : List Int), us = [.slice a o.length c, .int .i64 i] ∧ mm = cs.length - i ∧ i ≤ cs.length ∧ o.length = i ∧ (∀ x ∈ o, 0 ≤ x ∧ x < dm) ∧ OwnL w' w14.heap.size 3 1 i1 a c o ∧ Md [] w14 w') cs.length
    ⟨0, none, 0, [], rfl, rfl, by omega, rfl, by simp, OwnL.nil _ _ _ _ _, Md.refl _ _⟩ ?_
  rintro mm us vs w39 ⟨i, a, c, o, rfl, hmm, hi, hol, ho, own, hm⟩
  have g39 := g14.tr hm
  have l14 := g14.2
  refine opL_in <| opI_in <| Bd_in fun b44 hb44 => If_in (fun hb => ?_) fun hb => ?_
  · have hil : i < cs.length := by rw [hb44] at hb; have : (i : Int) < (cs.length : Int) := of_decide_eq_true hb
                                   omega
    obtain ⟨t1, t2, t3⟩ := tmod2 cs[i] dm dm1 dm2
    refine ⟨h3.ix hil, (h3.md g39.1).ld1 hil rfl <| opI_in ⟨fun _ => True, trivial, by omega, Bd_e rfl <| Bd_e t1 ⟨by omega, Bd_e rfl <| Nw_i ⟨trivial, ?_⟩⟩⟩⟩
    have ma : Md [] w39.drew (w39.drew.alloc (.cells #[.int .i64 ((cs[i].tmod dm + dm).tmod dm)] 3)) := Md.alloc _ _
    have ol := OwnL.lit (P := Try.prog) (base := w39.drew.heap.size) enci1 w39.drew 3 [(cs[i].tmod dm + dm).tmod dm] #[.int .i64 ((cs[i].tmod dm + dm).tmod dm)] (Nat.le_refl _) (by simp [maxLen]) rfl
    have md := (hm.trans (Md_drew w39)).trans ma
    have g54 := g14.tr md
    have own' := (own.md (Md_drew w39)).md ma
    refine app_own rowT52 enci1 own' ol md.size g54.2 (fun b hb A hA e => by have := (own.lt hA).1; have := l14 b hb; omega) (by simp [maxLen]; omega) (by simp; omega) fun a' c' w' o' m' hA' => opL_in ⟨trivial, Bd_e (inc_i64 (by omega)) ⟨cs.length - (i + 1), by omega, i + 1, a', c', _, rfl, rfl, by omega, by simp; omega, fun x hx => ?_, o', md.old m' fun d hd => by obtain ⟨A, hA, rfl⟩ := mem_blk hd; exact (own'.lt hA).1⟩⟩
    rcases List.mem_append.1 hx with h | h
    · exact ho x h
    · simp at h; subst h; exact ⟨t2, t3⟩
  have hil : i = cs.length := by
    have : ¬ (i : Int) < (cs.length : Int) := by rw [hb44] at hb; exact of_decide_eq_false hb
    omega
  subst hil
  have s39 := hm.size
  have l39 := g39.2
  clear hmm hi
  have hcap := own.cap
  have hnone : a = none → c = 0 ∧ o = [] := fun e => by
    rcases own.2 with ⟨hv, hn⟩ | ⟨g, _, _, hv, _⟩
    · simp only [Value.slice.injEq] at hv
      exact ⟨hv.2.2, List.eq_nil_of_length_eq_zero hn⟩
    · rw [e] at hv; simp at hv
  have hrow := own.row enci1
  refine Bd_e (y := cut) (by rw [IntKind.wrap_i64]; omega) <| Bd_e rfl <| Bd_e (y := ((o.length + 1 : Nat) : Int)) (by rw [IntKind.wrap_i64]; omega) ⟨by omega, ?_⟩
  refine Bd_e (y := ((cut.toNat % (o.length + 1) : Nat) : Int)) (by rw [Int.tmod_eq_emod_of_nonneg hc0]; obtain ⟨k, rfl⟩ := Int.eq_ofNat_of_zero_le hc0; rfl) ?_
  have htl : cut.toNat % (o.length + 1) ≤ o.length := by have := Nat.mod_lt cut.toNat (show 0 < o.length + 1 by omega); omega
  generalize cut.toNat % (o.length + 1) = t at htl ⊢
  have eF := dRun_ok hr ho
  have hot : ∀ x ∈ o.take t, 0 ≤ x ∧ x < dm := fun x hx => ho x (List.mem_of_mem_take hx)
  have eT := dRun_ok hr hot
  have htt : (o.take t).length = t := by simp; omega
  refine in70 dm nx tg o na ta a nc tc c g39 (h1.md g39.1) (h2.md g39.1) hrow hl1 hl2 (by omega) fun a66 n68 w64 g64 m64 own64 => ?_
  rw [eF] at own64 ⊢
  have hcap64 := own64.cap
  simp only at own64 hcap64 ⊢
  have hal : (dTag tg 0 :: dGo dm nx tg o 0).length = o.length + 1 := by simp [dGo_len]
  have gd := g64.drew
  have row64 := hrow.md m64
  refine ⟨fun w' => Md [] w64.drew w', Md.refl _ _, ?_⟩
  show ∃ v, _ ∧ _
  refine ⟨.slice a (o.take t).length c, fun w' _ => ⟨by rw [htt]; exact slice_front (e := 3) (by kernel_rfl) size3 _ _ _ _ _ (by omega)⟩, opL_in ?_⟩
  refine in70 dm nx tg (o.take t) na ta a nc tc c gd (h1.md gd.1) (h2.md gd.1) ((row64.md (Md_drew w64)).take t) hl1 hl2 (by omega) fun a80 n82 w78 g78 m78 own78 => ⟨m78, ?_⟩
  rw [eT] at own78 ⊢
  simp only at own78 ⊢
  have g78d := g78.drew
  have mA : Md [] w64 w78.drew := ((Md_drew w64).trans m78).trans (Md_drew w78)
  refine ⟨fun w' => Md [] w78.drew w', Md.refl _ _, Bd_e (y := false) rfl <| Bd_e (y := false) rfl <| Bd_e (y := false) rfl <| Bd_e rfl <| Bd_e rfl <| Bd_e (y := ((o.length + 1 : Nat) : Int)) (by rw [IntKind.wrap_i64]; omega) <| Bd_e (y := false) (by rw [hal]; simp) <| Bd_e (y := false) rfl <| Bd_e (y := ((t + 1 : Nat) : Int)) (by rw [IntKind.wrap_i64]; omega) ?_⟩
  show ∃ v, _ ∧ _
  have htk : ((dTag tg 0 :: dGo dm nx tg o 0).take (t + 1)).length = t + 1 := by rw [List.length_take, hal]; omega
  have hee : dTag tg 0 :: dGo dm nx tg (o.take t) 0 = (dTag tg 0 :: dGo dm nx tg o 0).take (t + 1) := by rw [List.take_succ_cons, dGo_take]
  have rowA : ∀ {w' : World}, Md [] w78.drew w' → RowAt w' a66 1 i1 (dTag tg 0 :: dGo dm nx tg o 0) := fun h => (own64.row enci1).md (mA.trans h)
  refine ⟨.slice a66 ((dTag tg 0 :: dGo dm nx tg o 0).take (t + 1)).length n68, fun _ w' _ => ⟨by rw [htk]; exact slice_front (e := 3) (by kernel_rfl) size3 _ _ _ _ _ (by omega)⟩, opL_in <| Gd_t ?_⟩
  refine in73 _ _ a80 a66 n82 n68 g78d ((own78.md (Md_drew w78)).row enci1) ((rowA (Md.refl _ _)).take (t + 1)) (by simp [dGo_len]; omega) fun w106 g106 m106 => ⟨m106, ?_⟩
  rw [hee, decide_eq_true rfl]
  have h0t : (0 : Nat) < tg.length := by omega
  have h0a : (0 : Nat) < (dTag tg 0 :: dGo dm nx tg o 0).length := by rw [hal]; omega
  have et : tg[0] = dTag tg 0 := by unfold dTag; rw [if_pos (by omega), List.getD_eq_getElem?_getD, show ((0 : Int).toNat) = 0 from rfl, List.getElem?_eq_getElem h0t]; rfl
  have g78w : ∀ {w' : World}, Md [] w78.drew w' → Md [] w w' := fun h => g78d.1.trans h
  refine Bd_e (y := false) rfl <| Bd_e (y := false) rfl ⟨fun _ => (rowA (Md.refl _ _)).ix h0a, dTag tg 0, fun _ w' hm' => (rowA hm').ld1 h0a rfl rfl, fun _ => h2.ix h0t, dTag tg 0, fun _ w' hm' => (h2.md (g78w hm')).ld1 h0t rfl (by rw [et]), Bd_e (y := false) (by simp) <| Bd_e (y := false) rfl <| If_in (fun h => by cases h) fun _ => ?_⟩
  refine Jn_in (fun us vs w' => ∃ (x : Int) (b : Bool), us = [.int .i64 x, .bool b] ∧ Good [n1] w w' ∧ Md [] w106 w') ?_ ?_
  · rintro us vs w125 ⟨x, b127, rfl, g125, m125⟩
    have m39_125 : Md [] w39 w125 := ((m64.trans mA).trans m106).trans m125
    refine opI_in <| opB_in <| Jn_in (fun us vs w' => ∃ (A : Option Addr) (C : Nat), us = [.slice A (o.take t ++ [bad] ++ o.drop t).length C] ∧ Good [n1] w w' ∧ OwnL w' w125.heap.size 3 1 i1 A C (o.take t ++ [bad] ++ o.drop t)) ?_ ?_
    · rintro us vs w130 ⟨A, C, rfl, g130, own130⟩
      refine opL_in <| in70 dm nx tg _ na ta A nc tc C g130 (h1.md g130.1) (h2.md g130.1) (own130.row enci1) hl1 hl2 (by simp; omega) fun a137 c139 w135 g135 m135 o135 => ?_
      have hcase : dRun dm nx tg (o.take t ++ [bad] ++ o.drop t) = if 0 ≤ bad ∧ bad < dm then (dTag tg 0 :: dGo dm nx tg (o.take t ++ [bad] ++ o.drop t) 0, 0) else ([], 2) := by
        by_cases hbd : 0 ≤ bad ∧ bad < dm
        · rw [if_pos hbd]
          refine dRun_ok hr fun x hx => ?_
          simp only [List.mem_append, List.mem_singleton] at hx
          rcases hx with (h | rfl) | h
          · exact hot x h
          · exact hbd
          · exact ho x (List.mem_of_mem_drop h)
        · rw [if_neg hbd]
          unfold dRun
          rw [if_neg]
          rintro ⟨_, h⟩
          unfold inCs at h
          rw [List.all_eq_true] at h
          exact hbd (of_decide_eq_true (h bad (by simp)))
      refine Bd_in fun b141 hb141 => Bd_in fun b142 hb142 => Bd_in fun b143 hb143 => Bd_in fun b144 hb144 => Bd_in fun b145 hb145 => Bd_in fun b146 hb146 => Bd_e rfl <| Bd_in fun b148 hb148 => Bd_in fun b149 hb149 => Bd_in fun b150 hb150 => Bd_in fun b151 hb151 => ?_
      have e151 : b151 = true := by
        rw [hb151, hb150, hb149, hb148, hb146, hb145, hb144, hb143, hb142, hb141, hcase]
        by_cases c1 : 0 ≤ bad
        · by_cases c2 : bad < dm
          · simp [c1, c2]
          · simp [c1, c2]
        · simp [c1]
      rw [e151]
      exact Gd_t <| in65 g135 fun w154 g154 => Bd_e (y := true) rfl (fin g154)
    · have g125d := g125.drew
      have rowO : ∀ {w' : World}, Md [] w125.drew w' → RowAt w' a 1 i1 o := fun h => hrow.md ((m39_125.trans (Md_drew _)).trans h)
      refine ⟨fun w' => Md [] w125.drew w', Md.refl _ _, ?_⟩
      show ∃ v, _ ∧ _
      refine ⟨.slice a (o.take t).length c, fun w' _ => ⟨by rw [htt]; exact slice_front (e := 3) (by kernel_rfl) size3 _ _ _ _ _ (by omega)⟩, opL_in ?_⟩
      show ∃ v, _ ∧ _
      have hdl : (o.drop t).length = o.length - t := by simp
      refine ⟨.slice (if c = t then a else a.map (·.add (t * 1))) (o.drop t).length (c - t), fun w' _ => ⟨by rw [hdl]; exact slice_rest (e := 3) (by kernel_rfl) size31 _ _ _ _ _ (by omega)⟩, opL_in ?_⟩
      have rrow : ∀ {w' : World}, Md [] w125.drew w' → RowAt w' (if c = t then a else a.map (·.add (t * 1))) 1 i1 (o.drop t) := fun h => rest_row (rowO h) (by omega) htl
      have rnone : (if c = t then a else a.map (·.add (t * 1))) = none → c - t = 0 ∧ o.drop t = [] := fun h => by
        have : a = none := by
          split at h
          · exact h
          · simpa using h
        obtain ⟨e1, e2⟩ := hnone this
        rw [e1, e2]; simp
      have fnone : a = none → c = 0 ∧ o.take t = [] := fun h => by
        obtain ⟨e1, e2⟩ := hnone h
        rw [e1, e2]; simp
      have hb125 : w125.drew.heap.size = w125.heap.size := rfl
      have l125 := g125.2
      -- the three appends, with what else is laid between
      have appF : ∀ {w1 : World} {E : Option Addr} {K : Value → World → Prop}, Md [] w125.drew w1 → OwnL w1 w125.heap.size 3 1 i1 E 0 [] →
          (∀ a' c' w', OwnL w' w125.heap.size 3 1 i1 a' c' (o.take t) → Md (E.map (·.block)).toList w1 w' → (∀ A, a' = some A → E = some A ∨ w1.heap.size ≤ A.block) → Md [] w125.drew w' → K (.slice a' (o.take t).length c') w') →
          RunW Try.prog [n1] (Builtin.append_ #[52, 52] 52 #[.slice E 0 0, .slice a (o.take t).length c]) K w1 := fun hm1 hE hk =>
        app_ints (l := []) hE ((rowO hm1).take t) fnone hm1.size (g125d.tr hm1).2 (fun b hb A hA e => by have := (hE.lt hA).1; have := l125 b hb; omega) (by simp; omega) fun a' c' w' o' m' hA' => by
          simp only [List.nil_append] at o' ⊢
          exact hk a' c' w' o' m' hA' (hm1.old m' fun d hd => by obtain ⟨A, hA, rfl⟩ := mem_blk hd; exact (hE.lt hA).1)
      have appB : ∀ {w1 : World} {A B : Option Addr} {C : Nat} {K : Value → World → Prop}, Md [] w125.drew w1 → OwnL w1 w125.heap.size 3 1 i1 A C (o.take t) → OwnL w1 w125.heap.size 3 1 i1 B 1 [bad] →
          (∀ a' c' w', OwnL w' w125.heap.size 3 1 i1 a' c' (o.take t ++ [bad]) → Md [] w125.drew w' → K (.slice a' (o.take t ++ [bad]).length c') w') →
          RunW Try.prog [n1] (Builtin.append_ #[52, 52] 52 #[.slice A (o.take t).length C, .slice B 1 1]) K w1 := fun hm1 hA hB hk =>
        app_own rowT52 enci1 hA hB hm1.size (g125d.tr hm1).2 (fun b hb X hX e => by have := (hA.lt hX).1; have := l125 b hb; omega) (by simp [maxLen]; omega) (by simp; omega) fun a' c' w' o' m' hA' => hk a' c' w' o' (hm1.old m' fun d hd => by obtain ⟨X, hX, rfl⟩ := mem_blk hd; exact (hA.lt hX).1)
      have appR : ∀ {w1 : World} {A : Option Addr} {C : Nat} {K : Value → World → Prop}, Md [] w125.drew w1 → OwnL w1 w125.heap.size 3 1 i1 A C (o.take t ++ [bad]) →
          (∀ a' c' w', OwnL w' w125.heap.size 3 1 i1 a' c' (o.take t ++ [bad] ++ o.drop t) → Md [] w125.drew w' → K (.slice a' (o.take t ++ [bad] ++ o.drop t).length c') w') →
          RunW Try.prog [n1] (Builtin.append_ #[52, 52] 52 #[.slice A (o.take t ++ [bad]).length C, .slice (if c = t then a else a.map (·.add (t * 1))) (o.drop t).length (c - t)]) K w1 := fun hm1 hA hk =>
        app_ints hA (rrow hm1) rnone hm1.size (g125d.tr hm1).2 (fun b hb X hX e => by have := (hA.lt hX).1; have := l125 b hb; omega) (by simp; omega) fun a' c' w' o' m' hA' => hk a' c' w' o' (hm1.old m' fun d hd => by obtain ⟨X, hX, rfl⟩ := mem_blk hd; exact (hA.lt hX).1)
      have lit0 : ∀ {w1 : World}, Md [] w125.drew w1 → OwnL (w1.alloc (.cells #[] 3)) w125.heap.size 3 1 i1 (some ⟨w1.heap.size, 0, none⟩) 0 [] := fun hm1 => OwnL.lit (P := Try.prog) (base := w125.heap.size) enci1 _ 3 [] #[] hm1.size (by simp) rfl
      have lit1 : ∀ {w1 : World}, Md [] w125.drew w1 → OwnL (w1.alloc (.cells #[.int .i64 bad] 3)) w125.heap.size 3 1 i1 (some ⟨w1.heap.size, 0, none⟩) 1 [bad] := fun hm1 => OwnL.lit (P := Try.prog) (base := w125.heap.size) enci1 _ 3 [bad] #[.int .i64 bad] hm1.size (by simp [maxLen]) rfl
      have al : ∀ {w1 : World} (ob : Obj), Md [] w125.drew w1 → Md [] w125.drew (w1.alloc ob) := fun ob h => h.trans (Md.alloc _ _)
      refine ⟨Nw_i ⟨al _ (Md.refl _ _), ?_, ?_⟩, ?_⟩
      · refine appF (al _ (Md.refl _ _)) (lit0 (Md.refl _ _)) fun a' c' w' o' m' hA' md' => opL_in ⟨md', Nw_i ⟨al _ md', ?_⟩⟩
        refine appB (al _ md') (o'.md (Md.alloc _ _)) (lit1 md') fun a2 c2 w2 o2 md2 => opL_in ⟨md2, appR md2 o2 fun a3 c3 w3 o3 md3 => opL_in ⟨md3, a3, c3, rfl, g125d.tr md3, o3⟩⟩
      · refine Nw_i ⟨al _ (al _ (Md.refl _ _)), ?_⟩
        have l0 := (lit0 (Md.refl [] w125.drew))
        have l1 := lit1 (al (.cells #[] 3) (Md.refl [] w125.drew))
        refine appF (al _ (al _ (Md.refl _ _))) (l0.md (Md.alloc _ _)) fun a' c' w' o' m' hA' md' => opL_in ⟨md', ?_⟩
        have l1' := l1.mdD m' (fun A hA => by injection hA with hA; subst hA; simp)
        refine appB md' o' l1' fun a2 c2 w2 o2 md2 => opL_in ⟨md2, appR md2 o2 fun a3 c3 w3 o3 md3 => opL_in ⟨md3, a3, c3, rfl, g125d.tr md3, o3⟩⟩
      · refine Nw_i ⟨al _ (Md.refl _ _), Nw_i ⟨al _ (al _ (Md.refl _ _)), ?_⟩⟩
        have l1 := (lit1 (Md.refl [] w125.drew))
        have l0 := lit0 (al (.cells #[.int .i64 bad] 3) (Md.refl [] w125.drew))
        refine appF (al _ (al _ (Md.refl _ _))) l0 fun a' c' w' o' m' hA' md' => opL_in ⟨md', ?_⟩
        have l1' := (l1.md (Md.alloc (M := []) _ (.cells #[] 3))).mdD m' (fun A hA => by injection hA with hA; subst hA; simp)
        refine appB md' o' l1' fun a2 c2 w2 o2 md2 => opL_in ⟨md2, appR md2 o2 fun a3 c3 w3 o3 md3 => opL_in ⟨md3, a3, c3, rfl, g125d.tr md3, o3⟩⟩
  · refine Bd_e rfl ?_
    refine LoopP_in (fun mm us vs w' => ∃ (i : Nat) (x : Int) (b : Bool), us = [.int .i64 x, .bool b, .int .i64 i] ∧ mm = o.length - i ∧ i ≤ o.length ∧ 0 ≤ x ∧ x < tg.length ∧ (dTag tg 0 :: dGo dm nx tg o 0).drop (i + 1) = dGo dm nx tg (o.drop i) x ∧ Good [n1] w w' ∧ Md [] w106 w') o.length
      ⟨0, 0, _, rfl, rfl, by omega, by omega, by omega, rfl, g106, Md.refl _ _⟩ ?_
    rintro mm us vs w233 ⟨i, x, b235, rfl, hmm, hi, hx0, hx1, hdr, g233, m233⟩
    have mB : Md [] w78.drew w233 := m106.trans m233
    refine opI_in <| opB_in <| opI_in <| Bd_in fun b237 hb237 => If_in (fun hb => ?_) fun hb => ⟨_, _, rfl, g233, m233⟩
    have hil : i < o.length := by rw [hb237] at hb; have : (i : Int) < (o.length : Int) := of_decide_eq_true hb
                                  omega
    have hoi := ho _ (List.getElem_mem hil)
    have rowo : RowAt w233 a 1 i1 o := hrow.md ((m64.trans mA).trans mB)
    refine ⟨rowo.ix hil, rowo.ld1 hil rfl <| opI_in ?_⟩
    rw [List.drop_eq_getElem_cons hil] at hdr
    generalize o[i] = y at *
    obtain ⟨q1, q2, q3, q4⟩ := D.ix hx0 hx1 hoi.1 hoi.2
    refine Bd_e (y := x * dm) (by rw [IntKind.wrap_i64]; omega) <| Bd_e (y := (((x * dm + y).toNat : Nat) : Int)) (by rw [IntKind.wrap_i64]; omega) ?_
    have hk : (x * dm + y).toNat < nx.length := by omega
    refine ⟨h1.ix hk, (h1.md g233.1).ld1 hk rfl <| opI_in ?_⟩
    have en : nx[(x * dm + y).toNat] = dNext dm nx x y := by
      unfold dNext
      rw [if_pos hx0, List.getD_eq_getElem?_getD, List.getElem?_eq_getElem hk]; rfl
    have hnx := D.next hx1 hoi.1 hoi.2
    rw [en]
    simp only [dGo] at hdr
    generalize hz : dNext dm nx x y = z at *
    have hia : i + 1 < (dTag tg 0 :: dGo dm nx tg o 0).length := by rw [hal]; omega
    refine Bd_in fun b244 hb244 => If_in (fun hb => ?_) fun hb => ?_
    · have hz0 : z < 0 := by rw [hb244] at hb; exact of_decide_eq_true hb
      have hallm : ∀ v ∈ (dTag tg 0 :: dGo dm nx tg o 0).drop (i + 1), v = -1 := by
        rw [hdr]
        intro v hv
        rcases List.mem_cons.1 hv with rfl | hv
        · unfold dTag; rw [if_neg (by omega)]
        · exact dGo_neg dm nx tg _ z hz0 v hv
      refine Bd_e (y := ((i + 1 : Nat) : Int)) (by rw [IntKind.wrap_i64]; omega) ?_
      refine RunW_in0 (slice_rest (e := 3) (by kernel_rfl) size31 _ _ _ _ _ (by omega)) <| opL_in <| Bd_e rfl ?_
      have rr := rest_row (m := i + 1) (rowA mB) hcap64 (by omega)
      have hrl : ((dTag tg 0 :: dGo dm nx tg o 0).drop (i + 1)).length = (dTag tg 0 :: dGo dm nx tg o 0).length - (i + 1) := by simp
      rw [← hrl]
      generalize (dTag tg 0 :: dGo dm nx tg o 0).drop (i + 1) = R at *
      refine LoopP_in (fun mm us vs w' => ∃ (k : Nat) (b : Bool), us = [.bool b, .int .i64 k] ∧ mm = R.length - k ∧ k ≤ R.length ∧ w' = w233) R.length
        ⟨0, _, rfl, rfl, by omega, rfl⟩ ?_
      rintro m3 us vs w255 ⟨k, b256, rfl, hm3, hkR, rfl⟩
      refine opB_in <| opI_in <| Bd_in fun b258 hb258 => If_in (fun hb => ?_) fun hb => ⟨_, _, rfl, g233, m233⟩
      have hkl : k < R.length := by rw [hb258] at hb; have : (k : Int) < (R.length : Int) := of_decide_eq_true hb
                                    omega
      have hRlen : R.length ≤ 30 := by rw [hrl, hal]; omega
      refine ⟨rr.ix hkl, rr.ld1 hkl rfl <| opI_in <| Bd_e (y := false) (by rw [hallm _ (List.getElem_mem hkl)]; rfl) <| If_in (fun h => by cases h) fun _ => Bd_e (inc_i64 (by omega)) ⟨R.length - (k + 1), by omega, k + 1, b256, rfl, rfl, by omega, rfl⟩⟩
    · have hz0 : 0 ≤ z := by rw [hb244] at hb; have := of_decide_eq_false hb; omega
      have mC : Md [] w78.drew w233.drew := mB.trans (Md_drew _)
      refine ⟨fun w' => Md [] w78.drew w', mC, Bd_e (y := ((i + 1 : Nat) : Int)) (by rw [IntKind.wrap_i64]; omega) ⟨(rowA (Md.refl _ _)).ix hia, ?_⟩⟩
      show ∃ v, _ ∧ _
      refine ⟨_, fun w' hm' => (rowA hm').ld1 hia rfl rfl, opI_in ?_⟩
      obtain ⟨k, rfl⟩ := Int.eq_ofNat_of_zero_le hz0
      have hkt : k < tg.length := by omega
      refine ⟨h2.ix hkt, ?_⟩
      show ∃ v, _ ∧ _
      refine ⟨_, fun w' hm' => (h2.md (g78w hm')).ld1 hkt rfl rfl, opI_in ?_⟩
      have e1 : (dTag tg 0 :: dGo dm nx tg o 0)[i + 1] = tg[k] := by
        have := congrArg (fun l => l[0]?) hdr
        simp only [List.getElem?_drop, List.getElem?_cons_zero, Nat.add_zero] at this
        rw [List.getElem?_eq_getElem hia] at this
        injection this with this
        rw [this]
        unfold dTag
        rw [if_pos hz0, Int.toNat_natCast, List.getD_eq_getElem?_getD, List.getElem?_eq_getElem hkt]; rfl
      refine Bd_e (y := false) (by rw [e1]; simp) <| If_in (fun h => by cases h) fun _ => Bd_e (y := ((i + 1 : Nat) : Int)) (by rw [IntKind.wrap_i64]; omega) ⟨o.length - (i + 1), by omega, i + 1, (k : Int), b235, rfl, rfl, by omega, hz0, by omega, ?_, g233.drew, m233.trans (Md_drew _)⟩
      have := congrArg List.tail hdr
      simpa [List.tail_drop] using this
end Fk
