/- Contracts of functions, and plain laws: several texts, joined. -/
import Derived.Test.YtpgjpgecgibklaaGR1
import Derived.Test.YtpgjpgecgibklaaGK2
import Derived.WalkSmall
import Derived.Lib.SliceRun
import Derived.Test.YtpgjpgecgibklaaGV0
import Derived.Lib.AppendStr
import Derived.Laws.Cover3
import Derived.Lib.Builder
import Derived.Lib.UnsafeStr
import Derived.Laws.Externs
import Derived.Test.YtpgjpgecgibklaaGV1
import Derived.Test.YtpgjpgecgibklaaGR0
set_option linter.unusedVariables false
set_option linter.unusedSimpArgs false
set_option maxRecDepth 100000
set_option maxHeartbeats 2000000
namespace Fk
open Go Go.Proofs Go.RowKit
theorem Nw_i {o : Obj} {w : World} {K : Nat → World → Prop} (k : K w.heap.size (w.alloc o)) : Nw o w K := fun _ _ e1 e2 => by subst e1; subst e2; exact k
theorem f66_ok (f : Fo) (A : Option Addr) (C : Nat) (most : Int) (w : World) (hr : RepF w A 0 f) (hl : f.len < 2 ^ 63) :
    Ct Try.prog 66 #[.slice A f.len C, .int .i64 most] w fun v w' => (∃ a c, v = .tuple #[.agg #[.int .i64 (bld f most).1.1, .slice a (bld f most).1.2.length c], .int .i64 (bld f most).2] ∧ OwnL w' w.heap.size 103 8 nsE a c (bld f most).1.2) ∧ Md [] w w' := by
  apply f66_in
  intro n1 hn1
  refine Bd_e rfl <| Bd_in fun b3 hb3 => Bd_e rfl <| Bd_in fun b5 hb5 => Bd_in fun b6 hb6 => Bd_in fun b7 hb7 => Bd_in fun b8 hb8 => Bd_in fun b9 hb9 => Bd_in fun b10 hb10 w11 h11 hL11 => ?_
  have e10 : b10 = decide (1 ≤ f.len ∧ f.len ≤ 200 ∧ 1 ≤ most ∧ most ≤ 20000) := by
    rw [hb10, hb8, hb9, hb6, hb7, hb3, hb5]
    by_cases c1 : 1 ≤ f.len <;> by_cases c2 : f.len ≤ 200 <;> by_cases c3 : 1 ≤ most <;> by_cases c4 : most ≤ 20000 <;> simp [c1, c2, c3, c4] <;> omega
  refine LoopP_in (fun mm us vs w' => ∃ (i : Nat) (b : Bool), us = [.bool b, .int .i64 i] ∧ mm = f.len - i ∧ i ≤ f.len ∧ Md [] w w' ∧ n1 < w'.heap.size ∧ (b = true → b10 = true ∧ firstR f i) ∧ (b = false → b10 = false ∨ f.right = false)) f.len ⟨0, b10, rfl, rfl, by omega, h11, hL11 n1 (by simp), fun h => ⟨h, fun j _ _ _ _ _ _ hj => by omega⟩, fun h => .inl h⟩ ?_
  rintro mm us vs w15 ⟨i, b, rfl, hmm, hi, hmd, hn, hT, hFl⟩
  refine opB_in <| opI_in <| Bd_e rfl <| Bd_in fun b19 hb19 => Bd_in fun b20 hb20 => If_in (fun hb => ?_) fun hb => Bd_in fun b39 hb39 => If_in (fun hno w40 h40 hL40 => ?_) fun hyes => ?_
  · have hbt : i < f.len ∧ b = true := by
      rw [hb20, hb19] at hb
      by_cases c : i < f.len
      · simp [c] at hb; exact ⟨c, hb⟩
      · simp [c] at hb
    obtain ⟨k, a, b', c, d, q, he, hqs⟩ := Fo.drop_cons f i hbt.1
    refine kid_ld hr hmd he hbt.1 fun sa' sc' hql' hr' => ?_
    refine (f144_ok q.size q k a b' c d sa' sc' w15 (Nat.le_refl _) (hr'.md hmd) hql').call (by simpa using hn) ?_
    rintro v w36 rfl m36
    obtain ⟨g1, g2⟩ := hT hbt.2
    refine opB_in <| Bd_e (y := ((i + 1 : Nat) : Int)) (by rw [IntKind.wrap_i64]; omega) ⟨f.len - (i + 1), by omega, i + 1, _, rfl, rfl, by omega, hmd.trans m36, by have := m36.size; omega, fun h => ⟨g1, fun j k' a' b'' c' d' q' hj he' => ?_⟩, fun h => .inr ?_⟩
    · by_cases hji : j < i
      · exact g2 j _ _ _ _ _ _ hji he'
      · have : j = i := by omega
        subst this
        rw [he] at he'
        injection he' with e1 e2 e3 e4 e5 e6
        subst e1; subst e2; subst e3; subst e4; subst e5; subst e6
        simpa using h
    · by_cases hfr : f.right = true
      · have := right_pre he hfr
        rw [this.1, this.2] at h
        simp at h
      · simpa using hfr
  · have hbf : b = false := by rw [hb39] at hno; simpa using hno
    have m40 : Md [] w w40 := hmd.old h40 (by simp; exact hn1)
    have e : bld f most = ((0, []), 2) := by
      unfold bld
      rw [if_neg]
      rintro ⟨h1, h2, h3, h4, h5⟩
      rcases hFl hbf with h | h
      · rw [e10, decide_eq_true ⟨h1, h2, h3, h4⟩] at h; cases h
      · rw [h5] at h; cases h
    rw [e]
    exact ⟨⟨none, 0, rfl, OwnL.nil _ _ _ _ _⟩, m40⟩
  have hbt : b = true := by rw [hb39] at hyes; simpa using hyes
  have hif : i = f.len := by
    rw [hb20, hb19, hbt] at hb
    have : ¬ (i : Int) < (f.len : Int) := by simpa using hb
    omega
  subst hif
  obtain ⟨g1, g2⟩ := hT hbt
  have hright : f.right = true := right_at f fun j k a b c d q hj he => g2 j k a b c d q hj he
  have hcond : 1 ≤ f.len ∧ f.len ≤ 200 ∧ 1 ≤ most ∧ most ≤ 20000 := by rw [g1] at e10; exact of_decide_eq_true e10.symm
  obtain ⟨mo, rfl⟩ := Int.eq_ofNat_of_zero_le (show 0 ≤ most by omega)
  have hgood := good_of_right f hright
  intro n41 w42 e41 e42
  subst e41; subst e42
  have ma : Md [] w15 (w15.alloc (.cells #[.slice none 0 0, .int .i64 mo] 214)) := Md.alloc w15 _
  have b42 : Blk (w15.alloc (.cells #[.slice none 0 0, .int .i64 mo] 214)) w15.heap.size 214 [.slice none 0 0, .int .i64 mo] := Blk.new w15 _ 214
  have T42 : Tws w (w15.alloc (.cells #[.slice none 0 0, .int .i64 mo] 214)) w15.heap.size [] mo (fpM w15.heap.size none) := ⟨⟨none, 0, ⟨b42, OwnL.nil _ _ _ _ _, fun A hA => by cases hA⟩, rfl⟩, hmd.trans ma, (fun b hb => by
    rw [mem_fpM] at hb
    rcases hb with rfl | ⟨A, hA, _⟩
    · exact hmd.size
    · cases hA), Nat.zero_le _⟩
  have hn42 : n1 < (w15.alloc (.cells #[.slice none 0 0, .int .i64 mo] 214)).heap.size := by have := ma.size; omega
  have hn1n : LN [n1] (w15.alloc (.cells #[.slice none 0 0, .int .i64 mo] 214)) (fpM w15.heap.size none) := fun b hb => by
    simp at hb; subst hb
    refine ⟨hn42, fun hm => ?_⟩
    rw [mem_fpM] at hm
    rcases hm with h | ⟨A, hA, _⟩
    · omega
    · cases hA
  refine Bd_e rfl ?_
  generalize w15.alloc (.cells #[.slice none 0 0, .int .i64 mo] 214) = w42 at *
  generalize hF0 : fpM w15.heap.size none = F0 at *
  generalize w15.heap.size = n41 at *
  refine LoopP_in (fun mm us vs w' => ∃ (i : Nat) (a : Option Addr) (c : Nat) (l : List Ns) (bs : List Int) (F : List Nat), us = [.slice a bs.length c, .int .i64 i] ∧ mm = f.len - i ∧ i ≤ f.len ∧ bldF mo (f.drop i) i l bs = bldF mo f 0 [] [] ∧ Tws w w' n41 l mo F ∧ OwnL w' w.heap.size 3 1 i1 a c bs ∧ (∀ A, a = some A → A.block ∉ F) ∧ bs.length = i ∧ LN [n1] w' F ∧ (∀ A, a = some A → A.block ≠ n1)) f.len
    ⟨0, none, 0, [], [], F0, rfl, rfl, by omega, by simp [Fo.drop], T42, OwnL.nil _ _ _ _ _, (fun A hA => by cases hA), rfl, hn1n, fun A hA => by cases hA⟩ ?_
  rintro mm us vs w47 ⟨i, a, c, l, bs, F, rfl, hmm, hi, hbl, T, ho, haF, hbs, hL, ha1⟩
  refine opL_in <| opI_in <| Bd_in fun b52 hb52 => If_in (fun hb => ?_) fun hb => ?_
  · have hi' : i < f.len := by rw [hb52] at hb; have : (i : Int) < (f.len : Int) := by simpa using hb
                               omega
    obtain ⟨k, a1, b1', c1, d1, q, he, hqs⟩ := Fo.drop_cons f i hi'
    have hg := f.gdP_drop i hgood
    rw [he] at hg
    refine kid_ld hr T.md he hi' fun sa' sc' hql' hr' n67 hn67 w68 h68 hL68 => ?_
    have m68 : Md [] w47 w68 := h68.fresh (by simp; exact hn67)
    have T68 := (T.md0 m68).md0 (Md_drew w68)
    have L68 : LN [n67, n1] w68.drew F := fun b hb => by
      refine ⟨hL68 b hb, fun hm => ?_⟩
      simp at hb
      rcases hb with rfl | rfl
      · have := T.mr.lt _ hm; omega
      · exact (hL _ (by simp)).2 hm
    refine ⟨fun _ => True, trivial, in164 T68 L68 (by omega) 0 0 0 0 0 0 0 i fun F1 w71 T71 m71 f71 L71 => ⟨trivial, in163 (tow_ok mo (by omega) (q.size + 1) q (by omega)) _ hr' hql' hg.1 hg.2.1 T71 L71 fun F2 w74 T74 m74 f74 L74 => ⟨trivial, Nw_i ⟨trivial, ?_⟩⟩⟩⟩
    have mF : Md F w47 w74 := Md_frN (Md_frN (m68.trans (Md_drew w68) |>.mono (by simp)) m71 (FrN.refl _ _)) m74 (fun b hb => by
      rcases f71 b hb with h | h
      · exact .inl h
      · right; have := m68.size; have h2 : w68.drew.heap.size = w68.heap.size := rfl; omega)
    have ho74 : OwnL w74 w.heap.size 3 1 i1 a c bs := ho.mdD mF haF
    generalize hx75 : (twOne mo k a1 b1' c1 d1 (tw mo q) (_, _)).2 = x75
    have ma74 : Md [] w74 (w74.alloc (.cells #[.int .i64 x75] 3)) := Md.alloc w74 _
    have ol := OwnL.lit (P := Try.prog) (base := w74.heap.size) enci1 w74 3 [x75] #[.int .i64 x75] (Nat.le_refl _) (by simp [maxLen]) rfl
    have s1 := m68.size
    have s2 : w68.drew.heap.size = w68.heap.size := rfl
    have s3 := m71.size
    have s4 := m74.size
    have s5 := ma74.size
    have s0 := T.md.size
    have haF2 : ∀ A, a = some A → A.block ∉ F2 := fun A hA hm => by
      have hlt := (ho.lt hA).2
      rcases f74 _ hm with h | h
      · rcases f71 _ h with h | h
        · exact haF A hA h
        · omega
      · omega
    have hsp : ∀ A, a = some A → A.block ≠ n67 := fun A hA => by have := (ho.lt hA).2; omega
    refine app_own rowT52 enci1 (ho74.md ma74) ol (by omega) (fun b hb => by have := (L74 b hb).1; omega) (fun b hb A hA => by
      simp at hb
      rcases hb with rfl | rfl
      · exact hsp A hA
      · exact ha1 A hA) (by simp [maxLen]; omega) (by simp; omega) fun a' c' w79 o79 m79 hA' => opL_in ⟨trivial, Bd_e (inc_i64 (by omega)) ?_⟩
    have mT : Md [] w w74 := T74.md
    have T79 : Tws w w79 n41 _ mo F2 := ⟨(T74.md0 ma74).mr.md m79 (fun b hb hm => by
      cases a with
      | none => simp at hm
      | some A => simp at hm; exact haF2 A rfl (hm ▸ hb)), (T74.md0 ma74).md.old m79 (fun d hd => by
      cases a with
      | none => simp at hd
      | some A => simp at hd; rw [hd]; exact (ho.lt rfl).1), T74.lo, T74.len⟩
    have s6 := m79.size
    refine ⟨f.len - (i + 1), by omega, i + 1, a', c', _, bs ++ [x75], F2, rfl, rfl, by omega, ?_, T79, o79, fun A hA hm => ?_, by simp; omega, fun b hb => ?_, fun A hA e => ?_⟩
    · rw [he] at hbl
      rw [← hbl, ← hx75]
      rfl
    · rcases hA' A hA with h | h
      · exact haF2 A h hm
      · have := T74.mr.lt _ hm; omega
    · have := L74 b (by simp at hb ⊢; exact .inr hb)
      exact ⟨by omega, this.2⟩
    · rcases hA' A hA with h | h
      · exact ha1 A h e
      · have := (L74 n1 (by simp)).1; omega
  have hif : i = f.len := by
    have : ¬ (i : Int) < (f.len : Int) := by rw [hb52] at hb; exact of_decide_eq_false hb
    omega
  subst hif
  rw [Fo.drop_all f _ (Nat.le_refl _)] at hbl
  change (l, bs) = _ at hbl
  obtain ⟨j0, hj0⟩ : ∃ j0, f.len = j0 + 1 := ⟨f.len - 1, by omega⟩
  refine Bd_e rfl <| Bd_e (y := (j0 : Int)) (by rw [IntKind.wrap_i64]; omega) ⟨(ho.row enci1).ix (by omega), (ho.row enci1).ld1 (by omega) rfl <| opI_in <| Bd_e rfl <| Bd_e (y := (j0 : Int) - 1) (by rw [IntKind.wrap_i64]; omega) ?_⟩
  have e0 : joinB mo (bs.drop j0) l = (l, bs[j0]'(by omega)) := by
    rw [List.drop_eq_getElem_cons (by omega), List.drop_of_length_le (by omega)]
    rfl
  refine LoopP_in (fun mm us vs w' => ∃ (j : Nat) (x : Int) (l' : List Ns) (F' : List Nat), us = [.int .i64 x, .int .i64 ((j : Int) - 1)] ∧ mm = j ∧ j ≤ j0 ∧ joinB mo (bs.drop j) l = (l', x) ∧ Tws w w' n41 l' mo F' ∧ Md F w47 w' ∧ FrN w47 F F' ∧ LN [n1] w' F') j0
    ⟨j0, _, _, F, rfl, rfl, Nat.le_refl _, e0, T, Md.refl _ _, FrN.refl _ _, hL⟩ ?_
  rintro mm us vs w93 ⟨j, x, l', F', rfl, hmm, hj, hc, St, m, fr, hL'⟩
  refine opI_in <| opI_in <| Bd_in fun b96 hb96 => If_in (fun hb => ?_) fun hb => ?_
  · have hj1 : (j : Int) - 1 ≥ 0 := by rw [hb96] at hb; exact of_decide_eq_true hb
    obtain ⟨i, rfl⟩ : ∃ i, j = i + 1 := ⟨j - 1, by omega⟩
    have ei : (((i + 1 : Nat) : Int) - 1) = (i : Int) := by omega
    rw [ei]
    have ho' : OwnL w93 w.heap.size 3 1 i1 a c bs := ho.mdD m haF
    refine ⟨(ho'.row enci1).ix (by omega), (ho'.row enci1).ld1 (by omega) rfl <| opI_in ?_⟩
    refine in164 St hL' (by omega) 2 0 0 0 0 _ x 0 fun F3 w44 S44 m44 f44 lf44 => Bd_e (y := (i : Int) - 1) (by rw [IntKind.wrap_i64]; omega) ⟨i, by omega, i, _, _, F3, rfl, rfl, by omega, ?_, S44, Md_frN m m44 fr, fr.trans f44 m.size, lf44⟩
    rw [List.drop_eq_getElem_cons (by omega : i < bs.length)]
    obtain ⟨y, ys, hys⟩ : ∃ y ys, bs.drop (i + 1) = y :: ys := ⟨_, _, List.drop_eq_getElem_cons (by omega)⟩
    rw [hys] at hc ⊢
    show pst mo (joinB mo (y :: ys) l).1 (spl _ (joinB mo (y :: ys) l).2) = _
    rw [hc]
    rfl
  have hj1 : ¬ (j : Int) - 1 ≥ 0 := by rw [hb96] at hb; exact of_decide_eq_false hb
  have hjz : j = 0 := by omega
  subst hjz
  have hc' : joinB mo bs l = (l', x) := by simpa using hc
  have eb : bld f mo = if (l'.length : Int) > mo then ((0, []), 40) else ((x, l'), 0) := by
    unfold bld
    rw [if_pos ⟨hcond.1, hcond.2.1, hcond.2.2.1, hcond.2.2.2, hright⟩]
    simp only [Int.toNat_natCast, ← hbl, hc']
  refine (f165_ok n41 l' mo F' w93 St.mr).call (fun b hb => (hL' b hb).1) ?_
  rintro v w104 rfl m104
  have hn104 : n1 < w104.heap.size := by have := (hL' n1 (by simp)).1; have := m104.size; omega
  have mw : Md [] w w104 := St.md.trans m104
  refine opB_in <| If_in (fun hb w106 h106 hL106 => ?_) fun hb => NN_in ?_
  · have : l'.length > mo := by simpa using hb
    rw [eb, if_pos (by omega)]
    exact ⟨⟨none, 0, rfl, OwnL.nil _ _ _ _ _⟩, mw.old h106 (by simp; exact hn1)⟩
  · have hle : ¬ (l'.length : Int) > mo := by
      have : ¬ l'.length > mo := by simpa using hb
      omega
    rw [eb, if_neg hle]
    obtain ⟨a', c', hk, hF⟩ := St.mr.md0 m104
    refine hk.blk.ld' rfl <| opL_in fun w112 h112 hL112 => ?_
    refine ⟨⟨a', c', rfl, (hk.own.mdD h112 (fun A hA => by simp; have h1 := (hL' n1 (by simp)).2; intro e; exact h1 (by rw [hF, mem_fpM]; exact .inr ⟨A, hA, e⟩))).up fun A hA => St.lo _ (by rw [hF, mem_fpM]; exact .inr ⟨A, hA, rfl⟩)⟩, mw.old h112 (by simp; exact hn1)⟩
end Fk
set_option linter.unusedVariables false
set_option linter.unusedSimpArgs false
namespace Fk
open Go Go.Proofs Go.RowKit
def Ns.q (x : Ns) : Q4 := (x.s1, x.s2, x.s3, x.s4)
def On (N : List Bool) (i : Nat) : Prop := N[i]? = some true
instance (N : List Bool) (i : Nat) : Decidable (On N i) := by unfold On; infer_instance
/-- The states of a stack are come to, and what they come to without a byte. -/
def comeF (l : List Ns) : Nat → List Int → List Bool → List Bool
  | 0, _, N => N
  | m + 1, st, N => match st with
    | [] => N
    | x :: r => if On N x.toNat then comeF l m r N
      else comeF l m (match l[x.toNat]? with
        | some s => if s.k = 2 then s.b :: s.a :: r else r
        | none => r) (N.set x.toNat true)
def tagF : List Bool → List Ns → Int → Int
  | h :: hs, x :: xs, t => tagF hs xs (if h = true ∧ x.k = 0 ∧ (t < 0 ∨ x.t < t) then x.t else t)
  | _, _, t => t
def offs (n : Nat) : List Bool := List.replicate n false
/-- What some states come to without a byte. -/
inductive Rch (l : List Ns) (S : Nat → Prop) : Nat → Prop
  | base {i : Nat} : S i → Rch l S i
  | a {i : Nat} {x : Ns} : Rch l S i → l[i]? = some x → x.k = 2 → Rch l S x.a.toNat
  | b {i : Nat} {x : Ns} : Rch l S i → l[i]? = some x → x.k = 2 → Rch l S x.b.toNat
theorem Rch.sub {l : List Ns} {S T : Nat → Prop} (h : ∀ i, S i → Rch l T i) {i : Nat} (hi : Rch l S i) : Rch l T i := by
  induction hi with
  | base hs => exact h _ hs
  | a _ h1 h2 ih => exact .a ih h1 h2
  | b _ h1 h2 ih => exact .b ih h1 h2
theorem Rch.mono {l : List Ns} {S T : Nat → Prop} (h : ∀ i, S i → T i) {i : Nat} (hi : Rch l S i) : Rch l T i := hi.sub fun i hs => .base (h i hs)
def OkL (l : List Ns) : Prop := ∀ x ∈ l, 0 ≤ x.a ∧ x.a < l.length ∧ 0 ≤ x.b ∧ x.b < l.length
theorem okL_of_right {st : Int} {l : List Ns} (h : nfRight st l = true) : OkL l ∧ 0 ≤ st ∧ st < l.length ∧ l.length ≤ 20000 ∧ ∀ x ∈ l, okNs l.length x := by
  unfold nfRight at h
  rw [Bool.and_eq_true, decide_eq_true_eq, List.all_eq_true] at h
  refine ⟨fun x hx => ?_, h.1.1, h.1.2.1, h.1.2.2, fun x hx => of_decide_eq_true (h.2 x hx)⟩
  have := of_decide_eq_true (h.2 x hx)
  unfold okNs at this
  omega
theorem On.lt {N : List Bool} {i : Nat} (h : On N i) : i < N.length := by
  unfold On at h
  exact (List.getElem?_eq_some_iff.1 h).1
theorem On_set {N : List Bool} {i j : Nat} (hi : i < N.length) : On (N.set i true) j ↔ On N j ∨ j = i := by
  unfold On
  rw [List.getElem?_set]
  by_cases c : i = j
  · subst c; simp [hi]
  · simp [c]
    exact fun h => absurd h.symm c
def ofc (N : List Bool) : Nat := N.count false
theorem ofc_set {N : List Bool} {i : Nat} (hi : i < N.length) (hn : ¬ On N i) : ofc N = ofc (N.set i true) + 1 := by
  unfold ofc
  have e : N[i] = false := by
    unfold On at hn
    rw [List.getElem?_eq_getElem hi] at hn
    simpa using hn
  rw [List.count_set hi]
  have : 0 < N.count false := List.count_pos_iff.2 (e ▸ List.getElem_mem hi)
  simp [e]; omega
structure CoF (l : List Ns) (st : List Int) (N N' : List Bool) : Prop where
  len : N'.length = l.length
  up : ∀ i, On N i → On N' i
  has : ∀ x ∈ st, On N' x.toNat
  fr : ∀ i, On N' i → On N i ∨ Rch l (fun j => ∃ x ∈ st, x.toNat = j) i
  cl : ∀ i x, On N' i → l[i]? = some x → x.k = 2 → On N i ∨ (On N' x.a.toNat ∧ On N' x.b.toNat)
theorem comeF_ok (l : List Ns) (hl : OkL l) : ∀ (m : Nat) (st : List Int) (N : List Bool), N.length = l.length → (∀ x ∈ st, 0 ≤ x ∧ x < l.length) → 2 * ofc N + st.length ≤ m → CoF l st N (comeF l m st N)
  | 0, st, N, hN, hst, hm => by
    have : st = [] := List.eq_nil_of_length_eq_zero (by omega)
    subst this
    exact ⟨hN, fun _ h => h, by simp, fun _ h => .inl h, fun _ _ h _ _ => .inl h⟩
  | m + 1, [], N, hN, hst, hm => ⟨hN, fun _ h => h, by simp, fun _ h => .inl h, fun _ _ h _ _ => .inl h⟩
  | m + 1, x :: r, N, hN, hst, hm => by
    have hx := hst x (by simp)
    have hr : ∀ y ∈ r, 0 ≤ y ∧ y < l.length := fun y hy => hst y (by simp [hy])
    have hxl : x.toNat < l.length := by omega
    simp only [List.length_cons] at hm
    unfold comeF
    simp only
    split
    · rename_i hon
      have I := comeF_ok l hl m r N hN hr (by omega)
      exact ⟨I.len, I.up, fun y hy => by
        rcases List.mem_cons.1 hy with rfl | hy
        · exact I.up _ hon
        · exact I.has y hy, fun i hi => by
        rcases I.fr i hi with h | h
        · exact .inl h
        · exact .inr (h.mono fun j ⟨y, hy, e⟩ => ⟨y, by simp [hy], e⟩), I.cl⟩
    · rename_i hon
      have hf := ofc_set (N := N) (by omega) hon
      have hs : l[x.toNat]? = some l[x.toNat] := List.getElem?_eq_getElem hxl
      have hmem := hl _ (List.getElem_mem hxl)
      generalize l[x.toNat] = s at hs hmem
      rw [hs]
      simp only
      have hset : ∀ {j}, On (N.set x.toNat true) j ↔ On N j ∨ j = x.toNat := fun {j} => On_set (by omega)
      by_cases hk : s.k = 2
      · rw [if_pos hk]
        have I := comeF_ok l hl m (s.b :: s.a :: r) (N.set x.toNat true) (by simp [hN]) (fun y hy => by
          simp at hy
          rcases hy with rfl | rfl | hy
          · exact ⟨hmem.2.2.1, hmem.2.2.2⟩
          · exact ⟨hmem.1, hmem.2.1⟩
          · exact hr y hy) (by simp; omega)
        have hbase : Rch l (fun j => ∃ y ∈ x :: r, y.toNat = j) x.toNat := .base ⟨x, by simp, rfl⟩
        refine ⟨I.len, fun i hi => I.up i (hset.2 (.inl hi)), fun y hy => ?_, fun i hi => ?_, fun i z hi hz hzk => ?_⟩
        · rcases List.mem_cons.1 hy with rfl | hy
          · exact I.up _ (hset.2 (.inr rfl))
          · exact I.has y (by simp [hy])
        · rcases I.fr i hi with h | h
          · rcases hset.1 h with h | h
            · exact .inl h
            · subst h; exact .inr hbase
          · refine .inr (h.sub fun j hj => ?_)
            obtain ⟨y, hy, e⟩ := hj
            simp at hy
            rcases hy with rfl | rfl | hy
            · rw [← e]; exact .b hbase hs hk
            · rw [← e]; exact .a hbase hs hk
            · exact .base ⟨y, by simp [hy], e⟩
        · rcases I.cl i z hi hz hzk with h | h
          · rcases hset.1 h with h | h
            · exact .inl h
            · subst h
              rw [hs] at hz
              injection hz with hz
              subst hz
              exact .inr ⟨I.has _ (by simp), I.has _ (by simp)⟩
          · exact .inr h
      · rw [if_neg hk]
        have I := comeF_ok l hl m r (N.set x.toNat true) (by simp [hN]) hr (by omega)
        refine ⟨I.len, fun i hi => I.up i (hset.2 (.inl hi)), fun y hy => ?_, fun i hi => ?_, fun i z hi hz hzk => ?_⟩
        · rcases List.mem_cons.1 hy with rfl | hy
          · exact I.up _ (hset.2 (.inr rfl))
          · exact I.has y (by simp [hy])
        · rcases I.fr i hi with h | h
          · rcases hset.1 h with h | h
            · exact .inl h
            · subst h; exact .inr (.base ⟨x, by simp, rfl⟩)
          · exact .inr (h.mono fun j ⟨y, hy, e⟩ => ⟨y, by simp [hy], e⟩)
        · rcases I.cl i z hi hz hzk with h | h
          · rcases hset.1 h with h | h
            · exact .inl h
            · subst h
              rw [hs] at hz
              injection hz with hz
              subst hz
              exact absurd hzk hk
          · exact .inr h
/-- These are the states that some come to. -/
def IsSt (l : List Ns) (S : Nat → Prop) (N : List Bool) : Prop := N.length = l.length ∧ ∀ i, On N i ↔ Rch l S i
theorem IsSt.congr {l : List Ns} {S T : Nat → Prop} {N : List Bool} (h : IsSt l S N) (hi : ∀ i, S i ↔ T i) : IsSt l T N :=
  ⟨h.1, fun i => (h.2 i).trans ⟨Rch.mono fun i => (hi i).1, Rch.mono fun i => (hi i).2⟩⟩
theorem IsSt.offs (l : List Ns) : IsSt l (fun _ => False) (offs l.length) := by
  refine ⟨by simp [Fk.offs], fun i => ⟨fun h => ?_, fun h => ?_⟩⟩
  · unfold On Fk.offs at h
    rw [List.getElem?_replicate] at h
    split at h <;> simp at h
  · exfalso
    induction h with
    | base h => exact h
    | a _ _ _ ih => exact ih
    | b _ _ _ ih => exact ih
theorem ofc_le (N : List Bool) : ofc N ≤ N.length := List.count_le_length
end Fk
set_option linter.unusedVariables false
set_option linter.unusedSimpArgs false
set_option maxRecDepth 100000
set_option maxHeartbeats 1000000
namespace Fk
open Go Go.Proofs Go.RowKit
def bE (b : Bool) : List Value := [.bool b]
theorem encbE : Enc 1 bE := ⟨fun _ => rfl, by intro x v hv; simp [bE] at hv; subst hv; rfl⟩
theorem size3 (w : World) : ∃ m, (Go.sizeOf 3).run Try.prog w = .ok m w := by
  have h : (Try.prog.info? 3).isSome = true := by kernel_rfl
  obtain ⟨i, hi⟩ := Option.isSome_iff_exists.1 h
  exact ⟨i.size, by simp [Go.sizeOf, typeInfo, hi]⟩
/-- The last one is taken. -/
theorem OwnL.pop {α : Type} {w : World} {base : Nat} {e : TypeId} {size : Nat} {enc : α → List Value} (he : Enc size enc) {a : Option Addr} {c : Nat} {l : List α} {x : α} (h : OwnL w base e size enc a c (l ++ [x])) : OwnL w base e size enc a c l := by
  unfold OwnL at h ⊢
  obtain ⟨g, hg⟩ : ∃ g, a = some ⟨g, 0, none⟩ := by
    rcases h.2 with ⟨_, hn⟩ | ⟨g, cap, cur, hv, _⟩
    · simp at hn
    · simp only [Value.slice.injEq] at hv
      exact ⟨g, hv.1⟩
  subst hg
  rw [List.flatMap_append, List.length_append] at h
  exact ownsRow_pop (he.lenL l) h
theorem mem_blk {a : Option Addr} {d : Nat} (h : d ∈ (a.map (·.block)).toList) : ∃ A, a = some A ∧ A.block = d := by
  cases a with
  | none => simp at h
  | some A => simp at h; exact ⟨A, rfl, h.symm⟩
/-- A stand in memory: the machine, where it stands, and where it is to come to. -/
structure StAt (w0 w : World) (n : Nat) (st : Int) (pa : Option Addr) (pc : Nat) (l : List Ns) (an ax : Option Addr) (cn cx : Nat) (now next : List Bool) : Prop where
  blk : Blk w n 231 [.int .i64 st, .slice pa l.length pc, .slice an now.length cn, .slice ax next.length cx]
  row : RowAt w0 pa 8 nsE l
  md : Md [] w0 w
  nlo : w0.heap.size ≤ n
  onow : OwnL w w0.heap.size 4 1 bE an cn now
  onext : OwnL w w0.heap.size 4 1 bE ax cx next
  d1 : ∀ A, an = some A → A.block ≠ n
  d2 : ∀ A, ax = some A → A.block ≠ n
  d3 : Apt an ax
section
variable {w0 w w' : World} {n : Nat} {st : Int} {pa : Option Addr} {pc : Nat} {l : List Ns} {an ax : Option Addr} {cn cx : Nat} {now next : List Bool}
theorem StAt.md0 (S : StAt w0 w n st pa pc l an ax cn cx now next) (hm : Md [] w w') : StAt w0 w' n st pa pc l an ax cn cx now next :=
  ⟨S.blk.md hm (by simp), S.row, S.md.trans hm, S.nlo, S.onow.md hm, S.onext.md hm, S.d1, S.d2, S.d3⟩
theorem StAt.mdN {D : List Nat} (S : StAt w0 w n st pa pc l an ax cn cx now next) (hm : Md D w w') (hD : ∀ d ∈ D, w.heap.size ≤ d) : StAt w0 w' n st pa pc l an ax cn cx now next := S.md0 (hm.fresh hD)
theorem StAt.put (S : StAt w0 w n st pa pc l an ax cn cx now next) {i : Nat} (hi : i < next.length) (x : Bool) :
    ∃ A, ax = some A ∧ A.block < w.heap.size ∧ w0.heap.size ≤ A.block ∧ (adAt ax (i : Int) 1).block = A.block ∧ Wr w (adAt ax (i : Int) 1) 1 ∧ StAt w0 (setCells w (adAt ax (i : Int) 1) 0 [.bool x]) n st pa pc l an ax cn cx now (next.set i x) ∧
      Md [A.block] w (setCells w (adAt ax (i : Int) 1) 0 [.bool x]) := by
  obtain ⟨A, hA, h1, h2, h3, h4, h5, h6⟩ := S.onext.put encbE (by omega) hi x
  refine ⟨A, hA, h1, h2, h3, h4, ⟨?_, S.row, S.md.old h6 (by simpa using h2), S.nlo, S.onow.mdD h6 fun B hB => by simpa using S.d3 B A hB hA, h5, S.d1, S.d2, S.d3⟩, h6⟩
  have := S.blk.md h6 (by simpa using (S.d2 A hA).symm)
  rw [List.length_set]; exact this
end
theorem comeF_nil (l : List Ns) (m : Nat) (N : List Bool) : comeF l m [] N = N := by cases m <;> rfl
theorem comeF_on {l : List Ns} {m : Nat} {x : Int} {r : List Int} {N : List Bool} (h : On N x.toNat) : comeF l (m + 1) (x :: r) N = comeF l m r N := by
  conv => lhs; unfold comeF
  simp only
  rw [if_pos h]
theorem comeF_off {l : List Ns} {m : Nat} {i : Nat} {r : List Int} {N : List Bool} (h : ¬ On N i) (hi : i < l.length) : comeF l (m + 1) ((i : Int) :: r) N = comeF l m (if l[i].k = 2 then l[i].b :: l[i].a :: r else r) (N.set i true) := by
  conv => lhs; unfold comeF
  simp only
  rw [if_neg (by simpa using h), Int.toNat_natCast, List.getElem?_eq_getElem hi]
end Fk
set_option linter.unusedVariables false
set_option linter.unusedSimpArgs false
set_option maxRecDepth 100000
set_option maxHeartbeats 1000000
namespace Fk
open Go Go.Proofs Go.RowKit
theorem bE_map (l : List Bool) : l.flatMap bE = l.map Value.bool := by
  induction l with
  | nil => rfl
  | cons x l ih => rw [List.flatMap_cons, ih]; rfl
theorem tagF_step {N : List Bool} {l : List Ns} {i : Nat} (h1 : i < N.length) (h2 : i < l.length) (t : Int) :
    tagF (N.drop i) (l.drop i) t = tagF (N.drop (i + 1)) (l.drop (i + 1)) (if N[i] = true ∧ l[i].k = 0 ∧ (t < 0 ∨ l[i].t < t) then l[i].t else t) := by
  rw [List.drop_eq_getElem_cons h1, List.drop_eq_getElem_cons h2]
  rfl
end Fk
set_option linter.unusedVariables false
set_option linter.unusedSimpArgs false
set_option maxRecDepth 100000
set_option maxHeartbeats 2000000
namespace Fk
open Go Go.Proofs Go.RowKit
/-- The bit of a byte is asked. -/
theorem bit_in {q : Q4} {b : Nat} (hb : b < 256) (k a1 a2 a3 : Int) {b69 : Bool} {K : Bool → Prop} (kk : K (inQ q b)) :
    Bd (IntKind.wrap .u8 (Int.tdiv (b : Int) 64)) fun x70 => (b69 = true → 0 ≤ x70 ∧ x70 < ((4 : Nat) : Int)) ∧
      BdO (nthV [.int .u8 k, .int .u64 q.1, .int .u64 q.2.1, .int .u64 q.2.2.1, .int .u64 q.2.2.2, .int .i64 a1, .int .i64 a2, .int .i64 a3] (1 + x70.toNat * 1)) fun v72 => opI .u64 v72 fun x73 => Bd (Int.tmod (b : Int) 64) fun x74 =>
        (b69 = true → 0 ≤ x74) ∧ Bd (Int.fdiv x73 (2 ^ min x74.toNat 64)) fun x76 => Bd (IntKind.wrap .u64 ((BitVec.toNat (BitVec.ofInt 64 x76 &&& BitVec.ofInt 64 1) : Nat) : Int)) fun x77 => Bd (x77 == 1) K := by
  refine Bd_e (y := ((b / 64 : Nat) : Int)) (by rw [IntKind.wrap_u8, Int.tdiv_eq_ediv_of_nonneg (by omega)]; omega) ⟨fun _ => ⟨by omega, by omega⟩, ?_⟩
  refine BdO_in (v := .int .u64 (word q (b / 64))) ?_ ?_
  · rw [Int.toNat_natCast, Nat.mul_one, Nat.add_comm]
    have h := nth_word q (b / 64) (by omega)
    have h4 : b / 64 < 4 := by omega
    generalize b / 64 = j at *
    rcases j with _ | _ | _ | _ | j <;> first | exact h | omega
  refine opI_in ?_
  refine Bd_e (y := ((b % 64 : Nat) : Int)) (by rw [Int.tmod_eq_emod_of_nonneg (by omega)]; omega) ⟨fun _ => by omega, ?_⟩
  refine Bd_in fun x6 hx6 => Bd_in fun x7 hx7 => Bd_in fun b8 hb8 => ?_
  have : b8 = inQ q b := by
    rw [hb8, hx7, u64_and, bit_and_one, hx6, Int.toNat_natCast, Nat.min_eq_left (by omega), Int.fdiv_eq_ediv_of_nonneg _ (Int.pow_nonneg (by decide))]
    simp only [inQ]
    rw [Bool.eq_iff_iff]; simp
  rw [this]
  exact kk
theorem made4 (m : Nat) (w : World) (hm : m < 2 ^ 20) : ∃ w', (Instr.makeSlice 222 (.int .i64 (m : Int)) (.int .i64 (m : Int))).run Try.prog w = .ok (.slice (some ⟨w.heap.size, 0, none⟩) m m) w' ∧ OwnL w' w.heap.size 4 1 bE (some ⟨w.heap.size, 0, none⟩) m (offs m) ∧ Md [] w w' := by
  have h4 : (Try.prog.info? 4).isSome = true := by kernel_rfl
  obtain ⟨i4, hi4⟩ := Option.isSome_iff_exists.1 h4
  have hz4 : (Try.prog.info? 4).bind (·.zero) = some (.bool false) := by kernel_rfl
  have hs4 : (Try.prog.info? 4).map (fun i => (i.size, i.bytes)) = some (1, 1) := by kernel_rfl
  rw [hi4] at hz4 hs4
  simp only [Option.bind_some, Option.map_some, Option.some.injEq, Prod.mk.injEq] at hz4 hs4
  obtain ⟨w3, hrun, hown, hgr⟩ := run_makeSlice_full (P := Try.prog) w w.heap.size 222 4 i4 (.bool false) 1 (by kernel_rfl) hi4 hz4 hs4.1 .i64 .i64 m (by omega) (by rw [hs4.2]; omega) (by simp [maxLen]; omega) (Nat.le_refl _)
  refine ⟨w3, hrun, ?_, Md_of_grown hgr⟩
  have hmc : (madeCells (Value.bool false).cells (m * 1)).toList = (offs m).flatMap bE := by
    rw [bE_map, offs, List.map_replicate, Nat.mul_one]
    exact toList_madeCells_one _ m
  unfold OwnL
  rw [← hmc, show (offs m).length = m by simp [offs]]; exact hown
theorem offs_len (n : Nat) : (offs n).length = n := by simp [offs]
end Fk
set_option linter.unusedVariables false
set_option linter.unusedSimpArgs false
set_option maxRecDepth 100000
set_option maxHeartbeats 2000000
namespace Fk
open Go Go.Proofs Go.RowKit
theorem On_offs {n i : Nat} : ¬ On (offs n) i := by
  unfold On offs
  rw [List.getElem?_replicate]
  split <;> simp
end Fk
set_option linter.unusedVariables false
set_option linter.unusedSimpArgs false
set_option maxRecDepth 100000
set_option maxHeartbeats 2000000
namespace Fk
open Go Go.Proofs Go.RowKit
def dst (l : List Ns) (todo : List Int) : List Bool := comeF l (2 * l.length + todo.length) todo.reverse (offs l.length)
theorem dst_ok {l : List Ns} (hl : OkL l) {todo : List Int} (ht : ∀ x ∈ todo, 0 ≤ x ∧ x < l.length) : IsSt l (fun i => ∃ x ∈ todo, x.toNat = i) (dst l todo) := by
  have I := comeF_ok l hl (2 * l.length + todo.length) todo.reverse (offs l.length) (offs_len _) (fun x hx => ht x (by simpa using hx)) (by have := ofc_le (offs l.length); rw [offs_len] at this; rw [List.length_reverse]; omega)
  refine ⟨I.len, fun i => ⟨fun hi => ?_, fun hi => ?_⟩⟩
  · rcases I.fr i hi with h | h
    · exact absurd h On_offs
    · exact h.mono fun j ⟨x, hx, e⟩ => ⟨x, by simpa using hx, e⟩
  · induction hi with
    | base h => obtain ⟨x, hx, rfl⟩ := h; exact I.has x (by simpa using hx)
    | a _ h1 h2 ih =>
      rcases I.cl _ _ ih h1 h2 with h3 | h3
      · exact absurd h3 On_offs
      · exact h3.1
    | b _ h1 h2 ih =>
      rcases I.cl _ _ ih h1 h2 with h3 | h3
      · exact absurd h3 On_offs
      · exact h3.2
def byL (b : Nat) : List Bool → List Ns → List Int
  | h :: hs, x :: xs => if h = true ∧ x.k = 1 ∧ inQ x.q b = true then x.a :: byL b hs xs else byL b hs xs
  | _, _ => []
theorem mem_byL (b : Nat) : ∀ (N : List Bool) (xs : List Ns) (y : Int), y ∈ byL b N xs ↔ ∃ j x, On N j ∧ xs[j]? = some x ∧ x.k = 1 ∧ inQ x.q b = true ∧ y = x.a
  | [], xs, y => by
    have e : byL b [] xs = [] := by cases xs <;> rfl
    rw [e]
    exact ⟨fun h => by simp at h, fun ⟨j, x, h, _⟩ => by simp [On] at h⟩
  | h :: hs, [], y => ⟨fun h => by simp [byL] at h, fun ⟨j, x, _, h, _⟩ => by simp at h⟩
  | h :: hs, x :: xs, y => by
    have ih := mem_byL b hs xs y
    unfold byL
    constructor
    · intro hy
      split at hy
      · rename_i c
        rcases List.mem_cons.1 hy with rfl | hy
        · exact ⟨0, x, by simp [On, c.1], rfl, c.2.1, c.2.2, rfl⟩
        · obtain ⟨j, z, h1, h2⟩ := ih.1 hy
          exact ⟨j + 1, z, by simpa [On] using h1, by simpa using h2⟩
      · obtain ⟨j, z, h1, h2⟩ := ih.1 hy
        exact ⟨j + 1, z, by simpa [On] using h1, by simpa using h2⟩
    · rintro ⟨j, z, h1, h2, h3⟩
      cases j with
      | zero =>
        simp at h2; subst h2
        rw [if_pos ⟨by simpa [On] using h1, h3.1, h3.2.1⟩, h3.2.2]
        simp
      | succ j =>
        have hm : y ∈ byL b hs xs := ih.2 ⟨j, z, by simpa [On] using h1, by simpa using h2, h3⟩
        split
        · exact List.mem_cons_of_mem _ hm
        · exact hm
theorem byL_in {l : List Ns} (hl : OkL l) (b : Nat) (N : List Bool) : ∀ y ∈ byL b N l, 0 ≤ y ∧ y < l.length := fun y hy => by
  obtain ⟨j, x, _, h2, _, _, rfl⟩ := (mem_byL b N l y).1 hy
  have := hl x (List.mem_of_getElem? h2)
  exact ⟨this.1, this.2.1⟩
theorem byL_step {N : List Bool} {l : List Ns} {b j : Nat} (h1 : j < N.length) (h2 : j < l.length) : byL b (N.drop j) (l.drop j) = if N[j] = true ∧ l[j].k = 1 ∧ inQ l[j].q b = true then l[j].a :: byL b (N.drop (j + 1)) (l.drop (j + 1)) else byL b (N.drop (j + 1)) (l.drop (j + 1)) := by
  rw [List.drop_eq_getElem_cons h1, List.drop_eq_getElem_cons h2]
  rfl
theorem f171_ok (st : Int) (l : List Ns) (pa xa : Option Addr) (pc xc : Nat) (N : List Bool) (b : Nat) (hb : b < 256) (w : World) (hr : RowAt w pa 8 nsE l) (hx : RowAt w xa 1 bE N) (hN : N.length = l.length) (hlen : l.length ≤ 20000) :
    Ct Try.prog 171 #[.agg #[.int .i64 st, .slice pa l.length pc], .slice xa N.length xc, .int .u8 b] w fun v w' => (∃ (a : Option Addr) (c : Nat), v = .slice a (byL b N l).length c ∧ OwnL w' w.heap.size 3 1 i1 a c (byL b N l)) ∧ Md [] w w' := by
  apply f171_in
  intro n1 hn1
  refine Bd_e rfl fun w3 h3 hL3 => ?_
  have ln : n1 < w3.heap.size := hL3 n1 (by simp)
  refine LoopP_in (fun mm us vs w' => ∃ (i : Nat) (a : Option Addr) (c : Nat) (o : List Int), us = [.slice a o.length c, .int .i64 i] ∧ mm = l.length - i ∧ i ≤ l.length ∧ o ++ byL b (N.drop i) (l.drop i) = byL b N l ∧ o.length ≤ i ∧ OwnL w' w3.heap.size 3 1 i1 a c o ∧ Md [] w3 w') l.length
    ⟨0, none, 0, [], rfl, rfl, by omega, by simp, by simp, OwnL.nil .., Md.refl _ _⟩ ?_
  rintro mm us vs w7 ⟨i, a, c, o, rfl, hmm, hi, ho, hol, own, hmd⟩
  have m7 := h3.trans hmd
  have s7 := hmd.size
  refine opL_in <| opI_in <| Bd_in fun b12 hb12 => If_in (fun hbt => ?_) fun hbf => ?_
  case refine_2 =>
    have : ¬ (i : Int) < (N.length : Int) := by rw [hb12] at hbf; exact of_decide_eq_false hbf
    have hil : i = l.length := by omega
    subst hil
    rw [List.drop_of_length_le (by omega)] at ho
    rw [show byL b [] (l.drop l.length) = [] by cases l.drop l.length <;> rfl, List.append_nil] at ho
    rw [← ho]
    exact ⟨⟨a, c, rfl, own.down h3.size⟩, m7⟩
  have hiN : i < N.length := by rw [hb12] at hbt; have : (i : Int) < (N.length : Int) := of_decide_eq_true hbt
                                omega
  have hil : i < l.length := by omega
  rw [byL_step hiN hil] at ho
  have rl := hr.md m7
  refine Jn_in (fun us vs w' => ∃ (a : Option Addr) (c : Nat) (o' : List Int) (z : Bool), us = [.slice a o'.length c, .int .i64 i, .bool z] ∧ o' ++ byL b (N.drop (i + 1)) (l.drop (i + 1)) = byL b N l ∧ o'.length ≤ i + 1 ∧ OwnL w' w3.heap.size 3 1 i1 a c o' ∧ Md [] w3 w') ?_ ?_
  · rintro us vs w15 ⟨a, c, o', z, rfl, q1, q2, q3, q4⟩
    exact opL_in <| opI_in <| opB_in <| Bd_e (inc_i64 (by omega)) ⟨l.length - (i + 1), by omega, i + 1, a, c, o', rfl, rfl, by omega, q1, q2, q3, q4⟩
  refine ⟨(hx.md m7).ix hiN, (hx.md m7).ld1 hiN rfl <| opB_in ⟨rl.ix hil, rl.ld8 hil ?_⟩⟩
  intro n41 hn41
  refine Bd_in fun b42 hb42 => Bd_in fun b43 hb43 => bit_in (q := l[i].q) hb _ _ _ _ ?_
  refine Bd_in fun b53 hb53 => ?_
  have hiff : b53 = true ↔ (N[i] = true ∧ l[i].k = 1 ∧ inQ l[i].q b = true) := by
    rw [hb53, hb43, hb42]
    cases N[i] <;> simp
  refine If_in (fun hc w54 h54 hL54 => ?_) fun hc w54 h54 hL54 => ?_
  · rw [if_pos (hiff.1 hc)] at ho
    have m54 : Md [] w7 w54 := h54.fresh (by simp; exact hn41)
    refine Nw_i ?_
    have ma : Md [] w54 (w54.alloc (.cells #[.int .i64 l[i].a] 3)) := Md.alloc w54 _
    have ol := OwnL.lit (P := Try.prog) (base := w54.heap.size) enci1 w54 3 [l[i].a] #[.int .i64 l[i].a] (Nat.le_refl _) (by simp [maxLen]) rfl
    have own2 := (own.md m54).md ma
    have sz := m54.size
    have sz2 := ma.size
    refine app_own rowT52 enci1 own2 ol (by omega) (fun z hz => Nat.lt_of_lt_of_le (hL54 z hz) sz2) (fun z hz A hA e => ?_) (by simp [maxLen]; omega) (by simp; omega) fun a' c' w58 o58 m58 hA' => opL_in ⟨a', c', _, _, rfl, by rw [← ho]; simp, by simp; omega, o58, ((hmd.trans m54).trans ma).own own2 m58⟩
    have := own.lt hA
    simp at hz
    rcases hz with rfl | rfl <;> omega
  · rw [if_neg (fun h => by have := hiff.2 h; rw [hc] at this; cases this)] at ho
    have m54 : Md [] w7 w54 := h54.fresh (by simp; exact hn41)
    exact ⟨a, c, o, _, rfl, ho, by omega, own.md m54, hmd.trans m54⟩
theorem f170_ok (st : Int) (l : List Ns) (pa xa : Option Addr) (pc xc : Nat) (N : List Bool) (w : World) (h1 : RowAt w pa 8 nsE l) (h2 : RowAt w xa 1 bE N) (hN : N.length = l.length) (hlen : l.length ≤ 20000) :
    Ct Try.prog 170 #[.agg #[.int .i64 st, .slice pa l.length pc], .slice xa N.length xc] w fun v w' => v = .int .i64 (tagF N l (-1)) ∧ Md [] w w' := by
  apply f170_in
  intro n1 hn1
  refine Bd_e rfl fun w3 h3 hL3 => ?_
  refine LoopP_in (fun mm us vs w' => ∃ (i : Nat) (t : Int), us = [.int .i64 t, .int .i64 i] ∧ mm = l.length - i ∧ i ≤ l.length ∧ Md [] w w' ∧ tagF (N.drop i) (l.drop i) t = tagF N l (-1)) l.length
    ⟨0, -1, rfl, rfl, by omega, h3, rfl⟩ ?_
  rintro m' us vs w6 ⟨i, t, rfl, hmm, hi, h6, ht⟩
  refine opI_in <| opI_in <| Bd_in fun b41 hb41 => If_in (fun hb => ?_) fun hb => ?_
  case refine_2 =>
    have : ¬ (i : Int) < (N.length : Int) := by rw [hb41] at hb; exact of_decide_eq_false hb
    have hil : i = l.length := by omega
    subst hil
    rw [List.drop_of_length_le (by omega), List.drop_of_length_le (by omega)] at ht
    rw [← ht]
    exact ⟨rfl, h6⟩
  have hin : i < N.length := by rw [hb41] at hb; have : (i : Int) < (N.length : Int) := of_decide_eq_true hb
                                omega
  have hil : i < l.length := by omega
  rw [tagF_step hin hil] at ht
  refine Jn_in (fun us vs w' => ∃ (z : Bool), us = [.int .i64 (if N[i] = true ∧ l[i].k = 0 ∧ (t < 0 ∨ l[i].t < t) then l[i].t else t), .int .i64 i, .bool z] ∧ Md [] w w') ?_ ?_
  · rintro us vs w44 ⟨z, rfl, h44⟩
    exact opI_in <| opI_in <| opB_in <| Bd_e (inc_i64 (by omega)) ⟨l.length - (i + 1), by omega, i + 1, _, rfl, rfl, by omega, h44, ht⟩
  refine ⟨(h2.md h6).ix hin, ((h2.md h6).ld1 hin rfl) <| opB_in ⟨(h1.md h6).ix hil, (h1.md h6).ld8 hil ?_⟩⟩
  intro n37 hn37
  refine Bd_in fun b74 hb74 => Bd_in fun b75 hb75 => Bd_in fun b76 hb76 => Bd_in fun b77 hb77 => Bd_in fun b78 hb78 => Bd_in fun b79 hb79 => ?_
  have hiff : b79 = true ↔ (N[i] = true ∧ l[i].k = 0 ∧ (t < 0 ∨ l[i].t < t)) := by
    rw [hb79, hb78, hb75, hb74, hb76, hb77]
    cases N[i] <;> simp
  refine If_in (fun hc w44 h44 _ => ?_) fun hc w44 h44 _ => ?_
  · rw [if_pos (hiff.1 hc)]
    exact ⟨_, rfl, h6.trans (h44.fresh (by simp; exact hn37))⟩
  · rw [if_neg (fun h => by have := hiff.2 h; rw [hc] at this; cases this)]
    exact ⟨_, rfl, h6.trans (h44.fresh (by simp; exact hn37))⟩
theorem f167_ok (st : Int) (l : List Ns) (pa xa : Option Addr) (pc xc bx : Nat) (todo : List Int) (w : World) (hr : RowAt w pa 8 nsE l) (hx : OwnL w bx 3 1 i1 xa xc todo) (hl : OkL l) (hlen : l.length ≤ 20000) (htl : todo.length ≤ 20000) (ht : ∀ x ∈ todo, 0 ≤ x ∧ x < l.length) :
    Ct Try.prog 167 #[.agg #[.int .i64 st, .slice pa l.length pc], .slice xa todo.length xc] w fun v w' => (∃ (a : Option Addr) (c : Nat), v = .slice a (dst l todo).length c ∧ OwnL w' w.heap.size 4 1 bE a c (dst l todo)) ∧ Md [] w w' := by
  apply f167_in
  intro n1 hn1
  refine Bd_e rfl fun w3 h3 hL3 => ?_
  have l1 := hL3 n1 (by simp)
  obtain ⟨w5, r1, o1, m1⟩ := made4 l.length w3 (by omega)
  refine RunW_in r1 (fun b hb => by simp at hb; subst hb; exact m1.blk b l1 (by simp)) <| opL_in <| Nw_i ?_
  have s1 := m1.size
  generalize hxa : (some (Addr.mk w3.heap.size 0 none)) = a6 at *
  have mc : Md [] w5 (w5.alloc (.cells #[] 3)) := Md.alloc w5 _
  have olc : OwnL (w5.alloc (.cells #[] 3)) w5.heap.size 3 1 i1 (some ⟨w5.heap.size, 0, none⟩) 0 [] := OwnL.lit (P := Try.prog) (base := w5.heap.size) enci1 w5 3 [] #[] (Nat.le_refl _) (by simp) rfl
  have sc := mc.size
  have hxc := ((hx.md h3).md m1).md mc
  have ln5 : n1 < w5.heap.size := by omega
  refine app_own rowT52 enci1 olc hxc (by omega) (fun b hb => by simp at hb; subst hb; omega) (fun b hb A hA => by simp at hb; subst hb; injection hA with hA; subst hA; simp; omega) (by simp [maxLen]; omega) (by simp; omega) fun a13 c15 w12 o12 m12 hA12 => opL_in ?_
  simp only [List.nil_append] at o12 ⊢
  have m3_12 : Md [] w3 w12 := (m1.trans mc).old m12 (fun d hd => by simp at hd; omega)
  have b6 : ∀ A, a6 = some A → A.block = w3.heap.size := fun A hA => by rw [← hxa] at hA; injection hA with hA; subst hA; rfl
  have o6 : OwnL w12 w3.heap.size 4 1 bE a6 l.length (offs l.length) := ((o1.md mc).mdD m12 fun A hA => by have := b6 A hA; have := (o1.lt hA).2; simp; omega)
  refine LoopP_in (fun mm us vs w' => ∃ (a : Option Addr) (c : Nat) (R : List Int) (N : List Bool), us = [.slice a R.length c] ∧ OwnL w' w5.heap.size 3 1 i1 a c R ∧ OwnL w' w3.heap.size 4 1 bE a6 l.length N ∧ Md [] w3 w' ∧ w5.heap.size ≤ w'.heap.size ∧
      N.length = l.length ∧ comeF l mm R.reverse N = dst l todo ∧ 2 * ofc N + R.length ≤ mm ∧ (∀ y ∈ R, 0 ≤ y ∧ y < l.length) ∧ mm ≤ 60000) (2 * l.length + todo.length)
    ⟨a13, c15, todo, offs l.length, rfl, o12, o6, m3_12, by have := m12.size; omega, offs_len _, rfl, by have := ofc_le (offs l.length); rw [offs_len] at this; omega, ht, by omega⟩ ?_
  rintro mm us vs w6 ⟨a, c, R, N, rfl, ho, oN, hm, hs5, hN, hc, hf, hR, hmm⟩
  have hdst : (dst l todo).length = l.length := (dst_ok hl ht).1
  have ln6 : n1 < w6.heap.size := by have := hm.size; omega
  refine opL_in <| Bd_e rfl <| Bd_in fun b12 hb12 => If_in (fun hb => ?_) fun hb => ?_
  case refine_2 =>
    have hR0 : R = [] := by
      have : ¬ (R.length : Int) > 0 := by rw [hb12] at hb; exact of_decide_eq_false hb
      exact List.eq_nil_of_length_eq_zero (by omega)
    subst hR0
    rw [List.reverse_nil, comeF_nil] at hc
    rw [← hc]
    exact ⟨⟨a6, l.length, by rw [hN], oN.down h3.size⟩, h3.trans hm⟩
  have hRp : 0 < R.length := by have : (R.length : Int) > 0 := by rw [hb12] at hb; exact of_decide_eq_true hb
                                omega
  rcases List.eq_nil_or_concat R with rfl | ⟨R', y, rfl⟩
  · simp at hRp
  rw [List.concat_eq_append] at *
  have hl1 : (R' ++ [y]).length = R'.length + 1 := by simp
  have hix := (ho.row enci1).ix (i := R'.length) (by omega)
  rw [hl1] at hix ⊢
  have hcap := ho.cap
  refine Bd_e rfl <| Bd_e (y := ((R'.length : Nat) : Int)) (by rw [IntKind.wrap_i64]; omega) ⟨hix, (ho.row enci1).ld1 (i := R'.length) (by omega) (v := .int .i64 y) (by simp [i1]) <| opI_in <| Bd_e rfl <| Bd_e (y := ((R'.length : Nat) : Int)) (by rw [IntKind.wrap_i64]; omega) ?_⟩
  refine RunW_in0 (slice_front (e := 3) (by kernel_rfl) size3 _ _ _ _ _ (by omega)) <| opL_in ?_
  have hy := hR y (by simp)
  obtain ⟨i, rfl⟩ := Int.eq_ofNat_of_zero_le hy.1
  have hil : i < l.length := by omega
  have hiN : i < N.length := by omega
  have hixN := (oN.row encbE).ix hiN
  rw [hN] at hixN
  refine ⟨hixN, (oN.row encbE).ld1 hiN rfl <| opB_in ?_⟩
  have hop := ho.pop enci1
  have hRr : ∀ z ∈ R', 0 ≤ z ∧ z < l.length := fun z hz => hR z (by simp [hz])
  rw [List.reverse_append, List.reverse_singleton, List.singleton_append] at hc
  obtain ⟨m, rfl⟩ : ∃ m, mm = m + 1 := ⟨mm - 1, by omega⟩
  refine If_in (fun hon => ?_) fun hoff => ?_
  · have hOn : On N i := by unfold On; rw [List.getElem?_eq_getElem hiN, hon]
    rw [comeF_on (by simpa using hOn)] at hc
    exact ⟨m, by omega, a, c, R', N, rfl, hop, oN, hm, hs5, hN, hc, by omega, hRr, by omega⟩
  have hOff : ¬ On N i := by unfold On; rw [List.getElem?_eq_getElem hiN, hoff]; simp
  rw [comeF_off hOff hil] at hc
  have hcnt := ofc_set hiN hOff
  obtain ⟨A, hA, p1, p2, p3, p4, p5, p6⟩ := oN.put encbE (by omega) hiN true
  have hAb := b6 A hA
  have m7 : Md [] w3 (setCells w6 (adAt a6 (i : Int) 1) 0 [.bool true]) := hm.old p6 (by simpa using p2)
  have hoA : ∀ B, a = some B → B.block ≠ A.block := fun B hB => by have := (ho.lt hB).1; have := (o1.lt hA).2; omega
  have ho7 : OwnL (setCells w6 (adAt a6 (i : Int) 1) 0 [.bool true]) w5.heap.size 3 1 i1 a c R' := hop.mdD p6 fun B hB => by simpa using hoA B hB
  have hs6 : w6.heap.size ≤ (setCells w6 (adAt a6 (i : Int) 1) 0 [.bool true]).heap.size := p6.size
  change OwnL (setCells w6 (adAt a6 (i : Int) 1) 0 [.bool true]) w3.heap.size 4 1 bE a6 l.length (N.set i true) at p5
  generalize setCells w6 (adAt a6 (i : Int) 1) 0 [.bool true] = w7 at *
  have rl := hr.md (h3.trans m7)
  refine ⟨hixN, by rw [p3, hAb]; simp; omega, p4, rl.ix hil, rl.ld8 hil ?_⟩
  intro n57 hn57
  refine Bd_in fun b58 hb58 => If_in (fun hk w59 h59 hL59 => ?_) fun hk w67 h67 hL67 => ?_
  · have hk2 : l[i].k = 2 := by rw [hb58] at hk; simpa using hk
    rw [if_pos hk2] at hc
    have m59 : Md [] w7 w59 := h59.fresh (by simp; exact hn57)
    refine Nw_i ?_
    have mb : Md [] w59 (w59.alloc (.cells #[.int .i64 l[i].a, .int .i64 l[i].b] 3)) := Md.alloc w59 _
    have ol2 := OwnL.lit (P := Try.prog) (base := w59.heap.size) enci1 w59 3 [l[i].a, l[i].b] #[.int .i64 l[i].a, .int .i64 l[i].b] (Nat.le_refl _) (by simp [maxLen]) rfl
    have m8 := m59.trans mb
    have ho8 := ho7.md m8
    have oN8 := p5.md m8
    have sz := mb.size
    have sz8 := m8.size
    have szm := hm.size
    have sz12 := m12.size
    have hlb := hl _ (List.getElem_mem hil)
    have hbase : w5.heap.size ≤ (w59.alloc (.cells #[.int .i64 l[i].a, .int .i64 l[i].b] 3)).heap.size := by omega
    refine app_own rowT52 enci1 ho8 ol2 hbase (fun z hz => Nat.lt_of_lt_of_le (hL59 z hz) sz) (fun z hz B hB e => ?_) (by simp [maxLen]; omega) (by simp; omega) fun a' c' w63 o63 m63 hA' => opL_in ?_
    · have := ho7.lt hB
      simp at hz
      rcases hz with rfl | rfl <;> omega
    have aD : ∀ d ∈ (a.map (·.block)).toList, w5.heap.size ≤ d := fun d hd => by
      obtain ⟨B, hB, rfl⟩ := mem_blk hd
      exact (ho7.lt hB).1
    refine ⟨m, by omega, a', c', R' ++ [l[i].a, l[i].b], N.set i true, rfl, o63, oN8.mdD m63 (fun B hB hd => ?_), (m7.trans m8).old m63 (fun d hd => by have := aD d hd; omega), by have := m63.size; omega, by simp [hN], by simpa using hc, by simp; omega, fun z hz => ?_, by omega⟩
    · have := aD _ hd; have := b6 B hB; have := (o1.lt hB).2; omega
    · rcases List.mem_append.1 hz with h | h
      · exact hRr z h
      · simp at h
        rcases h with rfl | rfl
        · exact ⟨hlb.1, hlb.2.1⟩
        · exact ⟨hlb.2.2.1, hlb.2.2.2⟩
  · have hk2 : ¬ l[i].k = 2 := by rw [hb58] at hk; simpa using hk
    rw [if_neg hk2] at hc
    have m67 : Md [] w7 w67 := h67.fresh (by simp; exact hn57)
    exact ⟨m, by omega, a, c, R', N.set i true, rfl, ho7.md m67, p5.md m67, m7.trans m67, by have := m67.size; omega, by simp [hN], hc, by omega, hRr, by omega⟩
end Fk
set_option linter.unusedVariables false
set_option linter.unusedSimpArgs false
set_option maxRecDepth 100000
namespace Fk
open Go Go.Proofs Go.RowKit
theorem wrap_u8 {x : Nat} (h : x < 256) : IntKind.wrap .u8 (x : Int) = x := by rw [IntKind.wrap_u8]; omega
/-- What a right table is like. -/
structure RtF (t : Tb) : Prop where
  d1 : 1 ≤ t.dm
  d2 : t.dm ≤ 256
  m : t.c.m = t.dm
  tg1 : 1 ≤ t.tg.length
  tg2 : t.tg.length ≤ 5000
  nx : (t.nx.length : Int) = t.dm * t.tg.length
  nxl : t.nx.length ≤ 1280000
  n1 : 1 ≤ t.nm.length
  n2 : t.nm.length ≤ 200
  sz : ∀ s ∈ t.nm, s.size ≤ 64
  tag : ∀ x ∈ t.tg, -1 ≤ x ∧ x < 200
  nxt : ∀ x ∈ t.nx, -1 ≤ x ∧ x < 5000
theorem namesOk_sz : ∀ (l pre : List ByteArray), namesOk pre l = true → ∀ s ∈ l, s.size ≤ 64
  | [], _, _ => by simp
  | s :: l, pre, h => by
    unfold namesOk at h
    simp only [Bool.and_eq_true] at h
    intro x hx
    rcases List.mem_cons.1 hx with rfl | hx
    · have := h.1.1
      unfold named at this
      simp only [Bool.and_eq_true, decide_eq_true_eq] at this
      exact this.2
    · exact namesOk_sz l _ h.2 x hx
theorem RtF.of {t : Tb} (h : tRight t = true) : RtF t := by
  have h0 := h
  unfold tRight tHead at h
  simp only [Bool.and_eq_true, decide_eq_true_eq] at h
  obtain ⟨⟨⟨⟨⟨hc, hd⟩, hm⟩, hn⟩, hnm⟩, ht⟩ := h
  obtain ⟨d1, d2, d3, d4, d5⟩ := dRight_tags hd
  unfold dRight at hd
  simp only [Bool.and_eq_true, List.all_eq_true, decide_eq_true_eq] at hd
  refine ⟨d1, d2, hm, d3, d4, d5, ?_, hn.1, hn.2, namesOk_sz _ _ hnm, hd.1.2, fun x hx => ?_⟩
  · have : t.dm * (t.tg.length : Int) ≤ 256 * 5000 := Int.mul_le_mul d2 (by omega) (by omega) (by omega)
    omega
  · have := hd.2 x hx; omega
structure PS (w2 w : World) (a : Option Addr) (c : Nat) (acc : List Nat) : Prop where
  md : Md [] w2 w
  own : OwnL w w2.heap.size 5 1 b1 a c acc
section
variable {w2 w : World} {a : Option Addr} {c : Nat} {acc : List Nat} {L : List Nat}
theorem PS.drew (S : PS w2 w a c acc) : PS w2 w.drew a c acc := ⟨S.md.trans (Md_drew _), S.own.md (Md_drew _)⟩
theorem PS.tr {w' : World} (S : PS w2 w a c acc) (h : Md [] w w') : PS w2 w' a c acc := ⟨S.md.trans h, S.own.md h⟩
theorem PS.blk (S : PS w2 w a c acc) : ∀ d ∈ (a.map (·.block)).toList, w2.heap.size ≤ d ∧ d < w.heap.size := by
  intro d hd
  cases ha : a with
  | none => rw [ha] at hd; simp at hd
  | some A => rw [ha] at hd; simp at hd; have := S.own.lt ha; omega
end
end Fk
set_option linter.unusedVariables false
set_option linter.unusedSimpArgs false
set_option maxRecDepth 100000
namespace Fk
open Go Go.Proofs Go.RowKit
theorem eqNilP {P : Program} (a : Option Addr) (w : World) (o1 o2 : Operand) (t : TypeId) (e : TypeId) (ht : P.underlying t = some (.pointer e)) (hg : P.eqGuardType P.depth t = false) :
    (eqS .eql t o1 o2 (.pointer a) (.pointer none)).run P w = .ok (.bool a.isNone) w ∧ (eqS .neq t o1 o2 (.pointer a) (.pointer none)).run P w = .ok (.bool (!a.isNone)) w := by
  have h : ∀ d, (Op.equalIn (d + 1) t (.pointer a) (.pointer none)).run P w = .ok a.isNone w := by
    intro d
    cases a <;> simp [Op.equalIn, run_underlying ht]
  have h := h 9999
  constructor
  · unfold eqS eqGuard binOp Op.equal
    simp only [Sem.run_bind]
    simp [hg, h, Op.maxDepth]
  · unfold eqS eqGuard binOp Op.equal
    simp only [Sem.run_bind]
    simp [hg, h, Op.maxDepth]
end Fk
set_option linter.unusedVariables false
set_option linter.unusedSimpArgs false
set_option maxRecDepth 100000
set_option maxHeartbeats 2000000
namespace Fk
open Go Go.Proofs Go.RowKit
theorem nb1_map (l : List Nat) : l.flatMap b1 = l.map fun x : Nat => Value.int .u8 (x : Int) := by
  induction l with
  | nil => rfl
  | cons x l ih => rw [List.flatMap_cons, ih]; rfl
theorem Ct.call0 {P : Program} {f : FuncId} {args : Array Value} {w : World} {Φ K : Value → World → Prop} (h : Ct P f args w Φ) (hk : ∀ v w', Φ v w' → K v w') : CallW P [] f args K w :=
  ⟨.inl ⟨h.1, h.2.mono fun e w' he => by cases e <;> first | exact ⟨(fun b hb => by cases hb), hk _ _ he⟩ | exact he.elim⟩⟩
structure BldS (w0 w : World) (n : Nat) (used : Bool) (a : Option Addr) (c : Nat) (bs : List Nat) : Prop where
  blk : Blk w n 285 [.pointer (if used = true then some ⟨n, 0, none⟩ else none), .slice a bs.length c]
  md : Md [] w0 w
  nlo : w0.heap.size ≤ n
  own : OwnL w w0.heap.size 5 1 b1 a c bs
  ne : ∀ A, a = some A → A.block ≠ n
  nz : a = none ∨ c ≠ 0
theorem eqPtrSame (w : World) (a : Addr) (o1 o2 : Operand) : (eqS .neq 283 o1 o2 (.pointer (some a)) (.pointer (some a))).run Try.prog w = .ok (.bool false) w := by
  have hi : (Try.prog.info? 285).isSome = true := by kernel_rfl
  obtain ⟨j, hj⟩ := Option.isSome_iff_exists.1 hi
  have h := Go.Lib.run_neq_ptr_same (P := Try.prog) w (tp := 283) (te := 285) a (by kernel_rfl) hj
  have hg : Try.prog.eqGuardType Try.prog.depth 283 = false := by kernel_rfl
  unfold eqS eqGuard
  simp only [Sem.run_bind]
  simp [hg, h]
theorem Blk.shape {w : World} {n : Nat} {ty : TypeId} {l : List Value} (h : Blk w n ty l) : w.shape? n = some (ty, l.length) := by
  unfold World.shape?
  rw [h]
  simp
theorem f229_ok {w0 w : World} {n : Nat} {u : Bool} {a : Option Addr} {c : Nat} {bs : List Nat} (S : BldS w0 w n u a c bs) : Ct Try.prog 229 #[.pointer (some ⟨n, 0, none⟩)] w fun v w' => (v = .tuple #[] ∧ BldS w0 w' n true a c bs) ∧ Md [n] w w' := by
  apply f229_in
  refine NN_in <| S.blk.ld' rfl <| opP_in ?_
  cases u with
  | false =>
    simp only [Bool.false_eq_true, if_false]
    refine RunW_in0 (eqNilP (P := Try.prog) none w _ _ 283 285 (by kernel_rfl) (by kernel_rfl)).1 <| opB_in <| If_in (fun _ => ?_) fun h => by cases h
    have hi : (Try.prog.info? 285).isSome = true := by kernel_rfl
    obtain ⟨j, hj⟩ := Option.isSome_iff_exists.1 hi
    have hsz : (Try.prog.info? 285).map (·.size) = some 2 := by kernel_rfl
    rw [hj] at hsz
    have hsz' : j.size = 2 := by simpa using hsz
    have hsh := S.blk.shape
    refine RunW_in0 (Go.Lib.run_to_unsafe (P := Try.prog) w (src := 283) (dst := 303) (t := 285) ⟨n, 0, none⟩ (by kernel_rfl) (by kernel_rfl) hj (by omega) hsh (by simp)) ?_
    have hc := run_callFunc_extern (P := Try.prog) (f := 234) (fn := Try.f234) Try.func234 (by kernel_rfl) (by kernel_rfl) (e := Extern.AbiNoEscape.same) (by kernel_rfl) (by kernel_rfl) #[.pointer (some ⟨n, 0, none⟩)] w
    rw [Go.Lib.run_noEscape] at hc
    refine ⟨.inr ⟨_, _, hc, fun _ _ => rfl, ?_⟩⟩
    refine RunW_in0 (Go.Lib.run_from_unsafe (P := Try.prog) w (src := 303) (dst := 283) (u := 285) ⟨n, 0, none⟩ (by kernel_rfl) (by kernel_rfl) hj hsh (by kernel_rfl)) <| opP_in <| NN_in ?_
    rw [ad0']
    have m := Md_setCells (w := w) n 0 [.pointer (some ⟨n, 0, none⟩)]
    have b' := S.blk.set (j := 0) (by simp) (.pointer (some ⟨n, 0, none⟩))
    exact ⟨by simp, S.blk.wr (by simp), ⟨by trivial, b', S.md.old m (by simp; exact S.nlo), S.nlo, S.own.mdD m (fun A hA => by simp; exact S.ne A hA), S.ne, S.nz⟩, m⟩
  | true =>
    simp only [if_true]
    refine RunW_in0 (eqNilP (P := Try.prog) (some ⟨n, 0, none⟩) w _ _ 283 285 (by kernel_rfl) (by kernel_rfl)).1 <| opB_in <| If_in (fun h => by cases h) fun _ => NN_in <| S.blk.ld' rfl <| opP_in ?_
    simp only [if_true]
    exact RunW_in0 (eqPtrSame w ⟨n, 0, none⟩ _ _) <| opB_in <| If_in (fun h => by cases h) fun _ => ⟨⟨by trivial, S⟩, Md.refl _ _⟩
theorem f218_ok {w0 w : World} {n : Nat} {u : Bool} {a : Option Addr} {c : Nat} {bs : List Nat} (S : BldS w0 w n u a c bs) (x : Nat) (hl : bs.length < 2 ^ 30) : Ct Try.prog 218 #[.pointer (some ⟨n, 0, none⟩), .int .u8 x] w fun v w' => ∃ a' c', BldS w0 w' n true a' c' (bs ++ [x]) := by
  apply f218_in
  refine (f229_ok S).callD (by simp) (by simp) ?_
  rintro v w2 ⟨rfl, S2⟩ m2
  refine opTu_in <| SzIs_in rfl <| NN_in <| S2.blk.ld' rfl <| opL_in ?_
  refine app_one rowT51 encb1 x rfl S2.own S2.md.size (by simp) (by simp) (by simp [maxLen]; omega) (by omega) fun a' c' w12 o12 m12 hA => opL_in <| NN_in ?_
  rw [ad0']
  have hnd : n ∉ (a.map (·.block)).toList := fun hd => by obtain ⟨A, hA', e⟩ := mem_blk hd; exact S.ne A hA' e
  have b12 := S2.blk.md m12 hnd
  have hlt := S2.blk.lt
  have md12 : Md [] w0 w12 := S2.md.old m12 (fun d hd => by obtain ⟨A, hA', rfl⟩ := mem_blk hd; exact (S2.own.lt hA').1)
  have m := Md_setCells (w := w12) n 1 [.slice a' (bs ++ [x]).length c']
  have ne' : ∀ A, a' = some A → A.block ≠ n := fun A h e => by
    rcases hA A h with h1 | h1
    · exact S.ne A h1 e
    · omega
  have b' := b12.set (j := 1) (by simp) (.slice a' (bs ++ [x]).length c')
  have hcap := o12.cap
  exact ⟨by simp, b12.wr (by simp), a', c', ⟨b', md12.old m (by simp; exact S.nlo), S.nlo, o12.mdD m (fun A hA => by simp; exact ne' A hA), ne', .inr (by simp at hcap; omega)⟩⟩
theorem Md_freeze (w : World) (g n : Nat) : Md [g] w (w.freeze ⟨g, 0, none⟩ n) := by
  unfold World.freeze
  split
  · exact Md.refl _ _
  · refine ⟨rfl, rfl, rfl, by simp, fun k hk hm => ?_⟩
    have hne : ¬ g = k := fun e => hm (by simp [e])
    simp [Array.getElem?_modify, hne]
theorem f219_ok {w0 w : World} {n : Nat} {u : Bool} {a : Option Addr} {c : Nat} {bs : List Nat} (S : BldS w0 w n u a c bs) (hb : ∀ x ∈ bs, x < 256) (hl : bs.length < 2 ^ 30) : Ct Try.prog 219 #[.pointer (some ⟨n, 0, none⟩)] w fun v w' => v = .string (bytesOf bs) ∧ Md [] w0 w' := by
  apply f219_in
  have hnd : n ∉ (a.map (·.block)).toList := fun hd => by obtain ⟨A, hA', e⟩ := mem_blk hd; exact S.ne A hA' e
  have hbk : ∀ {w' : World}, Md (a.map (·.block)).toList w.drew w' → Blk w' n 285 [.pointer (if u = true then some ⟨n, 0, none⟩ else none), .slice a bs.length c] := fun hm => (S.blk.md (Md_drew w) (by simp)).md hm hnd
  have lo : ∀ d ∈ (a.map (·.block)).toList, w0.heap.size ≤ d := fun d hd => by obtain ⟨A, hA', rfl⟩ := mem_blk hd; exact (S.own.lt hA').1
  refine ⟨fun w' => Md (a.map (·.block)).toList w.drew w', Md.refl _ _, NN_in ?_⟩
  show ∃ v3, _ ∧ _
  refine ⟨_, fun w' hm => (hbk hm).ld' rfl rfl, opL_in <| NN_in ?_⟩
  show ∃ v3, _ ∧ _
  refine ⟨_, fun w' hm => (hbk hm).ld' rfl rfl, opL_in <| Bd_e rfl ?_⟩
  have md := S.md.trans (Md_drew w)
  cases ha : a with
  | none =>
    have h0 : bs = [] := by
      rcases S.own.2 with ⟨_, h⟩ | ⟨g, _, _, hv, _⟩
      · exact List.eq_nil_of_length_eq_zero h
      · simp [ha] at hv
    subst h0
    refine RunW_in0 (Go.Lib.run_unsafeSliceData_nil (P := Try.prog) w.drew _ _ _ _) <| opP_in ⟨Md.refl _ _, ?_⟩
    exact RunW_in0 (Go.Lib.run_unsafeString_none (P := Try.prog) w.drew 296 3 9 none) <| opStr_in ⟨Md.refl _ _, rfl, md⟩
  | some A =>
    have hc0 : c ≠ 0 := by rcases S.nz with h | h; rw [ha] at h; cases h; exact h
    refine RunW_in0 (Go.Lib.run_unsafeSliceData_row (P := Try.prog) w.drew _ _ A bs.length c hc0) <| opP_in ⟨Md.refl _ _, ?_⟩
    have own := S.own.md (Md_drew w)
    rw [ha] at own
    by_cases hbs : bs = []
    · subst hbs
      exact RunW_in0 (Go.Lib.run_unsafeString_none (P := Try.prog) w.drew 296 3 9 (some A)) <| opStr_in ⟨Md.refl _ _, rfl, md⟩
    · rcases own.2 with ⟨hv, _⟩ | ⟨g, cap, cur, hv, hbg, hg, hnc, hcm, hcs, htk⟩
      · simp at hv
      · simp only [Value.slice.injEq, Option.some.injEq] at hv
        obtain ⟨rfl, _, rfl⟩ := hv
        have hsh : w.drew.shape? g = some (5, cur.size) := by
          unfold World.shape?
          rw [hg]
        have hlen : (bs.map UInt8.ofNat).length = bs.length := by simp
        have hrun := Go.Lib.run_unsafeString_row (P := Try.prog) w.drew 296 3 9 5 (by kernel_rfl) (by kernel_rfl) g cur.size hsh (bs.map UInt8.ofNat) (by simpa using hbs) (by rw [hlen]; omega) (by rw [hlen]; omega) (fun j x hx => by
          rw [List.getElem?_map] at hx
          obtain ⟨y, hy, rfl⟩ := Option.map_eq_some_iff.1 hx
          obtain ⟨B, hB, hcl⟩ := own.cells j (.int .u8 (y : Int)) (by rw [nb1_map, List.getElem?_map, hy]; rfl)
          injection hB with hB
          subst hB
          have hy256 := hb y (List.mem_of_getElem? hy)
          rw [hcl]
          simp
          omega)
        rw [hlen] at hrun
        have mf := Md_freeze w.drew g bs.length
        refine RunW_in hrun (fun b hb => by cases hb) <| opStr_in ⟨by simpa using mf, rfl, md.old mf (by simp; exact hbg)⟩
def byteG : List Bool → Nat → Nat → Nat
  | [], _, acc => acc
  | h :: hs, i, acc => byteG hs (i + 1) (if h = true then acc ||| 2 ^ i else acc)
theorem byteG_bit (j : Nat) : ∀ (ch : List Bool) (i acc : Nat), (byteG ch i acc).testBit j = true ↔ acc.testBit j = true ∨ (i ≤ j ∧ ch[j - i]? = some true)
  | [], i, acc => by simp [byteG]
  | h :: hs, i, acc => by
    unfold byteG
    rw [byteG_bit j hs (i + 1)]
    by_cases hj : j = i
    · subst hj
      cases h with
      | true => simp [Nat.testBit_or]
      | false => simp; intro h2; omega
    · have e2 : (i + 1 ≤ j ∧ hs[j - (i + 1)]? = some true) ↔ (i ≤ j ∧ (h :: hs)[j - i]? = some true) := by
        constructor
        · rintro ⟨h1, h2⟩
          refine ⟨by omega, ?_⟩
          rw [show j - i = (j - (i + 1)) + 1 by omega, List.getElem?_cons_succ]; exact h2
        · rintro ⟨h1, h2⟩
          refine ⟨by omega, ?_⟩
          rw [show j - i = (j - (i + 1)) + 1 by omega, List.getElem?_cons_succ] at h2; exact h2
      rw [e2]
      cases h with
      | true => have hij : ¬ i = j := fun e => hj e.symm; simp [Nat.testBit_or, Nat.testBit_two_pow, hij]
      | false => simp
theorem byteG_lt : ∀ (ch : List Bool) (i acc : Nat), acc < 256 → i + ch.length ≤ 8 → byteG ch i acc < 256
  | [], i, acc, h, _ => h
  | h :: hs, i, acc, ha, hi => by
    simp only [List.length_cons] at hi
    unfold byteG
    refine byteG_lt hs _ _ ?_ (by omega)
    split
    · have h2 : 2 ^ i < 2 ^ 8 := Nat.pow_lt_pow_right (by decide) (by omega)
      exact Nat.or_lt_two_pow (n := 8) ha h2
    · exact ha
def chunk (N : List Bool) (q : Nat) : List Bool := (N.drop (8 * q)).take 8
/-- Marks, eight to a byte. -/
def keyL (N : List Bool) (m : Nat) : List Nat := (List.range m).map fun q => byteG (chunk N q) 0 0
def keyN (n : Nat) : Nat := (n + 7) / 8
theorem keyL_succ (N : List Bool) (m : Nat) : keyL N (m + 1) = keyL N m ++ [byteG (chunk N m) 0 0] := by
  unfold keyL
  rw [List.range_succ, List.map_append]
  rfl
theorem keyL_lt (N : List Bool) (m : Nat) : ∀ x ∈ keyL N m, x < 256 := fun x hx => by
  simp only [keyL, List.mem_map, List.mem_range] at hx
  obtain ⟨q, _, rfl⟩ := hx
  exact byteG_lt _ _ _ (by decide) (by unfold chunk; rw [List.length_take]; omega)
theorem keyL_inj {N N' : List Bool} (hl : N.length = N'.length) (h : keyL N (keyN N.length) = keyL N' (keyN N.length)) : N = N' := by
  apply List.ext_getElem hl
  intro i h1 h2
  have hq : i / 8 < keyN N.length := by unfold keyN; omega
  have e := congrArg (fun l => l[i / 8]?) h
  simp only [keyL, List.getElem?_map, List.getElem?_range hq, Option.map_some, Option.some.injEq] at e
  have b1 := byteG_bit (i % 8) (chunk N (i / 8)) 0 0
  have b2 := byteG_bit (i % 8) (chunk N' (i / 8)) 0 0
  rw [e] at b1
  have b3 := b1.symm.trans b2
  simp only [Nat.zero_testBit, Bool.false_eq_true, false_or, Nat.zero_le, true_and, Nat.sub_zero] at b3
  have hc : ∀ (M : List Bool), (chunk M (i / 8))[i % 8]? = M[i]? := fun M => by
    unfold chunk
    rw [List.getElem?_take, if_pos (Nat.mod_lt _ (by decide)), List.getElem?_drop]
    congr 1; omega
  rw [hc, hc, List.getElem?_eq_getElem h1, List.getElem?_eq_getElem h2] at b3
  simp at b3
  revert b3
  cases N[i] <;> cases N'[i] <;> simp
theorem orB8 (x y : Nat) (hx : x < 256) (hy : y < 256) : IntKind.wrap .u8 ((BitVec.toNat (BitVec.ofInt 8 (x : Int) ||| BitVec.ofInt 8 (y : Int)) : Nat) : Int) = ((x ||| y : Nat) : Int) := by
  have h : x ||| y < 2 ^ 8 := Nat.or_lt_two_pow hx hy
  have e : BitVec.toNat (BitVec.ofInt 8 (x : Int) ||| BitVec.ofInt 8 (y : Int)) = x ||| y := by
    rw [BitVec.toNat_or, BitVec.ofInt_natCast, BitVec.ofInt_natCast, BitVec.toNat_ofNat, BitVec.toNat_ofNat, Nat.mod_eq_of_lt (by omega), Nat.mod_eq_of_lt (by omega)]
  rw [e, IntKind.wrap_u8]
  generalize x ||| y = m at *
  omega
theorem pow8 (j : Nat) (hj : j < 8) : IntKind.wrap .u8 (1 * 2 ^ min (Int.toNat (j : Int)) 8) = ((2 ^ j : Nat) : Int) := by
  have h2 : 2 ^ j < 2 ^ 8 := Nat.pow_lt_pow_right (by decide) hj
  have h1 : (2 : Int) ^ j = ((2 ^ j : Nat) : Int) := by simp
  rw [Int.toNat_natCast, Nat.min_eq_left (by omega), Int.one_mul, h1, IntKind.wrap_u8]
  generalize 2 ^ j = m at *
  omega
theorem size41 (w : World) : (Go.sizeOf 4).run Try.prog w = .ok 1 w := by
  have h : (Try.prog.info? 4).map (·.size) = some 1 := by kernel_rfl
  cases hi : Try.prog.info? 4 with
  | none => simp [hi] at h
  | some i => simp [hi] at h; simp [Go.sizeOf, typeInfo, hi, h]
theorem nslice_mid {P : Program} {t e : TypeId} (ht : P.underlying t = some (.slice e)) (hs : ∀ w, (Go.sizeOf e).run P w = .ok 1 w) (w : World) (a : Option Addr) (n c lo hi : Nat) (h : lo ≤ hi) (h2 : hi ≤ c) :
    (Instr.sliceAt t (.slice a n c) (some (.int .i64 (lo : Int))) (some (.int .i64 (hi : Int))) none).run P w = .ok (.slice (if c = lo then a else a.map (·.add (lo * 1))) (hi - lo) (c - lo)) w := by
  have he : P.elem t = e := by simp [Program.elem, ht]
  have ht' : P.underlying t = some (.slice (P.elem t)) := by rw [he]; exact ht
  rw [run_sliceAt_slice w t _ _ _ _ ht', run_slice_lh w t a n c ht' .i64 .i64 lo hi (by omega) (by omega) (by omega), he, hs w]
  simp [Result.andThen, sliced]
theorem f169_ok (N : List Bool) (A : Option Addr) (C bx : Nat) (hl : N.length ≤ 20000) (w : World) (hx : OwnL w bx 4 1 bE A C N) :
    Ct Try.prog 169 #[.slice A N.length C] w fun v w' => v = .string (bytesOf (keyL N (keyN N.length))) ∧ Md [] w w' := by
  apply f169_in
  refine Nw_i ?_
  have ma : Md [] w (w.alloc (.cells #[.pointer none, .slice none 0 0] 285)) := Md.alloc w _
  have S0 : BldS w (w.alloc (.cells #[.pointer none, .slice none 0 0] 285)) w.heap.size false none 0 [] := ⟨Blk.new w _ 285, ma, Nat.le_refl _, OwnL.nil .., (fun A hA => by cases hA), .inl rfl⟩
  refine LoopP_in (fun mm us vs w' => ∃ (q : Nat) (u : Bool) (a : Option Addr) (c : Nat), us = [.int .i64 ((8 * q : Nat) : Int)] ∧ mm = keyN N.length - q ∧ q ≤ keyN N.length ∧ BldS w w' w.heap.size u a c (keyL N q)) (keyN N.length)
    ⟨0, false, none, 0, rfl, rfl, by omega, S0⟩ ?_
  rintro mm us vs w6 ⟨q, u, a, c, rfl, hmm, hq, S⟩
  have hkl : (keyL N q).length = q := by simp [keyL]
  refine opI_in <| Bd_e rfl <| Bd_in fun b9 hb9 => If_in (fun hb => ?_) fun hb => ?_
  case refine_2 =>
    have hqe : q = keyN N.length := by
      have : ¬ ((8 * q : Nat) : Int) < (N.length : Int) := by rw [hb9] at hb; exact of_decide_eq_false hb
      unfold keyN at hq ⊢
      omega
    subst hqe
    refine (f219_ok S (keyL_lt N _) (by rw [hkl]; unfold keyN; omega)).call0 ?_
    rintro v w42 ⟨rfl, m42⟩
    exact opStr_in ⟨rfl, m42⟩
  have hlt : 8 * q < N.length := by rw [hb9] at hb; have : ((8 * q : Nat) : Int) < (N.length : Int) := of_decide_eq_true hb; omega
  have hcap := hx.cap
  have hxw := hx.md S.md
  refine Bd_e (y := ((8 * q + 8 : Nat) : Int)) (by rw [IntKind.wrap_i64]; omega) <| Bd_e rfl <| Bd_e (y := ((min (8 * q + 8) N.length : Nat) : Int)) (by split <;> omega) ?_
  refine RunW_in0 (nslice_mid (e := 4) (by kernel_rfl) size41 _ _ _ _ (8 * q) (min (8 * q + 8) N.length) (by omega) (by omega)) <| opL_in ?_
  have hch : chunk N q = (N.drop (8 * q)).take (min (8 * q + 8) N.length - 8 * q) := by
    unfold chunk
    by_cases h8 : 8 * q + 8 ≤ N.length
    · rw [Nat.min_eq_left h8]; congr 1; omega
    · rw [Nat.min_eq_right (by omega), List.take_of_length_le (by simp; omega), List.take_of_length_le (by simp)]
  have hcl : (chunk N q).length = min (8 * q + 8) N.length - 8 * q := by rw [hch]; simp; omega
  have hrow : RowAt w6 (if C = 8 * q then A else A.map (·.add (8 * q * 1))) 1 bE (chunk N q) := by
    rw [if_neg (by omega), hch]
    exact ((hxw.row encbE).drop (8 * q)).take _
  rw [← hcl]
  refine Bd_e rfl ?_
  refine LoopP_in (fun mm us vs w' => ∃ (i acc : Nat), us = [.int .u8 acc, .int .i64 i] ∧ mm = (chunk N q).length - i ∧ i ≤ (chunk N q).length ∧ byteG ((chunk N q).drop i) i acc = byteG (chunk N q) 0 0 ∧ acc < 256 ∧ w' = w6) (chunk N q).length
    ⟨0, 0, rfl, rfl, by omega, by simp, by omega, rfl⟩ ?_
  rintro m2 us vs w22 ⟨i, acc, rfl, hm2, hi, hacc, ha256, rfl⟩
  refine opI_in <| opI_in <| Bd_in fun b25 hb25 => If_in (fun hb => ?_) fun hb => ?_
  · have hic : i < (chunk N q).length := by rw [hb25] at hb; have : (i : Int) < ((chunk N q).length : Int) := of_decide_eq_true hb; omega
    rw [List.drop_eq_getElem_cons hic] at hacc
    rw [show byteG ((chunk N q)[i] :: (chunk N q).drop (i + 1)) i acc = byteG ((chunk N q).drop (i + 1)) (i + 1) (if (chunk N q)[i] = true then acc ||| 2 ^ i else acc) from rfl] at hacc
    refine Jn_in (fun us vs w' => ∃ (acc' : Nat) (z : Bool), us = [.int .u8 acc', .int .i64 i, .bool z] ∧ byteG ((chunk N q).drop (i + 1)) (i + 1) acc' = byteG (chunk N q) 0 0 ∧ acc' < 256 ∧ w' = w22) ?_ ?_
    · rintro us vs w28 ⟨acc', z, rfl, q1, q2, rfl⟩
      exact opI_in <| opI_in <| opB_in <| Bd_e (inc_i64 (by omega)) ⟨(chunk N q).length - (i + 1), by omega, i + 1, acc', rfl, rfl, by omega, q1, q2, rfl⟩
    refine ⟨hrow.ix hic, hrow.ld1 hic rfl <| opB_in <| If_in (fun hz => ?_) fun hz => ?_⟩
    · rw [if_pos hz] at hacc
      have h8 : 2 ^ i < 2 ^ 8 := Nat.pow_lt_pow_right (by decide) (by omega)
      exact ⟨by omega, Bd_e (pow8 i (by omega)) <| Bd_e (orB8 acc (2 ^ i) ha256 h8) ⟨_, _, rfl, hacc, Nat.or_lt_two_pow (n := 8) ha256 h8, rfl⟩⟩
    · rw [if_neg (by rw [hz]; simp)] at hacc
      exact ⟨acc, _, rfl, hacc, ha256, rfl⟩
  · have hic : i = (chunk N q).length := by
      have : ¬ (i : Int) < ((chunk N q).length : Int) := by rw [hb25] at hb; exact of_decide_eq_false hb
      omega
    subst hic
    rw [List.drop_of_length_le (Nat.le_refl _)] at hacc
    have hacc : acc = byteG (chunk N q) 0 0 := hacc
    refine (f218_ok S acc (by rw [hkl]; unfold keyN at hq; omega)).call0 ?_
    rintro v w39 ⟨a', c', S'⟩
    refine Bd_e (y := ((8 * (q + 1) : Nat) : Int)) (by rw [IntKind.wrap_i64]; omega) ⟨keyN N.length - (q + 1), by unfold keyN at *; omega, q + 1, true, a', c', rfl, rfl, by unfold keyN at *; omega, ?_⟩
    rw [keyL_succ, ← hacc]
    exact S'
end Fk
set_option linter.unusedVariables false
set_option linter.unusedSimpArgs false
set_option maxRecDepth 100000
set_option maxHeartbeats 2000000
namespace Fk
open Go Go.Proofs Go.RowKit
theorem own_at {α : Type} {w : World} {b e s c : Nat} {enc : α → List Value} {a : Option Addr} {l : List α} (h : OwnL w b e s enc a c l) {A : Addr} (hA : a = some A) : ∃ cur, w.heap[A.block]? = some (.cells cur e (0, 0)) := by
  rcases h.2 with ⟨hv, _⟩ | ⟨g, cap, cur, hv, _, hg, _⟩
  · subst hA; simp at hv
  · simp only [Value.slice.injEq] at hv
    rw [hA] at hv
    have : A = ⟨g, 0, none⟩ := by have := hv.1; injection this
    subst this
    exact ⟨cur, hg⟩
theorem own_apt2 {α β : Type} {w : World} {b1 b2 : Nat} {e1 e2 : TypeId} {s1 s2 : Nat} {enc1 : α → List Value} {enc2 : β → List Value} {a b : Option Addr} {c d : Nat} {l : List α} {m : List β} (h1 : OwnL w b1 e1 s1 enc1 a c l) (h2 : OwnL w b2 e2 s2 enc2 b d m) (hne : e1 ≠ e2) : Apt a b := by
  intro A B hA hB e
  obtain ⟨c1, h3⟩ := own_at h1 hA
  obtain ⟨c2, h4⟩ := own_at h2 hB
  rw [e, h4] at h3
  injection h3 with h3
  injection h3 with _ h
  exact hne h.symm
theorem own_nblk {α : Type} {w : World} {b e s c n : Nat} {ty : TypeId} {enc : α → List Value} {a : Option Addr} {l : List α} {vs : List Value} (h : OwnL w b e s enc a c l) (hb : Blk w n ty vs) (hne : e ≠ ty) : ∀ A, a = some A → A.block ≠ n := fun A hA e' => by
  obtain ⟨c1, h3⟩ := own_at h hA
  rw [e', hb] at h3
  injection h3 with h3
  injection h3 with _ h
  exact hne h.symm
theorem own_nmap {α K V : Type} {w : World} {b e s c m : Nat} {enc : α → List Value} {a : Option Addr} {l : List α} {kv : K → Value} {vv : V → Value} {es : List (K × V)} (h : OwnL w b e s enc a c l) (hb : MapAt w m kv vv es) : ∀ A, a = some A → A.block ≠ m := fun A hA e' => by
  obtain ⟨c1, h3⟩ := own_at h hA
  obtain ⟨es, cl, h4, _⟩ := hb
  rw [e', h4] at h3
  cases h3
theorem beqB (a b : ByteArray) : (a == b) = decide (a = b) := by
  rw [Bool.eq_iff_iff, MapKept.bytes_beq]; simp
theorem eqStr : EqT Try.prog 9 (fun s : ByteArray => .string s) 1 := by
  intro d w a b hd
  obtain ⟨d, rfl⟩ := Nat.exists_eq_add_of_le' hd
  have hu : Try.prog.underlying 9 = some .string := by kernel_rfl
  simp only [Op.equalIn, Sem.run_bind, run_underlying hu, Result.andThen_ok]
  simp [beqB]
theorem mapStr : MapT Try.prog 218 9 3 .string (fun s : ByteArray => .string s) (fun x : Int => .int .i64 x) where
  hm := by kernel_rfl
  hk := by kernel_rfl
  eq := fun d w a b hd => eqStr d w a b (by omega)
  now := fun a b => .inr (by
    show some (a == b) = _
    rw [beqB])
  check := fun em w k => by
    have hu : Try.prog.underlying 9 = some .string := by kernel_rfl
    show (Instr.checkKey em (9999 + 1) 9 (.string k)).run Try.prog w = _
    unfold Instr.checkKey
    simp only [Sem.run_bind, run_underlying hu, Result.andThen_ok]
    rfl
theorem zero3 (w : World) : (zeroValue 3).run Try.prog w = .ok (.int .i64 0) w := by
  have h : (Try.prog.info? 3).bind (·.zero) = some (.int .i64 0) := by kernel_rfl
  cases hi : Try.prog.info? 3 with
  | none => simp [hi] at h
  | some i =>
    simp [hi] at h
    simp [zeroValue, typeInfo, hi, h]
structure Rb where
  a : Option Addr
  c : Nat
  N : List Bool
def rbE (p : Rb) : List Value := [.slice p.a p.N.length p.c]
theorem encrb : Enc 1 rbE := ⟨fun _ => rfl, by intro x v hv; simp [rbE] at hv; subst hv; rfl⟩
theorem rowT219 : RowT Try.prog 219 222 1 24 := RowT.of (by kernel_rfl) (by kernel_rfl) (by kernel_rfl) (by omega)
def keyS (N : List Bool) : ByteArray := bytesOf (keyL N (keyN N.length))
def ents (l : List Rb) (i : Nat) : List (ByteArray × Int) := match l with
  | [] => []
  | p :: r => (keyS p.N, (i : Int)) :: ents r (i + 1)
theorem ents_snoc (p : Rb) : ∀ (l : List Rb) (i : Nat), ents (l ++ [p]) i = ents l i ++ [(keyS p.N, ((i + l.length : Nat) : Int))]
  | [], i => by simp [ents]
  | q :: r, i => by
    simp only [List.cons_append, ents, ents_snoc p r (i + 1), List.length_cons]
    congr 4
    omega
/-- The place of marks that are there. -/
def idxB (N : List Bool) : List (List Bool) → Nat → Option Nat
  | [], _ => none
  | M :: r, i => if N = M then some i else idxB N r (i + 1)
theorem keyS_inj {N N' : List Bool} (hl : N.length = N'.length) (h : keyS N = keyS N') : N = N' := by
  refine keyL_inj hl ?_
  unfold keyS at h
  rw [← hl] at h
  have e : ∀ (l : List Nat), (∀ x ∈ l, x < 256) → (bytesOf l).data.toList.map (·.toNat) = l := fun l hl => by
    simp only [bytesOf, List.toList_toArray, List.map_map]
    have : ∀ x ∈ l, ((fun x : UInt8 => x.toNat) ∘ UInt8.ofNat) x = x := fun x hx => by simp; have := hl x hx; omega
    rw [List.map_congr_left this, List.map_id']
  have h1 := e _ (keyL_lt N (keyN N.length))
  have h2 := e _ (keyL_lt N' (keyN N.length))
  rw [← h1, ← h2, h]
theorem find_ents {N : List Bool} : ∀ (l : List Rb) (i : Nat), (∀ p ∈ l, p.N.length = N.length) → findI (keyS N) (ents l i) i = (idxB N (l.map (·.N)) i).map (fun j : Nat => (j, (j : Int)))
  | [], i, _ => rfl
  | p :: r, i, h => by
    simp only [ents, findI, List.map_cons, idxB]
    by_cases c : N = p.N
    · rw [if_pos (by rw [c]), if_pos c]; rfl
    · rw [if_neg (fun e => c (keyS_inj (h p (by simp)).symm e)), if_neg c]
      exact find_ents r (i + 1) fun q hq => h q (by simp [hq])
structure Bkp (L : List Nat) (w0 w : World) (n m : Nat) (a : Option Addr) (c : Nat) (l : List Rb) : Prop where
  blk : Blk w n 221 [.map (some m), .slice a l.length c]
  md : Md [] w0 w
  nlo : w0.heap.size ≤ n
  mlo : w0.heap.size ≤ m
  map : MapAt w m (fun s : ByteArray => .string s) (fun x : Int => .int .i64 x) (ents l 0)
  own : OwnL w w0.heap.size 222 1 rbE a c l
  rows : ∀ p ∈ l, OwnL w w0.heap.size 4 1 bE p.a p.c p.N
  nm : n ≠ m
  nl : ∀ b ∈ L, b < w.heap.size ∧ b ≠ n ∧ b ≠ m ∧ ∀ A, a = some A → A.block ≠ b
/-- What a book is of: its blocks. -/
def fpB (n m : Nat) (a : Option Addr) : List Nat := n :: m :: (a.map (·.block)).toList
section
variable {L : List Nat} {w0 w w' : World} {n m c : Nat} {a : Option Addr} {l : List Rb}
theorem Bkp.md0 (S : Bkp L w0 w n m a c l) (hm : Md [] w w') : Bkp L w0 w' n m a c l :=
  ⟨S.blk.md hm (by simp), S.md.trans hm, S.nlo, S.mlo, S.map.md hm (by simp), S.own.md hm, fun p hp => (S.rows p hp).md hm, S.nm, fun b hb => ⟨by have := (S.nl b hb).1; have := hm.size; omega, (S.nl b hb).2⟩⟩
/-- Another row's blocks change: those of another kind than the book's. -/
theorem Bkp.mdI {b0 c2 : Nat} {x : Option Addr} {xs : List Int} (S : Bkp L w0 w n m a c l) (o : OwnL w b0 3 1 i1 x c2 xs) (hlo : w0.heap.size ≤ b0) (hm : Md (x.map (·.block)).toList w w') : Bkp L w0 w' n m a c l := by
  have hx : ∀ d ∈ (x.map (·.block)).toList, ∃ A, x = some A ∧ A.block = d := fun d hd => mem_blk hd
  refine ⟨S.blk.md hm (fun hd => ?_), S.md.old hm (fun d hd => ?_), S.nlo, S.mlo, S.map.md hm (fun hd => ?_), S.own.mdD hm (fun A hA hd => ?_), fun p hp => (S.rows p hp).mdD hm (fun A hA hd => ?_), S.nm, fun b hb => ⟨by have := (S.nl b hb).1; have := hm.size; omega, (S.nl b hb).2⟩⟩
  · obtain ⟨A, hA, e⟩ := hx _ hd; exact own_nblk o S.blk (by decide) A hA e
  · obtain ⟨A, hA, e⟩ := hx _ hd; have := (o.lt hA).1; omega
  · obtain ⟨A, hA, e⟩ := hx _ hd; exact own_nmap o S.map A hA e
  · obtain ⟨B, hB, e⟩ := hx _ hd; exact own_apt2 o S.own (by decide) B A hB hA e
  · obtain ⟨B, hB, e⟩ := hx _ hd; exact own_apt2 o (S.rows p hp) (by decide) B A hB hA e
end
theorem f168_ok {L : List Nat} {w0 w : World} {n m c : Nat} {a : Option Addr} {l : List Rb} (S : Bkp L w0 w n m a c l) (N : List Bool) (pa : Option Addr) (pc : Nat) (hN : OwnL w w0.heap.size 4 1 bE pa pc N) (hlen : ∀ p ∈ l, p.N.length = N.length) (hl : l.length < 2 ^ 30) :
    Ct Try.prog 168 #[.pointer (some ⟨n, 0, none⟩), .string (keyS N), .slice pa N.length pc] w fun v w' =>
      (match idxB N (l.map (·.N)) 0 with
        | some i => v = .tuple #[.int .i64 (i : Int), .bool false] ∧ Bkp L w0 w' n m a c l
        | none => v = .tuple #[.int .i64 (l.length : Int), .bool true] ∧ ∃ a' c', Bkp L w0 w' n m a' c' (l ++ [⟨pa, pc, N⟩])) ∧ Md (fpB n m a) w w' := by
  apply f168_in
  have hfi := find_ents l 0 hlen
  refine NN_in <| S.blk.ld' rfl <| opM_in ?_
  refine RunW_in0 (mapStr.lookup S.map (keyS N) (.int .i64 0) (zero3 w)) <| opTu_in ?_
  rw [hfi]
  cases hx : idxB N (l.map (·.N)) 0 with
  | some i =>
    refine opI_in <| opB_in <| SzIs_in rfl <| Jn_in (fun us vs w' => us = [.int .i64 (i : Int)] ∧ w' = w) ?_ ?_
    · rintro us vs w11 ⟨rfl, rfl⟩
      exact opI_in <| Bd_e (y := false) rfl ⟨⟨rfl, S⟩, Md.refl _ _⟩
    · exact Bd_e (y := false) rfl <| If_in (fun h => by cases h) fun _ => ⟨rfl, rfl⟩
  | none =>
    refine opI_in <| opB_in <| SzIs_in rfl <| Jn_in (fun us vs w' => us = [.int .i64 (l.length : Int)] ∧ (∃ a' c', Bkp L w0 w' n m a' c' (l ++ [⟨pa, pc, N⟩])) ∧ Md (fpB n m a) w w') ?_ ?_
    · rintro us vs w11 ⟨rfl, h1, h2⟩
      exact opI_in <| Bd_e (y := true) rfl ⟨⟨rfl, h1⟩, h2⟩
    · refine Bd_e (y := true) rfl <| If_in (fun _ => ?_) fun h => by cases h
      refine NN_in <| S.blk.ld' rfl <| opL_in <| Bd_e rfl <| NN_in <| S.blk.ld' rfl <| opM_in ?_
      rw [hx] at hfi
      obtain ⟨w25, hrun, hmap, m25⟩ := mapStr.add S.map (keyS N) (l.length : Int) hfi
      refine RunU_in hrun (fun b hb => by cases hb) <| NN_in ?_
      have hnd : n ∉ [m] := by simp; exact S.nm
      have b25 := S.blk.md m25 hnd
      have o25 := S.own.mdD m25 (fun A hA => by simp; exact own_nmap S.own S.map A hA)
      have N25 := hN.mdD m25 (fun A hA => by simp; exact own_nmap hN S.map A hA)
      have rows25 : ∀ p ∈ l, OwnL w25 w0.heap.size 4 1 bE p.a p.c p.N := fun p hp => (S.rows p hp).mdD m25 (fun A hA => by simp; exact own_nmap (S.rows p hp) S.map A hA)
      have md25 : Md [] w0 w25 := S.md.old m25 (by simp; exact S.mlo)
      refine b25.ld' rfl <| opL_in ?_
      refine app_one rowT219 encrb ⟨pa, pc, N⟩ rfl o25 md25.size (by simp) (by simp) (by simp [maxLen]; omega) (by omega) fun a' c' w34 o34 m34 hA34 => opL_in <| NN_in ?_
      have hna : ∀ d ∈ (a.map (·.block)).toList, ∃ A, a = some A ∧ A.block = d := fun d hd => mem_blk hd
      have b34 := b25.md m34 (fun hd => by obtain ⟨A, hA, e⟩ := hna _ hd; exact own_nblk o25 b25 (by decide) A hA e)
      have map34 := hmap.md m34 (fun hd => by obtain ⟨A, hA, e⟩ := hna _ hd; exact own_nmap o25 hmap A hA e)
      have md34 : Md [] w0 w34 := md25.old m34 (fun d hd => by obtain ⟨A, hA, rfl⟩ := hna _ hd; exact (o25.lt hA).1)
      have keep : ∀ {y : Option Addr} {cy : Nat} {M : List Bool}, OwnL w25 w0.heap.size 4 1 bE y cy M → OwnL w34 w0.heap.size 4 1 bE y cy M := fun h => (own_keep h m34 hA34 (own_apt2 o25 h (by decide))).1
      have N34 := keep N25
      have mS := Md_setCells (w := w34) n 1 [.slice a' (l ++ [(⟨pa, pc, N⟩ : Rb)]).length c']
      have bS := b34.set (j := 1) (by simp) (.slice a' (l ++ [(⟨pa, pc, N⟩ : Rb)]).length c')
      have o34' := o34.mdD mS (fun A hA => by simp; exact own_nblk o34 b34 (by decide) A hA)
      have sz25 := m25.size
      have sz34 := m34.size
      have szS := mS.size
      refine ⟨by simp, by rw [ad0']; exact b34.wr (by simp), rfl, ⟨a', c', ⟨by rw [ad0']; exact bS, by rw [ad0']; exact md34.old mS (by simp; exact S.nlo), S.nlo, S.mlo, by rw [ad0']; have := map34.md mS (by simp; exact S.nm.symm); rw [ents_snoc]; simpa using this, by rw [ad0']; exact o34', fun p hp => ?_, S.nm, fun b hb => ?_⟩⟩, ?_⟩
      · rw [ad0']
        rcases List.mem_append.1 hp with h | h
        · have := keep (rows25 p h)
          exact this.mdD mS (fun A hA => by simp; exact own_nblk this b34 (by decide) A hA)
        · simp at h; subst h
          exact N34.mdD mS (fun A hA => by simp; exact own_nblk N34 b34 (by decide) A hA)
      · obtain ⟨h1, h2, h3, h4⟩ := S.nl b hb
        rw [ad0']
        refine ⟨by omega, h2, h3, fun A hA e => ?_⟩
        rcases hA34 A hA with h | h
        · exact h4 A h e
        · omega
      · rw [ad0']
        have q1 : Md (fpB n m a) w w25 := m25.mono (by unfold fpB; simp)
        have q2 : Md (fpB n m a) w25 w34 := m34.mono (by unfold fpB; intro x hx; simp at hx ⊢; exact .inr (.inr hx))
        have q3 : Md (fpB n m a) w34 _ := mS.mono (by unfold fpB; simp)
        exact (q1.trans q2).trans q3
end Fk
set_option linter.unusedVariables false
set_option linter.unusedSimpArgs false
set_option maxRecDepth 100000
set_option maxHeartbeats 2000000
namespace Fk
open Go Go.Proofs Go.RowKit
abbrev setKV (q : Q4) : Value := .agg #[.int .u64 q.1, .int .u64 q.2.1, .int .u64 q.2.2.1, .int .u64 q.2.2.2]
theorem eqSet : EqT Try.prog 28 setKV 2 := by
  intro d w a b hd
  obtain ⟨d, rfl⟩ := Nat.exists_eq_add_of_le' hd
  have h26 : (Try.prog.info? 26).isSome = true := by kernel_rfl
  obtain ⟨i26, hi26⟩ := Option.isSome_iff_exists.1 h26
  have e := run_equal_ints (P := Try.prog) (w := w) (t := 28) (e := 26) (q := .u64) (n := 4) (by kernel_rfl) hi26 (by kernel_rfl) (by kernel_rfl) .u64 [a.1, a.2.1, a.2.2.1, a.2.2.2] [b.1, b.2.1, b.2.2.1, b.2.2.2] rfl rfl d
  refine e.trans ?_
  congr 1
  obtain ⟨a1, a2, a3, a4⟩ := a
  obtain ⟨b1, b2, b3, b4⟩ := b
  rw [Bool.eq_iff_iff]
  simp
theorem size26 (w : World) : (Go.sizeOf 26).run Try.prog w = .ok 1 w := by
  have h : (Try.prog.info? 26).map (·.size) = some 1 := by kernel_rfl
  cases hi : Try.prog.info? 26 with
  | none => rw [hi] at h; cases h
  | some i => rw [hi] at h; simp [Go.sizeOf, typeInfo, hi]; simpa using h
theorem checkSet (em : Bool) (w : World) (k : Q4) : (Instr.checkKey em (9999 + 1) 28 (setKV k)).run Try.prog w = .ok () w := by
  have u28 : Try.prog.underlying 28 = some (.array 4 26) := by kernel_rfl
  have u26 : Try.prog.underlying 26 = some (.int .u64) := by kernel_rfl
  have a26 : isAggT Try.prog 26 = false := by kernel_rfl
  have c1 : ∀ (x : Int), (Instr.checkKey em 9999 26 (.int .u64 x)).run Try.prog w = .ok () w := fun x => by
    show (Instr.checkKey em (9998 + 1) 26 (.int .u64 x)).run Try.prog w = _
    unfold Instr.checkKey
    simp only [Sem.run_bind, run_underlying u26, Result.andThen_ok]
    rfl
  have p0 : (part 26 #[Value.int .u64 k.1, .int .u64 k.2.1, .int .u64 k.2.2.1, .int .u64 k.2.2.2] 0).run Try.prog w = .ok (.int .u64 k.1) w := part_cell u26 a26 rfl
  have p1 : (part 26 #[Value.int .u64 k.1, .int .u64 k.2.1, .int .u64 k.2.2.1, .int .u64 k.2.2.2] 1).run Try.prog w = .ok (.int .u64 k.2.1) w := part_cell u26 a26 rfl
  have p2 : (part 26 #[Value.int .u64 k.1, .int .u64 k.2.1, .int .u64 k.2.2.1, .int .u64 k.2.2.2] 2).run Try.prog w = .ok (.int .u64 k.2.2.1) w := part_cell u26 a26 rfl
  have p3 : (part 26 #[Value.int .u64 k.1, .int .u64 k.2.1, .int .u64 k.2.2.1, .int .u64 k.2.2.2] 3).run Try.prog w = .ok (.int .u64 k.2.2.2) w := part_cell u26 a26 rfl
  unfold Instr.checkKey
  simp only [Sem.run_bind, run_underlying u28, Result.andThen_ok]
  rw [Std.Legacy.Range.forIn_eq_forIn_range']
  simp [List.range', size26, Result.andThen, p0, p1, p2, p3, c1]
theorem mapSet : MapT Try.prog 282 28 3 (.array 4 26) setKV (fun x : Int => .int .i64 x) where
  hm := by kernel_rfl
  hk := by kernel_rfl
  eq := fun d w a b hd => eqSet d w a b (by omega)
  now := fun a b => .inl rfl
  check := fun em w k => checkSet em w k
section
variable {K V : Type} [DecidableEq K] {P : Program} {mt kt et : TypeId} {d : TypeDesc} {kv : K → Value} {vv : V → Value}
theorem MapT.lookup1 (T : MapT P mt kt et d kv vv) {w : World} {r : Nat} {l : List (K × V)} (h : MapAt w r kv vv l) (k : K) (z : Value) (hz : (zeroValue et).run P w = .ok z w) :
    (Instr.lookup mt (.map (some r)) (kv k) false).run P w = .ok (((findI k l 0).map fun p => vv p.2).getD z) w := by
  obtain ⟨es, clock, hb, he⟩ := h
  have hf := T.find w k es.toList l he
  cases hfi : findI k l 0 with
  | none => simp [Instr.lookup, run_underlying T.hm, MapKept.run_getObj_map hb, T.check, hf, hfi, hz, Result.andThen]
  | some p => simp [Instr.lookup, run_underlying T.hm, MapKept.run_getObj_map hb, T.check, hf, hfi, hz, Result.andThen]
end
theorem findI_some {K V : Type} [DecidableEq K] {k : K} : ∀ {l : List (K × V)} {i : Nat} {p : Nat × V}, findI k l i = some p → (k, p.2) ∈ l
  | [], _, _, h => by simp [findI] at h
  | q :: l, i, p, h => by
    simp only [findI] at h
    split at h
    · rename_i hk
      injection h with h
      subst h
      rw [hk]; simp
    · exact List.mem_cons_of_mem _ (findI_some h)
/-- Do all sets fit? -/
def fitsN (c : Cl) (l : List Ns) : Bool := l.all (fun x => x.k != 1 || c.fits x.q) && c.right
theorem f166_ok (c : Cl) (hc : c.ok) (st : Int) (l : List Ns) (pa : Option Addr) (pc : Nat) (w : World) (hr : RowAt w pa 8 nsE l) (hlen : l.length ≤ 20000) :
    Ct Try.prog 166 #[.agg #[.int .i64 st, .slice pa l.length pc], .agg c.v] w fun v w' => v = .bool (fitsN c l) ∧ Md [] w w' := by
  apply f166_in
  intro n1 hn1 n2 hn2 w3 h3 hL3
  refine Nw_i <| Bd_e rfl ?_
  have ma : Md [] w3 (w3.alloc (.map #[] 0)) := Md.alloc w3 _
  have hM0 : MapAt (w3.alloc (.map #[] 0)) w3.heap.size setKV (fun x : Int => .int .i64 x) [] := MapAt.new w3 _ _
  have g5 : Good [n2, n1] w (w3.alloc (.map #[] 0)) := Good.tr ⟨h3, hL3⟩ ma
  have hnl : ∀ b ∈ [n2, n1], b ≠ w3.heap.size := fun b hb => by have := hL3 b hb; omega
  have hm0 : w.heap.size ≤ w3.heap.size := h3.size
  generalize w3.heap.size = m at *
  refine LoopP_in (fun mm us vs w' => ∃ (i : Nat) (b : Bool) (kn : List (Q4 × Int)), us = [.bool b, .int .i64 i] ∧ mm = l.length - i ∧ i ≤ l.length ∧ Good [n2, n1] w w' ∧ MapAt w' m setKV (fun x : Int => .int .i64 x) kn ∧ (∀ p ∈ kn, p.2 = 1 ∧ c.fits p.1 = true) ∧ (∀ x ∈ l.take i, (x.k != 1 || c.fits x.q) = true)) l.length
    ⟨0, _, [], rfl, rfl, by omega, g5, hM0, by simp, by simp⟩ ?_
  rintro mm us vs w10 ⟨i, b11, kn, rfl, hmm, hi, g10, hM, hkn, htk⟩
  refine opB_in <| opI_in <| Bd_in fun b13 hb13 => If_in (fun hb => ?_) fun hb => ?_
  case refine_2 =>
    have hil : i = l.length := by
      have : ¬ (i : Int) < (l.length : Int) := by rw [hb13] at hb; exact of_decide_eq_false hb
      omega
    subst hil
    rw [List.take_length] at htk
    refine ⟨hc.size, in44 c hc g10 fun w53 g53 => ⟨?_, g53.1⟩⟩
    unfold fitsN
    rw [List.all_eq_true.2 htk]
    rfl
  have hil : i < l.length := by rw [hb13] at hb; have : (i : Int) < (l.length : Int) := of_decide_eq_true hb
                                omega
  have next : c.fits l[i].q = true ∨ l[i].k ≠ 1 → ∀ x ∈ l.take (i + 1), (x.k != 1 || c.fits x.q) = true := fun h x hx => by
    rw [List.take_succ_eq_append_getElem hil] at hx
    rcases List.mem_append.1 hx with hx | hx
    · exact htk x hx
    · simp at hx; subst hx
      rcases h with h | h
      · simp [h]
      · simp [h]
  refine Jn_in (fun us vs w' => ∃ (b : Bool) (kn : List (Q4 × Int)), us = [.bool b] ∧ Good [n2, n1] w w' ∧ MapAt w' m setKV (fun x : Int => .int .i64 x) kn ∧ (∀ p ∈ kn, p.2 = 1 ∧ c.fits p.1 = true) ∧ (∀ x ∈ l.take (i + 1), (x.k != 1 || c.fits x.q) = true)) ?_ ?_
  · rintro us vs w16 ⟨b, kn', rfl, q1, q2, q3, q4⟩
    exact opB_in <| Bd_e (inc_i64 (by omega)) ⟨l.length - (i + 1), by omega, i + 1, b, kn', rfl, rfl, by omega, q1, q2, q3, q4⟩
  refine ⟨(hr.md g10.1).ix hil, (hr.md g10.1).ld8 hil ?_⟩
  intro n36 hn36
  have hmlt := hM.lt
  refine Bd_in fun b37 hb37 w38 h38 hL38 => ?_
  have m38 : Md [] w10 w38 := h38.fresh (by simp; exact hn36)
  have g38 : Good [n36, n2, n1] w w38 := ⟨g10.1.trans m38, hL38⟩
  have hM38 := hM.md m38 (by simp)
  have down : ∀ {w' : World}, Good [n36, n2, n1] w w' → Good [n2, n1] w w' := fun h => ⟨h.1, fun b hb => h.2 b (by simp at hb ⊢; exact .inr hb)⟩
  refine Gd_to (fun x w' => w' = w38 ∧ (b37 = true → x = ((findI l[i].q kn 0).map fun p => p.2).getD 0)) (fun x43 w44 hJ => ?_) (fun fin hc' => ?_) fun hc' => ⟨rfl, fun h => by rw [h] at hc'; cases hc'⟩
  case refine_2 =>
    refine RunW_in0 (mapSet.lookup1 hM38 l[i].q (.int .i64 0) (zero3 w38)) ?_
    cases hfi : findI l[i].q kn 0 with
    | none => exact opI_in <| fin _ _ ⟨rfl, fun _ => by rw [hfi]; rfl⟩
    | some p => exact opI_in <| fin _ _ ⟨rfl, fun _ => by rw [hfi]; rfl⟩
  obtain ⟨rfl, h43⟩ := hJ
  refine Bd_in fun b45 hb45 => Bd_in fun b46 hb46 => If_in (fun hb => ?_) fun hb => ?_
  · have hk : b37 = true ∧ x43 = 0 := by
      rw [hb46, hb45] at hb
      cases h : b37 with
      | false => rw [h] at hb; cases hb
      | true => rw [h] at hb; exact ⟨rfl, by simpa using hb⟩
    have hk1 : l[i].k = 1 := by have := hk.1; rw [hb37] at this; simpa using this
    have hnone : findI l[i].q kn 0 = none := by
      cases hfi : findI l[i].q kn 0 with
      | none => rfl
      | some p =>
        have h1 := h43 hk.1
        rw [hfi] at h1
        have := (hkn _ (findI_some hfi)).1
        simp at h1
        omega
    refine ⟨hc.size, ?_⟩
    refine (f46_ok c hc l[i].q w44).call g38.2 ?_
    rintro v w48 rfl m48
    have g48 := g38.tr m48
    have hM48 := hM38.md m48 (by simp)
    refine opB_in <| Bd_in fun b50 hb50 => If_in (fun hb2 => ?_) fun hb2 => ?_
    · have hno : c.fits l[i].q = false := by rw [hb50] at hb2; simpa using hb2
      refine ⟨?_, g48.1⟩
      have : l.all (fun x => x.k != 1 || c.fits x.q) = false := by
        rw [List.all_eq_false]
        exact ⟨l[i], List.getElem_mem hil, by simp [hk1, hno]⟩
      unfold fitsN
      rw [this]; rfl
    · have hyes : c.fits l[i].q = true := by rw [hb50] at hb2; simpa using hb2
      obtain ⟨w51, hrun, hmap, m51⟩ := mapSet.add hM48 l[i].q (1 : Int) hnone
      refine RunU_in hrun (fun b hb => m51.blk b (g48.2 b hb) (by
        simp at hb ⊢
        rcases hb with rfl | rfl | rfl
        · omega
        · exact hnl _ (by simp)
        · exact hnl _ (by simp))) ?_
      refine ⟨b11, kn ++ [(l[i].q, 1)], rfl, ⟨g48.1.old m51 (by simp; exact hm0), fun b hb => Nat.lt_of_lt_of_le (g48.2 b (by simp at hb ⊢; exact .inr hb)) m51.size⟩, hmap, fun p hp => ?_, next (.inl hyes)⟩
      rcases List.mem_append.1 hp with h | h
      · exact hkn p h
      · simp at h; subst h; exact ⟨rfl, hyes⟩
  · refine ⟨b11, kn, rfl, down g38, hM38, hkn, next ?_⟩
    by_cases hk1 : l[i].k = 1
    · left
      have hb37' : b37 = true := by rw [hb37]; simp [hk1]
      have hx : x43 ≠ 0 := by
        intro e
        rw [hb46, hb45, hb37', e] at hb
        simp at hb
      have h1 := h43 hb37'
      cases hfi : findI l[i].q kn 0 with
      | none => rw [hfi] at h1; exact absurd h1 hx
      | some p => exact (hkn _ (findI_some hfi)).2
    · exact .inr hk1
end Fk
set_option linter.unusedVariables false
set_option linter.unusedSimpArgs false
set_option maxRecDepth 100000
set_option maxHeartbeats 2000000
namespace Fk
open Go Go.Proofs Go.RowKit
abbrev DP := List (List Bool) × List Int
/-- Where one byte leads. -/
def oneB (l : List Ns) (b : Nat) (N : List Bool) (p : DP) : DP :=
  if byL b N l = [] then (p.1, p.2 ++ [-1]) else
    match idxB (dst l (byL b N l)) p.1 0 with
    | some i => (p.1, p.2 ++ [(i : Int)])
    | none => (p.1 ++ [dst l (byL b N l)], p.2 ++ [(p.1.length : Int)])
/-- One state's row; none if there are too many. -/
def dRow (l : List Ns) (most : Nat) : List Nat → List Bool → DP → Option DP
  | [], _, p => some p
  | b :: bs, N, p => if most < (oneB l b N p).1.length then none else dRow l most bs N (oneB l b N p)
def dAll (l : List Ns) (most : Nat) (F : List Nat) : Nat → Nat → DP → Option DP
  | 0, _, p => some p
  | f + 1, i, p => match p.1[i]? with
    | none => some p
    | some N => (dRow l most F N p).bind (dAll l most F f (i + 1))
def Cl.firsts (c : Cl) : List Nat := (List.range c.m.toNat).map fun k : Nat => (c.first k).1.toNat
abbrev Dm := Int × List Int × List Int
def tagL (l : List Ns) (all : List (List Bool)) : List Int := all.map fun N => tagF N l (-1)
def dBld (st : Int) (l : List Ns) (c : Cl) (most : Int) : Dm × Int :=
  if nfRight st l = true ∧ fitsN c l = true ∧ 1 ≤ most ∧ most ≤ 5000 then
    match dAll l most.toNat c.firsts (most.toNat + 1) 0 ([dst l [st]], []) with
    | none => ((0, [], []), 40)
    | some p => ((c.m, p.2, tagL l p.1), 0)
  else ((0, [], []), 2)
structure Ls (L : List Nat) (wb w : World) (n m : Nat) (a : Option Addr) (c : Nat) (B : List Rb) (na : Option Addr) (nc : Nat) (nx : List Int) (ta : Option Addr) (tc : Nat) (tg : List Int) : Prop where
  S : Bkp L wb w n m a c B
  nx : OwnL w wb.heap.size 3 1 i1 na nc nx
  tg : OwnL w wb.heap.size 3 1 i1 ta tc tg
  ap : Apt na ta
  l1 : ∀ b ∈ L, ∀ A, na = some A → A.block ≠ b
  l2 : ∀ b ∈ L, ∀ A, ta = some A → A.block ≠ b
  l3 : ∀ p ∈ B, ∀ A, p.a = some A → ∀ b ∈ L, A.block ≠ b
section
variable {L : List Nat} {wb w w' : World} {n m c nc tc : Nat} {a na ta : Option Addr} {B : List Rb} {nx tg : List Int}
theorem Ls.md0 (h : Ls L wb w n m a c B na nc nx ta tc tg) (hm : Md [] w w') : Ls L wb w' n m a c B na nc nx ta tc tg :=
  ⟨h.S.md0 hm, h.nx.md hm, h.tg.md hm, h.ap, h.l1, h.l2, h.l3⟩
theorem Ls.lt (h : Ls L wb w n m a c B na nc nx ta tc tg) : ∀ b ∈ L, b < w.heap.size := fun b hb => (h.S.nl b hb).1
/-- One of the names' blocks changes. -/
theorem Ls.mdL {n0 : Nat} (h : Ls L wb w n m a c B na nc nx ta tc tg) (h0 : n0 ∈ L) (hlo : wb.heap.size ≤ n0) (hm : Md [n0] w w') : Ls L wb w' n m a c B na nc nx ta tc tg := by
  obtain ⟨q1, q2, q3, q4⟩ := h.S.nl n0 h0
  refine ⟨⟨h.S.blk.md hm (by simp; exact fun e => q2 e.symm), h.S.md.old hm (by simp; exact hlo), h.S.nlo, h.S.mlo, h.S.map.md hm (by simp; exact fun e => q3 e.symm), h.S.own.mdD hm (fun A hA => by simp; exact q4 A hA), fun p hp => (h.S.rows p hp).mdD hm (fun A hA => by simp; exact h.l3 p hp A hA n0 h0), h.S.nm, fun b hb => ⟨by have := h.lt b hb; have := hm.size; omega, (h.S.nl b hb).2⟩⟩, h.nx.mdD hm (fun A hA => by simp; exact h.l1 n0 h0 A hA), h.tg.mdD hm (fun A hA => by simp; exact h.l2 n0 h0 A hA), h.ap, h.l1, h.l2, h.l3⟩
theorem Ls.addN {n0 : Nat} (h : Ls L wb w n m a c B na nc nx ta tc tg) (h0 : n0 ∈ L) (hlo : wb.heap.size ≤ n0) (x : Int) (hl : nx.length < 2 ^ 30) {K : Option Addr → Nat → Nat → World → Prop}
    (kk : ∀ na' nc' w', Ls L wb w' n m a c B na' nc' (nx ++ [x]) ta tc tg → K na' (nx ++ [x]).length nc' w') :
    Nw (.cells #[.int .i64 x] 3) w fun b w' => RunW Try.prog L (Builtin.append_ #[52, 52] 52 #[.slice na nx.length nc, .slice (some (Addr.mk b 0 none)) 1 1]) (fun v w'' => opL v fun a' n' c' => Up [n0] L w'' fun w3 => K a' n' c' w3) w' := by
  refine app_one rowT52 enci1 x rfl h.nx h.S.md.size h.lt h.l1 (by simp [maxLen]; omega) (by omega) fun a' c' w' o hm hA => opL_in fun w3 h3 _ => kk a' c' w3 ?_
  have S' := h.S.mdI h.nx (Nat.le_refl _) hm
  obtain ⟨t', ap'⟩ := own_keep h.tg hm hA h.ap
  exact Ls.mdL ⟨S', o, t', ap', fun b hb A hA' => by
    rcases hA A hA' with h1 | h1
    · exact h.l1 b hb A h1
    · have := h.lt b hb; omega, h.l2, h.l3⟩ h0 hlo h3
theorem Ls.addT {n0 : Nat} (h : Ls L wb w n m a c B na nc nx ta tc tg) (h0 : n0 ∈ L) (hlo : wb.heap.size ≤ n0) (x : Int) (hl : tg.length < 2 ^ 30) {K : Option Addr → Nat → Nat → World → Prop}
    (kk : ∀ ta' tc' w', Ls L wb w' n m a c B na nc nx ta' tc' (tg ++ [x]) → K ta' (tg ++ [x]).length tc' w') :
    Nw (.cells #[.int .i64 x] 3) w fun b w' => RunW Try.prog L (Builtin.append_ #[52, 52] 52 #[.slice ta tg.length tc, .slice (some (Addr.mk b 0 none)) 1 1]) (fun v w'' => opL v fun a' n' c' => Up [n0] L w'' fun w3 => K a' n' c' w3) w' := by
  refine app_one rowT52 enci1 x rfl h.tg h.S.md.size h.lt h.l2 (by simp [maxLen]; omega) (by omega) fun a' c' w' o hm hA => opL_in fun w3 h3 _ => kk a' c' w3 ?_
  have S' := h.S.mdI h.tg (Nat.le_refl _) hm
  obtain ⟨t', ap'⟩ := own_keep h.nx hm hA h.ap.symm
  exact Ls.mdL ⟨S', t', o, ap'.symm, h.l1, fun b hb A hA' => by
    rcases hA A hA' with h1 | h1
    · exact h.l2 b hb A h1
    · have := h.lt b hb; omega, h.l3⟩ h0 hlo h3
theorem fpB_own {A : Option Addr} {cc : Nat} {xs : List Int} (S : Bkp L wb w n m a c B) (o : OwnL w wb.heap.size 3 1 i1 A cc xs) (hm : Md (fpB n m a) w w') : OwnL w' wb.heap.size 3 1 i1 A cc xs := o.mdD hm fun X hX hd => by
  unfold fpB at hd
  simp only [List.mem_cons] at hd
  rcases hd with hd | hd | hd
  · exact own_nblk o S.blk (by decide) X hX hd
  · exact own_nmap o S.map X hX hd
  · obtain ⟨Y, hY, e⟩ := mem_blk hd
    exact own_apt2 o S.own (by decide) X Y hX hY e.symm
theorem fpB_L (S : Bkp L wb w n m a c B) : ∀ b ∈ L, b ∉ fpB n m a := fun b hb hd => by
  obtain ⟨_, q2, q3, q4⟩ := S.nl b hb
  unfold fpB at hd
  simp only [List.mem_cons] at hd
  rcases hd with hd | hd | hd
  · exact q2 hd
  · exact q3 hd
  · obtain ⟨Y, hY, e⟩ := mem_blk hd
    exact q4 Y hY e
/-- A state is placed. -/
theorem Ls.place (h : Ls L wb w n m a c B na nc nx ta tc tg) (N : List Bool) (pa : Option Addr) (pc b0 : Nat) (hN : OwnL w b0 4 1 bE pa pc N) (hb0 : wb.heap.size ≤ b0) (hbL : ∀ b ∈ L, b < b0) (hlen : ∀ p ∈ B, p.N.length = N.length) (hl : B.length < 2 ^ 30) {K : Int → Bool → World → Prop}
    (k1 : ∀ i w', idxB N (B.map (·.N)) 0 = some i → Ls L wb w' n m a c B na nc nx ta tc tg → K (i : Int) false w')
    (k2 : ∀ a' c' w', idxB N (B.map (·.N)) 0 = none → Ls L wb w' n m a' c' (B ++ [⟨pa, pc, N⟩]) na nc nx ta tc tg → K (B.length : Int) true w') :
    CallW Try.prog L 168 #[.pointer (some (Addr.mk n 0 none)), .string (keyS N), .slice pa N.length pc] (fun v w' => opTu v fun cs => opI .i64 (nthD cs.toList 0) fun x => opB (nthD cs.toList 1) fun b => SzIs cs.size 2 (K x b w')) w := by
  refine (f168_ok h.S N pa pc (hN.down hb0) hlen hl).callD h.lt (fpB_L h.S) ?_
  intro v w' hv hm
  have o1 := fpB_own h.S h.nx hm
  have o2 := fpB_own h.S h.tg hm
  cases hx : idxB N (B.map (·.N)) 0 with
  | some i =>
    rw [hx] at hv
    obtain ⟨rfl, S'⟩ := hv
    exact opTu_in <| opI_in <| opB_in <| SzIs_in rfl <| k1 i w' hx ⟨S', o1, o2, h.ap, h.l1, h.l2, h.l3⟩
  | none =>
    rw [hx] at hv
    obtain ⟨rfl, a', c', S'⟩ := hv
    refine opTu_in <| opI_in <| opB_in <| SzIs_in rfl <| k2 a' c' w' hx ⟨S', o1, o2, h.ap, h.l1, h.l2, fun p hp => ?_⟩
    rcases List.mem_append.1 hp with hp | hp
    · exact h.l3 p hp
    · simp at hp; subst hp
      intro A hA b hb e
      have := (hN.lt hA).1
      have := hbL b hb
      simp only at hA
      omega
end
end Fk
