/- First machines: several texts, joined. -/
import Derived.Test.YtpgjpgecgibklaaNA
import Derived.Test.YtpgjpgecgibklaaVO
import Derived.WalkSmall
import Derived.Lib.SliceRun
/- First machines: Build, its contract. -/
set_option linter.unusedVariables false
set_option linter.unusedSimpArgs false
set_option maxRecDepth 100000
set_option maxHeartbeats 2000000
namespace Fk
open Go Go.Proofs Go.RowKit
theorem Nw_i {o : Obj} {w : World} {K : Nat → World → Prop} (k : K w.heap.size (w.alloc o)) : Nw o w K := fun _ _ e1 e2 => by subst e1; subst e2; exact k
theorem f66_ok (f : Fo) (A : Option Addr) (C : Nat) (most : Int) (w : World) (hr : RepF w A 0 f) (hl : f.len < 2 ^ 63) :
    Ct Try.prog 66 #[.slice A f.len C, .int .i64 most] w fun v w' => (∃ a c, v = .tuple #[.agg #[.int .i64 (bld f most).1.1, .slice a (bld f most).1.2.length c], .int .i64 (bld f most).2] ∧ OwnL w' w.heap.size 103 8 nsE a c (bld f most).1.2) ∧ Md [] w w' := by
  apply f66_in
  intro n1 hn1
  refine Bd_e rfl <| Bd_in fun b3 hb3 => Bd_e rfl <| Bd_in fun b5 hb5 => Bd_in fun b6 hb6 => Bd_in fun b7 hb7 => Bd_in fun b8 hb8 => Bd_in fun b9 hb9 => Bd_in fun b10 hb10 w11 h11 hL11 => ?_
  have e10 : b10 = decide (1 ≤ f.len ∧ f.len ≤ 200 ∧ 1 ≤ most ∧ most ≤ 20000) := by
    rw [hb10, hb8, hb9, hb6, hb7, hb3, hb5]
    by_cases c1 : 1 ≤ f.len <;> by_cases c2 : f.len ≤ 200 <;> by_cases c3 : 1 ≤ most <;> by_cases c4 : most ≤ 20000 <;> simp [c1, c2, c3, c4] <;> omega
  refine LoopP_in (fun mm us vs w' => ∃ (i : Nat) (b : Bool), us = [.bool b, .int .i64 i] ∧ mm = f.len - i ∧ i ≤ f.len ∧ Md [] w w' ∧ n1 < w'.heap.size ∧ (b = true → b10 = true ∧ firstR f i) ∧ (b = false → b10 = false ∨ f.right = false)) f.len ⟨0, b10, rfl, rfl, by omega, h11, hL11 n1 (by simp), fun h => ⟨h, fun j _ _ _ _ _ _ hj => by omega⟩, fun h => .inl h⟩ ?_
  rintro mm us vs w15 ⟨i, b, rfl, hmm, hi, hmd, hn, hT, hFl⟩
  refine opB_in <| opI_in <| Bd_e rfl <| Bd_in fun b19 hb19 => Bd_in fun b20 hb20 => If_in (fun hb => ?_) fun hb => Bd_in fun b39 hb39 => If_in (fun hno w40 h40 hL40 => ?_) fun hyes => ?_
  · have hbt : i < f.len ∧ b = true := by
      rw [hb20, hb19] at hb
      by_cases c : i < f.len
      · simp [c] at hb; exact ⟨c, hb⟩
      · simp [c] at hb
    obtain ⟨k, a, b', c, d, q, he, hqs⟩ := Fo.drop_cons f i hbt.1
    refine kid_ld hr hmd he hbt.1 fun sa' sc' hql' hr' => ?_
    refine (f144_ok q.size q k a b' c d sa' sc' w15 (Nat.le_refl _) (hr'.md hmd) hql').call (by simpa using hn) ?_
    rintro v w36 rfl m36
    obtain ⟨g1, g2⟩ := hT hbt.2
    refine opB_in <| Bd_e (y := ((i + 1 : Nat) : Int)) (by rw [IntKind.wrap_i64]; omega) ⟨f.len - (i + 1), by omega, i + 1, _, rfl, rfl, by omega, hmd.trans m36, by have := m36.size; omega, fun h => ⟨g1, fun j k' a' b'' c' d' q' hj he' => ?_⟩, fun h => .inr ?_⟩
    · by_cases hji : j < i
      · exact g2 j _ _ _ _ _ _ hji he'
      · have : j = i := by omega
        subst this
        rw [he] at he'
        injection he' with e1 e2 e3 e4 e5 e6
        subst e1; subst e2; subst e3; subst e4; subst e5; subst e6
        simpa using h
    · by_cases hfr : f.right = true
      · have := right_pre he hfr
        rw [this.1, this.2] at h
        simp at h
      · simpa using hfr
  · have hbf : b = false := by rw [hb39] at hno; simpa using hno
    have m40 : Md [] w w40 := hmd.old h40 (by simp; exact hn1)
    have e : bld f most = ((0, []), 2) := by
      unfold bld
      rw [if_neg]
      rintro ⟨h1, h2, h3, h4, h5⟩
      rcases hFl hbf with h | h
      · rw [e10, decide_eq_true ⟨h1, h2, h3, h4⟩] at h; cases h
      · rw [h5] at h; cases h
    rw [e]
    exact ⟨⟨none, 0, rfl, OwnL.nil _ _ _ _ _⟩, m40⟩
  have hbt : b = true := by rw [hb39] at hyes; simpa using hyes
  have hif : i = f.len := by
    rw [hb20, hb19, hbt] at hb
    have : ¬ (i : Int) < (f.len : Int) := by simpa using hb
    omega
  subst hif
  obtain ⟨g1, g2⟩ := hT hbt
  have hright : f.right = true := right_at f fun j k a b c d q hj he => g2 j k a b c d q hj he
  have hcond : 1 ≤ f.len ∧ f.len ≤ 200 ∧ 1 ≤ most ∧ most ≤ 20000 := by rw [g1] at e10; exact of_decide_eq_true e10.symm
  obtain ⟨mo, rfl⟩ := Int.eq_ofNat_of_zero_le (show 0 ≤ most by omega)
  have hgood := good_of_right f hright
  intro n41 w42 e41 e42
  subst e41; subst e42
  have ma : Md [] w15 (w15.alloc (.cells #[.slice none 0 0, .int .i64 mo] 214)) := Md.alloc w15 _
  have b42 : Blk (w15.alloc (.cells #[.slice none 0 0, .int .i64 mo] 214)) w15.heap.size 214 [.slice none 0 0, .int .i64 mo] := Blk.new w15 _ 214
  have T42 : Tws w (w15.alloc (.cells #[.slice none 0 0, .int .i64 mo] 214)) w15.heap.size [] mo (fpM w15.heap.size none) := ⟨⟨none, 0, ⟨b42, OwnL.nil _ _ _ _ _, fun A hA => by cases hA⟩, rfl⟩, hmd.trans ma, (fun b hb => by
    rw [mem_fpM] at hb
    rcases hb with rfl | ⟨A, hA, _⟩
    · exact hmd.size
    · cases hA), Nat.zero_le _⟩
  have hn42 : n1 < (w15.alloc (.cells #[.slice none 0 0, .int .i64 mo] 214)).heap.size := by have := ma.size; omega
  have hn1n : LN [n1] (w15.alloc (.cells #[.slice none 0 0, .int .i64 mo] 214)) (fpM w15.heap.size none) := fun b hb => by
    simp at hb; subst hb
    refine ⟨hn42, fun hm => ?_⟩
    rw [mem_fpM] at hm
    rcases hm with h | ⟨A, hA, _⟩
    · omega
    · cases hA
  refine Bd_e rfl ?_
  generalize w15.alloc (.cells #[.slice none 0 0, .int .i64 mo] 214) = w42 at *
  generalize hF0 : fpM w15.heap.size none = F0 at *
  generalize w15.heap.size = n41 at *
  refine LoopP_in (fun mm us vs w' => ∃ (i : Nat) (a : Option Addr) (c : Nat) (l : List Ns) (bs : List Int) (F : List Nat), us = [.slice a bs.length c, .int .i64 i] ∧ mm = f.len - i ∧ i ≤ f.len ∧ bldF mo (f.drop i) i l bs = bldF mo f 0 [] [] ∧ Tws w w' n41 l mo F ∧ OwnL w' w.heap.size 3 1 i1 a c bs ∧ (∀ A, a = some A → A.block ∉ F) ∧ bs.length = i ∧ LN [n1] w' F ∧ (∀ A, a = some A → A.block ≠ n1)) f.len
    ⟨0, none, 0, [], [], F0, rfl, rfl, by omega, by simp [Fo.drop], T42, OwnL.nil _ _ _ _ _, (fun A hA => by cases hA), rfl, hn1n, fun A hA => by cases hA⟩ ?_
  rintro mm us vs w47 ⟨i, a, c, l, bs, F, rfl, hmm, hi, hbl, T, ho, haF, hbs, hL, ha1⟩
  refine opL_in <| opI_in <| Bd_in fun b52 hb52 => If_in (fun hb => ?_) fun hb => ?_
  · have hi' : i < f.len := by rw [hb52] at hb; have : (i : Int) < (f.len : Int) := by simpa using hb
                               omega
    obtain ⟨k, a1, b1', c1, d1, q, he, hqs⟩ := Fo.drop_cons f i hi'
    have hg := f.gdP_drop i hgood
    rw [he] at hg
    refine kid_ld hr T.md he hi' fun sa' sc' hql' hr' n67 hn67 w68 h68 hL68 => ?_
    have m68 : Md [] w47 w68 := h68.fresh (by simp; exact hn67)
    have T68 := (T.md0 m68).md0 (Md_drew w68)
    have L68 : LN [n67, n1] w68.drew F := fun b hb => by
      refine ⟨hL68 b hb, fun hm => ?_⟩
      simp at hb
      rcases hb with rfl | rfl
      · have := T.mr.lt _ hm; omega
      · exact (hL _ (by simp)).2 hm
    refine ⟨fun _ => True, trivial, in164 T68 L68 (by omega) 0 0 0 0 0 0 0 i fun F1 w71 T71 m71 f71 L71 => ⟨trivial, in163 (tow_ok mo (by omega) (q.size + 1) q (by omega)) _ hr' hql' hg.1 hg.2.1 T71 L71 fun F2 w74 T74 m74 f74 L74 => ⟨trivial, Nw_i ⟨trivial, ?_⟩⟩⟩⟩
    have mF : Md F w47 w74 := Md_frN (Md_frN (m68.trans (Md_drew w68) |>.mono (by simp)) m71 (FrN.refl _ _)) m74 (fun b hb => by
      rcases f71 b hb with h | h
      · exact .inl h
      · right; have := m68.size; have h2 : w68.drew.heap.size = w68.heap.size := rfl; omega)
    have ho74 : OwnL w74 w.heap.size 3 1 i1 a c bs := ho.mdD mF haF
    generalize hx75 : (twOne mo k a1 b1' c1 d1 (tw mo q) (_, _)).2 = x75
    have ma74 : Md [] w74 (w74.alloc (.cells #[.int .i64 x75] 3)) := Md.alloc w74 _
    have ol := OwnL.lit (P := Try.prog) (base := w74.heap.size) enci1 w74 3 [x75] #[.int .i64 x75] (Nat.le_refl _) (by simp [maxLen]) rfl
    have s1 := m68.size
    have s2 : w68.drew.heap.size = w68.heap.size := rfl
    have s3 := m71.size
    have s4 := m74.size
    have s5 := ma74.size
    have s0 := T.md.size
    have haF2 : ∀ A, a = some A → A.block ∉ F2 := fun A hA hm => by
      have hlt := (ho.lt hA).2
      rcases f74 _ hm with h | h
      · rcases f71 _ h with h | h
        · exact haF A hA h
        · omega
      · omega
    have hsp : ∀ A, a = some A → A.block ≠ n67 := fun A hA => by have := (ho.lt hA).2; omega
    refine app_own rowT52 enci1 (ho74.md ma74) ol (by omega) (fun b hb => by have := (L74 b hb).1; omega) (fun b hb A hA => by
      simp at hb
      rcases hb with rfl | rfl
      · exact hsp A hA
      · exact ha1 A hA) (by simp [maxLen]; omega) (by simp; omega) fun a' c' w79 o79 m79 hA' => opL_in ⟨trivial, Bd_e (inc_i64 (by omega)) ?_⟩
    have mT : Md [] w w74 := T74.md
    have T79 : Tws w w79 n41 _ mo F2 := ⟨(T74.md0 ma74).mr.md m79 (fun b hb hm => by
      cases a with
      | none => simp at hm
      | some A => simp at hm; exact haF2 A rfl (hm ▸ hb)), (T74.md0 ma74).md.old m79 (fun d hd => by
      cases a with
      | none => simp at hd
      | some A => simp at hd; rw [hd]; exact (ho.lt rfl).1), T74.lo, T74.len⟩
    have s6 := m79.size
    refine ⟨f.len - (i + 1), by omega, i + 1, a', c', _, bs ++ [x75], F2, rfl, rfl, by omega, ?_, T79, o79, fun A hA hm => ?_, by simp; omega, fun b hb => ?_, fun A hA e => ?_⟩
    · rw [he] at hbl
      rw [← hbl, ← hx75]
      rfl
    · rcases hA' A hA with h | h
      · exact haF2 A h hm
      · have := T74.mr.lt _ hm; omega
    · have := L74 b (by simp at hb ⊢; exact .inr hb)
      exact ⟨by omega, this.2⟩
    · rcases hA' A hA with h | h
      · exact ha1 A h e
      · have := (L74 n1 (by simp)).1; omega
  have hif : i = f.len := by
    have : ¬ (i : Int) < (f.len : Int) := by rw [hb52] at hb; exact of_decide_eq_false hb
    omega
  subst hif
  rw [Fo.drop_all f _ (Nat.le_refl _)] at hbl
  change (l, bs) = _ at hbl
  obtain ⟨j0, hj0⟩ : ∃ j0, f.len = j0 + 1 := ⟨f.len - 1, by omega⟩
  refine Bd_e rfl <| Bd_e (y := (j0 : Int)) (by rw [IntKind.wrap_i64]; omega) ⟨(ho.row enci1).ix (by omega), (ho.row enci1).ld1 (by omega) rfl <| opI_in <| Bd_e rfl <| Bd_e (y := (j0 : Int) - 1) (by rw [IntKind.wrap_i64]; omega) ?_⟩
  have e0 : joinB mo (bs.drop j0) l = (l, bs[j0]'(by omega)) := by
    rw [List.drop_eq_getElem_cons (by omega), List.drop_of_length_le (by omega)]
    rfl
  refine LoopP_in (fun mm us vs w' => ∃ (j : Nat) (x : Int) (l' : List Ns) (F' : List Nat), us = [.int .i64 x, .int .i64 ((j : Int) - 1)] ∧ mm = j ∧ j ≤ j0 ∧ joinB mo (bs.drop j) l = (l', x) ∧ Tws w w' n41 l' mo F' ∧ Md F w47 w' ∧ FrN w47 F F' ∧ LN [n1] w' F') j0
    ⟨j0, _, _, F, rfl, rfl, Nat.le_refl _, e0, T, Md.refl _ _, FrN.refl _ _, hL⟩ ?_
  rintro mm us vs w93 ⟨j, x, l', F', rfl, hmm, hj, hc, St, m, fr, hL'⟩
  refine opI_in <| opI_in <| Bd_in fun b96 hb96 => If_in (fun hb => ?_) fun hb => ?_
  · have hj1 : (j : Int) - 1 ≥ 0 := by rw [hb96] at hb; exact of_decide_eq_true hb
    obtain ⟨i, rfl⟩ : ∃ i, j = i + 1 := ⟨j - 1, by omega⟩
    have ei : (((i + 1 : Nat) : Int) - 1) = (i : Int) := by omega
    rw [ei]
    have ho' : OwnL w93 w.heap.size 3 1 i1 a c bs := ho.mdD m haF
    refine ⟨(ho'.row enci1).ix (by omega), (ho'.row enci1).ld1 (by omega) rfl <| opI_in ?_⟩
    refine in164 St hL' (by omega) 2 0 0 0 0 _ x 0 fun F3 w44 S44 m44 f44 lf44 => Bd_e (y := (i : Int) - 1) (by rw [IntKind.wrap_i64]; omega) ⟨i, by omega, i, _, _, F3, rfl, rfl, by omega, ?_, S44, Md_frN m m44 fr, fr.trans f44 m.size, lf44⟩
    rw [List.drop_eq_getElem_cons (by omega : i < bs.length)]
    obtain ⟨y, ys, hys⟩ : ∃ y ys, bs.drop (i + 1) = y :: ys := ⟨_, _, List.drop_eq_getElem_cons (by omega)⟩
    rw [hys] at hc ⊢
    show pst mo (joinB mo (y :: ys) l).1 (spl _ (joinB mo (y :: ys) l).2) = _
    rw [hc]
    rfl
  have hj1 : ¬ (j : Int) - 1 ≥ 0 := by rw [hb96] at hb; exact of_decide_eq_false hb
  have hjz : j = 0 := by omega
  subst hjz
  have hc' : joinB mo bs l = (l', x) := by simpa using hc
  have eb : bld f mo = if (l'.length : Int) > mo then ((0, []), 40) else ((x, l'), 0) := by
    unfold bld
    rw [if_pos ⟨hcond.1, hcond.2.1, hcond.2.2.1, hcond.2.2.2, hright⟩]
    simp only [Int.toNat_natCast, ← hbl, hc']
  refine (f165_ok n41 l' mo F' w93 St.mr).call (fun b hb => (hL' b hb).1) ?_
  rintro v w104 rfl m104
  have hn104 : n1 < w104.heap.size := by have := (hL' n1 (by simp)).1; have := m104.size; omega
  have mw : Md [] w w104 := St.md.trans m104
  refine opB_in <| If_in (fun hb w106 h106 hL106 => ?_) fun hb => NN_in ?_
  · have : l'.length > mo := by simpa using hb
    rw [eb, if_pos (by omega)]
    exact ⟨⟨none, 0, rfl, OwnL.nil _ _ _ _ _⟩, mw.old h106 (by simp; exact hn1)⟩
  · have hle : ¬ (l'.length : Int) > mo := by
      have : ¬ l'.length > mo := by simpa using hb
      omega
    rw [eb, if_neg hle]
    obtain ⟨a', c', hk, hF⟩ := St.mr.md0 m104
    refine hk.blk.ld' rfl <| opL_in fun w112 h112 hL112 => ?_
    refine ⟨⟨a', c', rfl, (hk.own.mdD h112 (fun A hA => by simp; have h1 := (hL' n1 (by simp)).2; intro e; exact h1 (by rw [hF, mem_fpM]; exact .inr ⟨A, hA, e⟩))).up fun A hA => St.lo _ (by rw [hF, mem_fpM]; exact .inr ⟨A, hA, rfl⟩)⟩, mw.old h112 (by simp; exact hn1)⟩
end Fk

/- First machines: where one comes to, as plain functions. -/
set_option linter.unusedVariables false
set_option linter.unusedSimpArgs false
namespace Fk
open Go Go.Proofs Go.RowKit
def Ns.q (x : Ns) : Q4 := (x.s1, x.s2, x.s3, x.s4)
def On (N : List Bool) (i : Nat) : Prop := N[i]? = some true
instance (N : List Bool) (i : Nat) : Decidable (On N i) := by unfold On; infer_instance
/-- The states of a stack are come to, and what they come to without a byte. -/
def comeF (l : List Ns) : Nat → List Int → List Bool → List Bool
  | 0, _, N => N
  | m + 1, st, N => match st with
    | [] => N
    | x :: r => if On N x.toNat then comeF l m r N
      else comeF l m (match l[x.toNat]? with
        | some s => if s.k = 2 then s.b :: s.a :: r else r
        | none => r) (N.set x.toNat true)
def come (l : List Ns) (x : Int) (N : List Bool) : List Bool := comeF l (2 * l.length + 1) [x] N
/-- By a byte. -/
def stepF (l : List Ns) (b : Nat) : List Bool → List Ns → List Bool → List Bool
  | h :: hs, x :: xs, N => stepF l b hs xs (if h = true ∧ x.k = 1 ∧ inQ x.q b = true then come l x.a N else N)
  | _, _, N => N
def tagF : List Bool → List Ns → Int → Int
  | h :: hs, x :: xs, t => tagF hs xs (if h = true ∧ x.k = 0 ∧ (t < 0 ∨ x.t < t) then x.t else t)
  | _, _, t => t
def offs (n : Nat) : List Bool := List.replicate n false
def runF (l : List Ns) : List Nat → List Bool → List Int
  | [], _ => []
  | b :: bs, now => tagF (stepF l b now l (offs l.length)) l (-1) :: runF l bs (stepF l b now l (offs l.length))
def nfRun (st : Int) (l : List Ns) (s : List Nat) : List Int := tagF (come l st (offs l.length)) l (-1) :: runF l s (come l st (offs l.length))
/-! ### What is come to -/
/-- What some states come to without a byte. -/
inductive Rch (l : List Ns) (S : Nat → Prop) : Nat → Prop
  | base {i : Nat} : S i → Rch l S i
  | a {i : Nat} {x : Ns} : Rch l S i → l[i]? = some x → x.k = 2 → Rch l S x.a.toNat
  | b {i : Nat} {x : Ns} : Rch l S i → l[i]? = some x → x.k = 2 → Rch l S x.b.toNat
theorem Rch.sub {l : List Ns} {S T : Nat → Prop} (h : ∀ i, S i → Rch l T i) {i : Nat} (hi : Rch l S i) : Rch l T i := by
  induction hi with
  | base hs => exact h _ hs
  | a _ h1 h2 ih => exact .a ih h1 h2
  | b _ h1 h2 ih => exact .b ih h1 h2
theorem Rch.mono {l : List Ns} {S T : Nat → Prop} (h : ∀ i, S i → T i) {i : Nat} (hi : Rch l S i) : Rch l T i := hi.sub fun i hs => .base (h i hs)
def OkL (l : List Ns) : Prop := ∀ x ∈ l, 0 ≤ x.a ∧ x.a < l.length ∧ 0 ≤ x.b ∧ x.b < l.length
theorem okL_of_right {st : Int} {l : List Ns} (h : nfRight st l = true) : OkL l ∧ 0 ≤ st ∧ st < l.length ∧ l.length ≤ 20000 ∧ ∀ x ∈ l, okNs l.length x := by
  unfold nfRight at h
  rw [Bool.and_eq_true, decide_eq_true_eq, List.all_eq_true] at h
  refine ⟨fun x hx => ?_, h.1.1, h.1.2.1, h.1.2.2, fun x hx => of_decide_eq_true (h.2 x hx)⟩
  have := of_decide_eq_true (h.2 x hx)
  unfold okNs at this
  omega
theorem On.lt {N : List Bool} {i : Nat} (h : On N i) : i < N.length := by
  unfold On at h
  exact (List.getElem?_eq_some_iff.1 h).1
theorem On_set {N : List Bool} {i j : Nat} (hi : i < N.length) : On (N.set i true) j ↔ On N j ∨ j = i := by
  unfold On
  rw [List.getElem?_set]
  by_cases c : i = j
  · subst c; simp [hi]
  · simp [c]
    exact fun h => absurd h.symm c
def ofc (N : List Bool) : Nat := N.count false
theorem ofc_set {N : List Bool} {i : Nat} (hi : i < N.length) (hn : ¬ On N i) : ofc N = ofc (N.set i true) + 1 := by
  unfold ofc
  have e : N[i] = false := by
    unfold On at hn
    rw [List.getElem?_eq_getElem hi] at hn
    simpa using hn
  rw [List.count_set hi]
  have : 0 < N.count false := List.count_pos_iff.2 (e ▸ List.getElem_mem hi)
  simp [e]; omega
structure CoF (l : List Ns) (st : List Int) (N N' : List Bool) : Prop where
  len : N'.length = l.length
  up : ∀ i, On N i → On N' i
  has : ∀ x ∈ st, On N' x.toNat
  fr : ∀ i, On N' i → On N i ∨ Rch l (fun j => ∃ x ∈ st, x.toNat = j) i
  cl : ∀ i x, On N' i → l[i]? = some x → x.k = 2 → On N i ∨ (On N' x.a.toNat ∧ On N' x.b.toNat)
theorem comeF_ok (l : List Ns) (hl : OkL l) : ∀ (m : Nat) (st : List Int) (N : List Bool), N.length = l.length → (∀ x ∈ st, 0 ≤ x ∧ x < l.length) → 2 * ofc N + st.length ≤ m → CoF l st N (comeF l m st N)
  | 0, st, N, hN, hst, hm => by
    have : st = [] := List.eq_nil_of_length_eq_zero (by omega)
    subst this
    exact ⟨hN, fun _ h => h, by simp, fun _ h => .inl h, fun _ _ h _ _ => .inl h⟩
  | m + 1, [], N, hN, hst, hm => ⟨hN, fun _ h => h, by simp, fun _ h => .inl h, fun _ _ h _ _ => .inl h⟩
  | m + 1, x :: r, N, hN, hst, hm => by
    have hx := hst x (by simp)
    have hr : ∀ y ∈ r, 0 ≤ y ∧ y < l.length := fun y hy => hst y (by simp [hy])
    have hxl : x.toNat < l.length := by omega
    simp only [List.length_cons] at hm
    unfold comeF
    simp only
    split
    · rename_i hon
      have I := comeF_ok l hl m r N hN hr (by omega)
      exact ⟨I.len, I.up, fun y hy => by
        rcases List.mem_cons.1 hy with rfl | hy
        · exact I.up _ hon
        · exact I.has y hy, fun i hi => by
        rcases I.fr i hi with h | h
        · exact .inl h
        · exact .inr (h.mono fun j ⟨y, hy, e⟩ => ⟨y, by simp [hy], e⟩), I.cl⟩
    · rename_i hon
      have hf := ofc_set (N := N) (by omega) hon
      have hs : l[x.toNat]? = some l[x.toNat] := List.getElem?_eq_getElem hxl
      have hmem := hl _ (List.getElem_mem hxl)
      generalize l[x.toNat] = s at hs hmem
      rw [hs]
      simp only
      have hset : ∀ {j}, On (N.set x.toNat true) j ↔ On N j ∨ j = x.toNat := fun {j} => On_set (by omega)
      by_cases hk : s.k = 2
      · rw [if_pos hk]
        have I := comeF_ok l hl m (s.b :: s.a :: r) (N.set x.toNat true) (by simp [hN]) (fun y hy => by
          simp at hy
          rcases hy with rfl | rfl | hy
          · exact ⟨hmem.2.2.1, hmem.2.2.2⟩
          · exact ⟨hmem.1, hmem.2.1⟩
          · exact hr y hy) (by simp; omega)
        have hbase : Rch l (fun j => ∃ y ∈ x :: r, y.toNat = j) x.toNat := .base ⟨x, by simp, rfl⟩
        refine ⟨I.len, fun i hi => I.up i (hset.2 (.inl hi)), fun y hy => ?_, fun i hi => ?_, fun i z hi hz hzk => ?_⟩
        · rcases List.mem_cons.1 hy with rfl | hy
          · exact I.up _ (hset.2 (.inr rfl))
          · exact I.has y (by simp [hy])
        · rcases I.fr i hi with h | h
          · rcases hset.1 h with h | h
            · exact .inl h
            · subst h; exact .inr hbase
          · refine .inr (h.sub fun j hj => ?_)
            obtain ⟨y, hy, e⟩ := hj
            simp at hy
            rcases hy with rfl | rfl | hy
            · rw [← e]; exact .b hbase hs hk
            · rw [← e]; exact .a hbase hs hk
            · exact .base ⟨y, by simp [hy], e⟩
        · rcases I.cl i z hi hz hzk with h | h
          · rcases hset.1 h with h | h
            · exact .inl h
            · subst h
              rw [hs] at hz
              injection hz with hz
              subst hz
              exact .inr ⟨I.has _ (by simp), I.has _ (by simp)⟩
          · exact .inr h
      · rw [if_neg hk]
        have I := comeF_ok l hl m r (N.set x.toNat true) (by simp [hN]) hr (by omega)
        refine ⟨I.len, fun i hi => I.up i (hset.2 (.inl hi)), fun y hy => ?_, fun i hi => ?_, fun i z hi hz hzk => ?_⟩
        · rcases List.mem_cons.1 hy with rfl | hy
          · exact I.up _ (hset.2 (.inr rfl))
          · exact I.has y (by simp [hy])
        · rcases I.fr i hi with h | h
          · rcases hset.1 h with h | h
            · exact .inl h
            · subst h; exact .inr (.base ⟨x, by simp, rfl⟩)
          · exact .inr (h.mono fun j ⟨y, hy, e⟩ => ⟨y, by simp [hy], e⟩)
        · rcases I.cl i z hi hz hzk with h | h
          · rcases hset.1 h with h | h
            · exact .inl h
            · subst h
              rw [hs] at hz
              injection hz with hz
              subst hz
              exact absurd hzk hk
          · exact .inr h
/-- These are the states that some come to. -/
def IsSt (l : List Ns) (S : Nat → Prop) (N : List Bool) : Prop := N.length = l.length ∧ ∀ i, On N i ↔ Rch l S i
theorem IsSt.congr {l : List Ns} {S T : Nat → Prop} {N : List Bool} (h : IsSt l S N) (hi : ∀ i, S i ↔ T i) : IsSt l T N :=
  ⟨h.1, fun i => (h.2 i).trans ⟨Rch.mono fun i => (hi i).1, Rch.mono fun i => (hi i).2⟩⟩
theorem IsSt.uniq {l : List Ns} {S : Nat → Prop} {N N' : List Bool} (h : IsSt l S N) (h' : IsSt l S N') : N = N' := by
  apply List.ext_getElem (by rw [h.1, h'.1])
  intro i h1 h2
  have := (h.2 i).trans (h'.2 i).symm
  unfold On at this
  rw [List.getElem?_eq_getElem h1, List.getElem?_eq_getElem h2] at this
  simp at this
  revert this
  cases N[i] <;> cases N'[i] <;> simp
theorem IsSt.offs (l : List Ns) : IsSt l (fun _ => False) (offs l.length) := by
  refine ⟨by simp [Fk.offs], fun i => ⟨fun h => ?_, fun h => ?_⟩⟩
  · unfold On Fk.offs at h
    rw [List.getElem?_replicate] at h
    split at h <;> simp at h
  · exfalso
    induction h with
    | base h => exact h
    | a _ _ _ ih => exact ih
    | b _ _ _ ih => exact ih
theorem ofc_le (N : List Bool) : ofc N ≤ N.length := List.count_le_length
theorem come_is {l : List Ns} (hl : OkL l) {S : Nat → Prop} {N : List Bool} (h : IsSt l S N) {x : Int} (h0 : 0 ≤ x) (hx : x < l.length) : IsSt l (fun i => S i ∨ i = x.toNat) (come l x N) := by
  have I := comeF_ok l hl (2 * l.length + 1) [x] N h.1 (by simp; omega) (by have := ofc_le N; have := h.1; simp; omega)
  refine ⟨I.len, fun i => ⟨fun hi => ?_, fun hi => ?_⟩⟩
  · rcases I.fr i hi with h1 | h1
    · exact ((h.2 i).1 h1).mono fun _ => .inl
    · refine h1.mono fun j hj => .inr ?_
      obtain ⟨y, hy, e⟩ := hj
      simp at hy
      rw [← e, hy]
  · induction hi with
    | base hs =>
      rcases hs with hs | rfl
      · exact I.up _ ((h.2 _).2 (.base hs))
      · exact I.has x (by simp)
    | a _ h1 h2 ih =>
      rcases I.cl _ _ ih h1 h2 with h3 | h3
      · exact I.up _ ((h.2 _).2 (.a ((h.2 _).1 h3) h1 h2))
      · exact h3.1
    | b _ h1 h2 ih =>
      rcases I.cl _ _ ih h1 h2 with h3 | h3
      · exact I.up _ ((h.2 _).2 (.b ((h.2 _).1 h3) h1 h2))
      · exact h3.2
theorem stepF_is {l : List Ns} (hl : OkL l) (b : Nat) : ∀ (now : List Bool) (xs : List Ns) (S : Nat → Prop) (N : List Bool), (∀ x ∈ xs, 0 ≤ x.a ∧ x.a < l.length) → IsSt l S N →
    IsSt l (fun i => S i ∨ ∃ j x, On now j ∧ xs[j]? = some x ∧ x.k = 1 ∧ inQ x.q b = true ∧ i = x.a.toNat) (stepF l b now xs N)
  | [], xs, S, N, hx, h => by
    have : stepF l b [] xs N = N := by cases xs <;> rfl
    rw [this]
    exact h.congr fun i => ⟨.inl, fun h => by rcases h with h | ⟨j, x, h, _⟩; exact h; simp [On] at h⟩
  | h :: hs, [], S, N, hx, hN => by
    have : stepF l b (h :: hs) [] N = N := rfl
    rw [this]
    exact hN.congr fun i => ⟨.inl, fun h => by rcases h with h | ⟨j, x, _, h, _⟩; exact h; simp at h⟩
  | h :: hs, y :: ys, S, N, hx, hN => by
    show IsSt l _ (stepF l b hs ys _)
    have hy := hx y (by simp)
    have hys : ∀ x ∈ ys, 0 ≤ x.a ∧ x.a < l.length := fun x hm => hx x (by simp [hm])
    split
    · rename_i c
      refine (stepF_is hl b hs ys _ _ hys (come_is hl hN hy.1 hy.2)).congr fun i => ⟨?_, ?_⟩
      · rintro ((h1 | h1) | ⟨j, x, h1, h2⟩)
        · exact .inl h1
        · exact .inr ⟨0, y, by simp [On, c.1], by simp, c.2.1, c.2.2, h1⟩
        · exact .inr ⟨j + 1, x, by simpa [On] using h1, by simpa using h2⟩
      · rintro (h1 | ⟨j, x, h1, h2, h3⟩)
        · exact .inl (.inl h1)
        · cases j with
          | zero => simp at h2; subst h2; exact .inl (.inr h3.2.2)
          | succ j => exact .inr ⟨j, x, by simpa [On] using h1, by simpa using h2, h3⟩
    · rename_i c
      refine (stepF_is hl b hs ys _ _ hys hN).congr fun i => ⟨?_, ?_⟩
      · rintro (h1 | ⟨j, x, h1, h2⟩)
        · exact .inl h1
        · exact .inr ⟨j + 1, x, by simpa [On] using h1, by simpa using h2⟩
      · rintro (h1 | ⟨j, x, h1, h2, h3⟩)
        · exact .inl h1
        · cases j with
          | zero =>
            simp at h2; subst h2
            exact absurd ⟨by simpa [On] using h1, h3.1, h3.2.1⟩ c
          | succ j => exact .inr ⟨j, x, by simpa [On] using h1, by simpa using h2, h3⟩
theorem come_len {l : List Ns} (hl : OkL l) {N : List Bool} (h : N.length = l.length) {x : Int} (h0 : 0 ≤ x) (hx : x < l.length) : (come l x N).length = l.length :=
  (comeF_ok l hl (2 * l.length + 1) [x] N h (by simp; omega) (by have := ofc_le N; simp; omega)).len
theorem runF_len (l : List Ns) : ∀ (s : List Nat) (now : List Bool), (runF l s now).length = s.length
  | [], _ => rfl
  | b :: bs, now => by simp [runF, runF_len l bs]
end Fk

/- First machines: rows of bools, a stand, and how it comes to a state (stand.come). -/
set_option linter.unusedVariables false
set_option linter.unusedSimpArgs false
set_option maxRecDepth 100000
set_option maxHeartbeats 1000000
namespace Fk
open Go Go.Proofs Go.RowKit
def bE (b : Bool) : List Value := [.bool b]
theorem encbE : Enc 1 bE := ⟨fun _ => rfl, by intro x v hv; simp [bE] at hv; subst hv; rfl⟩
theorem rowT222 : RowT Try.prog 222 4 1 1 := RowT.of (by kernel_rfl) (by kernel_rfl) (by kernel_rfl) (by omega)
theorem size3 (w : World) : ∃ m, (Go.sizeOf 3).run Try.prog w = .ok m w := by
  have h : (Try.prog.info? 3).isSome = true := by kernel_rfl
  obtain ⟨i, hi⟩ := Option.isSome_iff_exists.1 h
  exact ⟨i.size, by simp [Go.sizeOf, typeInfo, hi]⟩
/-- The last one is taken. -/
theorem OwnL.pop {α : Type} {w : World} {base : Nat} {e : TypeId} {size : Nat} {enc : α → List Value} (he : Enc size enc) {a : Option Addr} {c : Nat} {l : List α} {x : α} (h : OwnL w base e size enc a c (l ++ [x])) : OwnL w base e size enc a c l := by
  unfold OwnL at h ⊢
  obtain ⟨g, hg⟩ : ∃ g, a = some ⟨g, 0, none⟩ := by
    rcases h.2 with ⟨_, hn⟩ | ⟨g, cap, cur, hv, _⟩
    · simp at hn
    · simp only [Value.slice.injEq] at hv
      exact ⟨g, hv.1⟩
  subst hg
  rw [List.flatMap_append, List.length_append] at h
  exact ownsRow_pop (he.lenL l) h
theorem mem_blk {a : Option Addr} {d : Nat} (h : d ∈ (a.map (·.block)).toList) : ∃ A, a = some A ∧ A.block = d := by
  cases a with
  | none => simp at h
  | some A => simp at h; exact ⟨A, rfl, h.symm⟩
/-- A stand in memory: the machine, where it stands, and where it is to come to. -/
structure StAt (w0 w : World) (n : Nat) (st : Int) (pa : Option Addr) (pc : Nat) (l : List Ns) (an ax : Option Addr) (cn cx : Nat) (now next : List Bool) : Prop where
  blk : Blk w n 231 [.int .i64 st, .slice pa l.length pc, .slice an now.length cn, .slice ax next.length cx]
  row : RowAt w0 pa 8 nsE l
  md : Md [] w0 w
  nlo : w0.heap.size ≤ n
  onow : OwnL w w0.heap.size 4 1 bE an cn now
  onext : OwnL w w0.heap.size 4 1 bE ax cx next
  d1 : ∀ A, an = some A → A.block ≠ n
  d2 : ∀ A, ax = some A → A.block ≠ n
  d3 : Apt an ax
section
variable {w0 w w' : World} {n : Nat} {st : Int} {pa : Option Addr} {pc : Nat} {l : List Ns} {an ax : Option Addr} {cn cx : Nat} {now next : List Bool}
theorem StAt.md0 (S : StAt w0 w n st pa pc l an ax cn cx now next) (hm : Md [] w w') : StAt w0 w' n st pa pc l an ax cn cx now next :=
  ⟨S.blk.md hm (by simp), S.row, S.md.trans hm, S.nlo, S.onow.md hm, S.onext.md hm, S.d1, S.d2, S.d3⟩
theorem StAt.mdN {D : List Nat} (S : StAt w0 w n st pa pc l an ax cn cx now next) (hm : Md D w w') (hD : ∀ d ∈ D, w.heap.size ≤ d) : StAt w0 w' n st pa pc l an ax cn cx now next := S.md0 (hm.fresh hD)
theorem StAt.put (S : StAt w0 w n st pa pc l an ax cn cx now next) {i : Nat} (hi : i < next.length) (x : Bool) :
    ∃ A, ax = some A ∧ A.block < w.heap.size ∧ w0.heap.size ≤ A.block ∧ (adAt ax (i : Int) 1).block = A.block ∧ Wr w (adAt ax (i : Int) 1) 1 ∧ StAt w0 (setCells w (adAt ax (i : Int) 1) 0 [.bool x]) n st pa pc l an ax cn cx now (next.set i x) ∧
      Md [A.block] w (setCells w (adAt ax (i : Int) 1) 0 [.bool x]) := by
  obtain ⟨A, hA, h1, h2, h3, h4, h5, h6⟩ := S.onext.put encbE (by omega) hi x
  refine ⟨A, hA, h1, h2, h3, h4, ⟨?_, S.row, S.md.old h6 (by simpa using h2), S.nlo, S.onow.mdD h6 fun B hB => by simpa using S.d3 B A hB hA, h5, S.d1, S.d2, S.d3⟩, h6⟩
  have := S.blk.md h6 (by simpa using (S.d2 A hA).symm)
  rw [List.length_set]; exact this
end
theorem comeF_nil (l : List Ns) (m : Nat) (N : List Bool) : comeF l m [] N = N := by cases m <;> rfl
theorem comeF_on {l : List Ns} {m : Nat} {x : Int} {r : List Int} {N : List Bool} (h : On N x.toNat) : comeF l (m + 1) (x :: r) N = comeF l m r N := by
  conv => lhs; unfold comeF
  simp only
  rw [if_pos h]
theorem comeF_off {l : List Ns} {m : Nat} {i : Nat} {r : List Int} {N : List Bool} (h : ¬ On N i) (hi : i < l.length) : comeF l (m + 1) ((i : Int) :: r) N = comeF l m (if l[i].k = 2 then l[i].b :: l[i].a :: r else r) (N.set i true) := by
  conv => lhs; unfold comeF
  simp only
  rw [if_neg (by simpa using h), Int.toNat_natCast, List.getElem?_eq_getElem hi]
theorem f172_ok {w0 w : World} {n : Nat} {st : Int} {pa : Option Addr} {pc : Nat} {l : List Ns} {an ax : Option Addr} {cn cx : Nat} {now next : List Bool} (S : StAt w0 w n st pa pc l an ax cn cx now next) (hl : OkL l) (hlen : l.length ≤ 20000) (hnx : next.length = l.length)
    (x0 : Int) (h0 : 0 ≤ x0) (hx0 : x0 < l.length) :
    Ct Try.prog 172 #[.pointer (some ⟨n, 0, none⟩), .int .i64 x0] w fun v w' => (v = .tuple #[] ∧ StAt w0 w' n st pa pc l an ax cn cx now (come l x0 next)) ∧ Md (ax.map (·.block)).toList w w' := by
  apply f172_in
  refine Nw_i ?_
  have ma : Md [] w (w.alloc (.cells #[.int .i64 x0] 3)) := Md.alloc w _
  have ol := OwnL.lit (P := Try.prog) (base := w.heap.size) enci1 w 3 [x0] #[.int .i64 x0] (Nat.le_refl _) (by simp [maxLen]) rfl
  have hax : ∀ A, ax = some A → A.block < w.heap.size := fun A hA => (S.onext.lt hA).2
  refine LoopP_in (fun mm us vs w' => ∃ (x : Int) (a : Option Addr) (c : Nat) (R : List Int) (N : List Bool), us = [.int .i64 x, .slice a R.length c] ∧ OwnL w' w.heap.size 3 1 i1 a c R ∧ StAt w0 w' n st pa pc l an ax cn cx now N ∧ Md (ax.map (·.block)).toList w w' ∧
      N.length = l.length ∧ comeF l mm R.reverse N = come l x0 next ∧ 2 * ofc N + R.length ≤ mm ∧ (∀ y ∈ R, 0 ≤ y ∧ y < l.length) ∧ mm ≤ 40001) (2 * l.length + 1)
    ⟨x0, _, _, [x0], next, rfl, ol, S.md0 ma, ma.mono (by simp), hnx, rfl, by have := ofc_le next; simp; omega, by simp; omega, by omega⟩ ?_
  rintro mm us vs w6 ⟨x, a, c, R, N, rfl, ho, S6, hm, hN, hc, hf, hR, hmm⟩
  refine opI_in <| opL_in <| Bd_e rfl <| Bd_in fun b12 hb12 => If_in (fun hb => ?_) fun hb => ?_
  case refine_2 =>
    have hR0 : R = [] := by
      have : ¬ (R.length : Int) > 0 := by rw [hb12] at hb; exact of_decide_eq_false hb
      exact List.eq_nil_of_length_eq_zero (by omega)
    subst hR0
    rw [List.reverse_nil, comeF_nil] at hc
    rw [← hc]
    exact ⟨⟨rfl, S6⟩, hm⟩
  have hRp : 0 < R.length := by have : (R.length : Int) > 0 := by rw [hb12] at hb; exact of_decide_eq_true hb
                                omega
  rcases List.eq_nil_or_concat R with rfl | ⟨R', y, rfl⟩
  · simp at hRp
  rw [List.concat_eq_append] at *
  have hl1 : (R' ++ [y]).length = R'.length + 1 := by simp
  have hix := (ho.row enci1).ix (i := R'.length) (by omega)
  rw [hl1] at hix ⊢
  have hcap := ho.cap
  refine Bd_e rfl <| Bd_e (y := ((R'.length : Nat) : Int)) (by rw [IntKind.wrap_i64]; omega) ⟨hix, (ho.row enci1).ld1 (i := R'.length) (by omega) (v := .int .i64 y) (by simp [i1]) <| opI_in <| Bd_e rfl <| Bd_e (y := ((R'.length : Nat) : Int)) (by rw [IntKind.wrap_i64]; omega) ?_⟩
  refine RunW_in0 (slice_front (e := 3) (by kernel_rfl) size3 _ _ _ _ _ (by omega)) <| opL_in <| NN_in ?_
  have hy := hR y (by simp)
  obtain ⟨i, rfl⟩ := Int.eq_ofNat_of_zero_le hy.1
  have hil : i < l.length := by omega
  have hiN : i < N.length := by omega
  refine S6.blk.ld' rfl <| opL_in ⟨(S6.onext.row encbE).ix hiN, (S6.onext.row encbE).ld1 hiN rfl <| opB_in ?_⟩
  have hop := ho.pop enci1
  have hRr : ∀ z ∈ R', 0 ≤ z ∧ z < l.length := fun z hz => hR z (by simp [hz])
  rw [List.reverse_append, List.reverse_singleton, List.singleton_append] at hc
  obtain ⟨m, rfl⟩ : ∃ m, mm = m + 1 := ⟨mm - 1, by omega⟩
  refine If_in (fun hon => ?_) fun hoff => NN_in ?_
  · have hOn : On N i := by unfold On; rw [List.getElem?_eq_getElem hiN, hon]
    rw [comeF_on (by simpa using hOn)] at hc
    exact ⟨m, by omega, _, a, c, R', N, rfl, hop, S6, hm, hN, hc, by omega, hRr, by omega⟩
  have hOff : ¬ On N i := by unfold On; rw [List.getElem?_eq_getElem hiN, hoff]; simp
  rw [comeF_off hOff hil] at hc
  have hcnt := ofc_set hiN hOff
  refine S6.blk.ld' rfl <| opL_in ?_
  obtain ⟨A, hA, p1, p2, p3, p4, S7, p6⟩ := S6.put hiN true
  have m7 : Md (ax.map (·.block)).toList w (setCells w6 (adAt ax (i : Int) 1) 0 [.bool true]) := hm.trans (p6.mono (by rw [hA]; simp))
  have hoA : ∀ B, a = some B → B.block ≠ A.block := fun B hB => by have := (ho.lt hB).1; have := hax A hA; omega
  have ho7 : OwnL (setCells w6 (adAt ax (i : Int) 1) 0 [.bool true]) w.heap.size 3 1 i1 a c R' := hop.mdD p6 fun B hB => by simpa using hoA B hB
  have hs6 : w6.heap.size ≤ (setCells w6 (adAt ax (i : Int) 1) 0 [.bool true]).heap.size := p6.size
  generalize setCells w6 (adAt ax (i : Int) 1) 0 [.bool true] = w7 at *
  refine ⟨(S6.onext.row encbE).ix hiN, by simp, p4, NN_in ?_⟩
  rw [add_add]
  refine S7.blk.ld' rfl <| opL_in ⟨(S7.row.md S7.md).ix hil, (S7.row.md S7.md).ld8 hil ?_⟩
  intro n57 hn57
  refine Bd_in fun b58 hb58 => If_in (fun hk w59 h59 hL59 => ?_) fun hk w67 h67 hL67 => ?_
  · have hk2 : l[i].k = 2 := by rw [hb58] at hk; simpa using hk
    rw [if_pos hk2] at hc
    have m59 : Md [] w7 w59 := h59.fresh (by simp; exact hn57)
    refine Nw_i ?_
    have mb : Md [] w59 (w59.alloc (.cells #[.int .i64 l[i].a, .int .i64 l[i].b] 3)) := Md.alloc w59 _
    have ol2 := OwnL.lit (P := Try.prog) (base := w59.heap.size) enci1 w59 3 [l[i].a, l[i].b] #[.int .i64 l[i].a, .int .i64 l[i].b] (Nat.le_refl _) (by simp [maxLen]) rfl
    have m8 := m59.trans mb
    have ho8 := ho7.md m8
    have S8 := S7.md0 m8
    have h57 := hL59 n57 (by simp)
    have sz := mb.size
    have hlb := hl _ (List.getElem_mem hil)
    refine app_own rowT52 enci1 ho8 ol2 (by have := ho8.lt (A := a.getD ⟨0, 0, none⟩); have := m8.size; have := hm.size; omega) (fun b hb => by simp at hb; subst hb; omega) (fun b hb B hB => by simp at hb; subst hb; have := (ho7.lt hB).2; omega) (by simp [maxLen]; omega) (by simp; omega) fun a' c' w63 o63 m63 hA' => opL_in ?_
    have aD : ∀ d ∈ (a.map (·.block)).toList, w.heap.size ≤ d ∧ d < w7.heap.size := fun d hd => by
      obtain ⟨B, hB, rfl⟩ := mem_blk hd
      exact ho7.lt hB
    have S9 : StAt w0 w63 n st pa pc l an ax cn cx now (N.set i true) := by
      have s0 := S.md.size
      refine ⟨S8.blk.md m63 (fun hd => ?_), S8.row, S8.md.old m63 (fun d hd => by have := (aD d hd).1; omega), S8.nlo, S8.onow.mdD m63 (fun B hB hd => ?_), S8.onext.mdD m63 (fun B hB hd => ?_), S8.d1, S8.d2, S8.d3⟩
      · have := (aD _ hd).1; have := S.blk.lt; omega
      · have := (aD _ hd).1; have := (S.onow.lt hB).2; omega
      · have := (aD _ hd).1; have := hax B hB; omega
    refine ⟨m, by omega, _, a', c', R' ++ [l[i].a, l[i].b], N.set i true, rfl, o63, S9, ?_, by simp [hN], by simpa using hc, by simp; omega, fun z hz => ?_, by omega⟩
    · have h1 : Md (ax.map (·.block)).toList w (w59.alloc (.cells #[.int .i64 l[i].a, .int .i64 l[i].b] 3)) := m7.trans (m8.mono (by simp))
      exact h1.old' m63 fun d hd => (aD d hd).1
    · rcases List.mem_append.1 hz with h | h
      · exact hRr z h
      · simp at h
        rcases h with rfl | rfl
        · exact ⟨hlb.1, hlb.2.1⟩
        · exact ⟨hlb.2.2.1, hlb.2.2.2⟩
  · have hk2 : ¬ l[i].k = 2 := by rw [hb58] at hk; simpa using hk
    rw [if_neg hk2] at hc
    have m67 : Md [] w7 w67 := h67.fresh (by simp; exact hn57)
    exact ⟨m, by omega, _, a, c, R', N.set i true, rfl, ho7.md m67, S7.md0 m67, m7.trans (m67.mono (by simp)), by simp [hN], hc, by omega, hRr, by omega⟩
end Fk

/- First machines: what stands, and its tag (stand.stands, and the document's Tag). -/
set_option linter.unusedVariables false
set_option linter.unusedSimpArgs false
set_option maxRecDepth 100000
set_option maxHeartbeats 1000000
namespace Fk
open Go Go.Proofs Go.RowKit
theorem setCells_kit (b : Nat) : ∀ (vs : List Value) (o i : Nat) (w : World), w.setCells b (o + i) vs = setCells w ⟨b, o, none⟩ i vs
  | [], o, i, w => rfl
  | v :: vs, o, i, w => by
    have e : (Addr.mk b o none).add i = ⟨b, o + i, none⟩ := Addr.add_lit _ _ _
    simp only [World.setCells, setCells, e]
    exact setCells_kit b vs o (i + 1) _
theorem bE_map (l : List Bool) : l.flatMap bE = l.map Value.bool := by
  induction l with
  | nil => rfl
  | cons x l ih => rw [List.flatMap_cons, ih]; rfl
theorem wrL_whole {xs vs : List Value} (h : xs.length = vs.length) : wrL xs 0 vs = vs := by unfold wrL; simp [h]
/-- A row is made all false. -/
theorem own_clear {w : World} {base c : Nat} {a : Option Addr} {l : List Bool} (h : OwnL w base 4 1 bE a c l) (hl : 0 < l.length) :
    ∃ w', (Builtin.clear_ #[222] 0 #[.slice a l.length c]).run Try.prog w = .ok (.tuple #[]) w' ∧ OwnL w' base 4 1 bE a c (offs l.length) ∧ Md (a.map (·.block)).toList w w' := by
  have hlen := encbE.lenL l
  have hr : ((offs l.length).flatMap bE).length = l.length := by rw [encbE.lenL]; simp [offs]
  obtain ⟨A, hA, h1, h2, h3, h4, h5⟩ := own_put h 0 ((offs l.length).flatMap bE) (by rw [hr, hlen]; omega) (by rw [hr]; exact hl)
  rw [wrL_whole (by rw [hr, hlen]; omega)] at h4
  obtain ⟨g, hg⟩ : ∃ g, a = some ⟨g, 0, none⟩ := by
    rcases h.2 with ⟨_, hn⟩ | ⟨g, cap, cur, hv, _⟩
    · omega
    · simp only [Value.slice.injEq] at hv
      exact ⟨g, hv.1⟩
  have hAg : A = ⟨g, 0, none⟩ := by rw [hA] at hg; injection hg
  subst hAg; subst hA
  have ea : (Addr.mk g 0 none).add 0 = ⟨g, 0, none⟩ := Addr.add_lit _ _ _
  rw [ea] at h3 h4 h5
  have e2 := setCells_kit g ((offs l.length).flatMap bE) 0 0 w
  rw [Nat.zero_add] at e2
  have hb : (offs l.length).flatMap bE = List.replicate l.length (.bool false) := by rw [bE_map]; simp [offs]
  have h4i : (Try.prog.info? 4).isSome = true := by kernel_rfl
  obtain ⟨i4, hi4⟩ := Option.isSome_iff_exists.1 h4i
  have hz : (Try.prog.info? 4).bind (·.zero) = some (.bool false) := by kernel_rfl
  rw [hi4] at hz
  have hz' : i4.zero = some (.bool false) := hz
  have hw : ∀ j, j < l.length → (w.cell? ⟨g, 0 + j, none⟩).isSome = true ∧ w.frozen? ⟨g, 0 + j, none⟩ = false := fun j hj => by
    have := h3 j (by rw [hr]; exact hj)
    rw [Addr.add_lit] at this
    obtain ⟨⟨u, hu⟩, hf⟩ := this
    exact ⟨by rw [hu]; rfl, hf⟩
  have hrun := Go.Lib.run_clear_slice (P := Try.prog) w 222 4 0 (.bool false) (by kernel_rfl) (fun w => by simp [zeroValue, typeInfo, hi4, hz']) rfl rfl g 0 l.length c hl
    (fun j hj => (hw j hj).1) (fun j hj => (hw j hj).2)
  refine ⟨_, hrun, ?_, ?_⟩
  · rw [← hb, e2]
    unfold OwnL
    rw [show (offs l.length).length = l.length by simp [offs]]
    exact h4
  · rw [← hb, e2]
    simpa using h5
/-- A whole row is copied into another one. -/
theorem own_copyB {w : World} {base c cb : Nat} {a b : Option Addr} {l x : List Bool} (h : OwnL w base 4 1 bE a c l) (hl : 0 < l.length) (hx : x.length = l.length) (hr : RowAt w b 1 bE x) :
    ∃ w', (Builtin.copy_ #[222, 222] 3 #[.slice a l.length c, .slice b x.length cb]).run Try.prog w = .ok (.int .i64 l.length) w' ∧ OwnL w' base 4 1 bE a c x ∧ Md (a.map (·.block)).toList w w' := by
  obtain ⟨B, hB, _⟩ := hr 0 (x[0]'(by omega)) (List.getElem?_eq_getElem (by omega))
  subst hB
  obtain ⟨hxl, hh⟩ := h
  have hlx := encbE.lenL x
  have hll := encbE.lenL l
  rcases hh with ⟨hv', hn'⟩ | ⟨g, cap, cur, hv', hb, hg, hnc, hcm, hcs, htk⟩
  · omega
  · simp only [Value.slice.injEq] at hv'
    obtain ⟨rfl, _, rfl⟩ := hv'
    have hcl : cur.toList.length = cur.size := Array.length_toList
    have hle : l.length * 1 ≤ cur.toList.length := by omega
    have hs4 : (Try.prog.info? 4).map (·.size) = some 1 := by kernel_rfl
    have hrun := run_copy_row (P := Try.prog) w 222 222 3 4 g 0 l.length c B x.length cb cur 4 (x.flatMap bE) (by kernel_rfl) hs4 hg (by rw [hlx, hx]; simp) (by
      intro j v hv
      have hj : j < x.length := by have := (List.getElem?_eq_some_iff.1 hv).1; omega
      obtain ⟨B', hB', hcl⟩ := hr j x[j] (List.getElem?_eq_getElem hj)
      cases hB'
      have := encbE.at x j 0 x[j] (List.getElem?_eq_getElem hj) (by omega)
      rw [Nat.mul_one, Nat.add_zero] at this
      rw [this] at hv
      have := hcl 0 v hv
      rw [addr_add0, Nat.mul_one] at this
      exact this) (by rw [hlx]; omega) (fun v hv => encbE.oneL x v hv)
    rw [hlx, Nat.mul_one, hx] at hrun
    rw [hx]
    refine ⟨_, hrun, ?_, Md_setRow (w := w) (n := g) _⟩
    unfold OwnL
    rw [hx]
    refine ⟨by rw [hlx, hx], .inr ⟨g, c, (wrL cur.toList 0 (x.flatMap bE)).toArray, rfl, hb, ?_, hnc, hcm, ?_, ?_⟩⟩
    · have := setRow_heap w g cur (cur.toList.take 0 ++ x.flatMap bE ++ cur.toList.drop (0 + l.length)).toArray 4 (0, 0) hg
      rw [this]
      unfold wrL
      rw [hlx, hx, Nat.mul_one, List.append_assoc]
    · simp only [List.size_toArray]
      rw [wrL_len (by omega)]; omega
    · simp only
      rw [wrL_take (by omega) hle, htk, wrL_whole (by omega)]
theorem tagF_step {N : List Bool} {l : List Ns} {i : Nat} (h1 : i < N.length) (h2 : i < l.length) (t : Int) :
    tagF (N.drop i) (l.drop i) t = tagF (N.drop (i + 1)) (l.drop (i + 1)) (if N[i] = true ∧ l[i].k = 0 ∧ (t < 0 ∨ l[i].t < t) then l[i].t else t) := by
  rw [List.drop_eq_getElem_cons h1, List.drop_eq_getElem_cons h2]
  rfl
theorem f173_ok {w0 w : World} {n : Nat} {st : Int} {pa : Option Addr} {pc : Nat} {l : List Ns} {an ax : Option Addr} {cn cx : Nat} {now next : List Bool} (S : StAt w0 w n st pa pc l an ax cn cx now next) (hlen : l.length ≤ 20000) (h1 : 1 ≤ l.length) (hnw : now.length = l.length) (hnx : next.length = l.length) :
    Ct Try.prog 173 #[.pointer (some ⟨n, 0, none⟩)] w fun v w' => (v = .int .i64 (tagF next l (-1)) ∧ StAt w0 w' n st pa pc l an ax cn cx next (offs l.length)) ∧ Md ((an.map (·.block)).toList ++ (ax.map (·.block)).toList) w w' := by
  apply f173_in
  have anD : n ∉ (an.map (·.block)).toList := fun hd => by obtain ⟨A, hA, e⟩ := mem_blk hd; exact S.d1 A hA e
  have axD : n ∉ (ax.map (·.block)).toList := fun hd => by obtain ⟨A, hA, e⟩ := mem_blk hd; exact S.d2 A hA e
  refine ⟨fun w' => Md (an.map (·.block)).toList w.drew w', Md.refl _ _, NN_in ?_⟩
  have hb : ∀ {w' : World}, Md (an.map (·.block)).toList w.drew w' → Blk w' n 231 [.int .i64 st, .slice pa l.length pc, .slice an now.length cn, .slice ax next.length cx] := fun hm => (S.blk.md (Md_drew w) (by simp)).md hm anD
  show ∃ v3, _ ∧ _
  refine ⟨_, fun w' hm => (hb hm).ld' rfl rfl, opL_in <| NN_in ?_⟩
  show ∃ v3, _ ∧ _
  refine ⟨_, fun w' hm => (hb hm).ld' rfl rfl, opL_in ?_⟩
  have Sd := S.md0 (Md_drew w)
  obtain ⟨w19, r1, o1, m1⟩ := own_copyB (cb := cx) Sd.onow (by omega) (by omega) (Sd.onext.row encbE)
  refine RunW_in r1 (fun b hb => by simp at hb) <| opI_in ⟨m1, NN_in ?_⟩
  have x1 : OwnL w19 w0.heap.size 4 1 bE ax cx next := Sd.onext.mdD m1 fun A hA hd => by obtain ⟨B, hB, e⟩ := mem_blk hd; exact S.d3 B A hB hA e
  have b1' := hb m1
  refine b1'.ld' rfl <| opL_in ?_
  obtain ⟨w27, r2, o2, m2⟩ := own_clear x1 (by omega)
  rw [hnx] at o2
  have n2 : OwnL w27 w0.heap.size 4 1 bE an cn next := o1.mdD m2 fun A hA hd => by obtain ⟨B, hB, e⟩ := mem_blk hd; exact S.d3 A B hA hB e.symm
  have b2' := b1'.md m2 axD
  have bb : Blk w27 n 231 [.int .i64 st, .slice pa l.length pc, .slice an next.length cn, .slice ax (offs l.length).length cx] := by
    rw [hnx]
    have : (offs l.length).length = l.length := by simp [offs]
    rw [this]
    rw [hnw, hnx] at b2'
    exact b2'
  have lo1 : ∀ d ∈ (an.map (·.block)).toList, w0.heap.size ≤ d := fun d hd => by obtain ⟨A, hA, rfl⟩ := mem_blk hd; exact (S.onow.lt hA).1
  have lo2 : ∀ d ∈ (ax.map (·.block)).toList, w0.heap.size ≤ d := fun d hd => by obtain ⟨A, hA, rfl⟩ := mem_blk hd; exact (S.onext.lt hA).1
  have S2 : StAt w0 w27 n st pa pc l an ax cn cx next (offs l.length) := ⟨bb, S.row, (Sd.md.old m1 lo1).old m2 lo2, S.nlo, n2, o2, S.d1, S.d2, S.d3⟩
  have mm : Md ((an.map (·.block)).toList ++ (ax.map (·.block)).toList) w w27 := (((Md_drew w).mono (by simp)).trans (m1.mono (fun x hx => by simp at hx ⊢; exact .inl hx))).trans (m2.mono (fun x hx => by simp at hx ⊢; exact .inr hx))
  refine RunW_in r2 (fun b hb => by simp at hb) <| opTu_in <| SzIs_in rfl <| NN_in <| bb.ld' rfl <| opL_in <| Bd_e rfl ?_
  refine LoopP_in (fun mm us vs w' => ∃ (i : Nat) (t : Int), us = [.int .i64 t, .int .i64 i] ∧ mm = l.length - i ∧ i ≤ l.length ∧ Md [] w27 w' ∧ tagF (next.drop i) (l.drop i) t = tagF next l (-1)) l.length
    ⟨0, -1, rfl, rfl, by omega, Md.refl _ _, rfl⟩ ?_
  rintro m' us vs w38 ⟨i, t, rfl, hmm, hi, h38, ht⟩
  have S3 := S2.md0 h38
  refine opI_in <| opI_in <| Bd_in fun b41 hb41 => If_in (fun hb => ?_) fun hb => ?_
  case refine_2 =>
    have : ¬ (i : Int) < (next.length : Int) := by rw [hb41] at hb; exact of_decide_eq_false hb
    have hil : i = l.length := by omega
    subst hil
    rw [List.drop_of_length_le (by omega), List.drop_of_length_le (by omega)] at ht
    rw [← ht]
    exact ⟨⟨rfl, S3⟩, mm.trans (h38.mono (by simp))⟩
  have hin : i < next.length := by rw [hb41] at hb; have : (i : Int) < (next.length : Int) := of_decide_eq_true hb
                                   omega
  have hil : i < l.length := by omega
  rw [tagF_step hin hil] at ht
  have hrow := S3.row.md S3.md
  refine Jn_in (fun us vs w' => ∃ (b : Bool), us = [.int .i64 (if next[i] = true ∧ l[i].k = 0 ∧ (t < 0 ∨ l[i].t < t) then l[i].t else t), .int .i64 i, .bool b] ∧ Md [] w27 w') ?_ ?_
  · rintro us vs w44 ⟨b, rfl, h44⟩
    exact opI_in <| opI_in <| opB_in <| Bd_e (inc_i64 (by omega)) ⟨l.length - (i + 1), by omega, i + 1, _, rfl, rfl, by omega, h44, ht⟩
  refine ⟨(S3.onow.row encbE).ix hin, (S3.onow.row encbE).ld1 hin rfl <| opB_in <| NN_in ?_⟩
  rw [add_add]
  refine S3.blk.ld' rfl <| opL_in ⟨hrow.ix hil, hrow.ld8 hil ?_⟩
  intro n73 hn73
  refine Bd_in fun b74 hb74 => Bd_in fun b75 hb75 => Bd_in fun b76 hb76 => Bd_in fun b77 hb77 => Bd_in fun b78 hb78 => Bd_in fun b79 hb79 => ?_
  have hiff : b79 = true ↔ (next[i] = true ∧ l[i].k = 0 ∧ (t < 0 ∨ l[i].t < t)) := by
    rw [hb79, hb78, hb75, hb74, hb76, hb77]
    cases next[i] <;> simp
  refine If_in (fun hc w80 h80 hL80 => ?_) fun hc w80 h80 hL80 => ?_
  · rw [if_pos (hiff.1 hc)]
    exact ⟨_, rfl, h38.trans (h80.fresh (by simp; exact hn73))⟩
  · rw [if_neg (fun h => by have := hiff.2 h; rw [hc] at this; cases this)]
    exact ⟨_, rfl, h38.trans (h80.fresh (by simp; exact hn73))⟩
theorem f184_ok {w : World} (st : Int) (pa xa : Option Addr) (pc xc : Nat) (l : List Ns) (N : List Bool) (h1 : RowAt w pa 8 nsE l) (h2 : RowAt w xa 1 bE N) (hN : N.length = l.length) (hlen : l.length ≤ 20000) (ht0 : ∀ x ∈ l, x.k = 0 → 0 ≤ x.t) :
    Ct Try.prog 184 #[.agg #[.int .i64 st, .slice pa l.length pc], .slice xa N.length xc] w fun v w' => v = .int .i64 (tagF N l (-1)) ∧ Md [] w w' := by
  apply f184_in
  intro n1 hn1 w2 h2' hL2
  refine LoopP_in (fun mm us vs w' => ∃ (i : Nat) (t : Int), us = [.int .i64 t, .int .i64 i] ∧ mm = l.length - i ∧ i ≤ l.length ∧ Md [] w w' ∧ tagF (N.drop i) (l.drop i) t = tagF N l (-1) ∧ -1 ≤ t ∧ n1 < w'.heap.size) l.length
    ⟨0, -1, rfl, rfl, by omega, h2', rfl, by omega, hL2 n1 (by simp)⟩ ?_
  rintro m' us vs w6 ⟨i, t, rfl, hmm, hi, h6, ht, htl, hn⟩
  refine opI_in <| opI_in <| Bd_e rfl <| Bd_in fun b41 hb41 => If_in (fun hb => ?_) fun hb => ?_
  case refine_2 =>
    have : ¬ (i : Int) < (N.length : Int) := by rw [hb41] at hb; exact of_decide_eq_false hb
    have hil : i = l.length := by omega
    subst hil
    rw [List.drop_of_length_le (by omega), List.drop_of_length_le (by omega)] at ht
    rw [← ht]
    exact ⟨rfl, h6⟩
  have hin : i < N.length := by rw [hb41] at hb; have : (i : Int) < (N.length : Int) := of_decide_eq_true hb
                                omega
  have hil : i < l.length := by omega
  rw [tagF_step hin hil] at ht
  have r1 := h1.md h6
  refine Jn_in (fun us vs w' => us = [.int .i64 (if N[i] = true ∧ l[i].k = 0 ∧ (t < 0 ∨ l[i].t < t) then l[i].t else t)] ∧ Md [] w w' ∧ n1 < w'.heap.size) ?_ ?_
  · rintro us vs w44 ⟨rfl, h44, hn44⟩
    refine opI_in <| Bd_e (inc_i64 (by omega)) ⟨l.length - (i + 1), by omega, i + 1, _, rfl, rfl, by omega, h44, ht, ?_, hn44⟩
    split
    · rename_i hc
      have := ht0 _ (List.getElem_mem hil) hc.2.1
      omega
    · exact htl
  refine ⟨r1.ix hil, r1.ld8 hil ?_⟩
  intro n33 hn33
  refine ⟨(h2.md h6).ix hin, fun w34 h34 hL34 => ?_⟩
  have m34 : Md [] w w34 := h6.trans (h34.fresh (by simp; exact hn33))
  refine ((h2.md m34).ld1 hin rfl) <| opB_in <| Bd_in fun b74 hb74 => Bd_in fun b75 hb75 => Bd_in fun b76 hb76 => Bd_in fun b77 hb77 => Bd_in fun b78 hb78 => Bd_in fun b79 hb79 => ?_
  have hiff : b79 = true ↔ (N[i] = true ∧ l[i].k = 0 ∧ (t < 0 ∨ l[i].t < t)) := by
    rw [hb79, hb78, hb75, hb74, hb76, hb77]
    cases N[i] <;> simp
    have e : t = -1 ↔ t < 0 := by omega
    by_cases c : t < 0
    · simp [c, e]
    · have : ¬ t = -1 := by omega
      simp [c, this]
  refine If_in (fun hc => ?_) fun hc => ?_
  · rw [if_pos (hiff.1 hc)]
    exact ⟨rfl, m34, hL34 n1 (by simp)⟩
  · rw [if_neg (fun h => by have := hiff.2 h; rw [hc] at this; cases this)]
    exact ⟨rfl, m34, hL34 n1 (by simp)⟩
end Fk

/- First machines: the tags behind each byte (Run). -/
set_option linter.unusedVariables false
set_option linter.unusedSimpArgs false
set_option maxRecDepth 100000
set_option maxHeartbeats 2000000
namespace Fk
open Go Go.Proofs Go.RowKit
theorem nsz_bytesOf (l : List Nat) : (bytesOf l).size = l.length := by simp [bytesOf, ByteArray.size]
theorem byteAt_bytesOf {s : List Nat} (hs : ∀ x ∈ s, x < 256) {i : Nat} (hi : i < s.length) : byteAt (bytesOf s) (i : Int) = ((s[i] : Nat) : Int) := by
  unfold byteAt bytesOf
  simp [hi]
  exact_mod_cast Nat.mod_eq_of_lt (hs _ (List.getElem_mem hi))
/-- The bit of a byte is asked. -/
theorem bit_in {q : Q4} {b : Nat} (hb : b < 256) (k a1 a2 a3 : Int) {b69 : Bool} {K : Bool → Prop} (kk : K (inQ q b)) :
    Bd (IntKind.wrap .u8 (Int.tdiv (b : Int) 64)) fun x70 => (b69 = true → 0 ≤ x70 ∧ x70 < ((4 : Nat) : Int)) ∧
      BdO (nthV [.int .u8 k, .int .u64 q.1, .int .u64 q.2.1, .int .u64 q.2.2.1, .int .u64 q.2.2.2, .int .i64 a1, .int .i64 a2, .int .i64 a3] (1 + x70.toNat * 1)) fun v72 => opI .u64 v72 fun x73 => Bd (Int.tmod (b : Int) 64) fun x74 =>
        (b69 = true → 0 ≤ x74) ∧ Bd (Int.fdiv x73 (2 ^ min x74.toNat 64)) fun x76 => Bd (IntKind.wrap .u64 ((BitVec.toNat (BitVec.ofInt 64 x76 &&& BitVec.ofInt 64 1) : Nat) : Int)) fun x77 => Bd (x77 == 1) K := by
  refine Bd_e (y := ((b / 64 : Nat) : Int)) (by rw [IntKind.wrap_u8, Int.tdiv_eq_ediv_of_nonneg (by omega)]; omega) ⟨fun _ => ⟨by omega, by omega⟩, ?_⟩
  refine BdO_in (v := .int .u64 (word q (b / 64))) ?_ ?_
  · rw [Int.toNat_natCast, Nat.mul_one, Nat.add_comm]
    have h := nth_word q (b / 64) (by omega)
    have h4 : b / 64 < 4 := by omega
    generalize b / 64 = j at *
    rcases j with _ | _ | _ | _ | j <;> first | exact h | omega
  refine opI_in ?_
  refine Bd_e (y := ((b % 64 : Nat) : Int)) (by rw [Int.tmod_eq_emod_of_nonneg (by omega)]; omega) ⟨fun _ => by omega, ?_⟩
  refine Bd_in fun x6 hx6 => Bd_in fun x7 hx7 => Bd_in fun b8 hb8 => ?_
  have : b8 = inQ q b := by
    rw [hb8, hx7, u64_and, bit_and_one, hx6, Int.toNat_natCast, Nat.min_eq_left (by omega), Int.fdiv_eq_ediv_of_nonneg _ (Int.pow_nonneg (by decide))]
    simp only [inQ]
    rw [Bool.eq_iff_iff]; simp
  rw [this]
  exact kk
theorem stepF_step {now : List Bool} {xs l : List Ns} {b j : Nat} (h1 : j < now.length) (h2 : j < xs.length) (N : List Bool) :
    stepF l b (now.drop j) (xs.drop j) N = stepF l b (now.drop (j + 1)) (xs.drop (j + 1)) (if now[j] = true ∧ xs[j].k = 1 ∧ inQ xs[j].q b = true then come l xs[j].a N else N) := by
  rw [List.drop_eq_getElem_cons h1, List.drop_eq_getElem_cons h2]
  rfl
def runA (st : Int) (l : List Ns) (s : List Nat) : List Int × Int := if nfRight st l = true then (nfRun st l s, 0) else ([], 2)
theorem made4 (m : Nat) (w : World) (hm : m < 2 ^ 20) : ∃ w', (Instr.makeSlice 222 (.int .i64 (m : Int)) (.int .i64 (m : Int))).run Try.prog w = .ok (.slice (some ⟨w.heap.size, 0, none⟩) m m) w' ∧ OwnL w' w.heap.size 4 1 bE (some ⟨w.heap.size, 0, none⟩) m (offs m) ∧ Md [] w w' := by
  have h4 : (Try.prog.info? 4).isSome = true := by kernel_rfl
  obtain ⟨i4, hi4⟩ := Option.isSome_iff_exists.1 h4
  have hz4 : (Try.prog.info? 4).bind (·.zero) = some (.bool false) := by kernel_rfl
  have hs4 : (Try.prog.info? 4).map (fun i => (i.size, i.bytes)) = some (1, 1) := by kernel_rfl
  rw [hi4] at hz4 hs4
  simp only [Option.bind_some, Option.map_some, Option.some.injEq, Prod.mk.injEq] at hz4 hs4
  obtain ⟨w3, hrun, hown, hgr⟩ := run_makeSlice_full (P := Try.prog) w w.heap.size 222 4 i4 (.bool false) 1 (by kernel_rfl) hi4 hz4 hs4.1 .i64 .i64 m (by omega) (by rw [hs4.2]; omega) (by simp [maxLen]; omega) (Nat.le_refl _)
  refine ⟨w3, hrun, ?_, Md_of_grown hgr⟩
  have hmc : (madeCells (Value.bool false).cells (m * 1)).toList = (offs m).flatMap bE := by
    rw [bE_map, offs, List.map_replicate, Nat.mul_one]
    exact toList_madeCells_one _ m
  unfold OwnL
  rw [← hmc, show (offs m).length = m by simp [offs]]; exact hown
theorem offs_len (n : Nat) : (offs n).length = n := by simp [offs]
theorem mkStand {w w1 w2 : World} (st : Int) {pa : Option Addr} (pc : Nat) {l : List Ns} {g1 g2 : Nat} (h : RowAt w pa 8 nsE l) (m1 : Md [] w w1) (m2 : Md [] w w2)
    (o1 : OwnL w2 w.heap.size 4 1 bE (some ⟨g1, 0, none⟩) l.length (offs l.length)) (o2 : OwnL w2 w.heap.size 4 1 bE (some ⟨g2, 0, none⟩) l.length (offs l.length)) (hne : g1 ≠ g2) :
    StAt w (w2.alloc (.cells #[.int .i64 st, .slice pa l.length pc, .slice (some ⟨g1, 0, none⟩) l.length l.length, .slice (some ⟨g2, 0, none⟩) l.length l.length] 231)) w2.heap.size st pa pc l (some ⟨g1, 0, none⟩) (some ⟨g2, 0, none⟩) l.length l.length (offs l.length) (offs l.length) := by
  have ma : Md [] w2 (w2.alloc (.cells #[.int .i64 st, .slice pa l.length pc, .slice (some ⟨g1, 0, none⟩) l.length l.length, .slice (some ⟨g2, 0, none⟩) l.length l.length] 231)) := Md.alloc w2 _
  have l1 := (o1.lt rfl).2
  have l2 := (o2.lt rfl).2
  refine ⟨?_, h, m2.trans ma, m2.size, o1.md ma, o2.md ma, fun A hA => ?_, fun A hA => ?_, fun A B hA hB => ?_⟩
  · rw [offs_len]; exact Blk.new _ _ _
  · injection hA with hA; subst hA; simp at l1 ⊢; omega
  · injection hA with hA; subst hA; simp at l2 ⊢; omega
  · injection hA with hA; injection hB with hB; subst hA; subst hB; exact hne
theorem f69_ok (st : Int) (l : List Ns) (A : Option Addr) (C : Nat) (s : List Nat) (hs : ∀ x ∈ s, x < 256) (w : World) (hr : RowAt w A 8 nsE l) (hl : l.length < 2 ^ 40) (hsl : s.length < 2 ^ 30) :
    Ct Try.prog 69 #[.agg #[.int .i64 st, .slice A l.length C], .string (bytesOf s)] w fun v w' => (∃ a c, v = .tuple #[.slice a (runA st l s).1.length c, .int .i64 (runA st l s).2] ∧ OwnL w' w.heap.size 3 1 i1 a c (runA st l s).1) ∧ Md [] w w' := by
  apply f69_in
  intro n1 hn1 w2 h2 hL2
  refine (f81_ok st l A C w2 (hr.md h2) (by omega)).call (by simpa using hL2 n1 (by simp)) ?_
  rintro v w4 rfl m4
  have m24 := h2.trans m4
  have ln1 : n1 < w4.heap.size := by have := hL2 n1 (by simp); have := m4.size; omega
  refine opB_in <| Bd_in fun b6 hb6 => If_in (fun hb => ?_) fun hb => ?_
  · have : nfRight st l = false := by rw [hb6] at hb; simpa using hb
    have e : runA st l s = ([], 2) := by unfold runA; rw [this]; rfl
    rw [e]
    exact ⟨⟨none, 0, rfl, OwnL.nil _ _ _ _ _⟩, m24⟩
  have hright : nfRight st l = true := by rw [hb6] at hb; simpa using hb
  have e : runA st l s = (nfRun st l s, 0) := by unfold runA; rw [if_pos hright]
  rw [e]
  obtain ⟨hok, hst0, hst1, hlen, hall⟩ := okL_of_right hright
  have hr4 := hr.md m24
  refine Jn_in (fun us vs w' => ∃ (n g1 g2 : Nat), us = [.pointer (some ⟨n, 0, none⟩)] ∧ StAt w4 w' n st A C l (some ⟨g1, 0, none⟩) (some ⟨g2, 0, none⟩) l.length l.length (offs l.length) (offs l.length)) ?_ ?_
  case refine_2 =>
    refine ⟨fun w' => Md [] w4.drew w', Md.refl _ _, Bd_e rfl <| Bd_e rfl ⟨?_, ?_⟩⟩
    · obtain ⟨w101, r1, o1, m1⟩ := made4 l.length w4.drew (by omega)
      refine RunW_in r1 (fun b hb => by simp at hb; subst hb; exact m1.blk b ln1 (by simp)) <| opL_in ⟨m1, ?_⟩
      obtain ⟨w106, r2, o2, m2⟩ := made4 l.length w101 (by omega)
      have s1 := m1.size
      have s2 := m2.size
      have q1 := (o1.lt rfl).2
      simp at q1
      have s3 : w4.heap.size ≤ w101.heap.size := s1
      refine RunW_in r2 (fun b hb => by simp at hb; subst hb; exact m2.blk b (by omega) (by simp)) <| opL_in ⟨m1.trans m2, Nw_i ⟨(m1.trans m2).trans (Md.alloc _ _), ?_⟩⟩
      exact ⟨_, _, _, rfl, mkStand st C hr4 ((Md_drew w4).trans m1) ((Md_drew w4).trans (m1.trans m2)) ((o1.down (b := w4.heap.size) (Nat.le_refl _)).md m2) (o2.down s3) (by show w4.heap.size ≠ _; have : w4.drew.heap.size = w4.heap.size := rfl; omega)⟩
    · obtain ⟨w101, r1, o1, m1⟩ := made4 l.length w4.drew (by omega)
      refine RunW_in r1 (fun b hb => by simp at hb; subst hb; exact m1.blk b ln1 (by simp)) <| opL_in ⟨m1, ?_⟩
      obtain ⟨w106, r2, o2, m2⟩ := made4 l.length w101 (by omega)
      have s1 := m1.size
      have s2 := m2.size
      have q1 := (o1.lt rfl).2
      simp at q1
      have s3 : w4.heap.size ≤ w101.heap.size := s1
      refine RunW_in r2 (fun b hb => by simp at hb; subst hb; exact m2.blk b (by omega) (by simp)) <| opL_in ⟨m1.trans m2, Nw_i ⟨(m1.trans m2).trans (Md.alloc _ _), ?_⟩⟩
      exact ⟨_, _, _, rfl, mkStand st C hr4 ((Md_drew w4).trans m1) ((Md_drew w4).trans (m1.trans m2)) (o2.down s3) ((o1.down (b := w4.heap.size) (Nat.le_refl _)).md m2) (by show _ ≠ w4.heap.size; have : w4.drew.heap.size = w4.heap.size := rfl; omega)⟩
  rintro us vs w9 ⟨n, g1, g2, rfl, S9⟩
  have L9 := (S9.onow.lt rfl)
  have L9' := (S9.onext.lt rfl)
  simp at L9 L9'
  have d12 : g1 ≠ g2 := by simpa using S9.d3 _ _ rfl rfl
  have hln : ∀ {w' : World}, Md [] w4 w' → ∀ b ∈ [n1], b < w'.heap.size := fun hm b hb => by simp at hb; subst hb; have := hm.size; omega
  refine opP_in ?_
  refine (f172_ok S9 hok hlen (offs_len _) st hst0 hst1).callD (hln S9.md) (fun b hb => by
    rw [List.mem_singleton] at hb; subst hb
    simp; omega) ?_
  rintro v w12 ⟨rfl, S12⟩ m12
  have hcl : (come l st (offs l.length)).length = l.length := come_len hok (offs_len _) hst0 hst1
  refine opTu_in <| SzIs_in rfl <| (f173_ok S12 hlen (by omega) (offs_len _) hcl).callD (hln S12.md) (fun b hb => by simp at hb; subst hb; simp; omega) ?_
  rintro v w15 ⟨rfl, S15⟩ m15
  refine opI_in <| Nw_i <| Bd_e rfl ?_
  rw [nsz_bytesOf]
  have ma : Md [] w15 (w15.alloc (.cells #[.int .i64 (tagF (come l st (offs l.length)) l (-1))] 3)) := Md.alloc w15 _
  have ol := OwnL.lit (P := Try.prog) (base := w15.heap.size) enci1 w15 3 [tagF (come l st (offs l.length)) l (-1)] #[.int .i64 (tagF (come l st (offs l.length)) l (-1))] (Nat.le_refl _) (by simp [maxLen]) rfl
  have sz12 := m12.size
  have sz15 := m15.size
  have sz4 := S9.md.size
  have hn9 := S9.blk.lt
  generalize hB : w15.heap.size = B at *
  have kD : ∀ {D : List Nat} {w' w'' : World} {a : Option Addr} {c : Nat} {x : List Int}, OwnL w' B 3 1 i1 a c x → Md D w' w'' → (∀ d ∈ D, d < B) → OwnL w'' B 3 1 i1 a c x := fun h hm hD => h.mdD hm fun A hA hd => by have := (h.lt hA).1; have := hD _ hd; omega
  refine LoopP_in (fun mm us vs w' => ∃ (i : Nat) (a : Option Addr) (c : Nat) (out : List Int) (now : List Bool), us = [.slice a out.length c, .int .i64 i] ∧ mm = s.length - i ∧ i ≤ s.length ∧ out ++ runF l (s.drop i) now = nfRun st l s ∧ out.length = i + 1 ∧ now.length = l.length ∧
      StAt w4 w' n st A C l (some ⟨g1, 0, none⟩) (some ⟨g2, 0, none⟩) l.length l.length now (offs l.length) ∧ OwnL w' B 3 1 i1 a c out ∧ B ≤ w'.heap.size) s.length
    ⟨0, _, _, [tagF (come l st (offs l.length)) l (-1)], come l st (offs l.length), rfl, rfl, by omega, rfl, rfl, hcl, S15.md0 ma, ol, by have := ma.size; omega⟩ ?_
  rintro mm us vs w23 ⟨i, a, c, out, now, rfl, hmm, hi, ho, hol, hnow, S23, own, hB23⟩
  refine opL_in <| opI_in <| Bd_in fun b28 hb28 => If_in (fun hb => ?_) fun hb => ?_
  case refine_2 =>
    have hil : i = s.length := by
      have : ¬ (i : Int) < (s.length : Int) := by rw [hb28] at hb; exact of_decide_eq_false hb
      omega
    subst hil
    rw [List.drop_of_length_le (by omega)] at ho
    rw [show runF l [] now = [] from rfl, List.append_nil] at ho
    rw [← ho]
    exact ⟨⟨a, c, rfl, own.down (by have := m24.size; omega)⟩, m24.trans S23.md⟩
  have his : i < s.length := by rw [hb28] at hb; have : (i : Int) < (s.length : Int) := of_decide_eq_true hb
                                omega
  refine ⟨⟨by omega, by omega⟩, Bd_e (byteAt_bytesOf hs his) <| NN_in <| S23.blk.ld' rfl <| opL_in <| Bd_e rfl ?_⟩
  have hb256 := hs _ (List.getElem_mem his)
  rw [List.drop_eq_getElem_cons his] at ho
  generalize s[i] = b at ho hb256 ⊢
  refine LoopP_in (fun mm us vs w' => ∃ (j : Nat) (N : List Bool), us = [.int .i64 j] ∧ mm = l.length - j ∧ j ≤ l.length ∧ stepF l b (now.drop j) (l.drop j) N = stepF l b now l (offs l.length) ∧ N.length = l.length ∧
      StAt w4 w' n st A C l (some ⟨g1, 0, none⟩) (some ⟨g2, 0, none⟩) l.length l.length now N ∧ OwnL w' B 3 1 i1 a c out ∧ B ≤ w'.heap.size) l.length
    ⟨0, offs l.length, rfl, rfl, by omega, rfl, offs_len _, S23, own, hB23⟩ ?_
  rintro m' us vs w39 ⟨j, N, rfl, hm', hj, hst, hN, S39, own39, hB39⟩
  refine opI_in <| Bd_in fun b41 hb41 => If_in (fun hb => ?_) fun hb => ?_
  case refine_2 =>
    have hjl : j = l.length := by
      have : ¬ (j : Int) < (now.length : Int) := by rw [hb41] at hb; exact of_decide_eq_false hb
      omega
    rw [List.drop_of_length_le (by omega)] at hst
    rw [show stepF l b [] (l.drop j) N = N by cases l.drop j <;> rfl] at hst
    refine (f173_ok S39 hlen (by omega) hnow hN).callD (hln S39.md) (fun b hb => by simp at hb; subst hb; simp; omega) ?_
    rintro v w86 ⟨rfl, S86⟩ m86
    have own86 := kD own39 m86 (fun d hd => by simp at hd; omega)
    have sz86 := m86.size
    have mb : Md [] w86 (w86.alloc (.cells #[.int .i64 (tagF N l (-1))] 3)) := Md.alloc w86 _
    have ol2 := OwnL.lit (P := Try.prog) (base := w86.heap.size) enci1 w86 3 [tagF N l (-1)] #[.int .i64 (tagF N l (-1))] (Nat.le_refl _) (by simp [maxLen]) rfl
    have szb := mb.size
    refine opI_in <| Nw_i <| app_own rowT52 enci1 (own86.md mb) ol2 (by omega) (hln (S86.md.trans mb)) (fun b hb A hA => by simp at hb; subst hb; have := (own86.lt hA).1; omega) (by simp [maxLen]; omega) (by simp; omega) fun a' c' w91 o91 m91 hA' => opL_in <| Bd_e (inc_i64 (by omega)) ?_
    have S91 : StAt w4 w91 n st A C l (some ⟨g1, 0, none⟩) (some ⟨g2, 0, none⟩) l.length l.length N (offs l.length) := by
      have T := S86.md0 mb
      have lo : ∀ d ∈ (a.map (·.block)).toList, B ≤ d := fun d hd => by obtain ⟨B', hB', rfl⟩ := mem_blk hd; exact (own86.lt hB').1
      refine ⟨T.blk.md m91 (fun hd => by have := lo _ hd; omega), T.row, T.md.old m91 (fun d hd => by have := lo _ hd; omega), T.nlo, T.onow.mdD m91 (fun B' hB' hd => ?_), T.onext.mdD m91 (fun B' hB' hd => ?_), T.d1, T.d2, T.d3⟩
      · have := lo _ hd; injection hB' with hB'; subst hB'; simp at this; omega
      · have := lo _ hd; injection hB' with hB'; subst hB'; simp at this; omega
    refine ⟨s.length - (i + 1), by omega, i + 1, a', c', out ++ [tagF N l (-1)], N, rfl, rfl, by omega, ?_, by simp; omega, hN, S91, o91, by have := m91.size; omega⟩
    rw [← ho, hst, List.append_assoc]
    rfl
  have hjn : j < now.length := by rw [hb41] at hb; have : (j : Int) < (now.length : Int) := of_decide_eq_true hb
                                  omega
  have hjl : j < l.length := by omega
  rw [stepF_step hjn hjl] at hst
  have hrow := S39.row.md S39.md
  refine Jn_in (fun us vs w' => ∃ (x : Int) (y : Bool), us = [.int .i64 x, .bool y] ∧ ∃ N' : List Bool, N' = (if now[j] = true ∧ l[j].k = 1 ∧ inQ l[j].q b = true then come l l[j].a N else N) ∧ N'.length = l.length ∧ StAt w4 w' n st A C l (some ⟨g1, 0, none⟩) (some ⟨g2, 0, none⟩) l.length l.length now N' ∧ OwnL w' B 3 1 i1 a c out ∧ B ≤ w'.heap.size) ?_ ?_
  · rintro us vs w44 ⟨x, y, rfl, N', rfl, hN', S44, own44, hB44⟩
    exact opI_in <| opB_in <| Bd_e (inc_i64 (by omega)) ⟨l.length - (j + 1), by omega, j + 1, _, rfl, rfl, by omega, hst, hN', S44, own44, hB44⟩
  refine ⟨(S39.onow.row encbE).ix hjn, (S39.onow.row encbE).ld1 hjn rfl <| opB_in ⟨hrow.ix hjl, hrow.ld8 hjl ?_⟩⟩
  intro n67 hn67
  refine Bd_in fun b68 hb68 => Bd_in fun b69 hb69 => bit_in (q := l[j].q) hb256 _ _ _ _ ?_
  refine Bd_in fun b79 hb79 => ?_
  have hiff : b79 = true ↔ (now[j] = true ∧ l[j].k = 1 ∧ inQ l[j].q b = true) := by
    rw [hb79, hb69, hb68]
    cases now[j] <;> simp
  have hlj := hok _ (List.getElem_mem hjl)
  refine If_in (fun hc w80 h80 hL80 => ?_) fun hc w80 h80 hL80 => ?_
  · rw [if_pos (hiff.1 hc)]
    have m80 : Md [] w39 w80 := h80.fresh (by simp; exact hn67)
    have S80 := S39.md0 m80
    have s80 := m80.size
    have l67 := hL80 n67 (by simp)
    refine (f172_ok S80 hok hlen hN l[j].a hlj.1 hlj.2.1).callD hL80 (fun b hb => ?_) ?_
    · simp at hb ⊢
      rcases hb with rfl | rfl <;> omega
    · rintro v w82 ⟨rfl, S82⟩ m82
      exact opTu_in <| SzIs_in rfl ⟨_, _, rfl, _, rfl, come_len hok hN hlj.1 hlj.2.1, S82, kD (own39.md m80) m82 (fun d hd => by simp at hd; omega), by have := m82.size; omega⟩
  · rw [if_neg (fun h => by have := hiff.2 h; rw [hc] at this; cases this)]
    have m80 : Md [] w39 w80 := h80.fresh (by simp; exact hn67)
    exact ⟨_, _, rfl, _, rfl, hN, S39.md0 m80, own39.md m80, by have := m80.size; omega⟩
end Fk

/- First machines: the document's Still. -/
set_option linter.unusedVariables false
set_option linter.unusedSimpArgs false
set_option maxRecDepth 100000
set_option maxHeartbeats 2000000
namespace Fk
open Go Go.Proofs Go.RowKit
theorem set_on {N : List Bool} {i : Nat} (h : On N i) : N.set i true = N := by
  apply List.ext_getElem?
  intro j
  rw [List.getElem?_set]
  split
  · rename_i e; subst e
    have := h.lt
    rw [if_pos this]
    exact h.symm
  · rfl
theorem ofc_set_le {N : List Bool} {i : Nat} (hi : i < N.length) : ofc (N.set i true) ≤ ofc N := by
  by_cases h : On N i
  · rw [set_on h]; exact Nat.le_refl _
  · have := ofc_set hi h; omega
theorem On_get {N : List Bool} {i : Nat} (hi : i < N.length) : On N i ↔ N[i] = true := by unfold On; rw [List.getElem?_eq_getElem hi]; simp
theorem f220_ok (st : Int) (l : List Ns) (pa : Option Addr) (pc : Nat) (xa : Option Addr) (xc bx : Nat) (N : List Bool) (w : World) (hr : RowAt w pa 8 nsE l) (hx : OwnL w bx 4 1 bE xa xc N) (hN : N.length = l.length) (hl : OkL l) (hlen : l.length ≤ 20000) :
    Ct Try.prog 220 #[.agg #[.int .i64 st, .slice pa l.length pc], .slice xa N.length xc] w fun v w' => (∃ (a : Option Addr) (c : Nat) (M : List Bool), v = .slice a M.length c ∧ OwnL w' w.heap.size 4 1 bE a c M ∧ IsSt l (On N) M) ∧ Md [] w w' := by
  apply f220_in
  intro n1 hn1 w2 h2 hL2
  have l1 := hL2 n1 (by simp)
  refine Nw_i ?_
  have ma : Md [] w2 (w2.alloc (.cells #[] 4)) := Md.alloc w2 _
  have ol : OwnL (w2.alloc (.cells #[] 4)) w2.heap.size 4 1 bE (some ⟨w2.heap.size, 0, none⟩) 0 [] := OwnL.lit (P := Try.prog) (base := w2.heap.size) encbE w2 4 [] #[] (Nat.le_refl _) (by simp) rfl
  have sa := ma.size
  refine app_own rowT222 encbE ol ((hx.md h2).md ma) (by omega) (fun b hb => by simp at hb; subst hb; omega) (fun b hb A hA => by simp at hb; subst hb; injection hA with hA; subst hA; simp; omega) (by simp [maxLen]; omega) (by simp; omega) fun a c w6 o6 m6 hA => opL_in ?_
  simp only [List.nil_append] at o6 ⊢
  have m06 : Md [] w w6 := (h2.trans ma).old m6 (fun d hd => by simp at hd; subst hd; exact h2.size)
  have o6' := o6.down (b := w.heap.size) h2.size
  have ln6 : n1 < w6.heap.size := by have := m6.size; omega
  have ane : ∀ A, a = some A → A.block ≠ n1 := fun A hA e => by have := (o6.lt hA).1; omega
  refine LoopP_in (fun mm us vs w' => ∃ (b : Bool) (O : List Bool), us = [.bool b] ∧ mm = 2 * ofc O + (if b then 1 else 0) ∧ O.length = l.length ∧ (∀ i, On N i → On O i) ∧ (∀ i, On O i → Rch l (On N) i) ∧
      (b = false → ∀ i x, On O i → l[i]? = some x → x.k = 2 → On O x.a.toNat ∧ On O x.b.toNat) ∧ OwnL w' w.heap.size 4 1 bE a c O ∧ Md [] w w' ∧ n1 < w'.heap.size) (2 * ofc N + 1)
    ⟨true, N, rfl, rfl, hN, fun _ h => h, fun _ h => .base h, (fun h => by cases h), o6', m06, ln6⟩ ?_
  rintro mm us vs w13 ⟨b, O, rfl, hmm, hO, hup, hfr, hcl, own, hmd, hn⟩
  refine opB_in <| If_in (fun hb => ?_) fun hb => ?_
  case refine_2 =>
    refine ⟨⟨a, c, O, by rw [hN, hO], own, hO, fun i => ⟨hfr i, fun hi => ?_⟩⟩, hmd⟩
    induction hi with
    | base h => exact hup _ h
    | a _ h1 h2 ih => exact (hcl hb _ _ ih h1 h2).1
    | b _ h1 h2 ih => exact (hcl hb _ _ ih h1 h2).2
  subst hb
  simp only [if_true] at hmm
  refine LoopP_in (fun mm us vs w' => ∃ (i : Nat) (m : Bool) (O' : List Bool), us = [.bool m, .int .i64 i] ∧ mm = l.length - i ∧ i ≤ l.length ∧ O'.length = l.length ∧ (∀ i, On N i → On O' i) ∧ (∀ i, On O' i → Rch l (On N) i) ∧ (m = true → ofc O' < ofc O) ∧
      (m = false → O' = O ∧ ∀ j x, j < i → On O' j → l[j]? = some x → x.k = 2 → On O' x.a.toNat ∧ On O' x.b.toNat) ∧ OwnL w' w.heap.size 4 1 bE a c O' ∧ Md [] w w' ∧ n1 < w'.heap.size) l.length
    ⟨0, false, O, rfl, rfl, by omega, hO, hup, hfr, (fun h => by cases h), fun _ => ⟨rfl, fun j x hj => by omega⟩, own, hmd, hn⟩ ?_
  rintro m' us vs w18 ⟨i, m, O', rfl, hm', hi, hO', hup', hfr', hmT, hmF, own', hmd', hn'⟩
  refine opB_in <| opI_in <| Bd_e rfl <| Bd_in fun b22 hb22 => If_in (fun hb => ?_) fun hb => ?_
  case refine_2 =>
    have hil : i = l.length := by
      have : ¬ (i : Int) < (N.length : Int) := by rw [hb22] at hb; exact of_decide_eq_false hb
      omega
    subst hil
    refine ⟨2 * ofc O' + (if m then 1 else 0), ?_, m, O', rfl, rfl, hO', hup', hfr', fun h => ?_, own', hmd', hn'⟩
    · cases m with
      | true => have := hmT rfl; simp; omega
      | false => have := (hmF rfl).1; subst this; simp; omega
    · intro j x hj hx
      exact (hmF h).2 j x (by have := hj.lt; omega) hj hx
  have hil : i < l.length := by rw [hb22] at hb; have : (i : Int) < (N.length : Int) := of_decide_eq_true hb
                                omega
  refine Jn_in (fun us vs w' => ∃ (m : Bool) (O' : List Bool), us = [.bool m] ∧ O'.length = l.length ∧ (∀ i, On N i → On O' i) ∧ (∀ i, On O' i → Rch l (On N) i) ∧ (m = true → ofc O' < ofc O) ∧
      (m = false → O' = O ∧ ∀ j x, j < i + 1 → On O' j → l[j]? = some x → x.k = 2 → On O' x.a.toNat ∧ On O' x.b.toNat) ∧ OwnL w' w.heap.size 4 1 bE a c O' ∧ Md [] w w' ∧ n1 < w'.heap.size) ?_ ?_
  · rintro us vs w25 ⟨m2, O2, rfl, a1, a2, a3, a4, a5, a6, a7, a8⟩
    exact opB_in <| Bd_e (inc_i64 (by omega)) ⟨l.length - (i + 1), by omega, i + 1, m2, O2, rfl, rfl, by omega, a1, a2, a3, a4, a5, a6, a7, a8⟩
  refine ⟨(hr.md hmd').ix hil, (hr.md hmd').ld8 hil ?_⟩
  intro n45 hn45
  have hiO : i < O'.length := by omega
  have hix : ∀ {j : Nat}, j < l.length → IxOk (j : Int) N.length a := fun {j} hj => by
    have := (own'.row encbE).ix (i := j) (by omega)
    rw [hN, ← hO']; exact this
  refine ⟨hix hil, fun w46 h46 hL46 => ?_⟩
  have m46 : Md [] w18 w46 := h46.fresh (by simp; exact hn45)
  have own46 := own'.md m46
  have md46 := hmd'.trans m46
  have hlb := hl _ (List.getElem_mem hil)
  have hln : ∀ b ∈ [n45, n1], b < w46.heap.size := hL46
  obtain ⟨ja, hja⟩ := Int.eq_ofNat_of_zero_le hlb.1
  obtain ⟨jb, hjb⟩ := Int.eq_ofNat_of_zero_le hlb.2.2.1
  have hjal : ja < l.length := by omega
  have hjbl : jb < l.length := by omega
  have hsi : l[i]? = some l[i] := List.getElem?_eq_getElem hil
  rw [hja, hjb]
  refine (own46.row encbE).ld1 hiO rfl <| opB_in <| Bd_in fun b49 hb49 => Bd_in fun b50 hb50 => ⟨fun _ => hix hjal, ?_⟩
  have e50 : b50 = true ↔ On O' i ∧ l[i].k = 2 := by
    rw [hb50, hb49, On_get hiO]
    cases O'[i] <;> simp
  refine Gd_to (fun b w' => w' = w46 ∧ (b50 = true → b = O'[ja]'(by omega))) (fun b55 w56 hJ => ?_) (fun fin hc => ?_) fun hc => ⟨rfl, fun h => by rw [h] at hc; cases hc⟩
  case refine_2 =>
    exact (own46.row encbE).ld1 (i := ja) (by omega) rfl <| opB_in <| fin _ _ ⟨rfl, fun _ => rfl⟩
  obtain ⟨rfl, h55⟩ := hJ
  refine Bd_in fun b57 hb57 => ⟨fun _ => hix hjbl, ?_⟩
  refine Gd_to (fun b w' => w' = w56 ∧ ((b50 && !b57) = true → b = O'[jb]'(by omega))) (fun b62 w63 hJ => ?_) (fun fin hc => ?_) fun hc => ⟨rfl, fun h => by rw [h] at hc; cases hc⟩
  case refine_2 =>
    exact (own46.row encbE).ld1 (i := jb) (by omega) rfl <| opB_in <| fin _ _ ⟨rfl, fun _ => rfl⟩
  obtain ⟨rfl, h62⟩ := hJ
  refine Bd_in fun b64 hb64 => Bd_in fun b65 hb65 => Bd_in fun b66 hb66 => ?_
  have e66 : b66 = true ↔ (On O' i ∧ l[i].k = 2) ∧ ¬ (On O' ja ∧ On O' jb) := by
    rw [hb66, hb65, hb64, ← e50, On_get (by omega : ja < O'.length), On_get (by omega : jb < O'.length)]
    cases hb50' : b50 with
    | false => simp
    | true =>
      have x1 := h55 hb50'
      rw [hb57, x1]
      cases h : O'[ja] with
      | false => simp
      | true =>
        rw [hb57, x1, h, hb50'] at h62
        rw [h62 rfl]
        cases O'[jb] <;> simp
  refine If_in (fun hc => ?_) fun hc => ?_
  · obtain ⟨⟨c1, c2⟩, c3⟩ := e66.1 hc
    obtain ⟨A, hA', p1, p2, p3, p4, p5, p6⟩ := own46.put encbE (by omega) (i := ja) (by omega) true
    refine ⟨hix hjal, by rw [p3]; simp; exact ⟨fun e => by have := (own'.lt hA').2; omega, ane A hA'⟩, p4, hix hjbl, ?_⟩
    obtain ⟨A2, hA2, q1, q2, q3, q4, q5, q6⟩ := p5.put encbE (by omega) (i := jb) (by simp; omega) true
    rw [hA'] at hA2
    injection hA2 with hA2
    subst hA2
    refine ⟨by rw [q3]; simp; exact ⟨fun e => by have := (own'.lt hA').2; omega, ane A hA'⟩, q4, ?_⟩
    have hset1 : ∀ {j}, On (O'.set ja true) j ↔ On O' j ∨ j = ja := fun {j} => On_set (by omega)
    have hset2 : ∀ {j}, On ((O'.set ja true).set jb true) j ↔ (On O' j ∨ j = ja) ∨ j = jb := fun {j} => by rw [On_set (by simp; omega), hset1]
    have hreach := hfr' i c1
    refine ⟨true, (O'.set ja true).set jb true, rfl, by simp [hO'], fun j hj => hset2.2 (.inl (.inl (hup' j hj))), fun j hj => ?_, fun _ => ?_, (fun h => by cases h), q5, (md46.old p6 (by simpa using p2)).old q6 (by simpa using q2), Nat.lt_of_lt_of_le (hln n1 (by simp)) (Nat.le_trans p6.size q6.size)⟩
    · rcases hset2.1 hj with (h | rfl) | rfl
      · exact hfr' j h
      · have := hreach.a hsi c2
        rw [hja] at this; simpa using this
      · have := hreach.b hsi c2
        rw [hjb] at this; simpa using this
    · have hle : ofc O' ≤ ofc O := by
        cases m with
        | true => exact Nat.le_of_lt (hmT rfl)
        | false => rw [(hmF rfl).1]; exact Nat.le_refl _
      have x1 := ofc_set_le (N := O') (i := ja) (by omega)
      have x2 := ofc_set_le (N := O'.set ja true) (i := jb) (by simp; omega)
      by_cases ca : On O' ja
      · have cb : ¬ On O' jb := fun h => c3 ⟨ca, h⟩
        rw [set_on ca]
        have := ofc_set (N := O') (i := jb) (by omega) cb
        omega
      · have := ofc_set (N := O') (i := ja) (by omega) ca
        omega
  · have hno : ¬ ((On O' i ∧ l[i].k = 2) ∧ ¬ (On O' ja ∧ On O' jb)) := fun h => by have := e66.2 h; rw [hc] at this; cases this
    refine ⟨m, O', rfl, hO', hup', hfr', hmT, fun h => ⟨(hmF h).1, fun j x hj hon hx hk => ?_⟩, own46, md46, hln n1 (by simp)⟩
    by_cases hji : j < i
    · exact (hmF h).2 j x hji hon hx hk
    · have : j = i := by omega
      subst this
      rw [hsi] at hx
      injection hx with hx
      subst hx
      rw [hja, hjb]
      simp only [Int.toNat_natCast]
      exact Classical.byContradiction fun hh => hno ⟨⟨hon, hk⟩, hh⟩
end Fk

/- First machines: the document's Begin, By, Run. -/
set_option linter.unusedVariables false
set_option linter.unusedSimpArgs false
set_option maxRecDepth 100000
set_option maxHeartbeats 2000000
namespace Fk
open Go Go.Proofs Go.RowKit
theorem On_offs {n i : Nat} : ¬ On (offs n) i := by
  unfold On offs
  rw [List.getElem?_replicate]
  split <;> simp
theorem f183_ok (st : Int) (l : List Ns) (pa : Option Addr) (pc : Nat) (w : World) (hr : RowAt w pa 8 nsE l) (hl : OkL l) (hlen : l.length ≤ 20000) (h0 : 0 ≤ st) (h1 : st < l.length) :
    Ct Try.prog 183 #[.agg #[.int .i64 st, .slice pa l.length pc]] w fun v w' => (∃ (a : Option Addr) (c : Nat), v = .slice a (come l st (offs l.length)).length c ∧ OwnL w' w.heap.size 4 1 bE a c (come l st (offs l.length))) ∧ Md [] w w' := by
  apply f183_in
  intro n1 hn1
  refine Bd_e rfl fun w3 h3 hL3 => ?_
  have l1 := hL3 n1 (by simp)
  obtain ⟨i, rfl⟩ := Int.eq_ofNat_of_zero_le h0
  have hi : i < l.length := by omega
  obtain ⟨w5, r1, o1, m1⟩ := made4 l.length w3 (by omega)
  refine RunW_in r1 (fun b hb => by simp at hb; subst hb; exact m1.blk b l1 (by simp)) <| opL_in ?_
  have hix := (o1.row encbE).ix (i := i) (by rw [offs_len]; exact hi)
  rw [offs_len] at hix
  obtain ⟨A, hA, p1, p2, p3, p4, p5, p6⟩ := o1.put encbE (by omega) (i := i) (by rw [offs_len]; exact hi) true
  refine ⟨hix, by rw [p3]; simp; omega, p4, ?_⟩
  have hm : Md [] w3 (setCells w5 (adAt (some ⟨w3.heap.size, 0, none⟩) (i : Int) 1) 0 [.bool true]) := m1.old p6 (by simpa using p2)
  have hlen2 : ((offs l.length).set i true).length = l.length := by simp [offs]
  have hf := f220_ok (i : Int) l pa pc _ l.length w3.heap.size ((offs l.length).set i true) _ (hr.md (h3.trans hm)) p5 hlen2 hl hlen
  rw [hlen2] at hf
  refine hf.call (fun b hb => by simp at hb; subst hb; exact Nat.lt_of_lt_of_le l1 hm.size) ?_
  rintro v w10 ⟨a, c, M, rfl, own, hM⟩ m10
  have e : M = come l (i : Int) (offs l.length) := by
    refine hM.uniq ((come_is hl (IsSt.offs l) h0 h1).congr fun j => ?_)
    rw [On_set (by rw [offs_len]; exact hi)]
    simp [On_offs]
  subst e
  exact opL_in ⟨⟨a, c, rfl, own.down (Nat.le_trans h3.size hm.size)⟩, (h3.trans hm).trans m10⟩
/-- What some states come to by a byte, ahead of Still. -/
def byS (l : List Ns) (b : Nat) (now : List Bool) (k : Nat) (i : Nat) : Prop := ∃ j x, j < k ∧ On now j ∧ l[j]? = some x ∧ x.k = 1 ∧ inQ x.q b = true ∧ i = x.a.toNat
theorem f185_ok (st : Int) (l : List Ns) (pa xa : Option Addr) (pc xc : Nat) (N : List Bool) (b : Nat) (hb : b < 256) (w : World) (hr : RowAt w pa 8 nsE l) (hx : RowAt w xa 1 bE N) (hN : N.length = l.length) (hl : OkL l) (hlen : l.length ≤ 20000) :
    Ct Try.prog 185 #[.agg #[.int .i64 st, .slice pa l.length pc], .slice xa N.length xc, .int .u8 b] w fun v w' => (∃ (a : Option Addr) (c : Nat), v = .slice a (stepF l b N l (offs l.length)).length c ∧ OwnL w' w.heap.size 4 1 bE a c (stepF l b N l (offs l.length))) ∧ Md [] w w' := by
  apply f185_in
  intro n1 hn1
  refine Bd_e rfl fun w3 h3 hL3 => ?_
  have l1 := hL3 n1 (by simp)
  obtain ⟨w5, r1, o1, m1⟩ := made4 N.length w3 (by omega)
  rw [hN] at r1 o1
  rw [hN]
  refine RunW_in r1 (fun b hb => by simp at hb; subst hb; exact m1.blk b l1 (by simp)) <| opL_in ?_
  have s1 := m1.size
  generalize hag : (some (Addr.mk w3.heap.size 0 none)) = a at *
  have ha : ∀ A, a = some A → A.block ≠ n1 := fun A hA => by rw [← hag] at hA; injection hA with hA; subst hA; show w3.heap.size ≠ n1; omega
  refine LoopP_in (fun mm us vs w' => ∃ (i : Nat) (O : List Bool), us = [.int .i64 i] ∧ mm = l.length - i ∧ i ≤ l.length ∧ O.length = l.length ∧ (∀ j, On O j ↔ byS l b N i j) ∧ OwnL w' w3.heap.size 4 1 bE a l.length O ∧ Md [] w3 w') l.length
    ⟨0, offs l.length, rfl, rfl, by omega, offs_len _, fun j => ⟨fun h => absurd h On_offs, fun ⟨_, _, h, _⟩ => by omega⟩, o1, m1⟩ ?_
  rintro m' us vs w12 ⟨i, O, rfl, hm', hi, hO, hon, own, hmd⟩
  have hmw := h3.trans hmd
  have ln12 : n1 < w12.heap.size := by have := hmd.size; omega
  refine opI_in <| Bd_e rfl <| Bd_in fun b15 hb15 => If_in (fun hbt => ?_) fun hbf => ?_
  case refine_2 =>
    have hil : i = l.length := by
      have : ¬ (i : Int) < (l.length : Int) := by rw [hb15] at hbf; exact of_decide_eq_false hbf
      omega
    subst hil
    have hf := f220_ok st l pa pc a l.length w3.heap.size O _ (hr.md hmw) own hO hl hlen
    rw [hO] at hf
    refine hf.call (fun b hb => by simp at hb; subst hb; exact ln12) ?_
    rintro v w52 ⟨a2, c2, M, rfl, own2, hM⟩ m52
    have e : M = stepF l b N l (offs l.length) := by
      refine hM.uniq ((stepF_is hl b N l _ _ (fun x hx => ⟨(hl x hx).1, (hl x hx).2.1⟩) (IsSt.offs l)).congr fun j => ?_)
      rw [hon]
      unfold byS
      constructor
      · rintro (h | ⟨k, x, h1, h2, h3, h4, h5⟩)
        · exact h.elim
        · exact ⟨k, x, by have := h1.lt; omega, h1, h2, h3, h4, h5⟩
      · rintro ⟨k, x, _, h1, h2, h3, h4, h5⟩
        exact .inr ⟨k, x, h1, h2, h3, h4, h5⟩
    subst e
    exact opL_in ⟨⟨a2, c2, rfl, own2.down hmw.size⟩, hmw.trans m52⟩
  have hil : i < l.length := by rw [hb15] at hbt; have : (i : Int) < (l.length : Int) := of_decide_eq_true hbt
                                omega
  have hiN : i < N.length := by omega
  refine Jn_in (fun us vs w' => us = [] ∧ ∃ (O : List Bool), O.length = l.length ∧ (∀ j, On O j ↔ byS l b N (i + 1) j) ∧ OwnL w' w3.heap.size 4 1 bE a l.length O ∧ Md [] w3 w') ?_ ?_
  · rintro us vs w18 ⟨rfl, O2, a1, a2, a3, a4⟩
    exact Bd_e (inc_i64 (by omega)) ⟨l.length - (i + 1), by omega, i + 1, O2, rfl, rfl, by omega, a1, a2, a3, a4⟩
  refine ⟨(hr.md hmw).ix hil, (hr.md hmw).ld8 hil ?_⟩
  intro n37 hn37
  have hixN := (hx.md hmw).ix hiN
  rw [hN] at hixN
  refine ⟨hixN, fun w38 h38 hL38 => ?_⟩
  have m38 : Md [] w12 w38 := h38.fresh (by simp; exact hn37)
  have own38 := own.md m38
  refine ((hx.md (hmw.trans m38)).ld1 hiN rfl) <| opB_in <| Bd_in fun b41 hb41 => Bd_in fun b42 hb42 => Bd_e (y := (b : Int)) (by rw [IntKind.wrap_i64]; omega) ?_
  have hsi : l[i]? = some l[i] := List.getElem?_eq_getElem hil
  have e42 : b42 = true ↔ On N i ∧ l[i].k = 1 := by
    rw [hb42, hb41, On_get hiN]
    cases N[i] <;> simp
  refine Gd_to (fun x w' => Md [] w38 w' ∧ (b42 = true → x = inQ l[i].q b)) (fun b48 w49 hJ => ?_) (fun fin hc => ?_) fun hc => ⟨Md.refl _ _, fun h => by rw [h] at hc; cases hc⟩
  case refine_2 =>
    refine (f151_ok l[i].q b hb w38).call hL38 ?_
    rintro v w46 rfl m46
    exact opB_in <| fin _ _ ⟨m46, fun _ => rfl⟩
  obtain ⟨m49, h48⟩ := hJ
  have own49 := own38.md m49
  refine Bd_in fun b50 hb50 => ?_
  have hstep : ∀ j, byS l b N (i + 1) j ↔ byS l b N i j ∨ (b50 = true ∧ j = l[i].a.toNat) := by
    have e50 : b50 = true ↔ (On N i ∧ l[i].k = 1) ∧ inQ l[i].q b = true := by
      rw [hb50, ← e42]
      cases h : b42 with
      | false => simp
      | true => rw [h48 h]; simp
    intro j
    rw [e50]
    unfold byS
    constructor
    · rintro ⟨k, x, h1, h2, h3, h4, h5, h6⟩
      by_cases hk : k < i
      · exact .inl ⟨k, x, hk, h2, h3, h4, h5, h6⟩
      · have : k = i := by omega
        subst this
        rw [hsi] at h3
        injection h3 with h3
        subst h3
        exact .inr ⟨⟨⟨h2, h4⟩, h5⟩, h6⟩
    · rintro (⟨k, x, h1, h2⟩ | ⟨⟨⟨h1, h2⟩, h3⟩, h4⟩)
      · exact ⟨k, x, by omega, h2⟩
      · exact ⟨i, l[i], by omega, h1, hsi, h2, h3, h4⟩
  have md49 : Md [] w3 w49 := (hmd.trans m38).trans m49
  refine If_in (fun hc => ?_) fun hc => ?_
  · have hla := hl _ (List.getElem_mem hil)
    obtain ⟨ja, hja⟩ := Int.eq_ofNat_of_zero_le hla.1
    have hjal : ja < l.length := by omega
    rw [hja]
    have hix := (own49.row encbE).ix (i := ja) (by omega)
    rw [hO] at hix
    obtain ⟨A, hA, p1, p2, p3, p4, p5, p6⟩ := own49.put encbE (by omega) (i := ja) (by omega) true
    refine ⟨hix, by rw [p3]; simp; exact ⟨fun e => by have := (own.lt hA).2; omega, ha A hA⟩, p4, rfl, O.set ja true, by simp [hO], fun j => ?_, p5, md49.old p6 (by simpa using p2)⟩
    rw [On_set (by omega), hstep, hon, hja]
    simp [hc]
  · refine ⟨rfl, O, hO, fun j => ?_, own49, md49⟩
    rw [hstep, hon]
    simp [hc]
theorem f80_ok (st : Int) (l : List Ns) (A : Option Addr) (C : Nat) (s : List Nat) (hs : ∀ x ∈ s, x < 256) (w : World) (hr : RowAt w A 8 nsE l) (hl : l.length < 2 ^ 40) (hk0 : ∀ x ∈ l, 0 ≤ x.k) (hsl : s.length < 2 ^ 30) :
    Ct Try.prog 80 #[.agg #[.int .i64 st, .slice A l.length C], .string (bytesOf s)] w fun v w' => (∃ a c, v = .tuple #[.slice a (runA st l s).1.length c, .int .i64 (runA st l s).2] ∧ OwnL w' w.heap.size 3 1 i1 a c (runA st l s).1) ∧ Md [] w w' := by
  apply f80_in
  intro n1 hn1 w2 h2 hL2
  refine (f82_ok st l A C w2 (hr.md h2) (by omega) hk0).call (by simpa using hL2 n1 (by simp)) ?_
  rintro v w4 rfl m4
  have m24 := h2.trans m4
  have ln1 : n1 < w4.heap.size := by have := hL2 n1 (by simp); have := m4.size; omega
  refine opB_in <| Bd_in fun b6 hb6 => If_in (fun hb => ?_) fun hb => ?_
  · have : nfRight st l = false := by rw [hb6] at hb; simpa using hb
    have e : runA st l s = ([], 2) := by unfold runA; rw [this]; rfl
    rw [e]
    exact ⟨⟨none, 0, rfl, OwnL.nil _ _ _ _ _⟩, m24⟩
  have hright : nfRight st l = true := by rw [hb6] at hb; simpa using hb
  have e : runA st l s = (nfRun st l s, 0) := by unfold runA; rw [if_pos hright]
  rw [e]
  obtain ⟨hok, hst0, hst1, hlen, hall⟩ := okL_of_right hright
  have ht0 : ∀ x ∈ l, x.k = 0 → 0 ≤ x.t := fun x hx hk => by have := hall x hx; unfold okNs at this; omega
  have hr4 := hr.md m24
  have hln : ∀ {w' : World}, Md [] w4 w' → ∀ b ∈ [n1], b < w'.heap.size := fun hm b hb => by simp at hb; subst hb; have := hm.size; omega
  refine (f183_ok st l A C w4 hr4 hok hlen hst0 hst1).call (hln (Md.refl _ _)) ?_
  rintro v w8 ⟨a9, c9, rfl, own8⟩ m8
  have hcl : (come l st (offs l.length)).length = l.length := come_len hok (offs_len _) hst0 hst1
  refine opL_in <| (f184_ok st A a9 C c9 l _ (hr4.md m8) (own8.row encbE) hcl hlen ht0).call (hln m8) ?_
  rintro v w13 rfl m13
  refine opI_in <| Nw_i ?_
  have ma : Md [] w13 (w13.alloc (.cells #[.int .i64 (tagF (come l st (offs l.length)) l (-1))] 3)) := Md.alloc w13 _
  have ol := OwnL.lit (P := Try.prog) (base := w13.heap.size) enci1 w13 3 [tagF (come l st (offs l.length)) l (-1)] #[.int .i64 (tagF (come l st (offs l.length)) l (-1))] (Nat.le_refl _) (by simp [maxLen]) rfl
  have m413 := m8.trans m13
  have sz := m413.size
  refine LoopP_in (fun mm us vs w' => ∃ (i : Nat) (a c' : _) (a2 : Option Addr) (c2 : Nat) (out : List Int) (now : List Bool), us = [.slice a now.length c', .slice a2 out.length c2, .int .i64 i] ∧ mm = s.length - i ∧ i ≤ s.length ∧ out ++ runF l (s.drop i) now = nfRun st l s ∧ out.length = i + 1 ∧ now.length = l.length ∧
      RowAt w' a 1 bE now ∧ OwnL w' w4.heap.size 3 1 i1 a2 c2 out ∧ Md [] w4 w' ∧ Apt a2 a) s.length
    ⟨0, a9, c9, _, _, [tagF (come l st (offs l.length)) l (-1)], come l st (offs l.length), rfl, rfl, by omega, rfl, rfl, hcl, ((own8.md m13).md ma).row encbE, ol.down sz, m413.trans ma, fun A B hA hB => by
      injection hA with hA; subst hA
      have := (own8.lt hB).2; have := m13.size; show w13.heap.size ≠ _; omega⟩ ?_
  rintro mm us vs w20 ⟨i, a, c', a2, c2, out, now, rfl, hmm, hi, ho, hol, hnow, hrow, own, hmd, hapt⟩
  refine opL_in <| opL_in <| opI_in <| Bd_e rfl ?_
  rw [nsz_bytesOf]
  refine Bd_in fun b29 hb29 => If_in (fun hb => ?_) fun hb => ?_
  case refine_2 =>
    have hil : i = s.length := by
      have : ¬ (i : Int) < (s.length : Int) := by rw [hb29] at hb; exact of_decide_eq_false hb
      omega
    subst hil
    rw [List.drop_of_length_le (by omega)] at ho
    rw [show runF l [] now = [] from rfl, List.append_nil] at ho
    rw [← ho]
    exact ⟨⟨a2, c2, rfl, own.down m24.size⟩, m24.trans hmd⟩
  have his : i < s.length := by rw [hb29] at hb; have : (i : Int) < (s.length : Int) := of_decide_eq_true hb
                                omega
  refine ⟨fun _ => True, trivial, ⟨by omega, by omega⟩, Bd_e (byteAt_bytesOf hs his) ?_⟩
  have hb256 := hs _ (List.getElem_mem his)
  rw [List.drop_eq_getElem_cons his] at ho
  generalize s[i] = b at ho hb256 ⊢
  have md := hmd.trans (Md_drew w20)
  refine (f185_ok st l A a C c' now b hb256 w20.drew (hr4.md md) (hrow.md (Md_drew _)) hnow hok hlen).call (hln md) ?_
  rintro v w33 ⟨a34, c34, rfl, own33⟩ m33
  refine opL_in ⟨trivial, ?_⟩
  have hsl' : (stepF l b now l (offs l.length)).length = l.length := (stepF_is hok b now l _ _ (fun x hx => ⟨(hok x hx).1, (hok x hx).2.1⟩) (IsSt.offs l)).1
  have md33 := md.trans m33
  refine (f184_ok st A a34 C c34 l _ (hr4.md md33) (own33.row encbE) hsl' hlen ht0).call (hln md33) ?_
  rintro v w38 rfl m38
  generalize hM : stepF l b now l (offs l.length) = M at *
  have mb : Md [] w38 (w38.alloc (.cells #[.int .i64 (tagF M l (-1))] 3)) := Md.alloc w38 _
  have ol2 := OwnL.lit (P := Try.prog) (base := w38.heap.size) enci1 w38 3 [tagF M l (-1)] #[.int .i64 (tagF M l (-1))] (Nat.le_refl _) (by simp [maxLen]) rfl
  have own38 := (((own.md (Md_drew _)).md m33).md m38).md mb
  have md38 := (md33.trans m38).trans mb
  have szb := md38.size
  have szd : w20.drew.heap.size = w20.heap.size := rfl
  have s33 := m33.size
  refine opI_in <| Nw_i <| app_own rowT52 enci1 own38 ol2 szb (hln md38) (fun b hb A hA => by simp at hb; subst hb; have := (own38.lt hA).1; omega) (by simp [maxLen]; omega) (by simp; omega) fun a' c'' w43 o43 m43 hA' => opL_in <| Bd_e (inc_i64 (by omega)) ?_
  have lo : ∀ d ∈ (a2.map (·.block)).toList, w4.heap.size ≤ d ∧ d < w20.heap.size := fun d hd => by obtain ⟨B', hB', rfl⟩ := mem_blk hd; exact own.lt hB'
  refine ⟨s.length - (i + 1), by omega, i + 1, a34, c34, a', c'', out ++ [tagF M l (-1)], M, rfl, rfl, by omega, ?_, by simp; omega, hsl', ?_, o43, md38.old m43 (fun d hd => (lo d hd).1), fun A' B' h1 h2 e => ?_⟩
  · rw [← ho, List.append_assoc]
    simp only [List.singleton_append, runF, hM]
  · exact (((own33.md m38).md mb).row encbE).mdD m43 fun B' hB' hd => by have := (own33.lt hB').1; have := (lo _ hd).2; omega
  · have q1 := (own33.lt h2)
    rcases hA' A' h1 with h | h
    · have := (own.lt h).2; omega
    · have := m38.size; have := mb.size; omega
end Fk

