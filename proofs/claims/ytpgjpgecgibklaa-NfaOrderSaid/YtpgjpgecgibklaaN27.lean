/- First machines: trees in another order (NfaOrder). -/
import Derived.Test.YtpgjpgecgibklaaN26
import Derived.Test.YtpgjpgecgibklaaN24
set_option linter.unusedVariables false
set_option linter.unusedSimpArgs false
set_option maxRecDepth 100000
set_option maxHeartbeats 2000000
namespace Fk
open Go Go.Proofs Go.RowKit
theorem f83b_ok (fo : Fo) (sa : Option Addr) (sc : Nat) (wb w : World) (hr : RepF wb sa 0 fo) (hwb : Md [] wb w) (hl : fo.len ≤ 2 ^ 41) :
    Ct Try.prog 83 #[.slice sa fo.len sc] w fun v w' => (∃ a c L, v = .slice a L.length c ∧ OwnT w' w.heap.size a c L ∧ TrF wb L fo.good) ∧ Md [] w w' := by
  apply f83_in
  refine Bd_in fun x1 hx1 => ?_
  subst hx1
  refine LoopP_in (fun m us vs w' => ∃ (i : Nat) (r : Fo) (a : Option Addr) (c : Nat) (L : List Tr) (f1 : Fo), us = [.slice a L.length c, .int .i64 i] ∧ vs = [] ∧ m = r.len ∧ i + r.len = fo.len ∧ L.length + r.len ≤ fo.len ∧ RepF wb sa i r ∧ Md [] w w' ∧
      OwnT w' w.heap.size a c L ∧ TrF wb L f1 ∧ f1.app r.good = fo.good)
    fo.len ⟨0, fo, none, 0, [], .nil, rfl, rfl, rfl, by omega, by simp, hr, Md.refl _ _, OwnL.nil .., trivial, rfl⟩ ?_
  rintro m us vs w5 ⟨i, r, a, c, L, f1, rfl, rfl, rfl, hi, hls, hri, h5, ho5, hT5, hf1⟩
  refine opL_in <| opI_in <| Bd_in fun b10 hb10 => If_in (fun hb => ?_) fun hb => ?_
  · subst hb10
    simp only [decide_eq_true_eq, Int.ofNat_lt] at hb
    cases r with
    | nil => simp [Fo.len] at hi; omega
    | cons k' a' b' c' d' q' r' => ?_
    obtain ⟨B, sa', sc', rfl, hc', hql, hq, hr'⟩ := hri.at
    simp only [Fo.len] at hi hls
    refine Jn_in (fun us vs w' => ∃ (a : Option Addr) (c : Nat) (L' : List Tr) (f2 : Fo), us = [.slice a L'.length c] ∧ L'.length ≤ L.length + 1 ∧ Md [] w w' ∧ OwnT w' w.heap.size a c L' ∧ TrF wb L' f2 ∧ f2.app r'.good = fo.good) ?_ ?_
    · rintro us vs w13 ⟨a1, c1, L', f2, rfl, hL', h13, ho13, hT13, hf2⟩
      refine opL_in <| Bd_in fun x17 hx17 => ?_
      rw [show IntKind.wrap .i64 ((i : Int) + 1) = ((i + 1 : Nat) : Int) by rw [IntKind.wrap_i64]; omega] at hx17
      subst hx17
      exact ⟨r'.len, by simp [Fo.len], i + 1, r', a1, c1, L', f2, rfl, rfl, rfl, by omega, by omega, hr', h13, ho13, hT13, hf2⟩
    · refine ⟨⟨by omega, by omega, rfl⟩, ?_⟩
      refine ReC.ld (hc'.md (hwb.trans h5)) ?_
      intro n33 hn33 w34 h34 hL34
      have h34' := h5.old h34 (by simpa using Nat.le_trans h5.size hn33)
      have ho34 := ho5.mdN h34 (by simpa using hn33)
      refine (f144_ok _ q' _ _ _ _ _ _ _ _ (Nat.le_refl _) (hq.md (hwb.trans h34')) hql).call hL34 ?_
      rintro v35 w36 rfl h36
      have h36' := h34'.trans h36
      have ho36 := ho34.md h36
      simp only [Fo.good] at hf1
      refine opB_in <| If_in (fun h => ?_) fun h => ?_
      · rw [if_pos h] at hf1
        refine app_one rowT22 enc6 ⟨k', (a', b', c', d'), sa', q'.len, sc'⟩ rfl ho36 h36'.size (fun b hb => Nat.lt_of_lt_of_le (hL34 b hb) h36.size) ?_ (by simp [maxLen]; omega) (by omega) ?_
        · intro b hb A hA
          have := (ho5.lt hA).2
          simp at hb; omega
        intro a42 c42 w41 ho41 hm41 _
        have h41 := h36'.own ho36 hm41
        have hTt : TrF wb [⟨k', (a', b', c', d'), sa', q'.len, sc'⟩] (.cons k' a' b' c' d' q' .nil) := ⟨⟨rfl, rfl, rfl, hql, hq⟩, trivial⟩
        refine opL_in ⟨a42, c42, _, f1.app (.cons k' a' b' c' d' q' .nil), rfl, by simp, h41, ho41, TrF.app hT5 hTt, ?_⟩
        rw [← hf1, Fo.app_assoc]; rfl
      · rw [if_neg (by simp [h])] at hf1
        exact ⟨a, c, L, f1, rfl, by omega, h36', ho36, hT5, hf1⟩
  · subst hb10
    simp only [decide_eq_false_iff_not, Int.ofNat_lt] at hb
    cases r with
    | nil => simp only [Fo.good, Fo.app_nil] at hf1; rw [← hf1]; exact ⟨⟨a, c, L, rfl, ho5, hT5⟩, h5⟩
    | cons => simp only [Fo.len] at hi; omega
/-! ### Rows of trees, in other orders -/
theorem Fo.app_drop : ∀ (x y : Fo) (m : Nat), (x.app y).drop m = if m < x.len then (x.drop m).app y else y.drop (m - x.len)
  | .nil, y, m => by simp [Fo.app, Fo.len, Fo.drop]
  | .cons k a b c d q r, y, 0 => by simp [Fo.drop, Fo.len]
  | .cons k a b c d q r, y, m + 1 => by
    simp only [Fo.app, Fo.drop, Fo.app_drop r y m, Fo.len, Nat.add_lt_add_iff_right]
    split
    · rfl
    · congr 1; omega
theorem lg_app {x y : Fo} (h : 1 ≤ x.len) : (lg (x.app y)).one = (lg x).one := by
  cases x with
  | nil => simp [Fo.len] at h
  | cons => rfl
theorem has_app {x y : Fo} {m : Nat} {u : List Nat} : (x.app y).has m u ↔ x.has m u ∨ (x.len ≤ m ∧ y.has (m - x.len) u) := by
  unfold Fo.has
  rw [Fo.app_len, Fo.app_drop]
  by_cases h : m < x.len
  · rw [if_pos h, lg_app (by rw [Fo.drop_len]; omega)]
    constructor
    · rintro ⟨_, h2⟩; exact .inl ⟨h, h2⟩
    · rintro (⟨_, h2⟩ | ⟨h1, _⟩)
      · exact ⟨by omega, h2⟩
      · omega
  · rw [if_neg h]
    constructor
    · rintro ⟨h1, h2⟩; exact .inr ⟨by omega, by omega, h2⟩
    · rintro (⟨h1, _⟩ | ⟨h1, h2, h3⟩)
      · omega
      · exact ⟨by omega, h3⟩
def Fo.at1 (f : Fo) (j : Nat) : Fo := match f.drop j with
  | .cons k a b c d q _ => .cons k a b c d q .nil
  | .nil => .nil
/-- The last trees, the very last one first. -/
def bk (g : Fo) : Nat → Fo
  | 0 => .nil
  | i + 1 => (bk g i).app (g.at1 (g.len - 1 - i))
theorem at1_of {g : Fo} {j : Nat} {k a b c d : Int} {q : Fo} (he : g.drop j = .cons k a b c d q (g.drop (j + 1))) : g.at1 j = .cons k a b c d q .nil := by unfold Fo.at1; rw [he]
theorem at1_len {g : Fo} {j : Nat} (h : j < g.len) : (g.at1 j).len = 1 ∧ (lg (g.at1 j)).one = (lg (g.drop j)).one ∧ (g.right = true → (g.at1 j).right = true) ∧ (g.at1 j).size ≤ g.size := by
  obtain ⟨k, a, b, c, d, q, he, hs⟩ := Fo.drop_cons g j h
  rw [at1_of he]
  refine ⟨rfl, by rw [he]; rfl, fun hr => ?_, by simp only [Fo.size]; omega⟩
  have := right_pre he hr
  simp [Fo.right, this.1, this.2]
theorem bk_ok (g : Fo) : ∀ i, i ≤ g.len → (bk g i).len = i ∧ (g.right = true → (bk g i).right = true) ∧ (bk g i).size ≤ i * g.size ∧ ∀ m u, (bk g i).has m u ↔ m < i ∧ g.has (g.len - 1 - m) u
  | 0, _ => ⟨rfl, fun _ => rfl, by simp [bk, Fo.size], fun m u => by simp [bk, Fo.has, Fo.len]⟩
  | i + 1, h => by
    obtain ⟨h1, h2, h3, h4⟩ := bk_ok g i (by omega)
    obtain ⟨e1, e2, e3, e4⟩ := at1_len (g := g) (j := g.len - 1 - i) (by omega)
    refine ⟨by simp only [bk, Fo.app_len, h1, e1], fun hr => by simp only [bk, Fo.app_right, h2 hr, e3 hr]; rfl, ?_, fun m u => ?_⟩
    · simp only [bk, Fo.app_size]
      rw [Nat.succ_mul]; omega
    · simp only [bk]
      rw [has_app, h4, h1]
      constructor
      · rintro (⟨h5, h6⟩ | ⟨h5, h6⟩)
        · exact ⟨by omega, h6⟩
        · have hm : m = i := by have := h6.1; rw [e1] at this; omega
          subst hm
          refine ⟨by omega, by omega, ?_⟩
          have := h6.2
          rw [Nat.sub_self] at this
          rw [← e2]
          simpa [Fo.drop] using this
      · rintro ⟨h5, h6⟩
        by_cases hm : m < i
        · exact .inl ⟨hm, h6⟩
        · have hm : m = i := by omega
          subst hm
          refine .inr ⟨Nat.le_refl _, by rw [e1]; omega, ?_⟩
          rw [Nat.sub_self]
          have := h6.2
          rw [← e2] at this
          simpa [Fo.drop] using this
theorem tag_twice {g : Fo} {u : List Nat} {t : Int} (h : TagIs g u t) : TagIs (g.app g) u t := by
  rcases h with ⟨rfl, h⟩ | ⟨m, rfl, h1, h2⟩
  · refine .inl ⟨rfl, fun m hm => ?_⟩
    rcases has_app.1 hm with h' | ⟨_, h'⟩
    · exact h m h'
    · exact h _ h'
  · refine .inr ⟨m, rfl, has_app.2 (.inl h1), fun m' hm' hh => ?_⟩
    rcases has_app.1 hh with h' | ⟨h3, h'⟩
    · exact h2 m' hm' h'
    · have := h1.1; omega
theorem tag_back {g : Fo} {u : List Nat} {a b : Int} (ha : TagIs g u a) (hb : TagIs (bk g g.len) u b) : (a < 0 ↔ b < 0) ∧ (0 ≤ a → a ≤ g.len - 1 - b) ∧ (g.len = 1 → a = b) := by
  obtain ⟨_, _, _, hk⟩ := bk_ok g g.len (Nat.le_refl _)
  rcases ha with ⟨rfl, h⟩ | ⟨m, rfl, h1, h2⟩ <;> rcases hb with ⟨rfl, h'⟩ | ⟨m', rfl, h1', h2'⟩
  · exact ⟨by omega, by omega, fun _ => rfl⟩
  · exact absurd ((hk m' u).1 h1').2 (h _)
  · refine absurd ((hk (g.len - 1 - m) u).2 ⟨by have := h1.1; omega, ?_⟩) (h' _)
    rw [show g.len - 1 - (g.len - 1 - m) = m by have := h1.1; omega]
    exact h1
  · obtain ⟨h3, h4⟩ := (hk m' u).1 h1'
    have h5 := h1.1
    have hle : m ≤ g.len - 1 - m' := Nat.le_of_not_lt fun hc => h2 _ hc h4
    exact ⟨by omega, by omega, by omega⟩
/-! ### The walk -/
structure SmallF (g : Fo) : Prop where
  l1 : 1 ≤ g.len
  l2 : g.len ≤ 200
  rt : g.right = true
  tot : g.total ≤ 20000
theorem bld_max {g : Fo} (h : SmallF g) : bld g 20000 = (((bldM g).2, (bldM g).1), 0) := by
  rw [bld_eq h.l1 h.l2 (by omega) (by omega) h.rt, if_neg (by have := h.tot; omega)]
theorem f89_ok (g : Fo) (hg : SmallF g) (A : Option Addr) (C : Nat) (q0 : Addr) (t : List Nat) (ht : ∀ x ∈ t, x < 256) (htl : t.length < 2 ^ 30) (w : World) (hr : RepF w A 0 g) (hq : w.cell? q0 = some (.string (bytesOf t))) :
    Ct Try.prog 89 #[.slice A g.len C, .pointer (some q0)] w fun v w' => (∃ a c, v = .slice a (nfRun (bldM g).2 (bldM g).1 t).length c ∧ OwnL w' w.heap.size 3 1 i1 a c (nfRun (bldM g).2 (bldM g).1 t)) ∧ Md [] w w' := by
  apply f89_in
  have g0 : Good [] w w := ⟨Md.refl _ _, by simp⟩
  have hright := (machine_right hg.l1 hg.l2 hg.rt hg.tot).1
  have hbl := bldM_len hg.l1 hg.rt hg.tot
  have htot := hg.tot
  have eR : runA (bldM g).2 (bldM g).1 t = (nfRun (bldM g).2 (bldM g).1 t, 0) := by unfold runA; rw [if_pos hright]
  have hal : (nfRun (bldM g).2 (bldM g).1 t).length = t.length + 1 := by simp only [nfRun, List.length_cons, runF_len]
  refine in66 g A C 20000 g0 hr (by have := hg.l2; omega) fun a6 c8 w2 g2 m2 own2 => ?_
  rw [bld_max hg] at own2 ⊢
  simp only at own2 ⊢
  refine rgU g2 fun n10 w11 g11 m11 => ?_
  have m011 := m2.trans m11
  refine Ld_in (m011.cell0 hq) <| opStr_in ?_
  refine in69 (bldM g).2 (bldM g).1 a6 c8 t ht g11 ((own2.md m11).row encNs) (by omega) htl fun a17 c19 w15 g15 m15 own15 => ?_
  rw [eR] at own15 ⊢
  have m015 := m011.trans m15
  refine Bd_e (y := false) rfl <| Bd_e (y := false) rfl <| Bd_e (y := false) rfl <| Bd_e rfl ?_
  refine Gd_in (fun _ => Ld_in (m015.cell0 hq) <| opStr_in ?_) (fun h => by cases h)
  refine Bd_e (y := (t.length : Int)) (by rw [nsz_bytesOf]) <| Bd_e (y := ((t.length + 1 : Nat) : Int)) (by rw [IntKind.wrap_i64]; omega) <| Bd_e (y := false) (by simp only [hal]; simp) <| Bd_e (y := false) rfl <| If_in (fun h => by cases h) fun _ => ?_
  exact ⟨⟨a17, c19, rfl, own15.down m011.size⟩, m015⟩
end Fk
