/- Which pieces of a text a tree has: the plain law. -/
import Derived.Test.YtpgjpgecgibklaaN26
set_option linter.unusedVariables false
set_option linter.unusedSimpArgs false
namespace Fk
open Go Go.Proofs Go.RowKit
/-- A piece of a text. -/
def seg (t : List Nat) (i j : Nat) : List Nat := (t.drop i).take (j - i)
theorem seg_nil {t : List Nat} {i j : Nat} (h : i ≤ j) (hj : j ≤ t.length) : seg t i j = [] ↔ i = j := by
  unfold seg
  constructor
  · intro e
    have := congrArg List.length e
    simp at this
    omega
  · rintro rfl; simp
theorem seg_len {t : List Nat} {i j : Nat} (h : i ≤ j) (hj : j ≤ t.length) : (seg t i j).length = j - i := by
  unfold seg; simp; omega
theorem seg_cat {t : List Nat} {i j k : Nat} (h : i ≤ k) (h2 : k ≤ j) : seg t i j = seg t i k ++ seg t k j := by
  unfold seg
  rw [show j - i = (k - i) + (j - k) by omega, List.take_add, List.drop_drop, show i + (k - i) = k by omega]
theorem seg_split {t : List Nat} {i j : Nat} (h : i ≤ j) (hj : j ≤ t.length) {v w : List Nat} (e : seg t i j = v ++ w) : ∃ k, i ≤ k ∧ k ≤ j ∧ v = seg t i k ∧ w = seg t k j := by
  have hl := seg_len h hj
  rw [e, List.length_append] at hl
  refine ⟨i + v.length, by omega, by omega, ?_, ?_⟩
  · have e2 := seg_cat (t := t) (i := i) (j := j) (k := i + v.length) (by omega) (by omega)
    rw [e] at e2
    exact (List.append_inj e2 (by rw [seg_len (by omega) (by omega)]; omega)).1
  · have e2 := seg_cat (t := t) (i := i) (j := j) (k := i + v.length) (by omega) (by omega)
    rw [e] at e2
    exact (List.append_inj e2 (by rw [seg_len (by omega) (by omega)]; omega)).2
/-- These bits are the pieces that a language has. -/
structure RelIs (t : List Nat) (R : List Nat) (La : List Nat → Prop) : Prop where
  len : R.length = t.length + 1
  lt : ∀ x ∈ R, x < 2 ^ 64
  bit : ∀ i (hi : i < R.length) j, (R[i].testBit j = true ↔ i ≤ j ∧ j ≤ t.length ∧ La (seg t i j))
theorem RelIs.congr {t R : List Nat} {La Lb : List Nat → Prop} (h : RelIs t R La) (hi : ∀ u, La u ↔ Lb u) : RelIs t R Lb := by
  have : La = Lb := funext fun u => propext (hi u)
  rw [← this]; exact h
def noneR (n : Nat) : List Nat := List.replicate (n + 1) 0
def stillR (n : Nat) : List Nat := (List.range (n + 1)).map (2 ^ ·)
def orB (x : Nat) : List Nat → Nat → Nat → Nat
  | [], _, acc => acc
  | y :: ys, k, acc => orB x ys (k + 1) (if x.testBit k = true then acc ||| y else acc)
def thenR (a b : List Nat) : List Nat := a.map fun x => orB x b 0 0
def orR (a b : List Nat) : List Nat := List.zipWith (· ||| ·) a b
def powR (n : Nat) (a : List Nat) : Nat → List Nat
  | 0 => stillR n
  | k + 1 => thenR (powR n a k) a
theorem none_is (t : List Nat) : RelIs t (noneR t.length) (fun _ => False) :=
  ⟨by simp [noneR], fun x hx => by simp [noneR] at hx; subst hx; decide, fun i hi j => by simp [noneR]⟩
theorem still_is (t : List Nat) (ht : t.length < 63) : RelIs t (stillR t.length) (fun u => u = []) := by
  refine ⟨by simp [stillR], fun x hx => ?_, fun i hi j => ?_⟩
  · simp only [stillR, List.mem_map, List.mem_range] at hx
    obtain ⟨k, hk, rfl⟩ := hx
    exact Nat.pow_lt_pow_right (by decide) (by omega)
  · simp only [stillR, List.length_map, List.length_range] at hi
    simp only [stillR, List.getElem_map, List.getElem_range, Nat.testBit_two_pow, decide_eq_true_eq]
    constructor
    · rintro rfl; exact ⟨Nat.le_refl _, by omega, (seg_nil (Nat.le_refl _) (by omega)).2 rfl⟩
    · rintro ⟨h1, h2, h3⟩; exact (seg_nil h1 h2).1 h3
theorem orB_bit (x j : Nat) : ∀ (b : List Nat) (k acc : Nat), ((orB x b k acc).testBit j = true ↔ acc.testBit j = true ∨ ∃ m, ∃ h : m < b.length, x.testBit (k + m) = true ∧ b[m].testBit j = true)
  | [], k, acc => by simp [orB]
  | y :: ys, k, acc => by
    unfold orB
    rw [orB_bit x j ys (k + 1)]
    constructor
    · rintro (h | ⟨m, hm, h1, h2⟩)
      · split at h
        · rename_i hx
          rw [Nat.testBit_or, Bool.or_eq_true] at h
          rcases h with h | h
          · exact .inl h
          · exact .inr ⟨0, by simp, by simpa using hx, by simpa using h⟩
        · exact .inl h
      · exact .inr ⟨m + 1, by simpa using hm, by rw [show k + (m + 1) = k + 1 + m by omega]; exact h1, by simpa using h2⟩
    · rintro (h | ⟨m, hm, h1, h2⟩)
      · left
        split
        · rw [Nat.testBit_or, h]; rfl
        · exact h
      · cases m with
        | zero =>
          left
          simp at h1 h2
          rw [if_pos h1, Nat.testBit_or, h2, Bool.or_true]
        | succ m => exact .inr ⟨m, by simpa using hm, by rw [show k + 1 + m = k + (m + 1) by omega]; exact h1, by simpa using h2⟩
theorem orB_lt (x : Nat) : ∀ (b : List Nat) (k acc : Nat), (∀ y ∈ b, y < 2 ^ 64) → acc < 2 ^ 64 → orB x b k acc < 2 ^ 64
  | [], k, acc, _, h => h
  | y :: ys, k, acc, hb, h => by
    unfold orB
    refine orB_lt x ys _ _ (fun z hz => hb z (by simp [hz])) ?_
    split
    · exact Nat.or_lt_two_pow h (hb y (by simp))
    · exact h
theorem then_is {t a b : List Nat} {La Lb : List Nat → Prop} (ha : RelIs t a La) (hb : RelIs t b Lb) : RelIs t (thenR a b) (fun u => ∃ v w, u = v ++ w ∧ La v ∧ Lb w) := by
  refine ⟨by simp [thenR, ha.len], fun x hx => ?_, fun i hi j => ?_⟩
  · simp only [thenR, List.mem_map] at hx
    obtain ⟨y, hy, rfl⟩ := hx
    exact orB_lt _ _ _ _ hb.lt (by decide)
  · simp only [thenR, List.length_map] at hi
    simp only [thenR, List.getElem_map]
    rw [orB_bit]
    simp only [Nat.zero_testBit, Bool.false_eq_true, false_or, Nat.zero_add]
    constructor
    · rintro ⟨m, hm, h1, h2⟩
      obtain ⟨g1, g2, g3⟩ := (ha.bit i hi m).1 h1
      obtain ⟨g4, g5, g6⟩ := (hb.bit m hm j).1 h2
      exact ⟨by omega, g5, _, _, seg_cat g1 g4, g3, g6⟩
    · rintro ⟨h1, h2, v, w, e, hv, hw⟩
      obtain ⟨k, k1, k2, rfl, rfl⟩ := seg_split h1 h2 e
      have hkb : k < b.length := by rw [hb.len]; omega
      exact ⟨k, hkb, (ha.bit i hi k).2 ⟨k1, by omega, hv⟩, (hb.bit k hkb j).2 ⟨k2, h2, hw⟩⟩
theorem or_is {t a b : List Nat} {La Lb : List Nat → Prop} (ha : RelIs t a La) (hb : RelIs t b Lb) : RelIs t (orR a b) (fun u => La u ∨ Lb u) := by
  have hl : (orR a b).length = t.length + 1 := by simp [orR, ha.len, hb.len]
  refine ⟨hl, fun x hx => ?_, fun i hi j => ?_⟩
  · obtain ⟨i, hi, rfl⟩ := List.getElem_of_mem hx
    simp only [orR, List.getElem_zipWith]
    exact Nat.or_lt_two_pow (ha.lt _ (List.getElem_mem _)) (hb.lt _ (List.getElem_mem _))
  · have h1 : i < a.length := by rw [ha.len]; omega
    have h2 : i < b.length := by rw [hb.len]; omega
    simp only [orR, List.getElem_zipWith]
    rw [Nat.testBit_or, Bool.or_eq_true, ha.bit i h1 j, hb.bit i h2 j]
    constructor
    · rintro (⟨g1, g2, g3⟩ | ⟨g1, g2, g3⟩)
      · exact ⟨g1, g2, .inl g3⟩
      · exact ⟨g1, g2, .inr g3⟩
    · rintro ⟨g1, g2, g3 | g3⟩
      · exact .inl ⟨g1, g2, g3⟩
      · exact .inr ⟨g1, g2, g3⟩
/-- So many pieces, one behind the other. -/
def PowL (La : List Nat → Prop) : Nat → List Nat → Prop
  | 0, u => u = []
  | k + 1, u => ∃ v w, u = v ++ w ∧ PowL La k v ∧ La w
theorem pow_is {t a : List Nat} {La : List Nat → Prop} (ht : t.length < 63) (ha : RelIs t a La) : ∀ k, RelIs t (powR t.length a k) (PowL La k)
  | 0 => still_is t ht
  | k + 1 => then_is (pow_is ht ha k) ha
theorem StarL.snoc {La : List Nat → Prop} {u v : List Nat} (h : StarL La u) (hv : La v) : StarL La (u ++ v) := by
  induction h with
  | nil => have := StarL.app hv .nil; simpa using this
  | app h1 _ ih => rw [List.append_assoc]; exact .app h1 ih
theorem PowL.cons {La : List Nat → Prop} {v : List Nat} (hv : La v) : ∀ {k : Nat} {u : List Nat}, PowL La k u → PowL La (k + 1) (v ++ u)
  | 0, u, h => by
    have h : u = [] := h
    subst h
    exact ⟨[], v, by simp, rfl, hv⟩
  | k + 1, u, h => by
    obtain ⟨x, w, rfl, hx, hw⟩ := h
    exact ⟨v ++ x, w, by rw [List.append_assoc], PowL.cons hv hx, hw⟩
theorem pow_eps {La : List Nat → Prop} {u : List Nat} : ∀ {k : Nat}, PowL (fun x => La x ∨ x = []) k u → ∀ m, k ≤ m → PowL (fun x => La x ∨ x = []) m u := by
  intro k h m hm
  induction m with
  | zero =>
    have : k = 0 := by omega
    subst this; exact h
  | succ m ih =>
    by_cases c : k ≤ m
    · exact ⟨u, [], by simp, ih c, .inr rfl⟩
    · have : k = m + 1 := by omega
      subst this; exact h
theorem star_pow {La : List Nat → Prop} {u : List Nat} (m : Nat) (hu : u.length ≤ m) : StarL La u ↔ PowL (fun x => La x ∨ x = []) m u := by
  constructor
  · intro h
    refine pow_eps (k := u.length) ?_ m hu
    clear hu
    induction h with
    | nil => rfl
    | @app v w hv _ ih =>
      rw [List.length_append]
      cases v with
      | nil => simpa using ih
      | cons x v =>
        have := PowL.cons (La := fun x => La x ∨ x = []) (.inl hv) ih
        exact pow_eps this _ (by simp; omega)
  · intro h
    clear hu
    induction m generalizing u with
    | zero =>
      have h : u = [] := h
      subst h; exact .nil
    | succ m ih =>
      obtain ⟨v, w, rfl, hv, hw⟩ := h
      rcases hw with hw | rfl
      · exact (ih hv).snoc hw
      · rw [List.append_nil]; exact ih hv
end Fk
