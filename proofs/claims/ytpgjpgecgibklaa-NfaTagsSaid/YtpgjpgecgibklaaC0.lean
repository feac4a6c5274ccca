/- Contracts: how many nodes, and whether trees are few. -/
import Derived.Test.YtpgjpgecgibklaaTT
import Derived.Test.YtpgjpgecgibklaaV0
set_option linter.unusedVariables false
namespace Fk
open Go Go.Proofs Go.RowKit
theorem f84_ok : ∀ (s : Nat) (fo : Fo) (k a b c d : Int) (sa : Option Addr) (sc : Nat) (m : Int) (w : World), fo.size ≤ s → RepF w sa 0 fo → fo.len < 2 ^ 63 → 0 ≤ m → m ≤ 1000 →
    Ct Try.prog 84 #[.agg #[.int .u8 k, .int .u64 a, .int .u64 b, .int .u64 c, .int .u64 d, .slice sa fo.len sc], .int .i64 m] w
      fun v w' => (∃ x, v = .int .i64 x ∧ 1 ≤ x ∧ x ≤ m + 1 ∧ (x ≤ m → x = fo.size + 1)) ∧ Md [] w w' := by
  intro s
  induction s with
  | zero => ?_
  | succ s ih => ?_
  all_goals
    intro fo k a b c d sa sc m w hs hr hl hm0 hm1
    apply f84_in
    intro n1 hn1
    refine Bd_in fun x2 hx2 => ?_
    intro w3 h3 hL3
    refine LoopP_in (fun q us vs w' => ∃ (y : Int) (i : Nat) (r : Fo), us = [.int .i64 0, .int .i64 y, .int .i64 i] ∧ vs = [] ∧ q = r.len ∧ i + r.len = fo.len ∧ r.size ≤ fo.size ∧ RepF w sa i r ∧ Md [] w w' ∧ n1 < w'.heap.size ∧ 1 ≤ y ∧ y ≤ m + 1 ∧ (y ≤ m → y + r.size = fo.size + 1))
      fo.len ⟨1, 0, fo, rfl, rfl, rfl, by omega, by omega, hr, h3, hL3 _ (by simp), by omega, by omega, by omega⟩ ?_
    rintro q us vs w7 ⟨y, i, r, rfl, rfl, rfl, hi, hrs, hri, h7, hn7, hy1, hym, hyr⟩
    refine opI_in <| opI_in <| opI_in ?_
    refine Bd_in fun b11 hb11 => If_in (fun hb => ?_) fun hb => ?_
    rotate_left
    · subst hx2; subst hb11
      simp only [decide_eq_false_iff_not, Int.ofNat_lt] at hb
      refine ⟨⟨_, rfl, hy1, hym, fun h => ?_⟩, h7⟩
      have := hyr h
      cases r with
      | nil => simp only [Fo.size] at this; omega
      | cons => simp only [Fo.len] at hi; omega
    subst hx2; subst hb11
    simp only [decide_eq_true_eq, Int.ofNat_lt] at hb
    refine Bd_in fun b12 hb12 => If_in (fun hc => Bd_in fun x13 hx13 => ⟨⟨_, rfl, ?_⟩, h7⟩) fun hc => ?_
    · rw [hx13, IntKind.wrap_i64]; subst hb12; simp only [decide_eq_true_eq] at hc; omega
    subst hb12; simp only [decide_eq_false_iff_not] at hc
    cases r with
    | nil => simp [Fo.len] at hi; omega
    | cons k' a' b' c' d' q' r' => ?_
    obtain ⟨B, sa', sc', rfl, hc', hql, hq, hr'⟩ := hri.at
    simp only [Fo.len, Fo.size] at hi hrs hyr
  · omega
  · refine ⟨⟨by omega, by omega, rfl⟩, ?_⟩
    refine ReC.ld (hc'.md h7) ?_
    refine Bd_in fun x28 hx28 => ?_
    have e28 : x28 = m - y := by rw [hx28, IntKind.wrap_i64]; omega
    subst e28
    refine (ih q' _ _ _ _ _ _ _ _ _ (by omega) (hq.md h7) hql (by omega) (by omega)).call (by simpa using hn7) ?_
    rintro v29 w30 ⟨x, rfl, hx1, hx2, hx3⟩ h30
    refine opI_in <| Bd_in fun x32 hx32 => Bd_in fun x33 hx33 => ?_
    have e : x33 = ((i + 1 : Nat) : Int) := by rw [hx33, IntKind.wrap_i64]; omega
    subst e
    have e : x32 = y + x := by rw [hx32, IntKind.wrap_i64]; omega
    subst e
    exact ⟨r'.len, by simp [Fo.len], _, i + 1, r', rfl, rfl, rfl, by omega, by omega, hr', h7.trans h30, Nat.lt_of_lt_of_le hn7 h30.size, by omega, by omega, fun h => by have := hx3 (by omega); have := hyr (by omega); omega⟩

/-- Few trees, and small ones. -/
def Fo.few (fo : Fo) : Prop := fo.len ≤ 6 ∧ fo.size ≤ 1200
theorem f38_ok (fo : Fo) (A : Option Addr) (c : Nat) (w : World) (hr : RepF w A 0 fo) (hl : fo.len < 2 ^ 63) :
    Ct Try.prog 38 #[.slice A fo.len c] w fun v w' => (∃ b, v = .bool b ∧ (b = true → fo.few)) ∧ Md [] w w' := by
  apply f38_in
  refine Bd_in fun x1 hx1 => ?_
  subst hx1
  refine LoopP_in (fun q us vs w' => ∃ (i : Nat) (r : Fo), us = [.bool false, .int .i64 i] ∧ vs = [] ∧ q = r.len ∧ i + r.len = fo.len ∧ RepF w A i r ∧ Md [] w w' ∧ i ≤ 6 ∧ fo.size ≤ r.size + 200 * i)
    fo.len ⟨0, fo, rfl, rfl, rfl, by omega, hr, Md.refl _ _, by omega, by omega⟩ ?_
  rintro q us vs w5 ⟨i, r, rfl, rfl, rfl, hi, hri, h5, hi6, hsz⟩
  refine opB_in <| opI_in <| Bd_in fun b8 hb8 => If_in (fun hb => ?_) fun hb => ⟨⟨_, rfl, fun _ => ?_⟩, h5⟩
  rotate_left
  · subst hb8
    simp only [decide_eq_false_iff_not, Int.ofNat_lt] at hb
    cases r with
    | nil => simp only [Fo.len, Fo.size] at hi hsz; exact ⟨by omega, by omega⟩
    | cons => simp only [Fo.len] at hi; omega
  subst hb8
  simp only [decide_eq_true_eq, Int.ofNat_lt] at hb
  cases r with
  | nil => simp [Fo.len] at hi; omega
  | cons k' a' b' c' d' q' r' => ?_
  obtain ⟨B, sa', sc', rfl, hc, hql, hq, hr'⟩ := hri.at
  simp only [Fo.len, Fo.size] at hi hsz
  refine ⟨⟨by omega, by omega, rfl⟩, ?_⟩
  refine ReC.ld (hc.md h5) ?_
  intro n23 hn23
  refine Bd_in fun b24 hb24 => ?_
  intro w25 h25 hL25
  have h25' := h5.old h25 (by simpa using Nat.le_trans h5.size hn23)
  refine Gd_to (fun x w' => (b24 = false → x ≤ 200 → x = q'.size + 1) ∧ Md [] w w') (fun x w31 hx => ?_) (fun fin hg => ?_) fun hg => ?_
  · obtain ⟨hx, h31⟩ := hx
    refine Bd_in fun b32 hb32 => Bd_in fun b33 hb33 => If_in (fun _ => ⟨⟨_, rfl, by simp⟩, h31⟩) fun hf => Bd_in fun x34 hx34 => ?_
    have e : x34 = ((i + 1 : Nat) : Int) := by rw [hx34, IntKind.wrap_i64]; omega
    subst e
    have hf : (i : Int) < 6 ∧ x ≤ 200 := by simpa [hb33, hb32, hb24] using hf
    have := hx (by rw [hb24]; simp; omega) hf.2
    exact ⟨r'.len, by simp [Fo.len], i + 1, r', rfl, rfl, rfl, by omega, hr', h31, by omega, by omega⟩
  · refine (f84_ok _ q' _ _ _ _ _ _ _ _ _ (Nat.le_refl _) (hq.md h25') hql (by omega) (by omega)).call hL25 ?_
    rintro v27 w28 ⟨x, rfl, hx1, hx2, hx3⟩ h28
    exact opI_in (fin _ _ ⟨fun _ => hx3, h25'.trans h28⟩)
  · exact ⟨fun h => by rw [h] at hg; simp at hg, h25'⟩
end Fk
