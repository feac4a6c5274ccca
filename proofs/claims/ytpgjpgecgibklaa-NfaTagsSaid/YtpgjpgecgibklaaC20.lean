/- Contracts: second machines, names, rows of texts and of numbers. -/
import Derived.Test.YtpgjpgecgibklaaC10
import Derived.Test.YtpgjpgecgibklaaV2
set_option linter.unusedVariables false
set_option linter.unusedSimpArgs false
set_option maxRecDepth 100000
namespace Fk
open Go Go.Proofs Go.RowKit
def i1 (x : Int) : List Value := [.int .i64 x]
def s1 (s : ByteArray) : List Value := [.string s]
theorem enci1 : Enc 1 i1 := ⟨fun _ => rfl, by intro x v hv; simp [i1] at hv; subst hv; rfl⟩
theorem encs1 : Enc 1 s1 := ⟨fun _ => rfl, by intro x v hv; simp [s1] at hv; subst hv; rfl⟩
theorem RowAt.ld1 {α : Type} {w : World} {A : Option Addr} {enc : α → List Value} {l : List α} (h : RowAt w A 1 enc l) {i : Nat} (hi : i < l.length) {v : Value} (hv : (enc l[i])[0]? = some v) {K : Value → Prop} (k : K v) : Ld w (adAt A (i : Int) 1) K := by
  obtain ⟨B, rfl, hc⟩ := h i l[i] (List.getElem?_eq_getElem hi)
  have := hc 0 v hv
  rw [addr_add0] at this
  exact Ld_in this k
where addr_add0 (A : Addr) : A.add 0 = A := by unfold Addr.add; simp
theorem f90_ok (dm : Int) (na ta : Option Addr) (nn nc tn tc : Nat) (w : World) : Ct Try.prog 90 #[.agg #[.int .i64 dm, .slice na nn nc, .slice ta tn tc]] w fun v w' => v = .bool (decide (tn ≤ 60) && decide (nn ≤ 2400)) ∧ Md [] w w' := by
  apply f90_in
  intro n1 hn1
  refine Bd_in fun x2 hx2 => Bd_in fun b3 hb3 => Bd_in fun x4 hx4 => Bd_in fun b5 hb5 => Bd_in fun b6 hb6 w7 h7 hL7 => ⟨?_, h7⟩
  rw [hb6, hb5, hb3, hx4, hx2]
  have e1 : ((tn : Int) ≤ 60) = (tn ≤ 60) := by apply propext; omega
  have e2 : ((nn : Int) ≤ 2400) = (nn ≤ 2400) := by apply propext; omega
  simp only [e1, e2]
  cases decide (tn ≤ 60) <;> rfl
/-- Which second machines are right. -/
def dRight (dm : Int) (next tags : List Int) : Bool :=
  decide (1 ≤ dm ∧ dm ≤ 256 ∧ 1 ≤ tags.length ∧ tags.length ≤ 5000 ∧ (next.length : Int) = dm * tags.length) && (tags.all fun x => decide (-1 ≤ x ∧ x < 200)) && (next.all fun x => decide (-1 ≤ x ∧ x < tags.length))
theorem mul_i64 {dm : Int} {n : Nat} (h1 : 1 ≤ dm) (h2 : dm ≤ 256) (h3 : n ≤ 5000) : IntKind.wrap .i64 (dm * (n : Int)) = dm * n := by
  have h4 : dm * (n : Int) ≤ 256 * 5000 := Int.mul_le_mul h2 (by omega) (by omega) (by omega)
  have h5 : 0 ≤ dm * (n : Int) := Int.mul_nonneg (by omega) (by omega)
  rw [IntKind.wrap_i64]; omega
theorem all_take {α : Type} {p : α → Bool} {l : List α} {i : Nat} (hi : i < l.length) (h : (l.take i).all p = true) (hp : p l[i] = true) : (l.take (i + 1)).all p = true := by
  rw [List.take_succ_eq_append_getElem hi, List.all_append, h]; simp [hp]
theorem all_false {α : Type} {p : α → Bool} {l : List α} {i : Nat} (hi : i < l.length) (hp : p l[i] = false) : l.all p = false := by
  rw [List.all_eq_false]; exact ⟨l[i], List.getElem_mem hi, by simp [hp]⟩
theorem inc_len {i n : Nat} (h : i < n) (hn : n < 2 ^ 63) : IntKind.wrap .i64 ((i : Int) + 1) = ((i + 1 : Nat) : Int) := by rw [IntKind.wrap_i64]; omega
theorem f72_ok (dm : Int) (next tags : List Int) (na ta : Option Addr) (nc tc : Nat) (w : World) (hn : RowAt w na 1 i1 next) (ht : RowAt w ta 1 i1 tags) (hnl : next.length < 2 ^ 63) (htl : tags.length < 2 ^ 63) :
    Ct Try.prog 72 #[.agg #[.int .i64 dm, .slice na next.length nc, .slice ta tags.length tc]] w fun v w' => v = .bool (dRight dm next tags) ∧ Md [] w w' := by
  apply f72_in
  intro n1 hn1
  refine Bd_in fun x2 hx2 => Bd_in fun b3 hb3 => Bd_in fun b4 hb4 => Bd_in fun b5 hb5 => Bd_in fun b6 hb6 => Bd_in fun b7 hb7 => Bd_in fun b8 hb8 => Bd_in fun b9 hb9 => Bd_in fun x10 hx10 => Bd_in fun x11 hx11 => Bd_in fun b12 hb12 => Bd_in fun b13 hb13 => ?_
  subst hx2; subst hx10
  have e13 : b13 = !decide (1 ≤ dm ∧ dm ≤ 256 ∧ 1 ≤ tags.length ∧ tags.length ≤ 5000 ∧ (next.length : Int) = dm * tags.length) := by
    rw [hb13, hb12, hb9, hb8, hb7, hb6, hb5, hb4, hb3]
    by_cases h1 : 1 ≤ dm
    · by_cases h2 : dm ≤ 256
      · by_cases h3 : 1 ≤ tags.length
        · by_cases h4 : tags.length ≤ 5000
          · rw [hx11, mul_i64 h1 h2 h4]
            have a1 : ¬ dm < 1 := by omega
            have a2 : ¬ 256 < dm := by omega
            have a3 : ¬ (tags.length : Int) < 1 := by omega
            have a4 : ¬ (5000 : Int) < (tags.length : Int) := by omega
            simp only [a1, a2, a3, a4, gt_iff_lt, decide_false, cond_false, h1, h2, h3, h4, true_and]
            by_cases h5 : (next.length : Int) = dm * tags.length <;> simp [h5]
          · have a4 : (5000 : Int) < (tags.length : Int) := by omega
            simp [h4, a4]
        · have a3 : (tags.length : Int) < 1 := by omega
          simp [h3, a3]
      · have a2 : 256 < dm := by omega
        simp [h2, a2]
    · have a1 : dm < 1 := by omega
      simp [h1, a1]
  refine If_in (fun h w14 h14 hL14 => ⟨?_, h14⟩) fun h => Bd_in fun x15 hx15 w16 h16 hL16 => ?_
  · rw [e13] at h
    have : decide (1 ≤ dm ∧ dm ≤ 256 ∧ 1 ≤ tags.length ∧ tags.length ≤ 5000 ∧ (next.length : Int) = dm * tags.length) = false := by rw [Bool.not_eq_true'] at h; exact h
    unfold dRight
    rw [this]; rfl
  have hd : decide (1 ≤ dm ∧ dm ≤ 256 ∧ 1 ≤ tags.length ∧ tags.length ≤ 5000 ∧ (next.length : Int) = dm * tags.length) = true := by rw [e13, Bool.not_eq_false'] at h; exact h
  subst hx15
  refine LoopP_in (fun m us vs w' => ∃ i : Nat, us = [.bool false, .int .i64 i] ∧ m = tags.length - i ∧ i ≤ tags.length ∧ (tags.take i).all (fun x => decide (-1 ≤ x ∧ x < 200)) = true ∧ Md [] w w') tags.length ⟨0, rfl, rfl, by omega, by simp, h16⟩ ?_
  rintro m us vs w20 ⟨i, rfl, rfl, hi, hall, h20⟩
  refine opB_in <| opI_in <| Bd_in fun b23 hb23 => If_in (fun hb => ?_) fun hb => ?_
  · subst hb23
    simp only [decide_eq_true_eq, Int.ofNat_lt] at hb
    refine ⟨ht.ix hb, (ht.md h20).ld1 hb rfl ?_⟩
    refine opI_in <| Bd_in fun b26 hb26 => Bd_in fun b27 hb27 => Bd_in fun b28 hb28 => If_in (fun h => ⟨?_, h20⟩) fun h => Bd_in fun x29 hx29 => ?_
    · have : (tags.all fun x => decide (-1 ≤ x ∧ x < 200)) = false := all_false hb (by
        rw [hb28, hb27, hb26] at h
        rw [decide_eq_false_iff_not]
        by_cases h1 : tags[i] < -1
        · omega
        · simp [h1] at h; omega)
      unfold dRight
      rw [this]; simp
    · rw [inc_len hb htl] at hx29
      subst hx29
      refine ⟨tags.length - (i + 1), by omega, i + 1, rfl, rfl, by omega, all_take hb hall ?_, h20⟩
      rw [hb28, hb27, hb26] at h
      rw [decide_eq_true_eq]
      by_cases h1 : tags[i] < -1
      · simp [h1] at h
      · simp [h1] at h; omega
  · subst hb23
    simp only [decide_eq_false_iff_not, Int.ofNat_lt] at hb
    rw [List.take_of_length_le (by omega)] at hall
    refine Bd_in fun x30 hx30 => ?_
    subst hx30
    refine LoopP_in (fun m us vs w' => ∃ i : Nat, us = [.bool false, .int .i64 i] ∧ m = next.length - i ∧ i ≤ next.length ∧ (next.take i).all (fun x => decide (-1 ≤ x ∧ x < tags.length)) = true ∧ Md [] w w') next.length ⟨0, rfl, rfl, by omega, by simp, h20⟩ ?_
    rintro m us vs w34 ⟨j, rfl, rfl, hj, hall2, h34⟩
    refine opB_in <| opI_in <| Bd_in fun b37 hb37 => If_in (fun hb => ?_) fun hb => ⟨?_, h34⟩
    · subst hb37
      simp only [decide_eq_true_eq, Int.ofNat_lt] at hb
      refine ⟨hn.ix hb, (hn.md h34).ld1 hb rfl ?_⟩
      refine opI_in <| Bd_in fun b40 hb40 => Bd_in fun b41 hb41 => Bd_in fun b42 hb42 => If_in (fun h => ⟨?_, h34⟩) fun h => Bd_in fun x43 hx43 => ?_
      · have : (next.all fun x => decide (-1 ≤ x ∧ x < tags.length)) = false := all_false hb (by
          rw [hb42, hb41, hb40] at h
          rw [decide_eq_false_iff_not]
          by_cases h1 : next[j] < -1
          · omega
          · simp [h1] at h; omega)
        unfold dRight
        rw [this]; simp
      · rw [inc_len hb hnl] at hx43
        subst hx43
        refine ⟨next.length - (j + 1), by omega, j + 1, rfl, rfl, by omega, all_take hb hall2 ?_, h34⟩
        rw [hb42, hb41, hb40] at h
        rw [decide_eq_true_eq]
        by_cases h1 : next[j] < -1
        · simp [h1] at h
        · simp [h1] at h; omega
    · subst hb37
      simp only [decide_eq_false_iff_not, Int.ofNat_lt] at hb
      rw [List.take_of_length_le (by omega)] at hall2
      unfold dRight
      rw [hd, hall, hall2]; rfl
end Fk
