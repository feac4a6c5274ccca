/- Plain laws: classes of one set, and of sets of one byte. -/
import Derived.Test.YtpgjpgecgibklaaP1
import Derived.Test.YtpgjpgecgibklaaC9
set_option linter.unusedVariables false
set_option linter.unusedSimpArgs false
set_option linter.unusedSectionVars false
set_option maxRecDepth 100000
namespace Fk
open Go Go.Proofs Go.RowKit
def okW (x : Int) : Prop := 0 ≤ x ∧ x < 18446744073709551616
def okQ (q : Q4) : Prop := okW q.1 ∧ okW q.2.1 ∧ okW q.2.2.1 ∧ okW q.2.2.2
theorem bit_nat (n s : Nat) : ((n : Int) / 2 ^ s % 2 = 1) ↔ n.testBit s = true := by
  rw [Nat.testBit_eq_decide_div_mod_eq, decide_eq_true_eq]
  have : (n : Int) / 2 ^ s % 2 = ((n / 2 ^ s % 2 : Nat) : Int) := by simp
  rw [this]; omega
theorem some_bit {x : Int} (h : okW x) (h0 : x ≠ 0) : ∃ s, s < 64 ∧ x / 2 ^ s % 2 = 1 := by
  obtain ⟨n, rfl⟩ := Int.eq_ofNat_of_zero_le h.1
  have hn : n ≠ 0 := by omega
  obtain ⟨s, hs⟩ := Nat.exists_testBit_of_ne_zero hn
  refine ⟨s, ?_, (bit_nat n s).2 hs⟩
  rcases Nat.lt_or_ge s 64 with h1 | h1
  · exact h1
  · have h2 := h.2
    have : n < 2 ^ s := Nat.lt_of_lt_of_le (show n < 2 ^ 64 by omega) (Nat.pow_le_pow_right (by decide) h1)
    rw [Nat.testBit_lt_two_pow this] at hs
    cases hs
theorem no_bit {x : Int} (h : okW x) (h1 : x ≠ 18446744073709551615) : ∃ s, s < 64 ∧ ¬ x / 2 ^ s % 2 = 1 := by
  obtain ⟨n, rfl⟩ := Int.eq_ofNat_of_zero_le h.1
  have h2 := h.2
  have hn : 2 ^ 64 - (n + 1) ≠ 0 := by omega
  obtain ⟨s, hs⟩ := Nat.exists_testBit_of_ne_zero hn
  rw [Nat.testBit_two_pow_sub_succ (by omega)] at hs
  simp only [Bool.and_eq_true, decide_eq_true_eq, Bool.not_eq_true'] at hs
  exact ⟨s, hs.1, fun hc => by rw [(bit_nat n s).1 hc] at hs; simp at hs⟩
theorem all_bits (s : Nat) (hs : s < 64) : (18446744073709551615 : Int) / 2 ^ s % 2 = 1 := by
  have := (bit_nat (2 ^ 64 - 1) s).2 (by rw [Nat.testBit_two_pow_sub_one]; simp [hs])
  simpa using this
theorem inQ_of (q : Q4) (i s : Nat) (hs : s < 64) : inQ q (i * 64 + s) = decide (word q i / 2 ^ s % 2 = 1) := by
  unfold inQ
  rw [show (i * 64 + s) / 64 = i by omega, show (i * 64 + s) % 64 = s by omega]
theorem has_byte {q : Q4} (h : okQ q) (h0 : z4 q.1 q.2.1 q.2.2.1 q.2.2.2 = false) : ∃ b, b < 256 ∧ inQ q b = true := by
  have go : ∀ i, i < 4 → okW (word q i) → word q i ≠ 0 → ∃ b, b < 256 ∧ inQ q b = true := by
    intro i hi hw hne
    obtain ⟨s, hs, hb⟩ := some_bit hw hne
    exact ⟨i * 64 + s, by omega, by rw [inQ_of q i s hs]; simpa using hb⟩
  by_cases h1 : q.1 = 0
  · by_cases h2 : q.2.1 = 0
    · by_cases h3 : q.2.2.1 = 0
      · by_cases h4 : q.2.2.2 = 0
        · simp [z4, h1, h2, h3, h4] at h0
        · exact go 3 (by omega) h.2.2.2 h4
      · exact go 2 (by omega) h.2.2.1 h3
    · exact go 1 (by omega) h.2.1 h2
  · exact go 0 (by omega) h.1 h1
def full (q : Q4) : Bool := decide ([q.1, q.2.1, q.2.2.1, q.2.2.2] = [18446744073709551615, 18446744073709551615, 18446744073709551615, 18446744073709551615])
theorem lacks_byte {q : Q4} (h : okQ q) (h0 : full q = false) : ∃ b, b < 256 ∧ inQ q b = false := by
  have go : ∀ i, i < 4 → okW (word q i) → word q i ≠ 18446744073709551615 → ∃ b, b < 256 ∧ inQ q b = false := by
    intro i hi hw hne
    obtain ⟨s, hs, hb⟩ := no_bit hw hne
    exact ⟨i * 64 + s, by omega, by rw [inQ_of q i s hs]; simpa using hb⟩
  by_cases h1 : q.1 = 18446744073709551615
  · by_cases h2 : q.2.1 = 18446744073709551615
    · by_cases h3 : q.2.2.1 = 18446744073709551615
      · by_cases h4 : q.2.2.2 = 18446744073709551615
        · simp [full, h1, h2, h3, h4] at h0
        · exact go 3 (by omega) h.2.2.2 h4
      · exact go 2 (by omega) h.2.2.1 h3
    · exact go 1 (by omega) h.2.1 h2
  · exact go 0 (by omega) h.1 h1
theorem full_has {q : Q4} (h : full q = true) {b : Nat} (hb : b < 256) : inQ q b = true := by
  have h : [q.1, q.2.1, q.2.2.1, q.2.2.2] = [18446744073709551615, 18446744073709551615, 18446744073709551615, 18446744073709551615] := by simpa only [full, decide_eq_true_eq] using h
  simp only [List.cons.injEq, and_true] at h
  have hw : ∀ i, word q i = 18446744073709551615 := fun i => by
    rcases i with _ | _ | _ | i
    · exact h.1
    · exact h.2.1
    · exact h.2.2.1
    · exact h.2.2.2
  unfold inQ
  rw [hw, decide_eq_true_eq]
  exact all_bits _ (Nat.mod_lt _ (by decide))
theorem two_many {q : Q4} (h : okQ q) (h0 : z4 q.1 q.2.1 q.2.2.1 q.2.2.2 = false) : (refCl [q]).m = if full q = true then 1 else 2 := by
  have hc := num_congr (sig [q]) (inQ q) 256 fun a b _ _ => by rw [sig_iff]; simp
  rw [ref_m, hc.2]
  have hn := numGo_nodup ((List.range 256).map (inQ q)) [] (by simp)
  have hm := fun b (hb : b < 256) => num_mem (inQ q) 256 hb
  have hsub := numGo_sub ((List.range 256).map (inQ q)) []
  generalize (numGo ((List.range 256).map (inQ q)) []).2 = F at *
  obtain ⟨b1, hb1, ht⟩ := has_byte h h0
  have t1 := hm b1 hb1
  rw [ht] at t1
  by_cases hf : full q = true
  · rw [if_pos hf]
    have h1 := nodup_le F [true] hn fun x hx => by
      rcases hsub x hx with h2 | h2
      · simp at h2
      · obtain ⟨b, hb, rfl⟩ := List.mem_map.1 h2
        rw [full_has hf (List.mem_range.1 hb)]; simp
    have h2 := List.length_pos_of_mem t1
    simp at h1
    omega
  · rw [if_neg hf]
    obtain ⟨b2, hb2, hff⟩ := lacks_byte h (by simpa using hf)
    have t2 := hm b2 hb2
    rw [hff] at t2
    have h1 := nodup_le F [true, false] hn fun x _ => by cases x <;> simp
    have h2 := nodup_le [true, false] F (by simp) fun x _ => by cases x <;> assumption
    simp at h1 h2
    omega
/-! ### Sets of one byte -/
theorem orW_one : ∀ s, s < 64 → orW 0 s = 2 ^ s := by decide +kernel
theorem pow_bit : ∀ s, s < 64 → ∀ t, t < 64 → (((2 : Int) ^ s / 2 ^ t % 2 = 1) ↔ t = s) := by decide +kernel
theorem word_one (b i : Nat) (hb : b < 256) (hi : i < 4) : word (setQ [b]) i = if i = b / 64 then 2 ^ (b % 64) else 0 := by
  have h4 : b / 64 < 4 := by omega
  have hw := orW_one (b % 64) (Nat.mod_lt _ (by decide))
  simp only [setQ, List.foldl_cons, List.foldl_nil, orQ]
  generalize b / 64 = k at *
  rw [hw]
  rcases k with _ | _ | _ | _ | k <;> rcases i with _ | _ | _ | _ | i <;> first | rfl | omega
theorem inQ_one (b i : Nat) (hb : b < 256) (hi : i < 256) : inQ (setQ [b]) i = decide (i = b) := by
  unfold inQ
  rw [word_one b (i / 64) hb (by omega)]
  congr 1
  apply propext
  by_cases h : i / 64 = b / 64
  · rw [if_pos h, pow_bit _ (Nat.mod_lt _ (by decide)) _ (Nat.mod_lt _ (by decide))]
    omega
  · rw [if_neg h]
    simp
    omega
def singles (m : Nat) : List Q4 := (List.range m).map fun b => setQ [b]
theorem singles_succ (m : Nat) : singles (m + 1) = singles m ++ [setQ [m]] := by simp [singles, List.range_succ]
theorem singles_sig (m : Nat) (hm : m < 256) {a b : Nat} (ha : a < 256) (hb : b < 256) : sig (singles m) a = sig (singles m) b ↔ min a m = min b m := by
  rw [sig_iff]
  constructor
  · intro h
    have key : ∀ {a b : Nat}, a < 256 → b < 256 → (∀ q ∈ singles m, inQ q a = inQ q b) → a < m → b = a := by
      intro a b ha hb h hlt
      have := h (setQ [a]) (List.mem_map.2 ⟨a, List.mem_range.2 hlt, rfl⟩)
      rw [inQ_one a a ha ha, inQ_one a b ha hb] at this
      simpa using this.symm
    by_cases h1 : a < m
    · have := key ha hb h h1; rw [this]
    · by_cases h2 : b < m
      · have := key hb ha (fun q hq => (h q hq).symm) h2; rw [this]
      · omega
  · intro h q hq
    obtain ⟨c, hc, rfl⟩ := List.mem_map.1 hq
    have hc' := List.mem_range.1 hc
    rw [inQ_one c a (by omega) ha, inQ_one c b (by omega) hb]
    congr 1
    apply propext
    omega
theorem min_go (m : Nat) : ∀ n s, rightGo ((List.range' s n).map (min · m)) (min s (m + 1)) = some (min (s + n) (m + 1))
  | 0, s => by simp [rightGo]
  | n + 1, s => by
    rw [List.range'_succ, List.map_cons]
    simp only [rightGo]
    have ih := min_go m n (s + 1)
    rw [if_neg (by omega)]
    by_cases h : s ≤ m
    · rw [if_pos (by omega), show min s (m + 1) + 1 = min (s + 1) (m + 1) by omega, ih]
      congr 1; omega
    · rw [if_neg (by omega), show min s (m + 1) = min (s + 1) (m + 1) by omega, ih]
      congr 1; omega
theorem singles_cl (m : Nat) (hm : m < 256) : (refCl (singles m)).f = (List.range 256).map (min · m) ∧ (refCl (singles m)).m = m + 1 := by
  have hc := num_congr (sig (singles m)) (min · m) 256 fun a b ha hb => singles_sig m hm ha hb
  have hg := min_go m 256 0
  rw [← List.range_eq_range', show min 0 (m + 1) = 0 by omega] at hg
  have hn := go_num _ _ _ hg
  have h0 : (List.range 0) = [] := rfl
  rw [h0] at hn
  constructor
  · show (numGo ((List.range 256).map (sig (singles m))) []).1 = _
    rw [hc.1, hn]
  · rw [ref_m, hc.2, hn]
    simp; omega
theorem singles_full (m : Nat) (hm : m ≤ 256) : ∀ q ∈ singles m, z4 q.1 q.2.1 q.2.2.1 q.2.2.2 = false := by
  intro q hq
  obtain ⟨b, hb, rfl⟩ := List.mem_map.1 hq
  have hb' := List.mem_range.1 hb
  have h1 := inQ_one b b (by omega) (by omega)
  cases hz : z4 (setQ [b]).1 (setQ [b]).2.1 (setQ [b]).2.2.1 (setQ [b]).2.2.2 with
  | false => rfl
  | true =>
    have hz' : [(setQ [b]).1, (setQ [b]).2.1, (setQ [b]).2.2.1, (setQ [b]).2.2.2] = [0, 0, 0, 0] := by simpa only [z4, decide_eq_true_eq] using hz
    simp only [List.cons.injEq, and_true] at hz'
    have hw : word (setQ [b]) (b / 64) = 0 := by
      generalize b / 64 = k
      rcases k with _ | _ | _ | k
      · exact hz'.1
      · exact hz'.2.1
      · exact hz'.2.2.1
      · exact hz'.2.2.2
    unfold inQ at h1
    rw [hw] at h1
    simp at h1
theorem fits_none (l : List Q4) : (refCl l).fits (0, 0, 0, 0) = true := by
  have hok := refCl_ok l
  rw [fits_eq hok]
  unfold Cl.fitsR
  rw [← right_iff hok, ref_right, Bool.true_and, List.all_eq_true]
  have h0 : ∀ b, inQ (0, 0, 0, 0) b = false := fun b => by
    have hw : word (0, 0, 0, 0) (b / 64) = 0 := by
      generalize b / 64 = k
      rcases k with _ | _ | _ | k <;> rfl
    unfold inQ; rw [hw]; simp
  intro p _
  simp [h0]
end Fk
