/- Contracts: whether a byte is in a set. -/
import Derived.Test.YtpgjpgecgibklaaTT
import Derived.Test.YtpgjpgecgibklaaV0
import Derived.Laws.Bits64
set_option linter.unusedVariables false
set_option linter.unusedSimpArgs false
set_option maxRecDepth 4000
namespace Fk
open Go Go.Proofs Go.RowKit
theorem bit_and_one (y : Int) : ((BitVec.ofInt 64 y &&& BitVec.ofInt 64 1).toNat : Int) = y % 2 := by
  have h : (BitVec.ofInt 64 1) = 1#64 := rfl
  rw [h, BitVec.toNat_and]
  simp [BitVec.toNat_ofInt, Nat.and_one_is_mod]
  omega
theorem shr_mod (x : Int) (s : Nat) (hs : s < 64) : (x % 2 ^ 64) / 2 ^ s % 2 = x / 2 ^ s % 2 := by
  have h1 : x = x % 2 ^ 64 + 2 ^ s * (2 * (2 ^ (63 - s) * (x / 2 ^ 64))) := by
    have h2 : (2 : Int) ^ s * (2 * (2 ^ (63 - s) * (x / 2 ^ 64))) = 2 ^ 64 * (x / 2 ^ 64) := by
      have h3 : (2 : Int) ^ 64 = 2 ^ s * (2 * 2 ^ (63 - s)) := by
        rw [show (2 : Int) * 2 ^ (63 - s) = 2 ^ (63 - s + 1) by rw [Int.pow_succ, Int.mul_comm], ← Int.pow_add]
        congr 1; omega
      rw [h3]; simp only [Int.mul_assoc]
    rw [h2]; exact (Int.emod_add_mul_ediv x (2 ^ 64)).symm
  have hp : (2 : Int) ^ s ≠ 0 := by exact Int.pow_ne_zero (by decide)
  have h4 : x / 2 ^ s = (x % 2 ^ 64) / 2 ^ s + 2 * (2 ^ (63 - s) * (x / 2 ^ 64)) := by
    have h5 := Int.add_mul_ediv_left (x % 2 ^ 64) (2 * (2 ^ (63 - s) * (x / 2 ^ 64))) hp
    rw [← h1] at h5
    exact h5
  rw [h4, Int.add_mul_emod_self_left]
theorem testBit_ofInt (x : Int) (s : Nat) (hs : s < 64) : (BitVec.ofInt 64 x).getLsbD s = decide (x / 2 ^ s % 2 = 1) := by
  rw [BitVec.getLsbD, BitVec.toNat_ofInt, Nat.testBit_eq_decide_div_mod_eq]
  have h0 : 0 ≤ x % 2 ^ 64 := Int.emod_nonneg _ (by decide)
  have h := shr_mod x s hs
  have h2 : (((x % (2 ^ 64 : Nat)).toNat / 2 ^ s % 2 : Nat) : Int) = (x % 2 ^ 64) / 2 ^ s % 2 := by
    rw [Int.natCast_emod, Int.natCast_ediv, Int.toNat_of_nonneg (by simpa using h0)]
    simp
  rw [← h, ← h2]
  congr 1
  apply propext
  omega
theorem pow_toNat (s : Nat) (hs : s < 64) : ((2 : Int) ^ s % 2 ^ 64).toNat = 2 ^ s := by
  have h1 : (2 : Int) ^ s = ((2 ^ s : Nat) : Int) := by simp
  have h2 : 2 ^ s < 2 ^ 64 := Nat.pow_lt_pow_right (by decide) hs
  rw [h1]
  generalize 2 ^ s = m at *
  omega
theorem and_pow (x : Int) (s : Nat) (hs : s < 64) : (((BitVec.ofInt 64 x &&& BitVec.ofInt 64 (2 ^ s)).toNat : Int) != 0) = decide (x / 2 ^ s % 2 = 1) := by
  have h : BitVec.ofInt 64 (2 ^ s) = BitVec.twoPow 64 s := by
    apply BitVec.eq_of_toNat_eq
    rw [BitVec.toNat_twoPow, BitVec.toNat_ofInt]
    have := pow_toNat s hs
    have h2 : 2 ^ s < 2 ^ 64 := Nat.pow_lt_pow_right (by decide) hs
    rw [Nat.mod_eq_of_lt h2]
    exact this
  rw [h, BitVec.and_twoPow, testBit_ofInt x s hs]
  have h2 : 2 ^ s < 2 ^ 64 := Nat.pow_lt_pow_right (by decide) hs
  by_cases hc : x / 2 ^ s % 2 = 1
  · simp only [hc, decide_true, if_true, BitVec.toNat_twoPow, Nat.mod_eq_of_lt h2]
    have : 0 < 2 ^ s := Nat.pow_pos (by decide)
    generalize 2 ^ s = m at *
    simp; omega
  · simp [hc]

/-- A word of a set. -/
def word (q : Q4) (i : Nat) : Int := match i with | 0 => q.1 | 1 => q.2.1 | 2 => q.2.2.1 | _ => q.2.2.2
/-- Is a byte in a set? -/
def inQ (q : Q4) (b : Nat) : Bool := decide (word q (b / 64) / 2 ^ (b % 64) % 2 = 1)
theorem nth_word (q : Q4) (i : Nat) (h : i < 4) : nthV [.int .u64 q.1, .int .u64 q.2.1, .int .u64 q.2.2.1, .int .u64 q.2.2.2] i = some (.int .u64 (word q i)) := by
  rcases i with _ | _ | _ | _ | i <;> first | rfl | omega
theorem u64_and (a b : BitVec 64) : IntKind.wrap .u64 ((a &&& b).toNat : Int) = ((a &&& b).toNat : Int) := by
  have := (a &&& b).isLt
  rw [IntKind.wrap_u64]
  generalize (a &&& b).toNat = m at *
  omega
theorem f214_ok (q : Q4) (b : Nat) (hb : b < 256) (w : World) :
    Ct Try.prog 214 #[.agg #[.int .u64 q.1, .int .u64 q.2.1, .int .u64 q.2.2.1, .int .u64 q.2.2.2], .int .i64 b] w fun v w' => v = .bool (inQ q b) ∧ Md [] w w' := by
  apply f214_in
  intro n1 hn1
  refine Bd_in fun x2 hx2 => ?_
  have e2 : x2 = ((b / 64 : Nat) : Int) := by rw [hx2, IntKind.wrap_i64, Int.tdiv_eq_ediv_of_nonneg (by omega)]; omega
  subst e2
  refine ⟨⟨by omega, by omega⟩, ?_⟩
  refine BdO_in (v := .int .u64 (word q (b / 64))) ?_ ?_
  · simp only [Int.toNat_natCast, Nat.zero_add, Nat.mul_one]
    exact nth_word q (b / 64) (by omega)
  refine opI_in ?_
  refine Bd_in fun x5 hx5 => ?_
  have e5 : x5 = ((b % 64 : Nat) : Int) := by rw [hx5, Int.tmod_eq_emod_of_nonneg (by omega)]; omega
  subst e5
  refine ⟨by omega, Bd_in fun x6 hx6 => Bd_in fun x7 hx7 => Bd_in fun b8 hb8 w9 h9 hL9 => ⟨?_, h9⟩⟩
  rw [hb8, hx7, u64_and, bit_and_one, hx6, Int.toNat_natCast, Nat.min_eq_left (by omega), Int.fdiv_eq_ediv_of_nonneg _ (Int.pow_nonneg (by decide))]
  simp only [inQ]
  exact congrArg Value.bool (by rw [Bool.eq_iff_iff]; simp)
theorem f50_ok (q : Q4) (b : Nat) (hb : b < 256) (w : World) :
    Ct Try.prog 50 #[.agg #[.int .u64 q.1, .int .u64 q.2.1, .int .u64 q.2.2.1, .int .u64 q.2.2.2], .int .u8 b] w fun v w' => v = .bool (inQ q b) ∧ Md [] w w' := by
  apply f50_in
  intro n1 hn1
  refine Bd_in fun x2 hx2 => ?_
  have e2 : x2 = ((b / 64 : Nat) : Int) := by rw [hx2, IntKind.wrap_u8, Int.tdiv_eq_ediv_of_nonneg (by omega)]; omega
  subst e2
  refine ⟨⟨by omega, by omega⟩, ?_⟩
  refine BdO_in (v := .int .u64 (word q (b / 64))) ?_ ?_
  · simp only [Int.toNat_natCast, Nat.zero_add, Nat.mul_one]
    exact nth_word q (b / 64) (by omega)
  refine opI_in ?_
  refine Bd_in fun x5 hx5 => ?_
  have e5 : x5 = ((b % 64 : Nat) : Int) := by rw [hx5, Int.tmod_eq_emod_of_nonneg (by omega)]; omega
  subst e5
  refine ⟨by omega, Bd_in fun x6 hx6 => Bd_in fun x7 hx7 => Bd_in fun b8 hb8 w9 h9 hL9 => ⟨?_, h9⟩⟩
  rw [hb8, hx7, u64_and, bit_and_one, hx6, Int.toNat_natCast, Nat.min_eq_left (by omega), Int.fdiv_eq_ediv_of_nonneg _ (Int.pow_nonneg (by decide))]
  simp only [inQ]
  exact congrArg Value.bool (by rw [Bool.eq_iff_iff]; simp)
theorem f151_ok (q : Q4) (b : Nat) (hb : b < 256) (w : World) :
    Ct Try.prog 151 #[.agg #[.int .u64 q.1, .int .u64 q.2.1, .int .u64 q.2.2.1, .int .u64 q.2.2.2], .int .i64 b] w fun v w' => v = .bool (inQ q b) ∧ Md [] w w' := by
  apply f151_in
  intro n1 hn1 w2 h2 hL2
  refine Bd_in fun x2 hx2 => ?_
  have e2 : x2 = ((b / 64 : Nat) : Int) := by rw [hx2, IntKind.wrap_i64, Int.tdiv_eq_ediv_of_nonneg (by omega)]; omega
  subst e2
  refine ⟨⟨by omega, by omega⟩, ?_⟩
  refine BdO_in (v := .int .u64 (word q (b / 64))) ?_ ?_
  · simp only [Int.toNat_natCast, Nat.zero_add, Nat.mul_one]
    exact nth_word q (b / 64) (by omega)
  refine opI_in ?_
  refine Bd_in fun x5 hx5 => ?_
  have e5 : x5 = ((b % 64 : Nat) : Int) := by rw [hx5, Int.tmod_eq_emod_of_nonneg (by omega)]; omega
  subst e5
  refine ⟨by omega, Bd_in fun x7 hx7 => Bd_in fun x8 hx8 => Bd_in fun b9 hb9 => ⟨?_, h2.trans (Md_drew _)⟩⟩
  have e7 : x7 = (2 : Int) ^ (b % 64) := by
    have h1 : (2 : Int) ^ (b % 64) = ((2 ^ (b % 64) : Nat) : Int) := by simp
    have h2 : 2 ^ (b % 64) < 2 ^ 64 := Nat.pow_lt_pow_right (by decide) (Nat.mod_lt _ (by decide))
    rw [hx7, Int.toNat_natCast, Nat.min_eq_left (by omega), Int.one_mul, h1, IntKind.wrap_u64]
    generalize 2 ^ (b % 64) = m at *
    omega
  rw [hb9, hx8, u64_and, e7, and_pow _ _ (Nat.mod_lt _ (by decide))]
  rfl
end Fk
