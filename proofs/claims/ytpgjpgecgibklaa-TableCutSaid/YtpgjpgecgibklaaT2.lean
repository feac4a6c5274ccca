/- Rows of numbers, compared. -/
import Derived.Test.YtpgjpgecgibklaaT1
import Derived.Test.YtpgjpgecgibklaaProg
import Derived.ChangeKeysEq
import Derived.KernelRfl
set_option linter.unusedVariables false
set_option maxRecDepth 100000
namespace Fk
open Go Go.Proofs Go.RowKit
/-- Numbers, as cells. -/
def ints (k : IntKind) (l : List Int) : List Value := l.map (.int k)
theorem run_items {P : Program} {w : World} {e : TypeId} {q : IntKind} (hu : P.underlying e = some (.int q)) (hc : P.cellsOf e = 1) (d : Nat) (k : IntKind) (xs ys : List Int) :
    ∀ (n i : Nat), i + n = xs.length → xs.length = ys.length →
      (Op.eqItems (d + 1) e 1 (ints k xs).toArray (ints k ys).toArray (List.range' i n)).run P w = .ok (decide (xs.drop i = ys.drop i)) w
  | 0, i, h, hl => by
    have h1 : xs.drop i = [] := List.drop_of_length_le (by omega)
    have h2 : ys.drop i = [] := List.drop_of_length_le (by omega)
    simp [Op.eqItems, h1, h2]
  | n + 1, i, h, hl => by
    have hi : i < xs.length := by omega
    have hj : i < ys.length := by omega
    have ha : isAggT P e = false := by simp [isAggT, hu]
    have p1 : (part e (ints k xs).toArray (i * 1)).run P w = .ok (.int k xs[i]) w := by
      simp [part, run_isAgg hu, ha, ints, hi]
    have p2 : (part e (ints k ys).toArray (i * 1)).run P w = .ok (.int k ys[i]) w := by
      simp [part, run_isAgg hu, ha, ints, hj]
    have p3 : (Op.equalIn (d + 1) e (.int k xs[i]) (.int k ys[i])).run P w = .ok (xs[i] == ys[i]) w := by
      simp [Op.equalIn, run_underlying hu]
    rw [List.range'_succ]
    simp only [Op.eqItems, Sem.run_bind, p1, p2, p3, Result.andThen_ok]
    have ex : (xs.drop i = ys.drop i) = (xs[i] = ys[i] ∧ xs.drop (i + 1) = ys.drop (i + 1)) := by
      rw [List.drop_eq_getElem_cons hi, List.drop_eq_getElem_cons hj, List.cons.injEq]
    simp only [ex]
    by_cases he : xs[i] = ys[i]
    · simp only [he, BEq.rfl, Bool.not_true, Bool.false_eq_true, if_false]
      rw [run_items hu hc d k xs ys n (i + 1) (by omega) hl]
      simp
    · simp [he]
theorem run_equal_ints {P : Program} {w : World} {t e : TypeId} {q : IntKind} {n : Nat} {i : TypeInfo} (ht : P.underlying t = some (.array n e)) (hi : P.info? e = some i) (hu : P.underlying e = some (.int q))
    (hc : P.cellsOf e = 1) (k : IntKind) (xs ys : List Int) (hx : xs.length = n) (hy : ys.length = n) (d : Nat) :
    (Op.equalIn (d + 2) t (.agg (ints k xs).toArray) (.agg (ints k ys).toArray)).run P w = .ok (decide (xs = ys)) w := by
  rw [run_equalIn_array w (d + 1) _ _ ht hi, hc, List.range_eq_range', run_items hu hc d k xs ys n 0 (by omega) (by omega)]
  simp
theorem eqS_ints {P : Program} {w : World} {t e : TypeId} {q : IntKind} {n : Nat} (ht : P.underlying t = some (.array n e)) (hi : (P.info? e).isSome = true) (hu : P.underlying e = some (.int q))
    (hc : P.cellsOf e = 1) (hg : P.eqGuardType P.depth t = false) (k : IntKind) (xs ys : List Int) (hx : xs.length = n) (hy : ys.length = n) (o1 o2 : Operand) :
    (eqS .eql t o1 o2 (.agg (ints k xs).toArray) (.agg (ints k ys).toArray)).run P w = .ok (.bool (decide (xs = ys))) w ∧
    (eqS .neq t o1 o2 (.agg (ints k xs).toArray) (.agg (ints k ys).toArray)).run P w = .ok (.bool (!decide (xs = ys))) w := by
  obtain ⟨i, hi⟩ := Option.isSome_iff_exists.1 hi
  have h := run_equal_ints (w := w) ht hi hu hc k xs ys hx hy 9998
  constructor
  · unfold eqS eqGuard binOp Op.equal
    simp only [Sem.run_bind]
    simp [hg, h, Op.maxDepth]
  · unfold eqS eqGuard binOp Op.equal
    simp only [Sem.run_bind]
    simp [hg, h, Op.maxDepth]
/-- Four words of a set, as a value. -/
abbrev setV (a b c d : Int) : Value := .agg #[.int .u64 a, .int .u64 b, .int .u64 c, .int .u64 d]
theorem eq28 (o1 o2 : Operand) (a b c d a' b' c' d' : Int) (w : World) :
    (eqS .eql 28 o1 o2 (setV a b c d) (setV a' b' c' d')).run Try.prog w = .ok (.bool (decide ([a, b, c, d] = [a', b', c', d']))) w :=
  (eqS_ints (t := 28) (e := 26) (q := .u64) (n := 4) (by kernel_rfl) (by kernel_rfl) (by kernel_rfl) (by kernel_rfl) (by kernel_rfl) .u64 [a, b, c, d] [a', b', c', d'] rfl rfl o1 o2).1
theorem ne28 (o1 o2 : Operand) (a b c d a' b' c' d' : Int) (w : World) :
    (eqS .neq 28 o1 o2 (setV a b c d) (setV a' b' c' d')).run Try.prog w = .ok (.bool (!decide ([a, b, c, d] = [a', b', c', d']))) w :=
  (eqS_ints (t := 28) (e := 26) (q := .u64) (n := 4) (by kernel_rfl) (by kernel_rfl) (by kernel_rfl) (by kernel_rfl) (by kernel_rfl) .u64 [a, b, c, d] [a', b', c', d'] rfl rfl o1 o2).2
end Fk
