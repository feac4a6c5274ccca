/- More tools: what is nil, what is built of wide parts, arrays of slices. -/
import Derived.Test.YtpgjpgecgibklaaT8
import Derived.Test.YtpgjpgecgibklaaC26
import Derived.Laws.Cover3
set_option linter.unusedVariables false
set_option linter.unusedSimpArgs false
set_option maxRecDepth 100000
namespace Fk
open Go Go.Proofs Go.RowKit
theorem eqNilP {P : Program} (a : Option Addr) (w : World) (o1 o2 : Operand) (t : TypeId) (e : TypeId) (ht : P.underlying t = some (.pointer e)) (hg : P.eqGuardType P.depth t = false) :
    (eqS .eql t o1 o2 (.pointer a) (.pointer none)).run P w = .ok (.bool a.isNone) w ∧ (eqS .neq t o1 o2 (.pointer a) (.pointer none)).run P w = .ok (.bool (!a.isNone)) w := by
  have h : ∀ d, (Op.equalIn (d + 1) t (.pointer a) (.pointer none)).run P w = .ok a.isNone w := by
    intro d
    cases a <;> simp [Op.equalIn, run_underlying ht]
  have h := h 9999
  constructor
  · unfold eqS eqGuard binOp Op.equal
    simp only [Sem.run_bind]
    simp [hg, h, Op.maxDepth]
  · unfold eqS eqGuard binOp Op.equal
    simp only [Sem.run_bind]
    simp [hg, h, Op.maxDepth]
theorem eqNilS {P : Program} (a : Option Addr) (n c : Nat) (w : World) (o1 o2 : Operand) (t : TypeId) (e : TypeId) (ht : P.underlying t = some (.slice e)) (hg : P.eqGuardType P.depth t = false) :
    (eqS .eql t o1 o2 (.slice a n c) (.slice none 0 0)).run P w = .ok (.bool a.isNone) w := by
  have h : ∀ d, (Op.equalIn (d + 1) t (.slice a n c) (.slice none 0 0)).run P w = .ok a.isNone w := by
    intro d
    cases a <;> simp [Op.equalIn, run_underlying ht]
  have h := h 9999
  unfold eqS eqGuard binOp Op.equal
  simp only [Sem.run_bind]
  simp [hg, h, Op.maxDepth]
/-- A part is laid. -/
theorem fold_wr (off : Nat) : ∀ (vs : List Value) (k : Nat) (cs : List Value), off + k + vs.length ≤ cs.length → (vs.zipIdx k).foldl (fun cs (c, j) => cs.setIfInBounds (off + j) c) cs.toArray = (wrL cs (off + k) vs).toArray
  | [], k, cs, h => by simp [wrL]
  | v :: vs, k, cs, h => by
    simp only [List.length_cons] at h
    rw [List.zipIdx_cons, List.foldl_cons]
    have e : cs.toArray.setIfInBounds (off + k) v = (cs.set (off + k) v).toArray := by simp
    simp only [e]
    rw [fold_wr off vs (k + 1) (cs.set (off + k) v) (by simp; omega)]
    congr 1
    apply List.ext_getElem?
    intro j
    rw [wrL_get (by simp; omega), wrL_get (by simp; omega), List.getElem?_set]
    by_cases h1 : j = off + k
    · subst h1
      have c1 : ¬ (off + (k + 1) ≤ off + k ∧ off + k < off + (k + 1) + vs.length) := by omega
      have c2 : off + k ≤ off + k ∧ off + k < off + k + (v :: vs).length := by simp
      rw [if_neg c1, if_pos c2]
      simp; omega
    · by_cases h2 : off + (k + 1) ≤ j ∧ j < off + (k + 1) + vs.length
      · have c2 : off + k ≤ j ∧ j < off + k + (v :: vs).length := by simp; omega
        rw [if_pos h2, if_pos c2, show j - (off + k) = (j - (off + (k + 1))) + 1 by omega, List.getElem?_cons_succ]
      · have c2 : ¬ (off + k ≤ j ∧ j < off + k + (v :: vs).length) := by simp; omega
        rw [if_neg h2, if_neg c2, if_neg (fun e => h1 e.symm)]
theorem fill_step' {place : Nat → Option (Nat × Nat)} {i off size : Nat} {v : Value} {rest : List (Nat × Value)} {cs : List Value} (hp : place i = some (off, size)) (hs : v.cells.size = size) (ho : off + size ≤ cs.length) :
    Instr.fill place cs.toArray ((i, v) :: rest) = Instr.fill place (wrL cs off v.cells.toList).toArray rest := by
  rw [Instr.fill]
  simp only [hp]
  have h1 : ¬ (v.cells.size ≠ size ∨ off + v.cells.size > cs.toArray.size) := by simp only [List.size_toArray]; omega
  rw [if_neg (by simpa using h1)]
  have := fold_wr off v.cells.toList 0 cs (by simp; omega)
  rw [← Array.foldl_toList, Array.toList_zipIdx, this]
  simp
theorem wrL_all {a b c : List Value} (hb : b.length = a.length) : wrL (a ++ c) 0 b = b ++ c := by
  unfold wrL; simp [hb]
theorem wrL_mid {a b d c : List Value} (hb : b.length = d.length) : wrL (a ++ (d ++ c)) a.length b = a ++ (b ++ c) := by
  unfold wrL
  rw [List.take_left' rfl, hb, ← List.append_assoc a d c, List.drop_left' (by simp)]
/-- An array of a slice's first elements. -/
theorem run_arr (w : World) (a : Option Addr) (n c : Nat) (hn : 64 ≤ n) : (Instr.arrayAt 252 (.slice a n c)).run Try.prog w = .ok (.pointer a) w :=
  run_arrayAt w 252 5 64 a n c (by kernel_rfl) hn
theorem slice_arr64 (w : World) (A : Addr) : (Instr.sliceAt 252 (.pointer (some A)) none none none).run Try.prog w = .ok (.slice (some A) 64 64) w := by
  have e1 : Try.prog.elem 252 = 5 := by kernel_rfl
  have e2 : Try.prog.arrayLen 252 = 64 := by kernel_rfl
  rw [run_sliceAt_array_all w 252 A (by kernel_rfl), e1, e2, size5]
  simp [Result.andThen, slicedAt, addr_add0]
end Fk
