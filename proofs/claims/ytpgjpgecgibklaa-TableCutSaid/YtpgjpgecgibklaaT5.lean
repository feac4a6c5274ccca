/- Slices: their first elements. -/
import Derived.Test.YtpgjpgecgibklaaT4
import Derived.Laws.Slices
set_option linter.unusedVariables false
set_option linter.unusedSimpArgs false
set_option maxRecDepth 100000
namespace Fk
open Go Go.Proofs Go.RowKit
theorem addr_add0 (A : Addr) : A.add 0 = A := by unfold Addr.add; simp
/-- The first ones of a slice. -/
theorem slice_front {P : Program} {t e : TypeId} (ht : P.underlying t = some (.slice e)) (hs : ∀ w, ∃ s, (Go.sizeOf e).run P w = .ok s w) (w : World) (a : Option Addr) (n c m : Nat) (h : m ≤ c) :
    (Instr.sliceAt t (.slice a n c) none (some (.int .i64 (m : Int))) none).run P w = .ok (.slice a m c) w := by
  have he : P.elem t = e := by simp [Program.elem, ht]
  have ht' : P.underlying t = some (.slice (P.elem t)) := by rw [he]; exact ht
  rw [run_sliceAt_slice w t _ _ _ _ ht', run_slice_h w t a n c ht' .i64 m (by omega) (by omega), he]
  obtain ⟨s, hs⟩ := hs w
  rw [hs]
  simp only [Result.andThen, sliced, Int.toNat_natCast, Nat.sub_zero, Nat.zero_mul]
  congr 2
  split
  · rfl
  · cases a with
    | none => rfl
    | some A => simp [addr_add0]
end Fk
