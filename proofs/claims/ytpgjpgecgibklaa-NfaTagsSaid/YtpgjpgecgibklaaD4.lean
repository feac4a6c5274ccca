/- Arguments of more kinds, opened. -/
import Derived.Test.YtpgjpgecgibklaaD3
set_option linter.unusedVariables false
set_option linter.unusedSimpArgs false
namespace Fk
open Go Go.Proofs Go.RowKit
theorem u16_wf {v : Int} (h : (Lit.int .u16 v).wf = true) : 0 ≤ v ∧ v < 65536 := by
  simp [Lit.wf, IntKind.min, IntKind.max, IntKind.signed, IntKind.bits] at h
  omega
end Fk
