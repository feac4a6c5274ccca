/- First machines: rows of trees that are few enough. -/
import Derived.Test.YtpgjpgecgibklaaN26
set_option linter.unusedVariables false
set_option linter.unusedSimpArgs false
namespace Fk
open Go Go.Proofs Go.RowKit
structure SmallF (g : Fo) : Prop where
  l1 : 1 ≤ g.len
  l2 : g.len ≤ 200
  rt : g.right = true
  tot : g.total ≤ 20000
theorem bld_max {g : Fo} (h : SmallF g) : bld g 20000 = (((bldM g).2, (bldM g).1), 0) := by
  rw [bld_eq h.l1 h.l2 (by omega) (by omega) h.rt, if_neg (by have := h.tot; omega)]
end Fk
