/- A set that came in: its words are in range. -/
import Derived.Test.YtpgjpgecgibklaaD1
import Derived.Test.YtpgjpgecgibklaaP2
set_option linter.unusedVariables false
set_option linter.unusedSimpArgs false
set_option maxRecDepth 100000
namespace Fk
open Go Go.Proofs Go.RowKit
theorem u64_wf {v : Int} (h : (Lit.int .u64 v).wf = true) : okW v := by
  simp [Lit.wf, IntKind.min, IntKind.max, IntKind.signed, IntKind.bits] at h
  unfold okW; omega
theorem q_of_ok {H : Type} {enc : TypeId × Value → H} {W : World} {base : Nat} {spare : Nat → Bool} {held : Bool} {d : DataW H} {ps : List MemPlace} {cs : Array Value} (h : DataW.Trod enc Try.prog W base spare held 28 (.agg cs) d ps) :
    ∃ q : Q4, okQ q ∧ cs = #[.int .u64 q.1, .int .u64 q.2.1, .int .u64 q.2.2.1, .int .u64 q.2.2.2] := by
  obtain ⟨fuel, hf⟩ := h
  have e : (Value.agg cs).cells.toList = cs.toList := rfl
  rw [e] at hf
  obtain ⟨hl, hi⟩ := ints_cs (t := 28) (n := 4) (e := 26) (k := .u64) (by kernel_rfl) (by kernel_rfl) (by kernel_rfl) (by kernel_rfl) hf
  obtain ⟨a, ha, wa⟩ := hi 0 (by omega)
  obtain ⟨b, hb, wb⟩ := hi 1 (by omega)
  obtain ⟨c, hc, wc⟩ := hi 2 (by omega)
  obtain ⟨x, hx, wx⟩ := hi 3 (by omega)
  refine ⟨(a, b, c, x), ⟨u64_wf wa, u64_wf wb, u64_wf wc, u64_wf wx⟩, Array.ext' ?_⟩
  generalize cs.toList = l at *
  match l, hl with
  | [v0, v1, v2, v3], _ =>
    simp at ha hb hc hx
    simp [ha, hb, hc, hx]
end Fk
