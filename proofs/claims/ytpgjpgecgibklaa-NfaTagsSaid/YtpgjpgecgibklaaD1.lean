/- Arguments, opened. -/
import Derived.Test.YtpgjpgecgibklaaF0
import Derived.Test.YtpgjpgecgibklaaD0
set_option linter.unusedVariables false
set_option linter.unusedSimpArgs false
set_option maxRecDepth 100000
namespace Fk
open Go Go.Proofs Go.RowKit
section
variable {H : Type} {enc : TypeId × Value → H} {W : World} {base : Nat} {spare : Nat → Bool} {held : Bool} {d : DataW H} {ps : List MemPlace}
theorem fo_of {a : Option Addr} {n c : Nat} (h : DataW.Trod enc Try.prog W base spare held 22 (.slice a n c) d ps) : ∃ fo : Fo, fo.len = n ∧ n < 2 ^ 63 ∧ RepF W a 0 fo := by
  obtain ⟨fuel, hf⟩ := h
  obtain ⟨a', n', c', fo, he, h1, h2, h3⟩ := open_fo fuel hf
  have he' : [Value.slice a n c] = [.slice a' n' c'] := he
  simp at he'
  obtain ⟨rfl, rfl, rfl⟩ := he'
  exact ⟨fo, h1, h2, h3⟩
theorem cl_of {cs : Array Value} (h : DataW.Trod enc Try.prog W base spare held 25 (.agg cs) d ps) : ∃ c : Cl, c.ok ∧ cs = c.v := by
  obtain ⟨fuel, hf⟩ := h
  obtain ⟨c, hc, he⟩ := cl_cs hf
  exact ⟨c, hc, Array.ext' (by simpa [Value.cells, Cl.v] using he)⟩
theorem q_of {cs : Array Value} (h : DataW.Trod enc Try.prog W base spare held 28 (.agg cs) d ps) : ∃ q : Q4, cs = #[.int .u64 q.1, .int .u64 q.2.1, .int .u64 q.2.2.1, .int .u64 q.2.2.2] := by
  obtain ⟨fuel, hf⟩ := h
  obtain ⟨q, he⟩ := words_cs hf
  exact ⟨q, Array.ext' (by simpa [Value.cells, q4] using he)⟩
theorem wf_of {t : TypeId} {k k' : IntKind} {x : Int} (ht : Try.prog.underlying t = some (.int k)) (h : DataW.Trod enc Try.prog W base spare held t (.int k' x) d ps) : k' = k ∧ (Lit.int k x).wf = true := by
  obtain ⟨fuel, hf⟩ := h
  obtain ⟨v, he, hw⟩ := int_cs ht hf
  have he' : [Value.int k' x] = [.int k v] := he
  simp at he'
  obtain ⟨rfl, rfl⟩ := he'
  exact ⟨rfl, hw⟩
theorem byte_of {t : TypeId} {x : Int} (ht : Try.prog.underlying t = some (.int .u8)) (h : DataW.Trod enc Try.prog W base spare held t (.int .u8 x) d ps) : ∃ b : Nat, b < 256 ∧ x = (b : Int) := by
  have := byte_wf (wf_of ht h).2
  exact ⟨x.toNat, by omega, by omega⟩
end
end Fk
namespace Go.Proofs.Ytpgjpgecgibklaa
theorem okWide_array {P : Program} {w : World} {r : Reach} {base : Nat} {t e : TypeId} {n : Nat} {v : Value} (ht : P.underlying t = some (.array n e)) (h : Value.okWide P w r base t v) : ∃ cs, v = .agg cs := by
  unfold Value.okWide at h
  rw [ht] at h
  obtain ⟨cs, h, _⟩ := h
  exact ⟨cs, h⟩
end Go.Proofs.Ytpgjpgecgibklaa
