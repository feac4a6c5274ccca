/- 'DfaCap' is true of every input, and each argument reads as it did: under the row's own conditions, no others. -/
import Derived.Test.YtpgjpgecgibklaaGR1
import Derived.Test.YtpgjpgecgibklaaGR4
namespace Go.Proofs.Ytpgjpgecgibklaa
open Go.ChangeShapes Go.WideShapes Go.ChangeAt Go.RowKit
set_option linter.unusedVariables false
set_option linter.unusedSimpArgs false
set_option maxRecDepth 100000
theorem dfaCap_lifted (os : Os) (started : os.Started) (H : Type) (enc : TypeId × Value → H) :
    ReturnsInHanded {} Try.checked os 34 .any (Rows.dfaCapSpec.pre6 enc Try.prog Try.f34 Rows.dfaCapRow.domain false) (Rows.dfaCapSpec.post enc Try.prog Try.f34 false true false false) := by
  refine returnsInHanded_of_change_sized (C := Try.checked) ownNone started (by kernel_rfl) Try.func34
    (ChangeSpec.witness6 (enc := enc) (C := Try.checked) false ⟨#[], #[.slice none 0 0, .int .u16 0], []⟩ 8 (by kernel_rfl) (by kernel_rfl) (by kernel_rfl) (by kernel_rfl)) ?_
  intro W base args ds gs before hval0 hW hcnd hsz _
  have hval : ∀ (j : Nat) t v, Try.f34.params[j]? = some t → args[j]? = some v → Value.okWide Try.prog W .any base t v := hval0
  have hW' := hW
  obtain ⟨p, q, hA0, hV, rfl, hfz, hnd⟩ := hW
  have hA : DataW.TrodAll enc Try.prog W 0 (fun _ => true) true Try.f34.params.toList args.toList ds p := hA0
  rw [Try.params34] at hA hval
  obtain ⟨v0, vs0, d0, ds0, p0, q0, hargs, rfl, rfl, h0, r0⟩ := trodAll_cons hA
  obtain ⟨v1, vs1, d1, ds1, p1, q1, rfl, rfl, rfl, h1, r1⟩ := trodAll_cons r0
  obtain ⟨rfl, rfl, rfl⟩ := trodAll_nil r1
  obtain rfl : args = #[v0, v1] := by cases args; simp_all
  obtain ⟨rfl, rfl⟩ := trodVars_none hV
  have lt : ∀ {t : TypeId} {v : Value} {d : DataW H} {ps : List MemPlace}, DataW.Trod enc Try.prog W 0 (fun _ => true) true t v d ps → ∀ x ∈ ps, x.block < W.heap.size := by
    intro t v d ps h
    obtain ⟨m, hm⟩ := h
    exact DataW.trod_lt m _ _ _ hm
  obtain ⟨a0, n0, c0, rfl⟩ := okWide_slice (e := 42) (by kernel_rfl) (hval 0 22 v0 rfl rfl)
  obtain ⟨fo0, hl0, hn0, hr0⟩ := Fk.fo_of h0
  subst hl0
  have hz0 : fo0.len ≤ 2 ^ 41 := Fk.fo_sized hsz (j := 0) (by kernel_rfl) rfl h0
  obtain ⟨a1, rfl⟩ := okWide_int (k := .u16) (by kernel_rfl) (hval 1 67 v1 rfl rfl)
  have hw1 := Fk.wf_of (k := .u16) (by kernel_rfl) h1
  clear hA0 hval0
  refine (Fk.f34_ok fo0 a0 c0 a1 (Fk.u16_wf hw1.2).1 (Fk.u16_wf hw1.2).2 W hr0 hn0 hz0).2.mono fun e W' he => ?_
  cases e with
  | returned v => ?_
  | _ => exact he.elim
  obtain ⟨rfl, hm⟩ := he
  have bel := Fk.below_of hm
  exact ⟨_, rfl, _, _, _, [], _, [], hW', trodAll_mk1 (shut_bool (by kernel_rfl) _), (trodAll_cons_mk (Below.trod laidOut (by kernel_rfl) (of_decide_eq_true (by kernel_rfl)) h0 bel (lt h0)) (trodAll_cons_mk (Below.trod laidOut (by kernel_rfl) (of_decide_eq_true (by kernel_rfl)) h1 bel (lt h1)) trodAll_mk0)), rfl, bel.frame _, fun h => by cases h⟩
theorem dfaCap_inPlace : Rows.dfaCapRow.inPlace = Try.prog.inPlace 34 := by kernel_rfl
theorem dfaCap_unfollowed : Rows.dfaCapRow.unfollowed = Try.prog.unfollowed 34 := by kernel_rfl
theorem dfaCap_recurses : Rows.dfaCapRow.recurses = Try.prog.recurses 34 := by kernel_rfl
theorem dfaCap_named : Rows.dfaCapRow.named = Try.prog.varsNamed 34 := by kernel_rfl
theorem dfaCap_light : lightFacts Try.prog 34 Try.f34 Rows.dfaCapSpec Rows.dfaCapRow = true := by kernel_rfl
theorem dfaCap_proved : Rows.DfaCapSaid :=
  OpenClaim.holds_of_wide 34 Try.f34 rfl rfl rfl rfl rfl rfl rfl ⟨rfl, rfl, rfl, rfl, rfl⟩ rfl rfl rfl rfl rfl (by kernel_rfl) Try.func34
    (joined_of dfaCap_light dfaCap_inPlace dfaCap_unfollowed dfaCap_recurses dfaCap_named)
    (of_decide_eq_true (by kernel_rfl)) (by unfold Func.isWrapper; first | (rw [if_pos (by decide +kernel)]; kernel_rfl) | (rw [if_neg (by decide +kernel)]; exact ⟨rfl, rfl⟩))
    (fun os started H enc _ => dfaCap_lifted os started H enc)
#print axioms dfaCap_proved
end Go.Proofs.Ytpgjpgecgibklaa
