/- 'DiskArmed' is true of every input, and each argument reads as it did: under the row's own conditions, no others. -/
import Derived.Test.YtpgjpgecgibklaaD5
import Derived.Test.YtpgjpgecgibklaaE9
namespace Go.Proofs.Ytpgjpgecgibklaa
open Go.ChangeShapes Go.WideShapes Go.ChangeAt Go.RowKit
set_option linter.unusedVariables false
set_option linter.unusedSimpArgs false
set_option maxRecDepth 100000
theorem diskArmed_lifted (os : Os) (started : os.Started) (H : Type) (enc : TypeId × Value → H) :
    ReturnsInHanded {} Try.checked os 25 .any (Rows.diskArmedSpec.pre6 enc Try.prog Try.f25 Rows.diskArmedRow.domain false) (Rows.diskArmedSpec.post enc Try.prog Try.f25 false true false false) := by
  refine returnsInHanded_of_change (C := Try.checked) ownNone started (by kernel_rfl) Try.func25
    (ChangeSpec.witness6 (enc := enc) (C := Try.checked) false ⟨#[], #[.slice none 0 0, .int .u8 0], []⟩ 8 (by kernel_rfl) (by kernel_rfl) (by kernel_rfl) (by kernel_rfl)) ?_
  intro W base args ds gs before hval0 hW hcnd _
  have hval : ∀ (j : Nat) t v, Try.f25.params[j]? = some t → args[j]? = some v → Value.okWide Try.prog W .any base t v := hval0
  have hW' := hW
  obtain ⟨p, q, hA0, hV, rfl, hfz, hnd⟩ := hW
  have hA : DataW.TrodAll enc Try.prog W 0 (fun _ => true) true Try.f25.params.toList args.toList ds p := hA0
  rw [Try.params25] at hA hval
  obtain ⟨v0, vs0, d0, ds0, p0, q0, hargs, rfl, rfl, h0, r0⟩ := trodAll_cons hA
  obtain ⟨v1, vs1, d1, ds1, p1, q1, rfl, rfl, rfl, h1, r1⟩ := trodAll_cons r0
  obtain ⟨rfl, rfl, rfl⟩ := trodAll_nil r1
  obtain rfl : args = #[v0, v1] := by cases args; simp_all
  obtain ⟨rfl, rfl⟩ := trodVars_none hV
  have lt : ∀ {t : TypeId} {v : Value} {d : DataW H} {ps : List MemPlace}, DataW.Trod enc Try.prog W 0 (fun _ => true) true t v d ps → ∀ x ∈ ps, x.block < W.heap.size := by
    intro t v d ps h
    obtain ⟨m, hm⟩ := h
    exact DataW.trod_lt m _ _ _ hm
  obtain ⟨a0, n0, c0, rfl⟩ := okWide_slice (e := 125) (by kernel_rfl) (hval 0 118 v0 rfl rfl)
  obtain ⟨l0, hl0, hcp0, hn0, hr0, hb0⟩ := Fk.ops_of h0
  subst hl0
  obtain ⟨a1, rfl⟩ := okWide_int (k := .u8) (by kernel_rfl) (hval 1 5 v1 rfl rfl)
  obtain ⟨b1, hb1, rfl⟩ := Fk.byte_of (by kernel_rfl) h1
  clear hA0 hval0
  refine (Fk.f25_ok l0 a0 c0 hn0 hcp0 hb0 b1 hb1 W hr0).2.mono fun e W' he => ?_
  cases e with
  | returned v => ?_
  | _ => exact he.elim
  obtain ⟨rfl, hm⟩ := he
  have bel := Fk.below_of hm
  exact ⟨_, rfl, _, _, _, [], _, [], hW', trodAll_mk1 (shut_bool (by kernel_rfl) _), (trodAll_cons_mk (Below.trod laidOut (by kernel_rfl) (of_decide_eq_true (by kernel_rfl)) h0 bel (lt h0)) (trodAll_cons_mk (Below.trod laidOut (by kernel_rfl) (of_decide_eq_true (by kernel_rfl)) h1 bel (lt h1)) trodAll_mk0)), rfl, bel.frame _, fun h => by cases h⟩
theorem diskArmed_inPlace : Rows.diskArmedRow.inPlace = Try.prog.inPlace 25 := by kernel_rfl
theorem diskArmed_unfollowed : Rows.diskArmedRow.unfollowed = Try.prog.unfollowed 25 := by kernel_rfl
theorem diskArmed_recurses : Rows.diskArmedRow.recurses = Try.prog.recurses 25 := by kernel_rfl
theorem diskArmed_named : Rows.diskArmedRow.named = Try.prog.varsNamed 25 := by kernel_rfl
theorem diskArmed_light : lightFacts Try.prog 25 Try.f25 Rows.diskArmedSpec Rows.diskArmedRow = true := by kernel_rfl
theorem diskArmed_proved : Rows.DiskArmedSaid :=
  OpenClaim.holds_of_wide 25 Try.f25 rfl rfl rfl rfl rfl rfl rfl ⟨rfl, rfl, rfl, rfl, rfl⟩ rfl rfl rfl rfl rfl (by kernel_rfl) Try.func25
    (joined_of diskArmed_light diskArmed_inPlace diskArmed_unfollowed diskArmed_recurses diskArmed_named)
    (of_decide_eq_true (by kernel_rfl)) (by unfold Func.isWrapper; first | (rw [if_pos (by decide +kernel)]; kernel_rfl) | (rw [if_neg (by decide +kernel)]; exact ⟨rfl, rfl⟩))
    (fun os started H enc _ => diskArmed_lifted os started H enc)
#print axioms diskArmed_proved
end Go.Proofs.Ytpgjpgecgibklaa
