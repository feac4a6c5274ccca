/- 'ClassesTwo' is true of every input, and each argument reads as it did: under the row's own conditions, no others. -/
import Derived.Test.YtpgjpgecgibklaaD2
import Derived.Test.YtpgjpgecgibklaaC15
namespace Go.Proofs.Ytpgjpgecgibklaa
open Go.ChangeShapes Go.WideShapes Go.ChangeAt Go.RowKit
set_option linter.unusedVariables false
set_option linter.unusedSimpArgs false
set_option maxRecDepth 100000
theorem classesTwo_lifted (os : Os) (started : os.Started) (H : Type) (enc : TypeId × Value → H) :
    ReturnsInHanded {} Try.checked os 7 .any (Rows.classesTwoSpec.pre6 enc Try.prog Try.f7 Rows.classesTwoRow.domain false) (Rows.classesTwoSpec.post enc Try.prog Try.f7 false true false false) := by
  refine returnsInHanded_of_change (C := Try.checked) ownNone started (by kernel_rfl) Try.func7
    (ChangeSpec.witness6 (enc := enc) (C := Try.checked) false ⟨#[], #[.agg #[.int .u64 0, .int .u64 0, .int .u64 0, .int .u64 0], .int .u8 0], []⟩ 8 (by kernel_rfl) (by kernel_rfl) (by kernel_rfl) (by kernel_rfl)) ?_
  intro W base args ds gs before hval0 hW hcnd _
  have hval : ∀ (j : Nat) t v, Try.f7.params[j]? = some t → args[j]? = some v → Value.okWide Try.prog W .any base t v := hval0
  have hW' := hW
  obtain ⟨p, q, hA0, hV, rfl, hfz, hnd⟩ := hW
  have hA : DataW.TrodAll enc Try.prog W 0 (fun _ => true) true Try.f7.params.toList args.toList ds p := hA0
  rw [Try.params7] at hA hval
  obtain ⟨v0, vs0, d0, ds0, p0, q0, hargs, rfl, rfl, h0, r0⟩ := trodAll_cons hA
  obtain ⟨v1, vs1, d1, ds1, p1, q1, rfl, rfl, rfl, h1, r1⟩ := trodAll_cons r0
  obtain ⟨rfl, rfl, rfl⟩ := trodAll_nil r1
  obtain rfl : args = #[v0, v1] := by cases args; simp_all
  obtain ⟨rfl, rfl⟩ := trodVars_none hV
  have lt : ∀ {t : TypeId} {v : Value} {d : DataW H} {ps : List MemPlace}, DataW.Trod enc Try.prog W 0 (fun _ => true) true t v d ps → ∀ x ∈ ps, x.block < W.heap.size := by
    intro t v d ps h
    obtain ⟨m, hm⟩ := h
    exact DataW.trod_lt m _ _ _ hm
  obtain ⟨cs0, rfl⟩ := okWide_array (n := 4) (e := 26) (by kernel_rfl) (hval 0 28 v0 rfl rfl)
  obtain ⟨q0q, hq0, rfl⟩ := Fk.q_of_ok h0
  obtain ⟨a1, rfl⟩ := okWide_int (k := .u8) (by kernel_rfl) (hval 1 5 v1 rfl rfl)
  obtain ⟨b1, hb1, rfl⟩ := Fk.byte_of (by kernel_rfl) h1
  clear hA0 hval0
  refine (Fk.f7_ok q0q hq0 b1 hb1 W).2.mono fun e W' he => ?_
  cases e with
  | returned v => ?_
  | _ => exact he.elim
  obtain ⟨rfl, hm⟩ := he
  have bel := Fk.below_of hm
  exact ⟨_, rfl, _, _, _, [], _, [], hW', trodAll_mk1 (shut_bool (by kernel_rfl) _), (trodAll_cons_mk (Below.trod laidOut (by kernel_rfl) (of_decide_eq_true (by kernel_rfl)) h0 bel (lt h0)) (trodAll_cons_mk (Below.trod laidOut (by kernel_rfl) (of_decide_eq_true (by kernel_rfl)) h1 bel (lt h1)) trodAll_mk0)), rfl, bel.frame _, fun h => by cases h⟩
theorem classesTwo_inPlace : Rows.classesTwoRow.inPlace = Try.prog.inPlace 7 := by kernel_rfl
theorem classesTwo_unfollowed : Rows.classesTwoRow.unfollowed = Try.prog.unfollowed 7 := by kernel_rfl
theorem classesTwo_recurses : Rows.classesTwoRow.recurses = Try.prog.recurses 7 := by kernel_rfl
theorem classesTwo_named : Rows.classesTwoRow.named = Try.prog.varsNamed 7 := by kernel_rfl
theorem classesTwo_light : lightFacts Try.prog 7 Try.f7 Rows.classesTwoSpec Rows.classesTwoRow = true := by kernel_rfl
theorem classesTwo_proved : Rows.ClassesTwoSaid :=
  OpenClaim.holds_of_wide 7 Try.f7 rfl rfl rfl rfl rfl rfl rfl ⟨rfl, rfl, rfl, rfl, rfl⟩ rfl rfl rfl rfl rfl (by kernel_rfl) Try.func7
    (joined_of classesTwo_light classesTwo_inPlace classesTwo_unfollowed classesTwo_recurses classesTwo_named)
    (of_decide_eq_true (by kernel_rfl)) (by unfold Func.isWrapper; first | (rw [if_pos (by decide +kernel)]; kernel_rfl) | (rw [if_neg (by decide +kernel)]; exact ⟨rfl, rfl⟩))
    (fun os started H enc _ => classesTwo_lifted os started H enc)
#print axioms classesTwo_proved
end Go.Proofs.Ytpgjpgecgibklaa
