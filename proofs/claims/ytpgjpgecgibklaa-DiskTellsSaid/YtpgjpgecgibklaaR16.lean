/- 'DiskTells' is true of every input, and each argument reads as it did: under the row's own conditions, no others. -/
import Derived.Test.YtpgjpgecgibklaaD5
import Derived.Test.YtpgjpgecgibklaaE17
namespace Go.Proofs.Ytpgjpgecgibklaa
open Go.ChangeShapes Go.WideShapes Go.ChangeAt Go.RowKit
set_option linter.unusedVariables false
set_option linter.unusedSimpArgs false
set_option maxRecDepth 100000
theorem diskTells_lifted (os : Os) (started : os.Started) (H : Type) (enc : TypeId × Value → H) :
    ReturnsInHanded {} Try.checked os 27 .any (Rows.diskTellsSpec.pre6 enc Try.prog Try.f27 Rows.diskTellsRow.domain false) (Rows.diskTellsSpec.post enc Try.prog Try.f27 false true false false) := by
  refine returnsInHanded_of_change (C := Try.checked) ownNone started (by kernel_rfl) Try.func27
    (ChangeSpec.witness6 (enc := enc) (C := Try.checked) false ⟨#[], #[.int .i64 0, .slice none 0 0], []⟩ 8 (by kernel_rfl) (by kernel_rfl) (by kernel_rfl) (by kernel_rfl)) ?_
  intro W base args ds gs before hval0 hW hcnd _
  have hval : ∀ (j : Nat) t v, Try.f27.params[j]? = some t → args[j]? = some v → Value.okWide Try.prog W .any base t v := hval0
  have hW' := hW
  obtain ⟨p, q, hA0, hV, rfl, hfz, hnd⟩ := hW
  have hA : DataW.TrodAll enc Try.prog W 0 (fun _ => true) true Try.f27.params.toList args.toList ds p := hA0
  rw [Try.params27] at hA hval
  obtain ⟨v0, vs0, d0, ds0, p0, q0, hargs, rfl, rfl, h0, r0⟩ := trodAll_cons hA
  obtain ⟨v1, vs1, d1, ds1, p1, q1, rfl, rfl, rfl, h1, r1⟩ := trodAll_cons r0
  obtain ⟨rfl, rfl, rfl⟩ := trodAll_nil r1
  obtain rfl : args = #[v0, v1] := by cases args; simp_all
  obtain ⟨rfl, rfl⟩ := trodVars_none hV
  have lt : ∀ {t : TypeId} {v : Value} {d : DataW H} {ps : List MemPlace}, DataW.Trod enc Try.prog W 0 (fun _ => true) true t v d ps → ∀ x ∈ ps, x.block < W.heap.size := by
    intro t v d ps h
    obtain ⟨m, hm⟩ := h
    exact DataW.trod_lt m _ _ _ hm
  obtain ⟨a0, rfl⟩ := okWide_int (k := .i64) (by kernel_rfl) (hval 0 3 v0 rfl rfl)
  have hw0 := Fk.wf_of (k := .i64) (by kernel_rfl) h0
  obtain ⟨a1, n1, c1, rfl⟩ := okWide_slice (e := 125) (by kernel_rfl) (hval 1 118 v1 rfl rfl)
  obtain ⟨l1, hl1, hcp1, hn1, hr1, hb1⟩ := Fk.ops_of h1
  subst hl1
  clear hA0 hval0
  refine (Fk.f27_ok a0 l1 a1 c1 hn1 hcp1 hb1 W hr1).2.mono fun e W' he => ?_
  cases e with
  | returned v => ?_
  | _ => exact he.elim
  obtain ⟨rfl, hm⟩ := he
  have bel := Fk.below_of hm
  exact ⟨_, rfl, _, _, _, [], _, [], hW', trodAll_mk1 (shut_bool (by kernel_rfl) _), (trodAll_cons_mk (Below.trod laidOut (by kernel_rfl) (of_decide_eq_true (by kernel_rfl)) h0 bel (lt h0)) (trodAll_cons_mk (Below.trod laidOut (by kernel_rfl) (of_decide_eq_true (by kernel_rfl)) h1 bel (lt h1)) trodAll_mk0)), rfl, bel.frame _, fun h => by cases h⟩
theorem diskTells_inPlace : Rows.diskTellsRow.inPlace = Try.prog.inPlace 27 := by kernel_rfl
theorem diskTells_unfollowed : Rows.diskTellsRow.unfollowed = Try.prog.unfollowed 27 := by kernel_rfl
theorem diskTells_recurses : Rows.diskTellsRow.recurses = Try.prog.recurses 27 := by kernel_rfl
theorem diskTells_named : Rows.diskTellsRow.named = Try.prog.varsNamed 27 := by kernel_rfl
theorem diskTells_light : lightFacts Try.prog 27 Try.f27 Rows.diskTellsSpec Rows.diskTellsRow = true := by kernel_rfl
theorem diskTells_proved : Rows.DiskTellsSaid :=
  OpenClaim.holds_of_wide 27 Try.f27 rfl rfl rfl rfl rfl rfl rfl ⟨rfl, rfl, rfl, rfl, rfl⟩ rfl rfl rfl rfl rfl (by kernel_rfl) Try.func27
    (joined_of diskTells_light diskTells_inPlace diskTells_unfollowed diskTells_recurses diskTells_named)
    (of_decide_eq_true (by kernel_rfl)) (by unfold Func.isWrapper; first | (rw [if_pos (by decide +kernel)]; kernel_rfl) | (rw [if_neg (by decide +kernel)]; exact ⟨rfl, rfl⟩))
    (fun os started H enc _ => diskTells_lifted os started H enc)
#print axioms diskTells_proved
end Go.Proofs.Ytpgjpgecgibklaa
