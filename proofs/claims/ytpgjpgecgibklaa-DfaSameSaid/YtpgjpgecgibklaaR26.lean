/- 'DfaSame' is true of every input, and each argument reads as it did: under the row's own conditions, no others. -/
import Derived.Test.YtpgjpgecgibklaaGR1
import Derived.Test.YtpgjpgecgibklaaGR5
namespace Go.Proofs.Ytpgjpgecgibklaa
open Go.ChangeShapes Go.WideShapes Go.ChangeAt Go.RowKit
set_option linter.unusedVariables false
set_option linter.unusedSimpArgs false
set_option maxRecDepth 100000
theorem dfaSame_lifted (os : Os) (started : os.Started) (H : Type) (enc : TypeId × Value → H) :
    ReturnsInHanded {} Try.checked os 11 .any (Rows.dfaSameSpec.pre6 enc Try.prog Try.f11 Rows.dfaSameRow.domain false) (Rows.dfaSameSpec.post enc Try.prog Try.f11 false true false false) := by
  refine returnsInHanded_of_change_sized (C := Try.checked) ownNone started (by kernel_rfl) Try.func11
    (ChangeSpec.witness6 (enc := enc) (C := Try.checked) false ⟨#[], #[.slice none 0 0, .string ByteArray.empty], []⟩ 8 (by kernel_rfl) (by kernel_rfl) (by kernel_rfl) (by kernel_rfl)) ?_
  intro W base args ds gs before hval0 hW hcnd hsz _
  have hval : ∀ (j : Nat) t v, Try.f11.params[j]? = some t → args[j]? = some v → Value.okWide Try.prog W .any base t v := hval0
  have hW' := hW
  obtain ⟨p, q, hA0, hV, rfl, hfz, hnd⟩ := hW
  have hA : DataW.TrodAll enc Try.prog W 0 (fun _ => true) true Try.f11.params.toList args.toList ds p := hA0
  rw [Try.params11] at hA hval
  obtain ⟨v0, vs0, d0, ds0, p0, q0, hargs, rfl, rfl, h0, r0⟩ := trodAll_cons hA
  obtain ⟨v1, vs1, d1, ds1, p1, q1, rfl, rfl, rfl, h1, r1⟩ := trodAll_cons r0
  obtain ⟨rfl, rfl, rfl⟩ := trodAll_nil r1
  obtain rfl : args = #[v0, v1] := by cases args; simp_all
  obtain ⟨rfl, rfl⟩ := trodVars_none hV
  have lt : ∀ {t : TypeId} {v : Value} {d : DataW H} {ps : List MemPlace}, DataW.Trod enc Try.prog W 0 (fun _ => true) true t v d ps → ∀ x ∈ ps, x.block < W.heap.size := by
    intro t v d ps h
    obtain ⟨m, hm⟩ := h
    exact DataW.trod_lt m _ _ _ hm
  obtain ⟨a0, n0, c0, rfl⟩ := okWide_slice (e := 42) (by kernel_rfl) (hval 0 22 v0 rfl rfl)
  obtain ⟨fo0, hl0, hn0, hr0⟩ := Fk.fo_of h0
  subst hl0
  have hz0 : fo0.len ≤ 2 ^ 41 := Fk.fo_sized hsz (j := 0) (by kernel_rfl) rfl h0
  obtain ⟨s1, rfl⟩ := okWide_string (by kernel_rfl) (hval 1 9 v1 rfl rfl)
  obtain ⟨l1, rfl, hb1, hn1⟩ := Fk.str_of h1
  clear hA0 hval0
  refine (Fk.f11_ok fo0 a0 c0 l1 hb1 W hr0 hz0).2.mono fun e W' he => ?_
  cases e with
  | returned v => ?_
  | _ => exact he.elim
  obtain ⟨rfl, hm⟩ := he
  have bel := Fk.below_of hm
  exact ⟨_, rfl, _, _, _, [], _, [], hW', trodAll_mk1 (shut_bool (by kernel_rfl) _), (trodAll_cons_mk (Below.trod laidOut (by kernel_rfl) (of_decide_eq_true (by kernel_rfl)) h0 bel (lt h0)) (trodAll_cons_mk (Below.trod laidOut (by kernel_rfl) (of_decide_eq_true (by kernel_rfl)) h1 bel (lt h1)) trodAll_mk0)), rfl, bel.frame _, fun h => by cases h⟩
theorem dfaSame_inPlace : Rows.dfaSameRow.inPlace = Try.prog.inPlace 11 := by kernel_rfl
theorem dfaSame_unfollowed : Rows.dfaSameRow.unfollowed = Try.prog.unfollowed 11 := by kernel_rfl
theorem dfaSame_recurses : Rows.dfaSameRow.recurses = Try.prog.recurses 11 := by kernel_rfl
theorem dfaSame_named : Rows.dfaSameRow.named = Try.prog.varsNamed 11 := by kernel_rfl
theorem dfaSame_light : lightFacts Try.prog 11 Try.f11 Rows.dfaSameSpec Rows.dfaSameRow = true := by kernel_rfl
theorem dfaSame_proved : Rows.DfaSameSaid :=
  OpenClaim.holds_of_wide 11 Try.f11 rfl rfl rfl rfl rfl rfl rfl ⟨rfl, rfl, rfl, rfl, rfl⟩ rfl rfl rfl rfl rfl (by kernel_rfl) Try.func11
    (joined_of dfaSame_light dfaSame_inPlace dfaSame_unfollowed dfaSame_recurses dfaSame_named)
    (of_decide_eq_true (by kernel_rfl)) (by unfold Func.isWrapper; first | (rw [if_pos (by decide +kernel)]; kernel_rfl) | (rw [if_neg (by decide +kernel)]; exact ⟨rfl, rfl⟩))
    (fun os started H enc _ => dfaSame_lifted os started H enc)
#print axioms dfaSame_proved
end Go.Proofs.Ytpgjpgecgibklaa
