/- 'NfaTells' is true of every input, and each argument reads as it did: under the row's own conditions, no others. -/
import Derived.Test.YtpgjpgecgibklaaD1
import Derived.Test.YtpgjpgecgibklaaD3
import Derived.Test.YtpgjpgecgibklaaD6
import Derived.Test.YtpgjpgecgibklaaN22
namespace Go.Proofs.Ytpgjpgecgibklaa
open Go.ChangeShapes Go.WideShapes Go.ChangeAt Go.RowKit
set_option linter.unusedVariables false
set_option linter.unusedSimpArgs false
set_option maxRecDepth 100000
theorem nfaTells_lifted (os : Os) (started : os.Started) (H : Type) (enc : TypeId × Value → H) :
    ReturnsInHanded {} Try.checked os 13 .any (Rows.nfaTellsSpec.pre6 enc Try.prog Try.f13 Rows.nfaTellsRow.domain false) (Rows.nfaTellsSpec.post enc Try.prog Try.f13 false true false false) := by
  refine returnsInHanded_of_change (C := Try.checked) ownNone started (by kernel_rfl) Try.func13
    (ChangeSpec.witness6 (enc := enc) (C := Try.checked) false ⟨#[], #[.slice none 0 0, .int .i64 0, .agg #[.int .i64 0, .slice none 0 0], .string ByteArray.empty], []⟩ 8 (by kernel_rfl) (by kernel_rfl) (by kernel_rfl) (by kernel_rfl)) ?_
  intro W base args ds gs before hval0 hW hcnd _
  have hval : ∀ (j : Nat) t v, Try.f13.params[j]? = some t → args[j]? = some v → Value.okWide Try.prog W .any base t v := hval0
  have hW' := hW
  obtain ⟨p, q, hA0, hV, rfl, hfz, hnd⟩ := hW
  have hA : DataW.TrodAll enc Try.prog W 0 (fun _ => true) true Try.f13.params.toList args.toList ds p := hA0
  rw [Try.params13] at hA hval
  obtain ⟨v0, vs0, d0, ds0, p0, q0, hargs, rfl, rfl, h0, r0⟩ := trodAll_cons hA
  obtain ⟨v1, vs1, d1, ds1, p1, q1, rfl, rfl, rfl, h1, r1⟩ := trodAll_cons r0
  obtain ⟨v2, vs2, d2, ds2, p2, q2, rfl, rfl, rfl, h2, r2⟩ := trodAll_cons r1
  obtain ⟨v3, vs3, d3, ds3, p3, q3, rfl, rfl, rfl, h3, r3⟩ := trodAll_cons r2
  obtain ⟨rfl, rfl, rfl⟩ := trodAll_nil r3
  obtain rfl : args = #[v0, v1, v2, v3] := by cases args; simp_all
  obtain ⟨rfl, rfl⟩ := trodVars_none hV
  have lt : ∀ {t : TypeId} {v : Value} {d : DataW H} {ps : List MemPlace}, DataW.Trod enc Try.prog W 0 (fun _ => true) true t v d ps → ∀ x ∈ ps, x.block < W.heap.size := by
    intro t v d ps h
    obtain ⟨m, hm⟩ := h
    exact DataW.trod_lt m _ _ _ hm
  obtain ⟨a0, n0, c0, rfl⟩ := okWide_slice (e := 42) (by kernel_rfl) (hval 0 22 v0 rfl rfl)
  obtain ⟨fo0, hl0, hn0, hr0⟩ := Fk.fo_of h0
  subst hl0
  obtain ⟨a1, rfl⟩ := okWide_int (k := .i64) (by kernel_rfl) (hval 1 3 v1 rfl rfl)
  have hw1 := Fk.wf_of (k := .i64) (by kernel_rfl) h1
  obtain ⟨cs2, rfl, _⟩ := okWide_struct (fs := Try.prog.fieldsOf 71) (by kernel_rfl) (hval 2 71 v2 rfl rfl)
  obtain ⟨st2, a2, c2, l2, rfl, hn2, hr2, hk2⟩ := Fk.nfa_of h2
  obtain ⟨s3, rfl⟩ := okWide_string (by kernel_rfl) (hval 3 9 v3 rfl rfl)
  obtain ⟨l3, rfl, hb3, hn3⟩ := Fk.str_of h3
  clear hA0 hval0
  refine (Fk.f13_ok fo0 a0 c0 a1 st2 l2 a2 c2 l3 hb3 W hr0 hn0 hr2 (fun x hx => (hk2 x hx).1)).2.mono fun e W' he => ?_
  cases e with
  | returned v => ?_
  | _ => exact he.elim
  obtain ⟨rfl, hm⟩ := he
  have bel := Fk.below_of hm
  exact ⟨_, rfl, _, _, _, [], _, [], hW', trodAll_mk1 (shut_bool (by kernel_rfl) _), (trodAll_cons_mk (Below.trod laidOut (by kernel_rfl) (of_decide_eq_true (by kernel_rfl)) h0 bel (lt h0)) (trodAll_cons_mk (Below.trod laidOut (by kernel_rfl) (of_decide_eq_true (by kernel_rfl)) h1 bel (lt h1)) (trodAll_cons_mk (Below.trod laidOut (by kernel_rfl) (of_decide_eq_true (by kernel_rfl)) h2 bel (lt h2)) (trodAll_cons_mk (Below.trod laidOut (by kernel_rfl) (of_decide_eq_true (by kernel_rfl)) h3 bel (lt h3)) trodAll_mk0)))), rfl, bel.frame _, fun h => by cases h⟩
theorem nfaTells_inPlace : Rows.nfaTellsRow.inPlace = Try.prog.inPlace 13 := by kernel_rfl
theorem nfaTells_unfollowed : Rows.nfaTellsRow.unfollowed = Try.prog.unfollowed 13 := by kernel_rfl
theorem nfaTells_recurses : Rows.nfaTellsRow.recurses = Try.prog.recurses 13 := by kernel_rfl
theorem nfaTells_named : Rows.nfaTellsRow.named = Try.prog.varsNamed 13 := by kernel_rfl
theorem nfaTells_light : lightFacts Try.prog 13 Try.f13 Rows.nfaTellsSpec Rows.nfaTellsRow = true := by kernel_rfl
theorem nfaTells_proved : Rows.NfaTellsSaid :=
  OpenClaim.holds_of_wide 13 Try.f13 rfl rfl rfl rfl rfl rfl rfl ⟨rfl, rfl, rfl, rfl, rfl⟩ rfl rfl rfl rfl rfl (by kernel_rfl) Try.func13
    (joined_of nfaTells_light nfaTells_inPlace nfaTells_unfollowed nfaTells_recurses nfaTells_named)
    (of_decide_eq_true (by kernel_rfl)) (by unfold Func.isWrapper; first | (rw [if_pos (by decide +kernel)]; kernel_rfl) | (rw [if_neg (by decide +kernel)]; exact ⟨rfl, rfl⟩))
    (fun os started H enc _ => nfaTells_lifted os started H enc)
#print axioms nfaTells_proved
end Go.Proofs.Ytpgjpgecgibklaa
