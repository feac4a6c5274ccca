/- 'NfaFronts' is true of every input, and each argument reads as it did: under the row's own conditions, no others. -/
import Derived.Test.YtpgjpgecgibklaaD1
import Derived.Test.YtpgjpgecgibklaaD3
import Derived.Test.YtpgjpgecgibklaaD4
import Derived.Test.YtpgjpgecgibklaaD6
import Derived.Test.YtpgjpgecgibklaaN24
namespace Go.Proofs.Ytpgjpgecgibklaa
open Go.ChangeShapes Go.WideShapes Go.ChangeAt Go.RowKit
set_option linter.unusedVariables false
set_option linter.unusedSimpArgs false
set_option maxRecDepth 100000
theorem nfaFronts_lifted (os : Os) (started : os.Started) (H : Type) (enc : TypeId × Value → H) :
    ReturnsInHanded {} Try.checked os 17 .any (Rows.nfaFrontsSpec.pre6 enc Try.prog Try.f17 Rows.nfaFrontsRow.domain false) (Rows.nfaFrontsSpec.post enc Try.prog Try.f17 false true false false) := by
  refine returnsInHanded_of_change_sized (C := Try.checked) ownNone started (by kernel_rfl) Try.func17
    (ChangeSpec.witness6 (enc := enc) (C := Try.checked) false ⟨#[], #[.agg #[.int .i64 0, .slice none 0 0], .slice none 0 0, .string ByteArray.empty, .int .u8 0], []⟩ 8 (by kernel_rfl) (by kernel_rfl) (by kernel_rfl) (by kernel_rfl)) ?_
  intro W base args ds gs before hval0 hW hcnd hsz _
  have hval : ∀ (j : Nat) t v, Try.f17.params[j]? = some t → args[j]? = some v → Value.okWide Try.prog W .any base t v := hval0
  have hW' := hW
  obtain ⟨p, q, hA0, hV, rfl, hfz, hnd⟩ := hW
  have hA : DataW.TrodAll enc Try.prog W 0 (fun _ => true) true Try.f17.params.toList args.toList ds p := hA0
  rw [Try.params17] at hA hval
  obtain ⟨v0, vs0, d0, ds0, p0, q0, hargs, rfl, rfl, h0, r0⟩ := trodAll_cons hA
  obtain ⟨v1, vs1, d1, ds1, p1, q1, rfl, rfl, rfl, h1, r1⟩ := trodAll_cons r0
  obtain ⟨v2, vs2, d2, ds2, p2, q2, rfl, rfl, rfl, h2, r2⟩ := trodAll_cons r1
  obtain ⟨v3, vs3, d3, ds3, p3, q3, rfl, rfl, rfl, h3, r3⟩ := trodAll_cons r2
  obtain ⟨rfl, rfl, rfl⟩ := trodAll_nil r3
  obtain rfl : args = #[v0, v1, v2, v3] := by cases args; simp_all
  obtain ⟨rfl, rfl⟩ := trodVars_none hV
  have lt : ∀ {t : TypeId} {v : Value} {d : DataW H} {ps : List MemPlace}, DataW.Trod enc Try.prog W 0 (fun _ => true) true t v d ps → ∀ x ∈ ps, x.block < W.heap.size := by
    intro t v d ps h
    obtain ⟨m, hm⟩ := h
    exact DataW.trod_lt m _ _ _ hm
  obtain ⟨cs0, rfl, _⟩ := okWide_struct (fs := Try.prog.fieldsOf 71) (by kernel_rfl) (hval 0 71 v0 rfl rfl)
  obtain ⟨st0, a0, c0, l0, rfl, hn0, hr0, hk0⟩ := Fk.nfa_of h0
  obtain ⟨a1, n1, c1, rfl⟩ := okWide_slice (e := 42) (by kernel_rfl) (hval 1 22 v1 rfl rfl)
  obtain ⟨fo1, hl1, hn1, hr1⟩ := Fk.fo_of h1
  subst hl1
  have hz1 : fo1.len ≤ 2 ^ 41 := Fk.fo_sized hsz (j := 1) (by kernel_rfl) rfl h1
  obtain ⟨s2, rfl⟩ := okWide_string (by kernel_rfl) (hval 2 9 v2 rfl rfl)
  obtain ⟨l2, rfl, hb2, hn2⟩ := Fk.str_of h2
  obtain ⟨a3, rfl⟩ := okWide_int (k := .u8) (by kernel_rfl) (hval 3 5 v3 rfl rfl)
  obtain ⟨b3, hb3, rfl⟩ := Fk.byte_of (by kernel_rfl) h3
  clear hA0 hval0
  refine (Fk.f17_ok st0 l0 a0 c0 fo1 a1 c1 l2 hb2 b3 hb3 W hr1 hz1 hr0).2.mono fun e W' he => ?_
  cases e with
  | returned v => ?_
  | _ => exact he.elim
  obtain ⟨rfl, hm⟩ := he
  have bel := Fk.below_of hm
  exact ⟨_, rfl, _, _, _, [], _, [], hW', trodAll_mk1 (shut_bool (by kernel_rfl) _), (trodAll_cons_mk (Below.trod laidOut (by kernel_rfl) (of_decide_eq_true (by kernel_rfl)) h0 bel (lt h0)) (trodAll_cons_mk (Below.trod laidOut (by kernel_rfl) (of_decide_eq_true (by kernel_rfl)) h1 bel (lt h1)) (trodAll_cons_mk (Below.trod laidOut (by kernel_rfl) (of_decide_eq_true (by kernel_rfl)) h2 bel (lt h2)) (trodAll_cons_mk (Below.trod laidOut (by kernel_rfl) (of_decide_eq_true (by kernel_rfl)) h3 bel (lt h3)) trodAll_mk0)))), rfl, bel.frame _, fun h => by cases h⟩
theorem nfaFronts_inPlace : Rows.nfaFrontsRow.inPlace = Try.prog.inPlace 17 := by kernel_rfl
theorem nfaFronts_unfollowed : Rows.nfaFrontsRow.unfollowed = Try.prog.unfollowed 17 := by kernel_rfl
theorem nfaFronts_recurses : Rows.nfaFrontsRow.recurses = Try.prog.recurses 17 := by kernel_rfl
theorem nfaFronts_named : Rows.nfaFrontsRow.named = Try.prog.varsNamed 17 := by kernel_rfl
theorem nfaFronts_light : lightFacts Try.prog 17 Try.f17 Rows.nfaFrontsSpec Rows.nfaFrontsRow = true := by kernel_rfl
theorem nfaFronts_proved : Rows.NfaFrontsSaid :=
  OpenClaim.holds_of_wide 17 Try.f17 rfl rfl rfl rfl rfl rfl rfl ⟨rfl, rfl, rfl, rfl, rfl⟩ rfl rfl rfl rfl rfl (by kernel_rfl) Try.func17
    (joined_of nfaFronts_light nfaFronts_inPlace nfaFronts_unfollowed nfaFronts_recurses nfaFronts_named)
    (of_decide_eq_true (by kernel_rfl)) (by unfold Func.isWrapper; first | (rw [if_pos (by decide +kernel)]; kernel_rfl) | (rw [if_neg (by decide +kernel)]; exact ⟨rfl, rfl⟩))
    (fun os started H enc _ => nfaFronts_lifted os started H enc)
#print axioms nfaFronts_proved
end Go.Proofs.Ytpgjpgecgibklaa
