/- 'LeastApart' is true of every input, and each argument reads as it did: under the row's own conditions, no others. -/
import Derived.Test.YtpgjpgecgibklaaGR0
import Derived.Test.YtpgjpgecgibklaaGR4
namespace Go.Proofs.Ytpgjpgecgibklaa
open Go.ChangeShapes Go.WideShapes Go.ChangeAt Go.RowKit
set_option linter.unusedVariables false
set_option linter.unusedSimpArgs false
set_option maxRecDepth 100000
theorem leastApart_lifted (os : Os) (started : os.Started) (H : Type) (enc : TypeId × Value → H) :
    ReturnsInHanded {} Try.checked os 20 .any (Rows.leastApartSpec.pre6 enc Try.prog Try.f20 Rows.leastApartRow.domain false) (Rows.leastApartSpec.post enc Try.prog Try.f20 false true false false) := by
  refine returnsInHanded_of_change_sized (C := Try.checked) ownNone started (by kernel_rfl) Try.func20
    (ChangeSpec.witness6 (enc := enc) (C := Try.checked) false ⟨#[], #[.agg #[.int .i64 0, .slice none 0 0, .slice none 0 0], .int .u8 0, .int .u8 0], []⟩ 8 (by kernel_rfl) (by kernel_rfl) (by kernel_rfl) (by kernel_rfl)) ?_
  intro W base args ds gs before hval0 hW hcnd hsz _
  have hval : ∀ (j : Nat) t v, Try.f20.params[j]? = some t → args[j]? = some v → Value.okWide Try.prog W .any base t v := hval0
  have hW' := hW
  obtain ⟨p, q, hA0, hV, rfl, hfz, hnd⟩ := hW
  have hA : DataW.TrodAll enc Try.prog W 0 (fun _ => true) true Try.f20.params.toList args.toList ds p := hA0
  rw [Try.params20] at hA hval
  obtain ⟨v0, vs0, d0, ds0, p0, q0, hargs, rfl, rfl, h0, r0⟩ := trodAll_cons hA
  obtain ⟨v1, vs1, d1, ds1, p1, q1, rfl, rfl, rfl, h1, r1⟩ := trodAll_cons r0
  obtain ⟨v2, vs2, d2, ds2, p2, q2, rfl, rfl, rfl, h2, r2⟩ := trodAll_cons r1
  obtain ⟨rfl, rfl, rfl⟩ := trodAll_nil r2
  obtain rfl : args = #[v0, v1, v2] := by cases args; simp_all
  obtain ⟨rfl, rfl⟩ := trodVars_none hV
  have lt : ∀ {t : TypeId} {v : Value} {d : DataW H} {ps : List MemPlace}, DataW.Trod enc Try.prog W 0 (fun _ => true) true t v d ps → ∀ x ∈ ps, x.block < W.heap.size := by
    intro t v d ps h
    obtain ⟨m, hm⟩ := h
    exact DataW.trod_lt m _ _ _ hm
  obtain ⟨cs0, rfl, _⟩ := okWide_struct (fs := Try.prog.fieldsOf 54) (by kernel_rfl) (hval 0 54 v0 rfl rfl)
  obtain ⟨dm0, na0, nc0, nx0, ta0, tc0, tg0, rfl, hn0, ht0, hr0, hs0, hm0, _⟩ := Fk.dfa_of h0
  obtain ⟨a1, rfl⟩ := okWide_int (k := .u8) (by kernel_rfl) (hval 1 5 v1 rfl rfl)
  obtain ⟨b1, hb1, rfl⟩ := Fk.byte_of (by kernel_rfl) h1
  obtain ⟨a2, rfl⟩ := okWide_int (k := .u8) (by kernel_rfl) (hval 2 5 v2 rfl rfl)
  obtain ⟨b2, hb2, rfl⟩ := Fk.byte_of (by kernel_rfl) h2
  clear hA0 hval0
  refine (Fk.f20_ok dm0 nx0 tg0 na0 ta0 nc0 tc0 b1 b2 (by omega) (by omega) (by omega) (by omega) W hr0 hs0).2.mono fun e W' he => ?_
  cases e with
  | returned v => ?_
  | _ => exact he.elim
  obtain ⟨rfl, hm⟩ := he
  have bel := Fk.below_of hm
  exact ⟨_, rfl, _, _, _, [], _, [], hW', trodAll_mk1 (shut_bool (by kernel_rfl) _), (trodAll_cons_mk (Below.trod laidOut (by kernel_rfl) (of_decide_eq_true (by kernel_rfl)) h0 bel (lt h0)) (trodAll_cons_mk (Below.trod laidOut (by kernel_rfl) (of_decide_eq_true (by kernel_rfl)) h1 bel (lt h1)) (trodAll_cons_mk (Below.trod laidOut (by kernel_rfl) (of_decide_eq_true (by kernel_rfl)) h2 bel (lt h2)) trodAll_mk0))), rfl, bel.frame _, fun h => by cases h⟩
theorem leastApart_inPlace : Rows.leastApartRow.inPlace = Try.prog.inPlace 20 := by kernel_rfl
theorem leastApart_unfollowed : Rows.leastApartRow.unfollowed = Try.prog.unfollowed 20 := by kernel_rfl
theorem leastApart_recurses : Rows.leastApartRow.recurses = Try.prog.recurses 20 := by kernel_rfl
theorem leastApart_named : Rows.leastApartRow.named = Try.prog.varsNamed 20 := by kernel_rfl
theorem leastApart_light : lightFacts Try.prog 20 Try.f20 Rows.leastApartSpec Rows.leastApartRow = true := by kernel_rfl
theorem leastApart_proved : Rows.LeastApartSaid :=
  OpenClaim.holds_of_wide 20 Try.f20 rfl rfl rfl rfl rfl rfl rfl ⟨rfl, rfl, rfl, rfl, rfl⟩ rfl rfl rfl rfl rfl (by kernel_rfl) Try.func20
    (joined_of leastApart_light leastApart_inPlace leastApart_unfollowed leastApart_recurses leastApart_named)
    (of_decide_eq_true (by kernel_rfl)) (by unfold Func.isWrapper; first | (rw [if_pos (by decide +kernel)]; kernel_rfl) | (rw [if_neg (by decide +kernel)]; exact ⟨rfl, rfl⟩))
    (fun os started H enc _ => leastApart_lifted os started H enc)
#print axioms leastApart_proved
end Go.Proofs.Ytpgjpgecgibklaa
