/- 'LeastNumbers' is true of every input, and each argument reads as it did: under the row's own conditions, no others. -/
import Derived.Test.YtpgjpgecgibklaaGR0
import Derived.Test.YtpgjpgecgibklaaGR5
namespace Go.Proofs.Ytpgjpgecgibklaa
open Go.ChangeShapes Go.WideShapes Go.ChangeAt Go.RowKit
set_option linter.unusedVariables false
set_option linter.unusedSimpArgs false
set_option maxRecDepth 100000
theorem leastNumbers_lifted (os : Os) (started : os.Started) (H : Type) (enc : TypeId × Value → H) :
    ReturnsInHanded {} Try.checked os 21 .any (Rows.leastNumbersSpec.pre6 enc Try.prog Try.f21 Rows.leastNumbersRow.domain false) (Rows.leastNumbersSpec.post enc Try.prog Try.f21 false true false false) := by
  refine returnsInHanded_of_change_sized (C := Try.checked) ownNone started (by kernel_rfl) Try.func21
    (ChangeSpec.witness6 (enc := enc) (C := Try.checked) false ⟨#[], #[.agg #[.int .i64 0, .slice none 0 0, .slice none 0 0], .slice none 0 0, .slice none 0 0], []⟩ 8 (by kernel_rfl) (by kernel_rfl) (by kernel_rfl) (by kernel_rfl)) ?_
  intro W base args ds gs before hval0 hW hcnd hsz _
  have hval : ∀ (j : Nat) t v, Try.f21.params[j]? = some t → args[j]? = some v → Value.okWide Try.prog W .any base t v := hval0
  have hW' := hW
  obtain ⟨p, q, hA0, hV, rfl, hfz, hnd⟩ := hW
  have hA : DataW.TrodAll enc Try.prog W 0 (fun _ => true) true Try.f21.params.toList args.toList ds p := hA0
  rw [Try.params21] at hA hval
  obtain ⟨v0, vs0, d0, ds0, p0, q0, hargs, rfl, rfl, h0, r0⟩ := trodAll_cons hA
  obtain ⟨v1, vs1, d1, ds1, p1, q1, rfl, rfl, rfl, h1, r1⟩ := trodAll_cons r0
  obtain ⟨v2, vs2, d2, ds2, p2, q2, rfl, rfl, rfl, h2, r2⟩ := trodAll_cons r1
  obtain ⟨rfl, rfl, rfl⟩ := trodAll_nil r2
  obtain rfl : args = #[v0, v1, v2] := by cases args; simp_all
  obtain ⟨rfl, rfl⟩ := trodVars_none hV
  have lt : ∀ {t : TypeId} {v : Value} {d : DataW H} {ps : List MemPlace}, DataW.Trod enc Try.prog W 0 (fun _ => true) true t v d ps → ∀ x ∈ ps, x.block < W.heap.size := by
    intro t v d ps h
    obtain ⟨m, hm⟩ := h
    exact DataW.trod_lt m _ _ _ hm
  obtain ⟨cs0, rfl, _⟩ := okWide_struct (fs := Try.prog.fieldsOf 54) (by kernel_rfl) (hval 0 54 v0 rfl rfl)
  obtain ⟨dm0, na0, nc0, nx0, ta0, tc0, tg0, rfl, hn0, ht0, hr0, hs0, hm0, _⟩ := Fk.dfa_of h0
  obtain ⟨a1, n1, c1, rfl⟩ := okWide_slice (e := 5) (by kernel_rfl) (hval 1 51 v1 rfl rfl)
  obtain ⟨l1, hl1, hcp1, hn1, hr1, hb1⟩ := Fk.bytes_of h1
  subst hl1
  obtain ⟨a2, n2, c2, rfl⟩ := okWide_slice (e := 5) (by kernel_rfl) (hval 2 51 v2 rfl rfl)
  obtain ⟨l2, hl2, hcp2, hn2, hr2, hb2⟩ := Fk.bytes_of h2
  subst hl2
  clear hA0 hval0
  refine (Fk.f21_ok dm0 nx0 tg0 l1 l2 na0 ta0 a1 a2 nc0 tc0 c1 c2 W hr0 hs0 hr1 hr2 hb1 hn1 hn2 ht0 hn0).2.mono fun e W' he => ?_
  cases e with
  | returned v => ?_
  | _ => exact he.elim
  obtain ⟨rfl, hm⟩ := he
  have bel := Fk.below_of hm
  exact ⟨_, rfl, _, _, _, [], _, [], hW', trodAll_mk1 (shut_bool (by kernel_rfl) _), (trodAll_cons_mk (Below.trod laidOut (by kernel_rfl) (of_decide_eq_true (by kernel_rfl)) h0 bel (lt h0)) (trodAll_cons_mk (Below.trod laidOut (by kernel_rfl) (of_decide_eq_true (by kernel_rfl)) h1 bel (lt h1)) (trodAll_cons_mk (Below.trod laidOut (by kernel_rfl) (of_decide_eq_true (by kernel_rfl)) h2 bel (lt h2)) trodAll_mk0))), rfl, bel.frame _, fun h => by cases h⟩
theorem leastNumbers_inPlace : Rows.leastNumbersRow.inPlace = Try.prog.inPlace 21 := by kernel_rfl
theorem leastNumbers_unfollowed : Rows.leastNumbersRow.unfollowed = Try.prog.unfollowed 21 := by kernel_rfl
theorem leastNumbers_recurses : Rows.leastNumbersRow.recurses = Try.prog.recurses 21 := by kernel_rfl
theorem leastNumbers_named : Rows.leastNumbersRow.named = Try.prog.varsNamed 21 := by kernel_rfl
theorem leastNumbers_light : lightFacts Try.prog 21 Try.f21 Rows.leastNumbersSpec Rows.leastNumbersRow = true := by kernel_rfl
theorem leastNumbers_proved : Rows.LeastNumbersSaid :=
  OpenClaim.holds_of_wide 21 Try.f21 rfl rfl rfl rfl rfl rfl rfl ⟨rfl, rfl, rfl, rfl, rfl⟩ rfl rfl rfl rfl rfl (by kernel_rfl) Try.func21
    (joined_of leastNumbers_light leastNumbers_inPlace leastNumbers_unfollowed leastNumbers_recurses leastNumbers_named)
    (of_decide_eq_true (by kernel_rfl)) (by unfold Func.isWrapper; first | (rw [if_pos (by decide +kernel)]; kernel_rfl) | (rw [if_neg (by decide +kernel)]; exact ⟨rfl, rfl⟩))
    (fun os started H enc _ => leastNumbers_lifted os started H enc)
#print axioms leastNumbers_proved
end Go.Proofs.Ytpgjpgecgibklaa
