/- 'DiskFront' is true of every input, and each argument reads as it did: under the row's own conditions, no others. -/
import Derived.Test.YtpgjpgecgibklaaD5
import Derived.Test.YtpgjpgecgibklaaE11
namespace Go.Proofs.Ytpgjpgecgibklaa
open Go.ChangeShapes Go.WideShapes Go.ChangeAt Go.RowKit
set_option linter.unusedVariables false
set_option linter.unusedSimpArgs false
set_option maxRecDepth 100000
theorem diskFront_lifted (os : Os) (started : os.Started) (H : Type) (enc : TypeId × Value → H) :
    ReturnsInHanded {} Try.checked os 23 .any (Rows.diskFrontSpec.pre6 enc Try.prog Try.f23 Rows.diskFrontRow.domain false) (Rows.diskFrontSpec.post enc Try.prog Try.f23 false true false false) := by
  refine returnsInHanded_of_change (C := Try.checked) ownNone started (by kernel_rfl) Try.func23
    (ChangeSpec.witness6 (enc := enc) (C := Try.checked) false ⟨#[], #[.slice none 0 0, .slice none 0 0, .int .u8 0, .int .u8 0], []⟩ 8 (by kernel_rfl) (by kernel_rfl) (by kernel_rfl) (by kernel_rfl)) ?_
  intro W base args ds gs before hval0 hW hcnd _
  have hval : ∀ (j : Nat) t v, Try.f23.params[j]? = some t → args[j]? = some v → Value.okWide Try.prog W .any base t v := hval0
  have hW' := hW
  obtain ⟨p, q, hA0, hV, rfl, hfz, hnd⟩ := hW
  have hA : DataW.TrodAll enc Try.prog W 0 (fun _ => true) true Try.f23.params.toList args.toList ds p := hA0
  rw [Try.params23] at hA hval
  obtain ⟨v0, vs0, d0, ds0, p0, q0, hargs, rfl, rfl, h0, r0⟩ := trodAll_cons hA
  obtain ⟨v1, vs1, d1, ds1, p1, q1, rfl, rfl, rfl, h1, r1⟩ := trodAll_cons r0
  obtain ⟨v2, vs2, d2, ds2, p2, q2, rfl, rfl, rfl, h2, r2⟩ := trodAll_cons r1
  obtain ⟨v3, vs3, d3, ds3, p3, q3, rfl, rfl, rfl, h3, r3⟩ := trodAll_cons r2
  obtain ⟨rfl, rfl, rfl⟩ := trodAll_nil r3
  obtain rfl : args = #[v0, v1, v2, v3] := by cases args; simp_all
  obtain ⟨rfl, rfl⟩ := trodVars_none hV
  have lt : ∀ {t : TypeId} {v : Value} {d : DataW H} {ps : List MemPlace}, DataW.Trod enc Try.prog W 0 (fun _ => true) true t v d ps → ∀ x ∈ ps, x.block < W.heap.size := by
    intro t v d ps h
    obtain ⟨m, hm⟩ := h
    exact DataW.trod_lt m _ _ _ hm
  obtain ⟨a0, n0, c0, rfl⟩ := okWide_slice (e := 125) (by kernel_rfl) (hval 0 118 v0 rfl rfl)
  obtain ⟨l0, hl0, hcp0, hn0, hr0, hb0⟩ := Fk.ops_of h0
  subst hl0
  obtain ⟨a1, n1, c1, rfl⟩ := okWide_slice (e := 125) (by kernel_rfl) (hval 1 118 v1 rfl rfl)
  obtain ⟨l1, hl1, hcp1, hn1, hr1, hb1⟩ := Fk.ops_of h1
  subst hl1
  obtain ⟨a2, rfl⟩ := okWide_int (k := .u8) (by kernel_rfl) (hval 2 5 v2 rfl rfl)
  obtain ⟨b2, hb2, rfl⟩ := Fk.byte_of (by kernel_rfl) h2
  obtain ⟨a3, rfl⟩ := okWide_int (k := .u8) (by kernel_rfl) (hval 3 5 v3 rfl rfl)
  obtain ⟨b3, hb3, rfl⟩ := Fk.byte_of (by kernel_rfl) h3
  clear hA0 hval0
  refine (Fk.f23_ok l0 l1 a0 a1 c0 c1 hn0 hcp0 hb0 hn1 hcp1 hb1 b2 b3 hb2 hb3 W hr0 hr1).2.mono fun e W' he => ?_
  cases e with
  | returned v => ?_
  | _ => exact he.elim
  obtain ⟨rfl, hm⟩ := he
  have bel := Fk.below_of hm
  exact ⟨_, rfl, _, _, _, [], _, [], hW', trodAll_mk1 (shut_bool (by kernel_rfl) _), (trodAll_cons_mk (Below.trod laidOut (by kernel_rfl) (of_decide_eq_true (by kernel_rfl)) h0 bel (lt h0)) (trodAll_cons_mk (Below.trod laidOut (by kernel_rfl) (of_decide_eq_true (by kernel_rfl)) h1 bel (lt h1)) (trodAll_cons_mk (Below.trod laidOut (by kernel_rfl) (of_decide_eq_true (by kernel_rfl)) h2 bel (lt h2)) (trodAll_cons_mk (Below.trod laidOut (by kernel_rfl) (of_decide_eq_true (by kernel_rfl)) h3 bel (lt h3)) trodAll_mk0)))), rfl, bel.frame _, fun h => by cases h⟩
theorem diskFront_inPlace : Rows.diskFrontRow.inPlace = Try.prog.inPlace 23 := by kernel_rfl
theorem diskFront_unfollowed : Rows.diskFrontRow.unfollowed = Try.prog.unfollowed 23 := by kernel_rfl
theorem diskFront_recurses : Rows.diskFrontRow.recurses = Try.prog.recurses 23 := by kernel_rfl
theorem diskFront_named : Rows.diskFrontRow.named = Try.prog.varsNamed 23 := by kernel_rfl
theorem diskFront_light : lightFacts Try.prog 23 Try.f23 Rows.diskFrontSpec Rows.diskFrontRow = true := by kernel_rfl
theorem diskFront_proved : Rows.DiskFrontSaid :=
  OpenClaim.holds_of_wide 23 Try.f23 rfl rfl rfl rfl rfl rfl rfl ⟨rfl, rfl, rfl, rfl, rfl⟩ rfl rfl rfl rfl rfl (by kernel_rfl) Try.func23
    (joined_of diskFront_light diskFront_inPlace diskFront_unfollowed diskFront_recurses diskFront_named)
    (of_decide_eq_true (by kernel_rfl)) (by unfold Func.isWrapper; first | (rw [if_pos (by decide +kernel)]; kernel_rfl) | (rw [if_neg (by decide +kernel)]; exact ⟨rfl, rfl⟩))
    (fun os started H enc _ => diskFront_lifted os started H enc)
#print axioms diskFront_proved
end Go.Proofs.Ytpgjpgecgibklaa
