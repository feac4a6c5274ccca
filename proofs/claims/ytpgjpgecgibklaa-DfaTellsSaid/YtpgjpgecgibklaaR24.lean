/- 'DfaTells' is true of every input, and each argument reads as it did: under the row's own conditions, no others. -/
import Derived.Test.YtpgjpgecgibklaaGR1
import Derived.Test.YtpgjpgecgibklaaGR5
namespace Go.Proofs.Ytpgjpgecgibklaa
open Go.ChangeShapes Go.WideShapes Go.ChangeAt Go.RowKit
set_option linter.unusedVariables false
set_option linter.unusedSimpArgs false
set_option maxRecDepth 100000
theorem dfaTells_lifted (os : Os) (started : os.Started) (H : Type) (enc : TypeId × Value → H) :
    ReturnsInHanded {} Try.checked os 32 .any (Rows.dfaTellsSpec.pre6 enc Try.prog Try.f32 Rows.dfaTellsRow.domain false) (Rows.dfaTellsSpec.post enc Try.prog Try.f32 false true false false) := by
  refine returnsInHanded_of_change_sized (C := Try.checked) ownNone started (by kernel_rfl) Try.func32
    (ChangeSpec.witness6 (enc := enc) (C := Try.checked) false ⟨#[], #[.slice none 0 0, .agg #[.int .i64 0, .slice none 0 0], .agg (Fk.zCl 0).v, .int .i64 0, .agg #[.int .i64 0, .slice none 0 0, .slice none 0 0], .slice none 0 0], []⟩ 8 (by kernel_rfl) (by kernel_rfl) (by kernel_rfl) (by kernel_rfl)) ?_
  intro W base args ds gs before hval0 hW hcnd hsz _
  have hval : ∀ (j : Nat) t v, Try.f32.params[j]? = some t → args[j]? = some v → Value.okWide Try.prog W .any base t v := hval0
  have hW' := hW
  obtain ⟨p, q, hA0, hV, rfl, hfz, hnd⟩ := hW
  have hA : DataW.TrodAll enc Try.prog W 0 (fun _ => true) true Try.f32.params.toList args.toList ds p := hA0
  rw [Try.params32] at hA hval
  obtain ⟨v0, vs0, d0, ds0, p0, q0, hargs, rfl, rfl, h0, r0⟩ := trodAll_cons hA
  obtain ⟨v1, vs1, d1, ds1, p1, q1, rfl, rfl, rfl, h1, r1⟩ := trodAll_cons r0
  obtain ⟨v2, vs2, d2, ds2, p2, q2, rfl, rfl, rfl, h2, r2⟩ := trodAll_cons r1
  obtain ⟨v3, vs3, d3, ds3, p3, q3, rfl, rfl, rfl, h3, r3⟩ := trodAll_cons r2
  obtain ⟨v4, vs4, d4, ds4, p4, q4, rfl, rfl, rfl, h4, r4⟩ := trodAll_cons r3
  obtain ⟨v5, vs5, d5, ds5, p5, q5, rfl, rfl, rfl, h5, r5⟩ := trodAll_cons r4
  obtain ⟨rfl, rfl, rfl⟩ := trodAll_nil r5
  obtain rfl : args = #[v0, v1, v2, v3, v4, v5] := by cases args; simp_all
  obtain ⟨rfl, rfl⟩ := trodVars_none hV
  have lt : ∀ {t : TypeId} {v : Value} {d : DataW H} {ps : List MemPlace}, DataW.Trod enc Try.prog W 0 (fun _ => true) true t v d ps → ∀ x ∈ ps, x.block < W.heap.size := by
    intro t v d ps h
    obtain ⟨m, hm⟩ := h
    exact DataW.trod_lt m _ _ _ hm
  obtain ⟨a0, n0, c0, rfl⟩ := okWide_slice (e := 42) (by kernel_rfl) (hval 0 22 v0 rfl rfl)
  obtain ⟨fo0, hl0, hn0, hr0⟩ := Fk.fo_of h0
  subst hl0
  have hz0 : fo0.len ≤ 2 ^ 41 := Fk.fo_sized hsz (j := 0) (by kernel_rfl) rfl h0
  obtain ⟨cs1, rfl, _⟩ := okWide_struct (fs := Try.prog.fieldsOf 71) (by kernel_rfl) (hval 1 71 v1 rfl rfl)
  obtain ⟨st1, a1, c1, l1, rfl, hn1, hr1, hk1⟩ := Fk.nfa_of h1
  obtain ⟨cs2, rfl, _⟩ := okWide_struct (fs := Try.prog.fieldsOf 25) (by kernel_rfl) (hval 2 25 v2 rfl rfl)
  obtain ⟨c2, hc2, rfl⟩ := Fk.cl_of h2
  obtain ⟨a3, rfl⟩ := okWide_int (k := .i64) (by kernel_rfl) (hval 3 3 v3 rfl rfl)
  have hw3 := Fk.wf_of (k := .i64) (by kernel_rfl) h3
  obtain ⟨cs4, rfl, _⟩ := okWide_struct (fs := Try.prog.fieldsOf 54) (by kernel_rfl) (hval 4 54 v4 rfl rfl)
  obtain ⟨dm4, na4, nc4, nx4, ta4, tc4, tg4, rfl, hn4, ht4, hr4, hs4, hm4, _⟩ := Fk.dfa_of h4
  obtain ⟨a5, n5, c5, rfl⟩ := okWide_slice (e := 3) (by kernel_rfl) (hval 5 52 v5 rfl rfl)
  obtain ⟨l5, hl5, hn5, hr5, _⟩ := Fk.ints_of h5
  subst hl5
  clear hA0 hval0
  refine (Fk.f32_ok fo0 a0 c0 st1 l1 a1 c1 c2 hc2 a3 dm4 nx4 tg4 l5 na4 ta4 a5 nc4 tc4 c5 W hr0 hn0 hr1 (fun x hx => (hk1 x hx).1) hr4 hs4 hr5).2.mono fun e W' he => ?_
  cases e with
  | returned v => ?_
  | _ => exact he.elim
  obtain ⟨rfl, hm⟩ := he
  have bel := Fk.below_of hm
  exact ⟨_, rfl, _, _, _, [], _, [], hW', trodAll_mk1 (shut_bool (by kernel_rfl) _), (trodAll_cons_mk (Below.trod laidOut (by kernel_rfl) (of_decide_eq_true (by kernel_rfl)) h0 bel (lt h0)) (trodAll_cons_mk (Below.trod laidOut (by kernel_rfl) (of_decide_eq_true (by kernel_rfl)) h1 bel (lt h1)) (trodAll_cons_mk (Below.trod laidOut (by kernel_rfl) (of_decide_eq_true (by kernel_rfl)) h2 bel (lt h2)) (trodAll_cons_mk (Below.trod laidOut (by kernel_rfl) (of_decide_eq_true (by kernel_rfl)) h3 bel (lt h3)) (trodAll_cons_mk (Below.trod laidOut (by kernel_rfl) (of_decide_eq_true (by kernel_rfl)) h4 bel (lt h4)) (trodAll_cons_mk (Below.trod laidOut (by kernel_rfl) (of_decide_eq_true (by kernel_rfl)) h5 bel (lt h5)) trodAll_mk0)))))), rfl, bel.frame _, fun h => by cases h⟩
theorem dfaTells_inPlace : Rows.dfaTellsRow.inPlace = Try.prog.inPlace 32 := by kernel_rfl
theorem dfaTells_unfollowed : Rows.dfaTellsRow.unfollowed = Try.prog.unfollowed 32 := by kernel_rfl
theorem dfaTells_recurses : Rows.dfaTellsRow.recurses = Try.prog.recurses 32 := by kernel_rfl
theorem dfaTells_named : Rows.dfaTellsRow.named = Try.prog.varsNamed 32 := by kernel_rfl
theorem dfaTells_light : lightFacts Try.prog 32 Try.f32 Rows.dfaTellsSpec Rows.dfaTellsRow = true := by kernel_rfl
theorem dfaTells_proved : Rows.DfaTellsSaid :=
  OpenClaim.holds_of_wide 32 Try.f32 rfl rfl rfl rfl rfl rfl rfl ⟨rfl, rfl, rfl, rfl, rfl⟩ rfl rfl rfl rfl rfl (by kernel_rfl) Try.func32
    (joined_of dfaTells_light dfaTells_inPlace dfaTells_unfollowed dfaTells_recurses dfaTells_named)
    (of_decide_eq_true (by kernel_rfl)) (by unfold Func.isWrapper; first | (rw [if_pos (by decide +kernel)]; kernel_rfl) | (rw [if_neg (by decide +kernel)]; exact ⟨rfl, rfl⟩))
    (fun os started H enc _ => dfaTells_lifted os started H enc)
#print axioms dfaTells_proved
end Go.Proofs.Ytpgjpgecgibklaa
