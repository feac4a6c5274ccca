/- 'TableTells' is true of every input, and each argument reads as it did: under the row's own conditions, no others. -/
import Derived.Test.YtpgjpgecgibklaaD4
import Derived.Test.YtpgjpgecgibklaaC32
namespace Go.Proofs.Ytpgjpgecgibklaa
open Go.ChangeShapes Go.WideShapes Go.ChangeAt Go.RowKit
set_option linter.unusedVariables false
set_option linter.unusedSimpArgs false
set_option maxRecDepth 100000
theorem tableTells_lifted (os : Os) (started : os.Started) (H : Type) (enc : TypeId × Value → H) :
    ReturnsInHanded {} Try.checked os 8 .any (Rows.tableTellsSpec.pre6 enc Try.prog Try.f8 Rows.tableTellsRow.domain false) (Rows.tableTellsSpec.post enc Try.prog Try.f8 false true false false) := by
  refine returnsInHanded_of_change (C := Try.checked) ownNone started (by kernel_rfl) Try.func8
    (ChangeSpec.witness6 (enc := enc) (C := Try.checked) false ⟨#[], #[.agg (Fk.zT.v Fk.zP), .int .i64 0, .int .u8 0, .slice none 0 0], []⟩ 8 (by kernel_rfl) (by kernel_rfl) (by kernel_rfl) (by kernel_rfl)) ?_
  intro W base args ds gs before hval0 hW hcnd _
  have hval : ∀ (j : Nat) t v, Try.f8.params[j]? = some t → args[j]? = some v → Value.okWide Try.prog W .any base t v := hval0
  have hW' := hW
  obtain ⟨p, q, hA0, hV, rfl, hfz, hnd⟩ := hW
  have hA : DataW.TrodAll enc Try.prog W 0 (fun _ => true) true Try.f8.params.toList args.toList ds p := hA0
  rw [Try.params8] at hA hval
  obtain ⟨v0, vs0, d0, ds0, p0, q0, hargs, rfl, rfl, h0, r0⟩ := trodAll_cons hA
  obtain ⟨v1, vs1, d1, ds1, p1, q1, rfl, rfl, rfl, h1, r1⟩ := trodAll_cons r0
  obtain ⟨v2, vs2, d2, ds2, p2, q2, rfl, rfl, rfl, h2, r2⟩ := trodAll_cons r1
  obtain ⟨v3, vs3, d3, ds3, p3, q3, rfl, rfl, rfl, h3, r3⟩ := trodAll_cons r2
  obtain ⟨rfl, rfl, rfl⟩ := trodAll_nil r3
  obtain rfl : args = #[v0, v1, v2, v3] := by cases args; simp_all
  obtain ⟨rfl, rfl⟩ := trodVars_none hV
  have lt : ∀ {t : TypeId} {v : Value} {d : DataW H} {ps : List MemPlace}, DataW.Trod enc Try.prog W 0 (fun _ => true) true t v d ps → ∀ x ∈ ps, x.block < W.heap.size := by
    intro t v d ps h
    obtain ⟨m, hm⟩ := h
    exact DataW.trod_lt m _ _ _ hm
  obtain ⟨cs0, rfl, _⟩ := okWide_struct (fs := Try.prog.fieldsOf 57) (by kernel_rfl) (hval 0 57 v0 rfl rfl)
  obtain ⟨tb0, tp0, rfl, ht0⟩ := Fk.tb_of h0
  obtain ⟨a1, rfl⟩ := okWide_int (k := .i64) (by kernel_rfl) (hval 1 3 v1 rfl rfl)
  have hw1 := Fk.wf_of (k := .i64) (by kernel_rfl) h1
  obtain ⟨a2, rfl⟩ := okWide_int (k := .u8) (by kernel_rfl) (hval 2 5 v2 rfl rfl)
  obtain ⟨b2, hb2, rfl⟩ := Fk.byte_of (by kernel_rfl) h2
  obtain ⟨a3, n3, c3, rfl⟩ := okWide_slice (e := 5) (by kernel_rfl) (hval 3 51 v3 rfl rfl)
  obtain ⟨l3, hl3, hcp3, hn3, hr3, hb3⟩ := Fk.bytes_of h3
  subst hl3
  clear hA0 hval0
  refine (Fk.f8_ok tb0 tp0 a1 b2 hb2 l3 a3 c3 hb3 hcp3 hn3 W ht0 hr3).2.mono fun e W' he => ?_
  cases e with
  | returned v => ?_
  | _ => exact he.elim
  obtain ⟨rfl, hm⟩ := he
  have bel := Fk.below_of hm
  exact ⟨_, rfl, _, _, _, [], _, [], hW', trodAll_mk1 (shut_bool (by kernel_rfl) _), (trodAll_cons_mk (Below.trod laidOut (by kernel_rfl) (of_decide_eq_true (by kernel_rfl)) h0 bel (lt h0)) (trodAll_cons_mk (Below.trod laidOut (by kernel_rfl) (of_decide_eq_true (by kernel_rfl)) h1 bel (lt h1)) (trodAll_cons_mk (Below.trod laidOut (by kernel_rfl) (of_decide_eq_true (by kernel_rfl)) h2 bel (lt h2)) (trodAll_cons_mk (Below.trod laidOut (by kernel_rfl) (of_decide_eq_true (by kernel_rfl)) h3 bel (lt h3)) trodAll_mk0)))), rfl, bel.frame _, fun h => by cases h⟩
theorem tableTells_inPlace : Rows.tableTellsRow.inPlace = Try.prog.inPlace 8 := by kernel_rfl
theorem tableTells_unfollowed : Rows.tableTellsRow.unfollowed = Try.prog.unfollowed 8 := by kernel_rfl
theorem tableTells_recurses : Rows.tableTellsRow.recurses = Try.prog.recurses 8 := by kernel_rfl
theorem tableTells_named : Rows.tableTellsRow.named = Try.prog.varsNamed 8 := by kernel_rfl
theorem tableTells_light : lightFacts Try.prog 8 Try.f8 Rows.tableTellsSpec Rows.tableTellsRow = true := by kernel_rfl
theorem tableTells_proved : Rows.TableTellsSaid :=
  OpenClaim.holds_of_wide 8 Try.f8 rfl rfl rfl rfl rfl rfl rfl ⟨rfl, rfl, rfl, rfl, rfl⟩ rfl rfl rfl rfl rfl (by kernel_rfl) Try.func8
    (joined_of tableTells_light tableTells_inPlace tableTells_unfollowed tableTells_recurses tableTells_named)
    (of_decide_eq_true (by kernel_rfl)) (by unfold Func.isWrapper; first | (rw [if_pos (by decide +kernel)]; kernel_rfl) | (rw [if_neg (by decide +kernel)]; exact ⟨rfl, rfl⟩))
    (fun os started H enc _ => tableTells_lifted os started H enc)
#print axioms tableTells_proved
end Go.Proofs.Ytpgjpgecgibklaa
