/- 'TableRight' is true of every input, and each argument reads as it did: under the row's own conditions, no others. -/
import Derived.Test.YtpgjpgecgibklaaGR1
import Derived.Test.YtpgjpgecgibklaaGR2
import Derived.Test.YtpgjpgecgibklaaGR6
namespace Go.Proofs.Ytpgjpgecgibklaa
open Go.ChangeShapes Go.WideShapes Go.ChangeAt Go.RowKit
set_option linter.unusedVariables false
set_option linter.unusedSimpArgs false
set_option maxRecDepth 100000
theorem tableRight_lifted (os : Os) (started : os.Started) (H : Type) (enc : TypeId × Value → H) :
    ReturnsInHanded {} Try.checked os 15 .any (Rows.tableRightSpec.pre6 enc Try.prog Try.f15 Rows.tableRightRow.domain false) (Rows.tableRightSpec.post enc Try.prog Try.f15 false true false false) := by
  refine returnsInHanded_of_change_sized (C := Try.checked) ownNone started (by kernel_rfl) Try.func15
    (ChangeSpec.witness6 (enc := enc) (C := Try.checked) false ⟨#[], #[.slice none 0 0, .string ByteArray.empty, .int .u8 0], []⟩ 8 (by kernel_rfl) (by kernel_rfl) (by kernel_rfl) (by kernel_rfl)) ?_
  intro W base args ds gs before hval0 hW hcnd hsz _
  have hval : ∀ (j : Nat) t v, Try.f15.params[j]? = some t → args[j]? = some v → Value.okWide Try.prog W .any base t v := hval0
  have hW' := hW
  obtain ⟨p, q, hA0, hV, rfl, hfz, hnd⟩ := hW
  have hA : DataW.TrodAll enc Try.prog W 0 (fun _ => true) true Try.f15.params.toList args.toList ds p := hA0
  rw [Try.params15] at hA hval
  obtain ⟨v0, vs0, d0, ds0, p0, q0, hargs, rfl, rfl, h0, r0⟩ := trodAll_cons hA
  obtain ⟨v1, vs1, d1, ds1, p1, q1, rfl, rfl, rfl, h1, r1⟩ := trodAll_cons r0
  obtain ⟨v2, vs2, d2, ds2, p2, q2, rfl, rfl, rfl, h2, r2⟩ := trodAll_cons r1
  obtain ⟨rfl, rfl, rfl⟩ := trodAll_nil r2
  obtain rfl : args = #[v0, v1, v2] := by cases args; simp_all
  obtain ⟨rfl, rfl⟩ := trodVars_none hV
  have lt : ∀ {t : TypeId} {v : Value} {d : DataW H} {ps : List MemPlace}, DataW.Trod enc Try.prog W 0 (fun _ => true) true t v d ps → ∀ x ∈ ps, x.block < W.heap.size := by
    intro t v d ps h
    obtain ⟨m, hm⟩ := h
    exact DataW.trod_lt m _ _ _ hm
  obtain ⟨a0, n0, c0, rfl⟩ := okWide_slice (e := 42) (by kernel_rfl) (hval 0 22 v0 rfl rfl)
  obtain ⟨fo0, hl0, hn0, hr0⟩ := Fk.fo_of h0
  subst hl0
  have hz0 : fo0.len ≤ 2 ^ 41 := Fk.fo_sized hsz (j := 0) (by kernel_rfl) rfl h0
  obtain ⟨s1, rfl⟩ := okWide_string (by kernel_rfl) (hval 1 9 v1 rfl rfl)
  obtain ⟨l1, rfl, hb1, hn1⟩ := Fk.str_of h1
  obtain ⟨a2, rfl⟩ := okWide_int (k := .u8) (by kernel_rfl) (hval 2 5 v2 rfl rfl)
  obtain ⟨b2, hb2, rfl⟩ := Fk.byte_of (by kernel_rfl) h2
  clear hA0 hval0
  refine (Fk.f15_ok fo0 a0 c0 (Fk.bytesOf l1) b2 (by omega) (by omega) W hr0 hn0).2.mono fun e W' he => ?_
  cases e with
  | returned v => ?_
  | _ => exact he.elim
  obtain ⟨rfl, hm⟩ := he
  have bel := Fk.below_of hm
  exact ⟨_, rfl, _, _, _, [], _, [], hW', trodAll_mk1 (shut_bool (by kernel_rfl) _), (trodAll_cons_mk (Below.trod laidOut (by kernel_rfl) (of_decide_eq_true (by kernel_rfl)) h0 bel (lt h0)) (trodAll_cons_mk (Below.trod laidOut (by kernel_rfl) (of_decide_eq_true (by kernel_rfl)) h1 bel (lt h1)) (trodAll_cons_mk (Below.trod laidOut (by kernel_rfl) (of_decide_eq_true (by kernel_rfl)) h2 bel (lt h2)) trodAll_mk0))), rfl, bel.frame _, fun h => by cases h⟩
theorem tableRight_inPlace : Rows.tableRightRow.inPlace = Try.prog.inPlace 15 := by kernel_rfl
theorem tableRight_unfollowed : Rows.tableRightRow.unfollowed = Try.prog.unfollowed 15 := by kernel_rfl
theorem tableRight_recurses : Rows.tableRightRow.recurses = Try.prog.recurses 15 := by kernel_rfl
theorem tableRight_named : Rows.tableRightRow.named = Try.prog.varsNamed 15 := by kernel_rfl
theorem tableRight_light : lightFacts Try.prog 15 Try.f15 Rows.tableRightSpec Rows.tableRightRow = true := by kernel_rfl
theorem tableRight_proved : Rows.TableRightSaid :=
  OpenClaim.holds_of_wide 15 Try.f15 rfl rfl rfl rfl rfl rfl rfl ⟨rfl, rfl, rfl, rfl, rfl⟩ rfl rfl rfl rfl rfl (by kernel_rfl) Try.func15
    (joined_of tableRight_light tableRight_inPlace tableRight_unfollowed tableRight_recurses tableRight_named)
    (of_decide_eq_true (by kernel_rfl)) (by unfold Func.isWrapper; first | (rw [if_pos (by decide +kernel)]; kernel_rfl) | (rw [if_neg (by decide +kernel)]; exact ⟨rfl, rfl⟩))
    (fun os started H enc _ => tableRight_lifted os started H enc)
#print axioms tableRight_proved
end Go.Proofs.Ytpgjpgecgibklaa
