/- 'JournalTells' is true of every input, and each argument reads as it did: under the row's own conditions, no others. -/
import Derived.Test.YtpgjpgecgibklaaGR0
import Derived.Test.YtpgjpgecgibklaaGR3
import Derived.Test.YtpgjpgecgibklaaGR5
namespace Go.Proofs.Ytpgjpgecgibklaa
open Go.ChangeShapes Go.WideShapes Go.ChangeAt Go.RowKit
set_option linter.unusedVariables false
set_option linter.unusedSimpArgs false
set_option maxRecDepth 100000
theorem journalTells_lifted (os : Os) (started : os.Started) (H : Type) (enc : TypeId × Value → H) :
    ReturnsInHanded {} Try.checked os 37 .any (Rows.journalTellsSpec.pre6 enc Try.prog Try.f37 Rows.journalTellsRow.domain false) (Rows.journalTellsSpec.post enc Try.prog Try.f37 false true false false) := by
  refine returnsInHanded_of_change_sized (C := Try.checked) ownNone started (by kernel_rfl) Try.func37
    (ChangeSpec.witness6 (enc := enc) (C := Try.checked) false ⟨#[], #[.int .u8 0, .slice none 0 0, .slice none 0 0], []⟩ 8 (by kernel_rfl) (by kernel_rfl) (by kernel_rfl) (by kernel_rfl)) ?_
  intro W base args ds gs before hval0 hW hcnd hsz _
  have hval : ∀ (j : Nat) t v, Try.f37.params[j]? = some t → args[j]? = some v → Value.okWide Try.prog W .any base t v := hval0
  have hW' := hW
  obtain ⟨p, q, hA0, hV, rfl, hfz, hnd⟩ := hW
  have hA : DataW.TrodAll enc Try.prog W 0 (fun _ => true) true Try.f37.params.toList args.toList ds p := hA0
  rw [Try.params37] at hA hval
  obtain ⟨v0, vs0, d0, ds0, p0, q0, hargs, rfl, rfl, h0, r0⟩ := trodAll_cons hA
  obtain ⟨v1, vs1, d1, ds1, p1, q1, rfl, rfl, rfl, h1, r1⟩ := trodAll_cons r0
  obtain ⟨v2, vs2, d2, ds2, p2, q2, rfl, rfl, rfl, h2, r2⟩ := trodAll_cons r1
  obtain ⟨rfl, rfl, rfl⟩ := trodAll_nil r2
  obtain rfl : args = #[v0, v1, v2] := by cases args; simp_all
  obtain ⟨rfl, rfl⟩ := trodVars_none hV
  have lt : ∀ {t : TypeId} {v : Value} {d : DataW H} {ps : List MemPlace}, DataW.Trod enc Try.prog W 0 (fun _ => true) true t v d ps → ∀ x ∈ ps, x.block < W.heap.size := by
    intro t v d ps h
    obtain ⟨m, hm⟩ := h
    exact DataW.trod_lt m _ _ _ hm
  obtain ⟨a0, rfl⟩ := okWide_int (k := .u8) (by kernel_rfl) (hval 0 5 v0 rfl rfl)
  obtain ⟨b0, hb0, rfl⟩ := Fk.byte_of (by kernel_rfl) h0
  obtain ⟨a1, n1, c1, rfl⟩ := okWide_slice (e := 169) (by kernel_rfl) (hval 1 167 v1 rfl rfl)
  obtain ⟨l1, hl1, hcp1, hn1, hr1, hb1⟩ := Fk.ops4_of h1
  subst hl1
  obtain ⟨a2, n2, c2, rfl⟩ := okWide_slice (e := 5) (by kernel_rfl) (hval 2 51 v2 rfl rfl)
  obtain ⟨l2, hl2, hcp2, hn2, hr2, hb2⟩ := Fk.bytes_of h2
  subst hl2
  clear hA0 hval0
  refine (Fk.f37_ok l1 a1 c1 hb1 l2 a2 c2 hb2 b0 hb0 W hr1 hr2).2.mono fun e W' he => ?_
  cases e with
  | returned v => ?_
  | _ => exact he.elim
  obtain ⟨rfl, hm⟩ := he
  have bel := Fk.below_of hm
  exact ⟨_, rfl, _, _, _, [], _, [], hW', trodAll_mk1 (shut_bool (by kernel_rfl) _), (trodAll_cons_mk (Below.trod laidOut (by kernel_rfl) (of_decide_eq_true (by kernel_rfl)) h0 bel (lt h0)) (trodAll_cons_mk (Below.trod laidOut (by kernel_rfl) (of_decide_eq_true (by kernel_rfl)) h1 bel (lt h1)) (trodAll_cons_mk (Below.trod laidOut (by kernel_rfl) (of_decide_eq_true (by kernel_rfl)) h2 bel (lt h2)) trodAll_mk0))), rfl, bel.frame _, fun h => by cases h⟩
theorem journalTells_inPlace : Rows.journalTellsRow.inPlace = Try.prog.inPlace 37 := by kernel_rfl
theorem journalTells_unfollowed : Rows.journalTellsRow.unfollowed = Try.prog.unfollowed 37 := by kernel_rfl
theorem journalTells_recurses : Rows.journalTellsRow.recurses = Try.prog.recurses 37 := by kernel_rfl
theorem journalTells_named : Rows.journalTellsRow.named = Try.prog.varsNamed 37 := by kernel_rfl
theorem journalTells_light : lightFacts Try.prog 37 Try.f37 Rows.journalTellsSpec Rows.journalTellsRow = true := by kernel_rfl
theorem journalTells_proved : Rows.JournalTellsSaid :=
  OpenClaim.holds_of_wide 37 Try.f37 rfl rfl rfl rfl rfl rfl rfl ⟨rfl, rfl, rfl, rfl, rfl⟩ rfl rfl rfl rfl rfl (by kernel_rfl) Try.func37
    (joined_of journalTells_light journalTells_inPlace journalTells_unfollowed journalTells_recurses journalTells_named)
    (of_decide_eq_true (by kernel_rfl)) (by unfold Func.isWrapper; first | (rw [if_pos (by decide +kernel)]; kernel_rfl) | (rw [if_neg (by decide +kernel)]; exact ⟨rfl, rfl⟩))
    (fun os started H enc _ => journalTells_lifted os started H enc)
#print axioms journalTells_proved
end Go.Proofs.Ytpgjpgecgibklaa
