/- 'ClassesTells' is true of every input, and each argument reads as it did: under the row's own conditions, no others. -/
import Derived.Test.YtpgjpgecgibklaaF0
import Derived.Test.YtpgjpgecgibklaaD0
namespace Go.Proofs.Ytpgjpgecgibklaa
open Go.ChangeShapes Go.WideShapes Go.ChangeAt Go.RowKit
set_option linter.unusedVariables false
set_option linter.unusedSimpArgs false
set_option maxRecDepth 100000
theorem okWide_array {P : Program} {w : World} {r : Reach} {base : Nat} {t e : TypeId} {n : Nat} {v : Value} (ht : P.underlying t = some (.array n e)) (h : Value.okWide P w r base t v) : ∃ cs, v = .agg cs := by
  unfold Value.okWide at h
  rw [ht] at h
  obtain ⟨cs, h, _⟩ := h
  exact ⟨cs, h⟩
theorem classesTells_lifted (os : Os) (started : os.Started) (H : Type) (enc : TypeId × Value → H) :
    ReturnsInHanded {} Try.checked os 3 .any (Rows.classesTellsSpec.pre6 enc Try.prog Try.f3 Rows.classesTellsRow.domain false) (Rows.classesTellsSpec.post enc Try.prog Try.f3 false true false false) := by
  refine returnsInHanded_of_change (C := Try.checked) ownNone started (by kernel_rfl) Try.func3
    (ChangeSpec.witness6 (enc := enc) (C := Try.checked) false ⟨#[], #[.slice none 0 0, .agg (Fk.zCl 0).v, .int .i64 0, .agg #[.int .u64 0, .int .u64 0, .int .u64 0, .int .u64 0]], []⟩ 8 (by kernel_rfl) (by kernel_rfl) (by kernel_rfl) (by kernel_rfl)) ?_
  intro W base args ds gs before hval0 hW hcnd _
  have hval : ∀ (j : Nat) t v, Try.f3.params[j]? = some t → args[j]? = some v → Value.okWide Try.prog W .any base t v := hval0
  have hW' := hW
  obtain ⟨p, q, hA0, hV, rfl, hfz, hnd⟩ := hW
  have hA : DataW.TrodAll enc Try.prog W 0 (fun _ => true) true Try.f3.params.toList args.toList ds p := hA0
  rw [Try.params3] at hA hval
  obtain ⟨v0, vs0, d0, ds0, p0, q0, hargs, rfl, rfl, h0, r0⟩ := trodAll_cons hA
  obtain ⟨v1, vs1, d1, ds1, p1, q1, rfl, rfl, rfl, h1, r1⟩ := trodAll_cons r0
  obtain ⟨v2, vs2, d2, ds2, p2, q2, rfl, rfl, rfl, h2, r2⟩ := trodAll_cons r1
  obtain ⟨v3, vs3, d3, ds3, p3, q3, rfl, rfl, rfl, h3, r3⟩ := trodAll_cons r2
  obtain ⟨rfl, rfl, rfl⟩ := trodAll_nil r3
  obtain rfl : args = #[v0, v1, v2, v3] := by cases args; simp_all
  obtain ⟨rfl, rfl⟩ := trodVars_none hV
  have lt : ∀ {t : TypeId} {v : Value} {d : DataW H} {ps : List MemPlace}, DataW.Trod enc Try.prog W 0 (fun _ => true) true t v d ps → ∀ x ∈ ps, x.block < W.heap.size := by
    intro t v d ps h
    obtain ⟨m, hm⟩ := h
    exact DataW.trod_lt m _ _ _ hm
  obtain ⟨a0, n0, c0, rfl⟩ := okWide_slice (e := 42) (by kernel_rfl) (hval 0 22 v0 rfl rfl)
  obtain ⟨cs1, rfl, _⟩ := okWide_struct (fs := Try.prog.fieldsOf 25) (by kernel_rfl) (hval 1 25 v1 rfl rfl)
  obtain ⟨a2, rfl⟩ := okWide_int (k := .i64) (by kernel_rfl) (hval 2 3 v2 rfl rfl)
  obtain ⟨cs3, rfl⟩ := okWide_array (n := 4) (e := 26) (by kernel_rfl) (hval 3 28 v3 rfl rfl)
  obtain ⟨fo, hl, hn, hr⟩ : ∃ fo : Fk.Fo, fo.len = n0 ∧ n0 < 2 ^ 63 ∧ Fk.RepF W a0 0 fo := by
    obtain ⟨fuel, hf⟩ := h0
    obtain ⟨a, n, c, fo, he, h1, h2, h3⟩ := Fk.open_fo fuel hf
    have he' : [Value.slice a0 n0 c0] = [.slice a n c] := he
    simp at he'
    obtain ⟨rfl, rfl, rfl⟩ := he'
    exact ⟨fo, h1, h2, h3⟩
  obtain ⟨c, hc, rfl⟩ : ∃ c : Fk.Cl, c.ok ∧ cs1 = c.v := by
    obtain ⟨fuel, hf⟩ := h1
    obtain ⟨c, hc, he⟩ := Fk.cl_cs hf
    exact ⟨c, hc, Array.ext' (by simpa [Value.cells, Fk.Cl.v] using he)⟩
  obtain ⟨qq, rfl⟩ : ∃ q : Fk.Q4, cs3 = #[.int .u64 q.1, .int .u64 q.2.1, .int .u64 q.2.2.1, .int .u64 q.2.2.2] := by
    obtain ⟨fuel, hf⟩ := h3
    obtain ⟨q, he⟩ := Fk.words_cs hf
    exact ⟨q, Array.ext' (by simpa [Value.cells, Fk.q4] using he)⟩
  subst hl
  clear hA0 hval0
  refine (Fk.f3_ok fo a0 c0 c hc a2 qq W hr hn).2.mono fun e W' he => ?_
  cases e with
  | returned v => ?_
  | _ => exact he.elim
  obtain ⟨rfl, hm⟩ := he
  have bel := Fk.below_of hm
  exact ⟨_, rfl, _, _, _, [], _, [], hW', trodAll_mk1 (shut_bool (by kernel_rfl) _),
    (trodAll_cons_mk (Below.trod laidOut (by kernel_rfl) (of_decide_eq_true (by kernel_rfl)) h0 bel (lt h0)) (trodAll_cons_mk (Below.trod laidOut (by kernel_rfl) (of_decide_eq_true (by kernel_rfl)) h1 bel (lt h1))
      (trodAll_cons_mk (Below.trod laidOut (by kernel_rfl) (of_decide_eq_true (by kernel_rfl)) h2 bel (lt h2)) (trodAll_cons_mk (Below.trod laidOut (by kernel_rfl) (of_decide_eq_true (by kernel_rfl)) h3 bel (lt h3)) trodAll_mk0)))), rfl, bel.frame _, fun h => by cases h⟩
theorem classesTells_inPlace : Rows.classesTellsRow.inPlace = Try.prog.inPlace 3 := by kernel_rfl
theorem classesTells_unfollowed : Rows.classesTellsRow.unfollowed = Try.prog.unfollowed 3 := by kernel_rfl
theorem classesTells_recurses : Rows.classesTellsRow.recurses = Try.prog.recurses 3 := by kernel_rfl
theorem classesTells_named : Rows.classesTellsRow.named = Try.prog.varsNamed 3 := by kernel_rfl
theorem classesTells_light : lightFacts Try.prog 3 Try.f3 Rows.classesTellsSpec Rows.classesTellsRow = true := by kernel_rfl
theorem classesTells_proved : Rows.ClassesTellsSaid :=
  OpenClaim.holds_of_wide 3 Try.f3 rfl rfl rfl rfl rfl rfl rfl ⟨rfl, rfl, rfl, rfl, rfl⟩ rfl rfl rfl rfl rfl (by kernel_rfl) Try.func3
    (joined_of classesTells_light classesTells_inPlace classesTells_unfollowed classesTells_recurses classesTells_named)
    (of_decide_eq_true (by kernel_rfl)) (by unfold Func.isWrapper; first | (rw [if_pos (by decide +kernel)]; kernel_rfl) | (rw [if_neg (by decide +kernel)]; exact ⟨rfl, rfl⟩))
    (fun os started H enc _ => classesTells_lifted os started H enc)
#print axioms classesTells_proved
end Go.Proofs.Ytpgjpgecgibklaa
