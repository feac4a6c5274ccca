/- First machines: all is as the document defines (NfaTells). -/
import Derived.Test.YtpgjpgecgibklaaNC
set_option linter.unusedVariables false
set_option linter.unusedSimpArgs false
set_option maxRecDepth 100000
set_option maxHeartbeats 2000000
namespace Fk
open Go Go.Proofs Go.RowKit
def KK0 (l : List Ns) : Prop := ∀ x ∈ l, 0 ≤ x.k
theorem mst_k {most : Nat} {l : List Ns} {x : Ns} (h : KK0 l) (hx : 0 ≤ x.k) : KK0 (mst most l x) := by
  unfold mst
  split
  · intro y hy
    rcases List.mem_append.1 hy with h1 | h1
    · exact h y h1
    · simp at h1; subst h1; exact hx
  · exact h
theorem setA_k {l : List Ns} {i k : Int} (h : KK0 l) : KK0 (setA l i k) := by
  unfold setA
  split
  · rename_i x hx
    intro y hy
    rcases List.mem_or_eq_of_mem_set hy with h1 | h1
    · exact h y h1
    · subst h1; exact h x (List.mem_of_getElem? hx)
  · exact h
theorem tw_k (most : Nat) : ∀ f : Fo, (∀ p : List Ns × Int, KK0 p.1 → KK0 ((tw most f).cat p).1) ∧ (∀ (to : Int) (l : List Ns), KK0 l → KK0 ((tw most f).alt to l).1) ∧ (∀ p : List Ns × Int, KK0 p.1 → KK0 ((tw most f).one p).1)
  | .nil => ⟨fun p h => h, fun to l h => h, fun p h => h⟩
  | .cons k a b c d q r => by
    obtain ⟨q1, q2, q3⟩ := tw_k most q
    obtain ⟨r1, r2, r3⟩ := tw_k most r
    have one : ∀ p : List Ns × Int, KK0 p.1 → KK0 (twOne most k a b c d (tw most q) p).1 := by
      intro p hp
      unfold twOne
      split
      · exact hp
      · split
        · exact mst_k hp (by simp)
        · split
          · exact q1 p hp
          · split
            · exact q2 _ _ hp
            · split
              · exact setA_k (q3 _ (mst_k hp (by simp [spl])))
              · exact hp
    refine ⟨fun p hp => one _ (r1 p hp), fun to l hl => ?_, one⟩
    show KK0 (twAlt most _ _ to l).1
    unfold twAlt
    simp only
    split
    · exact one _ (r2 to l hl)
    · exact mst_k (one _ (r2 to l hl)) (by simp [spl])
theorem bldF_k (most : Nat) : ∀ (f : Fo) (i : Int) (l : List Ns) (bs : List Int), KK0 l → KK0 (bldF most f i l bs).1
  | .nil, i, l, bs, h => h
  | .cons k a b c d q r, i, l, bs, h => by
    simp only [bldF]
    refine bldF_k most r _ _ _ ?_
    exact (tw_k most (.cons k a b c d q .nil)).2.2 _ (mst_k h (Int.le_refl 0))
theorem joinB_k (most : Nat) : ∀ (bs : List Int) (l : List Ns), KK0 l → KK0 (joinB most bs l).1
  | [], l, h => h
  | [b], l, h => h
  | b :: b2 :: bs, l, h => mst_k (joinB_k most (b2 :: bs) l h) (by simp [spl])
theorem bld_k (f : Fo) (most : Int) : KK0 (bld f most).1.2 := by
  unfold bld
  split
  · simp only
    split
    · intro x hx; cases hx
    · exact joinB_k _ _ _ (bldF_k _ _ _ _ _ (by intro x hx; cases hx))
  · intro x hx; cases hx
theorem bld_len (f : Fo) (most : Int) : (bld f most).1.2.length ≤ 20000 := by
  by_cases h : 1 ≤ f.len ∧ f.len ≤ 200 ∧ 1 ≤ most ∧ most ≤ 20000 ∧ f.right = true
  · rw [bld_eq h.1 h.2.1 h.2.2.1 h.2.2.2.1 h.2.2.2.2]
    split
    · simp
    · rename_i hc
      simp only
      rw [bldM_len h.1 h.2.2.2.2 (by omega)]
      omega
  · unfold bld; rw [if_neg h]; simp
theorem in76 (st : Int) (A : Option Addr) (n C : Nat) {L : List Nat} {w0 w : World} (h : Good L w0 w) {K : Bool → World → Prop} (kk : ∀ w', Good L w0 w' → K (decide (n ≤ 300)) w') : CallW Try.prog L 76 #[.agg #[.int .i64 st, .slice A n C]] (fun v w' => opB v fun b => K b w') w := by
  refine (f76_ok st A n C w).call h.2 ?_
  rintro v w' rfl h'
  exact opB_in (kk w' (h.tr h'))
theorem in77 {L : List Nat} {w0 w : World} (h : Good L w0 w) {K : Bool → World → Prop} (kk : ∀ w', Good L w0 w' → K true w') : CallW Try.prog L 77 #[] (fun v w' => opB v fun b => K b w') w := by
  refine (f77_ok w).call h.2 ?_
  rintro v w' rfl h'
  exact opB_in (kk w' (h.tr h'))
theorem runA_len (st : Int) (l : List Ns) (s : List Nat) : (runA st l s).1.length ≤ s.length + 1 := by
  unfold runA
  split
  · simp only [nfRun, List.length_cons, runF_len]; omega
  · simp
theorem f13_ok (f : Fo) (A : Option Addr) (C : Nat) (most st : Int) (l : List Ns) (B : Option Addr) (D : Nat) (s : List Nat) (hs : ∀ x ∈ s, x < 256) (w : World) (hr : RepF w A 0 f) (hl : f.len < 2 ^ 63) (hn : RowAt w B 8 nsE l) (hk : KK0 l) :
    Ct Try.prog 13 #[.slice A f.len C, .int .i64 most, .agg #[.int .i64 st, .slice B l.length D], .string (bytesOf s)] w fun v w' => v = .bool true ∧ Md [] w w' := by
  apply f13_in
  intro n1 hn1 w2 h2 hL2
  have g2 : Good [n1] w w2 := ⟨h2, hL2⟩
  refine in38 f A C hl g2 (hr.md h2) fun w4 b5 g4 hfew => ?_
  refine Bd_in fun b6 hb6 => ?_
  refine Gd_to (fun b w' => Good [n1] w w' ∧ (b6 = false → b = decide (l.length ≤ 300))) (fun b11 w12 hJ => ?_) (fun fin hc => ?_) fun hc => ⟨g4, fun h => by rw [h] at hc; cases hc⟩
  case refine_2 =>
    exact in76 st B l.length D g4 fun w9 g9 => fin _ _ ⟨g9, fun _ => rfl⟩
  obtain ⟨g12, h11⟩ := hJ
  refine Bd_in fun b13 hb13 => Bd_in fun b14 hb14 => If_in (fun _ => in77 g12 fun w16 g16 => ⟨rfl, g16.1⟩) fun hb => ?_
  have h6 : b6 = false := by
    rw [hb14] at hb
    cases h : b6 with
    | false => rfl
    | true => rw [h] at hb; simp at hb
  have hln : l.length ≤ 300 := by
    rw [hb14, hb13, h6, h11 h6] at hb
    simpa using hb
  have hf : f.few := hfew (by rw [hb6] at h6; simpa using h6)
  have hfl := hf.1
  have hfs := hf.2
  refine in68 s 20 g12 fun w19 g19 _ => ?_
  have hs2 : ∀ x ∈ s.take 20, x < 256 := fun x hx => hs x (List.mem_of_mem_take hx)
  have hsl : (s.take 20).length ≤ 20 := by rw [List.length_take]; omega
  generalize s.take 20 = t at hs2 hsl ⊢
  refine in66 f A C most g19 (hr.md g19.1) (by omega) fun a26 c28 w22 g22 _ own22 => rgU g22 fun n30 w31 g31 m31 => ?_
  refine in78 f A C most g31 (hr.md g31.1) (by omega) (by omega) fun a37 c39 w33 g33 m33 own33 => rgU g33 fun n41 w42 g42 m42 => ?_
  have r22 : RowAt w42 a26 8 nsE (bld f most).1.2 := (((own22.md m31).md m33).md m42).row encNs
  have r33 : RowAt w42 a37 8 nsE (bld f most).1.2 := (own33.md m42).row encNs
  have hbl := bld_len f most
  refine in79 _ _ _ _ _ _ _ _ g42 r22 r33 (by omega) fun w44 g44 m44 => ?_
  have hsame : nfSame (bld f most).1.1 (bld f most).1.2 (bld f most).1.1 (bld f most).1.2 = true := by unfold nfSame; simp
  rw [hsame]
  refine Bd_e (y := false) rfl <| Bd_e (y := false) (by simp) <| Bd_e (y := false) rfl <| If_in (fun h => by cases h) fun _ => ?_
  refine Nw_i <| Bd_e rfl ?_
  have ma : Md [] w44 (w44.alloc (.cells #[.int .i64 st, .slice B l.length D, .int .i64 (bld f most).1.1, .slice a37 (bld f most).1.2.length c39] 71)) := Md.alloc w44 _
  have hblk := Blk.new w44 #[.int .i64 st, .slice B l.length D, .int .i64 (bld f most).1.1, .slice a37 (bld f most).1.2.length c39] 71
  have g50 := g44.tr ma
  have rA : RowAt (w44.alloc (.cells #[.int .i64 st, .slice B l.length D, .int .i64 (bld f most).1.1, .slice a37 (bld f most).1.2.length c39] 71)) B 8 nsE l := hn.md g50.1
  have rB := (r33.md m44).md ma
  generalize w44.alloc (.cells #[.int .i64 st, .slice B l.length D, .int .i64 (bld f most).1.1, .slice a37 (bld f most).1.2.length c39] 71) = w50 at *
  generalize w44.heap.size = n49 at *
  have hkb := bld_k f most
  generalize (bld f most).1.1 = st2 at *
  generalize (bld f most).1.2 = l2 at *
  refine LoopP_in (fun mm us vs w' => ∃ i : Nat, us = [.bool false, .int .i64 i] ∧ mm = 2 - i ∧ i ≤ 2 ∧ Good [n41, n30, n1] w w' ∧ Md [] w50 w') 2 ⟨0, rfl, rfl, by omega, g50, Md.refl _ _⟩ ?_
  rintro mm us vs w55 ⟨i, rfl, rfl, hi, g55, m55⟩
  refine opB_in <| opI_in <| Bd_in fun b58 hb58 => If_in (fun hb => ?_) fun hb => in77 g55 fun w106 g106 => ⟨rfl, g106.1⟩
  have hi' : i < 2 := by rw [hb58] at hb; have := of_decide_eq_true hb; omega
  have hb55 := hblk.md m55 (by simp)
  obtain ⟨st3, l3, A3, C3, e1, e2, r3, hl3, hk3⟩ : ∃ st3 l3 A3 C3, [Value.int .i64 st, .slice B l.length D, .int .i64 st2, .slice a37 l2.length c39][i * 2]? = some (.int .i64 st3) ∧ [Value.int .i64 st, .slice B l.length D, .int .i64 st2, .slice a37 l2.length c39][i * 2 + 1]? = some (.slice A3 (List.length l3) C3) ∧ RowAt w50 A3 8 nsE l3 ∧ l3.length < 2 ^ 40 ∧ KK0 l3 := by
    rcases (by omega : i = 0 ∨ i = 1) with rfl | rfl
    · exact ⟨st, l, B, D, rfl, rfl, rA, by omega, hk⟩
    · exact ⟨st2, l2, a37, c39, rfl, rfl, rB, by omega, hkb⟩
  have eA : ∀ j, (adAt (some ⟨n49, 0, none⟩) (i : Int) 2).add j = ⟨n49, i * 2 + j, none⟩ := fun j => by simp only [adAt, Option.getD_some, Int.toNat_natCast]; rw [add_add, ad0']
  refine ⟨⟨by omega, by omega, rfl⟩, ?_⟩
  rw [eA, eA]
  refine Ld_in (hb55.cell e1) <| Ld_in (hb55.cell e2) <| opI_in <| opL_in <| rgU g55 fun n65 w66 g66 m66 => ?_
  have rr : ∀ {w' : World}, Md [] w55 w' → RowAt w' A3 8 nsE l3 := fun hm => r3.md (m55.trans hm)
  refine in69 st3 l3 A3 C3 t hs2 g66 (rr m66) hl3 (by omega) fun a70 c72 w68 g68 m68 own68 => ?_
  have m668 := m66.trans m68
  refine in80 st3 l3 A3 C3 t hs2 g68 (rr m668) hl3 hk3 (by omega) fun a77 c79 w75 g75 m75 own75 => ?_
  have m675 := m668.trans m75
  have hrl := runA_len st3 l3 t
  refine Jn_in (fun us vs w' => us = [.bool false] ∧ Good [n65, n41, n30, n1] w w' ∧ Md [] w55 w') ?_ ?_
  · rintro us vs w83 ⟨rfl, g83, m83⟩
    exact opB_in <| If_in (fun h => by cases h) fun _ => Bd_e (inc_i64 (by omega)) ⟨2 - (i + 1), by omega, i + 1, rfl, rfl, by omega, ⟨g83.1, fun b hb => g83.2 b (by simp at hb ⊢; exact .inr hb)⟩, m55.trans m83⟩
  refine ⟨fun _ => True, trivial, ?_⟩
  have md := m675.trans (Md_drew w75)
  refine in81 st3 l3 A3 C3 g75.drew (rr md) hl3 fun w89 g89 m89 => ⟨trivial, ?_⟩
  have md89 := md.trans m89
  refine in82 st3 l3 A3 C3 g89 (rr md89) hl3 hk3 fun w92 g92 m92 => ⟨trivial, ?_⟩
  have md92 := md89.trans m92
  refine Bd_e (y := false) (by cases nfRight st3 l3 <;> rfl) ?_
  have q1 : RowAt w92 a70 1 i1 (runA st3 l3 t).1 := (((((own68.md m75).md (Md_drew _)).md m89).md m92)).row enci1
  have q2 : RowAt w92 a77 1 i1 (runA st3 l3 t).1 := ((((own75.md (Md_drew _)).md m89).md m92)).row enci1
  refine Gd_in (fun _ => in73 _ _ _ _ _ _ g92 q1 q2 (by omega) fun w97 g97 m97 => ?_) (fun h => by cases h)
  refine ⟨trivial, Bd_e (y := false) (by simp) <| Bd_e (y := false) rfl <| Bd_e (y := false) (by simp) <| Bd_e (y := false) rfl ⟨rfl, g97, md92.trans m97⟩⟩
end Fk
