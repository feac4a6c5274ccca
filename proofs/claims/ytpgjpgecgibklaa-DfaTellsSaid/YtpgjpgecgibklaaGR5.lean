/- Contracts of functions, and plain laws: several texts, joined. -/
import Derived.Test.YtpgjpgecgibklaaGR4
import Derived.Test.YtpgjpgecgibklaaGK2
import Derived.Test.YtpgjpgecgibklaaGV2
set_option linter.unusedVariables false
set_option linter.unusedSimpArgs false
set_option maxRecDepth 100000
set_option maxHeartbeats 4000000
namespace Fk
open Go Go.Proofs Go.RowKit
def ofC (f : Fo) : Cl × Int := if f.right = true then (clOf f.sets, 0) else (zCl 0, 2)
theorem ofC_ok (f : Fo) : (ofC f).1.ok := by
  unfold ofC
  split
  · exact clOf_ok _ _ (zCl_ok (by omega) (by omega))
  · exact zCl_ok (by omega) (by omega)
section
variable {L : List Nat} {w0 w : World}
theorem in40c (fo : Fo) (A : Option Addr) (C : Nat) (hl : fo.len < 2 ^ 40) (hbig : fo.size ≤ 2 ^ 39) {K : Array Value → Int → World → Prop} (h : Good L w0 w) (hr : RepF w A 0 fo)
    (k : ∀ w', Good L w0 w' → Md [] w w' → K (ofC fo).1.v (ofC fo).2 w') :
    CallW Try.prog L 40 #[.slice A fo.len C] (fun v w' => opTu v fun cs => opBig (nthD cs.toList 0) fun c => c.size = 257 ∧ opI .i64 (nthD cs.toList 1) fun e => SzIs cs.size 2 (K c e w')) w := by
  refine (f40_ok fo A C w hr hl hbig).call h.2 ?_
  rintro v w' rfl h'
  have hok := ofC_ok fo
  have e : (if fo.right = true then ofV (clOf fo.sets) 0 else ofV (zCl 0) 2) = ofV (ofC fo).1 (ofC fo).2 := by unfold ofC; cases fo.right <;> rfl
  rw [e]
  exact opTu_in <| opBig_in ⟨hok.size, opI_in <| SzIs_in rfl <| k w' (h.tr h') h'⟩
end
def ofD (f : Fo) (most : Int) : Dm × Int := dBld (bld f 20000).1.1 (bld f 20000).1.2 (ofC f).1 most
def ofB (f : Fo) (most : Int) : Bool := decide ((bld f 20000).2 = 0 ∧ (ofC f).2 = 0 ∧ (ofD f most).2 = 0)
theorem f85_ok (f : Fo) (A : Option Addr) (C : Nat) (most : Int) (w : World) (hr : RepF w A 0 f) (hl : f.len < 2 ^ 40) (hbig : f.size ≤ 2 ^ 39) :
    Ct Try.prog 85 #[.slice A f.len C, .int .i64 most] w fun v w' => (∃ a c na nc ta tc, v = .tuple #[.agg #[.int .i64 (bld f 20000).1.1, .slice a (bld f 20000).1.2.length c], .agg (ofC f).1.v, dmV (ofD f most).1 na nc ta tc, .bool (ofB f most)] ∧ OwnL w' w.heap.size 103 8 nsE a c (bld f 20000).1.2 ∧ OwnL w' w.heap.size 3 1 i1 na nc (ofD f most).1.2.1 ∧ OwnL w' w.heap.size 3 1 i1 ta tc (ofD f most).1.2.2) ∧ Md [] w w' := by
  apply f85_in
  intro n1 hn1 n2 hn2 n3 hn3 w4 m4 hL4
  have g4 : Good [n3, n2, n1] w w4 := ⟨m4, hL4⟩
  have hok := ofC_ok f
  have s4 := m4.size
  refine in66 f A C 20000 g4 (hr.md m4) (by omega) fun a c w6 g6 m6 own6 => rgU g6 fun n14 w15 g15 m15 => ?_
  refine in40c f A C hl hbig g15 (hr.md g15.1) fun w17 g17 m17 => ⟨hok.size, ?_⟩
  intro n21 hn21
  refine OkC_in hok.cells ⟨hok.size, fun w22 h22 hL22 => ?_⟩
  have m22 : Md [] w17 w22 := h22.fresh (by simp; exact hn21)
  have g22 : Good [n21, n14, n3, n2, n1] w w22 := ⟨g17.1.trans m22, hL22⟩
  have own22 := ((own6.md m15).md m17).md m22
  have hbl := bld_len f 20000
  refine in67 _ _ a c _ hok most g22 (own22.row encNs) (by omega) fun na nc ta tc w24 g24 m24 o1 o2 => ?_
  intro n35 hn35
  have own24 := own22.md m24
  have e0 : ofD f most = dBld (bld f 20000).1.1 (bld f 20000).1.2 (ofC f).1 most := rfl
  rw [← e0] at o1 o2 ⊢
  refine Jn_in (fun us vs w' => us = [.bool (ofB f most)] ∧ vs = [dmV (ofD f most).1 na nc ta tc, .agg (ofC f).1.v, .agg #[.int .i64 (bld f 20000).1.1, .slice a (bld f 20000).1.2.length c]] ∧ Md [] w w' ∧ OwnL w' w.heap.size 103 8 nsE a c (bld f 20000).1.2 ∧ OwnL w' w.heap.size 3 1 i1 na nc (ofD f most).1.2.1 ∧ OwnL w' w.heap.size 3 1 i1 ta tc (ofD f most).1.2.2) ?_ ?_
  · rintro us vs w38 ⟨rfl, rfl, q1, q2, q3, q4⟩
    exact opB_in <| opAg_in <| opI_in <| opL_in <| opL_in <| SzIs_in rfl <| opBig_in <| opAg_in <| opI_in <| opL_in <| SzIs_in rfl ⟨hok.size, ⟨a, c, na, nc, ta, tc, rfl, q2, q3, q4⟩, q1⟩
  · intro w55 h55 hL55
    have m55 : Md [] w24 w55 := h55.fresh (by simp; exact hn35)
    refine ⟨hok.size, Bd_in fun b56 hb56 => Bd_in fun b57 hb57 => Bd_in fun b58 hb58 => Bd_in fun b59 hb59 => Bd_in fun b60 hb60 => ?_⟩
    intro w61 h61 _
    refine OkC_in hok.cells ?_
    intro w62 h62 _ w63 h63 _
    have keep : ∀ {α : Type} {w' w'' : World} {n e size : Nat} {enc : α → List Value} {x : Option Addr} {y : Nat} {l : List α}, n < w4.heap.size → Md [n] w' w'' → OwnL w' w4.heap.size e size enc x y l → OwnL w'' w4.heap.size e size enc x y l := fun hn hm ho => ho.mdD hm fun A hA hd => by
      have := (ho.lt hA).1
      simp at hd
      omega
    have l1 := hL4 n1 (by simp)
    have l2 := hL4 n2 (by simp)
    have l3 := hL4 n3 (by simp)
    have s22 : w4.heap.size ≤ w22.heap.size := by have := m6.size; have := m15.size; have := m17.size; have := m22.size; omega
    have md24 : Md [] w24 w55.drew := m55.trans (Md_drew w55)
    have all : ∀ {α : Type} {e size : Nat} {enc : α → List Value} {x : Option Addr} {y : Nat} {l : List α}, OwnL w24 w4.heap.size e size enc x y l → OwnL w63 w.heap.size e size enc x y l := fun ho => (keep l3 h63 (keep l2 h62 (keep l1 h61 (ho.md md24)))).down s4
    refine ⟨?_, rfl, (((g24.1.trans md24).old h61 (by simp; exact hn1)).old h62 (by simp; exact hn2)).old h63 (by simp; exact hn3), all own24, all (o1.down s22), all (o2.down s22)⟩
    congr 2
    rw [hb60, hb59, hb58, hb57, hb56]
    unfold ofB
    by_cases c1 : (bld f 20000).2 = 0 <;> by_cases c2 : (ofC f).2 = 0 <;> by_cases c3 : (ofD f most).2 = 0 <;> simp [c1, c2, c3]
section
variable {L : List Nat} {w0 w : World}
theorem in85 (f : Fo) (A : Option Addr) (C : Nat) (most : Int) (h : Good L w0 w) (hr : RepF w A 0 f) (hl : f.len < 2 ^ 40) (hbig : f.size ≤ 2 ^ 39) {K : Int → Option Addr → Nat → Nat → Array Value → Int → Option Addr → Nat → Nat → Option Addr → Nat → Nat → Bool → World → Prop}
    (kk : ∀ a c na nc ta tc w', Good L w0 w' → Md [] w w' → OwnL w' w.heap.size 103 8 nsE a c (bld f 20000).1.2 → OwnL w' w.heap.size 3 1 i1 na nc (ofD f most).1.2.1 → OwnL w' w.heap.size 3 1 i1 ta tc (ofD f most).1.2.2 → K (bld f 20000).1.1 a (bld f 20000).1.2.length c (ofC f).1.v (ofD f most).1.1 na (ofD f most).1.2.1.length nc ta (ofD f most).1.2.2.length tc (ofB f most) w') :
    CallW Try.prog L 85 #[.slice A f.len C, .int .i64 most] (fun v w' => opTu v fun cs => opAg (nthD cs.toList 0) fun cs2 => opI .i64 (nthD cs2.toList 0) fun x => opL (nthD cs2.toList 1) fun a n c => SzIs cs2.size 2 (opBig (nthD cs.toList 1) fun cs3 => cs3.size = 257 ∧ opAg (nthD cs.toList 2) fun cs4 => opI .i64 (nthD cs4.toList 0) fun x2 => opL (nthD cs4.toList 1) fun a3 n3 c3 => opL (nthD cs4.toList 2) fun a4 n4 c4 => SzIs cs4.size 3 (opB (nthD cs.toList 3) fun b => SzIs cs.size 4 (K x a n c cs3 x2 a3 n3 c3 a4 n4 c4 b w')))) w := by
  refine (f85_ok f A C most w hr hl hbig).call h.2 ?_
  rintro v w' ⟨a, c, na, nc, ta, tc, rfl, o1, o2, o3⟩ h'
  exact opTu_in <| opAg_in <| opI_in <| opL_in <| SzIs_in rfl <| opBig_in ⟨(ofC_ok f).size, opAg_in <| opI_in <| opL_in <| opL_in <| SzIs_in rfl <| opB_in <| SzIs_in rfl <| kk a c na nc ta tc w' (h.tr h') h' o1 o2 o3⟩
end
def exC : Cl := ⟨List.replicate 97 0 ++ [1, 2] ++ List.replicate 157 0, 3⟩
theorem ex_C : ofC exF = (exC, 0) := by kernel_rfl
theorem ex_bld2 : bld exF 20000 = ((5, exS), 0) := by kernel_rfl
theorem ex_D3 : dBld 5 exS exC 3 = ((3, [-1, 1, 2, -1, 1, -1, -1, -1, -1], [1, 1, 0]), 0) := by kernel_rfl
theorem ex_D2 : dBld 5 exS exC 2 = ((0, [], []), 40) := by kernel_rfl
theorem ex_ofB : ofB exF 3 = true := by
  unfold ofB ofD
  rw [ex_bld2, ex_C]
  simp only
  rw [ex_D3]
  rfl
theorem ex_ofD : ofD exF 3 = ((3, [-1, 1, 2, -1, 1, -1, -1, -1, -1], [1, 1, 0]), 0) := by
  unfold ofD
  rw [ex_bld2, ex_C]
  exact ex_D3
theorem ex_runs : dRun 3 [-1, 1, 2, -1, 1, -1, -1, -1, -1] [1, 1, 0] [3] = ([], 2) := by kernel_rfl
theorem ex_runs1 : decide (dRun 3 [-1, 1, 2, -1, 1, -1, -1, -1, -1] [1, 1, 0] [1, 1] = ([1, 1, 1], 0)) = true := by kernel_rfl
theorem ex_runs2 : decide (dRun 3 [-1, 1, 2, -1, 1, -1, -1, -1, -1] [1, 1, 0] [2, 1] = ([1, 0, -1], 0)) = true := by kernel_rfl
section
variable {L : List Nat} {w0 w : World}
theorem in162 (dm : Int) (nx tg cs wt : List Int) (na ta ca wa : Option Addr) (nc tc cc wc : Nat) (h : Good L w0 w) (h1 : RowAt w na 1 i1 nx) (h2 : RowAt w ta 1 i1 tg) (h3 : RowAt w ca 1 i1 cs) (h4 : RowAt w wa 1 i1 wt) (hl1 : nx.length < 2 ^ 63) (hl2 : tg.length < 2 ^ 63) (hl3 : cs.length < 2 ^ 30) {K : Bool → World → Prop} (kk : ∀ w', Good L w0 w' → Md [] w w' → K (decide (dRun dm nx tg cs = (wt, 0))) w') :
    CallW Try.prog L 162 #[.agg #[.int .i64 dm, .slice na nx.length nc, .slice ta tg.length tc], .slice ca cs.length cc, .slice wa wt.length wc] (fun v w' => opB v fun b => K b w') w := by
  refine (f162_ok dm nx tg cs wt na ta ca wa nc tc cc wc w h1 h2 h3 h4 hl1 hl2 hl3).call h.2 ?_
  rintro v w' rfl h'
  exact opB_in (kk w' (h.tr h') h')
end
theorem ints_lit {w : World} (l : List Int) (cs : Array Value) (hc : cs.toList = l.flatMap i1) (hl : l.length ≤ 1000) : RowAt (w.alloc (.cells cs 3)) (some ⟨w.heap.size, 0, none⟩) 1 i1 l :=
  (OwnL.lit (P := Try.prog) (base := w.heap.size) enci1 w 3 l cs (Nat.le_refl _) (by simp [maxLen]; omega) hc).row enci1
theorem f65_ok (w : World) : Ct Try.prog 65 #[] w fun v w' => v = .bool true ∧ Md [] w w' := by
  apply f65_in
  have g0 : Good [] w w := ⟨Md.refl _ _, by simp⟩
  refine in161 98 17179869184 (.inr ⟨rfl, rfl⟩) g0 fun w2 g2 _ => in161 97 8589934592 (.inl ⟨rfl, rfl⟩) g2 fun w13 g13 _ => Nw_i <| Nw_i ?_
  have m26 : Md [] w13 ((w13.alloc (o42a 8589934592)).alloc (o42b 17179869184 w13.heap.size)) := (Md.alloc w13 _).trans (Md.alloc _ _)
  have r26 := exRep w13
  change CallW _ _ _ _ _ ((w13.alloc (o42a 8589934592)).alloc (o42b 17179869184 w13.heap.size))
  have hok : exC.ok := by have := ofC_ok exF; rw [ex_C] at this; exact this
  refine in85 exF _ 2 3 (g13.tr m26) r26 (by decide) (by decide) fun a c na nc ta tc w28 g28 m28 o1 o2 o3 => ?_
  rw [ex_bld2, ex_ofD] at *
  rw [ex_ofB, ex_C]
  simp only at o1 o2 o3 ⊢
  refine ⟨hok.size, fun n45 h45 n46 h46 n47 h47 => OkC_in hok.cells ⟨hok.size, fun w48 h48 hL48 => ?_⟩⟩
  have m48 : Md [] w28 w48 := h48.fresh (by simp; omega)
  have g48 : Good [n47, n46, n45] w w48 := ⟨g28.1.trans m48, hL48⟩
  have nx48 := ((o2.md m48).row enci1)
  have tg48 := ((o3.md m48).row enci1)
  refine in67 5 exS a c exC hok 2 g48 ((o1.md m48).row encNs) (by decide) fun na2 nc2 ta2 tc2 w50 g50 m50 p1 p2 => ?_
  rw [ex_D2]
  simp only
  refine rgU g50 fun n61 w62 g62 m62 => Nw_i ?_
  have m64 : Md [] w62 (w62.alloc (.cells #[.int .i64 3] 3)) := Md.alloc w62 _
  have r64 := ints_lit (w := w62) [3] #[.int .i64 3] rfl (by decide)
  have md64 := (m50.trans m62).trans m64
  refine in70 3 _ _ [3] na ta _ nc tc 1 (g62.tr m64) (nx48.md md64) (tg48.md md64) r64 (by decide) (by decide) (by decide) fun a68 c70 w66 g66 m66 _ => ?_
  rw [ex_runs]
  simp only
  have nx66 := (nx48.md md64).md m66
  have tg66 := (tg48.md md64).md m66
  refine Bd_e (y := true) rfl <| Bd_e (y := true) rfl <| Bd_e (y := true) rfl <| Bd_e (y := true) rfl ⟨fun _ => hok.manyI.1, Bd_e (y := 3) (by rw [hok.manyI.2]; rfl) <| Bd_e (y := true) rfl <| Bd_e (y := true) rfl ?_⟩
  refine Gd_t <| Nw_i <| Gd_t <| Nw_i ?_
  have ma1 : Md [] w66 (w66.alloc (.cells #[.int .i64 (-1), .int .i64 1, .int .i64 2, .int .i64 (-1), .int .i64 1, .int .i64 (-1), .int .i64 (-1), .int .i64 (-1), .int .i64 (-1)] 3)) := Md.alloc w66 _
  have q1 := ints_lit (w := w66) [-1, 1, 2, -1, 1, -1, -1, -1, -1] #[.int .i64 (-1), .int .i64 1, .int .i64 2, .int .i64 (-1), .int .i64 1, .int .i64 (-1), .int .i64 (-1), .int .i64 (-1), .int .i64 (-1)] rfl (by decide)
  have g84 := g66.tr ma1
  generalize w66.alloc (.cells #[.int .i64 (-1), .int .i64 1, .int .i64 2, .int .i64 (-1), .int .i64 1, .int .i64 (-1), .int .i64 (-1), .int .i64 (-1), .int .i64 (-1)] 3) = w84 at *
  have ma2 : Md [] w84 (w84.alloc (.cells #[.int .i64 1, .int .i64 1, .int .i64 0] 3)) := Md.alloc w84 _
  have q2 := ints_lit (w := w84) [1, 1, 0] #[.int .i64 1, .int .i64 1, .int .i64 0] rfl (by decide)
  have nx89 := (nx66.md ma1).md ma2
  have tg89 := (tg66.md ma1).md ma2
  refine Gd_t <| in96 3 3 [-1, 1, 2, -1, 1, -1, -1, -1, -1] [-1, 1, 2, -1, 1, -1, -1, -1, -1] [1, 1, 0] [1, 1, 0] na ta _ _ nc tc 9 3 (g84.tr ma2) nx89 tg89 (q1.md ma2) q2 (by decide) (by decide) fun w95 g95 m95 => ?_
  have nx95 := nx89.md m95
  have tg95 := tg89.md m95
  refine Bd_e (y := true) rfl <| Gd_t <| Nw_i <| Gd_t <| Nw_i ?_
  have ma3 : Md [] w95 (w95.alloc (.cells #[.int .i64 1, .int .i64 1] 3)) := Md.alloc w95 _
  have q3 := ints_lit (w := w95) [1, 1] #[.int .i64 1, .int .i64 1] rfl (by decide)
  have g101 := g95.tr ma3
  generalize w95.alloc (.cells #[.int .i64 1, .int .i64 1] 3) = w101 at *
  have ma4 : Md [] w101 (w101.alloc (.cells #[.int .i64 1, .int .i64 1, .int .i64 1] 3)) := Md.alloc w101 _
  have q4 := ints_lit (w := w101) [1, 1, 1] #[.int .i64 1, .int .i64 1, .int .i64 1] rfl (by decide)
  have nx106 := (nx95.md ma3).md ma4
  have tg106 := (tg95.md ma3).md ma4
  refine Gd_t <| in162 3 _ _ [1, 1] [1, 1, 1] na ta _ _ nc tc 2 3 (g101.tr ma4) nx106 tg106 (q3.md ma4) q4 (by decide) (by decide) (by decide) fun w112 g112 m112 => ?_
  rw [ex_runs1]
  have nx112 := nx106.md m112
  have tg112 := tg106.md m112
  refine Bd_e (y := true) rfl <| Gd_t <| Nw_i <| Gd_t <| Nw_i ?_
  have ma5 : Md [] w112 (w112.alloc (.cells #[.int .i64 2, .int .i64 1] 3)) := Md.alloc w112 _
  have q5 := ints_lit (w := w112) [2, 1] #[.int .i64 2, .int .i64 1] rfl (by decide)
  have g118 := g112.tr ma5
  generalize w112.alloc (.cells #[.int .i64 2, .int .i64 1] 3) = w118 at *
  have ma6 : Md [] w118 (w118.alloc (.cells #[.int .i64 1, .int .i64 0, .int .i64 (-1)] 3)) := Md.alloc w118 _
  have q6 := ints_lit (w := w118) [1, 0, -1] #[.int .i64 1, .int .i64 0, .int .i64 (-1)] rfl (by decide)
  have nx123 := (nx112.md ma5).md ma6
  have tg123 := (tg112.md ma5).md ma6
  refine Gd_t <| in162 3 _ _ [2, 1] [1, 0, -1] na ta _ _ nc tc 2 3 (g118.tr ma6) nx123 tg123 (q5.md ma6) q6 (by decide) (by decide) (by decide) fun w129 g129 m129 => ?_
  rw [ex_runs2]
  exact Bd_e (y := true) rfl ⟨rfl, g129.1⟩
theorem in65 {L : List Nat} {w0 w : World} {K : Bool → World → Prop} (h : Good L w0 w) (kk : ∀ w', Good L w0 w' → K true w') : CallW Try.prog L 65 #[] (fun v w' => opB v fun b => K b w') w := by
  refine (f65_ok w).call h.2 ?_
  rintro v w' rfl h'
  exact opB_in (kk w' (h.tr h'))
end Fk
set_option linter.unusedVariables false
set_option linter.unusedSimpArgs false
set_option maxRecDepth 100000
set_option maxHeartbeats 4000000
namespace Fk
open Go Go.Proofs Go.RowKit
theorem oneB_grow (l : List Ns) (b : Nat) (N : List Bool) (p : DP) : p.1.length ≤ (oneB l b N p).1.length := by
  unfold oneB
  split
  · exact Nat.le_refl _
  · split
    · exact Nat.le_refl _
    · simp
theorem dRow_grow {l : List Ns} {M : Nat} : ∀ {F : List Nat} {N : List Bool} {p q : DP}, dRow l M F N p = some q → p.1.length ≤ q.1.length
  | [], N, p, q, h => by simp only [dRow, Option.some.injEq] at h; rw [h]; exact Nat.le_refl _
  | b :: F, N, p, q, h => by
    unfold dRow at h
    split at h
    · cases h
    · exact Nat.le_trans (oneB_grow l b N p) (dRow_grow h)
theorem dRow_le {l : List Ns} {M : Nat} : ∀ {F : List Nat} {N : List Bool} {p q : DP}, dRow l M F N p = some q → p.1.length ≤ M → q.1.length ≤ M
  | [], N, p, q, h, hp => by simp only [dRow, Option.some.injEq] at h; rw [← h]; exact hp
  | b :: F, N, p, q, h, hp => by
    unfold dRow at h
    split at h
    · cases h
    · exact dRow_le h (by omega)
theorem dAll_le {l : List Ns} {M : Nat} {F : List Nat} : ∀ {f i : Nat} {p q : DP}, dAll l M F f i p = some q → p.1.length ≤ M → q.1.length ≤ M
  | 0, i, p, q, h, hp => by simp only [dAll, Option.some.injEq] at h; rw [← h]; exact hp
  | f + 1, i, p, q, h, hp => by
    unfold dAll at h
    split at h
    · simp only [Option.some.injEq] at h; rw [← h]; exact hp
    · rename_i N hN
      cases hr : dRow l M F N p with
      | none => rw [hr] at h; cases h
      | some p' =>
        rw [hr] at h
        exact dAll_le h (dRow_le hr hp)
end Fk
set_option linter.unusedVariables false
set_option linter.unusedSimpArgs false
set_option maxRecDepth 100000
set_option maxHeartbeats 4000000
namespace Fk
open Go Go.Proofs Go.RowKit
theorem Good.up {L D : List Nat} {w0 w w' : World} (g : Good L w0 w) (hD : ∀ d ∈ D, w.heap.size ≤ d) (hm : Md D w w') {L' : List Nat} (hL : ∀ b ∈ L', b < w'.heap.size) : Good L' w0 w' ∧ Md [] w w' :=
  ⟨⟨g.1.trans (hm.fresh hD), hL⟩, hm.fresh hD⟩
theorem dRow_nx {l : List Ns} {M : Nat} : ∀ {F : List Nat} {N : List Bool} {p q : DP}, dRow l M F N p = some q → q.2.length = p.2.length + F.length
  | [], N, p, q, h => by simp only [dRow, Option.some.injEq] at h; rw [h]; rfl
  | b :: F, N, p, q, h => by
    unfold dRow at h
    split at h
    · cases h
    · have := dRow_nx h
      have e : (oneB l b N p).2.length = p.2.length + 1 := by
        unfold oneB
        split
        · simp
        · split <;> simp
      simp; omega
theorem dAll_nx {l : List Ns} {M : Nat} {F : List Nat} : ∀ {f i : Nat} {p q : DP}, dAll l M F f i p = some q → p.1.length ≤ M → i ≤ p.1.length → i + f = M + 1 → p.2.length = i * F.length → q.2.length = q.1.length * F.length
  | 0, i, p, q, h, h1, h2, h3, h4 => by omega
  | f + 1, i, p, q, h, h1, h2, h3, h4 => by
    unfold dAll at h
    cases hN : p.1[i]? with
    | none =>
      rw [hN] at h
      simp only [Option.some.injEq] at h
      have := List.getElem?_eq_none_iff.1 hN
      have e : i = p.1.length := by omega
      rw [← h, ← e, h4]
    | some N =>
      rw [hN] at h
      have hil := (List.getElem?_eq_some_iff.1 hN).1
      simp only at h
      cases hr : dRow l M F N p with
      | none => rw [hr] at h; cases h
      | some p' =>
        rw [hr] at h
        have h : dAll l M F f (i + 1) p' = some q := h
        exact dAll_nx h (dRow_le hr h1) (by have := dRow_grow hr; omega) (by omega) (by rw [dRow_nx hr, h4, Nat.succ_mul])
theorem dBld_sz {st : Int} {l : List Ns} {c : Cl} (hc : c.ok) {m : Int} : (dBld st l c m).1.2.2.length ≤ 5000 ∧ (dBld st l c m).1.2.1.length ≤ 1280000 ∧ ((dBld st l c m).2 = 0 → ((dBld st l c m).1.2.1.length : Int) = c.m * (dBld st l c m).1.2.2.length ∧ (dBld st l c m).1.1 = c.m ∧ 1 ≤ c.m ∧ c.m ≤ 256) := by
  unfold dBld
  split
  case isFalse => simp
  rename_i hcd
  obtain ⟨hr, hf, hm1, hm2⟩ := hcd
  have hcr : c.right = true := by unfold fitsN at hf; rw [Bool.and_eq_true] at hf; exact hf.2
  obtain ⟨cm1, cm2⟩ := right_m hc hcr
  split
  case h_1 => simp
  rename_i p hp
  have hle := dAll_le hp (by simp; omega)
  have hnx := dAll_nx hp (by simp; omega) (by simp) (by omega) (by simp)
  rw [firsts_len] at hnx
  have hl : (tagL l p.1).length = p.1.length := by simp [tagL]
  have hmul : p.1.length * c.m.toNat ≤ 5000 * 256 := Nat.mul_le_mul (by omega) (by omega)
  refine ⟨by rw [hl]; omega, by simp only; omega, fun _ => ⟨?_, rfl, cm1, cm2⟩⟩
  simp only [hl]
  rw [hnx, Int.natCast_mul, Int.mul_comm]
  congr 1
  omega
end Fk
set_option linter.unusedVariables false
set_option linter.unusedSimpArgs false
set_option maxRecDepth 100000
set_option maxHeartbeats 4000000
namespace Fk
open Go Go.Proofs Go.RowKit
theorem dGo_len (dm : Int) (nx tg : List Int) : ∀ (l : List Int) (a : Int), (dGo dm nx tg l a).length = l.length
  | [], a => rfl
  | x :: l, a => by simp [dGo, dGo_len dm nx tg l]
end Fk
set_option linter.unusedVariables false
set_option linter.unusedSimpArgs false
set_option maxRecDepth 100000
set_option maxHeartbeats 4000000
namespace Fk
open Go Go.Proofs Go.RowKit
def z174 : List Value := [.int .i64 0, .slice none 0 0] ++ (zCl 0).l
theorem built174 (parts : List (Nat × Value)) : Try.prog.built 174 parts = Instr.fill (#[(0, 2), (2, 257)][·]?) z174.toArray parts := by kernel_rfl
structure Pr where
  st : Int
  a : Option Addr
  c : Nat
  l : List Ns
  cl : Cl
def prE (p : Pr) : List Value := [.int .i64 p.st, .slice p.a p.l.length p.c] ++ p.cl.l
theorem prE_len (p : Pr) (h : p.cl.ok) : (prE p).length = 259 := by simp [prE, Cl.l, h.len]
theorem z174_len : z174.length = 259 := by kernel_rfl
theorem build174 (w : World) (p : Pr) (h : p.cl.ok) : (Instr.build 174 #[(0, .agg #[.int .i64 p.st, .slice p.a p.l.length p.c]), (1, .agg p.cl.v)]).run Try.prog w = .ok (.agg (prE p).toArray) w := by
  refine run_build w 174 _ _ ?_
  rw [built174]
  have hl : p.cl.l.length = 257 := by simp [Cl.l, h.len]
  have hv : p.cl.v = p.cl.l.toArray := rfl
  have hz := z174_len
  have w1 : (wrL z174 0 [Value.int .i64 p.st, .slice p.a p.l.length p.c]).length = 259 := by rw [wrL_len (by simp [hz]), hz]
  have f1 := fold_wr 0 [Value.int .i64 p.st, .slice p.a p.l.length p.c] 0 z174 (by simp [hz])
  have f2 := fold_wr 2 p.cl.l 0 (wrL z174 0 [Value.int .i64 p.st, .slice p.a p.l.length p.c]) (by rw [w1, hl]; omega)
  simp only [Nat.zero_add, Nat.add_zero] at f1 f2
  have c1 : (Value.agg #[.int .i64 p.st, .slice p.a p.l.length p.c]).cells = #[.int .i64 p.st, .slice p.a p.l.length p.c] := rfl
  have c2 : (Value.agg p.cl.v).cells = p.cl.l.toArray := rfl
  have g1 : (#[Value.int .i64 p.st, .slice p.a p.l.length p.c].zipIdx.foldl (fun cs (c, j) => cs.setIfInBounds (0 + j) c) z174.toArray) = (wrL z174 0 [Value.int .i64 p.st, .slice p.a p.l.length p.c]).toArray := by
    rw [← Array.foldl_toList, Array.toList_zipIdx]
    simpa using f1
  have g2 : (p.cl.l.toArray.zipIdx.foldl (fun cs (c, j) => cs.setIfInBounds (2 + j) c) (wrL z174 0 [Value.int .i64 p.st, .slice p.a p.l.length p.c]).toArray) = (wrL (wrL z174 0 [Value.int .i64 p.st, .slice p.a p.l.length p.c]) 2 p.cl.l).toArray := by
    rw [← Array.foldl_toList, Array.toList_zipIdx]
    simpa using f2
  have e : wrL (wrL z174 0 [Value.int .i64 p.st, .slice p.a p.l.length p.c]) 2 p.cl.l = prE p := by
    apply List.ext_getElem?
    intro j
    rw [wrL_get (by rw [w1, hl]; omega), hl]
    by_cases hj : 2 ≤ j ∧ j < 2 + 257
    · rw [if_pos hj]
      unfold prE
      rw [List.getElem?_append_right (by simp; omega)]
      simp
    · rw [if_neg hj, wrL_get (by simp [hz])]
      by_cases hj2 : j < 2
      · rw [if_pos (by simp; omega)]
        unfold prE
        rw [List.getElem?_append_left (by simp; omega)]
        simp
      · rw [if_neg (by simp; omega), List.getElem?_eq_none (by omega), List.getElem?_eq_none (by rw [prE_len p h]; omega)]
  simp only [Instr.fill, c1, c2]
  have k1 : (#[(0, 2), (2, 257)] : Array (Nat × Nat))[0]? = some (0, 2) := rfl
  have k2 : (#[(0, 2), (2, 257)] : Array (Nat × Nat))[1]? = some (2, 257) := rfl
  simp only [k1, k2]
  rw [g1, g2, e]
  rw [if_neg (by simp [hz]), if_neg (by simp [hl, w1])]
theorem prE_cells (p : Pr) (h : p.cl.ok) : okCells (List.toArray (prE p)).toList 259 = true := by
  have hl := prE_len p h
  have : allOne (prE p) = true := by
    simp [allOne, prE, Cl.l, Value.oneCell']
  unfold okCells
  rw [show (List.toArray (prE p)).toList = prE p from rfl, hl]
  exact this
theorem flat_get : ∀ (L : List Pr), (∀ p ∈ L, (prE p).length = 259) → ∀ {i : Nat} {p : Pr}, L[i]? = some p → ∀ {j : Nat} {u : Value}, (prE p)[j]? = some u → (L.flatMap prE)[i * 259 + j]? = some u
  | [], _, i, p, h, _, _, _ => by simp at h
  | q :: L, hL, 0, p, h, j, u, hu => by
    simp at h; subst h
    have hj := (List.getElem?_eq_some_iff.1 hu).1
    rw [List.flatMap_cons, List.getElem?_append_left (by omega), Nat.zero_mul, Nat.zero_add]
    exact hu
  | q :: L, hL, i + 1, p, h, j, u, hu => by
    have hq := hL q (by simp)
    rw [List.flatMap_cons, List.getElem?_append_right (by omega), hq, show (i + 1) * 259 + j - 259 = i * 259 + j by omega]
    exact flat_get L (fun x hx => hL x (by simp [hx])) (by simpa using h) hu
/-- Such a pair is read, and taken apart. -/
theorem ldPr {w w1 : World} {n : Nat} {Ps : List Pr} (hb : Blk w1 n 174 (Ps.flatMap prE)) (hm : Md [] w1 w) (hok : ∀ p ∈ Ps, p.cl.ok) {i : Nat} (hi : i < Ps.length) {K : List Value → Prop} (k : K (prE Ps[i])) : LdN w (adAt (some (Addr.mk n 0 none)) (i : Int) 259) 259 K := by
  refine LdN_in (prE_len _ (hok _ (List.getElem_mem hi))) (fun j u hu => ?_) k
  have e : (adAt (some (Addr.mk n 0 none)) (i : Int) 259).add j = ⟨n, i * 259 + j, none⟩ := by
    show ((Addr.mk n 0 none).add ((i : Int).toNat * 259)).add j = _
    rw [add_add, ad0', Int.toNat_natCast]
  rw [e]
  exact hm.cell0 (hb.cell (flat_get Ps (fun p hp => prE_len p (hok p hp)) (List.getElem?_eq_getElem hi) hu))
theorem dRun_len (dm : Int) (nx tg cs : List Int) : (dRun dm nx tg cs).1.length ≤ cs.length + 1 := by
  unfold dRun
  split
  · simp [dGo_len]
  · simp
theorem f32_ok (fo : Fo) (A : Option Addr) (C : Nat) (st : Int) (l : List Ns) (B : Option Addr) (D : Nat) (cl : Cl) (hcl : cl.ok) (most dm : Int) (nx tg cs : List Int) (na ta ca : Option Addr) (nc tc cc : Nat) (w : World)
    (hr : RepF w A 0 fo) (hl : fo.len < 2 ^ 63) (hn : RowAt w B 8 nsE l) (hk : ∀ x ∈ l, 0 ≤ x.k) (h1 : RowAt w na 1 i1 nx) (h2 : RowAt w ta 1 i1 tg) (h3 : RowAt w ca 1 i1 cs) :
    Ct Try.prog 32 #[.slice A fo.len C, .agg #[.int .i64 st, .slice B l.length D], .agg cl.v, .int .i64 most, .agg #[.int .i64 dm, .slice na nx.length nc, .slice ta tg.length tc], .slice ca cs.length cc] w fun v w' => v = .bool true ∧ Md [] w w' := by
  apply f32_in
  intro n1 hn1 n2 hn2 n3 hn3 w4 m4 hL4
  have g4 : Good [n3, n2, n1] w w4 := ⟨m4, hL4⟩
  have fin : ∀ {w' : World} {L : List Nat}, Good L w w' → (Value.bool true = .bool true ∧ Md [] w w') := fun h => ⟨rfl, h.1⟩
  refine in38 fo A C hl g4 (hr.md m4) fun w6 b7 g6 hfew => Bd_in fun b8 hb8 => Gd_to (fun b w' => (b8 = false → b = decide (l.length ≤ 300)) ∧ Good [n3, n2, n1] w w') (fun b13 w14 hJ => ?_) (fun f2 hc => in76 st B l.length D g6 fun w' g' => f2 _ _ ⟨fun _ => rfl, g'⟩) (fun hc => ⟨(fun h => by rw [h] at hc; cases hc), g6⟩)
  obtain ⟨h13, g14⟩ := hJ
  refine Bd_in fun b15 hb15 => Bd_in fun b16 hb16 => Gd_to (fun b w' => (b16 = false → b = (decide (tg.length ≤ 60) && decide (nx.length ≤ 2400))) ∧ Good [n3, n2, n1] w w') (fun b21 w22 hJ => ?_) (fun f2 hc => in90 dm na ta nx.length nc tg.length tc g14 fun w' g' _ => f2 _ _ ⟨fun _ => rfl, g'⟩) (fun hc => ⟨(fun h => by rw [h] at hc; cases hc), g14⟩)
  obtain ⟨h21, g22⟩ := hJ
  refine Bd_in fun b23 hb23 => Bd_in fun b24 hb24 => Bd_e rfl <| Bd_in fun b26 hb26 => Bd_in fun b27 hb27 => If_in (fun _ => in65 g22 fun w29 g29 => fin g29) fun hb => ?_
  have hcond : b7 = true ∧ l.length ≤ 300 ∧ tg.length ≤ 60 ∧ nx.length ≤ 2400 ∧ cs.length ≤ 20 := by
    rw [hb27, hb24, hb23, hb26] at hb
    cases h16 : b16 with
    | true => rw [h16] at hb; simp at hb
    | false =>
      rw [h21 h16, h16] at hb
      rw [hb16, hb15] at h16
      cases h8 : b8 with
      | true => rw [h8] at h16; simp at h16
      | false =>
        rw [h13 h8, h8] at h16
        rw [hb8] at h8
        have hl3 : l.length ≤ 300 := by simpa using h16
        by_cases c1 : tg.length ≤ 60
        · by_cases c2 : nx.length ≤ 2400
          · simp [c1, c2] at hb
            exact ⟨by simpa using h8, hl3, c1, c2, by omega⟩
          · simp [c1, c2] at hb
        · simp [c1] at hb
  obtain ⟨h7, hl300, ht60, hn24, hc20⟩ := hcond
  have hf := hfew h7
  have hfl := hf.1
  have hfs := hf.2
  refine Jn_in (fun us vs w' => ∃ (x : Int), us = [.int .i64 x] ∧ w' = w22) ?_ ?_
  case refine_2 =>
    exact Bd_in fun b189 _ => Bd_in fun b190 _ => Bd_in fun b191 _ => If_in (fun _ => ⟨_, rfl, rfl⟩) fun _ => ⟨_, rfl, rfl⟩
  rintro us vs w33 ⟨x34, rfl, rfl⟩
  refine opI_in <| in66 fo A C 20000 g22 (hr.md g22.1) hl fun a40 c42 w36 g36 m36 own36 => ?_
  intro n44 hn44 w45 h45 hL45
  obtain ⟨g45, m45⟩ := g36.up (L' := [n44, n3, n2, n1]) (by simp; exact hn44) h45 hL45
  have hw36 := g36.1.size
  have hw47 : w36.heap.size ≤ w45.heap.size := m45.size
  have hbl := bld_len fo 20000
  have hkb := bld_k fo 20000
  have hok := ofC_ok fo
  have s36 := m36.size
  refine in40c fo A C (by omega) (by omega) g45 (hr.md g45.1) fun w47 g47 m47 => ⟨hok.size, ?_⟩
  have m3647 := m45.trans m47
  intro n51 hn51
  refine OkC_in hok.cells ⟨hok.size, ?_⟩
  intro n52 hn52
  refine OkC_in hok.cells ?_
  have h44 : n44 < w47.heap.size := g47.2 n44 (by simp)
  refine Jn_in (fun us vs w' => ∃ (cl' : Cl) (st' : Int) (a' : Option Addr) (c' : Nat) (l' : List Ns), us = [] ∧ vs = [.agg cl'.v, .agg #[.int .i64 st', .slice a' l'.length c']] ∧ cl'.ok ∧ RowAt w' a' 8 nsE l' ∧ l'.length < 2 ^ 40 ∧ (∀ x ∈ l', 0 ≤ x.k) ∧ Good [n52, n51, n44, n3, n2, n1] w w') ?_ ?_
  case refine_2 =>
    refine Bd_e rfl <| Bd_in fun b180 hb180 => Bd_e rfl <| Bd_in fun b182 hb182 => Bd_in fun b183 hb183 => If_in (fun _ w184 h184 hL184 => ?_) fun _ w187 h187 hL187 => ?_
    · obtain ⟨g184, m184⟩ := g47.up (L' := [n52, n51, n44, n3, n2, n1]) (by simp; omega) h184 hL184
      refine ⟨hcl.size, fun w185 h185 hL185 => OkC_in hcl.cells <| SzIs_in hok.size fun w186 h186 hL186 => ?_⟩
      have m186 : Md [] w w186 := ((g184.1.trans (Md_drew w184)).old h185 (by simp; omega)).old h186 (by simp; have := g47.1.size; omega)
      exact ⟨cl, st, B, D, l, rfl, rfl, hcl, hn.md m186, by omega, hk, m186, hL186⟩
    · obtain ⟨g187, m187⟩ := g47.up (L' := [n52, n51, n44, n3, n2, n1]) (by simp; omega) h187 hL187
      exact ⟨(ofC fo).1, _, a40, c42, _, rfl, rfl, hok, ((own36.md m3647).md m187).row encNs, by omega, hkb, g187⟩
  rintro us vs w55 ⟨cl', st', a', c', l', rfl, rfl, hcl', hr', hl', hk', g55⟩
  refine opBig_in <| opAg_in <| opI_in <| opL_in <| SzIs_in rfl ⟨hcl.size, ?_⟩
  have b1 := build174 w55 ⟨st, B, D, l, cl⟩ hcl
  have b2 := build174 w55 ⟨st, B, D, l, (ofC fo).1⟩ hok
  have b3 := build174 w55 ⟨st', a', c', l', cl'⟩ hcl'
  have b4 := build174 w55 ⟨st', a', c', l', cl⟩ hcl
  have z1 : (prE ⟨st, B, D, l, cl⟩).toArray.size = 259 := by simpa using prE_len ⟨st, B, D, l, cl⟩ hcl
  have z2 : (prE ⟨st, B, D, l, (ofC fo).1⟩).toArray.size = 259 := by simpa using prE_len ⟨st, B, D, l, (ofC fo).1⟩ hok
  have z3 : (prE ⟨st', a', c', l', cl'⟩).toArray.size = 259 := by simpa using prE_len ⟨st', a', c', l', cl'⟩ hcl'
  have z4 : (prE ⟨st', a', c', l', cl⟩).toArray.size = 259 := by simpa using prE_len ⟨st', a', c', l', cl⟩ hcl
  refine RunW_in0 b1 <| opBig_in ⟨z1, hok.size, RunW_in0 b2 <| opBig_in ⟨z2, hcl'.size, RunW_in0 b3 <| opBig_in ⟨z3, hcl.size, RunW_in0 b4 <| opBig_in ⟨z4, SzIs_in z1 <| SzIs_in z2 <| SzIs_in z3 <| SzIs_in z4 <| Nw_cs (cs := List.toArray (([⟨st, B, D, l, cl⟩, ⟨st, B, D, l, (ofC fo).1⟩, ⟨st', a', c', l', cl'⟩, ⟨st', a', c', l', cl⟩] : List Pr).flatMap prE)) ?_ ?_⟩⟩⟩⟩
  · simp [flat, cL, Value.cells]
  generalize hPs : ([⟨st, B, D, l, cl⟩, ⟨st, B, D, l, (ofC fo).1⟩, ⟨st', a', c', l', cl'⟩, ⟨st', a', c', l', cl⟩] : List Pr) = Ps
  have hP4 : Ps.length = 4 := by rw [← hPs]; rfl
  have hPok : ∀ p ∈ Ps, p.cl.ok ∧ RowAt w55 p.a 8 nsE p.l ∧ p.l.length < 2 ^ 40 ∧ ∀ x ∈ p.l, 0 ≤ x.k := by
    intro p hp
    rw [← hPs] at hp
    simp only [List.mem_cons, List.not_mem_nil, or_false] at hp
    rcases hp with rfl | rfl | rfl | rfl
    · exact ⟨hcl, hn.md g55.1, by simp only; omega, hk⟩
    · exact ⟨hok, hn.md g55.1, by simp only; omega, hk⟩
    · exact ⟨hcl', hr', hl', hk'⟩
    · exact ⟨hcl, hr', hl', hk'⟩
  clear hPs z1 z2 z3 z4 b1 b2 b3 b4
  have ma : Md [] w55 (w55.alloc (.cells (List.toArray (Ps.flatMap prE)) 174)) := Md.alloc w55 _
  have hblk : Blk (w55.alloc (.cells (List.toArray (Ps.flatMap prE)) 174)) w55.heap.size 174 (Ps.flatMap prE) := Blk.new w55 _ 174
  have g75 := g55.tr ma
  generalize w55.alloc (.cells (List.toArray (Ps.flatMap prE)) 174) = w75 at *
  refine Bd_e rfl ?_
  refine LoopP_in (fun mm us vs w' => ∃ (i : Nat) (b : Bool), us = [.bool b, .int .i64 i] ∧ mm = 4 - i ∧ i ≤ 4 ∧ Good [n52, n51, n44, n3, n2, n1] w w' ∧ Md [] w75 w') 4
    ⟨0, _, rfl, rfl, by omega, g75, Md.refl _ _⟩ ?_
  rintro mm us vs w80 ⟨i, b81, rfl, hmm, hi, g80, m80⟩
  refine opB_in <| opI_in <| Bd_in fun b83 hb83 => If_in (fun hb => ?_) fun hb => ?_
  · have hi4 : i < Ps.length := by rw [hb83] at hb; have : (i : Int) < ((4 : Nat) : Int) := of_decide_eq_true hb; omega
    refine ⟨⟨by omega, by omega, rfl⟩, ldPr hblk m80 (fun p hp => (hPok p hp).1) hi4 <| Bd_e rfl ?_⟩
    obtain ⟨p1, p2, p3, p4⟩ := hPok _ (List.getElem_mem hi4)
    have p2' := p2.md (ma.trans m80)
    generalize Ps[i] = p at *
    have hz : (List.toArray (prE p)).size = 259 := by simpa using prE_len p p1
    have hll : p.cl.l.length = 257 := by simp [Cl.l, p1.len]
    have e1 : List.toArray (List.take 2 (List.drop 0 (List.toArray (prE p)).toList)) = #[.int .i64 p.st, .slice p.a p.l.length p.c] := by
      simp [prE]
    have e2 : List.toArray (List.take 257 (List.drop 2 (List.toArray (prE p)).toList)) = p.cl.v := by
      simp [prE, Cl.v, List.take_of_length_le, hll]
    refine ⟨hz, ?_⟩
    intro n86 hn86
    refine OkC_in (prE_cells p p1) ⟨by omega, Bd_e e1 <| opI_in <| opL_in <| SzIs_in rfl ⟨by omega, Bd_e e2 ⟨p1.size, fun w93 h93 hL93 => ?_⟩⟩⟩
    obtain ⟨g93, m93⟩ := g80.up (L' := [n86, n52, n51, n44, n3, n2, n1]) (by simp; exact hn86) h93 hL93
    refine in67 p.st p.l p.a p.c p.cl p1 x34 g93 (p2'.md m93) p3 fun xa xc ya yc w95 g95 m95 o1 o2 => ?_
    intro n106 hn106
    refine ⟨by omega, Bd_e e1 <| opI_in <| opL_in <| SzIs_in rfl ⟨by omega, Bd_e e2 ⟨p1.size, fun w113 h113 hL113 => ?_⟩⟩⟩
    obtain ⟨g113, m113⟩ := g95.up (L' := [n106, n86, n52, n51, n44, n3, n2, n1]) (by simp; exact hn106) h113 hL113
    have md113 := (m93.trans m95).trans m113
    refine in131 p.st p.l p.a p.c p.cl p1 x34 g113 (p2'.md md113) p3 p4 fun ua uc va vc w115 g115 m115 o3 o4 => ?_
    intro n126 hn126 w127 h127 hL127
    obtain ⟨g127, m127⟩ := g115.up (L' := [n126, n106, n86, n52, n51, n44, n3, n2, n1]) (by simp; exact hn126) h127 hL127
    have hsz := dBld_sz (st := p.st) (l := p.l) p1 (m := x34)
    have mo : Md [] w95 w127 := (m113.trans m115).trans m127
    refine in96 _ _ _ _ _ _ xa ya ua va xc yc uc vc g127 ((o1.md mo).row enci1) ((o2.md mo).row enci1) ((o3.md m127).row enci1) ((o4.md m127).row enci1) (by omega) (by omega) fun w129 g129 m129 => ?_
    refine Bd_e (y := false) (by simp) <| Bd_e (y := false) (by simp) <| Bd_e (y := false) rfl <| If_in (fun h => by cases h) fun _ => Bd_e (inc_i64 (by omega)) ⟨4 - (i + 1), by omega, i + 1, b81, rfl, rfl, by omega, ⟨g129.1, fun b hb => g129.2 b (List.mem_cons_of_mem _ (List.mem_cons_of_mem _ (List.mem_cons_of_mem _ hb)))⟩, ((m80.trans md113).trans (m115.trans m127)).trans m129⟩
  · refine in70 dm nx tg cs na ta ca nc tc cc g80 (h1.md g80.1) (h2.md g80.1) (h3.md g80.1) (by omega) (by omega) (by omega) fun a138 c140 w136 g136 m136 o138 => ?_
    refine in132 dm nx tg cs na ta ca nc tc cc g136 (h1.md g136.1) (h2.md g136.1) (h3.md g136.1) (by omega) (by omega) (by omega) fun a145 c147 w143 g143 m143 o145 => ?_
    have hrl := dRun_len dm nx tg cs
    refine Jn_in (fun us vs w' => us = [.bool true] ∧ Md [] w w') ?_ ?_
    · rintro us vs w151 ⟨rfl, m151⟩
      exact opB_in ⟨rfl, m151⟩
    · have gd := g143.drew
      refine ⟨fun _ => True, trivial, in72d dm nx tg na ta nc tc gd (h1.md gd.1) (h2.md gd.1) (by omega) (by omega) fun w156 g156 m156 => ⟨trivial, in133d dm nx tg na ta nc tc g156 (h1.md g156.1) (h2.md g156.1) (by omega) (by omega) fun w159 g159 m159 => ⟨trivial, Bd_e (y := true) (by simp) <| Gd_t ?_⟩⟩⟩
      have mq : Md [] w143 w159 := ((Md_drew w143).trans m156).trans m159
      refine in73 _ _ a138 a145 c140 c147 g159 (((o138.md m143).md mq).row enci1) ((o145.md mq).row enci1) (by omega) fun w164 g164 m164 => ⟨trivial, ?_⟩
      rw [decide_eq_true rfl]
      exact Bd_e (y := true) rfl <| Bd_e (y := true) (by simp) <| Bd_e (y := true) rfl <| Gd_t <| in65 g164 fun w173 g173 => ⟨trivial, Bd_e (y := true) rfl ⟨rfl, g173.1⟩⟩
end Fk
