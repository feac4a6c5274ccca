/- Contracts of functions, and plain laws: several texts, joined. -/
import Derived.Test.YtpgjpgecgibklaaGR3
import Derived.Test.YtpgjpgecgibklaaGV1
set_option linter.unusedVariables false
set_option linter.unusedSimpArgs false
set_option maxRecDepth 100000
set_option maxHeartbeats 4000000
namespace Fk
open Go Go.Proofs Go.RowKit
def ofC (f : Fo) : Cl × Int := if f.right = true then (clOf f.sets, 0) else (zCl 0, 2)
theorem ofC_ok (f : Fo) : (ofC f).1.ok := by
  unfold ofC
  split
  · exact clOf_ok _ _ (zCl_ok (by omega) (by omega))
  · exact zCl_ok (by omega) (by omega)
section
variable {L : List Nat} {w0 w : World}
theorem in40c (fo : Fo) (A : Option Addr) (C : Nat) (hl : fo.len < 2 ^ 40) (hbig : fo.size ≤ 2 ^ 39) {K : Array Value → Int → World → Prop} (h : Good L w0 w) (hr : RepF w A 0 fo)
    (k : ∀ w', Good L w0 w' → Md [] w w' → K (ofC fo).1.v (ofC fo).2 w') :
    CallW Try.prog L 40 #[.slice A fo.len C] (fun v w' => opTu v fun cs => opBig (nthD cs.toList 0) fun c => c.size = 257 ∧ opI .i64 (nthD cs.toList 1) fun e => SzIs cs.size 2 (K c e w')) w := by
  refine (f40_ok fo A C w hr hl hbig).call h.2 ?_
  rintro v w' rfl h'
  have hok := ofC_ok fo
  have e : (if fo.right = true then ofV (clOf fo.sets) 0 else ofV (zCl 0) 2) = ofV (ofC fo).1 (ofC fo).2 := by unfold ofC; cases fo.right <;> rfl
  rw [e]
  exact opTu_in <| opBig_in ⟨hok.size, opI_in <| SzIs_in rfl <| k w' (h.tr h') h'⟩
end
def ofD (f : Fo) (most : Int) : Dm × Int := dBld (bld f 20000).1.1 (bld f 20000).1.2 (ofC f).1 most
def ofB (f : Fo) (most : Int) : Bool := decide ((bld f 20000).2 = 0 ∧ (ofC f).2 = 0 ∧ (ofD f most).2 = 0)
theorem f85_ok (f : Fo) (A : Option Addr) (C : Nat) (most : Int) (w : World) (hr : RepF w A 0 f) (hl : f.len < 2 ^ 40) (hbig : f.size ≤ 2 ^ 39) :
    Ct Try.prog 85 #[.slice A f.len C, .int .i64 most] w fun v w' => (∃ a c na nc ta tc, v = .tuple #[.agg #[.int .i64 (bld f 20000).1.1, .slice a (bld f 20000).1.2.length c], .agg (ofC f).1.v, dmV (ofD f most).1 na nc ta tc, .bool (ofB f most)] ∧ OwnL w' w.heap.size 103 8 nsE a c (bld f 20000).1.2 ∧ OwnL w' w.heap.size 3 1 i1 na nc (ofD f most).1.2.1 ∧ OwnL w' w.heap.size 3 1 i1 ta tc (ofD f most).1.2.2) ∧ Md [] w w' := by
  apply f85_in
  intro n1 hn1 n2 hn2 n3 hn3 w4 m4 hL4
  have g4 : Good [n3, n2, n1] w w4 := ⟨m4, hL4⟩
  have hok := ofC_ok f
  have s4 := m4.size
  refine in66 f A C 20000 g4 (hr.md m4) (by omega) fun a c w6 g6 m6 own6 => rgU g6 fun n14 w15 g15 m15 => ?_
  refine in40c f A C hl hbig g15 (hr.md g15.1) fun w17 g17 m17 => ⟨hok.size, ?_⟩
  intro n21 hn21
  refine OkC_in hok.cells ⟨hok.size, fun w22 h22 hL22 => ?_⟩
  have m22 : Md [] w17 w22 := h22.fresh (by simp; exact hn21)
  have g22 : Good [n21, n14, n3, n2, n1] w w22 := ⟨g17.1.trans m22, hL22⟩
  have own22 := ((own6.md m15).md m17).md m22
  have hbl := bld_len f 20000
  refine in67 _ _ a c _ hok most g22 (own22.row encNs) (by omega) fun na nc ta tc w24 g24 m24 o1 o2 => ?_
  intro n35 hn35
  have own24 := own22.md m24
  have e0 : ofD f most = dBld (bld f 20000).1.1 (bld f 20000).1.2 (ofC f).1 most := rfl
  rw [← e0] at o1 o2 ⊢
  refine Jn_in (fun us vs w' => us = [.bool (ofB f most)] ∧ vs = [dmV (ofD f most).1 na nc ta tc, .agg (ofC f).1.v, .agg #[.int .i64 (bld f 20000).1.1, .slice a (bld f 20000).1.2.length c]] ∧ Md [] w w' ∧ OwnL w' w.heap.size 103 8 nsE a c (bld f 20000).1.2 ∧ OwnL w' w.heap.size 3 1 i1 na nc (ofD f most).1.2.1 ∧ OwnL w' w.heap.size 3 1 i1 ta tc (ofD f most).1.2.2) ?_ ?_
  · rintro us vs w38 ⟨rfl, rfl, q1, q2, q3, q4⟩
    exact opB_in <| opAg_in <| opI_in <| opL_in <| opL_in <| SzIs_in rfl <| opBig_in <| opAg_in <| opI_in <| opL_in <| SzIs_in rfl ⟨hok.size, ⟨a, c, na, nc, ta, tc, rfl, q2, q3, q4⟩, q1⟩
  · intro w55 h55 hL55
    have m55 : Md [] w24 w55 := h55.fresh (by simp; exact hn35)
    refine ⟨hok.size, Bd_in fun b56 hb56 => Bd_in fun b57 hb57 => Bd_in fun b58 hb58 => Bd_in fun b59 hb59 => Bd_in fun b60 hb60 => ?_⟩
    intro w61 h61 _
    refine OkC_in hok.cells ?_
    intro w62 h62 _ w63 h63 _
    have keep : ∀ {α : Type} {w' w'' : World} {n e size : Nat} {enc : α → List Value} {x : Option Addr} {y : Nat} {l : List α}, n < w4.heap.size → Md [n] w' w'' → OwnL w' w4.heap.size e size enc x y l → OwnL w'' w4.heap.size e size enc x y l := fun hn hm ho => ho.mdD hm fun A hA hd => by
      have := (ho.lt hA).1
      simp at hd
      omega
    have l1 := hL4 n1 (by simp)
    have l2 := hL4 n2 (by simp)
    have l3 := hL4 n3 (by simp)
    have s22 : w4.heap.size ≤ w22.heap.size := by have := m6.size; have := m15.size; have := m17.size; have := m22.size; omega
    have md24 : Md [] w24 w55.drew := m55.trans (Md_drew w55)
    have all : ∀ {α : Type} {e size : Nat} {enc : α → List Value} {x : Option Addr} {y : Nat} {l : List α}, OwnL w24 w4.heap.size e size enc x y l → OwnL w63 w.heap.size e size enc x y l := fun ho => (keep l3 h63 (keep l2 h62 (keep l1 h61 (ho.md md24)))).down s4
    refine ⟨?_, rfl, (((g24.1.trans md24).old h61 (by simp; exact hn1)).old h62 (by simp; exact hn2)).old h63 (by simp; exact hn3), all own24, all (o1.down s22), all (o2.down s22)⟩
    congr 2
    rw [hb60, hb59, hb58, hb57, hb56]
    unfold ofB
    by_cases c1 : (bld f 20000).2 = 0 <;> by_cases c2 : (ofC f).2 = 0 <;> by_cases c3 : (ofD f most).2 = 0 <;> simp [c1, c2, c3]
section
variable {L : List Nat} {w0 w : World}
theorem in85 (f : Fo) (A : Option Addr) (C : Nat) (most : Int) (h : Good L w0 w) (hr : RepF w A 0 f) (hl : f.len < 2 ^ 40) (hbig : f.size ≤ 2 ^ 39) {K : Int → Option Addr → Nat → Nat → Array Value → Int → Option Addr → Nat → Nat → Option Addr → Nat → Nat → Bool → World → Prop}
    (kk : ∀ a c na nc ta tc w', Good L w0 w' → Md [] w w' → OwnL w' w.heap.size 103 8 nsE a c (bld f 20000).1.2 → OwnL w' w.heap.size 3 1 i1 na nc (ofD f most).1.2.1 → OwnL w' w.heap.size 3 1 i1 ta tc (ofD f most).1.2.2 → K (bld f 20000).1.1 a (bld f 20000).1.2.length c (ofC f).1.v (ofD f most).1.1 na (ofD f most).1.2.1.length nc ta (ofD f most).1.2.2.length tc (ofB f most) w') :
    CallW Try.prog L 85 #[.slice A f.len C, .int .i64 most] (fun v w' => opTu v fun cs => opAg (nthD cs.toList 0) fun cs2 => opI .i64 (nthD cs2.toList 0) fun x => opL (nthD cs2.toList 1) fun a n c => SzIs cs2.size 2 (opBig (nthD cs.toList 1) fun cs3 => cs3.size = 257 ∧ opAg (nthD cs.toList 2) fun cs4 => opI .i64 (nthD cs4.toList 0) fun x2 => opL (nthD cs4.toList 1) fun a3 n3 c3 => opL (nthD cs4.toList 2) fun a4 n4 c4 => SzIs cs4.size 3 (opB (nthD cs.toList 3) fun b => SzIs cs.size 4 (K x a n c cs3 x2 a3 n3 c3 a4 n4 c4 b w')))) w := by
  refine (f85_ok f A C most w hr hl hbig).call h.2 ?_
  rintro v w' ⟨a, c, na, nc, ta, tc, rfl, o1, o2, o3⟩ h'
  exact opTu_in <| opAg_in <| opI_in <| opL_in <| SzIs_in rfl <| opBig_in ⟨(ofC_ok f).size, opAg_in <| opI_in <| opL_in <| opL_in <| SzIs_in rfl <| opB_in <| SzIs_in rfl <| kk a c na nc ta tc w' (h.tr h') h' o1 o2 o3⟩
end
def exC : Cl := ⟨List.replicate 97 0 ++ [1, 2] ++ List.replicate 157 0, 3⟩
theorem ex_C : ofC exF = (exC, 0) := by kernel_rfl
theorem ex_bld2 : bld exF 20000 = ((5, exS), 0) := by kernel_rfl
theorem ex_D3 : dBld 5 exS exC 3 = ((3, [-1, 1, 2, -1, 1, -1, -1, -1, -1], [1, 1, 0]), 0) := by kernel_rfl
theorem ex_D2 : dBld 5 exS exC 2 = ((0, [], []), 40) := by kernel_rfl
theorem ex_ofB : ofB exF 3 = true := by
  unfold ofB ofD
  rw [ex_bld2, ex_C]
  simp only
  rw [ex_D3]
  rfl
theorem ex_ofD : ofD exF 3 = ((3, [-1, 1, 2, -1, 1, -1, -1, -1, -1], [1, 1, 0]), 0) := by
  unfold ofD
  rw [ex_bld2, ex_C]
  exact ex_D3
theorem ex_runs : dRun 3 [-1, 1, 2, -1, 1, -1, -1, -1, -1] [1, 1, 0] [3] = ([], 2) := by kernel_rfl
theorem ex_runs1 : decide (dRun 3 [-1, 1, 2, -1, 1, -1, -1, -1, -1] [1, 1, 0] [1, 1] = ([1, 1, 1], 0)) = true := by kernel_rfl
theorem ex_runs2 : decide (dRun 3 [-1, 1, 2, -1, 1, -1, -1, -1, -1] [1, 1, 0] [2, 1] = ([1, 0, -1], 0)) = true := by kernel_rfl
section
variable {L : List Nat} {w0 w : World}
theorem in162 (dm : Int) (nx tg cs wt : List Int) (na ta ca wa : Option Addr) (nc tc cc wc : Nat) (h : Good L w0 w) (h1 : RowAt w na 1 i1 nx) (h2 : RowAt w ta 1 i1 tg) (h3 : RowAt w ca 1 i1 cs) (h4 : RowAt w wa 1 i1 wt) (hl1 : nx.length < 2 ^ 63) (hl2 : tg.length < 2 ^ 63) (hl3 : cs.length < 2 ^ 30) {K : Bool → World → Prop} (kk : ∀ w', Good L w0 w' → Md [] w w' → K (decide (dRun dm nx tg cs = (wt, 0))) w') :
    CallW Try.prog L 162 #[.agg #[.int .i64 dm, .slice na nx.length nc, .slice ta tg.length tc], .slice ca cs.length cc, .slice wa wt.length wc] (fun v w' => opB v fun b => K b w') w := by
  refine (f162_ok dm nx tg cs wt na ta ca wa nc tc cc wc w h1 h2 h3 h4 hl1 hl2 hl3).call h.2 ?_
  rintro v w' rfl h'
  exact opB_in (kk w' (h.tr h') h')
end
theorem ints_lit {w : World} (l : List Int) (cs : Array Value) (hc : cs.toList = l.flatMap i1) (hl : l.length ≤ 1000) : RowAt (w.alloc (.cells cs 3)) (some ⟨w.heap.size, 0, none⟩) 1 i1 l :=
  (OwnL.lit (P := Try.prog) (base := w.heap.size) enci1 w 3 l cs (Nat.le_refl _) (by simp [maxLen]; omega) hc).row enci1
theorem f65_ok (w : World) : Ct Try.prog 65 #[] w fun v w' => v = .bool true ∧ Md [] w w' := by
  apply f65_in
  have g0 : Good [] w w := ⟨Md.refl _ _, by simp⟩
  refine in161 98 17179869184 (.inr ⟨rfl, rfl⟩) g0 fun w2 g2 _ => in161 97 8589934592 (.inl ⟨rfl, rfl⟩) g2 fun w13 g13 _ => Nw_i <| Nw_i ?_
  have m26 : Md [] w13 ((w13.alloc (o42a 8589934592)).alloc (o42b 17179869184 w13.heap.size)) := (Md.alloc w13 _).trans (Md.alloc _ _)
  have r26 := exRep w13
  change CallW _ _ _ _ _ ((w13.alloc (o42a 8589934592)).alloc (o42b 17179869184 w13.heap.size))
  have hok : exC.ok := by have := ofC_ok exF; rw [ex_C] at this; exact this
  refine in85 exF _ 2 3 (g13.tr m26) r26 (by decide) (by decide) fun a c na nc ta tc w28 g28 m28 o1 o2 o3 => ?_
  rw [ex_bld2, ex_ofD] at *
  rw [ex_ofB, ex_C]
  simp only at o1 o2 o3 ⊢
  refine ⟨hok.size, fun n45 h45 n46 h46 n47 h47 => OkC_in hok.cells ⟨hok.size, fun w48 h48 hL48 => ?_⟩⟩
  have m48 : Md [] w28 w48 := h48.fresh (by simp; omega)
  have g48 : Good [n47, n46, n45] w w48 := ⟨g28.1.trans m48, hL48⟩
  have nx48 := ((o2.md m48).row enci1)
  have tg48 := ((o3.md m48).row enci1)
  refine in67 5 exS a c exC hok 2 g48 ((o1.md m48).row encNs) (by decide) fun na2 nc2 ta2 tc2 w50 g50 m50 p1 p2 => ?_
  rw [ex_D2]
  simp only
  refine rgU g50 fun n61 w62 g62 m62 => Nw_i ?_
  have m64 : Md [] w62 (w62.alloc (.cells #[.int .i64 3] 3)) := Md.alloc w62 _
  have r64 := ints_lit (w := w62) [3] #[.int .i64 3] rfl (by decide)
  have md64 := (m50.trans m62).trans m64
  refine in70 3 _ _ [3] na ta _ nc tc 1 (g62.tr m64) (nx48.md md64) (tg48.md md64) r64 (by decide) (by decide) (by decide) fun a68 c70 w66 g66 m66 _ => ?_
  rw [ex_runs]
  simp only
  have nx66 := (nx48.md md64).md m66
  have tg66 := (tg48.md md64).md m66
  refine Bd_e (y := true) rfl <| Bd_e (y := true) rfl <| Bd_e (y := true) rfl <| Bd_e (y := true) rfl ⟨fun _ => hok.manyI.1, Bd_e (y := 3) (by rw [hok.manyI.2]; rfl) <| Bd_e (y := true) rfl <| Bd_e (y := true) rfl ?_⟩
  refine Gd_t <| Nw_i <| Gd_t <| Nw_i ?_
  have ma1 : Md [] w66 (w66.alloc (.cells #[.int .i64 (-1), .int .i64 1, .int .i64 2, .int .i64 (-1), .int .i64 1, .int .i64 (-1), .int .i64 (-1), .int .i64 (-1), .int .i64 (-1)] 3)) := Md.alloc w66 _
  have q1 := ints_lit (w := w66) [-1, 1, 2, -1, 1, -1, -1, -1, -1] #[.int .i64 (-1), .int .i64 1, .int .i64 2, .int .i64 (-1), .int .i64 1, .int .i64 (-1), .int .i64 (-1), .int .i64 (-1), .int .i64 (-1)] rfl (by decide)
  have g84 := g66.tr ma1
  generalize w66.alloc (.cells #[.int .i64 (-1), .int .i64 1, .int .i64 2, .int .i64 (-1), .int .i64 1, .int .i64 (-1), .int .i64 (-1), .int .i64 (-1), .int .i64 (-1)] 3) = w84 at *
  have ma2 : Md [] w84 (w84.alloc (.cells #[.int .i64 1, .int .i64 1, .int .i64 0] 3)) := Md.alloc w84 _
  have q2 := ints_lit (w := w84) [1, 1, 0] #[.int .i64 1, .int .i64 1, .int .i64 0] rfl (by decide)
  have nx89 := (nx66.md ma1).md ma2
  have tg89 := (tg66.md ma1).md ma2
  refine Gd_t <| in96 3 3 [-1, 1, 2, -1, 1, -1, -1, -1, -1] [-1, 1, 2, -1, 1, -1, -1, -1, -1] [1, 1, 0] [1, 1, 0] na ta _ _ nc tc 9 3 (g84.tr ma2) nx89 tg89 (q1.md ma2) q2 (by decide) (by decide) fun w95 g95 m95 => ?_
  have nx95 := nx89.md m95
  have tg95 := tg89.md m95
  refine Bd_e (y := true) rfl <| Gd_t <| Nw_i <| Gd_t <| Nw_i ?_
  have ma3 : Md [] w95 (w95.alloc (.cells #[.int .i64 1, .int .i64 1] 3)) := Md.alloc w95 _
  have q3 := ints_lit (w := w95) [1, 1] #[.int .i64 1, .int .i64 1] rfl (by decide)
  have g101 := g95.tr ma3
  generalize w95.alloc (.cells #[.int .i64 1, .int .i64 1] 3) = w101 at *
  have ma4 : Md [] w101 (w101.alloc (.cells #[.int .i64 1, .int .i64 1, .int .i64 1] 3)) := Md.alloc w101 _
  have q4 := ints_lit (w := w101) [1, 1, 1] #[.int .i64 1, .int .i64 1, .int .i64 1] rfl (by decide)
  have nx106 := (nx95.md ma3).md ma4
  have tg106 := (tg95.md ma3).md ma4
  refine Gd_t <| in162 3 _ _ [1, 1] [1, 1, 1] na ta _ _ nc tc 2 3 (g101.tr ma4) nx106 tg106 (q3.md ma4) q4 (by decide) (by decide) (by decide) fun w112 g112 m112 => ?_
  rw [ex_runs1]
  have nx112 := nx106.md m112
  have tg112 := tg106.md m112
  refine Bd_e (y := true) rfl <| Gd_t <| Nw_i <| Gd_t <| Nw_i ?_
  have ma5 : Md [] w112 (w112.alloc (.cells #[.int .i64 2, .int .i64 1] 3)) := Md.alloc w112 _
  have q5 := ints_lit (w := w112) [2, 1] #[.int .i64 2, .int .i64 1] rfl (by decide)
  have g118 := g112.tr ma5
  generalize w112.alloc (.cells #[.int .i64 2, .int .i64 1] 3) = w118 at *
  have ma6 : Md [] w118 (w118.alloc (.cells #[.int .i64 1, .int .i64 0, .int .i64 (-1)] 3)) := Md.alloc w118 _
  have q6 := ints_lit (w := w118) [1, 0, -1] #[.int .i64 1, .int .i64 0, .int .i64 (-1)] rfl (by decide)
  have nx123 := (nx112.md ma5).md ma6
  have tg123 := (tg112.md ma5).md ma6
  refine Gd_t <| in162 3 _ _ [2, 1] [1, 0, -1] na ta _ _ nc tc 2 3 (g118.tr ma6) nx123 tg123 (q5.md ma6) q6 (by decide) (by decide) (by decide) fun w129 g129 m129 => ?_
  rw [ex_runs2]
  exact Bd_e (y := true) rfl ⟨rfl, g129.1⟩
theorem in65 {L : List Nat} {w0 w : World} {K : Bool → World → Prop} (h : Good L w0 w) (kk : ∀ w', Good L w0 w' → K true w') : CallW Try.prog L 65 #[] (fun v w' => opB v fun b => K b w') w := by
  refine (f65_ok w).call h.2 ?_
  rintro v w' rfl h'
  exact opB_in (kk w' (h.tr h'))
end Fk
set_option linter.unusedVariables false
set_option linter.unusedSimpArgs false
set_option maxRecDepth 100000
set_option maxHeartbeats 4000000
namespace Fk
open Go Go.Proofs Go.RowKit
theorem oneB_grow (l : List Ns) (b : Nat) (N : List Bool) (p : DP) : p.1.length ≤ (oneB l b N p).1.length := by
  unfold oneB
  split
  · exact Nat.le_refl _
  · split
    · exact Nat.le_refl _
    · simp
theorem dRow_grow {l : List Ns} {M : Nat} : ∀ {F : List Nat} {N : List Bool} {p q : DP}, dRow l M F N p = some q → p.1.length ≤ q.1.length
  | [], N, p, q, h => by simp only [dRow, Option.some.injEq] at h; rw [h]; exact Nat.le_refl _
  | b :: F, N, p, q, h => by
    unfold dRow at h
    split at h
    · cases h
    · exact Nat.le_trans (oneB_grow l b N p) (dRow_grow h)
theorem dRow_le {l : List Ns} {M : Nat} : ∀ {F : List Nat} {N : List Bool} {p q : DP}, dRow l M F N p = some q → p.1.length ≤ M → q.1.length ≤ M
  | [], N, p, q, h, hp => by simp only [dRow, Option.some.injEq] at h; rw [← h]; exact hp
  | b :: F, N, p, q, h, hp => by
    unfold dRow at h
    split at h
    · cases h
    · exact dRow_le h (by omega)
theorem dRow_cap {l : List Ns} {M : Nat} (M' : Nat) : ∀ {F : List Nat} {N : List Bool} {p q : DP}, dRow l M F N p = some q → p.1.length ≤ M' → dRow l M' F N p = if q.1.length ≤ M' then some q else none
  | [], N, p, q, h, hp => by
    simp only [dRow, Option.some.injEq] at h ⊢
    rw [← h, if_pos hp]
  | b :: F, N, p, q, h, hp => by
    unfold dRow at h ⊢
    split at h
    · cases h
    · have hg := dRow_grow h
      split
      · rw [if_neg (by omega)]
      · exact dRow_cap M' h (by omega)
theorem dAll_grow {l : List Ns} {M : Nat} {F : List Nat} : ∀ {f i : Nat} {p q : DP}, dAll l M F f i p = some q → p.1.length ≤ q.1.length
  | 0, i, p, q, h => by simp only [dAll, Option.some.injEq] at h; rw [h]; exact Nat.le_refl _
  | f + 1, i, p, q, h => by
    unfold dAll at h
    split at h
    · simp only [Option.some.injEq] at h; rw [h]; exact Nat.le_refl _
    · rename_i N hN
      cases hr : dRow l M F N p with
      | none => rw [hr] at h; cases h
      | some p' =>
        rw [hr] at h
        exact Nat.le_trans (dRow_grow hr) (dAll_grow h)
theorem dAll_le {l : List Ns} {M : Nat} {F : List Nat} : ∀ {f i : Nat} {p q : DP}, dAll l M F f i p = some q → p.1.length ≤ M → q.1.length ≤ M
  | 0, i, p, q, h, hp => by simp only [dAll, Option.some.injEq] at h; rw [← h]; exact hp
  | f + 1, i, p, q, h, hp => by
    unfold dAll at h
    split at h
    · simp only [Option.some.injEq] at h; rw [← h]; exact hp
    · rename_i N hN
      cases hr : dRow l M F N p with
      | none => rw [hr] at h; cases h
      | some p' =>
        rw [hr] at h
        exact dAll_le h (dRow_le hr hp)
theorem dAll_cap {l : List Ns} {M : Nat} {F : List Nat} (M' : Nat) : ∀ {f f' i : Nat} {p q : DP}, dAll l M F f i p = some q → p.1.length ≤ M → p.1.length ≤ M' → i ≤ p.1.length → i + f = M + 1 → i + f' = M' + 1 → dAll l M' F f' i p = if q.1.length ≤ M' then some q else none
  | 0, f', i, p, q, h, h1, h2, h3, h4, h5 => by omega
  | f + 1, 0, i, p, q, h, h1, h2, h3, h4, h5 => by omega
  | f + 1, f' + 1, i, p, q, h, h1, h2, h3, h4, h5 => by
    unfold dAll at h ⊢
    cases hN : p.1[i]? with
    | none =>
      rw [hN] at h
      simp only [Option.some.injEq] at h ⊢
      rw [← h, if_pos h2]
    | some N =>
      rw [hN] at h
      simp only at h ⊢
      have hil := (List.getElem?_eq_some_iff.1 hN).1
      cases hr : dRow l M F N p with
      | none => rw [hr] at h; cases h
      | some p' =>
        rw [hr] at h
        have h : dAll l M F f (i + 1) p' = some q := h
        have hg := dRow_grow hr
        rw [dRow_cap M' hr h2]
        have hgq := dAll_grow h
        by_cases c : p'.1.length ≤ M'
        · rw [if_pos c]
          exact dAll_cap M' h (dRow_le hr h1) c (by omega) (by omega) (by omega)
        · rw [if_neg c, if_neg (by omega)]
          rfl
/-- The cap: as many states as there are is enough. -/
theorem dBld_cap {st : Int} {l : List Ns} {c : Cl} {m : Int} {d : Dm} (h : dBld st l c m = (d, 0)) (x : Int) : d.2.2.length ≤ m ∧ 1 ≤ d.2.2.length ∧
    dBld st l c x = if x < 1 ∨ x > 5000 then ((0, [], []), 2) else if x < d.2.2.length then ((0, [], []), 40) else (d, 0) := by
  unfold dBld at h
  split at h
  case isFalse => exact absurd (congrArg Prod.snd h) (by simp)
  rename_i hc
  split at h
  case h_1 => exact absurd (congrArg Prod.snd h) (by simp)
  rename_i p hp
  obtain ⟨hr, hf, hm1, hm2⟩ := hc
  have hd : d = (c.m, p.2, tagL l p.1) := by injection h with h; exact h.symm
  have hlen : d.2.2.length = p.1.length := by rw [hd]; simp [tagL]
  have hg := dAll_grow hp
  have hle := dAll_le hp (by simp; omega)
  simp only [List.length_cons, List.length_nil] at hg
  refine ⟨by omega, by omega, ?_⟩
  rw [hlen]
  unfold dBld
  by_cases hx : x < 1 ∨ x > 5000
  · rw [if_pos hx, if_neg (by omega)]
  · rw [if_neg hx, if_pos ⟨hr, hf, by omega, by omega⟩]
    have := dAll_cap (f' := x.toNat + 1) x.toNat hp (by simp; omega) (by simp; omega) (by simp) (by omega) (by omega)
    rw [this]
    by_cases hc : x < (p.1.length : Int)
    · rw [if_pos hc, if_neg (by omega)]
    · rw [if_neg hc, if_pos (by omega), hd]
end Fk
set_option linter.unusedVariables false
set_option linter.unusedSimpArgs false
set_option maxRecDepth 100000
set_option maxHeartbeats 4000000
namespace Fk
open Go Go.Proofs Go.RowKit
theorem Good.up {L D : List Nat} {w0 w w' : World} (g : Good L w0 w) (hD : ∀ d ∈ D, w.heap.size ≤ d) (hm : Md D w w') {L' : List Nat} (hL : ∀ b ∈ L', b < w'.heap.size) : Good L' w0 w' ∧ Md [] w w' :=
  ⟨⟨g.1.trans (hm.fresh hD), hL⟩, hm.fresh hD⟩
theorem dRow_nx {l : List Ns} {M : Nat} : ∀ {F : List Nat} {N : List Bool} {p q : DP}, dRow l M F N p = some q → q.2.length = p.2.length + F.length
  | [], N, p, q, h => by simp only [dRow, Option.some.injEq] at h; rw [h]; rfl
  | b :: F, N, p, q, h => by
    unfold dRow at h
    split at h
    · cases h
    · have := dRow_nx h
      have e : (oneB l b N p).2.length = p.2.length + 1 := by
        unfold oneB
        split
        · simp
        · split <;> simp
      simp; omega
theorem dAll_nx {l : List Ns} {M : Nat} {F : List Nat} : ∀ {f i : Nat} {p q : DP}, dAll l M F f i p = some q → p.1.length ≤ M → i ≤ p.1.length → i + f = M + 1 → p.2.length = i * F.length → q.2.length = q.1.length * F.length
  | 0, i, p, q, h, h1, h2, h3, h4 => by omega
  | f + 1, i, p, q, h, h1, h2, h3, h4 => by
    unfold dAll at h
    cases hN : p.1[i]? with
    | none =>
      rw [hN] at h
      simp only [Option.some.injEq] at h
      have := List.getElem?_eq_none_iff.1 hN
      have e : i = p.1.length := by omega
      rw [← h, ← e, h4]
    | some N =>
      rw [hN] at h
      have hil := (List.getElem?_eq_some_iff.1 hN).1
      simp only at h
      cases hr : dRow l M F N p with
      | none => rw [hr] at h; cases h
      | some p' =>
        rw [hr] at h
        have h : dAll l M F f (i + 1) p' = some q := h
        exact dAll_nx h (dRow_le hr h1) (by have := dRow_grow hr; omega) (by omega) (by rw [dRow_nx hr, h4, Nat.succ_mul])
theorem dBld_sz {st : Int} {l : List Ns} {c : Cl} (hc : c.ok) {m : Int} : (dBld st l c m).1.2.2.length ≤ 5000 ∧ (dBld st l c m).1.2.1.length ≤ 1280000 ∧ ((dBld st l c m).2 = 0 → ((dBld st l c m).1.2.1.length : Int) = c.m * (dBld st l c m).1.2.2.length ∧ (dBld st l c m).1.1 = c.m ∧ 1 ≤ c.m ∧ c.m ≤ 256) := by
  unfold dBld
  split
  case isFalse => simp
  rename_i hcd
  obtain ⟨hr, hf, hm1, hm2⟩ := hcd
  have hcr : c.right = true := by unfold fitsN at hf; rw [Bool.and_eq_true] at hf; exact hf.2
  obtain ⟨cm1, cm2⟩ := right_m hc hcr
  split
  case h_1 => simp
  rename_i p hp
  have hle := dAll_le hp (by simp; omega)
  have hnx := dAll_nx hp (by simp; omega) (by simp) (by omega) (by simp)
  rw [firsts_len] at hnx
  have hl : (tagL l p.1).length = p.1.length := by simp [tagL]
  have hmul : p.1.length * c.m.toNat ≤ 5000 * 256 := Nat.mul_le_mul (by omega) (by omega)
  refine ⟨by rw [hl]; omega, by simp only; omega, fun _ => ⟨?_, rfl, cm1, cm2⟩⟩
  simp only [hl]
  rw [hnx, Int.natCast_mul, Int.mul_comm]
  congr 1
  omega
theorem f34_ok (f : Fo) (A : Option Addr) (C : Nat) (cap : Int) (hc0 : 0 ≤ cap) (hc1 : cap < 65536) (w : World) (hr : RepF w A 0 f) (hl : f.len < 2 ^ 63) (hl2 : f.len ≤ 2 ^ 41) :
    Ct Try.prog 34 #[.slice A f.len C, .int .u16 cap] w fun v w' => v = .bool true ∧ Md [] w w' := by
  apply f34_in
  have g0 : Good [] w w := ⟨Md.refl _ _, by simp⟩
  refine in64 f A C hl2 g0 hr fun w2 a3 n5 g2 hr2 => ?_
  have hright := f.good_right
  have hgl := f.good_len
  generalize f.good = g at *
  have h22 : Good [] w2 w2 := ⟨Md.refl _ _, by simp⟩
  have fin : ∀ {w' : World} {L : List Nat}, Good L w2 w' → (Value.bool true = .bool true ∧ Md [] w w') := fun h => ⟨rfl, g2.1.trans h.1⟩
  refine in38 g a3 n5 (by omega) h22 hr2 fun w7 b8 g7 hfew => ?_
  refine Bd_in fun b9 hb9 => Bd_e rfl <| Bd_in fun b11 hb11 => Bd_in fun b12 hb12 => If_in (fun _ => in65 g7 fun w14 g14 => fin g14) fun hb => ?_
  have h8 : b8 = true ∧ 1 ≤ g.len := by
    rw [hb12, hb9, hb11] at hb
    cases h : b8 with
    | false => rw [h] at hb; simp at hb
    | true =>
      rw [h] at hb
      refine ⟨rfl, ?_⟩
      simp at hb
      omega
  have hf := hfew h8.1
  have h1 := h8.2
  have hfl := hf.1
  have hfs := hf.2
  have hok := ofC_ok g
  refine in85 g a3 n5 200 g7 (hr2.md g7.1) (by omega) (by omega) fun a c na nc ta tc w17 g17 m17 o1 o2 o3 => ?_
  refine ⟨hok.size, fun n34 h34 n35 h35 n36 h36 => OkC_in hok.cells <| Bd_in fun b37 hb37 => If_in (fun _ w38 h38 hL38 => ?_) fun hb => ?_⟩
  · have g38 := (g17.up (by simp; omega) h38 hL38).1
    exact in65 g38 fun w40 g40 => fin g40
  have hB : ofB g 200 = true := by rw [hb37] at hb; simpa using hb
  have hD : (ofD g 200).2 = 0 := by unfold ofB at hB; exact (of_decide_eq_true hB).2.2
  have hbl := bld_len g 20000
  have hD' : dBld (bld g 20000).1.1 (bld g 20000).1.2 (ofC g).1 200 = ((ofD g 200).1, 0) := by
    rw [← hD]; rfl
  generalize (bld g 20000).1.1 = st at *
  generalize (bld g 20000).1.2 = l at *
  generalize (ofC g).1 = cl at *
  have hcap := dBld_cap hD'
  have hsz := dBld_sz (st := st) (l := l) (c := cl) hok (m := 200)
  rw [hD'] at hsz
  generalize (ofD g 200).1 = d at *
  have hT := (hcap 0).1
  have hT1 := (hcap 0).2.1
  refine Bd_e rfl <| Bd_e rfl <| Bd_e (y := (d.2.2.length : Int) - 1) (by rw [IntKind.wrap_i64]; omega) <| Bd_e rfl <| Bd_e (y := (d.2.2.length : Int) + 1) (by rw [IntKind.wrap_i64]; omega) <| Bd_e (y := cap) (by rw [IntKind.wrap_i64]; omega) <| Bd_in fun x48 hx48 w49 h49 hL49 => ?_
  have ⟨g49, m49⟩ := g17.up (L' := [n36, n35, n34]) (by simp; omega) h49 hL49
  refine Nw_i <| Bd_e rfl ?_
  have rc := ints_lit (w := w49) [(d.2.2.length : Int), (d.2.2.length : Int) - 1, (d.2.2.length : Int) + 1, x48, 5000] #[.int .i64 (d.2.2.length : Int), .int .i64 ((d.2.2.length : Int) - 1), .int .i64 ((d.2.2.length : Int) + 1), .int .i64 x48, .int .i64 5000] rfl (by simp)
  have ma : Md [] w49 (w49.alloc (.cells #[.int .i64 (d.2.2.length : Int), .int .i64 ((d.2.2.length : Int) - 1), .int .i64 ((d.2.2.length : Int) + 1), .int .i64 x48, .int .i64 5000] 3)) := Md.alloc w49 _
  have g51 := g49.tr ma
  have md51 := m49.trans ma
  generalize w49.alloc (.cells #[.int .i64 (d.2.2.length : Int), .int .i64 ((d.2.2.length : Int) - 1), .int .i64 ((d.2.2.length : Int) + 1), .int .i64 x48, .int .i64 5000] 3) = w51 at *
  have hcl : ([(d.2.2.length : Int), (d.2.2.length : Int) - 1, (d.2.2.length : Int) + 1, x48, 5000] : List Int).length = 5 := rfl
  generalize [(d.2.2.length : Int), (d.2.2.length : Int) - 1, (d.2.2.length : Int) + 1, x48, 5000] = caps at *
  generalize (some (Addr.mk w49.heap.size 0 none)) = ra at *
  have r1 := (o1.md md51).row encNs
  have r2 := (o2.md md51).row enci1
  have r3 := (o3.md md51).row enci1
  refine LoopP_in (fun mm us vs w' => ∃ (i : Nat) (b : Bool), us = [.bool b, .int .i64 i] ∧ mm = 5 - i ∧ i ≤ 5 ∧ Good [n36, n35, n34] w2 w' ∧ Md [] w51 w') 5
    ⟨0, _, rfl, rfl, by omega, g51, Md.refl _ _⟩ ?_
  rintro mm us vs w56 ⟨i, b57, rfl, hmm, hi, g56, m56⟩
  refine opB_in <| opI_in <| Bd_in fun b59 hb59 => If_in (fun hb => ?_) fun hb => in65 g56 fun w113 g113 => fin g113
  have hi5 : i < caps.length := by rw [hb59] at hb; have : (i : Int) < 5 := of_decide_eq_true hb; omega
  have hix := (rc.md m56).ix hi5
  rw [hcl] at hix
  refine ⟨hix, (rc.md m56).ld1 hi5 rfl <| opI_in ⟨hok.size, ?_⟩⟩
  have hx := (hcap caps[i]).2.2
  generalize caps[i] = x at *
  refine in67 st l a c cl hok x g56 (r1.md m56) (by omega) fun xa xc ya yc w63 g63 m63 p1 p2 => ?_
  have hsz2 := dBld_sz (st := st) (l := l) (c := cl) hok (m := x)
  have hne : (dBld st l cl x).2 ≠ 0 → (dBld st l cl x).1 = (0, [], []) := by
    rw [hx]
    split
    · intro _; rfl
    · split
      · intro _; rfl
      · intro h; exact absurd rfl h
  intro n74 h74
  have up : ∀ {w' : World}, Md [n74] w63 w' → (∀ b ∈ [n74, n36, n35, n34], b < w'.heap.size) → Good [n74, n36, n35, n34] w2 w' ∧ Md [] w63 w' := fun hm hL => g63.up (by simp; exact h74) hm hL
  have down : ∀ {w' : World}, Good [n74, n36, n35, n34] w2 w' → Good [n36, n35, n34] w2 w' := fun h => ⟨h.1, fun x hx => h.2 x (List.mem_cons_of_mem _ hx)⟩
  refine Jn_in (fun us vs w' => ∃ (b z : Bool), us = [.bool b, .bool z] ∧ Good [n74, n36, n35, n34] w2 w' ∧ Md [] w63 w') ?_ ?_
  · rintro us vs w77 ⟨b, z, rfl, g77, m77⟩
    refine opB_in <| opB_in <| Bd_in fun b80 hb80 => Gd_to (fun y w' => (b80 = true → y = true) ∧ Good [n74, n36, n35, n34] w2 w' ∧ Md [] w63 w') (fun y w86 hJ => ?_) (fun fin2 hcn => ?_) (fun hcn => ⟨(fun h => by rw [h] at hcn; cases hcn), g77, m77⟩)
    · obtain ⟨hy, g86, m86⟩ := hJ
      refine Bd_in fun b87 hb87 => Bd_e (y := false) ?_ <| If_in (fun h => by cases h) fun _ => Bd_e (inc_i64 (by omega)) ⟨5 - (i + 1), by omega, i + 1, b, rfl, rfl, by omega, down g86, (m56.trans m63).trans m86⟩
      cases h80 : b80 with
      | false => rfl
      | true => rw [hb87, hy h80]; rfl
    · refine in96 _ 0 _ [] _ [] xa ya none none xc yc 0 0 g77 ((p1.md m77).row enci1) ((p2.md m77).row enci1) (fun i x h => by simp at h) (fun i x h => by simp at h) (by omega) (by omega) fun w' g' m' => fin2 _ _ ⟨fun h => ?_, g', m77.trans m'⟩
      have h0 : (dBld st l cl x).2 ≠ 0 := by rw [hb80] at h; simpa using h
      rw [hne h0]
      rfl
  · refine Bd_in fun b91 hb91 => Bd_in fun b92 hb92 => Bd_in fun b93 hb93 => If_in (fun hb => ?_) fun hb => ?_
    · have hcx : x < 1 ∨ x > 5000 := by
        rw [hb93, hb91, hb92] at hb
        by_cases c1 : x < 1
        · exact .inl c1
        · simp [c1] at hb; exact .inr hb
      have e2 : (dBld st l cl x).2 = 2 := by rw [hx, if_pos hcx]
      refine Bd_e (y := false) (by rw [e2]; rfl) <| If_in (fun h => by cases h) fun _ w96 h96 hL96 => ?_
      exact ⟨_, _, rfl, up h96 hL96⟩
    · have hcx : ¬ (x < 1 ∨ x > 5000) := by
        rw [hb93, hb91, hb92] at hb
        by_cases c1 : x < 1
        · simp [c1] at hb
        · simp [c1] at hb; omega
      rw [if_neg hcx] at hx
      refine Bd_e rfl <| Bd_in fun b98 hb98 => If_in (fun hb => ?_) fun hb => ?_
      · have hlt : x < (d.2.2.length : Int) := by rw [hb98] at hb; exact of_decide_eq_true hb
        have e2 : (dBld st l cl x).2 = 40 := by rw [hx, if_pos hlt]
        refine Bd_e (y := false) (by rw [e2]; rfl) <| If_in (fun h => by cases h) fun _ w96 h96 hL96 => ?_
        exact ⟨_, _, rfl, up h96 hL96⟩
      · have hlt : ¬ x < (d.2.2.length : Int) := by rw [hb98] at hb; exact of_decide_eq_false hb
        rw [if_neg hlt] at hx
        refine Bd_e (y := false) (by rw [hx]; rfl) fun w103 h103 hL103 => ?_
        obtain ⟨g103, m103⟩ := up h103 hL103
        refine Gd_t ?_
        have md := (m56.trans m63).trans m103
        refine in96 _ d.1 _ d.2.1 _ d.2.2 xa ya na ta xc yc nc tc g103 ((p1.md m103).row enci1) ((p2.md m103).row enci1) (r2.md md) (r3.md md) (by omega) (by omega) fun w' g' m' => ?_
        rw [hx]
        refine Bd_e (y := false) (by simp) <| Bd_e (y := false) rfl <| If_in (fun h => by cases h) fun _ => ⟨_, _, rfl, g', m103.trans m'⟩
end Fk
