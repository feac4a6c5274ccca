/- Contracts of functions, and plain laws: several texts, joined. -/
import Derived.Test.YtpgjpgecgibklaaGR3
import Derived.Test.YtpgjpgecgibklaaGV0
import Derived.Test.YtpgjpgecgibklaaGR1
import Derived.Test.YtpgjpgecgibklaaGK2
set_option linter.unusedVariables false
set_option linter.unusedSimpArgs false
set_option linter.unusedSectionVars false
set_option maxRecDepth 100000
set_option maxHeartbeats 1000000
namespace Fk
open Go Go.Proofs Go.RowKit
def P92I (J43 : List Value → List Value → World → Prop) (n1 : Nat) (n2 : Nat) (n39 : Nat) (n27 : Nat) (a11 : Option Addr) (x26 : Int) (x48 : Int) (x60 : Int) (a45 : Option Addr) (n46 : Nat) (n47 : Nat) (x65 : Int) (a66 : Option Addr) (n67 : Nat) (n68 : Nat) (a69 : Option Addr) (n70 : Nat) (n71 : Nat) (a78 : Option Addr) (n79 : Nat) (x81 : Int) (w63 : World) : Prop :=
  LoopP (fun l82 l83 J84 w85 => opL (nthD l82 (0 : Nat)) fun a86 n87 n88 => opI IntKind.i64 (nthD l82 (1 : Nat)) fun x89 => opAg (nthD l83 (0 : Nat)) fun cs90 => opI IntKind.i64 (nthD (Array.toList cs90) (0 : Nat)) fun x91 => opL (nthD (Array.toList cs90) (1 : Nat)) fun a92 n93 n94 => opL (nthD (Array.toList cs90) (2 : Nat)) fun a95 n96 n97 => SzIs (Array.size cs90) (3 : Nat) (Bd (decide (x89 < x81)) fun b98 => If b98 (Jn (fun l99 l100 w101 => opL (nthD l99 (0 : Nat)) fun a102 n103 n104 => opAg (nthD l100 (0 : Nat)) fun cs105 => opI IntKind.i64 (nthD (Array.toList cs105) (0 : Nat)) fun x106 => opL (nthD (Array.toList cs105) (1 : Nat)) fun a107 n108 n109 => opL (nthD (Array.toList cs105) (2 : Nat)) fun a110 n111 n112 => SzIs (Array.size cs105) (3 : Nat) (Bd (IntKind.wrap IntKind.i64 (x89 + (1 : Int))) fun x113 => J84 [Value.slice a102 n103 n104, Value.int IntKind.i64 x113] [Value.agg #[Value.int IntKind.i64 x106, Value.slice a107 n108 n109, Value.slice a110 n111 n112]] w101)) fun J114 => IxOk x89 n79 a78 ∧ Ld w85 (adAt a78 x89 (1 : Nat)) fun v115 => opI IntKind.i64 v115 fun x116 => NN a11 fun A117 => Ld w85 (Addr.add A117 (4 : Nat)) fun v118 => opL v118 fun a119 n120 n121 => IxOk x116 n120 a119 ∧ Ld w85 (adAt a119 x116 (1 : Nat)) fun v122 => opI IntKind.i64 v122 fun x123 => Bd (x123 == x26) fun b124 => If b124 (Nw (Obj.cells #[Value.int IntKind.i64 (-1 : Int)] (3 : Nat)) w85 fun n125 w126 => RunW Try.prog [n39, n2, n1] (Builtin.append_ #[(52 : Nat), (52 : Nat)] (52 : Nat) #[Value.slice a92 n93 n94, Value.slice (some { block := n125, off := (0 : Nat) }) (1 : Nat) (1 : Nat)]) (fun v127 w128 => opL v127 fun a129 n130 n131 => Up [n39] [n39, n2, n1] w128 fun w132 => J114 [Value.slice a86 n87 n88] [Value.agg #[Value.int IntKind.i64 x91, Value.slice a129 n130 n131, Value.slice a95 n96 n97]] w132) w126) (NN a11 fun A133 => Ld w85 (Addr.add A133 (4 : Nat)) fun v134 => opL v134 fun a135 n136 n137 => IxOk x116 n136 a135 ∧ Ld w85 (adAt a135 x116 (1 : Nat)) fun v138 => opI IntKind.i64 v138 fun x139 => RunW Try.prog [n39, n2, n1] (Instr.lookup (248 : Nat) (Value.map (some n27)) (Value.int IntKind.i64 x139) true) (fun v140 w141 => opTu v140 fun cs142 => opI IntKind.i64 (nthD (Array.toList cs142) (0 : Nat)) fun x143 => opB (nthD (Array.toList cs142) (1 : Nat)) fun b144 => SzIs (Array.size cs142) (2 : Nat) (Jn (fun l145 l146 w147 => opI IntKind.i64 (nthD l145 (0 : Nat)) fun x148 => opL (nthD l145 (1 : Nat)) fun a149 n150 n151 => Nw (Obj.cells #[Value.int IntKind.i64 x148] (3 : Nat)) w147 fun n152 w153 => RunW Try.prog [n39, n2, n1] (Builtin.append_ #[(52 : Nat), (52 : Nat)] (52 : Nat) #[Value.slice a92 n93 n94, Value.slice (some { block := n152, off := (0 : Nat) }) (1 : Nat) (1 : Nat)]) (fun v154 w155 => opL v154 fun a156 n157 n158 => Up [n39] [n39, n2, n1] w155 fun w159 => J114 [Value.slice a149 n150 n151] [Value.agg #[Value.int IntKind.i64 x91, Value.slice a156 n157 n158, Value.slice a95 n96 n97]] w159) w153) fun J160 => Bd (!b144) fun b161 => If b161 (Bd ↑n87 fun x162 => NN a11 fun A163 => Ld w141 (Addr.add A163 (4 : Nat)) fun v164 => opL v164 fun a165 n166 n167 => IxOk x116 n166 a165 ∧ Ld w141 (adAt a165 x116 (1 : Nat)) fun v168 => opI IntKind.i64 v168 fun x169 => RunU Try.prog [n39, n2, n1] (Instr.mapUpdate (248 : Nat) (Value.map (some n27)) (Value.int IntKind.i64 x169) (Value.int IntKind.i64 x162)) (fun w170 => Nw (Obj.cells #[Value.int IntKind.i64 x116] (3 : Nat)) w170 fun n171 w172 => RunW Try.prog [n39, n2, n1] (Builtin.append_ #[(52 : Nat), (52 : Nat)] (52 : Nat) #[Value.slice a86 n87 n88, Value.slice (some { block := n171, off := (0 : Nat) }) (1 : Nat) (1 : Nat)]) (fun v173 w174 => opL v173 fun a175 n176 n177 => J160 [Value.int IntKind.i64 x162, Value.slice a175 n176 n177] [] w174) w172) w141) (J160 [Value.int IntKind.i64 x143, Value.slice a86 n87 n88] [] w141))) w85)) (Bd (IntKind.wrap IntKind.i64 (x48 + (1 : Int))) fun x178 => J43 [Value.slice a86 n87 n88, Value.int IntKind.i64 x178] [Value.agg #[Value.int IntKind.i64 x91, Value.slice a92 n93 n94, Value.slice a95 n96 n97]] w85))) [Value.slice a45 n46 n47, Value.int IntKind.i64 (0 : Int)] [Value.agg #[Value.int IntKind.i64 x65, Value.slice a66 n67 n68, Value.slice a69 n70 n71]] w63
def P92B (J43 : List Value → List Value → World → Prop) (n1 : Nat) (n2 : Nat) (n39 : Nat) (n27 : Nat) (a11 : Option Addr) (x26 : Int) (x48 : Int) (a45 : Option Addr) (n46 : Nat) (n47 : Nat) (x50 : Int) (a51 : Option Addr) (n52 : Nat) (n53 : Nat) (a54 : Option Addr) (n55 : Nat) (n56 : Nat) (p0_2a : Option Addr) (p0_2n : Nat) (w44 : World) : Prop :=
  IxOk x48 n46 a45 ∧ Ld w44 (adAt a45 x48 (1 : Nat)) fun v59 => opI IntKind.i64 v59 fun x60 => Jn (fun l61 l62 w63 => opAg (nthD l62 (0 : Nat)) fun cs64 => opI IntKind.i64 (nthD (Array.toList cs64) (0 : Nat)) fun x65 => opL (nthD (Array.toList cs64) (1 : Nat)) fun a66 n67 n68 => opL (nthD (Array.toList cs64) (2 : Nat)) fun a69 n70 n71 => SzIs (Array.size cs64) (3 : Nat) (NN a11 fun A72 => Ld w63 (Addr.add A72 (1 : Nat)) fun v73 => opL v73 fun a74 n75 n76 => IxOk x60 n75 a74 ∧ Ld w63 (adAt a74 x60 (1 : Nat)) fun v77 => opL v77 fun a78 n79 n80 => Bd ↑n79 fun x81 => (P92I J43 n1 n2 n39 n27 a11 x26 x48 x60 a45 n46 n47 x65 a66 n67 n68 a69 n70 n71 a78 n79 x81 w63))) fun J179 => Dr (World.drew w44) fun J180 => IxOk x60 p0_2n p0_2a ∧ ∃ v181, (∀ (w182 : World), J180 w182 → Ld w182 (adAt p0_2a x60 (1 : Nat)) fun v184 => v184 = v181) ∧ opI IntKind.i64 v181 fun x185 => (J180 (World.drew w44) ∧ Nw (Obj.cells #[Value.int IntKind.i64 x185] (3 : Nat)) (World.drew w44) fun n186 w187 => J180 w187 ∧ RunW Try.prog [n39, n2, n1] (Builtin.append_ #[(52 : Nat), (52 : Nat)] (52 : Nat) #[Value.slice a54 n55 n56, Value.slice (some { block := n186, off := (0 : Nat) }) (1 : Nat) (1 : Nat)]) (fun v188 w189 => opL v188 fun a190 n191 n192 => J180 w189 ∧ Up [n39] [n39, n2, n1] w189 fun w193 => J179 [] [Value.agg #[Value.int IntKind.i64 x50, Value.slice a51 n52 n53, Value.slice a190 n191 n192]] w193) w187) ∧ Nw (Obj.cells #[Value.int IntKind.i64 x185] (3 : Nat)) (World.drew w44) fun n194 w195 => J180 w195 ∧ J180 w195 ∧ RunW Try.prog [n39, n2, n1] (Builtin.append_ #[(52 : Nat), (52 : Nat)] (52 : Nat) #[Value.slice a54 n55 n56, Value.slice (some { block := n194, off := (0 : Nat) }) (1 : Nat) (1 : Nat)]) (fun v196 w197 => opL v196 fun a198 n199 n200 => J180 w197 ∧ Up [n39] [n39, n2, n1] w197 fun w201 => J179 [] [Value.agg #[Value.int IntKind.i64 x50, Value.slice a51 n52 n53, Value.slice a198 n199 n200]] w201) w195
def P92O (R : Value → World → Prop) (n1 : Nat) (n2 : Nat) (n27 : Nat) (n37 : Nat) (n39 : Nat) (a11 : Option Addr) (x26 : Int) (p0_0 : Int) (p0_2a : Option Addr) (p0_2n : Nat) (w40 : World) : Prop :=
  LoopP (fun l41 l42 J43 w44 => opL (nthD l41 (0 : Nat)) fun a45 n46 n47 => opI IntKind.i64 (nthD l41 (1 : Nat)) fun x48 => opAg (nthD l42 (0 : Nat)) fun cs49 => opI IntKind.i64 (nthD (Array.toList cs49) (0 : Nat)) fun x50 => opL (nthD (Array.toList cs49) (1 : Nat)) fun a51 n52 n53 => opL (nthD (Array.toList cs49) (2 : Nat)) fun a54 n55 n56 => SzIs (Array.size cs49) (3 : Nat) (Bd ↑n46 fun x57 => Bd (decide (x48 < x57)) fun b58 => If b58 (P92B J43 n1 n2 n39 n27 a11 x26 x48 a45 n46 n47 x50 a51 n52 n53 a54 n55 n56 p0_2a p0_2n w44) (Up [n2] [n39, n2, n1] w44 fun w202 => R (Value.tuple #[Value.agg #[Value.int IntKind.i64 x50, Value.slice a51 n52 n53, Value.slice a54 n55 n56], Value.int IntKind.i64 (0 : Int)]) w202))) [Value.slice (some { block := n37, off := (0 : Nat) }) (1 : Nat) (1 : Nat), Value.int IntKind.i64 (0 : Int)] [Value.agg #[Value.int IntKind.i64 p0_0, Value.slice none (0 : Nat) (0 : Nat), Value.slice none (0 : Nat) (0 : Nat)]] w40
def numL (at' : List Int) (l : List Nat) : List (Int × Int) := l.zipIdx.map fun p => (at'.getD p.1 0, (p.2 : Int))
theorem numL_snoc (at' : List Int) (l : List Nat) (t : Nat) : numL at' (l ++ [t]) = numL at' l ++ [(at'.getD t 0, (l.length : Int))] := by
  unfold numL
  rw [List.zipIdx_append]
  simp
theorem numL_keys (at' : List Int) (l : List Nat) : (numL at' l).map (·.1) = l.map fun x => at'.getD x 0 := by
  unfold numL
  rw [List.map_map]
  have : ((fun x : Int × Int => x.1) ∘ fun p : Nat × Nat => (at'.getD p.1 0, (p.2 : Int))) = (fun x => at'.getD x 0) ∘ Prod.fst := rfl
  rw [this, ← List.map_map, List.zipIdx_map_fst]
section
variable {M : Mch} {w : World} {n : Nat} {at' : List Int}
theorem PD.key (P : PD M w n at') {x y : Nat} (hx : x ≤ M.n) (hy : y ≤ M.n) : at'.getD x 0 = at'.getD y 0 ↔ M.alike x y := by
  rw [← P.iff x y hx hy]
  have h1 : x < at'.length := by have := P.al; omega
  have h2 : y < at'.length := by have := P.al; omega
  rw [List.getD_eq_getElem?_getD, List.getD_eq_getElem?_getD, List.getElem?_eq_getElem h1, List.getElem?_eq_getElem h2, Option.getD_some, Option.getD_some, Option.some.injEq]
theorem PD.find (P : PD M w n at') {l : List Nat} (hl : ∀ x ∈ l, x ≤ M.n) (pw : ∀ (i j x y : Nat), l[i]? = some x → l[j]? = some y → M.alike x y → i = j) {t : Nat} (ht : t ≤ M.n) :
    findI (at'.getD t 0) (numL at' l) 0 = if lsAt M l t < l.length then some (lsAt M l t, (lsAt M l t : Int)) else none := by
  by_cases c : lsAt M l t < l.length
  · rw [if_pos c]
    obtain ⟨x, hx, ha⟩ := lsAt_get c
    have hxm := List.mem_of_getElem? hx
    have hk : at'.getD t 0 ∈ (numL at' l).map (·.1) := by
      rw [numL_keys]
      exact List.mem_map.2 ⟨x, hxm, (P.key (hl x hxm) ht).2 ha⟩
    obtain ⟨⟨i, v⟩, hf⟩ : ∃ p, findI (at'.getD t 0) (numL at' l) 0 = some p := Option.isSome_iff_exists.1 (findI_key.2 hk)
    rw [hf]
    have h2 := (findI_at hf).2
    rw [Nat.sub_zero] at h2
    unfold numL at h2
    rw [List.getElem?_map, List.getElem?_zipIdx] at h2
    cases hT : l[i]? with
    | none => rw [hT] at h2; simp at h2
    | some y =>
      rw [hT] at h2
      simp only [Option.map_some, Option.some.injEq, Prod.mk.injEq] at h2
      obtain ⟨h3, h4⟩ := h2
      have hy := hl y (List.mem_of_getElem? hT)
      have := pw (lsAt M l t) i x y hx hT (alike_trans ha (alike_symm ((P.key hy ht).1 h3)))
      subst this
      rw [← h4]
      simp
  · rw [if_neg c]
    obtain ⟨_, hno⟩ := lsAt_none c
    refine findI_none ?_
    rw [numL_keys]
    intro hm
    obtain ⟨x, hx, e⟩ := List.mem_map.1 hm
    exact hno x hx ((P.key (hl x hx) ht).1 e)
end
inductive L3 where
  | f : L3
  | n : L3
  | t : L3
  deriving DecidableEq
def slE (r : Rw Int) : Value := .slice r.1 r.2.2.length r.2.1
structure LM (wb w : World) (n39 n27 : Nat) (nl : List (Int × Int)) (R : L3 → Rw Int) : Prop where
  md : Md [] wb w
  fam : Fam w wb.heap.size 3 i1 R
  ne : ∀ l A, (R l).1 = some A → A.block ≠ n39
  lt : n39 < w.heap.size
  bl : wb.heap.size ≤ n39
  mO : MapAt w n27 vI vI nl
  ml : wb.heap.size ≤ n27
  mn : n27 ≠ n39
structure LC (R : L3 → Rw Int) (p : List Nat × List Int) (tg : List Int) : Prop where
  cf : (R .f).2.2 = p.1.map fun x : Nat => (x : Int)
  cn : (R .n).2.2 = p.2
  ct : (R .t).2.2 = tg
section
variable {wb w w' : World} {n39 n27 n1 n2 : Nat} {nl : List (Int × Int)} {R : L3 → Rw Int}
theorem LM.md0 (S : LM wb w n39 n27 nl R) (hm : Md [] w w') : LM wb w' n39 n27 nl R :=
  ⟨S.md.trans hm, S.fam.md0 hm, S.ne, Nat.lt_of_lt_of_le S.lt hm.size, S.bl, S.mO.md hm (by simp), S.ml, S.mn⟩
theorem LM.up (S : LM wb w n39 n27 nl R) (hm : Md [n39] w w') : LM wb w' n39 n27 nl R :=
  ⟨S.md.old hm (by simpa using S.bl), S.fam.keep hm (fun l A hA => by simpa using S.ne l A hA), S.ne, Nat.lt_of_lt_of_le S.lt hm.size, S.bl, S.mO.md hm (by simpa using S.mn), S.ml, S.mn⟩
theorem LM.app (S : LM wb w n39 n27 nl R) (hn1 : n1 < wb.heap.size) (hn2 : n2 < wb.heap.size) (l : L3) (x : Int) (hl : (R l).2.2.length < 2 ^ 30) {K : Value → World → Prop}
    (k : ∀ (a' : Option Addr) (c' : Nat) (w' : World), LM wb w' n39 n27 nl (upd R l (a', c', (R l).2.2 ++ [x])) → Md (blkO (R l).1) w w' → K (slE (a', c', (R l).2.2 ++ [x])) w') :
    Nw (.cells #[.int .i64 x] 3) w fun b w' => RunW Try.prog [n39, n2, n1] (Builtin.append_ #[52, 52] 52 #[.slice (R l).1 (R l).2.2.length (R l).2.1, .slice (some { block := b, off := 0 }) 1 1]) K w' := by
  have hsz := S.md.size
  refine app_one rowT52 enci1 x rfl (S.fam.own l) S.md.size (fun d hd => ?_) (fun d hd A hA e => ?_) (by simp [maxLen]; omega) (by omega) fun a' c' w' o' m' hA => ?_
  · simp only [List.mem_cons, List.not_mem_nil, or_false] at hd
    have := S.lt
    rcases hd with rfl | rfl | rfl <;> omega
  · have h1 := ((S.fam.own l).lt hA).1
    have h2 := S.ne l A hA
    simp only [List.mem_cons, List.not_mem_nil, or_false] at hd
    rcases hd with rfl | rfl | rfl <;> omega
  · have mk := MK.md m' (own_cells (S.fam.own l))
    refine k a' c' w' ⟨S.md.old m' fun d hd => ?_, S.fam.upd m' o' hA, fun l' A hA' => ?_, Nat.lt_of_lt_of_le S.lt m'.size, S.bl, mk.at S.mO, S.ml, S.mn⟩ m'
    · obtain ⟨A, hA', rfl⟩ := blkO_mem hd; exact ((S.fam.own l).lt hA').1
    · by_cases e : l' = l
      · subst e
        rw [upd_same] at hA'
        rcases hA A hA' with h | h
        · exact S.ne l' A h
        · have := S.lt; omega
      · rw [upd_ne _ _ e] at hA'
        exact S.ne l' A hA'
theorem LM.mapW (S : LM wb w n39 n27 nl R) {l' : List (Int × Int)} (hm : Md [n27] w w') (h : MapAt w' n27 vI vI l') : LM wb w' n39 n27 l' R :=
  ⟨S.md.old hm (by simpa using S.ml), S.fam.keep hm (fun l A hA hd => own_nmap (S.fam.own l) S.mO A hA (by simpa using hd)), S.ne, Nat.lt_of_lt_of_le S.lt hm.size, S.bl, h, S.ml, S.mn⟩
theorem LC.appN {p : List Nat × List Int} {tg : List Int} (C : LC R p tg) (a : Option Addr) (c : Nat) (v : Int) : LC (upd R .n (a, c, (R .n).2.2 ++ [v])) (p.1, p.2 ++ [v]) tg := by
  refine ⟨?_, ?_, ?_⟩
  · rw [upd_ne _ _ (by simp)]; exact C.cf
  · rw [upd_same]; show (R .n).2.2 ++ [v] = _; rw [C.cn]
  · rw [upd_ne _ _ (by simp)]; exact C.ct
theorem LC.appF {p : List Nat × List Int} {tg : List Int} (C : LC R p tg) (a : Option Addr) (c : Nat) (t : Nat) : LC (upd R .f (a, c, (R .f).2.2 ++ [(t : Int)])) (p.1 ++ [t], p.2) tg := by
  refine ⟨?_, ?_, ?_⟩
  · rw [upd_same]; show (R .f).2.2 ++ [(t : Int)] = _; rw [C.cf]; simp
  · rw [upd_ne _ _ (by simp)]; exact C.cn
  · rw [upd_ne _ _ (by simp)]; exact C.ct
theorem LC.appT {p : List Nat × List Int} {tg : List Int} (C : LC R p tg) (a : Option Addr) (c : Nat) (v : Int) : LC (upd R .t (a, c, (R .t).2.2 ++ [v])) p (tg ++ [v]) := by
  refine ⟨?_, ?_, ?_⟩
  · rw [upd_ne _ _ (by simp)]; exact C.cf
  · rw [upd_ne _ _ (by simp)]; exact C.cn
  · rw [upd_same]; show (R .t).2.2 ++ [v] = _; rw [C.ct]
end
section
variable {wb : World} {n39 n27 n1 n2 n : Nat} {M : Mch} {at' : List Int} {next tags : List Int} {J43 : List Value → List Value → World → Prop} {i s : Nat} {p : List Nat × List Int} {tg : List Int} {x50 : Int}
theorem P92I_ok {w63 : World} {R : L3 → Rw Int} {a78 : Option Addr} {x60 x26 : Int} (D : DmIn M next tags) (P : PD M wb n at') (hn1 : n1 < wb.heap.size) (hn2 : n2 < wb.heap.size) (hp : LI M p (i * M.m)) (hs : p.1[i]? = some s) (hrow : RowAt wb a78 1 i1 (rowI M s)) (hx26 : x26 = at'.getD M.n 0)
    (S : LM wb w63 n39 n27 (numL at' p.1) R) (C : LC R p tg)
    (K : ∀ R' w', LM wb w' n39 n27 (numL at' (lsRow M s p M.m).1) R' → LC R' (lsRow M s p M.m) tg → J43 [slE (R' .f), .int .i64 ((i + 1 : Nat) : Int)] [.agg #[.int .i64 x50, slE (R' .n), slE (R' .t)]] w') :
    P92I J43 n1 n2 n39 n27 (some ⟨n, 0, none⟩) x26 (i : Int) x60 (R .f).1 (R .f).2.2.length (R .f).2.1 x50 (R .n).1 (R .n).2.2.length (R .n).2.1 (R .t).1 (R .t).2.2.length (R .t).2.1 a78 M.m (M.m : Int) w63 := by
  have hm2 := D.m2
  have hnn2 := D.n2
  have hpb := hp.bound
  have hil : i < p.1.length := (List.getElem?_eq_some_iff.1 hs).1
  have hsl : s < M.n := hp.lt s (List.mem_of_getElem? hs)
  have hal := P.al
  have himb : i * M.m ≤ 2 ^ 12 * 256 := Nat.mul_le_mul (by omega) hm2
  unfold P92I
  refine LoopP_in (fun mm us vs w' => ∃ (k : Nat) (R : L3 → Rw Int), us = [slE (R .f), .int .i64 k] ∧ vs = [.agg #[.int .i64 x50, slE (R .n), slE (R .t)]] ∧ mm = M.m - k ∧ k ≤ M.m ∧ LM wb w' n39 n27 (numL at' (lsRow M s p k).1) R ∧ LC R (lsRow M s p k) tg) M.m
    ⟨0, R, rfl, rfl, rfl, by omega, S, C⟩ ?_
  clear S C
  rintro mm us vs w85 ⟨k, R, rfl, rfl, hmm, hk, S, C⟩
  refine opL_in <| opI_in <| opAg_in <| opI_in <| opL_in <| opL_in <| SzIs_in rfl <| Bd_in fun b98 hb98 => If_in (fun hb => ?_) fun hb => ?_
  · have hkm : k < M.m := by
      rw [hb98] at hb
      have : (k : Int) < ((M.m : Nat) : Int) := of_decide_eq_true hb
      omega
    obtain ⟨q, hq⟩ : ∃ q, q = lsRow M s p k := ⟨_, rfl⟩
    have hqI := (hp.row D.ok hs k hk).1
    rw [← hq] at S C hqI
    have hqb := hqI.bound
    obtain ⟨t, ht⟩ : ∃ t, t = M.go s k := ⟨_, rfl⟩
    have htn : t ≤ M.n := by rw [ht]; exact D.ok.st s (by omega) k hkm
    have hstep : lsRow M s p (k + 1) = lsStep M q t := by rw [hq, ht]; rfl
    have hlF : (R .f).2.2.length = q.1.length := by rw [C.cf]; simp
    have hlN : (R .n).2.2.length = i * M.m + k := by rw [C.cn]; exact hqI.len
    obtain ⟨J, hJ⟩ : ∃ J : List Value → List Value → World → Prop, J = (fun us vs w' => ∃ (R : L3 → Rw Int), us = [slE (R .f)] ∧ vs = [.agg #[.int .i64 x50, slE (R .n), slE (R .t)]] ∧ LM wb w' n39 n27 (numL at' (lsStep M q t).1) R ∧ LC R (lsStep M q t) tg) := ⟨_, rfl⟩
    refine Jn_in J ?_ ?_
    · intro us vs w101 hj
      rw [hJ] at hj
      obtain ⟨R, rfl, rfl, S, C⟩ := hj
      refine opL_in <| opAg_in <| opI_in <| opL_in <| opL_in <| SzIs_in rfl <| Bd_e (inc_i64 (by omega)) ⟨M.m - (k + 1), by omega, k + 1, R, rfl, rfl, rfl, by omega, ?_, ?_⟩
      · rw [hstep]; exact S
      · rw [hstep]; exact C
    · have hkl : k < (rowI M s).length := by simp [rowI]; exact hkm
      have hkv : (rowI M s)[k] = (t : Int) := by rw [ht]; simp [rowI]
      obtain ⟨cs, aa, xa, ac, xc, H, h1, h2, h3, _⟩ := P.mem
      have htl : t < at'.length := by omega
      have rN := hrow.md S.md
      have r1 := h1.md S.md (by simp)
      have r3 := h3.md S.md
      have eg : at'[t] = at'.getD t 0 := by rw [List.getD_eq_getElem?_getD, List.getElem?_eq_getElem htl]; rfl
      refine ⟨rN.ixn hkl (by simp [rowI]), rN.ld1 hkl (by rw [hkv]; rfl) <| opI_in <| NN_in <| r1.ld' h2 <| opL_in ⟨r3.ixn htl hal, r3.ld1 htl (by rw [eg]; rfl) <| opI_in ?_⟩⟩
      have hbeq : (at'.getD t 0 == x26) = al M t M.n := by
        rw [hx26, Bool.eq_iff_iff, beq_iff_eq, al_iff]
        exact P.key htn (Nat.le_refl _)
      refine Bd_e hbeq <| If_in (fun hz => ?_) fun hz => ?_
      · have e2 : lsStep M q t = (q.1, q.2 ++ [-1]) := by unfold lsStep; rw [if_pos hz]
        refine S.app hn1 hn2 .n (-1) (by omega) fun a' c' w128 S2 m2 => opL_in ?_
        intro w132 m132 hL
        rw [hJ, e2]
        refine ⟨upd R .n (a', c', (R .n).2.2 ++ [-1]), ?_, ?_, S2.up m132, C.appN _ _ _⟩
        · rw [upd_ne _ _ (by simp)]; rfl
        · rw [upd_same, upd_ne _ _ (by simp)]; rfl
      · have hz' : ¬ al M t M.n = true := by rw [hz]; simp
        refine NN_in <| r1.ld' h2 <| opL_in ⟨r3.ixn htl hal, r3.ld1 htl (by rw [eg]; rfl) <| opI_in ?_⟩
        refine RunW_in0 (mapInt.lookup S.mO (at'.getD t 0) (.int .i64 0) (zero3 _)) ?_
        have hf := P.find (fun x hx => Nat.le_of_lt (hqI.lt x hx)) hqI.pw htn
        have hres : ∃ (v : Int) (b : Bool), Value.tuple #[((findI (at'.getD t 0) (numL at' q.1) 0).map fun p => vI p.2).getD (.int .i64 0), .bool (findI (at'.getD t 0) (numL at' q.1) 0).isSome] = .tuple #[.int .i64 v, .bool b] ∧ (b = true → lsAt M q.1 t < q.1.length ∧ v = (lsAt M q.1 t : Int)) ∧ (b = false → ¬ lsAt M q.1 t < q.1.length) := by
          by_cases c : lsAt M q.1 t < q.1.length
          · rw [hf, if_pos c]; exact ⟨_, _, rfl, fun _ => ⟨c, rfl⟩, (fun h => by cases h)⟩
          · rw [hf, if_neg c]; exact ⟨_, _, rfl, (fun h => by cases h), fun _ => c⟩
        obtain ⟨v, bb, hve, hv1, hv2⟩ := hres
        rw [hve]
        have e2 : lsStep M q t = (if lsAt M q.1 t < q.1.length then q.1 else q.1 ++ [t], q.2 ++ [(lsAt M q.1 t : Int)]) := by unfold lsStep; rw [if_neg hz']
        obtain ⟨J2, hJ2⟩ : ∃ J : List Value → List Value → World → Prop, J = (fun us vs w' => ∃ (R' : L3 → Rw Int), us = [.int .i64 (lsAt M q.1 t : Int), slE (R' .f)] ∧ R' .n = R .n ∧ R' .t = R .t ∧ LM wb w' n39 n27 (numL at' (lsStep M q t).1) R' ∧ LC R' ((lsStep M q t).1, q.2) tg) := ⟨_, rfl⟩
        refine opTu_in <| opI_in <| opB_in <| SzIs_in rfl <| Jn_in J2 ?_ ?_
        · intro us vs w147 hj
          rw [hJ2] at hj
          obtain ⟨R', rfl, en, et, S, C⟩ := hj
          rw [← en] at hlN ⊢
          rw [← et]
          refine opI_in <| opL_in ?_
          refine S.app hn1 hn2 .n (lsAt M q.1 t : Int) (by omega) fun a' c' w155 S2 m2 => opL_in ?_
          intro w159 m159 hL
          have C2 := C.appN a' c' (lsAt M q.1 t : Int)
          have e3 : ((lsStep M q t).1, q.2 ++ [(lsAt M q.1 t : Int)]) = lsStep M q t := by rw [e2]
          rw [e3] at C2
          rw [hJ]
          refine ⟨upd R' .n (a', c', (R' .n).2.2 ++ [(lsAt M q.1 t : Int)]), ?_, ?_, S2.up m159, C2⟩
          · rw [upd_ne _ _ (by simp)]; rfl
          · rw [upd_same, upd_ne _ _ (by simp)]; rfl
        · cases bb with
          | true =>
            obtain ⟨c, rfl⟩ := hv1 rfl
            have e4 : (lsStep M q t).1 = q.1 := by rw [e2]; exact if_pos c
            refine Bd_f rfl <| If_f ?_
            rw [hJ2, e4]
            exact ⟨R, rfl, rfl, rfl, S, C⟩
          | false =>
            have c := hv2 rfl
            obtain ⟨c2, _⟩ := lsAt_none c
            have e4 : (lsStep M q t).1 = q.1 ++ [t] := by rw [e2]; exact if_neg c
            rw [if_neg c] at hf
            obtain ⟨w4, hrun, hmap, m4⟩ := mapInt.add S.mO (at'.getD t 0) (q.1.length : Int) hf
            have S4 := S.mapW m4 hmap
            refine Bd_t rfl <| If_t <| Bd_e (by rw [hlF]) <| NN_in <| r1.ld' h2 <| opL_in ⟨r3.ixn htl hal, r3.ld1 htl (by rw [eg]; rfl) <| opI_in <| RunU_in hrun (fun d hd => m4.blk d ?_ ?_) ?_⟩
            · simp only [List.mem_cons, List.not_mem_nil, or_false] at hd
              have := S.lt
              have := S.md.size
              rcases hd with rfl | rfl | rfl <;> omega
            · simp only [List.mem_cons, List.not_mem_nil, or_false] at hd ⊢
              have := S.mn
              have := S.ml
              rcases hd with rfl | rfl | rfl <;> omega
            · refine S4.app hn1 hn2 .f (t : Int) (by omega) fun a' c' w5 S5 m5 => opL_in ?_
              rw [hJ2, e4, numL_snoc, c2]
              refine ⟨upd R .f (a', c', (R .f).2.2 ++ [(t : Int)]), ?_, upd_ne _ _ (by simp), upd_ne _ _ (by simp), S5, C.appF _ _ _⟩
              rw [upd_same]; rfl
  · have hkm : k = M.m := by
      have : ¬ (k : Int) < ((M.m : Nat) : Int) := by rw [hb98] at hb; exact of_decide_eq_false hb
      omega
    subst hkm
    exact Bd_e (inc_i64 (by omega)) (K R w85 S C)
end
end Fk
set_option linter.unusedVariables false
set_option linter.unusedSimpArgs false
set_option linter.unusedSectionVars false
set_option maxRecDepth 100000
set_option maxHeartbeats 1000000
namespace Fk
open Go Go.Proofs Go.RowKit
section
variable {wb : World} {n39 n27 n1 n2 n : Nat} {M : Mch} {at' : List Int} {next tags : List Int} {J43 : List Value → List Value → World → Prop} {i s : Nat} {p : List Nat × List Int} {tg : List Int} {x50 : Int} {ta : Option Addr}
theorem P92B_ok {w44 : World} {R : L3 → Rw Int} {x26 : Int} (D : DmIn M next tags) (P : PD M wb n at') (hn1 : n1 < wb.heap.size) (hn2 : n2 < wb.heap.size) (hp : LI M p (i * M.m)) (hs : p.1[i]? = some s) (hrow : RowAt wb ta 1 i1 tags) (hx26 : x26 = at'.getD M.n 0)
    (S : LM wb w44 n39 n27 (numL at' p.1) R) (C : LC R p tg) (htg : tg.length < 2 ^ 20)
    (K : ∀ R' w', LM wb w' n39 n27 (numL at' (lsRow M s p M.m).1) R' → LC R' (lsRow M s p M.m) (tg ++ [M.tag s]) → J43 [slE (R' .f), .int .i64 ((i + 1 : Nat) : Int)] [.agg #[.int .i64 x50, slE (R' .n), slE (R' .t)]] w') :
    P92B J43 n1 n2 n39 n27 (some ⟨n, 0, none⟩) x26 (i : Int) (R .f).1 (R .f).2.2.length (R .f).2.1 x50 (R .n).1 (R .n).2.2.length (R .n).2.1 (R .t).1 (R .t).2.2.length (R .t).2.1 ta tags.length w44 := by
  have hil : i < (R .f).2.2.length := by rw [C.cf, List.length_map]; exact (List.getElem?_eq_some_iff.1 hs).1
  have hsl : s < M.n := hp.lt s (List.mem_of_getElem? hs)
  have hfv : (R .f).2.2[i] = (s : Int) := by
    have : (R .f).2.2[i]? = some (s : Int) := by rw [C.cf, List.getElem?_map, hs]; rfl
    exact (List.getElem?_eq_some_iff.1 this).2
  have hst : s < tags.length := by rw [D.tl]; exact hsl
  have htag : tags[s] = M.tag s := (D.tg1 s hst).symm
  have hlT : (R .t).2.2.length = tg.length := by rw [C.ct]
  unfold P92B
  refine ⟨((S.fam.own .f).row enci1).ix hil, ((S.fam.own .f).row enci1).ld1 hil (by rw [hfv]; rfl) <| opI_in ?_⟩
  obtain ⟨J, hJ⟩ : ∃ J : List Value → List Value → World → Prop, J = (fun us vs w' => ∃ (R' : L3 → Rw Int), vs = [.agg #[.int .i64 x50, slE (R' .n), slE (R' .t)]] ∧ R' .f = R .f ∧ LM wb w' n39 n27 (numL at' p.1) R' ∧ LC R' p (tg ++ [M.tag s])) := ⟨_, rfl⟩
  refine Jn_in J ?_ ?_
  · intro us vs w63 hj
    rw [hJ] at hj
    obtain ⟨R', rfl, ef, S, C⟩ := hj
    obtain ⟨cs, aa, xa, ac, xc, H, h1, h2, h3, h4, h5, h6, h7⟩ := P.mem
    have hsH : s < H.length := by omega
    obtain ⟨v1, v2⟩ := h7 s H[s] (List.getElem?_eq_getElem hsH)
    rw [← ef]
    refine opAg_in <| opI_in <| opL_in <| opL_in <| SzIs_in rfl <| NN_in <| (h1.md S.md (by simp)).ld' h4 <| opL_in ⟨(h6.md S.md).ixn hsH h5, (h6.md S.md).ld1 hsH rfl <| opL_in <| Bd_e rfl ?_⟩
    rw [v1]
    exact P92I_ok D P hn1 hn2 hp hs v2 hx26 S C K
  · have dw : Md [] w44 w44.drew := Md_drew w44
    have S1 := S.md0 dw
    have fin : ∀ (a' : Option Addr) (c' : Nat) (w5 w6 : World), LM wb w5 n39 n27 (numL at' p.1) (upd R .t (a', c', (R .t).2.2 ++ [M.tag s])) → Md [n39] w5 w6 → J [] [.agg #[.int .i64 x50, .slice (R .n).1 (R .n).2.2.length (R .n).2.1, slE (a', c', (R .t).2.2 ++ [M.tag s])]] w6 := fun a' c' w5 w6 S5 m6 => by
      rw [hJ]
      refine ⟨upd R .t (a', c', (R .t).2.2 ++ [M.tag s]), ?_, upd_ne _ _ (by simp), S5.up m6, C.appT _ _ _⟩
      rw [upd_same, upd_ne _ _ (by simp)]; rfl
    refine ⟨fun w' => Md [] wb w', S1.md, (hrow.md S1.md).ix hst, _, fun w' h' => (hrow.md h').ld1 hst (by rw [htag]; rfl) rfl, opI_in ⟨⟨S1.md, ?_⟩, ?_⟩⟩
    · intro n186 w187 e1 e2
      refine ⟨by subst e2; exact S1.md.trans (Md.alloc (M := []) _ _), ?_⟩
      exact S1.app hn1 hn2 .t (M.tag s) (by omega) (fun a' c' w5 S5 m5 => opL_in ⟨S5.md, fun w6 m6 _ => fin a' c' w5 w6 S5 m6⟩) n186 w187 e1 e2
    · intro n186 w187 e1 e2
      have h1 : Md [] wb w187 := by subst e2; exact S1.md.trans (Md.alloc (M := []) _ _)
      refine ⟨h1, h1, ?_⟩
      exact S1.app hn1 hn2 .t (M.tag s) (by omega) (fun a' c' w5 S5 m5 => opL_in ⟨S5.md, fun w6 m6 _ => fin a' c' w5 w6 S5 m6⟩) n186 w187 e1 e2
theorem P92O_ok {w40 : World} {n37 : Nat} {x26 p0_0 : Int} {Q : Value → World → Prop} (D : DmIn M next tags) (P : PD M wb n at') (hn1 : n1 < wb.heap.size) (hn2 : n2 < wb.heap.size) (hrow : RowAt wb ta 1 i1 tags) (hx26 : x26 = at'.getD M.n 0)
    {R0 : L3 → Rw Int} (S : LM wb w40 n39 n27 (numL at' [0]) R0) (e1 : R0 .f = (some ⟨n37, 0, none⟩, 1, [0])) (e2 : R0 .n = (none, 0, [])) (e3 : R0 .t = (none, 0, []))
    (K : ∀ a c a2 c2 w', OwnL w' wb.heap.size 3 1 i1 a c (leastP M).2 → OwnL w' wb.heap.size 3 1 i1 a2 c2 ((leastP M).1.map M.tag) → Md [n2] wb w' →
      Q (.tuple #[.agg #[.int .i64 p0_0, .slice a (leastP M).2.length c, .slice a2 ((leastP M).1.map M.tag).length c2], .int .i64 0]) w') :
    P92O Q n1 n2 n27 n37 n39 (some ⟨n, 0, none⟩) x26 p0_0 ta tags.length w40 := by
  have hnn2 := D.n2
  unfold P92O
  refine LoopP_in (fun mm us vs w' => ∃ (i : Nat) (R : L3 → Rw Int), us = [slE (R .f), .int .i64 i] ∧ vs = [.agg #[.int .i64 p0_0, slE (R .n), slE (R .t)]] ∧ mm = M.n + 1 - i ∧ i ≤ (ls M i).1.length ∧ LI M (ls M i) (i * M.m) ∧ LM wb w' n39 n27 (numL at' (ls M i).1) R ∧ LC R (ls M i) (((ls M i).1.take i).map M.tag)) (M.n + 1)
    ⟨0, R0, by rw [e1]; rfl, by rw [e2, e3]; rfl, rfl, by omega, by rw [Nat.zero_mul]; exact LI.start D.n1, S, ⟨by rw [e1]; rfl, by rw [e2]; rfl, by rw [e3]; rfl⟩⟩ ?_
  clear S e1 e2 e3
  rintro mm us vs w44 ⟨i, R, rfl, rfl, hmm, hi, hp, S, C⟩
  have hlF : (R .f).2.2.length = (ls M i).1.length := by rw [C.cf]; simp
  have hpb := hp.bound
  refine opL_in <| opI_in <| opAg_in <| opI_in <| opL_in <| opL_in <| SzIs_in rfl <| Bd_e rfl <| Bd_in fun b58 hb58 => If_in (fun hb => ?_) fun hb => ?_
  · have hil : i < (ls M i).1.length := by
      rw [hb58] at hb
      have : (i : Int) < (((R .f).2.2.length : Nat) : Int) := of_decide_eq_true hb
      omega
    have hs := List.getElem?_eq_getElem hil
    refine P92B_ok D P hn1 hn2 hp hs hrow hx26 S C (by rw [List.length_map, List.length_take]; omega) fun R' w' S' C' => ?_
    obtain ⟨hI, l', el⟩ := hp.row D.ok hs M.m (Nat.le_refl _)
    have en := ls_succ hs
    have hle : (ls M i).1.length ≤ (ls M (i + 1)).1.length := by rw [en, el]; simp
    refine ⟨M.n + 1 - (i + 1), by omega, i + 1, R', rfl, rfl, rfl, by omega, ?_, ?_, ?_⟩
    · rw [en, Nat.succ_mul]; exact hI
    · rw [en]; exact S'
    · have et : ((ls M (i + 1)).1.take (i + 1)).map M.tag = ((ls M i).1.take i).map M.tag ++ [M.tag ((ls M i).1[i])] := by
        rw [en, el, List.take_append_of_le_length (by omega), List.take_succ_eq_append_getElem hil, List.map_append]
        rfl
      rw [et, en]
      exact C'
  · have hil : i = (ls M i).1.length := by
      have : ¬ (i : Int) < (((R .f).2.2.length : Nat) : Int) := by rw [hb58] at hb; exact of_decide_eq_false hb
      omega
    have he := ls_end (M := M) (i := i) (by omega) (by omega)
    intro w202 m202 _
    have hav : ∀ l A, (R l).1 = some A → A.block ∉ [n2] := fun l A hA hd => by
      have h1 := ((S.fam.own l).lt hA).1
      have h2 : A.block = n2 := by simpa using hd
      omega
    have oN := (S.fam.own .n).mdD m202 (hav .n)
    have oT := (S.fam.own .t).mdD m202 (hav .t)
    have ct := C.ct
    rw [hil, ← hil, List.take_of_length_le (by omega)] at ct
    rw [C.cn, ← he] at oN
    rw [ct, ← he] at oT
    have := K _ _ _ _ w202 oN oT ((S.md.mono (by simp)).trans m202)
    rw [he] at this
    show Q (.tuple #[.agg #[.int .i64 p0_0, .slice (R .n).1 (R .n).2.2.length (R .n).2.1, .slice (R .t).1 (R .t).2.2.length (R .t).2.1], .int .i64 0]) w202
    rw [C.cn, ct]
    exact this
end
noncomputable def leastD (dm : Int) (next tags : List Int) : (Int × List Int × List Int) × Int :=
  if dRight dm next tags = true then ((dm, (leastP (dMch dm next tags)).2, (leastP (dMch dm next tags)).1.map (dMch dm next tags).tag), 0) else ((0, [], []), 2)
def outD (w w' : World) (r : (Int × List Int × List Int) × Int) (v : Value) : Prop :=
  (∃ (a : Option Addr) (c : Nat) (a2 : Option Addr) (c2 : Nat), v = .tuple #[.agg #[.int .i64 r.1.1, .slice a r.1.2.1.length c, .slice a2 r.1.2.2.length c2], .int .i64 r.2] ∧ OwnL w' w.heap.size 3 1 i1 a c r.1.2.1 ∧ OwnL w' w.heap.size 3 1 i1 a2 c2 r.1.2.2) ∧ Md [] w w'
theorem f92_Q (dm : Int) (next tags : List Int) (na ta : Option Addr) (nc tc : Nat) (w : World) {Q : Value → World → Prop} (hn : RowAt w na 1 i1 next) (ht : RowAt w ta 1 i1 tags) (hnl : next.length < 2 ^ 62) (htl : tags.length < 2 ^ 12)
    (K : ∀ v w', outD w w' (leastD dm next tags) v → Q v w') : f92_vc dm na next.length nc ta tags.length tc Q w := by
  intro n1 hn1 n2 hn2
  intro w3 m3 hL3
  have h1 : n1 < w3.heap.size := hL3 n1 (by simp)
  have h2 : n2 < w3.heap.size := hL3 n2 (by simp)
  refine Ct.call (f72_ok dm next tags na ta nc tc w3 (hn.md m3) (ht.md m3) (by omega) (by omega)) (by simp; omega) fun v w5 hv m5 => ?_
  subst hv
  refine opB_in <| Bd_e rfl <| If_in (fun hb => ?_) fun hb => ?_
  · have hr : ¬ dRight dm next tags = true := by intro e; rw [e] at hb; cases hb
    intro w8 m8 _
    refine K _ _ ⟨⟨none, 0, none, 0, ?_, ?_, ?_⟩, ((m3.trans m5).old m8 (by simpa using hn2))⟩
    · unfold leastD; rw [if_neg hr]; rfl
    · unfold leastD; rw [if_neg hr]; exact OwnL.nil _ _ _ _ _
    · unfold leastD; rw [if_neg hr]; exact OwnL.nil _ _ _ _ _
  · have hr : dRight dm next tags = true := by
      cases h : dRight dm next tags with
      | true => rfl
      | false => rw [h] at hb; cases hb
    obtain ⟨D, em⟩ := dIn_of (drOk hr) htl
    have hres : leastD dm next tags = ((dm, (leastP (dMch dm next tags)).2, (leastP (dMch dm next tags)).1.map (dMch dm next tags).tag), 0) := by unfold leastD; rw [if_pos hr]
    obtain ⟨M, hM⟩ : ∃ M, M = dMch dm next tags := ⟨_, rfl⟩
    rw [← hM] at D em hres
    have h188 := f188_ok (nc := nc) (tc := tc) D (hn.md (m3.trans m5)) (ht.md (m3.trans m5))
    rw [em] at h188
    refine Ct.call h188 (fun d hd => ?_) fun v w10 hv m10 => ?_
    · simp only [List.mem_cons, List.not_mem_nil, or_false] at hd
      have := m5.size
      rcases hd with rfl | rfl <;> omega
    · obtain ⟨n, at', rfl, P⟩ := hv
      have m10' : Md [] w w10 := (m3.trans m5).trans m10
      have hn1' : n1 < w10.heap.size := by have := m5.size; have := m10.size; omega
      have hn2' : n2 < w10.heap.size := by have := m5.size; have := m10.size; omega
      obtain ⟨cs, aa, xa, ac, xc, H, g1, g2, g3, _⟩ := P.mem
      have hal := P.al
      have hDn := D.n1
      have ln : M.n < at'.length := by omega
      have l0 : 0 < at'.length := by omega
      have dw : Md [] w10 w10.drew := Md_drew w10
      have en : at'[M.n] = at'.getD M.n 0 := by rw [List.getD_eq_getElem?_getD, List.getElem?_eq_getElem ln]; rfl
      have e0 : at'[0] = at'.getD 0 0 := by rw [List.getD_eq_getElem?_getD, List.getElem?_eq_getElem l0]; rfl
      refine opP_in ⟨fun w' => Md [] w10 w', dw, NN_in ⟨_, fun w' h' => (g1.md h' (by simp)).ld' g2 rfl, opL_in <| Bd_e (by rw [D.tl]) ⟨g3.ixn ln hal, _, fun w' h' => (g3.md h').ld1 ln (by rw [en]; rfl) rfl, opI_in ?_⟩⟩⟩
      intro n27 w28 e27 e28
      subst e27; subst e28
      have ma : Md [] w10.drew (w10.drew.alloc (.map #[] 0)) := Md.alloc (M := []) _ _
      have m28 : Md [] w10 (w10.drew.alloc (.map #[] 0)) := dw.trans ma
      have hmn := MapAt.new w10.drew vI vI (V := Int)
      obtain ⟨w36, hrun, hmap, m36⟩ := mapInt.add hmn (at'.getD 0 0) (0 : Int) rfl
      have h27 : w10.drew.heap.size = w10.heap.size := rfl
      refine NN_in <| (g1.md m28 (by simp)).ld' g2 <| opL_in ⟨g3.ixn l0 hal, (g3.md m28).ld1 l0 (by rw [e0]; rfl) <| opI_in <| RunU_in hrun (fun d hd => m36.blk d ?_ ?_) ?_⟩
      · simp only [List.mem_cons, List.not_mem_nil, or_false] at hd
        have := m28.size
        rcases hd with rfl | rfl <;> omega
      · simp only [List.mem_cons, List.not_mem_nil, or_false] at hd ⊢
        rcases hd with rfl | rfl <;> omega
      · have m36' : Md [] w10 w36 := m28.old m36 (by simp [h27])
        intro n37 w38 e37 e38
        subst e37; subst e38
        have ma2 : Md [] w36 (w36.alloc (.cells #[.int .i64 0] 3)) := Md.alloc (M := []) _ _
        have m38 := m36'.trans ma2
        have hlit := OwnL.lit (P := Try.prog) (base := w10.heap.size) enci1 w36 3 [(0 : Int)] #[.int .i64 0] m36'.size (by simp [maxLen]) rfl
        have hs38 : (w36.alloc (.cells #[.int .i64 0] 3)).heap.size = w36.heap.size + 1 := Array.size_push _
        have hmap38 := hmap.md ma2 (by simp)
        have hl27 := hmap.lt
        intro n39 hn39 w40 m40 hL40
        have h39 : n39 < w40.heap.size := hL40 n39 (by simp)
        have F38 : Fam (w36.alloc (.cells #[.int .i64 0] 3)) w10.heap.size 3 i1 (upd (fun _ : L3 => ((none, 0, []) : Rw Int)) .f (some ⟨w36.heap.size, 0, none⟩, 1, [0])) :=
          (Fam.none w36 _ _ _).upd (ma2.mono (by simp)) hlit fun A hA => .inr (by injection hA with hA; rw [← hA]; exact Nat.le_refl _)
        have hne : ∀ l A, ((upd (fun _ : L3 => ((none, 0, []) : Rw Int)) .f (some ⟨w36.heap.size, 0, none⟩, 1, [0])) l).1 = some A → A.block ≠ n39 := fun l A hA e => by
          have := (F38.own l).lt hA
          omega
        have S : LM w10 w40 n39 w10.drew.heap.size (numL at' [0]) (upd (fun _ : L3 => ((none, 0, []) : Rw Int)) .f (some ⟨w36.heap.size, 0, none⟩, 1, [0])) :=
          ⟨m38.old m40 (by have := m38.size; simp; omega), F38.keep m40 (fun l A hA => by simpa using hne l A hA), hne, h39, by have := m38.size; omega, hmap38.md m40 (by simp; omega), Nat.le_refl _, by omega⟩
        refine P92O_ok D P hn1' hn2' (ht.md m10') rfl S (upd_same _ _ _) (upd_ne _ _ (by simp)) (upd_ne _ _ (by simp)) fun a c a2 c2 w' oN oT m' => ?_
        refine K _ _ ⟨⟨a, c, a2, c2, ?_, ?_, ?_⟩, m10'.old m' (by simpa using hn2)⟩
        · rw [hres]
        · rw [hres]; exact oN.down m10'.size
        · rw [hres]; exact oT.down m10'.size
theorem f92_ok (dm : Int) (next tags : List Int) (na ta : Option Addr) (nc tc : Nat) (w : World) (hn : RowAt w na 1 i1 next) (ht : RowAt w ta 1 i1 tags) (hnl : next.length < 2 ^ 62) (htl : tags.length < 2 ^ 12) :
    Ct Try.prog 92 #[.agg #[.int .i64 dm, .slice na next.length nc, .slice ta tags.length tc]] w fun v w' => outD w w' (leastD dm next tags) v := by
  apply f92_in
  exact f92_Q dm next tags na ta nc tc w hn ht hnl htl fun v w' h => h
end Fk
set_option linter.unusedVariables false
set_option linter.unusedSimpArgs false
set_option linter.unusedSectionVars false
set_option maxRecDepth 100000
set_option maxHeartbeats 1000000
namespace Fk
open Go Go.Proofs Go.RowKit
theorem f190_ok {M : Mch} {next tags : List Int} {na ta : Option Addr} {nc tc s k : Nat} {w : World} (D : DmIn M next tags) (hrow : RowAt w na 1 i1 next) (hs : s ≤ M.n) (hk : k < M.m) :
    Ct Try.prog 190 #[.agg #[.int .i64 M.m, .slice na next.length nc, .slice ta tags.length tc], .int .i64 s, .int .i64 k] w fun v w' => v = .int .i64 (M.go s k : Int) ∧ Md [] w w' := by
  have hm2 := D.m2
  have hn2 := D.n2
  obtain ⟨hw, hwb⟩ := D.wr hs
  have w2 : IntKind.wrap .i64 (((s * M.m : Nat) : Int) + (k : Int)) = ((s * M.m + k : Nat) : Int) := by rw [IntKind.wrap_i64]; omega
  apply f190_in
  intro n1 hn1
  refine Bd_e (by rw [D.tl]) ?_
  by_cases hsn : s = M.n
  · have e : ((s : Int) == (M.n : Int)) = true := by rw [hsn]; simp
    refine Bd_e e <| Bd_e hw <| Bd_e w2 ⟨(fun h => by cases h), fun w7 m7 _ => Gd_f <| Bd_in fun b13 _ => Bd_t rfl <| If_t ?_⟩
    refine ⟨?_, m7⟩
    rw [hsn, D.go2]
  · have hsl : s < M.n := by omega
    have e : ((s : Int) == (M.n : Int)) = false := by simp; omega
    have hix := D.ix hsl hk
    have hgo := D.go1 s k hsl hk hix
    refine Bd_e e <| Bd_e hw <| Bd_e w2 ⟨fun _ => hrow.ix hix, fun w7 m7 _ => Gd_t <| (hrow.md m7).ld1 hix rfl <| opI_in <| Bd_in fun b13 hb13 => Bd_e (y := b13) rfl <| If_in (fun hz => ?_) fun hz => ?_⟩
    · have h0 : next[s * M.m + k] < 0 := by rw [hb13] at hz; exact of_decide_eq_true hz
      rw [if_neg (by omega)] at hgo
      exact ⟨by rw [hgo], m7⟩
    · have h0 : ¬ next[s * M.m + k] < 0 := by rw [hb13] at hz; exact of_decide_eq_false hz
      rw [if_pos (by omega)] at hgo
      refine Bd_e hw <| Bd_e w2 ⟨hrow.ix hix, (hrow.md m7).ld1 hix rfl <| opI_in ⟨?_, m7⟩⟩
      rw [hgo, Int.toNat_of_nonneg (by omega)]
def prs (n : Nat) : List (Nat × Nat) := (List.range (n + 1)).flatMap fun a => (List.range (n + 1)).map fun b => (a, b)
theorem prs_mem {n a b : Nat} : (a, b) ∈ prs n ↔ a ≤ n ∧ b ≤ n := by
  unfold prs
  simp only [List.mem_flatMap, List.mem_map, List.mem_range, Prod.mk.injEq]
  constructor
  · rintro ⟨x, hx, y, hy, rfl, rfl⟩; omega
  · rintro ⟨h1, h2⟩; exact ⟨a, by omega, b, by omega, rfl, rfl⟩
def cntX (n : Nat) (X : Nat → Nat → Bool) : Nat := (prs n).countP fun p => !X p.1 p.2
theorem countP_lt {α : Type} {p q : α → Bool} : ∀ {l : List α}, (∀ x ∈ l, q x = true → p x = true) → (∃ x ∈ l, p x = true ∧ q x = false) → l.countP q < l.countP p
  | [], _, h => by obtain ⟨x, hx, _⟩ := h; cases hx
  | a :: l, h1, h2 => by
    have h1' : ∀ x ∈ l, q x = true → p x = true := fun x hx => h1 x (List.mem_cons_of_mem _ hx)
    have hle : l.countP q ≤ l.countP p := List.countP_mono_left h1'
    rw [List.countP_cons, List.countP_cons]
    obtain ⟨x, hx, hp, hq⟩ := h2
    rcases List.mem_cons.1 hx with rfl | hx
    · rw [hp, hq]
      simp
      omega
    · have := countP_lt h1' ⟨x, hx, hp, hq⟩
      have ha := h1 a (by simp)
      cases hqa : q a with
      | true => rw [ha hqa]; simp; omega
      | false => cases p a <;> simp <;> omega
theorem cntX_lt {n : Nat} {X Y : Nat → Nat → Bool} (h : ∀ a b, a ≤ n → b ≤ n → X a b = true → Y a b = true) (h2 : ∃ a b, a ≤ n ∧ b ≤ n ∧ X a b = false ∧ Y a b = true) : cntX n Y < cntX n X := by
  refine countP_lt (fun p hp hq => ?_) ?_
  · obtain ⟨a, b⟩ := p
    obtain ⟨ha, hb⟩ := prs_mem.1 hp
    cases hX : X a b with
    | false => simp [hX]
    | true =>
      have := h a b ha hb hX
      simp [this] at hq
  · obtain ⟨a, b, ha, hb, h3, h4⟩ := h2
    exact ⟨(a, b), prs_mem.2 ⟨ha, hb⟩, by simp [h3], by simp [h4]⟩
def setX (X : Nat → Nat → Bool) (a b : Nat) : Nat → Nat → Bool := fun x y => if x = a ∧ y = b then true else X x y
/-- What is so of a table of which two are not alike, at any time. -/
structure XI (M : Mch) (X : Nat → Nat → Bool) : Prop where
  snd : ∀ a b, a ≤ M.n → b ≤ M.n → X a b = true → ¬ M.alike a b
  tag : ∀ a b, a ≤ M.n → b ≤ M.n → X a b = false → M.tag a = M.tag b
def Clo (M : Mch) (X : Nat → Nat → Bool) (a b : Nat) : Prop := X a b = false → ∀ k, k < M.m → X (M.go a k) (M.go b k) = false
theorem XI.fin {M : Mch} (hM : M.ok) {X : Nat → Nat → Bool} (h : XI M X) (hc : ∀ a b, a ≤ M.n → b ≤ M.n → Clo M X a b) {a b : Nat} (ha : a ≤ M.n) (hb : b ≤ M.n) : X a b = false ↔ M.alike a b := by
  constructor
  · intro hx
    exact alike_of (R := fun x y => x ≤ M.n ∧ y ≤ M.n ∧ X x y = false) (fun x y hr => h.tag x y hr.1 hr.2.1 hr.2.2) (fun x y k hr hk => ⟨hM.st x hr.1 k hk, hM.st y hr.2.1 k hk, hc x y hr.1 hr.2.1 hr.2.2 k hk⟩) a b ⟨ha, hb, hx⟩
  · intro hal
    cases hx : X a b with
    | false => rfl
    | true => exact absurd hal (h.snd a b ha hb hx)
theorem XI.set {M : Mch} {X : Nat → Nat → Bool} (h : XI M X) {a b k : Nat} (ha : a ≤ M.n) (hb : b ≤ M.n) (hk : k < M.m) (hM : M.ok) (hx : X (M.go a k) (M.go b k) = true) : XI M (setX X a b) := by
  refine ⟨fun x y hx1 hy1 hxy => ?_, fun x y hx1 hy1 hxy => ?_⟩
  · unfold setX at hxy
    split at hxy
    · rename_i e
      obtain ⟨rfl, rfl⟩ := e
      intro hal
      exact h.snd _ _ (hM.st x ha k hk) (hM.st y hb k hk) hx (alike_go hal hk)
    · exact h.snd x y hx1 hy1 hxy
  · unfold setX at hxy
    split at hxy
    · cases hxy
    · exact h.tag x y hx1 hy1 hxy
def rowX (n : Nat) (X : Nat → Nat → Bool) (a : Nat) : List Bool := (List.range (n + 1)).map (X a)
theorem rowX_len (n : Nat) (X : Nat → Nat → Bool) (a : Nat) : (rowX n X a).length = n + 1 := by simp [rowX]
theorem rowX_get {n : Nat} {X : Nat → Nat → Bool} {a b : Nat} (h : b < (rowX n X a).length) : (rowX n X a)[b] = X a b := by simp [rowX]
theorem rowX_set {n : Nat} {X : Nat → Nat → Bool} {a b : Nat} : (rowX n X a).set b true = rowX n (setX X a b) a := by
  apply List.ext_getElem?
  intro j
  unfold rowX setX
  rw [List.getElem?_set, List.getElem?_map, List.getElem?_map]
  by_cases h : b = j
  · subst h
    by_cases c : b < n + 1
    · simp [c]
    · simp [c]
  · have h' : ¬ j = b := fun e => h e.symm
    rw [if_neg h]
    by_cases c : j < n + 1
    · have : (List.range (n + 1))[j]? = some j := by simp [c]
      rw [this]; simp [h']
    · have : (List.range (n + 1))[j]? = none := by simp; omega
      rw [this]; rfl
theorem rowX_ne {n : Nat} {X : Nat → Nat → Bool} {a b x : Nat} (h : x ≠ a) : rowX n (setX X a b) x = rowX n X x := by
  unfold rowX setX
  apply List.map_congr_left
  intro y _
  rw [if_neg (fun e => h e.1)]
structure AM (w0 w : World) (h : Rw HS3) (R : Nat → Rw Bool) : Prop where
  md : Md [] w0 w
  hO : OwnL w w0.heap.size 222 1 hE h.1 h.2.1 h.2.2
  fam : Fam w w0.heap.size 4 bE R
  hd : ∀ a, a < h.2.2.length → h.2.2[a]? = some (hdr (R a))
section
variable {w0 w w' : World} {h : Rw HS3} {R : Nat → Rw Bool}
theorem AM.md0 (S : AM w0 w h R) (hm : Md [] w w') : AM w0 w' h R := ⟨S.md.trans hm, S.hO.md hm, S.fam.md0 hm, S.hd⟩
theorem AM.set (S : AM w0 w h R) {a : Nat} (ha : a < h.2.2.length) {i : Nat} (hi : i < (R a).2.2.length) (x : Bool) : Wr w (adAt (R a).1 (i : Int) 1) 1 ∧ w0.heap.size ≤ (adAt (R a).1 (i : Int) 1).block ∧
    AM w0 (setCells w (adAt (R a).1 (i : Int) 1) 0 [.bool x]) h (upd R a ((R a).1, (R a).2.1, (R a).2.2.set i x)) ∧ Md (blkO (R a).1) w (setCells w (adAt (R a).1 (i : Int) 1) 0 [.bool x]) := by
  obtain ⟨A, hA, h1, h2, h3, h4, h5, h6⟩ := (S.fam.own a).put encbE (by omega) hi x
  have hm : Md (blkO (R a).1) w (setCells w (adAt (R a).1 (i : Int) 1) 0 [.bool x]) := h6.mono (by intro z hz; simp at hz; rw [hA, hz]; exact blkO_some)
  refine ⟨h4, by rw [h3]; exact h2, ⟨S.md.old hm fun d hd => ?_, S.hO.mdD hm fun B hB hd => ?_, S.fam.upd hm h5 (NewO.refl _ _), fun a' ha' => ?_⟩, hm⟩
  · obtain ⟨B, hB, rfl⟩ := blkO_mem hd; exact ((S.fam.own a).lt hB).1
  · obtain ⟨C, hC, e⟩ := blkO_mem hd; exact own_apt2 S.hO (S.fam.own a) (by decide) B C hB hC e.symm
  · rw [S.hd a' ha']
    by_cases e : a' = a
    · subst e; rw [upd_same]; simp [hdr]
    · rw [upd_ne _ _ e]
/-- Where a header is read, then what it heads. -/
theorem AM.row (S : AM w0 w h R) {a : Nat} (ha : a < h.2.2.length) : h.2.2[a] = hdr (R a) := (List.getElem?_eq_some_iff.1 (S.hd a ha)).2
end
end Fk
set_option linter.unusedVariables false
set_option linter.unusedSimpArgs false
set_option linter.unusedSectionVars false
set_option maxRecDepth 100000
set_option maxHeartbeats 1000000
namespace Fk
open Go Go.Proofs Go.RowKit
def P189K (p0_0 : Int) (p0_1a : Option Addr) (p0_1n : Nat) (p0_1c : Nat) (p0_2a : Option Addr) (p0_2n : Nat) (p0_2c : Nat) (x2 : Int) (n1 : Nat) (J81 : List Value → List Value → World → Prop) (x77 : Int) (x84 : Int) (a22 : Option Addr) (n23 : Nat) (b83 : Bool) (w82 : World) : Prop :=
  LoopP (fun l86 l87 J88 w89 => opB (nthD l86 (0 : Nat)) fun b90 => opI IntKind.i64 (nthD l86 (1 : Nat)) fun x91 => Bd (decide (x91 < p0_0)) fun b92 => (b92 = true → IxOk x77 n23 a22) ∧ Gd b92 (none, (0 : Nat), (0 : Nat)) (fun J94 => Ld w89 (adAt a22 x77 (1 : Nat)) fun v95 => opL v95 fun a96 n97 n98 => J94 (a96, n97, n98) w89) (fun u99 w100 => (b92 = true → IxOk x84 (Prod.fst (Prod.snd u99)) (Prod.fst u99)) ∧ Gd b92 false (fun J102 => Ld w100 (adAt (Prod.fst u99) x84 (1 : Nat)) fun v103 => opB v103 fun b104 => J102 b104 w100) (fun b105 w106 => Bd (!b105) fun b107 => Bd (bif b92 then b107 else false) fun b108 => If b108 (Jn (fun l109 l110 w111 => opB (nthD l109 (0 : Nat)) fun b112 => Bd (IntKind.wrap IntKind.i64 (x91 + (1 : Int))) fun x113 => J88 [Value.bool b112, Value.int IntKind.i64 x113] [] w111) fun J114 => Jn (fun l115 l116 w117 => opB (nthD l115 (0 : Nat)) fun b118 => If b118 (IxOk x77 n23 a22 ∧ Ld w117 (adAt a22 x77 (1 : Nat)) fun v119 => opL v119 fun a120 n121 n122 => IxOk x84 n121 a120 ∧ ¬Addr.block (adAt a120 x84 (1 : Nat)) ∈ [n1] ∧ Wr w117 (adAt a120 x84 (1 : Nat)) (1 : Nat) ∧ J114 [Value.bool true] [] (setCells w117 (adAt a120 x84 (1 : Nat)) (0 : Nat) [Value.bool true])) (J114 [Value.bool b90] [] w117)) fun J123 => Dr (World.drew w106) fun J124 => CallW Try.prog [n1] (190 : Nat) #[Value.agg #[Value.int IntKind.i64 p0_0, Value.slice p0_1a p0_1n p0_1c, Value.slice p0_2a p0_2n p0_2c], Value.int IntKind.i64 x77, Value.int IntKind.i64 x91] (fun v125 w126 => opI IntKind.i64 v125 fun x127 => J124 w126 ∧ IxOk x127 n23 a22 ∧ ∃ v128, (∀ (w129 : World), J124 w129 → Ld w129 (adAt a22 x127 (1 : Nat)) fun v131 => v131 = v128) ∧ opL v128 fun a132 n133 n134 => CallW Try.prog [n1] (190 : Nat) #[Value.agg #[Value.int IntKind.i64 p0_0, Value.slice p0_1a p0_1n p0_1c, Value.slice p0_2a p0_2n p0_2c], Value.int IntKind.i64 x84, Value.int IntKind.i64 x91] (fun v135 w136 => opI IntKind.i64 v135 fun x137 => J124 w136 ∧ IxOk x137 n133 a132 ∧ ∃ v138, (∀ (w139 : World), J124 w139 → Ld w139 (adAt a132 x137 (1 : Nat)) fun v141 => v141 = v138) ∧ opB v138 fun b142 => J123 [Value.bool b142] [] w136) w126) (World.drew w106)) (Bd (IntKind.wrap IntKind.i64 (x84 + (1 : Int))) fun x143 => J81 [Value.bool b90, Value.int IntKind.i64 x143] [] w106)) w100) w89) [Value.bool b83, Value.int IntKind.i64 (0 : Int)] [] w82
def P189B (p0_0 : Int) (p0_1a : Option Addr) (p0_1n : Nat) (p0_1c : Nat) (p0_2a : Option Addr) (p0_2n : Nat) (p0_2c : Nat) (x2 : Int) (n1 : Nat) (J74 : List Value → List Value → World → Prop) (x77 : Int) (a22 : Option Addr) (n23 : Nat) (b76 : Bool) (w75 : World) : Prop :=
  LoopP (fun l79 l80 J81 w82 => opB (nthD l79 (0 : Nat)) fun b83 => opI IntKind.i64 (nthD l79 (1 : Nat)) fun x84 => Bd (decide (x84 ≤ x2)) fun b85 => If b85 ((P189K p0_0 p0_1a p0_1n p0_1c p0_2a p0_2n p0_2c x2 n1 J81 x77 x84 a22 n23 b83 w82)) (Bd (IntKind.wrap IntKind.i64 (x77 + (1 : Int))) fun x144 => J74 [Value.bool b83, Value.int IntKind.i64 x144] [] w82)) [Value.bool b76, Value.int IntKind.i64 (0 : Int)] [] w75
def P189A (p0_0 : Int) (p0_1a : Option Addr) (p0_1n : Nat) (p0_1c : Nat) (p0_2a : Option Addr) (p0_2n : Nat) (p0_2c : Nat) (x2 : Int) (n1 : Nat) (J69 : List Value → List Value → World → Prop) (a22 : Option Addr) (n23 : Nat) (w70 : World) : Prop :=
  LoopP (fun l72 l73 J74 w75 => opB (nthD l72 (0 : Nat)) fun b76 => opI IntKind.i64 (nthD l72 (1 : Nat)) fun x77 => Bd (decide (x77 ≤ x2)) fun b78 => If b78 ((P189B p0_0 p0_1a p0_1n p0_1c p0_2a p0_2n p0_2c x2 n1 J74 x77 a22 n23 b76 w75)) (J69 [Value.bool b76] [] w75)) [Value.bool false, Value.int IntKind.i64 (0 : Int)] [] w70
def P189W (p0_0 : Int) (p0_1a : Option Addr) (p0_1n : Nat) (p0_1c : Nat) (p0_2a : Option Addr) (p0_2n : Nat) (p0_2c : Nat) (x2 : Int) (n1 : Nat) (R : Value → World → Prop) (a22 : Option Addr) (n23 : Nat) (n24 : Nat) (w21 : World) : Prop :=
  LoopP (fun l67 l68 J69 w70 => opB (nthD l67 (0 : Nat)) fun b71 => If b71 ((P189A p0_0 p0_1a p0_1n p0_1c p0_2a p0_2n p0_2c x2 n1 J69 a22 n23 w70)) (R (Value.slice a22 n23 n24) w70)) [Value.bool true] [] w21
def P189E (x2 : Int) (n1 : Nat) (J20 : List Value → List Value → World → Prop) (x25 : Int) (a15 : Option Addr) (n16 : Nat) (a37 : Option Addr) (n38 : Nat) (n39 : Nat) (w36 : World) : Prop :=
  LoopP (fun l40 l41 J42 w43 => opI IntKind.i64 (nthD l40 (0 : Nat)) fun x44 => Bd (decide (x44 ≤ x2)) fun b45 => If b45 (Dr (World.drew w43) fun J46 => IxOk x25 n38 a37 ∧ IxOk x25 n16 a15 ∧ IxOk x44 n16 a15 ∧ ∃ v47, (∀ (w48 : World), J46 w48 → Ld w48 (adAt a37 x25 (1 : Nat)) fun v50 => v50 = v47) ∧ opL v47 fun a51 n52 n53 => ∃ v54, (∀ (w55 : World), J46 w55 → Ld w55 (adAt a15 x25 (1 : Nat)) fun v57 => v57 = v54) ∧ opI IntKind.i64 v54 fun x58 => ∃ v59, (∀ (w60 : World), J46 w60 → Ld w60 (adAt a15 x44 (1 : Nat)) fun v62 => v62 = v59) ∧ opI IntKind.i64 v59 fun x63 => Bd (x58 != x63) fun b64 => IxOk x44 n52 a51 ∧ ¬Addr.block (adAt a51 x44 (1 : Nat)) ∈ [n1] ∧ Wr (World.drew w43) (adAt a51 x44 (1 : Nat)) (1 : Nat) ∧ Bd (IntKind.wrap IntKind.i64 (x44 + (1 : Int))) fun x65 => J42 [Value.int IntKind.i64 x65] [] (setCells (World.drew w43) (adAt a51 x44 (1 : Nat)) (0 : Nat) [Value.bool b64])) (Bd (IntKind.wrap IntKind.i64 (x25 + (1 : Int))) fun x66 => J20 [Value.slice a37 n38 n39, Value.int IntKind.i64 x66] [] w43)) [Value.int IntKind.i64 (0 : Int)] [] w36
def P189I (p0_0 : Int) (p0_1a : Option Addr) (p0_1n : Nat) (p0_1c : Nat) (p0_2a : Option Addr) (p0_2n : Nat) (p0_2c : Nat) (x2 : Int) (n1 : Nat) (R : Value → World → Prop) (a15 : Option Addr) (n16 : Nat) (w14 : World) : Prop :=
  LoopP (fun l18 l19 J20 w21 => opL (nthD l18 (0 : Nat)) fun a22 n23 n24 => opI IntKind.i64 (nthD l18 (1 : Nat)) fun x25 => Bd (decide (x25 ≤ x2)) fun b26 => If b26 (Bd (IntKind.wrap IntKind.i64 (x2 + (1 : Int))) fun x27 => RunW Try.prog [n1] (Instr.makeSlice (222 : Nat) (Value.int IntKind.i64 x27) (Value.int IntKind.i64 x27)) (fun v28 w29 => opL v28 fun a30 n31 n32 => Nw (Obj.cells #[Value.slice a30 n31 n32] (222 : Nat)) w29 fun n33 w34 => RunW Try.prog [n1] (Builtin.append_ #[(219 : Nat), (219 : Nat)] (219 : Nat) #[Value.slice a22 n23 n24, Value.slice (some { block := n33, off := (0 : Nat) }) (1 : Nat) (1 : Nat)]) (fun v35 w36 => opL v35 fun a37 n38 n39 => (P189E x2 n1 J20 x25 a15 n16 a37 n38 n39 w36)) w34) w21) ((P189W p0_0 p0_1a p0_1n p0_1c p0_2a p0_2n p0_2c x2 n1 R a22 n23 n24 w21))) [Value.slice none (0 : Nat) (0 : Nat), Value.int IntKind.i64 (0 : Int)] [] w14
structure AX (M : Mch) (w0 w : World) (h : Rw HS3) (R : Nat → Rw Bool) (X : Nat → Nat → Bool) : Prop where
  am : AM w0 w h R
  hl : h.2.2.length = M.n + 1
  rw : ∀ a, a ≤ M.n → (R a).2.2 = rowX M.n X a
  xi : XI M X
structure RI (M : Mch) (X0 X : Nat → Nat → Bool) (more : Bool) : Prop where
  mono : ∀ a b, a ≤ M.n → b ≤ M.n → X0 a b = true → X a b = true
  gain : more = true → ∃ a b, a ≤ M.n ∧ b ≤ M.n ∧ X0 a b = false ∧ X a b = true
  same : more = false → X = X0
section
variable {w0 : World} {n1 : Nat} {M : Mch} {next tags : List Int} {na ta : Option Addr} {nc tc : Nat} {h : Rw HS3} {X0 : Nat → Nat → Bool}
theorem AX.md0 {w w' : World} {R : Nat → Rw Bool} {X : Nat → Nat → Bool} (A : AX M w0 w h R X) (hm : Md [] w w') : AX M w0 w' h R X := ⟨A.am.md0 hm, A.hl, A.rw, A.xi⟩
theorem P189K_ok {w82 : World} {R : Nat → Rw Bool} {X : Nat → Nat → Bool} {J81 : List Value → List Value → World → Prop} {a b : Nat} {more : Bool} (D : DmIn M next tags) (hn1 : n1 < w0.heap.size) (hrow : RowAt w0 na 1 i1 next) (ha : a ≤ M.n) (hb : b ≤ M.n)
    (A : AX M w0 w82 h R X) (I : RI M X0 X more)
    (K : ∀ more' X' R' w', AX M w0 w' h R' X' → RI M X0 X' more' → (more' = false → more = false) → (more' = false → Clo M X0 a b) → Bd (IntKind.wrap IntKind.i64 ((b : Int) + 1)) fun x143 => J81 [.bool more', .int .i64 x143] [] w') :
    P189K (M.m : Int) na next.length nc ta tags.length tc (M.n : Int) n1 J81 (a : Int) (b : Int) h.1 (M.n + 1) more w82 := by
  have hm2 := D.m2
  have hn2 := D.n2
  unfold P189K
  refine LoopP_in (fun mm us vs w' => ∃ (k : Nat) (more' : Bool) (R : Nat → Rw Bool) (X : Nat → Nat → Bool), us = [.bool more', .int .i64 k] ∧ mm = M.m - k ∧ k ≤ M.m ∧ AX M w0 w' h R X ∧ RI M X0 X more' ∧ (more' = false → more = false) ∧ (more' = false → X a b = false → ∀ j, j < k → X (M.go a j) (M.go b j) = false)) M.m
    ⟨0, more, R, X, rfl, rfl, by omega, A, I, id, fun _ _ j hj => by omega⟩ ?_
  clear A I
  rintro mm us vs w89 ⟨k, more1, R, X, rfl, hmm, hk, A, I, ho, hc⟩
  refine opB_in <| opI_in ?_
  have hah : a < h.2.2.length := by rw [A.hl]; omega
  have hra := A.rw a ha
  have hbr : b < (R a).2.2.length := by rw [hra, rowX_len]; omega
  have hXab : (R a).2.2[b] = X a b := by
    have : (R a).2.2[b]? = some (X a b) := by rw [hra]; rw [List.getElem?_eq_getElem (by rw [rowX_len]; omega), rowX_get]
    exact (List.getElem?_eq_some_iff.1 this).2
  by_cases hkm : k < M.m
  · refine Bd_t (by simpa using hkm) ⟨fun _ => (A.am.hO.row enchE).ixn hah A.hl, Gd_t <| (A.am.hO.row enchE).ld1 hah (by rw [A.am.row hah]; rfl) <| opL_in ⟨fun _ => ((A.am.fam.own a).row encbE).ix hbr, Gd_t <| ((A.am.fam.own a).row encbE).ld1 hbr (by rw [hXab]; rfl) <| opB_in <| Bd_e rfl <| Bd_in fun b108 hb108 => If_in (fun hz => ?_) fun hz => ?_⟩⟩
    · have hX : X a b = false := by
        rw [hb108] at hz
        cases h1 : X a b with
        | false => rfl
        | true => rw [h1] at hz; cases hz
      obtain ⟨J, hJ⟩ : ∃ J : List Value → List Value → World → Prop, J = (fun us vs w' => ∃ (more1 : Bool) (R : Nat → Rw Bool) (X : Nat → Nat → Bool), us = [.bool more1] ∧ AX M w0 w' h R X ∧ RI M X0 X more1 ∧ (more1 = false → more = false) ∧ (more1 = false → X a b = false → ∀ j, j < k + 1 → X (M.go a j) (M.go b j) = false)) := ⟨_, rfl⟩
      refine Jn_in J ?_ ?_
      · intro us vs w111 hj
        rw [hJ] at hj
        obtain ⟨more1, R, X, rfl, A, I, ho, hc⟩ := hj
        exact opB_in <| Bd_e (inc_i64 (by omega)) ⟨M.m - (k + 1), by omega, k + 1, more1, R, X, rfl, rfl, by omega, A, I, ho, hc⟩
      · have hga := D.ok.st a ha k hkm
        have hgb := D.ok.st b hb k hkm
        obtain ⟨J2, hJ2⟩ : ∃ J : List Value → List Value → World → Prop, J = (fun us vs w' => us = [.bool (X (M.go a k) (M.go b k))] ∧ AX M w0 w' h R X) := ⟨_, rfl⟩
        refine Jn_in J2 ?_ ?_
        · clear A
          intro us vs w117 hj
          rw [hJ2] at hj
          obtain ⟨rfl, A⟩ := hj
          refine opB_in <| If_in (fun hy => ?_) fun hy => ?_
          · obtain ⟨q1, q2, S2, _⟩ := A.am.set hah hbr true
            refine ⟨(A.am.hO.row enchE).ixn hah A.hl, (A.am.hO.row enchE).ld1 hah (by rw [A.am.row hah]; rfl) <| opL_in ⟨((A.am.fam.own a).row encbE).ix hbr, fun hh => ?_, q1, ?_⟩⟩
            · have e : (adAt (R a).1 (b : Int) 1).block = n1 := by simpa using hh
              omega
            · rw [hJ]
              refine ⟨true, _, setX X a b, rfl, ⟨S2, A.hl, fun x hx => ?_, A.xi.set ha hb hkm D.ok hy⟩, ⟨fun x y hx1 hy1 hxy => ?_, fun _ => ?_, (fun e => by cases e)⟩, (fun e => by cases e), (fun e => by cases e)⟩
              · by_cases e : x = a
                · subst e
                  rw [upd_same]
                  show (R x).2.2.set b true = _
                  rw [hra, rowX_set]
                · rw [upd_ne _ _ e, rowX_ne e]; exact A.rw x hx
              · unfold setX
                split
                · rfl
                · exact I.mono x y hx1 hy1 hxy
              · refine ⟨a, b, ha, hb, ?_, by simp [setX]⟩
                cases h0 : X0 a b with
                | false => rfl
                | true => rw [I.mono a b ha hb h0] at hX; cases hX
          · rw [hJ]
            refine ⟨more1, R, X, rfl, A, I, ho, fun e1 e2 j hj => ?_⟩
            by_cases e : j = k
            · rw [e]; exact hy
            · exact hc e1 e2 j (by omega)
        · have dw : Md [] w89 w89.drew := Md_drew w89
          have md1 := A.am.md.trans dw
          have hgah : M.go a k < h.2.2.length := by rw [A.hl]; omega
          have hgbr : M.go b k < (R (M.go a k)).2.2.length := by rw [A.rw _ hga, rowX_len]; omega
          have hXg : (R (M.go a k)).2.2[M.go b k] = X (M.go a k) (M.go b k) := by
            have : (R (M.go a k)).2.2[M.go b k]? = some (X (M.go a k) (M.go b k)) := by rw [A.rw _ hga]; rw [List.getElem?_eq_getElem (by rw [rowX_len]; omega), rowX_get]
            exact (List.getElem?_eq_some_iff.1 this).2
          refine ⟨fun w' => Md [] w89 w', dw, ?_⟩
          refine Ct.call (f190_ok D (hrow.md md1) ha hkm) (by simpa using Nat.lt_of_lt_of_le hn1 md1.size) fun v w126 hv m126 => ?_
          subst hv
          have m2 := dw.trans m126
          refine opI_in ⟨m2, (A.am.hO.row enchE).ixn hgah A.hl, _, fun w' h' => (((A.md0 h').am.hO).row enchE).ld1 hgah (by rw [A.am.row hgah]; rfl) rfl, opL_in ?_⟩
          refine Ct.call (f190_ok D (hrow.md (A.am.md.trans m2)) hb hkm) (by simpa using Nat.lt_of_lt_of_le hn1 (A.am.md.trans m2).size) fun v w136 hv m136 => ?_
          subst hv
          refine opI_in ⟨m2.trans m136, ((A.am.fam.own (M.go a k)).row encbE).ix hgbr, _, fun w' h' => (((A.md0 h').am.fam.own (M.go a k)).row encbE).ld1 hgbr (by rw [hXg]; rfl) rfl, opB_in ?_⟩
          rw [hJ2]
          exact ⟨rfl, A.md0 (m2.trans m136)⟩
    · have hX : X a b = true := by
        rw [hb108] at hz
        cases h1 : X a b with
        | true => rfl
        | false => rw [h1] at hz; cases hz
      exact K more1 X R w89 A I ho fun e1 e => by rw [← I.same e1, hX] at e; cases e
  · have hkm' : k = M.m := by omega
    refine Bd_f (by simpa using hkm) ⟨(fun e => by cases e), Gd_f ⟨(fun e => by cases e), Gd_f <| Bd_in fun b107 _ => Bd_f rfl <| If_f ?_⟩⟩
    exact K more1 X R w89 A I ho fun e1 e2 j hj => by rw [← I.same e1] at e2 ⊢; exact hc e1 e2 j (by omega)
theorem P189B_ok {w75 : World} {R : Nat → Rw Bool} {X : Nat → Nat → Bool} {J74 : List Value → List Value → World → Prop} {a : Nat} {more : Bool} (D : DmIn M next tags) (hn1 : n1 < w0.heap.size) (hrow : RowAt w0 na 1 i1 next) (ha : a ≤ M.n)
    (A : AX M w0 w75 h R X) (I : RI M X0 X more)
    (K : ∀ more' X' R' w', AX M w0 w' h R' X' → RI M X0 X' more' → (more' = false → more = false) → (more' = false → ∀ y, y ≤ M.n → Clo M X0 a y) → Bd (IntKind.wrap IntKind.i64 ((a : Int) + 1)) fun x143 => J74 [.bool more', .int .i64 x143] [] w') :
    P189B (M.m : Int) na next.length nc ta tags.length tc (M.n : Int) n1 J74 (a : Int) h.1 (M.n + 1) more w75 := by
  have hn2 := D.n2
  unfold P189B
  refine LoopP_in (fun mm us vs w' => ∃ (b : Nat) (more' : Bool) (R : Nat → Rw Bool) (X : Nat → Nat → Bool), us = [.bool more', .int .i64 b] ∧ vs = [] ∧ mm = M.n + 1 - b ∧ b ≤ M.n + 1 ∧ AX M w0 w' h R X ∧ RI M X0 X more' ∧ (more' = false → more = false) ∧ (more' = false → ∀ y, y < b → Clo M X0 a y)) (M.n + 1)
    ⟨0, more, R, X, rfl, rfl, rfl, by omega, A, I, id, fun _ j hj => by omega⟩ ?_
  clear A I
  rintro mm us vs w82 ⟨b, more1, R, X, rfl, rfl, hmm, hb, A, I, ho, hc⟩
  refine opB_in <| opI_in <| Bd_in fun b85 hb85 => If_in (fun hz => ?_) fun hz => ?_
  · have hbn : b ≤ M.n := by
      rw [hb85] at hz
      have : (b : Int) ≤ ((M.n : Nat) : Int) := of_decide_eq_true hz
      omega
    refine P189K_ok D hn1 hrow ha hbn A I fun more' X' R' w' A' I' ho' hc' => Bd_e (inc_i64 (by omega)) ⟨M.n + 1 - (b + 1), by omega, b + 1, more', R', X', rfl, rfl, rfl, by omega, A', I', fun e => ho (ho' e), fun e y hy => ?_⟩
    by_cases e2 : y = b
    · rw [e2]; exact hc' e
    · exact hc (ho' e) y (by omega)
  · have hbn : b = M.n + 1 := by
      have : ¬ (b : Int) ≤ ((M.n : Nat) : Int) := by rw [hb85] at hz; exact of_decide_eq_false hz
      omega
    exact K more1 X R w82 A I ho fun e y hy => hc e y (by omega)
theorem P189A_ok {w70 : World} {R : Nat → Rw Bool} {J69 : List Value → List Value → World → Prop} (D : DmIn M next tags) (hn1 : n1 < w0.heap.size) (hrow : RowAt w0 na 1 i1 next) (A : AX M w0 w70 h R X0)
    (K : ∀ more' X' R' w', AX M w0 w' h R' X' → RI M X0 X' more' → (more' = false → ∀ x y, x ≤ M.n → y ≤ M.n → Clo M X0 x y) → J69 [.bool more'] [] w') :
    P189A (M.m : Int) na next.length nc ta tags.length tc (M.n : Int) n1 J69 h.1 (M.n + 1) w70 := by
  have hn2 := D.n2
  unfold P189A
  refine LoopP_in (fun mm us vs w' => ∃ (a : Nat) (more' : Bool) (R : Nat → Rw Bool) (X : Nat → Nat → Bool), us = [.bool more', .int .i64 a] ∧ vs = [] ∧ mm = M.n + 1 - a ∧ a ≤ M.n + 1 ∧ AX M w0 w' h R X ∧ RI M X0 X more' ∧ (more' = false → ∀ x y, x < a → y ≤ M.n → Clo M X0 x y)) (M.n + 1)
    ⟨0, false, R, X0, rfl, rfl, rfl, by omega, A, ⟨fun _ _ _ _ h => h, (fun e => by cases e), fun _ => rfl⟩, fun _ x y hx => by omega⟩ ?_
  clear A
  rintro mm us vs w75 ⟨a, more1, R, X, rfl, rfl, hmm, ha, A, I, hc⟩
  refine opB_in <| opI_in <| Bd_in fun b85 hb85 => If_in (fun hz => ?_) fun hz => ?_
  · have han : a ≤ M.n := by
      rw [hb85] at hz
      have : (a : Int) ≤ ((M.n : Nat) : Int) := of_decide_eq_true hz
      omega
    refine P189B_ok D hn1 hrow han A I fun more' X' R' w' A' I' ho' hc' => Bd_e (inc_i64 (by omega)) ⟨M.n + 1 - (a + 1), by omega, a + 1, more', R', X', rfl, rfl, rfl, by omega, A', I', fun e x y hx hy => ?_⟩
    by_cases e2 : x = a
    · rw [e2]; exact hc' e y hy
    · exact hc (ho' e) x y (by omega) hy
  · have han : a = M.n + 1 := by
      have : ¬ (a : Int) ≤ ((M.n : Nat) : Int) := by rw [hb85] at hz; exact of_decide_eq_false hz
      omega
    exact K more1 X R w75 A I fun e x y hx hy => hc e x y (by omega) hy
theorem P189W_ok {w21 : World} {R : Nat → Rw Bool} {Q : Value → World → Prop} (D : DmIn M next tags) (hn1 : n1 < w0.heap.size) (hrow : RowAt w0 na 1 i1 next) (A : AX M w0 w21 h R X0)
    (K : ∀ X' R' w', AX M w0 w' h R' X' → (∀ x y, x ≤ M.n → y ≤ M.n → (X' x y = false ↔ M.alike x y)) → Q (.slice h.1 (M.n + 1) h.2.1) w') :
    P189W (M.m : Int) na next.length nc ta tags.length tc (M.n : Int) n1 Q h.1 (M.n + 1) h.2.1 w21 := by
  unfold P189W
  refine LoopP_in (fun mm us vs w' => ∃ (more : Bool) (R : Nat → Rw Bool) (X : Nat → Nat → Bool), us = [.bool more] ∧ vs = [] ∧ mm = (if more = true then cntX M.n X + 1 else 0) ∧ AX M w0 w' h R X ∧ (more = false → ∀ x y, x ≤ M.n → y ≤ M.n → Clo M X x y)) _
    ⟨true, R, X0, rfl, rfl, rfl, A, (fun e => by cases e)⟩ ?_
  clear A
  rintro mm us vs w70 ⟨more, R, X, rfl, rfl, rfl, A, hc⟩
  refine opB_in <| If_in (fun hz => ?_) fun hz => ?_
  · refine P189A_ok D hn1 hrow A fun more' X' R' w' A' I hc' => ⟨_, ?_, more', R', X', rfl, rfl, rfl, A', fun e => by rw [I.same e]; exact hc' e⟩
    rw [if_pos hz]
    cases hm : more' with
    | false => simp
    | true =>
      have := cntX_lt I.mono (I.gain hm)
      simp
      exact this
  · exact K X R w70 A fun x y hx hy => A.xi.fin D.ok (hc hz) hx hy
def neX (M : Mch) (x y : Nat) : Bool := M.tag x != M.tag y
def rowE (M : Mch) (a b : Nat) : List Bool := (List.range (M.n + 1)).map fun y => if y < b then neX M a y else false
theorem rowE_len (M : Mch) (a b : Nat) : (rowE M a b).length = M.n + 1 := by simp [rowE]
theorem rowE_zero (M : Mch) (a : Nat) : rowE M a 0 = offs (M.n + 1) := by
  unfold rowE offs
  have : (fun y : Nat => if y < 0 then neX M a y else false) = fun _ => false := by funext j; simp
  rw [this, List.map_const', List.length_range]
theorem rowE_all (M : Mch) (a : Nat) : rowE M a (M.n + 1) = rowX M.n (neX M) a := by
  unfold rowE rowX
  apply List.map_congr_left
  intro j hj
  rw [if_pos (List.mem_range.1 hj)]
theorem rowE_succ (M : Mch) (a b : Nat) : (rowE M a b).set b (neX M a b) = rowE M a (b + 1) := by
  apply List.ext_getElem?
  intro j
  rw [List.getElem?_set]
  unfold rowE
  rw [List.getElem?_map, List.getElem?_map, List.length_map, List.length_range]
  by_cases h : b = j
  · subst h
    by_cases c : b < M.n + 1
    · simp [c]
    · simp [c]
  · rw [if_neg h]
    by_cases c : j < M.n + 1
    · have : (List.range (M.n + 1))[j]? = some j := by simp [c]
      rw [this]
      simp only [Option.map_some]
      by_cases d : j < b
      · rw [if_pos d, if_pos (by omega)]
      · rw [if_neg d, if_neg (by omega)]
    · have : (List.range (M.n + 1))[j]? = none := by simp; omega
      rw [this]; rfl
theorem neX_xi (M : Mch) : XI M (neX M) := by
  refine ⟨fun a b _ _ hx hal => ?_, fun a b _ _ hx => ?_⟩
  · unfold neX at hx
    rw [alike_tag hal] at hx
    simp at hx
  · unfold neX at hx
    simpa using hx
theorem P189E_ok {w36 : World} {R : Nat → Rw Bool} {J20 : List Value → List Value → World → Prop} {a : Nat} {a15 : Option Addr} {T : List Int} (D : DmIn M next tags) (hn1 : n1 < w0.heap.size) (hT : RowAt w0 a15 1 i1 T) (hTl : T.length = M.n + 1) (hTv : ∀ x (hx : x < T.length), T[x] = M.tag x) (ha : a ≤ M.n) (hl : h.2.2.length = a + 1)
    (S : AM w0 w36 h R) (hr : (R a).2.2 = rowE M a 0) (hr0 : ∀ x, x < a → (R x).2.2 = rowX M.n (neX M) x)
    (K : ∀ R' w', AM w0 w' h R' → (∀ x, x < a + 1 → (R' x).2.2 = rowX M.n (neX M) x) → J20 [.slice h.1 (a + 1) h.2.1, .int .i64 ((a + 1 : Nat) : Int)] [] w') :
    P189E (M.n : Int) n1 J20 (a : Int) a15 (M.n + 1) h.1 (a + 1) h.2.1 w36 := by
  have hn2 := D.n2
  unfold P189E
  refine LoopP_in (fun mm us vs w' => ∃ (b : Nat) (R : Nat → Rw Bool), us = [.int .i64 b] ∧ vs = [] ∧ mm = M.n + 1 - b ∧ b ≤ M.n + 1 ∧ AM w0 w' h R ∧ (R a).2.2 = rowE M a b ∧ ∀ x, x < a → (R x).2.2 = rowX M.n (neX M) x) (M.n + 1)
    ⟨0, R, rfl, rfl, rfl, by omega, S, hr, hr0⟩ ?_
  clear S hr hr0
  rintro mm us vs w43 ⟨b, R, rfl, rfl, hmm, hb, S, hr, hr0⟩
  refine opI_in <| Bd_in fun b85 hb85 => If_in (fun hz => ?_) fun hz => ?_
  · have hbn : b ≤ M.n := by
      rw [hb85] at hz
      have : (b : Int) ≤ ((M.n : Nat) : Int) := of_decide_eq_true hz
      omega
    have hah : a < h.2.2.length := by omega
    have dw : Md [] w43 w43.drew := Md_drew w43
    have S1 := S.md0 dw
    have la : a < T.length := by omega
    have lb : b < T.length := by omega
    have hbr : b < (R a).2.2.length := by rw [hr, rowE_len]; omega
    obtain ⟨q1, q2, S2, _⟩ := S1.set hah hbr (neX M a b)
    refine ⟨fun w' => Md [] w43 w', dw, (S.hO.row enchE).ixn hah hl, hT.ixn la hTl, hT.ixn lb hTl, _, fun w' h' => ((S.md0 h').hO.row enchE).ld1 hah (by rw [S.row hah]; rfl) rfl, opL_in ⟨_, fun w' h' => (hT.md (S.md0 h').md).ld1 la (by rw [hTv a la]; rfl) rfl, opI_in ⟨_, fun w' h' => (hT.md (S.md0 h').md).ld1 lb (by rw [hTv b lb]; rfl) rfl, opI_in <| Bd_e (y := neX M a b) rfl ⟨((S.fam.own a).row encbE).ix hbr, fun hh => ?_, q1, Bd_e (inc_i64 (by omega)) ⟨M.n + 1 - (b + 1), by omega, b + 1, _, rfl, rfl, rfl, by omega, S2, ?_, fun x hx => ?_⟩⟩⟩⟩⟩
    · have e : (adAt (R a).1 (b : Int) 1).block = n1 := by simpa using hh
      omega
    · rw [upd_same]
      show (R a).2.2.set b (neX M a b) = _
      rw [hr, rowE_succ]
    · rw [upd_ne _ _ (by omega)]; exact hr0 x hx
  · have hbn : b = M.n + 1 := by
      have : ¬ (b : Int) ≤ ((M.n : Nat) : Int) := by rw [hb85] at hz; exact of_decide_eq_false hz
      omega
    subst hbn
    refine Bd_e (inc_i64 (by omega)) (K R w43 S fun x hx => ?_)
    by_cases e : x = a
    · rw [e, hr, rowE_all]
    · exact hr0 x (by omega)
theorem P189I_ok {w14 : World} {Q : Value → World → Prop} {a15 : Option Addr} {T : List Int} (D : DmIn M next tags) (hn1 : n1 < w0.heap.size) (hrow : RowAt w0 na 1 i1 next) (hT : RowAt w0 a15 1 i1 T) (hTl : T.length = M.n + 1) (hTv : ∀ x (hx : x < T.length), T[x] = M.tag x) (m14 : Md [] w0 w14)
    (K : ∀ (h : Rw HS3) X' R' w', AX M w0 w' h R' X' → (∀ x y, x ≤ M.n → y ≤ M.n → (X' x y = false ↔ M.alike x y)) → Q (.slice h.1 (M.n + 1) h.2.1) w') :
    P189I (M.m : Int) na next.length nc ta tags.length tc (M.n : Int) n1 Q a15 (M.n + 1) w14 := by
  have hn2 := D.n2
  unfold P189I
  refine LoopP_in (fun mm us vs w' => ∃ (a : Nat) (h : Rw HS3) (R : Nat → Rw Bool), us = [.slice h.1 a h.2.1, .int .i64 a] ∧ vs = [] ∧ mm = M.n + 1 - a ∧ a ≤ M.n + 1 ∧ h.2.2.length = a ∧ AM w0 w' h R ∧ ∀ x, x < a → (R x).2.2 = rowX M.n (neX M) x) (M.n + 1)
    ⟨0, (none, 0, []), fun _ => (none, 0, []), rfl, rfl, rfl, by omega, rfl, ⟨m14, OwnL.nil _ _ _ _ _, Fam.none _ _ _ _, fun a ha => by simp at ha⟩, fun x hx => by omega⟩ ?_
  rintro mm us vs w21 ⟨a, h, R, rfl, rfl, hmm, ha, hl, S, hr0⟩
  refine opL_in <| opI_in <| Bd_in fun b85 hb85 => If_in (fun hz => ?_) fun hz => ?_
  · have han : a ≤ M.n := by
      rw [hb85] at hz
      have : (a : Int) ≤ ((M.n : Nat) : Int) := of_decide_eq_true hz
      omega
    obtain ⟨w29, hrun, ho, hm⟩ := made4 (M.n + 1) w21 (by omega)
    have hsz := S.md.size
    have S1 := S.md0 hm
    have F1 : Fam w29 w0.heap.size 4 bE (upd R a (some ⟨w21.heap.size, 0, none⟩, M.n + 1, offs (M.n + 1))) := S.fam.upd (hm.mono (by simp)) (ho.down hsz) fun A hA => .inr (by injection hA with hA; rw [← hA]; exact Nat.le_refl _)
    have hL1 : ∀ d ∈ [n1], d < w29.heap.size := fun d hd => by
      have e : d = n1 := by simpa using hd
      rw [e]; have := S1.md.size; omega
    refine Bd_e (inc_i64 (by omega)) <| RunW_in hrun (fun d hd => hm.blk d ?_ (by simp)) <| opL_in ?_
    · have e : d = n1 := by simpa using hd
      rw [e]; omega
    · rw [← hl]
      refine app_one rowT219 enchE ((some ⟨w21.heap.size, 0, none⟩, M.n + 1, M.n + 1) : HS3) rfl S1.hO S1.md.size hL1 (fun d hd A hA e => ?_) (by simp [maxLen]; omega) (by omega) fun a' c' w5 o5 m5 nA => opL_in ?_
      · have e' : d = n1 := by simpa using hd
        have := (S1.hO.lt hA).1
        omega
      · have hlen : (h.2.2 ++ [((some ⟨w21.heap.size, 0, none⟩, M.n + 1, M.n + 1) : HS3)]).length = a + 1 := by simp [hl]
        rw [hlen, hl]
        refine P189E_ok (h := (a', c', h.2.2 ++ [((some ⟨w21.heap.size, 0, none⟩, M.n + 1, M.n + 1) : HS3)])) (R := upd R a (some ⟨w21.heap.size, 0, none⟩, M.n + 1, offs (M.n + 1))) D hn1 hT hTl hTv han hlen ⟨S1.md.old m5 fun d hd => ?_, o5, F1.keep m5 fun l A hA hd => ?_, fun x hx => ?_⟩ ?_ (fun x hx => ?_) fun R' w' S' hr' => ⟨M.n + 1 - (a + 1), by omega, a + 1, _, R', rfl, rfl, rfl, by omega, hlen, S', hr'⟩
        · obtain ⟨A, hA, rfl⟩ := blkO_mem hd
          exact (S1.hO.lt hA).1
        · obtain ⟨B, hB, e⟩ := blkO_mem hd
          exact own_apt2 (F1.own l) S1.hO (by decide) A B hA hB e.symm
        · have hx' : x < (h.2.2 ++ [((some ⟨w21.heap.size, 0, none⟩, M.n + 1, M.n + 1) : HS3)]).length := hx
          show (h.2.2 ++ [((some ⟨w21.heap.size, 0, none⟩, M.n + 1, M.n + 1) : HS3)])[x]? = _
          by_cases e : x = a
          · subst e
            rw [List.getElem?_append_right (by omega), upd_same]
            simp [hl, hdr, offs]
          · rw [List.getElem?_append_left (by omega), upd_ne _ _ e]
            exact S.hd x (by omega)
        · rw [upd_same, rowE_zero]
        · rw [upd_ne _ _ (by omega)]; exact hr0 x hx
  · have han : a = M.n + 1 := by
      have : ¬ (a : Int) ≤ ((M.n : Nat) : Int) := by rw [hb85] at hz; exact of_decide_eq_false hz
      omega
    subst han
    exact P189W_ok D hn1 hrow ⟨S, hl, fun x hx => hr0 x (by omega), neX_xi M⟩ (K h)
end
structure AP (M : Mch) (w : World) (a : Option Addr) : Prop where
  mem : ∃ H : List HS3, H.length = M.n + 1 ∧ RowAt w a 1 hE H ∧ ∀ (x : Nat) (q : HS3), H[x]? = some q → q.2.1 = M.n + 1 ∧ RowAt w q.1 1 bE ((List.range (M.n + 1)).map fun y => !al M x y)
theorem AP.md {M : Mch} {w w' : World} {a : Option Addr} (h : AP M w a) (hm : Md [] w w') : AP M w' a := by
  obtain ⟨H, h1, h2, h3⟩ := h.mem
  exact ⟨H, h1, h2.md hm, fun x q hq => ⟨(h3 x q hq).1, (h3 x q hq).2.md hm⟩⟩
theorem f189_Q {M : Mch} {next tags : List Int} {na ta : Option Addr} {nc tc : Nat} {w : World} {Q : Value → World → Prop} (D : DmIn M next tags) (hrow : RowAt w na 1 i1 next) (hrow2 : RowAt w ta 1 i1 tags) (hta : ta.isSome = true)
    (K : ∀ (a : Option Addr) (c : Nat) w', AP M w' a → Md [] w w' → Q (.slice a (M.n + 1) c) w') : f189_vc (M.m : Int) na next.length nc ta tags.length tc Q w := by
  have hn2 := D.n2
  have htl := D.tl
  intro n1 hn1
  refine Bd_e (by rw [D.tl]) ?_
  intro w3 m3 hL3
  have hn13 : n1 < w3.heap.size := hL3 n1 (by simp)
  intro n4 w5 e4 e5
  subst e4; subst e5
  have ma : Md [] w3 (w3.alloc (.cells #[] 3)) := Md.alloc (M := []) _ _
  have h0 : OwnL (w3.alloc (.cells #[] 3)) w3.heap.size 3 1 i1 (some ⟨w3.heap.size, 0, none⟩) 0 ([] : List Int) := OwnL.lit (P := Try.prog) enci1 _ _ [] #[] (Nat.le_refl _) (by simp [maxLen]) rfl
  have r2 := hrow2.md (m3.trans ma)
  refine appR rowT52 enci1 rfl h0 r2 hta ma.size (fun d hd => ?_) (fun d hd A hA e => ?_) (by simp [maxLen]; omega) (by simp; omega) fun a' c' w7 o7 m7 hA7 => ?_
  · have e : d = n1 := by simpa using hd
    rw [e]; exact Nat.lt_of_lt_of_le hn13 ma.size
  · have e' : d = n1 := by simpa using hd
    injection hA with hA
    rw [← hA] at e
    have : w3.heap.size = d := e
    omega
  · rw [List.nil_append] at o7 ⊢
    have m7' : Md [] w3 w7 := ma.old m7 fun d hd => by
      obtain ⟨A, hA, e⟩ := blkO_mem hd
      injection hA with hA
      rw [← e, ← hA]
      exact Nat.le_refl _
    refine opL_in ?_
    refine app_one rowT52 enci1 (-1) rfl o7 m7'.size (fun d hd => ?_) (fun d hd A hA e => ?_) (by simp [maxLen]; omega) (by omega) fun a2 c2 w14 o14 m14 hA14 => opL_in ?_
    · have e : d = n1 := by simpa using hd
      rw [e]; have := m7'.size; omega
    · have e' : d = n1 := by simpa using hd
      have := (o7.lt hA).1
      omega
    · have m14' : Md [] w3 w14 := m7'.old m14 fun d hd => by
        obtain ⟨A, hA, e⟩ := blkO_mem hd
        rw [← e]; exact (o7.lt hA).1
      have mw : Md [] w w14 := m3.trans m14'
      have hTl : (tags ++ [(-1 : Int)]).length = M.n + 1 := by simp [htl]
      rw [hTl]
      refine P189I_ok (w0 := w14) (T := tags ++ [-1]) D (by have := m14'.size; omega) (hrow.md mw) (o14.row enci1) hTl (fun x hx => ?_) (Md.refl _ _) fun h X' R' w' A' hX => K _ _ _ ⟨h.2.2, A'.hl, A'.am.hO.row enchE, fun x q hq => ?_⟩ (mw.trans A'.am.md)
      · by_cases hxn : x < tags.length
        · rw [List.getElem_append_left hxn, D.tg1 x hxn]
        · have e : x = M.n := by omega
          subst e
          rw [List.getElem_append_right (by omega), D.tg2]
          simp
      · have hxl := (List.getElem?_eq_some_iff.1 hq).1
        have hxn : x ≤ M.n := by have := A'.hl; omega
        rw [A'.am.hd x hxl] at hq
        injection hq with hq
        have hr := A'.rw x hxn
        rw [← hq]
        refine ⟨by show (R' x).2.2.length = _; rw [hr, rowX_len], ?_⟩
        have e : (List.range (M.n + 1)).map (fun y => !al M x y) = (R' x).2.2 := by
          rw [hr]
          unfold rowX
          apply List.map_congr_left
          intro y hy
          have hyn : y ≤ M.n := by have := List.mem_range.1 hy; omega
          have h1 := hX x y hxn hyn
          rw [← al_iff] at h1
          cases hx1 : X' x y with
          | false => rw [h1.1 hx1]; rfl
          | true =>
            cases hx2 : al M x y with
            | false => rfl
            | true => rw [h1.2 hx2] at hx1; cases hx1
        rw [e]
        exact (A'.am.fam.own x).row encbE
theorem f189_ok {M : Mch} {next tags : List Int} {na ta : Option Addr} {nc tc : Nat} {w : World} (D : DmIn M next tags) (hrow : RowAt w na 1 i1 next) (hrow2 : RowAt w ta 1 i1 tags) :
    Ct Try.prog 189 #[.agg #[.int .i64 M.m, .slice na next.length nc, .slice ta tags.length tc]] w fun v w' => (∃ (a : Option Addr) (c : Nat), v = .slice a (M.n + 1) c ∧ AP M w' a) ∧ Md [] w w' := by
  have hta : ta.isSome = true := by
    have h1 := D.n1
    have h2 := D.tl
    obtain ⟨A, hA, _⟩ := hrow2 0 _ (List.getElem?_eq_getElem (by omega : 0 < tags.length))
    rw [hA]; rfl
  apply f189_in
  exact f189_Q D hrow hrow2 hta fun a c w' h1 h2 => ⟨⟨a, c, rfl, h1⟩, h2⟩
end Fk
