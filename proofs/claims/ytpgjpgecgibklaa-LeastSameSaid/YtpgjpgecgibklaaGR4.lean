/- Contracts of functions, and plain laws: several texts, joined. -/
import Derived.Test.YtpgjpgecgibklaaGR3
import Derived.Test.YtpgjpgecgibklaaGK2
import Derived.Test.YtpgjpgecgibklaaGR0
import Derived.Lib.SliceRun
import Derived.Test.YtpgjpgecgibklaaGR1
import Derived.Laws.Strings2
import Derived.Test.YtpgjpgecgibklaaGV0
set_option linter.unusedVariables false
set_option linter.unusedSimpArgs false
set_option linter.unusedSectionVars false
set_option maxRecDepth 100000
set_option maxHeartbeats 1000000
namespace Fk
open Go Go.Proofs Go.RowKit
def P92I (J43 : List Value → List Value → World → Prop) (n1 : Nat) (n2 : Nat) (n39 : Nat) (n27 : Nat) (a11 : Option Addr) (x26 : Int) (x48 : Int) (x60 : Int) (a45 : Option Addr) (n46 : Nat) (n47 : Nat) (x65 : Int) (a66 : Option Addr) (n67 : Nat) (n68 : Nat) (a69 : Option Addr) (n70 : Nat) (n71 : Nat) (a78 : Option Addr) (n79 : Nat) (x81 : Int) (w63 : World) : Prop :=
  LoopP (fun l82 l83 J84 w85 => opL (nthD l82 (0 : Nat)) fun a86 n87 n88 => opI IntKind.i64 (nthD l82 (1 : Nat)) fun x89 => opAg (nthD l83 (0 : Nat)) fun cs90 => opI IntKind.i64 (nthD (Array.toList cs90) (0 : Nat)) fun x91 => opL (nthD (Array.toList cs90) (1 : Nat)) fun a92 n93 n94 => opL (nthD (Array.toList cs90) (2 : Nat)) fun a95 n96 n97 => SzIs (Array.size cs90) (3 : Nat) (Bd (decide (x89 < x81)) fun b98 => If b98 (Jn (fun l99 l100 w101 => opL (nthD l99 (0 : Nat)) fun a102 n103 n104 => opAg (nthD l100 (0 : Nat)) fun cs105 => opI IntKind.i64 (nthD (Array.toList cs105) (0 : Nat)) fun x106 => opL (nthD (Array.toList cs105) (1 : Nat)) fun a107 n108 n109 => opL (nthD (Array.toList cs105) (2 : Nat)) fun a110 n111 n112 => SzIs (Array.size cs105) (3 : Nat) (Bd (IntKind.wrap IntKind.i64 (x89 + (1 : Int))) fun x113 => J84 [Value.slice a102 n103 n104, Value.int IntKind.i64 x113] [Value.agg #[Value.int IntKind.i64 x106, Value.slice a107 n108 n109, Value.slice a110 n111 n112]] w101)) fun J114 => IxOk x89 n79 a78 ∧ Ld w85 (adAt a78 x89 (1 : Nat)) fun v115 => opI IntKind.i64 v115 fun x116 => NN a11 fun A117 => Ld w85 (Addr.add A117 (4 : Nat)) fun v118 => opL v118 fun a119 n120 n121 => IxOk x116 n120 a119 ∧ Ld w85 (adAt a119 x116 (1 : Nat)) fun v122 => opI IntKind.i64 v122 fun x123 => Bd (x123 == x26) fun b124 => If b124 (Nw (Obj.cells #[Value.int IntKind.i64 (-1 : Int)] (3 : Nat)) w85 fun n125 w126 => RunW Try.prog [n39, n2, n1] (Builtin.append_ #[(52 : Nat), (52 : Nat)] (52 : Nat) #[Value.slice a92 n93 n94, Value.slice (some { block := n125, off := (0 : Nat) }) (1 : Nat) (1 : Nat)]) (fun v127 w128 => opL v127 fun a129 n130 n131 => Up [n39] [n39, n2, n1] w128 fun w132 => J114 [Value.slice a86 n87 n88] [Value.agg #[Value.int IntKind.i64 x91, Value.slice a129 n130 n131, Value.slice a95 n96 n97]] w132) w126) (NN a11 fun A133 => Ld w85 (Addr.add A133 (4 : Nat)) fun v134 => opL v134 fun a135 n136 n137 => IxOk x116 n136 a135 ∧ Ld w85 (adAt a135 x116 (1 : Nat)) fun v138 => opI IntKind.i64 v138 fun x139 => RunW Try.prog [n39, n2, n1] (Instr.lookup (248 : Nat) (Value.map (some n27)) (Value.int IntKind.i64 x139) true) (fun v140 w141 => opTu v140 fun cs142 => opI IntKind.i64 (nthD (Array.toList cs142) (0 : Nat)) fun x143 => opB (nthD (Array.toList cs142) (1 : Nat)) fun b144 => SzIs (Array.size cs142) (2 : Nat) (Jn (fun l145 l146 w147 => opI IntKind.i64 (nthD l145 (0 : Nat)) fun x148 => opL (nthD l145 (1 : Nat)) fun a149 n150 n151 => Nw (Obj.cells #[Value.int IntKind.i64 x148] (3 : Nat)) w147 fun n152 w153 => RunW Try.prog [n39, n2, n1] (Builtin.append_ #[(52 : Nat), (52 : Nat)] (52 : Nat) #[Value.slice a92 n93 n94, Value.slice (some { block := n152, off := (0 : Nat) }) (1 : Nat) (1 : Nat)]) (fun v154 w155 => opL v154 fun a156 n157 n158 => Up [n39] [n39, n2, n1] w155 fun w159 => J114 [Value.slice a149 n150 n151] [Value.agg #[Value.int IntKind.i64 x91, Value.slice a156 n157 n158, Value.slice a95 n96 n97]] w159) w153) fun J160 => Bd (!b144) fun b161 => If b161 (Bd ↑n87 fun x162 => NN a11 fun A163 => Ld w141 (Addr.add A163 (4 : Nat)) fun v164 => opL v164 fun a165 n166 n167 => IxOk x116 n166 a165 ∧ Ld w141 (adAt a165 x116 (1 : Nat)) fun v168 => opI IntKind.i64 v168 fun x169 => RunU Try.prog [n39, n2, n1] (Instr.mapUpdate (248 : Nat) (Value.map (some n27)) (Value.int IntKind.i64 x169) (Value.int IntKind.i64 x162)) (fun w170 => Nw (Obj.cells #[Value.int IntKind.i64 x116] (3 : Nat)) w170 fun n171 w172 => RunW Try.prog [n39, n2, n1] (Builtin.append_ #[(52 : Nat), (52 : Nat)] (52 : Nat) #[Value.slice a86 n87 n88, Value.slice (some { block := n171, off := (0 : Nat) }) (1 : Nat) (1 : Nat)]) (fun v173 w174 => opL v173 fun a175 n176 n177 => J160 [Value.int IntKind.i64 x162, Value.slice a175 n176 n177] [] w174) w172) w141) (J160 [Value.int IntKind.i64 x143, Value.slice a86 n87 n88] [] w141))) w85)) (Bd (IntKind.wrap IntKind.i64 (x48 + (1 : Int))) fun x178 => J43 [Value.slice a86 n87 n88, Value.int IntKind.i64 x178] [Value.agg #[Value.int IntKind.i64 x91, Value.slice a92 n93 n94, Value.slice a95 n96 n97]] w85))) [Value.slice a45 n46 n47, Value.int IntKind.i64 (0 : Int)] [Value.agg #[Value.int IntKind.i64 x65, Value.slice a66 n67 n68, Value.slice a69 n70 n71]] w63
def P92B (J43 : List Value → List Value → World → Prop) (n1 : Nat) (n2 : Nat) (n39 : Nat) (n27 : Nat) (a11 : Option Addr) (x26 : Int) (x48 : Int) (a45 : Option Addr) (n46 : Nat) (n47 : Nat) (x50 : Int) (a51 : Option Addr) (n52 : Nat) (n53 : Nat) (a54 : Option Addr) (n55 : Nat) (n56 : Nat) (p0_2a : Option Addr) (p0_2n : Nat) (w44 : World) : Prop :=
  IxOk x48 n46 a45 ∧ Ld w44 (adAt a45 x48 (1 : Nat)) fun v59 => opI IntKind.i64 v59 fun x60 => Jn (fun l61 l62 w63 => opAg (nthD l62 (0 : Nat)) fun cs64 => opI IntKind.i64 (nthD (Array.toList cs64) (0 : Nat)) fun x65 => opL (nthD (Array.toList cs64) (1 : Nat)) fun a66 n67 n68 => opL (nthD (Array.toList cs64) (2 : Nat)) fun a69 n70 n71 => SzIs (Array.size cs64) (3 : Nat) (NN a11 fun A72 => Ld w63 (Addr.add A72 (1 : Nat)) fun v73 => opL v73 fun a74 n75 n76 => IxOk x60 n75 a74 ∧ Ld w63 (adAt a74 x60 (1 : Nat)) fun v77 => opL v77 fun a78 n79 n80 => Bd ↑n79 fun x81 => (P92I J43 n1 n2 n39 n27 a11 x26 x48 x60 a45 n46 n47 x65 a66 n67 n68 a69 n70 n71 a78 n79 x81 w63))) fun J179 => Dr (World.drew w44) fun J180 => IxOk x60 p0_2n p0_2a ∧ ∃ v181, (∀ (w182 : World), J180 w182 → Ld w182 (adAt p0_2a x60 (1 : Nat)) fun v184 => v184 = v181) ∧ opI IntKind.i64 v181 fun x185 => (J180 (World.drew w44) ∧ Nw (Obj.cells #[Value.int IntKind.i64 x185] (3 : Nat)) (World.drew w44) fun n186 w187 => J180 w187 ∧ RunW Try.prog [n39, n2, n1] (Builtin.append_ #[(52 : Nat), (52 : Nat)] (52 : Nat) #[Value.slice a54 n55 n56, Value.slice (some { block := n186, off := (0 : Nat) }) (1 : Nat) (1 : Nat)]) (fun v188 w189 => opL v188 fun a190 n191 n192 => J180 w189 ∧ Up [n39] [n39, n2, n1] w189 fun w193 => J179 [] [Value.agg #[Value.int IntKind.i64 x50, Value.slice a51 n52 n53, Value.slice a190 n191 n192]] w193) w187) ∧ Nw (Obj.cells #[Value.int IntKind.i64 x185] (3 : Nat)) (World.drew w44) fun n194 w195 => J180 w195 ∧ J180 w195 ∧ RunW Try.prog [n39, n2, n1] (Builtin.append_ #[(52 : Nat), (52 : Nat)] (52 : Nat) #[Value.slice a54 n55 n56, Value.slice (some { block := n194, off := (0 : Nat) }) (1 : Nat) (1 : Nat)]) (fun v196 w197 => opL v196 fun a198 n199 n200 => J180 w197 ∧ Up [n39] [n39, n2, n1] w197 fun w201 => J179 [] [Value.agg #[Value.int IntKind.i64 x50, Value.slice a51 n52 n53, Value.slice a198 n199 n200]] w201) w195
def P92O (R : Value → World → Prop) (n1 : Nat) (n2 : Nat) (n27 : Nat) (n37 : Nat) (n39 : Nat) (a11 : Option Addr) (x26 : Int) (p0_0 : Int) (p0_2a : Option Addr) (p0_2n : Nat) (w40 : World) : Prop :=
  LoopP (fun l41 l42 J43 w44 => opL (nthD l41 (0 : Nat)) fun a45 n46 n47 => opI IntKind.i64 (nthD l41 (1 : Nat)) fun x48 => opAg (nthD l42 (0 : Nat)) fun cs49 => opI IntKind.i64 (nthD (Array.toList cs49) (0 : Nat)) fun x50 => opL (nthD (Array.toList cs49) (1 : Nat)) fun a51 n52 n53 => opL (nthD (Array.toList cs49) (2 : Nat)) fun a54 n55 n56 => SzIs (Array.size cs49) (3 : Nat) (Bd ↑n46 fun x57 => Bd (decide (x48 < x57)) fun b58 => If b58 (P92B J43 n1 n2 n39 n27 a11 x26 x48 a45 n46 n47 x50 a51 n52 n53 a54 n55 n56 p0_2a p0_2n w44) (Up [n2] [n39, n2, n1] w44 fun w202 => R (Value.tuple #[Value.agg #[Value.int IntKind.i64 x50, Value.slice a51 n52 n53, Value.slice a54 n55 n56], Value.int IntKind.i64 (0 : Int)]) w202))) [Value.slice (some { block := n37, off := (0 : Nat) }) (1 : Nat) (1 : Nat), Value.int IntKind.i64 (0 : Int)] [Value.agg #[Value.int IntKind.i64 p0_0, Value.slice none (0 : Nat) (0 : Nat), Value.slice none (0 : Nat) (0 : Nat)]] w40
def numL (at' : List Int) (l : List Nat) : List (Int × Int) := l.zipIdx.map fun p => (at'.getD p.1 0, (p.2 : Int))
theorem numL_snoc (at' : List Int) (l : List Nat) (t : Nat) : numL at' (l ++ [t]) = numL at' l ++ [(at'.getD t 0, (l.length : Int))] := by
  unfold numL
  rw [List.zipIdx_append]
  simp
theorem numL_keys (at' : List Int) (l : List Nat) : (numL at' l).map (·.1) = l.map fun x => at'.getD x 0 := by
  unfold numL
  rw [List.map_map]
  have : ((fun x : Int × Int => x.1) ∘ fun p : Nat × Nat => (at'.getD p.1 0, (p.2 : Int))) = (fun x => at'.getD x 0) ∘ Prod.fst := rfl
  rw [this, ← List.map_map, List.zipIdx_map_fst]
section
variable {M : Mch} {w : World} {n : Nat} {at' : List Int}
theorem PD.key (P : PD M w n at') {x y : Nat} (hx : x ≤ M.n) (hy : y ≤ M.n) : at'.getD x 0 = at'.getD y 0 ↔ M.alike x y := by
  rw [← P.iff x y hx hy]
  have h1 : x < at'.length := by have := P.al; omega
  have h2 : y < at'.length := by have := P.al; omega
  rw [List.getD_eq_getElem?_getD, List.getD_eq_getElem?_getD, List.getElem?_eq_getElem h1, List.getElem?_eq_getElem h2, Option.getD_some, Option.getD_some, Option.some.injEq]
theorem PD.find (P : PD M w n at') {l : List Nat} (hl : ∀ x ∈ l, x ≤ M.n) (pw : ∀ (i j x y : Nat), l[i]? = some x → l[j]? = some y → M.alike x y → i = j) {t : Nat} (ht : t ≤ M.n) :
    findI (at'.getD t 0) (numL at' l) 0 = if lsAt M l t < l.length then some (lsAt M l t, (lsAt M l t : Int)) else none := by
  by_cases c : lsAt M l t < l.length
  · rw [if_pos c]
    obtain ⟨x, hx, ha⟩ := lsAt_get c
    have hxm := List.mem_of_getElem? hx
    have hk : at'.getD t 0 ∈ (numL at' l).map (·.1) := by
      rw [numL_keys]
      exact List.mem_map.2 ⟨x, hxm, (P.key (hl x hxm) ht).2 ha⟩
    obtain ⟨⟨i, v⟩, hf⟩ : ∃ p, findI (at'.getD t 0) (numL at' l) 0 = some p := Option.isSome_iff_exists.1 (findI_key.2 hk)
    rw [hf]
    have h2 := (findI_at hf).2
    rw [Nat.sub_zero] at h2
    unfold numL at h2
    rw [List.getElem?_map, List.getElem?_zipIdx] at h2
    cases hT : l[i]? with
    | none => rw [hT] at h2; simp at h2
    | some y =>
      rw [hT] at h2
      simp only [Option.map_some, Option.some.injEq, Prod.mk.injEq] at h2
      obtain ⟨h3, h4⟩ := h2
      have hy := hl y (List.mem_of_getElem? hT)
      have := pw (lsAt M l t) i x y hx hT (alike_trans ha (alike_symm ((P.key hy ht).1 h3)))
      subst this
      rw [← h4]
      simp
  · rw [if_neg c]
    obtain ⟨_, hno⟩ := lsAt_none c
    refine findI_none ?_
    rw [numL_keys]
    intro hm
    obtain ⟨x, hx, e⟩ := List.mem_map.1 hm
    exact hno x hx ((P.key (hl x hx) ht).1 e)
end
inductive L3 where
  | f : L3
  | n : L3
  | t : L3
  deriving DecidableEq
def slE (r : Rw Int) : Value := .slice r.1 r.2.2.length r.2.1
structure LM (wb w : World) (n39 n27 : Nat) (nl : List (Int × Int)) (R : L3 → Rw Int) : Prop where
  md : Md [] wb w
  fam : Fam w wb.heap.size 3 i1 R
  ne : ∀ l A, (R l).1 = some A → A.block ≠ n39
  lt : n39 < w.heap.size
  bl : wb.heap.size ≤ n39
  mO : MapAt w n27 vI vI nl
  ml : wb.heap.size ≤ n27
  mn : n27 ≠ n39
structure LC (R : L3 → Rw Int) (p : List Nat × List Int) (tg : List Int) : Prop where
  cf : (R .f).2.2 = p.1.map fun x : Nat => (x : Int)
  cn : (R .n).2.2 = p.2
  ct : (R .t).2.2 = tg
section
variable {wb w w' : World} {n39 n27 n1 n2 : Nat} {nl : List (Int × Int)} {R : L3 → Rw Int}
theorem LM.md0 (S : LM wb w n39 n27 nl R) (hm : Md [] w w') : LM wb w' n39 n27 nl R :=
  ⟨S.md.trans hm, S.fam.md0 hm, S.ne, Nat.lt_of_lt_of_le S.lt hm.size, S.bl, S.mO.md hm (by simp), S.ml, S.mn⟩
theorem LM.up (S : LM wb w n39 n27 nl R) (hm : Md [n39] w w') : LM wb w' n39 n27 nl R :=
  ⟨S.md.old hm (by simpa using S.bl), S.fam.keep hm (fun l A hA => by simpa using S.ne l A hA), S.ne, Nat.lt_of_lt_of_le S.lt hm.size, S.bl, S.mO.md hm (by simpa using S.mn), S.ml, S.mn⟩
theorem LM.app (S : LM wb w n39 n27 nl R) (hn1 : n1 < wb.heap.size) (hn2 : n2 < wb.heap.size) (l : L3) (x : Int) (hl : (R l).2.2.length < 2 ^ 30) {K : Value → World → Prop}
    (k : ∀ (a' : Option Addr) (c' : Nat) (w' : World), LM wb w' n39 n27 nl (upd R l (a', c', (R l).2.2 ++ [x])) → Md (blkO (R l).1) w w' → K (slE (a', c', (R l).2.2 ++ [x])) w') :
    Nw (.cells #[.int .i64 x] 3) w fun b w' => RunW Try.prog [n39, n2, n1] (Builtin.append_ #[52, 52] 52 #[.slice (R l).1 (R l).2.2.length (R l).2.1, .slice (some { block := b, off := 0 }) 1 1]) K w' := by
  have hsz := S.md.size
  refine app_one rowT52 enci1 x rfl (S.fam.own l) S.md.size (fun d hd => ?_) (fun d hd A hA e => ?_) (by simp [maxLen]; omega) (by omega) fun a' c' w' o' m' hA => ?_
  · simp only [List.mem_cons, List.not_mem_nil, or_false] at hd
    have := S.lt
    rcases hd with rfl | rfl | rfl <;> omega
  · have h1 := ((S.fam.own l).lt hA).1
    have h2 := S.ne l A hA
    simp only [List.mem_cons, List.not_mem_nil, or_false] at hd
    rcases hd with rfl | rfl | rfl <;> omega
  · have mk := MK.md m' (own_cells (S.fam.own l))
    refine k a' c' w' ⟨S.md.old m' fun d hd => ?_, S.fam.upd m' o' hA, fun l' A hA' => ?_, Nat.lt_of_lt_of_le S.lt m'.size, S.bl, mk.at S.mO, S.ml, S.mn⟩ m'
    · obtain ⟨A, hA', rfl⟩ := blkO_mem hd; exact ((S.fam.own l).lt hA').1
    · by_cases e : l' = l
      · subst e
        rw [upd_same] at hA'
        rcases hA A hA' with h | h
        · exact S.ne l' A h
        · have := S.lt; omega
      · rw [upd_ne _ _ e] at hA'
        exact S.ne l' A hA'
theorem LM.mapW (S : LM wb w n39 n27 nl R) {l' : List (Int × Int)} (hm : Md [n27] w w') (h : MapAt w' n27 vI vI l') : LM wb w' n39 n27 l' R :=
  ⟨S.md.old hm (by simpa using S.ml), S.fam.keep hm (fun l A hA hd => own_nmap (S.fam.own l) S.mO A hA (by simpa using hd)), S.ne, Nat.lt_of_lt_of_le S.lt hm.size, S.bl, h, S.ml, S.mn⟩
theorem LC.appN {p : List Nat × List Int} {tg : List Int} (C : LC R p tg) (a : Option Addr) (c : Nat) (v : Int) : LC (upd R .n (a, c, (R .n).2.2 ++ [v])) (p.1, p.2 ++ [v]) tg := by
  refine ⟨?_, ?_, ?_⟩
  · rw [upd_ne _ _ (by simp)]; exact C.cf
  · rw [upd_same]; show (R .n).2.2 ++ [v] = _; rw [C.cn]
  · rw [upd_ne _ _ (by simp)]; exact C.ct
theorem LC.appF {p : List Nat × List Int} {tg : List Int} (C : LC R p tg) (a : Option Addr) (c : Nat) (t : Nat) : LC (upd R .f (a, c, (R .f).2.2 ++ [(t : Int)])) (p.1 ++ [t], p.2) tg := by
  refine ⟨?_, ?_, ?_⟩
  · rw [upd_same]; show (R .f).2.2 ++ [(t : Int)] = _; rw [C.cf]; simp
  · rw [upd_ne _ _ (by simp)]; exact C.cn
  · rw [upd_ne _ _ (by simp)]; exact C.ct
theorem LC.appT {p : List Nat × List Int} {tg : List Int} (C : LC R p tg) (a : Option Addr) (c : Nat) (v : Int) : LC (upd R .t (a, c, (R .t).2.2 ++ [v])) p (tg ++ [v]) := by
  refine ⟨?_, ?_, ?_⟩
  · rw [upd_ne _ _ (by simp)]; exact C.cf
  · rw [upd_ne _ _ (by simp)]; exact C.cn
  · rw [upd_same]; show (R .t).2.2 ++ [v] = _; rw [C.ct]
end
section
variable {wb : World} {n39 n27 n1 n2 n : Nat} {M : Mch} {at' : List Int} {next tags : List Int} {J43 : List Value → List Value → World → Prop} {i s : Nat} {p : List Nat × List Int} {tg : List Int} {x50 : Int}
theorem P92I_ok {w63 : World} {R : L3 → Rw Int} {a78 : Option Addr} {x60 x26 : Int} (D : DmIn M next tags) (P : PD M wb n at') (hn1 : n1 < wb.heap.size) (hn2 : n2 < wb.heap.size) (hp : LI M p (i * M.m)) (hs : p.1[i]? = some s) (hrow : RowAt wb a78 1 i1 (rowI M s)) (hx26 : x26 = at'.getD M.n 0)
    (S : LM wb w63 n39 n27 (numL at' p.1) R) (C : LC R p tg)
    (K : ∀ R' w', LM wb w' n39 n27 (numL at' (lsRow M s p M.m).1) R' → LC R' (lsRow M s p M.m) tg → J43 [slE (R' .f), .int .i64 ((i + 1 : Nat) : Int)] [.agg #[.int .i64 x50, slE (R' .n), slE (R' .t)]] w') :
    P92I J43 n1 n2 n39 n27 (some ⟨n, 0, none⟩) x26 (i : Int) x60 (R .f).1 (R .f).2.2.length (R .f).2.1 x50 (R .n).1 (R .n).2.2.length (R .n).2.1 (R .t).1 (R .t).2.2.length (R .t).2.1 a78 M.m (M.m : Int) w63 := by
  have hm2 := D.m2
  have hnn2 := D.n2
  have hpb := hp.bound
  have hil : i < p.1.length := (List.getElem?_eq_some_iff.1 hs).1
  have hsl : s < M.n := hp.lt s (List.mem_of_getElem? hs)
  have hal := P.al
  have himb : i * M.m ≤ 2 ^ 12 * 256 := Nat.mul_le_mul (by omega) hm2
  unfold P92I
  refine LoopP_in (fun mm us vs w' => ∃ (k : Nat) (R : L3 → Rw Int), us = [slE (R .f), .int .i64 k] ∧ vs = [.agg #[.int .i64 x50, slE (R .n), slE (R .t)]] ∧ mm = M.m - k ∧ k ≤ M.m ∧ LM wb w' n39 n27 (numL at' (lsRow M s p k).1) R ∧ LC R (lsRow M s p k) tg) M.m
    ⟨0, R, rfl, rfl, rfl, by omega, S, C⟩ ?_
  clear S C
  rintro mm us vs w85 ⟨k, R, rfl, rfl, hmm, hk, S, C⟩
  refine opL_in <| opI_in <| opAg_in <| opI_in <| opL_in <| opL_in <| SzIs_in rfl <| Bd_in fun b98 hb98 => If_in (fun hb => ?_) fun hb => ?_
  · have hkm : k < M.m := by
      rw [hb98] at hb
      have : (k : Int) < ((M.m : Nat) : Int) := of_decide_eq_true hb
      omega
    obtain ⟨q, hq⟩ : ∃ q, q = lsRow M s p k := ⟨_, rfl⟩
    have hqI := (hp.row D.ok hs k hk).1
    rw [← hq] at S C hqI
    have hqb := hqI.bound
    obtain ⟨t, ht⟩ : ∃ t, t = M.go s k := ⟨_, rfl⟩
    have htn : t ≤ M.n := by rw [ht]; exact D.ok.st s (by omega) k hkm
    have hstep : lsRow M s p (k + 1) = lsStep M q t := by rw [hq, ht]; rfl
    have hlF : (R .f).2.2.length = q.1.length := by rw [C.cf]; simp
    have hlN : (R .n).2.2.length = i * M.m + k := by rw [C.cn]; exact hqI.len
    obtain ⟨J, hJ⟩ : ∃ J : List Value → List Value → World → Prop, J = (fun us vs w' => ∃ (R : L3 → Rw Int), us = [slE (R .f)] ∧ vs = [.agg #[.int .i64 x50, slE (R .n), slE (R .t)]] ∧ LM wb w' n39 n27 (numL at' (lsStep M q t).1) R ∧ LC R (lsStep M q t) tg) := ⟨_, rfl⟩
    refine Jn_in J ?_ ?_
    · intro us vs w101 hj
      rw [hJ] at hj
      obtain ⟨R, rfl, rfl, S, C⟩ := hj
      refine opL_in <| opAg_in <| opI_in <| opL_in <| opL_in <| SzIs_in rfl <| Bd_e (inc_i64 (by omega)) ⟨M.m - (k + 1), by omega, k + 1, R, rfl, rfl, rfl, by omega, ?_, ?_⟩
      · rw [hstep]; exact S
      · rw [hstep]; exact C
    · have hkl : k < (rowI M s).length := by simp [rowI]; exact hkm
      have hkv : (rowI M s)[k] = (t : Int) := by rw [ht]; simp [rowI]
      obtain ⟨cs, aa, xa, ac, xc, H, h1, h2, h3, _⟩ := P.mem
      have htl : t < at'.length := by omega
      have rN := hrow.md S.md
      have r1 := h1.md S.md (by simp)
      have r3 := h3.md S.md
      have eg : at'[t] = at'.getD t 0 := by rw [List.getD_eq_getElem?_getD, List.getElem?_eq_getElem htl]; rfl
      refine ⟨rN.ixn hkl (by simp [rowI]), rN.ld1 hkl (by rw [hkv]; rfl) <| opI_in <| NN_in <| r1.ld' h2 <| opL_in ⟨r3.ixn htl hal, r3.ld1 htl (by rw [eg]; rfl) <| opI_in ?_⟩⟩
      have hbeq : (at'.getD t 0 == x26) = al M t M.n := by
        rw [hx26, Bool.eq_iff_iff, beq_iff_eq, al_iff]
        exact P.key htn (Nat.le_refl _)
      refine Bd_e hbeq <| If_in (fun hz => ?_) fun hz => ?_
      · have e2 : lsStep M q t = (q.1, q.2 ++ [-1]) := by unfold lsStep; rw [if_pos hz]
        refine S.app hn1 hn2 .n (-1) (by omega) fun a' c' w128 S2 m2 => opL_in ?_
        intro w132 m132 hL
        rw [hJ, e2]
        refine ⟨upd R .n (a', c', (R .n).2.2 ++ [-1]), ?_, ?_, S2.up m132, C.appN _ _ _⟩
        · rw [upd_ne _ _ (by simp)]; rfl
        · rw [upd_same, upd_ne _ _ (by simp)]; rfl
      · have hz' : ¬ al M t M.n = true := by rw [hz]; simp
        refine NN_in <| r1.ld' h2 <| opL_in ⟨r3.ixn htl hal, r3.ld1 htl (by rw [eg]; rfl) <| opI_in ?_⟩
        refine RunW_in0 (mapInt.lookup S.mO (at'.getD t 0) (.int .i64 0) (zero3 _)) ?_
        have hf := P.find (fun x hx => Nat.le_of_lt (hqI.lt x hx)) hqI.pw htn
        have hres : ∃ (v : Int) (b : Bool), Value.tuple #[((findI (at'.getD t 0) (numL at' q.1) 0).map fun p => vI p.2).getD (.int .i64 0), .bool (findI (at'.getD t 0) (numL at' q.1) 0).isSome] = .tuple #[.int .i64 v, .bool b] ∧ (b = true → lsAt M q.1 t < q.1.length ∧ v = (lsAt M q.1 t : Int)) ∧ (b = false → ¬ lsAt M q.1 t < q.1.length) := by
          by_cases c : lsAt M q.1 t < q.1.length
          · rw [hf, if_pos c]; exact ⟨_, _, rfl, fun _ => ⟨c, rfl⟩, (fun h => by cases h)⟩
          · rw [hf, if_neg c]; exact ⟨_, _, rfl, (fun h => by cases h), fun _ => c⟩
        obtain ⟨v, bb, hve, hv1, hv2⟩ := hres
        rw [hve]
        have e2 : lsStep M q t = (if lsAt M q.1 t < q.1.length then q.1 else q.1 ++ [t], q.2 ++ [(lsAt M q.1 t : Int)]) := by unfold lsStep; rw [if_neg hz']
        obtain ⟨J2, hJ2⟩ : ∃ J : List Value → List Value → World → Prop, J = (fun us vs w' => ∃ (R' : L3 → Rw Int), us = [.int .i64 (lsAt M q.1 t : Int), slE (R' .f)] ∧ R' .n = R .n ∧ R' .t = R .t ∧ LM wb w' n39 n27 (numL at' (lsStep M q t).1) R' ∧ LC R' ((lsStep M q t).1, q.2) tg) := ⟨_, rfl⟩
        refine opTu_in <| opI_in <| opB_in <| SzIs_in rfl <| Jn_in J2 ?_ ?_
        · intro us vs w147 hj
          rw [hJ2] at hj
          obtain ⟨R', rfl, en, et, S, C⟩ := hj
          rw [← en] at hlN ⊢
          rw [← et]
          refine opI_in <| opL_in ?_
          refine S.app hn1 hn2 .n (lsAt M q.1 t : Int) (by omega) fun a' c' w155 S2 m2 => opL_in ?_
          intro w159 m159 hL
          have C2 := C.appN a' c' (lsAt M q.1 t : Int)
          have e3 : ((lsStep M q t).1, q.2 ++ [(lsAt M q.1 t : Int)]) = lsStep M q t := by rw [e2]
          rw [e3] at C2
          rw [hJ]
          refine ⟨upd R' .n (a', c', (R' .n).2.2 ++ [(lsAt M q.1 t : Int)]), ?_, ?_, S2.up m159, C2⟩
          · rw [upd_ne _ _ (by simp)]; rfl
          · rw [upd_same, upd_ne _ _ (by simp)]; rfl
        · cases bb with
          | true =>
            obtain ⟨c, rfl⟩ := hv1 rfl
            have e4 : (lsStep M q t).1 = q.1 := by rw [e2]; exact if_pos c
            refine Bd_f rfl <| If_f ?_
            rw [hJ2, e4]
            exact ⟨R, rfl, rfl, rfl, S, C⟩
          | false =>
            have c := hv2 rfl
            obtain ⟨c2, _⟩ := lsAt_none c
            have e4 : (lsStep M q t).1 = q.1 ++ [t] := by rw [e2]; exact if_neg c
            rw [if_neg c] at hf
            obtain ⟨w4, hrun, hmap, m4⟩ := mapInt.add S.mO (at'.getD t 0) (q.1.length : Int) hf
            have S4 := S.mapW m4 hmap
            refine Bd_t rfl <| If_t <| Bd_e (by rw [hlF]) <| NN_in <| r1.ld' h2 <| opL_in ⟨r3.ixn htl hal, r3.ld1 htl (by rw [eg]; rfl) <| opI_in <| RunU_in hrun (fun d hd => m4.blk d ?_ ?_) ?_⟩
            · simp only [List.mem_cons, List.not_mem_nil, or_false] at hd
              have := S.lt
              have := S.md.size
              rcases hd with rfl | rfl | rfl <;> omega
            · simp only [List.mem_cons, List.not_mem_nil, or_false] at hd ⊢
              have := S.mn
              have := S.ml
              rcases hd with rfl | rfl | rfl <;> omega
            · refine S4.app hn1 hn2 .f (t : Int) (by omega) fun a' c' w5 S5 m5 => opL_in ?_
              rw [hJ2, e4, numL_snoc, c2]
              refine ⟨upd R .f (a', c', (R .f).2.2 ++ [(t : Int)]), ?_, upd_ne _ _ (by simp), upd_ne _ _ (by simp), S5, C.appF _ _ _⟩
              rw [upd_same]; rfl
  · have hkm : k = M.m := by
      have : ¬ (k : Int) < ((M.m : Nat) : Int) := by rw [hb98] at hb; exact of_decide_eq_false hb
      omega
    subst hkm
    exact Bd_e (inc_i64 (by omega)) (K R w85 S C)
end
end Fk
set_option linter.unusedVariables false
set_option linter.unusedSimpArgs false
set_option linter.unusedSectionVars false
set_option maxRecDepth 100000
set_option maxHeartbeats 1000000
namespace Fk
open Go Go.Proofs Go.RowKit
section
variable {wb : World} {n39 n27 n1 n2 n : Nat} {M : Mch} {at' : List Int} {next tags : List Int} {J43 : List Value → List Value → World → Prop} {i s : Nat} {p : List Nat × List Int} {tg : List Int} {x50 : Int} {ta : Option Addr}
theorem P92B_ok {w44 : World} {R : L3 → Rw Int} {x26 : Int} (D : DmIn M next tags) (P : PD M wb n at') (hn1 : n1 < wb.heap.size) (hn2 : n2 < wb.heap.size) (hp : LI M p (i * M.m)) (hs : p.1[i]? = some s) (hrow : RowAt wb ta 1 i1 tags) (hx26 : x26 = at'.getD M.n 0)
    (S : LM wb w44 n39 n27 (numL at' p.1) R) (C : LC R p tg) (htg : tg.length < 2 ^ 20)
    (K : ∀ R' w', LM wb w' n39 n27 (numL at' (lsRow M s p M.m).1) R' → LC R' (lsRow M s p M.m) (tg ++ [M.tag s]) → J43 [slE (R' .f), .int .i64 ((i + 1 : Nat) : Int)] [.agg #[.int .i64 x50, slE (R' .n), slE (R' .t)]] w') :
    P92B J43 n1 n2 n39 n27 (some ⟨n, 0, none⟩) x26 (i : Int) (R .f).1 (R .f).2.2.length (R .f).2.1 x50 (R .n).1 (R .n).2.2.length (R .n).2.1 (R .t).1 (R .t).2.2.length (R .t).2.1 ta tags.length w44 := by
  have hil : i < (R .f).2.2.length := by rw [C.cf, List.length_map]; exact (List.getElem?_eq_some_iff.1 hs).1
  have hsl : s < M.n := hp.lt s (List.mem_of_getElem? hs)
  have hfv : (R .f).2.2[i] = (s : Int) := by
    have : (R .f).2.2[i]? = some (s : Int) := by rw [C.cf, List.getElem?_map, hs]; rfl
    exact (List.getElem?_eq_some_iff.1 this).2
  have hst : s < tags.length := by rw [D.tl]; exact hsl
  have htag : tags[s] = M.tag s := (D.tg1 s hst).symm
  have hlT : (R .t).2.2.length = tg.length := by rw [C.ct]
  unfold P92B
  refine ⟨((S.fam.own .f).row enci1).ix hil, ((S.fam.own .f).row enci1).ld1 hil (by rw [hfv]; rfl) <| opI_in ?_⟩
  obtain ⟨J, hJ⟩ : ∃ J : List Value → List Value → World → Prop, J = (fun us vs w' => ∃ (R' : L3 → Rw Int), vs = [.agg #[.int .i64 x50, slE (R' .n), slE (R' .t)]] ∧ R' .f = R .f ∧ LM wb w' n39 n27 (numL at' p.1) R' ∧ LC R' p (tg ++ [M.tag s])) := ⟨_, rfl⟩
  refine Jn_in J ?_ ?_
  · intro us vs w63 hj
    rw [hJ] at hj
    obtain ⟨R', rfl, ef, S, C⟩ := hj
    obtain ⟨cs, aa, xa, ac, xc, H, h1, h2, h3, h4, h5, h6, h7⟩ := P.mem
    have hsH : s < H.length := by omega
    obtain ⟨v1, v2⟩ := h7 s H[s] (List.getElem?_eq_getElem hsH)
    rw [← ef]
    refine opAg_in <| opI_in <| opL_in <| opL_in <| SzIs_in rfl <| NN_in <| (h1.md S.md (by simp)).ld' h4 <| opL_in ⟨(h6.md S.md).ixn hsH h5, (h6.md S.md).ld1 hsH rfl <| opL_in <| Bd_e rfl ?_⟩
    rw [v1]
    exact P92I_ok D P hn1 hn2 hp hs v2 hx26 S C K
  · have dw : Md [] w44 w44.drew := Md_drew w44
    have S1 := S.md0 dw
    have fin : ∀ (a' : Option Addr) (c' : Nat) (w5 w6 : World), LM wb w5 n39 n27 (numL at' p.1) (upd R .t (a', c', (R .t).2.2 ++ [M.tag s])) → Md [n39] w5 w6 → J [] [.agg #[.int .i64 x50, .slice (R .n).1 (R .n).2.2.length (R .n).2.1, slE (a', c', (R .t).2.2 ++ [M.tag s])]] w6 := fun a' c' w5 w6 S5 m6 => by
      rw [hJ]
      refine ⟨upd R .t (a', c', (R .t).2.2 ++ [M.tag s]), ?_, upd_ne _ _ (by simp), S5.up m6, C.appT _ _ _⟩
      rw [upd_same, upd_ne _ _ (by simp)]; rfl
    refine ⟨fun w' => Md [] wb w', S1.md, (hrow.md S1.md).ix hst, _, fun w' h' => (hrow.md h').ld1 hst (by rw [htag]; rfl) rfl, opI_in ⟨⟨S1.md, ?_⟩, ?_⟩⟩
    · intro n186 w187 e1 e2
      refine ⟨by subst e2; exact S1.md.trans (Md.alloc (M := []) _ _), ?_⟩
      exact S1.app hn1 hn2 .t (M.tag s) (by omega) (fun a' c' w5 S5 m5 => opL_in ⟨S5.md, fun w6 m6 _ => fin a' c' w5 w6 S5 m6⟩) n186 w187 e1 e2
    · intro n186 w187 e1 e2
      have h1 : Md [] wb w187 := by subst e2; exact S1.md.trans (Md.alloc (M := []) _ _)
      refine ⟨h1, h1, ?_⟩
      exact S1.app hn1 hn2 .t (M.tag s) (by omega) (fun a' c' w5 S5 m5 => opL_in ⟨S5.md, fun w6 m6 _ => fin a' c' w5 w6 S5 m6⟩) n186 w187 e1 e2
theorem P92O_ok {w40 : World} {n37 : Nat} {x26 p0_0 : Int} {Q : Value → World → Prop} (D : DmIn M next tags) (P : PD M wb n at') (hn1 : n1 < wb.heap.size) (hn2 : n2 < wb.heap.size) (hrow : RowAt wb ta 1 i1 tags) (hx26 : x26 = at'.getD M.n 0)
    {R0 : L3 → Rw Int} (S : LM wb w40 n39 n27 (numL at' [0]) R0) (e1 : R0 .f = (some ⟨n37, 0, none⟩, 1, [0])) (e2 : R0 .n = (none, 0, [])) (e3 : R0 .t = (none, 0, []))
    (K : ∀ a c a2 c2 w', OwnL w' wb.heap.size 3 1 i1 a c (leastP M).2 → OwnL w' wb.heap.size 3 1 i1 a2 c2 ((leastP M).1.map M.tag) → Md [n2] wb w' →
      Q (.tuple #[.agg #[.int .i64 p0_0, .slice a (leastP M).2.length c, .slice a2 ((leastP M).1.map M.tag).length c2], .int .i64 0]) w') :
    P92O Q n1 n2 n27 n37 n39 (some ⟨n, 0, none⟩) x26 p0_0 ta tags.length w40 := by
  have hnn2 := D.n2
  unfold P92O
  refine LoopP_in (fun mm us vs w' => ∃ (i : Nat) (R : L3 → Rw Int), us = [slE (R .f), .int .i64 i] ∧ vs = [.agg #[.int .i64 p0_0, slE (R .n), slE (R .t)]] ∧ mm = M.n + 1 - i ∧ i ≤ (ls M i).1.length ∧ LI M (ls M i) (i * M.m) ∧ LM wb w' n39 n27 (numL at' (ls M i).1) R ∧ LC R (ls M i) (((ls M i).1.take i).map M.tag)) (M.n + 1)
    ⟨0, R0, by rw [e1]; rfl, by rw [e2, e3]; rfl, rfl, by omega, by rw [Nat.zero_mul]; exact LI.start D.n1, S, ⟨by rw [e1]; rfl, by rw [e2]; rfl, by rw [e3]; rfl⟩⟩ ?_
  clear S e1 e2 e3
  rintro mm us vs w44 ⟨i, R, rfl, rfl, hmm, hi, hp, S, C⟩
  have hlF : (R .f).2.2.length = (ls M i).1.length := by rw [C.cf]; simp
  have hpb := hp.bound
  refine opL_in <| opI_in <| opAg_in <| opI_in <| opL_in <| opL_in <| SzIs_in rfl <| Bd_e rfl <| Bd_in fun b58 hb58 => If_in (fun hb => ?_) fun hb => ?_
  · have hil : i < (ls M i).1.length := by
      rw [hb58] at hb
      have : (i : Int) < (((R .f).2.2.length : Nat) : Int) := of_decide_eq_true hb
      omega
    have hs := List.getElem?_eq_getElem hil
    refine P92B_ok D P hn1 hn2 hp hs hrow hx26 S C (by rw [List.length_map, List.length_take]; omega) fun R' w' S' C' => ?_
    obtain ⟨hI, l', el⟩ := hp.row D.ok hs M.m (Nat.le_refl _)
    have en := ls_succ hs
    have hle : (ls M i).1.length ≤ (ls M (i + 1)).1.length := by rw [en, el]; simp
    refine ⟨M.n + 1 - (i + 1), by omega, i + 1, R', rfl, rfl, rfl, by omega, ?_, ?_, ?_⟩
    · rw [en, Nat.succ_mul]; exact hI
    · rw [en]; exact S'
    · have et : ((ls M (i + 1)).1.take (i + 1)).map M.tag = ((ls M i).1.take i).map M.tag ++ [M.tag ((ls M i).1[i])] := by
        rw [en, el, List.take_append_of_le_length (by omega), List.take_succ_eq_append_getElem hil, List.map_append]
        rfl
      rw [et, en]
      exact C'
  · have hil : i = (ls M i).1.length := by
      have : ¬ (i : Int) < (((R .f).2.2.length : Nat) : Int) := by rw [hb58] at hb; exact of_decide_eq_false hb
      omega
    have he := ls_end (M := M) (i := i) (by omega) (by omega)
    intro w202 m202 _
    have hav : ∀ l A, (R l).1 = some A → A.block ∉ [n2] := fun l A hA hd => by
      have h1 := ((S.fam.own l).lt hA).1
      have h2 : A.block = n2 := by simpa using hd
      omega
    have oN := (S.fam.own .n).mdD m202 (hav .n)
    have oT := (S.fam.own .t).mdD m202 (hav .t)
    have ct := C.ct
    rw [hil, ← hil, List.take_of_length_le (by omega)] at ct
    rw [C.cn, ← he] at oN
    rw [ct, ← he] at oT
    have := K _ _ _ _ w202 oN oT ((S.md.mono (by simp)).trans m202)
    rw [he] at this
    show Q (.tuple #[.agg #[.int .i64 p0_0, .slice (R .n).1 (R .n).2.2.length (R .n).2.1, .slice (R .t).1 (R .t).2.2.length (R .t).2.1], .int .i64 0]) w202
    rw [C.cn, ct]
    exact this
end
noncomputable def leastD (dm : Int) (next tags : List Int) : (Int × List Int × List Int) × Int :=
  if dRight dm next tags = true then ((dm, (leastP (dMch dm next tags)).2, (leastP (dMch dm next tags)).1.map (dMch dm next tags).tag), 0) else ((0, [], []), 2)
def outD (w w' : World) (r : (Int × List Int × List Int) × Int) (v : Value) : Prop :=
  (∃ (a : Option Addr) (c : Nat) (a2 : Option Addr) (c2 : Nat), v = .tuple #[.agg #[.int .i64 r.1.1, .slice a r.1.2.1.length c, .slice a2 r.1.2.2.length c2], .int .i64 r.2] ∧ OwnL w' w.heap.size 3 1 i1 a c r.1.2.1 ∧ OwnL w' w.heap.size 3 1 i1 a2 c2 r.1.2.2) ∧ Md [] w w'
theorem f92_Q (dm : Int) (next tags : List Int) (na ta : Option Addr) (nc tc : Nat) (w : World) {Q : Value → World → Prop} (hn : RowAt w na 1 i1 next) (ht : RowAt w ta 1 i1 tags) (hnl : next.length < 2 ^ 62) (htl : tags.length < 2 ^ 12)
    (K : ∀ v w', outD w w' (leastD dm next tags) v → Q v w') : f92_vc dm na next.length nc ta tags.length tc Q w := by
  intro n1 hn1 n2 hn2
  intro w3 m3 hL3
  have h1 : n1 < w3.heap.size := hL3 n1 (by simp)
  have h2 : n2 < w3.heap.size := hL3 n2 (by simp)
  refine Ct.call (f72_ok dm next tags na ta nc tc w3 (hn.md m3) (ht.md m3) (by omega) (by omega)) (by simp; omega) fun v w5 hv m5 => ?_
  subst hv
  refine opB_in <| Bd_e rfl <| If_in (fun hb => ?_) fun hb => ?_
  · have hr : ¬ dRight dm next tags = true := by intro e; rw [e] at hb; cases hb
    intro w8 m8 _
    refine K _ _ ⟨⟨none, 0, none, 0, ?_, ?_, ?_⟩, ((m3.trans m5).old m8 (by simpa using hn2))⟩
    · unfold leastD; rw [if_neg hr]; rfl
    · unfold leastD; rw [if_neg hr]; exact OwnL.nil _ _ _ _ _
    · unfold leastD; rw [if_neg hr]; exact OwnL.nil _ _ _ _ _
  · have hr : dRight dm next tags = true := by
      cases h : dRight dm next tags with
      | true => rfl
      | false => rw [h] at hb; cases hb
    obtain ⟨D, em⟩ := dIn_of (drOk hr) htl
    have hres : leastD dm next tags = ((dm, (leastP (dMch dm next tags)).2, (leastP (dMch dm next tags)).1.map (dMch dm next tags).tag), 0) := by unfold leastD; rw [if_pos hr]
    obtain ⟨M, hM⟩ : ∃ M, M = dMch dm next tags := ⟨_, rfl⟩
    rw [← hM] at D em hres
    have h188 := f188_ok (nc := nc) (tc := tc) D (hn.md (m3.trans m5)) (ht.md (m3.trans m5))
    rw [em] at h188
    refine Ct.call h188 (fun d hd => ?_) fun v w10 hv m10 => ?_
    · simp only [List.mem_cons, List.not_mem_nil, or_false] at hd
      have := m5.size
      rcases hd with rfl | rfl <;> omega
    · obtain ⟨n, at', rfl, P⟩ := hv
      have m10' : Md [] w w10 := (m3.trans m5).trans m10
      have hn1' : n1 < w10.heap.size := by have := m5.size; have := m10.size; omega
      have hn2' : n2 < w10.heap.size := by have := m5.size; have := m10.size; omega
      obtain ⟨cs, aa, xa, ac, xc, H, g1, g2, g3, _⟩ := P.mem
      have hal := P.al
      have hDn := D.n1
      have ln : M.n < at'.length := by omega
      have l0 : 0 < at'.length := by omega
      have dw : Md [] w10 w10.drew := Md_drew w10
      have en : at'[M.n] = at'.getD M.n 0 := by rw [List.getD_eq_getElem?_getD, List.getElem?_eq_getElem ln]; rfl
      have e0 : at'[0] = at'.getD 0 0 := by rw [List.getD_eq_getElem?_getD, List.getElem?_eq_getElem l0]; rfl
      refine opP_in ⟨fun w' => Md [] w10 w', dw, NN_in ⟨_, fun w' h' => (g1.md h' (by simp)).ld' g2 rfl, opL_in <| Bd_e (by rw [D.tl]) ⟨g3.ixn ln hal, _, fun w' h' => (g3.md h').ld1 ln (by rw [en]; rfl) rfl, opI_in ?_⟩⟩⟩
      intro n27 w28 e27 e28
      subst e27; subst e28
      have ma : Md [] w10.drew (w10.drew.alloc (.map #[] 0)) := Md.alloc (M := []) _ _
      have m28 : Md [] w10 (w10.drew.alloc (.map #[] 0)) := dw.trans ma
      have hmn := MapAt.new w10.drew vI vI (V := Int)
      obtain ⟨w36, hrun, hmap, m36⟩ := mapInt.add hmn (at'.getD 0 0) (0 : Int) rfl
      have h27 : w10.drew.heap.size = w10.heap.size := rfl
      refine NN_in <| (g1.md m28 (by simp)).ld' g2 <| opL_in ⟨g3.ixn l0 hal, (g3.md m28).ld1 l0 (by rw [e0]; rfl) <| opI_in <| RunU_in hrun (fun d hd => m36.blk d ?_ ?_) ?_⟩
      · simp only [List.mem_cons, List.not_mem_nil, or_false] at hd
        have := m28.size
        rcases hd with rfl | rfl <;> omega
      · simp only [List.mem_cons, List.not_mem_nil, or_false] at hd ⊢
        rcases hd with rfl | rfl <;> omega
      · have m36' : Md [] w10 w36 := m28.old m36 (by simp [h27])
        intro n37 w38 e37 e38
        subst e37; subst e38
        have ma2 : Md [] w36 (w36.alloc (.cells #[.int .i64 0] 3)) := Md.alloc (M := []) _ _
        have m38 := m36'.trans ma2
        have hlit := OwnL.lit (P := Try.prog) (base := w10.heap.size) enci1 w36 3 [(0 : Int)] #[.int .i64 0] m36'.size (by simp [maxLen]) rfl
        have hs38 : (w36.alloc (.cells #[.int .i64 0] 3)).heap.size = w36.heap.size + 1 := Array.size_push _
        have hmap38 := hmap.md ma2 (by simp)
        have hl27 := hmap.lt
        intro n39 hn39 w40 m40 hL40
        have h39 : n39 < w40.heap.size := hL40 n39 (by simp)
        have F38 : Fam (w36.alloc (.cells #[.int .i64 0] 3)) w10.heap.size 3 i1 (upd (fun _ : L3 => ((none, 0, []) : Rw Int)) .f (some ⟨w36.heap.size, 0, none⟩, 1, [0])) :=
          (Fam.none w36 _ _ _).upd (ma2.mono (by simp)) hlit fun A hA => .inr (by injection hA with hA; rw [← hA]; exact Nat.le_refl _)
        have hne : ∀ l A, ((upd (fun _ : L3 => ((none, 0, []) : Rw Int)) .f (some ⟨w36.heap.size, 0, none⟩, 1, [0])) l).1 = some A → A.block ≠ n39 := fun l A hA e => by
          have := (F38.own l).lt hA
          omega
        have S : LM w10 w40 n39 w10.drew.heap.size (numL at' [0]) (upd (fun _ : L3 => ((none, 0, []) : Rw Int)) .f (some ⟨w36.heap.size, 0, none⟩, 1, [0])) :=
          ⟨m38.old m40 (by have := m38.size; simp; omega), F38.keep m40 (fun l A hA => by simpa using hne l A hA), hne, h39, by have := m38.size; omega, hmap38.md m40 (by simp; omega), Nat.le_refl _, by omega⟩
        refine P92O_ok D P hn1' hn2' (ht.md m10') rfl S (upd_same _ _ _) (upd_ne _ _ (by simp)) (upd_ne _ _ (by simp)) fun a c a2 c2 w' oN oT m' => ?_
        refine K _ _ ⟨⟨a, c, a2, c2, ?_, ?_, ?_⟩, m10'.old m' (by simpa using hn2)⟩
        · rw [hres]
        · rw [hres]; exact oN.down m10'.size
        · rw [hres]; exact oT.down m10'.size
theorem f92_ok (dm : Int) (next tags : List Int) (na ta : Option Addr) (nc tc : Nat) (w : World) (hn : RowAt w na 1 i1 next) (ht : RowAt w ta 1 i1 tags) (hnl : next.length < 2 ^ 62) (htl : tags.length < 2 ^ 12) :
    Ct Try.prog 92 #[.agg #[.int .i64 dm, .slice na next.length nc, .slice ta tags.length tc]] w fun v w' => outD w w' (leastD dm next tags) v := by
  apply f92_in
  exact f92_Q dm next tags na ta nc tc w hn ht hnl htl fun v w' h => h
end Fk
set_option linter.unusedVariables false
set_option linter.unusedSimpArgs false
set_option linter.unusedSectionVars false
set_option maxRecDepth 100000
set_option maxHeartbeats 1000000
namespace Fk
open Go Go.Proofs Go.RowKit
def setX (X : Nat → Nat → Bool) (a b : Nat) : Nat → Nat → Bool := fun x y => if x = a ∧ y = b then true else X x y
/-- What is so of a table of which two are not alike, at any time. -/
structure XI (M : Mch) (X : Nat → Nat → Bool) : Prop where
  snd : ∀ a b, a ≤ M.n → b ≤ M.n → X a b = true → ¬ M.alike a b
  tag : ∀ a b, a ≤ M.n → b ≤ M.n → X a b = false → M.tag a = M.tag b
def Clo (M : Mch) (X : Nat → Nat → Bool) (a b : Nat) : Prop := X a b = false → ∀ k, k < M.m → X (M.go a k) (M.go b k) = false
theorem XI.fin {M : Mch} (hM : M.ok) {X : Nat → Nat → Bool} (h : XI M X) (hc : ∀ a b, a ≤ M.n → b ≤ M.n → Clo M X a b) {a b : Nat} (ha : a ≤ M.n) (hb : b ≤ M.n) : X a b = false ↔ M.alike a b := by
  constructor
  · intro hx
    exact alike_of (R := fun x y => x ≤ M.n ∧ y ≤ M.n ∧ X x y = false) (fun x y hr => h.tag x y hr.1 hr.2.1 hr.2.2) (fun x y k hr hk => ⟨hM.st x hr.1 k hk, hM.st y hr.2.1 k hk, hc x y hr.1 hr.2.1 hr.2.2 k hk⟩) a b ⟨ha, hb, hx⟩
  · intro hal
    cases hx : X a b with
    | false => rfl
    | true => exact absurd hal (h.snd a b ha hb hx)
theorem XI.set {M : Mch} {X : Nat → Nat → Bool} (h : XI M X) {a b k : Nat} (ha : a ≤ M.n) (hb : b ≤ M.n) (hk : k < M.m) (hM : M.ok) (hx : X (M.go a k) (M.go b k) = true) : XI M (setX X a b) := by
  refine ⟨fun x y hx1 hy1 hxy => ?_, fun x y hx1 hy1 hxy => ?_⟩
  · unfold setX at hxy
    split at hxy
    · rename_i e
      obtain ⟨rfl, rfl⟩ := e
      intro hal
      exact h.snd _ _ (hM.st x ha k hk) (hM.st y hb k hk) hx (alike_go hal hk)
    · exact h.snd x y hx1 hy1 hxy
  · unfold setX at hxy
    split at hxy
    · cases hxy
    · exact h.tag x y hx1 hy1 hxy
def rowX (n : Nat) (X : Nat → Nat → Bool) (a : Nat) : List Bool := (List.range (n + 1)).map (X a)
structure AM (w0 w : World) (h : Rw HS3) (R : Nat → Rw Bool) : Prop where
  md : Md [] w0 w
  hO : OwnL w w0.heap.size 222 1 hE h.1 h.2.1 h.2.2
  fam : Fam w w0.heap.size 4 bE R
  hd : ∀ a, a < h.2.2.length → h.2.2[a]? = some (hdr (R a))
section
variable {w0 w w' : World} {h : Rw HS3} {R : Nat → Rw Bool}
theorem AM.md0 (S : AM w0 w h R) (hm : Md [] w w') : AM w0 w' h R := ⟨S.md.trans hm, S.hO.md hm, S.fam.md0 hm, S.hd⟩
theorem AM.set (S : AM w0 w h R) {a : Nat} (ha : a < h.2.2.length) {i : Nat} (hi : i < (R a).2.2.length) (x : Bool) : Wr w (adAt (R a).1 (i : Int) 1) 1 ∧ w0.heap.size ≤ (adAt (R a).1 (i : Int) 1).block ∧
    AM w0 (setCells w (adAt (R a).1 (i : Int) 1) 0 [.bool x]) h (upd R a ((R a).1, (R a).2.1, (R a).2.2.set i x)) ∧ Md (blkO (R a).1) w (setCells w (adAt (R a).1 (i : Int) 1) 0 [.bool x]) := by
  obtain ⟨A, hA, h1, h2, h3, h4, h5, h6⟩ := (S.fam.own a).put encbE (by omega) hi x
  have hm : Md (blkO (R a).1) w (setCells w (adAt (R a).1 (i : Int) 1) 0 [.bool x]) := h6.mono (by intro z hz; simp at hz; rw [hA, hz]; exact blkO_some)
  refine ⟨h4, by rw [h3]; exact h2, ⟨S.md.old hm fun d hd => ?_, S.hO.mdD hm fun B hB hd => ?_, S.fam.upd hm h5 (NewO.refl _ _), fun a' ha' => ?_⟩, hm⟩
  · obtain ⟨B, hB, rfl⟩ := blkO_mem hd; exact ((S.fam.own a).lt hB).1
  · obtain ⟨C, hC, e⟩ := blkO_mem hd; exact own_apt2 S.hO (S.fam.own a) (by decide) B C hB hC e.symm
  · rw [S.hd a' ha']
    by_cases e : a' = a
    · subst e; rw [upd_same]; simp [hdr]
    · rw [upd_ne _ _ e]
/-- Where a header is read, then what it heads. -/
theorem AM.row (S : AM w0 w h R) {a : Nat} (ha : a < h.2.2.length) : h.2.2[a] = hdr (R a) := (List.getElem?_eq_some_iff.1 (S.hd a ha)).2
end
end Fk
set_option linter.unusedVariables false
set_option linter.unusedSimpArgs false
set_option linter.unusedSectionVars false
set_option maxRecDepth 100000
set_option maxHeartbeats 1000000
namespace Fk
open Go Go.Proofs Go.RowKit
structure AX (M : Mch) (w0 w : World) (h : Rw HS3) (R : Nat → Rw Bool) (X : Nat → Nat → Bool) : Prop where
  am : AM w0 w h R
  hl : h.2.2.length = M.n + 1
  rw : ∀ a, a ≤ M.n → (R a).2.2 = rowX M.n X a
  xi : XI M X
section
variable {w0 : World} {n1 : Nat} {M : Mch} {next tags : List Int} {na ta : Option Addr} {nc tc : Nat} {h : Rw HS3} {X0 : Nat → Nat → Bool}
theorem AX.md0 {w w' : World} {R : Nat → Rw Bool} {X : Nat → Nat → Bool} (A : AX M w0 w h R X) (hm : Md [] w w') : AX M w0 w' h R X := ⟨A.am.md0 hm, A.hl, A.rw, A.xi⟩
end
structure AP (M : Mch) (w : World) (a : Option Addr) : Prop where
  mem : ∃ H : List HS3, H.length = M.n + 1 ∧ RowAt w a 1 hE H ∧ ∀ (x : Nat) (q : HS3), H[x]? = some q → q.2.1 = M.n + 1 ∧ RowAt w q.1 1 bE ((List.range (M.n + 1)).map fun y => !al M x y)
theorem AP.md {M : Mch} {w w' : World} {a : Option Addr} (h : AP M w a) (hm : Md [] w w') : AP M w' a := by
  obtain ⟨H, h1, h2, h3⟩ := h.mem
  exact ⟨H, h1, h2.md hm, fun x q hq => ⟨(h3 x q hq).1, (h3 x q hq).2.md hm⟩⟩
end Fk
set_option linter.unusedVariables false
set_option linter.unusedSimpArgs false
set_option linter.unusedSectionVars false
set_option maxRecDepth 100000
set_option maxHeartbeats 1000000
namespace Fk
open Go Go.Proofs Go.RowKit
structure LW (wb w : World) (n39 : Nat) (R : L3 → Rw Int) : Prop where
  md : Md [] wb w
  fam : Fam w wb.heap.size 3 i1 R
  ne : ∀ l A, (R l).1 = some A → A.block ≠ n39
  lt : n39 < w.heap.size
  bl : wb.heap.size ≤ n39
section
variable {wb w w' : World} {n39 n1 n2 : Nat} {R : L3 → Rw Int}
theorem LW.md0 (S : LW wb w n39 R) (hm : Md [] w w') : LW wb w' n39 R := ⟨S.md.trans hm, S.fam.md0 hm, S.ne, Nat.lt_of_lt_of_le S.lt hm.size, S.bl⟩
theorem LW.up (S : LW wb w n39 R) (hm : Md [n39] w w') : LW wb w' n39 R :=
  ⟨S.md.old hm (by simpa using S.bl), S.fam.keep hm (fun l A hA => by simpa using S.ne l A hA), S.ne, Nat.lt_of_lt_of_le S.lt hm.size, S.bl⟩
theorem LW.L (S : LW wb w n39 R) (hn1 : n1 < wb.heap.size) (hn2 : n2 < wb.heap.size) : ∀ d ∈ [n39, n2, n1], d < w.heap.size := fun d hd => by
  have := S.lt
  have := S.md.size
  simp only [List.mem_cons, List.not_mem_nil, or_false] at hd
  rcases hd with rfl | rfl | rfl <;> omega
theorem LW.app (S : LW wb w n39 R) (hn1 : n1 < wb.heap.size) (hn2 : n2 < wb.heap.size) (l : L3) (x : Int) (hl : (R l).2.2.length < 2 ^ 30) {K : Value → World → Prop}
    (k : ∀ (a' : Option Addr) (c' : Nat) (w' : World), LW wb w' n39 (upd R l (a', c', (R l).2.2 ++ [x])) → Md (blkO (R l).1) w w' → K (slE (a', c', (R l).2.2 ++ [x])) w') :
    Nw (.cells #[.int .i64 x] 3) w fun b w' => RunW Try.prog [n39, n2, n1] (Builtin.append_ #[52, 52] 52 #[.slice (R l).1 (R l).2.2.length (R l).2.1, .slice (some { block := b, off := 0 }) 1 1]) K w' := by
  have hsz := S.md.size
  refine app_one rowT52 enci1 x rfl (S.fam.own l) S.md.size (S.L hn1 hn2) (fun d hd A hA e => ?_) (by simp [maxLen]; omega) (by omega) fun a' c' w' o' m' hA => ?_
  · have h1 := ((S.fam.own l).lt hA).1
    have h2 := S.ne l A hA
    simp only [List.mem_cons, List.not_mem_nil, or_false] at hd
    rcases hd with rfl | rfl | rfl <;> omega
  · refine k a' c' w' ⟨S.md.old m' fun d hd => ?_, S.fam.upd m' o' hA, fun l' A hA' => ?_, Nat.lt_of_lt_of_le S.lt m'.size, S.bl⟩ m'
    · obtain ⟨A, hA', rfl⟩ := blkO_mem hd; exact ((S.fam.own l).lt hA').1
    · by_cases e : l' = l
      · subst e
        rw [upd_same] at hA'
        rcases hA A hA' with h | h
        · exact S.ne l' A h
        · have := S.lt; omega
      · rw [upd_ne _ _ e] at hA'
        exact S.ne l' A hA'
end
section
variable {wb : World} {n39 n1 n2 : Nat} {M : Mch} {next tags : List Int} {i s : Nat} {p : List Nat × List Int} {tg : List Int} {x50 : Int} {ta na a11 : Option Addr} {nc tc : Nat}
end
end Fk
set_option linter.unusedVariables false
set_option linter.unusedSimpArgs false
set_option maxRecDepth 100000
set_option maxHeartbeats 4000000
namespace Fk
open Go Go.Proofs Go.RowKit
structure Lr (L : List Nat) (wb w : World) (a : Option Addr) (c : Nat) (B : List Rb) (na : Option Addr) (nc : Nat) (nx : List Int) (ta : Option Addr) (tc : Nat) (tg : List Int) : Prop where
  md : Md [] wb w
  own : OwnL w wb.heap.size 222 1 rbE a c B
  rows : ∀ p ∈ B, OwnL w wb.heap.size 4 1 bE p.a p.c p.N
  nx : OwnL w wb.heap.size 3 1 i1 na nc nx
  tg : OwnL w wb.heap.size 3 1 i1 ta tc tg
  ap : Apt na ta
  lt : ∀ b ∈ L, b < w.heap.size
  l0 : ∀ b ∈ L, ∀ A, a = some A → A.block ≠ b
  l1 : ∀ b ∈ L, ∀ A, na = some A → A.block ≠ b
  l2 : ∀ b ∈ L, ∀ A, ta = some A → A.block ≠ b
  l3 : ∀ p ∈ B, ∀ A, p.a = some A → ∀ b ∈ L, A.block ≠ b
section
variable {L : List Nat} {wb w w' : World} {c nc tc : Nat} {a na ta : Option Addr} {B : List Rb} {nx tg : List Int}
theorem Lr.md0 (h : Lr L wb w a c B na nc nx ta tc tg) (hm : Md [] w w') : Lr L wb w' a c B na nc nx ta tc tg :=
  ⟨h.md.trans hm, h.own.md hm, fun p hp => (h.rows p hp).md hm, h.nx.md hm, h.tg.md hm, h.ap, fun b hb => Nat.lt_of_lt_of_le (h.lt b hb) hm.size, h.l0, h.l1, h.l2, h.l3⟩
theorem Lr.mdL {n0 : Nat} (h : Lr L wb w a c B na nc nx ta tc tg) (h0 : n0 ∈ L) (hlo : wb.heap.size ≤ n0) (hm : Md [n0] w w') : Lr L wb w' a c B na nc nx ta tc tg :=
  ⟨h.md.old hm (by simp; exact hlo), h.own.mdD hm (fun A hA => by simp; exact h.l0 n0 h0 A hA), fun p hp => (h.rows p hp).mdD hm (fun A hA => by simp; exact h.l3 p hp A hA n0 h0), h.nx.mdD hm (fun A hA => by simp; exact h.l1 n0 h0 A hA), h.tg.mdD hm (fun A hA => by simp; exact h.l2 n0 h0 A hA), h.ap, fun b hb => Nat.lt_of_lt_of_le (h.lt b hb) hm.size, h.l0, h.l1, h.l2, h.l3⟩
theorem Lr.mdI {b0 c2 : Nat} {x : Option Addr} {xs : List Int} (h : Lr L wb w a c B na nc nx ta tc tg) (o : OwnL w b0 3 1 i1 x c2 xs) (hlo : wb.heap.size ≤ b0) (hm : Md (x.map (·.block)).toList w w') : Md [] wb w' ∧ OwnL w' wb.heap.size 222 1 rbE a c B ∧ ∀ p ∈ B, OwnL w' wb.heap.size 4 1 bE p.a p.c p.N := by
  refine ⟨h.md.old hm (fun d hd => ?_), h.own.mdD hm (fun A hA hd => ?_), fun p hp => (h.rows p hp).mdD hm (fun A hA hd => ?_)⟩
  · obtain ⟨A, hA, e⟩ := mem_blk hd; have := (o.lt hA).1; omega
  · obtain ⟨X, hX, e⟩ := mem_blk hd; exact own_apt2 o h.own (by decide) X A hX hA e
  · obtain ⟨X, hX, e⟩ := mem_blk hd; exact own_apt2 o (h.rows p hp) (by decide) X A hX hA e
theorem Lr.addT {n0 : Nat} (h : Lr L wb w a c B na nc nx ta tc tg) (h0 : n0 ∈ L) (hlo : wb.heap.size ≤ n0) (x : Int) (hl : tg.length < 2 ^ 30) {K : Option Addr → Nat → Nat → World → Prop}
    (kk : ∀ ta' tc' w', Lr L wb w' a c B na nc nx ta' tc' (tg ++ [x]) → K ta' (tg ++ [x]).length tc' w') :
    Nw (.cells #[.int .i64 x] 3) w fun b w' => RunW Try.prog L (Builtin.append_ #[52, 52] 52 #[.slice ta tg.length tc, .slice (some (Addr.mk b 0 none)) 1 1]) (fun v w'' => opL v fun a' n' c' => Up [n0] L w'' fun w3 => K a' n' c' w3) w' := by
  refine app_one rowT52 enci1 x rfl h.tg h.md.size h.lt h.l2 (by simp [maxLen]; omega) (by omega) fun a' c' w' o hm hA => opL_in fun w3 h3 _ => kk a' c' w3 ?_
  obtain ⟨m', o', r'⟩ := h.mdI h.tg (Nat.le_refl _) hm
  obtain ⟨t', ap'⟩ := own_keep h.nx hm hA h.ap.symm
  exact Lr.mdL ⟨m', o', r', t', o, ap'.symm, fun b hb => Nat.lt_of_lt_of_le (h.lt b hb) hm.size, h.l0, h.l1, fun b hb A hA' => by
    rcases hA A hA' with h1 | h1
    · exact h.l2 b hb A h1
    · have := h.lt b hb; omega, h.l3⟩ h0 hlo h3
end
end Fk
set_option linter.unusedVariables false
set_option linter.unusedSimpArgs false
namespace Fk
open Go Go.Proofs Go.RowKit
def cntK (k : Int) (n s : Nat) : Nat := (if k = 1 ∨ k = 4 then 1 else if k = 3 then n - 1 else 0) + s
/-- How many states trees make. -/
def Fo.cnt : Fo → Nat
  | .nil => 0
  | .cons k _ _ _ _ q r => cntK k q.len q.cnt + r.cnt
end Fk
set_option linter.unusedVariables false
set_option linter.unusedSimpArgs false
set_option maxRecDepth 100000
set_option maxHeartbeats 2000000
namespace Fk
open Go Go.Proofs Go.RowKit
structure RS (w0 w : World) (a : Option Addr) (c : Nat) (l : List Ns) : Prop where
  md : Md [] w0 w
  own : OwnL w w0.heap.size 103 8 nsE a c l
/-- A row of states that one appends to, from a world on. -/
structure Sq (w0 wb : World) (pa : Option Addr) (n1 : Nat) (w : World) (a : Option Addr) (c : Nat) (l : List Ns) : Prop where
  rs : RS w0 w a c l
  md : Md (pa.map (·.block)).toList wb w
  rel : ∀ A, a = some A → pa = some A ∨ wb.heap.size ≤ A.block
  nlt : n1 < wb.heap.size
  np : ∀ A, pa = some A → A.block ≠ n1
section
variable {w0 wb w : World} {pa a : Option Addr} {n1 c : Nat} {l : List Ns}
theorem Sq.ln (S : Sq w0 wb pa n1 w a c l) : ∀ b ∈ [n1], b < w.heap.size := fun b hb => by simp at hb; subst hb; have := S.nlt; have := S.md.size; omega
theorem Sq.la (S : Sq w0 wb pa n1 w a c l) : ∀ b ∈ [n1], ∀ A, a = some A → A.block ≠ b := fun b hb A hA e => by
  simp at hb; subst hb
  rcases S.rel A hA with h | h
  · exact S.np A h e
  · have := S.nlt; omega
theorem Sq.step (S : Sq w0 wb pa n1 w a c l) {w' : World} {a' : Option Addr} {c' : Nat} {l' : List Ns} (h : RS w0 w' a' c' l') (hm : Md (a.map (·.block)).toList w w') (hA : ∀ A, a' = some A → a = some A ∨ w.heap.size ≤ A.block) : Sq w0 wb pa n1 w' a' c' l' :=
  ⟨h, S.md.row hm S.rel, fun A h1 => by
    rcases hA A h1 with h2 | h2
    · exact S.rel A h2
    · have := S.md.size; right; omega, S.nlt, S.np⟩
end
end Fk
set_option linter.unusedVariables false
set_option linter.unusedSimpArgs false
set_option maxRecDepth 100000
set_option maxHeartbeats 2000000
namespace Fk
open Go Go.Proofs Go.RowKit
/-- States, and beginnings. -/
structure S2 (wb : World) (n1 : Nat) (w : World) (a : Option Addr) (c : Nat) (l : List Ns) (a2 : Option Addr) (c2 : Nat) (bs : List Int) : Prop where
  q : Sq wb wb none n1 w a c l
  o : OwnL w wb.heap.size 3 1 i1 a2 c2 bs
  ap : Apt a2 a
section
variable {wb w : World} {a a2 : Option Addr} {n1 c c2 : Nat} {l : List Ns} {bs : List Int}
theorem S2.st (S : S2 wb n1 w a c l a2 c2 bs) {w' : World} {a' : Option Addr} {c' : Nat} {l' : List Ns} (h : Sq wb wb none n1 w' a' c' l') (hm : Md (a.map (·.block)).toList w w') (hA : ∀ A, a' = some A → a = some A ∨ w.heap.size ≤ A.block) : S2 wb n1 w' a' c' l' a2 c2 bs :=
  ⟨h, S.o.mdD hm fun A hA' hd => by obtain ⟨B, hB, e⟩ := mem_blk hd; exact S.ap A B hA' hB e.symm, fun A B hA' hB e => by
    rcases hA B hB with h1 | h1
    · exact S.ap A B hA' h1 e
    · have := (S.o.lt hA').2; omega⟩
end
end Fk
set_option linter.unusedVariables false
set_option linter.unusedSimpArgs false
set_option maxRecDepth 100000
set_option maxHeartbeats 2000000
namespace Fk
open Go Go.Proofs Go.RowKit
theorem rgU {L : List Nat} {w0 w : World} {K : Nat → World → Prop} (h : Good L w0 w) (k : ∀ n w', Good (n :: L) w0 w' → Md [] w w' → K n w') : Rg w fun n => Up [n] (n :: L) w (K n) :=
  fun n hn w' hm hL => k n w' ⟨h.1.trans (hm.fresh (by simp; exact hn)), hL⟩ (hm.fresh (by simp; exact hn))
section
variable {L : List Nat} {w0 w : World}
theorem in73 (a b : List Int) (A B : Option Addr) (C D : Nat) (h : Good L w0 w) (ha : RowAt w A 1 i1 a) (hb : RowAt w B 1 i1 b) (hl : a.length < 2 ^ 63) {K : Bool → World → Prop} (kk : ∀ w', Good L w0 w' → Md [] w w' → K (decide (a = b)) w') :
    CallW Try.prog L 73 #[.slice A a.length C, .slice B b.length D] (fun v w' => opB v fun b => K b w') w := by
  refine (f73_ok a b A B C D w ha hb hl).call h.2 ?_
  rintro v w' rfl h'
  exact opB_in (kk w' (h.tr h') h')
end
theorem ReC.blk {w : World} {n : Nat} {ty : TypeId} {l : List Value} (h : Blk w n ty l) (o : Nat) {k a b c d : Int} {sa : Option Addr} {sn sc : Nat}
    (e0 : l[o]? = some (.int .u8 k)) (e1 : l[o + 1]? = some (.int .u64 a)) (e2 : l[o + 2]? = some (.int .u64 b)) (e3 : l[o + 3]? = some (.int .u64 c)) (e4 : l[o + 4]? = some (.int .u64 d)) (e5 : l[o + 5]? = some (.slice sa sn sc)) :
    ReC w ((Addr.mk n 0 none).add o) k a b c d sa sn sc := by
  have e : ∀ j, ((Addr.mk n 0 none).add o).add j = ⟨n, o + j, none⟩ := fun j => by rw [add_add, ad0']
  unfold ReC
  rw [e, e, e, e, e, e]
  exact ⟨h.cell e0, h.cell e1, h.cell e2, h.cell e3, h.cell e4, h.cell e5⟩
end Fk
set_option linter.unusedVariables false
set_option linter.unusedSimpArgs false
set_option maxRecDepth 100000
namespace Fk
open Go Go.Proofs Go.RowKit
def Fo.app : Fo → Fo → Fo
  | .nil, x => x
  | .cons k a b c d q r, x => .cons k a b c d q (r.app x)
theorem TrF.app {w : World} : ∀ {l l2 : List Tr} {f f2 : Fo}, TrF w l f → TrF w l2 f2 → TrF w (l ++ l2) (f.app f2)
  | [], l2, .nil, f2, _, h2 => h2
  | t :: l, l2, .cons k a b c d q r, f2, ⟨h, h1⟩, h2 => ⟨h, TrF.app h1 h2⟩
  | [], _, .cons .., _, h, _ => h.elim
  | _ :: _, _, .nil, _, h, _ => h.elim
end Fk
set_option linter.unusedVariables false
set_option linter.unusedSimpArgs false
set_option maxRecDepth 100000
set_option maxHeartbeats 4000000
namespace Fk
open Go Go.Proofs Go.RowKit
section
variable {L : List Nat} {w0 w : World}
theorem in70 (dm : Int) (nx tg cs : List Int) (na ta ca : Option Addr) (nc tc cc : Nat) (h : Good L w0 w) (h1 : RowAt w na 1 i1 nx) (h2 : RowAt w ta 1 i1 tg) (h3 : RowAt w ca 1 i1 cs) (hl1 : nx.length < 2 ^ 63) (hl2 : tg.length < 2 ^ 63) (hl3 : cs.length < 2 ^ 30) {K : Option Addr → Nat → Nat → Int → World → Prop}
    (kk : ∀ a c w', Good L w0 w' → Md [] w w' → OwnL w' w.heap.size 3 1 i1 a c (dRun dm nx tg cs).1 → K a (dRun dm nx tg cs).1.length c (dRun dm nx tg cs).2 w') :
    CallW Try.prog L 70 #[.agg #[.int .i64 dm, .slice na nx.length nc, .slice ta tg.length tc], .slice ca cs.length cc] (fun v w' => opTu v fun cs => opL (nthD cs.toList 0) fun a n c => opI .i64 (nthD cs.toList 1) fun e => SzIs cs.size 2 (K a n c e w')) w := by
  refine (f70_ok dm nx tg cs na ta ca nc tc cc w h1 h2 h3 hl1 hl2 hl3).call h.2 ?_
  rintro v w' ⟨a, c, rfl, own⟩ h'
  exact opTu_in <| opL_in <| opI_in <| SzIs_in rfl <| kk a c w' (h.tr h') h' own
theorem in72d (dm : Int) (nx tg : List Int) (na ta : Option Addr) (nc tc : Nat) (h : Good L w0 w) (h1 : RowAt w na 1 i1 nx) (h2 : RowAt w ta 1 i1 tg) (hl1 : nx.length < 2 ^ 63) (hl2 : tg.length < 2 ^ 63) {K : Bool → World → Prop} (kk : ∀ w', Good L w0 w' → Md [] w w' → K (dRight dm nx tg) w') :
    CallW Try.prog L 72 #[.agg #[.int .i64 dm, .slice na nx.length nc, .slice ta tg.length tc]] (fun v w' => opB v fun b => K b w') w := by
  refine (f72_ok dm nx tg na ta nc tc w h1 h2 hl1 hl2).call h.2 ?_
  rintro v w' rfl h'
  exact opB_in (kk w' (h.tr h') h')
theorem in90 (dm : Int) (na ta : Option Addr) (nn nc tn tc : Nat) (h : Good L w0 w) {K : Bool → World → Prop} (kk : ∀ w', Good L w0 w' → Md [] w w' → K (decide (tn ≤ 60) && decide (nn ≤ 2400)) w') :
    CallW Try.prog L 90 #[.agg #[.int .i64 dm, .slice na nn nc, .slice ta tn tc]] (fun v w' => opB v fun b => K b w') w := by
  refine (f90_ok dm na ta nn nc tn tc w).call h.2 ?_
  rintro v w' rfl h'
  exact opB_in (kk w' (h.tr h') h')
theorem in96 (dm em : Int) (na nb ta tb : List Int) (A B D E : Option Addr) (C1 C2 C3 C4 : Nat) (h : Good L w0 w) (h1 : RowAt w A 1 i1 na) (h2 : RowAt w B 1 i1 ta) (h3 : RowAt w D 1 i1 nb) (h4 : RowAt w E 1 i1 tb) (hl1 : na.length < 2 ^ 63) (hl2 : ta.length < 2 ^ 63) {K : Bool → World → Prop} (kk : ∀ w', Good L w0 w' → Md [] w w' → K (decide (dm = em) && decide (na = nb) && decide (ta = tb)) w') :
    CallW Try.prog L 96 #[.agg #[.int .i64 dm, .slice A na.length C1, .slice B ta.length C2], .agg #[.int .i64 em, .slice D nb.length C3, .slice E tb.length C4]] (fun v w' => opB v fun b => K b w') w := by
  refine (f96_ok dm em na nb ta tb A B D E C1 C2 C3 C4 w h1 h2 h3 h4 hl1 hl2).call h.2 ?_
  rintro v w' rfl h'
  exact opB_in (kk w' (h.tr h') h')
end
end Fk
set_option linter.unusedVariables false
set_option linter.unusedSimpArgs false
set_option maxRecDepth 100000
set_option maxHeartbeats 4000000
namespace Fk
open Go Go.Proofs Go.RowKit
section
variable {L : List Nat} {w0 w : World}
end
section
variable {L : List Nat} {w0 w : World}
end
section
variable {L : List Nat} {w0 w : World}
end
theorem ints_lit {w : World} (l : List Int) (cs : Array Value) (hc : cs.toList = l.flatMap i1) (hl : l.length ≤ 1000) : RowAt (w.alloc (.cells cs 3)) (some ⟨w.heap.size, 0, none⟩) 1 i1 l :=
  (OwnL.lit (P := Try.prog) (base := w.heap.size) enci1 w 3 l cs (Nat.le_refl _) (by simp [maxLen]; omega) hc).row enci1
end Fk
set_option linter.unusedVariables false
set_option linter.unusedSimpArgs false
set_option linter.unusedSectionVars false
set_option maxRecDepth 100000
set_option maxHeartbeats 1000000
namespace Fk
open Go Go.Proofs Go.RowKit
theorem leastD_len {dm : Int} {next tags : List Int} (hl : tags.length < 2 ^ 12) : (leastD dm next tags).1.2.1.length ≤ 2 ^ 20 ∧ (leastD dm next tags).1.2.2.length ≤ tags.length := by
  unfold leastD
  by_cases h : dRight dm next tags = true
  · rw [if_pos h]
    obtain ⟨D, em⟩ := dIn_of (drOk h) hl
    have hI := leastP_LI D.ok D.n1
    have hb := hI.bound
    have hm := D.m2
    have hn := D.n2
    have e : (dMch dm next tags).n = tags.length := rfl
    refine ⟨?_, by simp only [List.length_map]; omega⟩
    show (leastP (dMch dm next tags)).2.length ≤ _
    rw [hI.len]
    have : (leastP (dMch dm next tags)).1.length * (dMch dm next tags).m ≤ 2 ^ 12 * 256 := Nat.mul_le_mul (by omega) hm
    omega
  · rw [if_neg h]; simp
section
variable {L : List Nat} {w0 w : World}
theorem in92 (dm : Int) (next tags : List Int) (na ta : Option Addr) (nc tc : Nat) (h : Good L w0 w) (hn : RowAt w na 1 i1 next) (ht : RowAt w ta 1 i1 tags) (hnl : next.length < 2 ^ 62) (htl : tags.length < 2 ^ 12) {K : Int → Option Addr → Nat → Nat → Option Addr → Nat → Nat → Int → World → Prop}
    (kk : ∀ a c a2 c2 w', Good L w0 w' → Md [] w w' → RowAt w' a 1 i1 (leastD dm next tags).1.2.1 → RowAt w' a2 1 i1 (leastD dm next tags).1.2.2 → K (leastD dm next tags).1.1 a (leastD dm next tags).1.2.1.length c a2 (leastD dm next tags).1.2.2.length c2 (leastD dm next tags).2 w') :
    CallW Try.prog L 92 #[.agg #[.int .i64 dm, .slice na next.length nc, .slice ta tags.length tc]] (fun v w' => opTu v fun cs => opAg (nthD cs.toList 0) fun cs2 => opI .i64 (nthD cs2.toList 0) fun x => opL (nthD cs2.toList 1) fun a n c => opL (nthD cs2.toList 2) fun a2 n2 c2 => SzIs cs2.size 3 (opI .i64 (nthD cs.toList 1) fun e => SzIs cs.size 2 (K x a n c a2 n2 c2 e w'))) w := by
  refine (f92_ok dm next tags na ta nc tc w hn ht hnl htl).call h.2 ?_
  rintro v w' ⟨a, c, a2, c2, rfl, o1, o2⟩ h'
  exact opTu_in <| opAg_in <| opI_in <| opL_in <| opL_in <| SzIs_in rfl <| opI_in <| SzIs_in rfl <| kk a c a2 c2 w' (h.tr h') h' (o1.row enci1) (o2.row enci1)
end
/-- Which states are alike is told by classes. -/
theorem al_cls {M : Mch} (c : Nat → Nat) (h1 : ∀ x y, c x = c y → M.tag x = M.tag y) (h2 : ∀ x y k, k < M.m → c x = c y → c (M.go x k) = c (M.go y k)) (h3 : ∀ x y, c x ≠ c y → ∃ ks : List Nat, (∀ k ∈ ks, k < M.m) ∧ M.tag (M.run ks x) ≠ M.tag (M.run ks y)) : al M = fun x y => c x == c y := by
  funext x y
  rw [Bool.eq_iff_iff, al_iff, beq_iff_eq]
  constructor
  · intro h
    refine Classical.byContradiction fun hn => ?_
    obtain ⟨ks, hk, hne⟩ := h3 x y hn
    exact hne (h ks hk)
  · intro h
    exact alike_of (R := fun x y => c x = c y) h1 (fun x y k hxy hk => h2 x y k hk hxy) x y h
def lsStepG (f : Nat → Nat → Bool) (n : Nat) (p : List Nat × List Int) (t : Nat) : List Nat × List Int :=
  if f t n = true then (p.1, p.2 ++ [-1]) else (if (p.1.map fun x => f x t).idxOf true < p.1.length then p.1 else p.1 ++ [t], p.2 ++ [((p.1.map fun x => f x t).idxOf true : Int)])
def lsRowG (f : Nat → Nat → Bool) (M : Mch) (s : Nat) (p : List Nat × List Int) : Nat → List Nat × List Int
  | 0 => p
  | k + 1 => lsStepG f M.n (lsRowG f M s p k) (M.go s k)
def lsG (f : Nat → Nat → Bool) (M : Mch) : Nat → List Nat × List Int
  | 0 => ([0], [])
  | i + 1 => match (lsG f M i).1[i]? with
    | some s => lsRowG f M s (lsG f M i) M.m
    | none => lsG f M i
theorem lsRowG_eq (M : Mch) (s : Nat) (p : List Nat × List Int) : ∀ k, lsRowG (al M) M s p k = lsRow M s p k
  | 0 => rfl
  | k + 1 => by
    show lsStepG (al M) M.n (lsRowG (al M) M s p k) (M.go s k) = _
    rw [lsRowG_eq M s p k]; rfl
theorem lsG_eq (M : Mch) : ∀ i, lsG (al M) M i = ls M i
  | 0 => rfl
  | i + 1 => by
    simp only [lsG, ls]
    rw [lsG_eq M i]
    cases (ls M i).1[i]? with
    | none => rfl
    | some s => exact lsRowG_eq M s _ _
theorem leastP_cls {M : Mch} (c : Nat → Nat) (h1 : ∀ x y, c x = c y → M.tag x = M.tag y) (h2 : ∀ x y k, k < M.m → c x = c y → c (M.go x k) = c (M.go y k)) (h3 : ∀ x y, c x ≠ c y → ∃ ks : List Nat, (∀ k ∈ ks, k < M.m) ∧ M.tag (M.run ks x) ≠ M.tag (M.run ks y)) :
    leastP M = lsG (fun x y => c x == c y) M (M.n + 1) := by
  rw [← al_cls c h1 h2 h3]
  exact (lsG_eq M _).symm
/-- Machines of a few states: whatever is no state is nowhere. -/
theorem dM_big {dm : Int} {next tags : List Int} {x : Nat} (h : tags.length ≤ x) : (dMch dm next tags).tag x = -1 ∧ ∀ k, (dMch dm next tags).go x k = tags.length := by
  refine ⟨?_, fun k => ?_⟩
  · show (if x < tags.length then _ else _) = _; rw [if_neg (by omega)]
  · show (if x < tags.length then _ else _) = _; rw [if_neg (by omega)]
/-- Enough: what is so of states up to the last, and of one beyond. -/
theorem cls_fin {dm : Int} {next tags : List Int} (c : List Nat) (d : Nat) (hc : c.length = tags.length) (h1 : ∀ x, x ≤ tags.length → ∀ y, y ≤ tags.length → c.getD x d = c.getD y d → (dMch dm next tags).tag x = (dMch dm next tags).tag y)
    (h2 : ∀ x, x ≤ tags.length → ∀ y, y ≤ tags.length → ∀ k, k < dm.toNat → c.getD x d = c.getD y d → c.getD ((dMch dm next tags).go x k) d = c.getD ((dMch dm next tags).go y k) d)
    (h3 : ∀ x, x ≤ tags.length → ∀ y, y ≤ tags.length → c.getD x d ≠ c.getD y d → (dMch dm next tags).tag x ≠ (dMch dm next tags).tag y ∨ ∃ k, k < dm.toNat ∧ (dMch dm next tags).tag ((dMch dm next tags).go x k) ≠ (dMch dm next tags).tag ((dMch dm next tags).go y k)) :
    leastP (dMch dm next tags) = lsG (fun x y => c.getD x d == c.getD y d) (dMch dm next tags) (tags.length + 1) := by
  -- one that is beyond is as the last one
  have cut : ∀ x, ∃ x', x' ≤ tags.length ∧ c.getD x d = c.getD x' d ∧ (dMch dm next tags).tag x = (dMch dm next tags).tag x' ∧ ∀ k, (dMch dm next tags).go x k = (dMch dm next tags).go x' k := fun x => by
    by_cases h : x ≤ tags.length
    · exact ⟨x, h, rfl, rfl, fun _ => rfl⟩
    · refine ⟨tags.length, Nat.le_refl _, ?_, ?_, fun k => ?_⟩
      · rw [List.getD_eq_getElem?_getD, List.getD_eq_getElem?_getD, List.getElem?_eq_none (by omega), List.getElem?_eq_none (by omega)]
      · rw [(dM_big (by omega)).1, (dM_big (Nat.le_refl _)).1]
      · rw [(dM_big (by omega)).2, (dM_big (Nat.le_refl _)).2]
  refine leastP_cls (fun x => c.getD x d) (fun x y hxy => ?_) (fun x y k hk hxy => ?_) fun x y hxy => ?_
  · obtain ⟨x', hx, a1, a2, _⟩ := cut x
    obtain ⟨y', hy, b1, b2, _⟩ := cut y
    rw [a2, b2]
    exact h1 x' hx y' hy (by rw [← a1, ← b1]; exact hxy)
  · obtain ⟨x', hx, a1, _, a3⟩ := cut x
    obtain ⟨y', hy, b1, _, b3⟩ := cut y
    show c.getD ((dMch dm next tags).go x k) d = c.getD ((dMch dm next tags).go y k) d
    rw [a3, b3]
    exact h2 x' hx y' hy k hk (by rw [← a1, ← b1]; exact hxy)
  · obtain ⟨x', hx, a1, a2, a3⟩ := cut x
    obtain ⟨y', hy, b1, b2, b3⟩ := cut y
    rcases h3 x' hx y' hy (by rw [← a1, ← b1]; exact hxy) with h | ⟨k, hk, h⟩
    · exact ⟨[], by simp, by rw [← a2, ← b2] at h; exact h⟩
    · have hks : ∀ j ∈ [k], j < (dMch dm next tags).m := fun j hj => by
        have e : j = k := List.mem_singleton.1 hj
        rw [e]; exact hk
      refine ⟨[k], hks, ?_⟩
      rw [← a3, ← b3] at h
      exact h
theorem ex_l1 : leastD 1 [1, 2, 2] [0, 0, 0] = ((1, [0], [0]), 0) := by
  have h := cls_fin (dm := 1) (next := [1, 2, 2]) (tags := [0, 0, 0]) [0, 0, 0] 1 rfl (by decide) (by decide) (by decide)
  unfold leastD
  rw [if_pos (by decide), h]
  rfl
theorem ex_l2 : leastD 2 [1, 2, 1, 2, 1, 2] [-1, 0, 0] = ((2, [1, 1, 1, 1], [-1, 0]), 0) := by
  have h := cls_fin (dm := 2) (next := [1, 2, 1, 2, 1, 2]) (tags := [-1, 0, 0]) [0, 1, 1] 2 rfl (by decide) (by decide) (by decide)
  unfold leastD
  rw [if_pos (by decide), h]
  rfl
theorem ex_l3 : leastD 2 [0, 0] [-1] = ((2, [-1, -1], [-1]), 0) := by
  have h := cls_fin (dm := 2) (next := [0, 0]) (tags := [-1]) [0] 0 rfl (by decide) (by decide) (by decide)
  unfold leastD
  rw [if_pos (by decide), h]
  rfl
theorem ex_l4 : leastD 0 [] [] = ((0, [], []), 2) := by
  unfold leastD
  rw [if_neg (by decide)]
section
theorem f187_ok (dm em : Int) (na nb ta tb : List Int) (A B D E : Option Addr) (C1 C2 C3 C4 : Nat) (w : World) (h1 : RowAt w A 1 i1 na) (h2 : RowAt w B 1 i1 ta) (h3 : RowAt w D 1 i1 nb) (h4 : RowAt w E 1 i1 tb) (hl1 : na.length < 2 ^ 62) (hl2 : ta.length < 2 ^ 12) :
    Ct Try.prog 187 #[.agg #[.int .i64 dm, .slice A na.length C1, .slice B ta.length C2], .agg #[.int .i64 em, .slice D nb.length C3, .slice E tb.length C4]] w fun v w' => v = .bool (decide ((leastD dm na ta).2 = 0) && (decide ((leastD dm na ta).1.1 = em) && decide ((leastD dm na ta).1.2.1 = nb) && decide ((leastD dm na ta).1.2.2 = tb))) ∧ Md [] w w' := by
  apply f187_in
  intro n1 hn1 n2 hn2 w3 m3 hL3
  have g3 : Good [n2, n1] w w3 := ⟨m3, hL3⟩
  have hlen := leastD_len (dm := dm) (next := na) hl2
  refine in92 dm na ta A B C1 C2 g3 (h1.md m3) (h2.md m3) hl1 hl2 fun a c a2 c2 w5 g5 m5 r1 r2 n16 hn16 => ?_
  refine Bd_in fun b17 hb17 w18 m18 hL18 => ?_
  have m18' : Md [] w5 w18 := m18.fresh (by simp; exact hn16)
  have g18 : Good [n16, n2, n1] w w18 := ⟨g5.1.trans m18', hL18⟩
  have fin : ∀ (b : Bool) (w' : World), Md [] w w' → ((Value.bool (bif b17 then b else false) = .bool (decide ((leastD dm na ta).2 = 0) && (decide ((leastD dm na ta).1.1 = em) && decide ((leastD dm na ta).1.2.1 = nb) && decide ((leastD dm na ta).1.2.2 = tb)))) ∧ Md [] w w') ∨ ¬ (b17 = true → b = (decide ((leastD dm na ta).1.1 = em) && decide ((leastD dm na ta).1.2.1 = nb) && decide ((leastD dm na ta).1.2.2 = tb))) := fun b w' hm => by
    by_cases hb : b17 = true → b = (decide ((leastD dm na ta).1.1 = em) && decide ((leastD dm na ta).1.2.1 = nb) && decide ((leastD dm na ta).1.2.2 = tb))
    · left
      refine ⟨?_, hm⟩
      congr 1
      have e : b17 = decide ((leastD dm na ta).2 = 0) := by rw [hb17, Bool.eq_iff_iff, beq_iff_eq, decide_eq_true_eq]
      rw [← e]
      cases hb2 : b17 with
      | false => rfl
      | true => rw [hb hb2]; rfl
    · exact .inr hb
  cases hb2 : b17 with
  | false =>
    refine Gd_f <| Bd_e rfl ?_
    rcases fin false w18 g18.1 with h | h
    · rw [hb2] at h; exact h
    · exact absurd (fun e => by rw [hb2] at e; cases e) h
  | true =>
    refine Gd_t <| in96 _ em _ nb _ tb a a2 D E c c2 C3 C4 g18 (r1.md m18') (r2.md m18') (h3.md g18.1) (h4.md g18.1) (by omega) (by omega) fun w21 g21 m21 => Bd_e rfl ?_
    rcases fin _ w21 g21.1 with h | h
    · rw [hb2] at h; exact h
    · exact absurd (fun _ => rfl) h
variable {L : List Nat} {w0 w : World}
theorem in187 (dm em : Int) (na nb ta tb : List Int) (A B D E : Option Addr) (C1 C2 C3 C4 : Nat) (h : Good L w0 w) (h1 : RowAt w A 1 i1 na) (h2 : RowAt w B 1 i1 ta) (h3 : RowAt w D 1 i1 nb) (h4 : RowAt w E 1 i1 tb) (hl1 : na.length < 2 ^ 62) (hl2 : ta.length < 2 ^ 12) (he : leastD dm na ta = ((em, nb, tb), 0)) {K : Bool → World → Prop} (kk : ∀ w', Good L w0 w' → Md [] w w' → K true w') :
    CallW Try.prog L 187 #[.agg #[.int .i64 dm, .slice A na.length C1, .slice B ta.length C2], .agg #[.int .i64 em, .slice D nb.length C3, .slice E tb.length C4]] (fun v w' => opB v fun b => K b w') w := by
  refine (f187_ok dm em na nb ta tb A B D E C1 C2 C3 C4 w h1 h2 h3 h4 hl1 hl2).call h.2 ?_
  rintro v w' rfl h'
  refine opB_in ?_
  have : (decide ((leastD dm na ta).2 = 0) && (decide ((leastD dm na ta).1.1 = em) && decide ((leastD dm na ta).1.2.1 = nb) && decide ((leastD dm na ta).1.2.2 = tb))) = true := by rw [he]; simp
  rw [this]
  exact kk w' (h.tr h') h'
end
theorem f91_ok (w : World) : Ct Try.prog 91 #[] w fun v w' => v = .bool true ∧ Md [] w w' := by
  apply f91_in
  have lit : ∀ (w : World) (l : List Int) (cs : Array Value), cs.toList = l.flatMap i1 → l.length ≤ 1000 → RowAt (w.alloc (.cells cs 3)) (some ⟨w.heap.size, 0, none⟩) 1 i1 l := fun w l cs hc hl => ints_lit l cs hc hl
  have al : ∀ (w : World) (o : Obj), Md [] w (w.alloc o) := fun w o => Md.alloc w o
  have g0 : Good [] w w := ⟨Md.refl _ _, by simp⟩
  intro n1 w2 e1 e2 n3 w4 e3 e4 n5 w6 e5 e6 n7 w8 e7 e8
  have m2 : Md [] w w2 := by rw [e2]; exact al _ _
  have m4 : Md [] w2 w4 := by rw [e4]; exact al _ _
  have m6 : Md [] w4 w6 := by rw [e6]; exact al _ _
  have m8 : Md [] w6 w8 := by rw [e8]; exact al _ _
  have r1 : RowAt w2 (some ⟨n1, 0, none⟩) 1 i1 [1, 2, 2] := by rw [e1, e2]; exact lit _ _ _ rfl (by decide)
  have r3 : RowAt w4 (some ⟨n3, 0, none⟩) 1 i1 [0, 0, 0] := by rw [e3, e4]; exact lit _ _ _ rfl (by decide)
  have r5 : RowAt w6 (some ⟨n5, 0, none⟩) 1 i1 [0] := by rw [e5, e6]; exact lit _ _ _ rfl (by decide)
  have r7 : RowAt w8 (some ⟨n7, 0, none⟩) 1 i1 [0] := by rw [e7, e8]; exact lit _ _ _ rfl (by decide)
  refine in187 1 1 [1, 2, 2] [0] [0, 0, 0] [0] _ _ _ _ 3 3 1 1 (g0.tr (((m2.trans m4).trans m6).trans m8)) (r1.md ((m4.trans m6).trans m8)) (r3.md (m6.trans m8)) (r5.md m8) r7 (by decide) (by decide) ex_l1 fun w10 g10 _ => ?_
  clear m2 m4 m6 m8 r1 r3 r5 r7 e1 e2 e3 e4 e5 e6 e7 e8
  intro n1 w2 e1 e2 n3 w4 e3 e4 n5 w6 e5 e6 n7 w8 e7 e8
  have m2 : Md [] w10 w2 := by rw [e2]; exact al _ _
  have m4 : Md [] w2 w4 := by rw [e4]; exact al _ _
  have m6 : Md [] w4 w6 := by rw [e6]; exact al _ _
  have m8 : Md [] w6 w8 := by rw [e8]; exact al _ _
  have r1 : RowAt w2 (some ⟨n1, 0, none⟩) 1 i1 [1, 2, 1, 2, 1, 2] := by rw [e1, e2]; exact lit _ _ _ rfl (by decide)
  have r3 : RowAt w4 (some ⟨n3, 0, none⟩) 1 i1 [-1, 0, 0] := by rw [e3, e4]; exact lit _ _ _ rfl (by decide)
  have r5 : RowAt w6 (some ⟨n5, 0, none⟩) 1 i1 [1, 1, 1, 1] := by rw [e5, e6]; exact lit _ _ _ rfl (by decide)
  have r7 : RowAt w8 (some ⟨n7, 0, none⟩) 1 i1 [-1, 0] := by rw [e7, e8]; exact lit _ _ _ rfl (by decide)
  refine in187 2 2 [1, 2, 1, 2, 1, 2] [1, 1, 1, 1] [-1, 0, 0] [-1, 0] _ _ _ _ 6 3 4 2 (g10.tr (((m2.trans m4).trans m6).trans m8)) (r1.md ((m4.trans m6).trans m8)) (r3.md (m6.trans m8)) (r5.md m8) r7 (by decide) (by decide) ex_l2 fun w21 g21 _ => ?_
  clear m2 m4 m6 m8 r1 r3 r5 r7 e1 e2 e3 e4 e5 e6 e7 e8
  intro n1 w2 e1 e2 n3 w4 e3 e4 n5 w6 e5 e6 n7 w8 e7 e8
  have m2 : Md [] w21 w2 := by rw [e2]; exact al _ _
  have m4 : Md [] w2 w4 := by rw [e4]; exact al _ _
  have m6 : Md [] w4 w6 := by rw [e6]; exact al _ _
  have m8 : Md [] w6 w8 := by rw [e8]; exact al _ _
  have r1 : RowAt w2 (some ⟨n1, 0, none⟩) 1 i1 [0, 0] := by rw [e1, e2]; exact lit _ _ _ rfl (by decide)
  have r3 : RowAt w4 (some ⟨n3, 0, none⟩) 1 i1 [-1] := by rw [e3, e4]; exact lit _ _ _ rfl (by decide)
  have r5 : RowAt w6 (some ⟨n5, 0, none⟩) 1 i1 [-1, -1] := by rw [e5, e6]; exact lit _ _ _ rfl (by decide)
  have r7 : RowAt w8 (some ⟨n7, 0, none⟩) 1 i1 [-1] := by rw [e7, e8]; exact lit _ _ _ rfl (by decide)
  refine in187 2 2 [0, 0] [-1, -1] [-1] [-1] _ _ _ _ 2 1 2 1 (g21.tr (((m2.trans m4).trans m6).trans m8)) (r1.md ((m4.trans m6).trans m8)) (r3.md (m6.trans m8)) (r5.md m8) r7 (by decide) (by decide) ex_l3 fun w32 g32 _ => ?_
  clear m2 m4 m6 m8 r1 r3 r5 r7 e1 e2 e3 e4 e5 e6 e7 e8
  have rn : ∀ w : World, RowAt w none 1 i1 ([] : List Int) := fun w i x h => by simp at h
  refine in92 0 [] [] none none 0 0 g32 (rn _) (rn _) (by decide) (by decide) fun a c a2 c2 w35 g35 m35 _ _ => ?_
  rw [ex_l4]
  intro n46 hn46
  refine Bd_e (y := true) rfl <| Bd_e (y := true) rfl <| Bd_e (y := true) rfl <| Bd_e (y := true) rfl fun w51 m51 _ => ⟨rfl, ?_⟩
  exact g35.1.trans (m51.fresh (by simp; exact hn46))
section
variable {L : List Nat} {w0 w : World}
theorem in91 (h : Good L w0 w) {K : Bool → World → Prop} (kk : ∀ w', Good L w0 w' → K true w') : CallW Try.prog L 91 #[] (fun v w' => opB v fun b => K b w') w := by
  refine (f91_ok w).call h.2 ?_
  rintro v w' rfl h'
  exact opB_in (kk w' (h.tr h'))
end
end Fk
set_option linter.unusedVariables false
set_option linter.unusedSimpArgs false
set_option maxRecDepth 100000
set_option maxHeartbeats 4000000
namespace Fk
open Go Go.Proofs Go.RowKit
theorem Good.up {L D : List Nat} {w0 w w' : World} (g : Good L w0 w) (hD : ∀ d ∈ D, w.heap.size ≤ d) (hm : Md D w w') {L' : List Nat} (hL : ∀ b ∈ L', b < w'.heap.size) : Good L' w0 w' ∧ Md [] w w' :=
  ⟨⟨g.1.trans (hm.fresh hD), hL⟩, hm.fresh hD⟩
end Fk
set_option linter.unusedVariables false
set_option linter.unusedSimpArgs false
set_option maxRecDepth 100000
set_option maxHeartbeats 4000000
namespace Fk
open Go Go.Proofs Go.RowKit
theorem size31 (w : World) : (Go.sizeOf 3).run Try.prog w = .ok 1 w := by
  have h : (Try.prog.info? 3).map (·.size) = some 1 := by kernel_rfl
  cases hi : Try.prog.info? 3 with
  | none => rw [hi] at h; cases h
  | some i => rw [hi] at h; simp [Go.sizeOf, typeInfo, hi]; simpa using h
theorem dGo_len (dm : Int) (nx tg : List Int) : ∀ (l : List Int) (a : Int), (dGo dm nx tg l a).length = l.length
  | [], a => rfl
  | x :: l, a => by simp [dGo, dGo_len dm nx tg l]
theorem tmod2 (x dm : Int) (h1 : 1 ≤ dm) (h2 : dm ≤ 256) : IntKind.wrap .i64 (x.tmod dm + dm) = x.tmod dm + dm ∧ 0 ≤ (x.tmod dm + dm).tmod dm ∧ (x.tmod dm + dm).tmod dm < dm := by
  have a1 := Int.tmod_lt_of_pos x (show 0 < dm by omega)
  have a2 := Int.lt_tmod_of_pos x (show 0 < dm by omega)
  refine ⟨by rw [IntKind.wrap_i64]; omega, Int.tmod_nonneg _ (by omega), Int.tmod_lt_of_pos _ (by omega)⟩
def fit (dm x : Int) : Int := (x.tmod dm + dm).tmod dm
theorem dRun_ok {dm : Int} {nx tg cs : List Int} (h : dRight dm nx tg = true) (hc : ∀ x ∈ cs, 0 ≤ x ∧ x < dm) : dRun dm nx tg cs = (dTag tg 0 :: dGo dm nx tg cs 0, 0) := by
  unfold dRun
  rw [if_pos ⟨h, by unfold inCs; rw [List.all_eq_true]; exact fun x hx => decide_eq_true (hc x hx)⟩]
end Fk
set_option linter.unusedVariables false
set_option linter.unusedSimpArgs false
set_option linter.unusedSectionVars false
set_option maxRecDepth 100000
set_option maxHeartbeats 1000000
namespace Fk
open Go Go.Proofs Go.RowKit
theorem fit_in {dm x : Int} (h1 : 1 ≤ dm) (h2 : dm ≤ 256) : 0 ≤ fit dm x ∧ fit dm x < dm := (tmod2 x dm h1 h2).2
theorem f111_ok (l : List Int) (a : Option Addr) (c : Nat) (dm : Int) (h1 : 1 ≤ dm) (h2 : dm ≤ 256) (w : World) (h : RowAt w a 1 i1 l) (hl : l.length < 2 ^ 30) :
    Ct Try.prog 111 #[.slice a l.length c, .int .i64 dm] w fun v w' => (∃ (a' : Option Addr) (c' : Nat), v = .slice a' (l.map (fit dm)).length c' ∧ OwnL w' w.heap.size 3 1 i1 a' c' (l.map (fit dm))) ∧ Md [] w w' := by
  apply f111_in
  refine Bd_e rfl ?_
  refine LoopP_in (fun mm us vs w' => ∃ (i : Nat) (a' : Option Addr) (c' : Nat), us = [.slice a' ((l.take i).map (fit dm)).length c', .int .i64 i] ∧ mm = l.length - i ∧ i ≤ l.length ∧ OwnL w' w.heap.size 3 1 i1 a' c' ((l.take i).map (fit dm)) ∧ Md [] w w') l.length
    ⟨0, none, 0, rfl, rfl, by omega, OwnL.nil _ _ _ _ _, Md.refl _ _⟩ ?_
  rintro mm us vs w5 ⟨i, a', c', rfl, hmm, hi, o, m⟩
  refine opL_in <| opI_in <| Bd_in fun b10 hb10 => If_in (fun hb => ?_) fun hb => ?_
  · have hil : i < l.length := by rw [hb10] at hb; have : (i : Int) < (l.length : Int) := of_decide_eq_true hb
                                  omega
    obtain ⟨t1, _, _⟩ := tmod2 l[i] dm h1 h2
    refine ⟨h.ix hil, (h.md m).ld1 hil rfl <| opI_in ⟨by omega, Bd_e rfl <| Bd_e t1 ⟨by omega, Bd_e (y := fit dm l[i]) rfl ?_⟩⟩⟩
    have hlen : ((l.take i).map (fit dm)).length ≤ l.length := by rw [List.length_map, List.length_take]; omega
    refine app_one rowT52 enci1 (fit dm l[i]) rfl o m.size (by simp) (by simp) (by simp only [maxLen]; omega) (by omega) fun a2 c2 w' o' m' hA => opL_in <| Bd_e (inc_i64 (by omega)) ⟨l.length - (i + 1), by omega, i + 1, a2, c2, ?_, rfl, by omega, ?_, m.old m' fun d hd => by obtain ⟨A, hA, rfl⟩ := mem_blk hd; exact (o.lt hA).1⟩
    · rw [List.take_succ_eq_append_getElem hil, List.map_append]; rfl
    · rw [List.take_succ_eq_append_getElem hil, List.map_append]; exact o'
  · have hil : i = l.length := by
      have : ¬ (i : Int) < (l.length : Int) := by rw [hb10] at hb; exact of_decide_eq_false hb
      omega
    rw [hil, List.take_length] at o
    exact ⟨⟨a', c', by rw [hil, List.take_length], o⟩, m⟩
theorem stD_neg {tags : List Int} {a : Int} (h : a < 0) : stD tags a = tags.length := by unfold stD; rw [if_pos h]
theorem stD_nat {tags : List Int} (a : Nat) : stD tags (a : Int) = a := by unfold stD; rw [if_neg (by omega)]; simp
/-- From state to state, with numbers below 0 for nowhere. -/
theorem dNext_st {dm : Int} {nx tg : List Int} (D : DrOk dm nx tg) {a x : Int} (h1 : -1 ≤ a) (h2 : a < tg.length) (h3 : 0 ≤ x) (h4 : x < dm) : -1 ≤ dNext dm nx a x ∧ dNext dm nx a x < tg.length ∧ stD tg (dNext dm nx a x) = (dMch dm nx tg).go (stD tg a) x.toNat := by
  have h5 := D.next h2 h3 h4
  by_cases c : 0 ≤ a
  · obtain ⟨n, rfl⟩ := Int.eq_ofNat_of_zero_le c
    obtain ⟨k, rfl⟩ := Int.eq_ofNat_of_zero_le h3
    have hn : n < tg.length := by omega
    have e : ((n : Int) * dm + (k : Int)).toNat = n * dm.toNat + k := by
      have h6 := D.m1
      have : ((n * dm.toNat + k : Nat) : Int) = (n : Int) * dm + k := by
        rw [Int.natCast_add, Int.natCast_mul, Int.toNat_of_nonneg (by omega)]
      omega
    have hd : dNext dm nx (n : Int) (k : Int) = nx.getD (n * dm.toNat + k) (-1) := by
      unfold dNext; rw [if_pos c, e]
    have hlow : -1 ≤ dNext dm nx (n : Int) (k : Int) := by
      rw [hd, List.getD_eq_getElem?_getD]
      cases h7 : nx[n * dm.toNat + k]? with
      | none => simp
      | some v => simp; exact (D.nxt v (List.mem_of_getElem? h7)).1
    refine ⟨hlow, h5, ?_⟩
    rw [stD_nat, Int.toNat_natCast]
    show _ = if n < tg.length then (if 0 ≤ nx.getD (n * dm.toNat + k) (-1) then (nx.getD (n * dm.toNat + k) (-1)).toNat else tg.length) else tg.length
    rw [if_pos hn, ← hd]
    unfold stD
    by_cases c2 : dNext dm nx (n : Int) (k : Int) < 0
    · rw [if_pos c2, if_neg (by omega)]
    · rw [if_neg c2, if_pos (by omega)]
  · have e : dNext dm nx a x = a := by unfold dNext; rw [if_neg c]
    rw [e]
    refine ⟨h1, h2, ?_⟩
    rw [stD_neg (by omega)]
    show _ = if tg.length < tg.length then _ else tg.length
    rw [if_neg (Nat.lt_irrefl _)]
theorem dTag_st {dm : Int} {nx tg : List Int} {a : Int} (h1 : -1 ≤ a) (h2 : a < tg.length) : dTag tg a = (dMch dm nx tg).tag (stD tg a) := by
  unfold dTag
  by_cases c : 0 ≤ a
  · obtain ⟨n, rfl⟩ := Int.eq_ofNat_of_zero_le c
    rw [if_pos c, stD_nat, Int.toNat_natCast]
    show _ = if n < tg.length then tg.getD n (-1) else -1
    rw [if_pos (by omega)]
  · rw [if_neg c, stD_neg (by omega)]
    show _ = if tg.length < tg.length then _ else (-1 : Int)
    rw [if_neg (Nat.lt_irrefl _)]
/-- Machines of which two states are equal behind all classes tell the same tags. -/
theorem dGo_eqv {dm em : Int} {nx tg ny tu : List Int} (D : DrOk dm nx tg) (E : DrOk em ny tu) (hm : dm = em) : ∀ (cs : List Int) (a b : Int), (∀ x ∈ cs, 0 ≤ x ∧ x < dm) → -1 ≤ a → a < tg.length → -1 ≤ b → b < tu.length →
    Eqv (dMch dm nx tg) (dMch em ny tu) (stD tg a) (stD tu b) → dGo dm nx tg cs a = dGo em ny tu cs b
  | [], a, b, _, _, _, _, _, _ => rfl
  | x :: cs, a, b, hc, a1, a2, b1, b2, he => by
    obtain ⟨h3, h4⟩ := hc x (by simp)
    obtain ⟨p1, p2, p3⟩ := dNext_st D a1 a2 h3 h4
    obtain ⟨q1, q2, q3⟩ := dNext_st E b1 b2 h3 (by omega)
    have hk : x.toNat < (dMch dm nx tg).m := by show x.toNat < dm.toNat; omega
    have he' : Eqv (dMch dm nx tg) (dMch em ny tu) (stD tg (dNext dm nx a x)) (stD tu (dNext em ny b x)) := by
      rw [p3, q3]; exact he.go hk
    simp only [dGo]
    rw [dTag_st (dm := dm) (nx := nx) p1 p2, dTag_st (dm := em) (nx := ny) q1 q2, dGo_eqv D E hm cs _ _ (fun y hy => hc y (List.mem_cons_of_mem _ hy)) p1 p2 q1 q2 he']
    congr 1
    exact he' [] (by simp)
/-- What the least machine's rows say. -/
theorem leastP_ent {M : Mch} (hM : M.ok) (hn : 1 ≤ M.n) {i k s : Nat} (hs : (leastP M).1[i]? = some s) (hk : k < M.m) : ∃ v, (leastP M).2[i * M.m + k]? = some v ∧ EN M (leastP M).1 v (M.go s k) := by
  have hI := leastP_LI hM hn
  have hi := (List.getElem?_eq_some_iff.1 hs).1
  have hm0 : 0 < M.m := by omega
  have hlt : i * M.m + k < (leastP M).2.length := by
    rw [hI.len]
    have : (i + 1) * M.m ≤ (leastP M).1.length * M.m := Nat.mul_le_mul_right _ hi
    rw [Nat.succ_mul] at this
    omega
  refine ⟨_, List.getElem?_eq_getElem hlt, ?_⟩
  obtain ⟨s', h1, h2⟩ := hI.ent _ _ (List.getElem?_eq_getElem hlt)
  have hdiv : (i * M.m + k) / M.m = i := by rw [Nat.mul_comm, Nat.mul_add_div hm0, Nat.div_eq_of_lt hk, Nat.add_zero]
  have hmod : (i * M.m + k) % M.m = k := by rw [Nat.mul_comm, Nat.mul_add_mod, Nat.mod_eq_of_lt hk]
  rw [hdiv, hs] at h1
  injection h1 with h1
  rw [hmod, ← h1] at h2
  exact h2
section
variable {dm : Int} {nx tg : List Int}
theorem leastD_ok (h : dRight dm nx tg = true) (hl : tg.length < 2 ^ 12) : (leastD dm nx tg).2 = 0 ∧ (leastD dm nx tg).1.1 = dm ∧ (leastD dm nx tg).1.2.1 = (leastP (dMch dm nx tg)).2 ∧ (leastD dm nx tg).1.2.2 = (leastP (dMch dm nx tg)).1.map (dMch dm nx tg).tag := by
  unfold leastD; rw [if_pos h]; exact ⟨rfl, rfl, rfl, rfl⟩
/-- The least machine is right. -/
theorem least_right (h : dRight dm nx tg = true) (hl : tg.length < 2 ^ 12) : dRight (leastD dm nx tg).1.1 (leastD dm nx tg).1.2.1 (leastD dm nx tg).1.2.2 = true := by
  obtain ⟨_, e1, e2, e3⟩ := leastD_ok h hl
  rw [e1, e2, e3]
  have D := drOk h
  obtain ⟨DI, em⟩ := dIn_of D hl
  have hI := leastP_LI DI.ok DI.n1
  have hb := hI.bound
  have hp := hI.pos
  have hn : (dMch dm nx tg).n = tg.length := rfl
  have ht2 := D.t2
  have hm1 := D.m1
  have hm2 := D.m2
  have hlen : ((leastP (dMch dm nx tg)).2.length : Int) = dm * (((leastP (dMch dm nx tg)).1.map (dMch dm nx tg).tag).length : Nat) := by
    rw [hI.len, List.length_map, Int.natCast_mul, em, Int.mul_comm]
  simp only [dRight, Bool.and_eq_true, decide_eq_true_eq, List.all_eq_true]
  refine ⟨⟨⟨hm1, hm2, by rw [List.length_map]; exact hp, by rw [List.length_map]; omega, hlen⟩, fun x hx => ?_⟩, fun x hx => ?_⟩
  · obtain ⟨s, hs, rfl⟩ := List.mem_map.1 hx
    have hsl : s < tg.length := hI.lt s hs
    rw [DI.tg1 s hsl]
    exact D.tag _ (List.getElem_mem hsl)
  · obtain ⟨q, hq, rfl⟩ := List.getElem_of_mem hx
    obtain ⟨s, _, h2⟩ := hI.ent q _ (List.getElem?_eq_getElem hq)
    rcases h2 with ⟨e, _⟩ | ⟨j, y, e, hy, _⟩
    · rw [e]; rw [List.length_map]; omega
    · rw [e, List.length_map]
      have := (List.getElem?_eq_some_iff.1 hy).1
      omega
/-- Its states go the way of those for which they stand. -/
theorem least_eqv (h : dRight dm nx tg = true) (hl : tg.length < 2 ^ 12) : ∀ s i, (i ≤ (leastP (dMch dm nx tg)).1.length ∧ s ≤ tg.length ∧ ((i = (leastP (dMch dm nx tg)).1.length ∧ (dMch dm nx tg).alike s tg.length) ∨ ∃ t, (leastP (dMch dm nx tg)).1[i]? = some t ∧ (dMch dm nx tg).alike s t)) →
    Eqv (dMch dm nx tg) (dMch (leastD dm nx tg).1.1 (leastD dm nx tg).1.2.1 (leastD dm nx tg).1.2.2) s i := by
  obtain ⟨_, e1, e2, e3⟩ := leastD_ok h hl
  rw [e1, e2, e3]
  have D := drOk h
  obtain ⟨DI, em⟩ := dIn_of D hl
  have hI := leastP_LI DI.ok DI.n1
  obtain ⟨M, hM⟩ : ∃ M, M = dMch dm nx tg := ⟨_, rfl⟩
  have hMn : M.n = tg.length := by rw [hM]; rfl
  have hMm : M.m = dm.toNat := by rw [hM]; rfl
  rw [← hM] at DI hI ⊢
  rw [← hMn]
  have hlm : ((leastP M).1.map M.tag).length = (leastP M).1.length := List.length_map _
  refine Eqv.of (fun s i hR => ?_) fun s i k hR hk => ?_
  · obtain ⟨hi, hs, hR⟩ := hR
    show M.tag s = if i < ((leastP M).1.map M.tag).length then ((leastP M).1.map M.tag).getD i (-1) else -1
    rcases hR with ⟨rfl, ha⟩ | ⟨t, ht, ha⟩
    · rw [if_neg (by omega), alike_tag ha, DI.tg2]
    · have hil := (List.getElem?_eq_some_iff.1 ht).1
      rw [if_pos (by omega), List.getD_eq_getElem?_getD, List.getElem?_map, ht]
      exact alike_tag ha
  · obtain ⟨hi, hs, hR⟩ := hR
    have hst := DI.ok.st s hs k hk
    show _ ∧ _ ∧ _
    have hgo : ∀ j, (dMch dm (leastP M).2 ((leastP M).1.map M.tag)).go j k = if j < (leastP M).1.length then (if 0 ≤ (leastP M).2.getD (j * dm.toNat + k) (-1) then ((leastP M).2.getD (j * dm.toNat + k) (-1)).toNat else (leastP M).1.length) else (leastP M).1.length := fun j => by
      show (if j < ((leastP M).1.map M.tag).length then _ else ((leastP M).1.map M.tag).length) = _
      rw [hlm]
    rw [hgo]
    rcases hR with ⟨rfl, ha⟩ | ⟨t, ht, ha⟩
    · rw [if_neg (Nat.lt_irrefl _)]
      have := alike_go ha hk
      rw [DI.go2] at this
      exact ⟨Nat.le_refl _, hst, .inl ⟨rfl, this⟩⟩
    · have hil := (List.getElem?_eq_some_iff.1 ht).1
      obtain ⟨v, hv, hEN⟩ := leastP_ent DI.ok DI.n1 ht hk
      rw [hMm] at hv
      rw [if_pos hil, List.getD_eq_getElem?_getD, hv, Option.getD_some]
      have hga := alike_go ha hk
      rcases hEN with ⟨rfl, hd⟩ | ⟨j, y, rfl, hy, hya, _⟩
      · rw [if_neg (by omega)]
        exact ⟨Nat.le_refl _, hst, .inl ⟨rfl, alike_trans hga hd⟩⟩
      · have hjl := (List.getElem?_eq_some_iff.1 hy).1
        rw [if_pos (by omega), Int.toNat_natCast]
        exact ⟨by omega, hst, .inr ⟨y, hy, alike_trans hga (alike_symm hya)⟩⟩
theorem least_eqv0 (h : dRight dm nx tg = true) (hl : tg.length < 2 ^ 12) : Eqv (dMch dm nx tg) (dMch (leastD dm nx tg).1.1 (leastD dm nx tg).1.2.1 (leastD dm nx tg).1.2.2) 0 0 := by
  obtain ⟨DI, em⟩ := dIn_of (drOk h) hl
  have hI := leastP_LI DI.ok DI.n1
  exact least_eqv h hl 0 0 ⟨by omega, by omega, .inr ⟨0, hI.h0, alike_refl _⟩⟩
/-- Rows of classes have the same tags of a machine and of its least one. -/
theorem least_run (h : dRight dm nx tg = true) (hl : tg.length < 2 ^ 12) {cs : List Int} (hc : ∀ x ∈ cs, 0 ≤ x ∧ x < dm) :
    dRun (leastD dm nx tg).1.1 (leastD dm nx tg).1.2.1 (leastD dm nx tg).1.2.2 cs = dRun dm nx tg cs := by
  have h2 := least_right h hl
  have e1 := (leastD_ok h hl).2.1
  have D := drOk h
  have E := drOk h2
  have h0 := least_eqv0 h hl
  have t1 := D.t1
  have u1 := E.t1
  rw [dRun_ok h hc, dRun_ok h2 (by rw [e1]; exact hc)]
  congr 1
  have e0 : stD tg (0 : Int) = 0 := stD_nat 0
  have f0 : stD (leastD dm nx tg).1.2.2 (0 : Int) = 0 := stD_nat 0
  have hT : dTag tg 0 = dTag (leastD dm nx tg).1.2.2 0 := by
    rw [dTag_st (dm := dm) (nx := nx) (by omega) (by omega), dTag_st (dm := (leastD dm nx tg).1.1) (nx := (leastD dm nx tg).1.2.1) (by omega) (by omega), e0, f0]
    exact h0 [] (by simp)
  rw [hT]
  congr 1
  refine (dGo_eqv D E e1.symm cs 0 0 hc (by omega) (by omega) (by omega) (by omega) ?_).symm
  rw [e0, f0]; exact h0
end
section
variable {L : List Nat} {w0 w : World}
theorem in111 (l : List Int) (a : Option Addr) (c : Nat) (dm : Int) (h1 : 1 ≤ dm) (h2 : dm ≤ 256) (g : Good L w0 w) (h : RowAt w a 1 i1 l) (hl : l.length < 2 ^ 30) {K : Option Addr → Nat → Nat → World → Prop}
    (kk : ∀ a' c' w', Good L w0 w' → Md [] w w' → RowAt w' a' 1 i1 (l.map (fit dm)) → K a' (l.map (fit dm)).length c' w') : CallW Try.prog L 111 #[.slice a l.length c, .int .i64 dm] (fun v w' => opL v fun a n c => K a n c w') w := by
  refine (f111_ok l a c dm h1 h2 w h hl).call g.2 ?_
  rintro v w' ⟨a', c', rfl, o⟩ h'
  exact opL_in (kk a' c' w' (g.tr h') h' (o.row enci1))
end
theorem f26_ok (dm : Int) (next tags l : List Int) (na ta la : Option Addr) (nc tc lc : Nat) (w : World) (hn : RowAt w na 1 i1 next) (ht : RowAt w ta 1 i1 tags) (hlr : RowAt w la 1 i1 l) (hll : l.length < 2 ^ 63) (hlc : l.length ≤ lc) :
    Ct Try.prog 26 #[.agg #[.int .i64 dm, .slice na next.length nc, .slice ta tags.length tc], .slice la l.length lc] w fun v w' => v = .bool true ∧ Md [] w w' := by
  apply f26_in
  intro n1 hn1 w2 m2 hL2
  have g2 : Good [n1] w w2 := ⟨m2, hL2⟩
  have fin : ∀ {w' : World} {L : List Nat}, Good L w w' → (Value.bool true = .bool true ∧ Md [] w w') := fun h => ⟨rfl, h.1⟩
  refine in90 dm na ta next.length nc tags.length tc g2 fun w4 g4 m4 => ?_
  refine Bd_in fun b6 hb6 => If_in (fun _ => in91 g4 fun w8 g8 => fin g8) fun hb => ?_
  have hfew : tags.length ≤ 60 ∧ next.length ≤ 2400 := by
    rw [hb6] at hb
    simp at hb
    omega
  have hl12 : tags.length < 2 ^ 12 := by omega
  have hlen := leastD_len (dm := dm) (next := next) (tags := tags) hl12
  refine in92 dm next tags na ta nc tc g4 (hn.md g4.1) (ht.md g4.1) (by omega) (by omega) fun a c a2 c2 w11 g11 m11 r1 r2 => ?_
  refine rgU g11 fun n22 w23 g23 m23 => ?_
  refine in72d dm next tags na ta nc tc g23 (hn.md g23.1) (ht.md g23.1) (by omega) (by omega) fun w25 g25 m25 => ?_
  have m1125 := m23.trans m25
  refine Bd_in fun b27 hb27 => If_in (fun hb => ?_) fun hb => ?_
  · have hr : ¬ dRight dm next tags = true := by
      rw [hb27] at hb
      intro e; rw [e] at hb; cases hb
    have e : leastD dm next tags = ((0, [], []), 2) := by unfold leastD; rw [if_neg hr]
    rw [e] at r1 r2 ⊢
    have rn : RowAt w25 none 1 i1 ([] : List Int) := fun i x h => by simp at h
    refine Bd_e (y := true) rfl <| Gd_t <| in96 0 0 [] [] [] [] a a2 none none c c2 0 0 g25 (r1.md m1125) (r2.md m1125) rn rn (by decide) (by decide) fun w31 g31 m31 => ?_
    exact Bd_e (y := true) rfl <| Gd_t <| in91 g31 fun w38 g38 => Bd_e (y := true) rfl (fin g38)
  · have hr : dRight dm next tags = true := by
      rw [hb27] at hb
      cases h : dRight dm next tags with
      | true => rfl
      | false => rw [h] at hb; cases hb
    have D := drOk hr
    have dm1 := D.m1
    have dm2 := D.m2
    obtain ⟨e0, e1, _, _⟩ := leastD_ok hr hl12
    have hx : (if (30 : Int) < ((l.length : Nat) : Int) then (30 : Int) else ((l.length : Nat) : Int)) = ((min l.length 30 : Nat) : Int) := by
      split <;> omega
    have hrl := hlr.md g25.1
    have dw : Md [] w25 w25.drew := Md_drew w25
    have htk : (l.take (min l.length 30)).length = min l.length 30 := by rw [List.length_take]; omega
    refine ⟨fun _ => True, trivial, Bd_e rfl <| Bd_e hx ⟨_, fun w' _ => ⟨slice_front (P := Try.prog) (e := 3) (by kernel_rfl) (fun w => ⟨1, size31 w⟩) w' la l.length lc (min l.length 30) (by omega)⟩, opL_in ?_⟩⟩
    have g25' := g25.tr dw
    rw [← htk]
    refine in111 (l.take (min l.length 30)) la lc dm dm1 dm2 g25' ((hrl.md dw).take _) (by rw [htk]; omega) fun a3 c3 w53 g53 m53 r3 => ⟨trivial, ?_⟩
    have m2553 := dw.trans m53
    obtain ⟨cs, hcs⟩ : ∃ cs, cs = (l.take (min l.length 30)).map (fit dm) := ⟨_, rfl⟩
    have hcl : cs.length < 2 ^ 30 := by rw [hcs, List.length_map, htk]; omega
    have hcc : ∀ x ∈ cs, 0 ≤ x ∧ x < dm := fun x hx => by
      rw [hcs] at hx
      obtain ⟨y, _, rfl⟩ := List.mem_map.1 hx
      exact fit_in dm1 dm2
    rw [← hcs] at r3 ⊢
    refine in70 dm next tags cs na ta a3 nc tc c3 g53 (hn.md g53.1) (ht.md g53.1) r3 (by omega) (by omega) hcl fun a4 c4 w58 g58 m58 o4 => ?_
    have m1158 := (m1125.trans m2553).trans m58
    refine in70 _ _ _ cs a a2 a3 c c2 c3 g58 (r1.md m1158) (r2.md m1158) (r3.md m58) (by omega) (by omega) hcl fun a5 c5 w65 g65 m65 o5 => ?_
    have er := least_run hr hl12 hcc
    rw [er] at o5 ⊢
    have ez : (dRun dm next tags cs).2 = 0 := by rw [dRun_ok hr hcc]
    have hbd := (leastD_len (dm := dm) (next := next) hl12).2
    have m1165 := m1158.trans m65
    refine Bd_e (y := true) (by rw [e0]; rfl) <| Bd_e (y := true) (by rw [ez]; rfl) <| Bd_e (y := true) rfl <| Bd_e (y := true) (by rw [ez]; rfl) <| Bd_e (y := true) rfl <| Gd_t ?_
    refine in72d _ _ _ a a2 c c2 g65 (r1.md m1165) (r2.md m1165) (by omega) (by omega) fun w78 g78 m78 => ?_
    refine Bd_e (y := true) (by rw [least_right hr hl12]; rfl) <| Bd_e rfl <| Bd_e rfl <| Bd_e (y := true) (by simp; exact hbd) <| Bd_e (y := true) rfl <| Gd_t ?_
    have hol : (dRun dm next tags cs).1.length < 2 ^ 63 := by
      rw [dRun_ok hr hcc]
      simp only [List.length_cons, dGo_len]
      omega
    refine in73 _ _ a4 a5 c4 c5 g78 (((o4.row enci1).md m65).md m78) ((o5.row enci1).md m78) hol fun w89 g89 m89 => ?_
    exact Bd_e (y := true) (by simp) <| Gd_t <| in91 g89 fun w96 g96 => Bd_e (y := true) rfl (fin g96)
end Fk
