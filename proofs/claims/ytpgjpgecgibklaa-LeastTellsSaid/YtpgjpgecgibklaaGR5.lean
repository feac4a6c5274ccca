/- Contracts of functions, and plain laws: several texts, joined. -/
import Derived.Test.YtpgjpgecgibklaaGR4
import Derived.Test.YtpgjpgecgibklaaGR0
import Derived.Test.YtpgjpgecgibklaaGR1
import Derived.Test.YtpgjpgecgibklaaGK2
import Derived.Laws.Strings2
import Derived.Test.YtpgjpgecgibklaaGV0
set_option linter.unusedVariables false
set_option linter.unusedSimpArgs false
set_option linter.unusedSectionVars false
set_option maxRecDepth 100000
set_option maxHeartbeats 1000000
namespace Fk
open Go Go.Proofs Go.RowKit
def P93S (n1 : Nat) (n2 : Nat) (n15 : Nat) (a11 : Option Addr) (n12 : Nat) (J80 : List Value → List Value → World → Prop) (x89 : Int) (a52 : Option Addr) (n53 : Nat) (n54 : Nat) (x57 : Int) (a58 : Option Addr) (n59 : Nat) (n60 : Nat) (a61 : Option Addr) (n62 : Nat) (n63 : Nat) (w88 : World) : Prop :=
  LoopP (fun l105 l106 J107 w108 => opI IntKind.i64 (nthD l105 (0 : Nat)) fun x109 => Bd ↑n53 fun x110 => Bd (decide (x109 < x110)) fun b111 => (b111 = true → IxOk x109 n53 a52) ∧ Gd b111 (0 : Int) (fun J113 => Ld w108 (adAt a52 x109 (1 : Nat)) fun v114 => opI IntKind.i64 v114 fun x115 => J113 x115 w108) (fun x116 w117 => (b111 = true → IxOk x116 n12 a11) ∧ Gd b111 (none, (0 : Nat), (0 : Nat)) (fun J119 => Ld w117 (adAt a11 x116 (1 : Nat)) fun v120 => opL v120 fun a121 n122 n123 => J119 (a121, n122, n123) w117) (fun u124 w125 => (b111 = true → IxOk x89 (Prod.fst (Prod.snd u124)) (Prod.fst u124)) ∧ Gd b111 false (fun J127 => Ld w125 (adAt (Prod.fst u124) x89 (1 : Nat)) fun v128 => opB v128 fun b129 => J127 b129 w125) (fun b130 w131 => Bd (bif b111 then b130 else false) fun b132 => If b132 (Bd (IntKind.wrap IntKind.i64 (x109 + (1 : Int))) fun x133 => J107 [Value.int IntKind.i64 x133] [] w131) (Jn (fun l134 l135 w136 => opL (nthD l134 (0 : Nat)) fun a137 n138 n139 => Nw (Obj.cells #[Value.int IntKind.i64 x109] (3 : Nat)) w136 fun n140 w141 => RunW Try.prog [n15, n2, n1] (Builtin.append_ #[(52 : Nat), (52 : Nat)] (52 : Nat) #[Value.slice a58 n59 n60, Value.slice (some { block := n140, off := (0 : Nat) }) (1 : Nat) (1 : Nat)]) (fun v142 w143 => opL v142 fun a144 n145 n146 => Up [n15] [n15, n2, n1] w143 fun w147 => J80 [Value.slice a137 n138 n139] [Value.agg #[Value.int IntKind.i64 x57, Value.slice a144 n145 n146, Value.slice a61 n62 n63]] w147) w141) fun J148 => Bd ↑n53 fun x149 => Bd (x109 == x149) fun b150 => If b150 (Nw (Obj.cells #[Value.int IntKind.i64 x89] (3 : Nat)) w131 fun n151 w152 => RunW Try.prog [n15, n2, n1] (Builtin.append_ #[(52 : Nat), (52 : Nat)] (52 : Nat) #[Value.slice a52 n53 n54, Value.slice (some { block := n151, off := (0 : Nat) }) (1 : Nat) (1 : Nat)]) (fun v153 w154 => opL v153 fun a155 n156 n157 => J148 [Value.slice a155 n156 n157] [] w154) w152) (J148 [Value.slice a52 n53 n54] [] w131))) w125) w117) w108) [Value.int IntKind.i64 (0 : Int)] [] w88
def P93I (p0_0 : Int) (p0_1a : Option Addr) (p0_1n : Nat) (p0_1c : Nat) (p0_2a : Option Addr) (p0_2n : Nat) (p0_2c : Nat) (n1 : Nat) (n2 : Nat) (n15 : Nat) (a11 : Option Addr) (n12 : Nat) (x14 : Int) (J21 : List Value → List Value → World → Prop) (x26 : Int) (a23 : Option Addr) (n24 : Nat) (n25 : Nat) (x41 : Int) (a42 : Option Addr) (n43 : Nat) (n44 : Nat) (a45 : Option Addr) (n46 : Nat) (n47 : Nat) (w39 : World) : Prop :=
  LoopP (fun l48 l49 J50 w51 => opL (nthD l48 (0 : Nat)) fun a52 n53 n54 => opI IntKind.i64 (nthD l48 (1 : Nat)) fun x55 => opAg (nthD l49 (0 : Nat)) fun cs56 => opI IntKind.i64 (nthD (Array.toList cs56) (0 : Nat)) fun x57 => opL (nthD (Array.toList cs56) (1 : Nat)) fun a58 n59 n60 => opL (nthD (Array.toList cs56) (2 : Nat)) fun a61 n62 n63 => SzIs (Array.size cs56) (3 : Nat) (Bd (decide (x55 < p0_0)) fun b64 => If b64 (Jn (fun l65 l66 w67 => opL (nthD l65 (0 : Nat)) fun a68 n69 n70 => opAg (nthD l66 (0 : Nat)) fun cs71 => opI IntKind.i64 (nthD (Array.toList cs71) (0 : Nat)) fun x72 => opL (nthD (Array.toList cs71) (1 : Nat)) fun a73 n74 n75 => opL (nthD (Array.toList cs71) (2 : Nat)) fun a76 n77 n78 => SzIs (Array.size cs71) (3 : Nat) (Bd (IntKind.wrap IntKind.i64 (x55 + (1 : Int))) fun x79 => J50 [Value.slice a68 n69 n70, Value.int IntKind.i64 x79] [Value.agg #[Value.int IntKind.i64 x72, Value.slice a73 n74 n75, Value.slice a76 n77 n78]] w67)) fun J80 => Dr (World.drew w51) fun J81 => IxOk x26 n53 a52 ∧ ∃ v82, (∀ (w83 : World), J81 w83 → Ld w83 (adAt a52 x26 (1 : Nat)) fun v85 => v85 = v82) ∧ opI IntKind.i64 v82 fun x86 => CallW Try.prog [n15, n2, n1] (190 : Nat) #[Value.agg #[Value.int IntKind.i64 p0_0, Value.slice p0_1a p0_1n p0_1c, Value.slice p0_2a p0_2n p0_2c], Value.int IntKind.i64 x86, Value.int IntKind.i64 x55] (fun v87 w88 => opI IntKind.i64 v87 fun x89 => J81 w88 ∧ IxOk x89 n12 a11 ∧ Ld w88 (adAt a11 x89 (1 : Nat)) fun v90 => opL v90 fun a91 n92 n93 => IxOk x14 n92 a91 ∧ Ld w88 (adAt a91 x14 (1 : Nat)) fun v94 => opB v94 fun b95 => Bd (!b95) fun b96 => If b96 (Nw (Obj.cells #[Value.int IntKind.i64 (-1 : Int)] (3 : Nat)) w88 fun n97 w98 => RunW Try.prog [n15, n2, n1] (Builtin.append_ #[(52 : Nat), (52 : Nat)] (52 : Nat) #[Value.slice a58 n59 n60, Value.slice (some { block := n97, off := (0 : Nat) }) (1 : Nat) (1 : Nat)]) (fun v99 w100 => opL v99 fun a101 n102 n103 => Up [n15] [n15, n2, n1] w100 fun w104 => J80 [Value.slice a52 n53 n54] [Value.agg #[Value.int IntKind.i64 x57, Value.slice a101 n102 n103, Value.slice a61 n62 n63]] w104) w98) ((P93S n1 n2 n15 a11 n12 J80 x89 a52 n53 n54 x57 a58 n59 n60 a61 n62 n63 w88))) (World.drew w51)) (Bd (IntKind.wrap IntKind.i64 (x26 + (1 : Int))) fun x158 => J21 [Value.slice a52 n53 n54, Value.int IntKind.i64 x158] [Value.agg #[Value.int IntKind.i64 x57, Value.slice a58 n59 n60, Value.slice a61 n62 n63]] w51))) [Value.slice a23 n24 n25, Value.int IntKind.i64 (0 : Int)] [Value.agg #[Value.int IntKind.i64 x41, Value.slice a42 n43 n44, Value.slice a45 n46 n47]] w39
def P93B (p0_0 : Int) (p0_1a : Option Addr) (p0_1n : Nat) (p0_1c : Nat) (p0_2a : Option Addr) (p0_2n : Nat) (p0_2c : Nat) (n1 : Nat) (n2 : Nat) (n15 : Nat) (a11 : Option Addr) (n12 : Nat) (x14 : Int) (J21 : List Value → List Value → World → Prop) (x26 : Int) (a23 : Option Addr) (n24 : Nat) (n25 : Nat) (x28 : Int) (a29 : Option Addr) (n30 : Nat) (n31 : Nat) (a32 : Option Addr) (n33 : Nat) (n34 : Nat) (w22 : World) : Prop :=
  Jn (fun l37 l38 w39 => opAg (nthD l38 (0 : Nat)) fun cs40 => opI IntKind.i64 (nthD (Array.toList cs40) (0 : Nat)) fun x41 => opL (nthD (Array.toList cs40) (1 : Nat)) fun a42 n43 n44 => opL (nthD (Array.toList cs40) (2 : Nat)) fun a45 n46 n47 => SzIs (Array.size cs40) (3 : Nat) ((P93I p0_0 p0_1a p0_1n p0_1c p0_2a p0_2n p0_2c n1 n2 n15 a11 n12 x14 J21 x26 a23 n24 n25 x41 a42 n43 n44 a45 n46 n47 w39))) fun J159 => Dr (World.drew w22) fun J160 => IxOk x26 n24 a23 ∧ ∃ v161, (∀ (w162 : World), J160 w162 → Ld w162 (adAt a23 x26 (1 : Nat)) fun v164 => v164 = v161) ∧ opI IntKind.i64 v161 fun x165 => IxOk x165 p0_2n p0_2a ∧ ∃ v166, (∀ (w167 : World), J160 w167 → Ld w167 (adAt p0_2a x165 (1 : Nat)) fun v169 => v169 = v166) ∧ opI IntKind.i64 v166 fun x170 => (J160 (World.drew w22) ∧ Nw (Obj.cells #[Value.int IntKind.i64 x170] (3 : Nat)) (World.drew w22) fun n171 w172 => J160 w172 ∧ RunW Try.prog [n15, n2, n1] (Builtin.append_ #[(52 : Nat), (52 : Nat)] (52 : Nat) #[Value.slice a32 n33 n34, Value.slice (some { block := n171, off := (0 : Nat) }) (1 : Nat) (1 : Nat)]) (fun v173 w174 => opL v173 fun a175 n176 n177 => J160 w174 ∧ Up [n15] [n15, n2, n1] w174 fun w178 => J159 [] [Value.agg #[Value.int IntKind.i64 x28, Value.slice a29 n30 n31, Value.slice a175 n176 n177]] w178) w172) ∧ Nw (Obj.cells #[Value.int IntKind.i64 x170] (3 : Nat)) (World.drew w22) fun n179 w180 => J160 w180 ∧ J160 w180 ∧ RunW Try.prog [n15, n2, n1] (Builtin.append_ #[(52 : Nat), (52 : Nat)] (52 : Nat) #[Value.slice a32 n33 n34, Value.slice (some { block := n179, off := (0 : Nat) }) (1 : Nat) (1 : Nat)]) (fun v181 w182 => opL v181 fun a183 n184 n185 => J160 w182 ∧ Up [n15] [n15, n2, n1] w182 fun w186 => J159 [] [Value.agg #[Value.int IntKind.i64 x28, Value.slice a29 n30 n31, Value.slice a183 n184 n185]] w186) w180
def P93O (p0_0 : Int) (p0_1a : Option Addr) (p0_1n : Nat) (p0_1c : Nat) (p0_2a : Option Addr) (p0_2n : Nat) (p0_2c : Nat) (n1 : Nat) (n2 : Nat) (n15 : Nat) (a11 : Option Addr) (n12 : Nat) (x14 : Int) (R : Value → World → Prop) (n17 : Nat) (w18 : World) : Prop :=
  LoopP (fun l19 l20 J21 w22 => opL (nthD l19 (0 : Nat)) fun a23 n24 n25 => opI IntKind.i64 (nthD l19 (1 : Nat)) fun x26 => opAg (nthD l20 (0 : Nat)) fun cs27 => opI IntKind.i64 (nthD (Array.toList cs27) (0 : Nat)) fun x28 => opL (nthD (Array.toList cs27) (1 : Nat)) fun a29 n30 n31 => opL (nthD (Array.toList cs27) (2 : Nat)) fun a32 n33 n34 => SzIs (Array.size cs27) (3 : Nat) (Bd ↑n24 fun x35 => Bd (decide (x26 < x35)) fun b36 => If b36 (P93B p0_0 p0_1a p0_1n p0_1c p0_2a p0_2n p0_2c n1 n2 n15 a11 n12 x14 J21 x26 a23 n24 n25 x28 a29 n30 n31 a32 n33 n34 w22) (Up [n2] [n15, n2, n1] w22 fun w187 => R (Value.tuple #[Value.agg #[Value.int IntKind.i64 x28, Value.slice a29 n30 n31, Value.slice a32 n33 n34], Value.int IntKind.i64 (0 : Int)]) w187))) [Value.slice (some { block := n17, off := (0 : Nat) }) (1 : Nat) (1 : Nat), Value.int IntKind.i64 (0 : Int)] [Value.agg #[Value.int IntKind.i64 p0_0, Value.slice none (0 : Nat) (0 : Nat), Value.slice none (0 : Nat) (0 : Nat)]] w18
theorem lsAt_is {M : Mch} {l : List Nat} {t j : Nat} (pw : ∀ (i j x y : Nat), l[i]? = some x → l[j]? = some y → M.alike x y → i = j) (h1 : ∀ i x, i < j → l[i]? = some x → ¬ M.alike x t) (h2 : j = l.length ∨ ∃ x, l[j]? = some x ∧ M.alike x t) : lsAt M l t = j := by
  by_cases c : lsAt M l t < l.length
  · obtain ⟨x, hx, ha⟩ := lsAt_get c
    rcases h2 with h2 | ⟨y, hy, hb⟩
    · exact absurd ha (h1 _ x (by omega) hx)
    · exact pw _ _ x y hx hy (alike_trans ha (alike_symm hb))
  · obtain ⟨e, hno⟩ := lsAt_none c
    rcases h2 with h2 | ⟨y, hy, hb⟩
    · omega
    · exact absurd hb (hno y (List.mem_of_getElem? hy))
structure LW (wb w : World) (n39 : Nat) (R : L3 → Rw Int) : Prop where
  md : Md [] wb w
  fam : Fam w wb.heap.size 3 i1 R
  ne : ∀ l A, (R l).1 = some A → A.block ≠ n39
  lt : n39 < w.heap.size
  bl : wb.heap.size ≤ n39
section
variable {wb w w' : World} {n39 n1 n2 : Nat} {R : L3 → Rw Int}
theorem LW.md0 (S : LW wb w n39 R) (hm : Md [] w w') : LW wb w' n39 R := ⟨S.md.trans hm, S.fam.md0 hm, S.ne, Nat.lt_of_lt_of_le S.lt hm.size, S.bl⟩
theorem LW.up (S : LW wb w n39 R) (hm : Md [n39] w w') : LW wb w' n39 R :=
  ⟨S.md.old hm (by simpa using S.bl), S.fam.keep hm (fun l A hA => by simpa using S.ne l A hA), S.ne, Nat.lt_of_lt_of_le S.lt hm.size, S.bl⟩
theorem LW.L (S : LW wb w n39 R) (hn1 : n1 < wb.heap.size) (hn2 : n2 < wb.heap.size) : ∀ d ∈ [n39, n2, n1], d < w.heap.size := fun d hd => by
  have := S.lt
  have := S.md.size
  simp only [List.mem_cons, List.not_mem_nil, or_false] at hd
  rcases hd with rfl | rfl | rfl <;> omega
theorem LW.app (S : LW wb w n39 R) (hn1 : n1 < wb.heap.size) (hn2 : n2 < wb.heap.size) (l : L3) (x : Int) (hl : (R l).2.2.length < 2 ^ 30) {K : Value → World → Prop}
    (k : ∀ (a' : Option Addr) (c' : Nat) (w' : World), LW wb w' n39 (upd R l (a', c', (R l).2.2 ++ [x])) → Md (blkO (R l).1) w w' → K (slE (a', c', (R l).2.2 ++ [x])) w') :
    Nw (.cells #[.int .i64 x] 3) w fun b w' => RunW Try.prog [n39, n2, n1] (Builtin.append_ #[52, 52] 52 #[.slice (R l).1 (R l).2.2.length (R l).2.1, .slice (some { block := b, off := 0 }) 1 1]) K w' := by
  have hsz := S.md.size
  refine app_one rowT52 enci1 x rfl (S.fam.own l) S.md.size (S.L hn1 hn2) (fun d hd A hA e => ?_) (by simp [maxLen]; omega) (by omega) fun a' c' w' o' m' hA => ?_
  · have h1 := ((S.fam.own l).lt hA).1
    have h2 := S.ne l A hA
    simp only [List.mem_cons, List.not_mem_nil, or_false] at hd
    rcases hd with rfl | rfl | rfl <;> omega
  · refine k a' c' w' ⟨S.md.old m' fun d hd => ?_, S.fam.upd m' o' hA, fun l' A hA' => ?_, Nat.lt_of_lt_of_le S.lt m'.size, S.bl⟩ m'
    · obtain ⟨A, hA', rfl⟩ := blkO_mem hd; exact ((S.fam.own l).lt hA').1
    · by_cases e : l' = l
      · subst e
        rw [upd_same] at hA'
        rcases hA A hA' with h | h
        · exact S.ne l' A h
        · have := S.lt; omega
      · rw [upd_ne _ _ e] at hA'
        exact S.ne l' A hA'
end
theorem AP.rd {M : Mch} {w : World} {a : Option Addr} (P : AP M w a) {x y : Nat} (hx : x ≤ M.n) (hy : y ≤ M.n) : IxOk (x : Int) (M.n + 1) a ∧ ∃ (ra : Option Addr) (rc : Nat), IxOk (y : Int) (M.n + 1) ra ∧
    (∀ w', Md [] w w' → ∀ K : Value → Prop, K (.slice ra (M.n + 1) rc) → Ld w' (adAt a (x : Int) 1) K) ∧ ∀ w', Md [] w w' → ∀ K : Value → Prop, K (.bool (!al M x y)) → Ld w' (adAt ra (y : Int) 1) K := by
  obtain ⟨H, h1, h2, h3⟩ := P.mem
  have lx : x < H.length := by omega
  obtain ⟨e1, r1⟩ := h3 x H[x] (List.getElem?_eq_getElem lx)
  have ly : y < ((List.range (M.n + 1)).map fun y => !al M x y).length := by simp; omega
  refine ⟨h2.ixn lx h1, H[x].1, H[x].2.2, r1.ixn ly (by simp), fun w' hm K hK => (h2.md hm).ld1 lx (by rw [← e1] at hK; exact rfl) (by rw [← e1] at hK; exact hK), fun w' hm K hK => (r1.md hm).ld1 ly rfl ?_⟩
  have : ((List.range (M.n + 1)).map fun y => !al M x y)[y] = !al M x y := by simp
  rw [this]; exact hK
section
variable {wb : World} {n39 n1 n2 : Nat} {M : Mch} {next tags : List Int} {i s : Nat} {p : List Nat × List Int} {tg : List Int} {x50 : Int} {ta na a11 : Option Addr} {nc tc : Nat}
theorem P93S_ok {w88 : World} {R : L3 → Rw Int} {J80 : List Value → List Value → World → Prop} {q : List Nat × List Int} {t c : Nat} (D : DmIn M next tags) (P : AP M wb a11) (hn1 : n1 < wb.heap.size) (hn2 : n2 < wb.heap.size) (hq : LI M q c) (hc : c < 2 ^ 22) (ht : t ≤ M.n) (hz : ¬ al M t M.n = true)
    (S : LW wb w88 n39 R) (C : LC R q tg)
    (K : ∀ R' w', LW wb w' n39 R' → LC R' (lsStep M q t) tg → J80 [slE (R' .f)] [.agg #[.int .i64 x50, slE (R' .n), slE (R' .t)]] w') :
    P93S n1 n2 n39 a11 (M.n + 1) J80 (t : Int) (R .f).1 (R .f).2.2.length (R .f).2.1 x50 (R .n).1 (R .n).2.2.length (R .n).2.1 (R .t).1 (R .t).2.2.length (R .t).2.1 w88 := by
  have hn2' := D.n2
  have hlF : (R .f).2.2.length = q.1.length := by rw [C.cf]; simp
  have hlN : (R .n).2.2.length = c := by rw [C.cn]; exact hq.len
  have hqb := hq.bound
  have e2 : lsStep M q t = (if lsAt M q.1 t < q.1.length then q.1 else q.1 ++ [t], q.2 ++ [(lsAt M q.1 t : Int)]) := by unfold lsStep; rw [if_neg hz]
  unfold P93S
  refine LoopP_in (fun mm us vs w' => ∃ (j : Nat), us = [.int .i64 j] ∧ vs = [] ∧ mm = q.1.length - j ∧ j ≤ q.1.length ∧ (∀ i x, i < j → q.1[i]? = some x → ¬ M.alike x t) ∧ w' = w88) q.1.length
    ⟨0, rfl, rfl, rfl, by omega, fun i x h => by omega, rfl⟩ ?_
  rintro mm us vs w108 ⟨j, rfl, rfl, hmm, hj, hno, rfl⟩
  refine opI_in <| Bd_e rfl ?_
  -- what comes behind the search
  have fin : lsAt M q.1 t = j → Jn (fun l134 l135 w136 => opL (nthD l134 (0 : Nat)) fun a137 n138 n139 => Nw (Obj.cells #[Value.int IntKind.i64 (j : Int)] (3 : Nat)) w136 fun n140 w141 => RunW Try.prog [n39, n2, n1] (Builtin.append_ #[(52 : Nat), (52 : Nat)] (52 : Nat) #[Value.slice (R .n).1 (R .n).2.2.length (R .n).2.1, Value.slice (some { block := n140, off := (0 : Nat) }) (1 : Nat) (1 : Nat)]) (fun v142 w143 => opL v142 fun a144 n145 n146 => Up [n39] [n39, n2, n1] w143 fun w147 => J80 [Value.slice a137 n138 n139] [Value.agg #[Value.int IntKind.i64 x50, Value.slice a144 n145 n146, Value.slice (R .t).1 (R .t).2.2.length (R .t).2.1]] w147) w141) fun J148 =>
      Bd (((R .f).2.2.length : Nat) : Int) fun x149 => Bd ((j : Int) == x149) fun b150 => If b150 (Nw (Obj.cells #[Value.int IntKind.i64 (t : Int)] (3 : Nat)) w108 fun n151 w152 => RunW Try.prog [n39, n2, n1] (Builtin.append_ #[(52 : Nat), (52 : Nat)] (52 : Nat) #[Value.slice (R .f).1 (R .f).2.2.length (R .f).2.1, Value.slice (some { block := n151, off := (0 : Nat) }) (1 : Nat) (1 : Nat)]) (fun v153 w154 => opL v153 fun a155 n156 n157 => J148 [Value.slice a155 n156 n157] [] w154) w152) (J148 [Value.slice (R .f).1 (R .f).2.2.length (R .f).2.1] [] w108) := by
    intro hat
    obtain ⟨J2, hJ2⟩ : ∃ J : List Value → List Value → World → Prop, J = (fun us vs w' => ∃ (R' : L3 → Rw Int), us = [slE (R' .f)] ∧ R' .n = R .n ∧ R' .t = R .t ∧ LW wb w' n39 R' ∧ LC R' ((lsStep M q t).1, q.2) tg) := ⟨_, rfl⟩
    refine Jn_in J2 ?_ ?_
    · intro us vs w147 hj
      rw [hJ2] at hj
      obtain ⟨R', rfl, en, et, S, C⟩ := hj
      rw [← en] at hlN ⊢
      rw [← et]
      refine opL_in ?_
      refine S.app hn1 hn2 .n (j : Int) (by omega) fun a' c' w155 S2 m2 => opL_in ?_
      intro w159 m159 hL
      have C2 := C.appN a' c' (j : Int)
      have e3 : ((lsStep M q t).1, q.2 ++ [(j : Int)]) = lsStep M q t := by rw [e2, hat]
      rw [e3] at C2
      have := K _ w159 (S2.up m159) C2
      rw [upd_same, upd_ne _ _ (by simp), upd_ne _ _ (by simp)] at this
      exact this
    · refine Bd_e (by rw [hlF]) <| Bd_in fun b150 hb150 => If_in (fun hy => ?_) fun hy => ?_
      · have ej : j = q.1.length := by
          rw [hb150] at hy
          have : (j : Int) = ((q.1.length : Nat) : Int) := by simpa using hy
          omega
        have e4 : (lsStep M q t).1 = q.1 ++ [t] := by rw [e2]; exact if_neg (by omega)
        refine S.app hn1 hn2 .f (t : Int) (by omega) fun a' c' w5 S5 m5 => opL_in ?_
        rw [hJ2, e4]
        refine ⟨upd R .f (a', c', (R .f).2.2 ++ [(t : Int)]), ?_, upd_ne _ _ (by simp), upd_ne _ _ (by simp), S5, C.appF _ _ _⟩
        rw [upd_same]; rfl
      · have ej : ¬ j = q.1.length := by
          rw [hb150] at hy
          have : ¬ (j : Int) = ((q.1.length : Nat) : Int) := by simpa using hy
          omega
        have e4 : (lsStep M q t).1 = q.1 := by rw [e2]; exact if_pos (by omega)
        rw [hJ2, e4]
        exact ⟨R, rfl, rfl, rfl, S, C⟩
  by_cases hjl : j < q.1.length
  · have hjF : j < (R .f).2.2.length := by omega
    have hfv : (R .f).2.2[j] = ((q.1[j] : Nat) : Int) := by
      have : (R .f).2.2[j]? = some ((q.1[j] : Nat) : Int) := by rw [C.cf, List.getElem?_map, List.getElem?_eq_getElem hjl]; rfl
      exact (List.getElem?_eq_some_iff.1 this).2
    have hxn : q.1[j] ≤ M.n := Nat.le_of_lt (hq.lt _ (List.getElem_mem hjl))
    obtain ⟨i1', ra, rc, i2, r1, r2⟩ := P.rd hxn ht
    refine Bd_t (by simpa using hjF) ⟨fun _ => ((S.fam.own .f).row enci1).ix hjF, Gd_t <| ((S.fam.own .f).row enci1).ld1 hjF (by rw [hfv]; rfl) <| opI_in ⟨fun _ => i1', Gd_t <| r1 _ S.md _ <| opL_in ⟨fun _ => i2, Gd_t <| r2 _ S.md _ <| opB_in <| Bd_e (y := !al M q.1[j] t) rfl <| If_in (fun hy => ?_) fun hy => ?_⟩⟩⟩
    · have hna : ¬ M.alike q.1[j] t := by rw [← al_iff]; intro e; rw [e] at hy; cases hy
      refine Bd_e (inc_i64 (by omega)) ⟨q.1.length - (j + 1), by omega, j + 1, rfl, rfl, rfl, by omega, fun i x hi hx => ?_, rfl⟩
      by_cases e : i = j
      · subst e
        rw [List.getElem?_eq_getElem hjl] at hx
        injection hx with hx
        rw [← hx]; exact hna
      · exact hno i x (by omega) hx
    · have hya : M.alike q.1[j] t := by
        rw [← al_iff]
        cases h1 : al M q.1[j] t with
        | true => rfl
        | false => rw [h1] at hy; cases hy
      exact fin (lsAt_is hq.pw hno (.inr ⟨_, List.getElem?_eq_getElem hjl, hya⟩))
  · have ej : j = q.1.length := by omega
    refine Bd_f (by simpa using (by omega : (R .f).2.2.length ≤ j)) ⟨(fun e => by cases e), Gd_f ⟨(fun e => by cases e), Gd_f ⟨(fun e => by cases e), Gd_f <| Bd_f rfl <| If_f ?_⟩⟩⟩
    exact fin (lsAt_is hq.pw hno (.inl ej))
theorem P93I_ok {w39 : World} {R : L3 → Rw Int} {J21 : List Value → List Value → World → Prop} (D : DmIn M next tags) (P : AP M wb a11) (hn1 : n1 < wb.heap.size) (hn2 : n2 < wb.heap.size) (hrow : RowAt wb na 1 i1 next) (hp : LI M p (i * M.m)) (hs : p.1[i]? = some s) (S : LW wb w39 n39 R) (C : LC R p tg)
    (K : ∀ R' w', LW wb w' n39 R' → LC R' (lsRow M s p M.m) tg → J21 [slE (R' .f), .int .i64 ((i + 1 : Nat) : Int)] [.agg #[.int .i64 x50, slE (R' .n), slE (R' .t)]] w') :
    P93I (M.m : Int) na next.length nc ta tags.length tc n1 n2 n39 a11 (M.n + 1) (M.n : Int) J21 (i : Int) (R .f).1 (R .f).2.2.length (R .f).2.1 x50 (R .n).1 (R .n).2.2.length (R .n).2.1 (R .t).1 (R .t).2.2.length (R .t).2.1 w39 := by
  have hm2 := D.m2
  have hnn2 := D.n2
  have hpb := hp.bound
  have hil : i < p.1.length := (List.getElem?_eq_some_iff.1 hs).1
  have hsl : s < M.n := hp.lt s (List.mem_of_getElem? hs)
  have himb : i * M.m ≤ 2 ^ 12 * 256 := Nat.mul_le_mul (by omega) hm2
  unfold P93I
  refine LoopP_in (fun mm us vs w' => ∃ (k : Nat) (R : L3 → Rw Int), us = [slE (R .f), .int .i64 k] ∧ vs = [.agg #[.int .i64 x50, slE (R .n), slE (R .t)]] ∧ mm = M.m - k ∧ k ≤ M.m ∧ LW wb w' n39 R ∧ LC R (lsRow M s p k) tg) M.m
    ⟨0, R, rfl, rfl, rfl, by omega, S, C⟩ ?_
  clear S C
  rintro mm us vs w51 ⟨k, R, rfl, rfl, hmm, hk, S, C⟩
  refine opL_in <| opI_in <| opAg_in <| opI_in <| opL_in <| opL_in <| SzIs_in rfl <| Bd_in fun b64 hb64 => If_in (fun hb => ?_) fun hb => ?_
  · have hkm : k < M.m := by
      rw [hb64] at hb
      have : (k : Int) < ((M.m : Nat) : Int) := of_decide_eq_true hb
      omega
    obtain ⟨q, hq⟩ : ∃ q, q = lsRow M s p k := ⟨_, rfl⟩
    obtain ⟨hqI, l', el⟩ := hp.row D.ok hs k hk
    rw [← hq] at C hqI el
    have hqs : q.1[i]? = some s := by rw [el, List.getElem?_append_left hil]; exact hs
    obtain ⟨t, ht⟩ : ∃ t, t = M.go s k := ⟨_, rfl⟩
    have htn : t ≤ M.n := by rw [ht]; exact D.ok.st s (by omega) k hkm
    have hstep : lsRow M s p (k + 1) = lsStep M q t := by rw [hq, ht]; rfl
    have hlF : (R .f).2.2.length = q.1.length := by rw [C.cf]; simp
    have hlN : (R .n).2.2.length = i * M.m + k := by rw [C.cn]; exact hqI.len
    have hiF : i < (R .f).2.2.length := by rw [hlF]; exact (List.getElem?_eq_some_iff.1 hqs).1
    have hfv : (R .f).2.2[i] = (s : Int) := by
      have : (R .f).2.2[i]? = some (s : Int) := by rw [C.cf, List.getElem?_map, hqs]; rfl
      exact (List.getElem?_eq_some_iff.1 this).2
    obtain ⟨J, hJ⟩ : ∃ J : List Value → List Value → World → Prop, J = (fun us vs w' => ∃ (R : L3 → Rw Int), us = [slE (R .f)] ∧ vs = [.agg #[.int .i64 x50, slE (R .n), slE (R .t)]] ∧ LW wb w' n39 R ∧ LC R (lsStep M q t) tg) := ⟨_, rfl⟩
    refine Jn_in J ?_ ?_
    · intro us vs w101 hj
      rw [hJ] at hj
      obtain ⟨R, rfl, rfl, S, C⟩ := hj
      refine opL_in <| opAg_in <| opI_in <| opL_in <| opL_in <| SzIs_in rfl <| Bd_e (inc_i64 (by omega)) ⟨M.m - (k + 1), by omega, k + 1, R, rfl, rfl, rfl, by omega, S, ?_⟩
      rw [hstep]; exact C
    · have dw : Md [] w51 w51.drew := Md_drew w51
      have S1 := S.md0 dw
      refine ⟨fun w' => Md [] w51 w', dw, ((S.fam.own .f).row enci1).ix hiF, _, fun w' h' => (((S.md0 h').fam.own .f).row enci1).ld1 hiF (by rw [hfv]; rfl) rfl, opI_in ?_⟩
      refine Ct.call (f190_ok D (hrow.md S1.md) (by omega) hkm) (S1.L hn1 hn2) fun v w88 hv m88 => ?_
      subst hv
      have m88' := dw.trans m88
      have S2 := S.md0 m88'
      rw [← ht]
      obtain ⟨i1', ra, rc, i2, r1, r2⟩ := P.rd htn (Nat.le_refl M.n)
      refine opI_in ⟨m88', i1', r1 _ S2.md _ <| opL_in ⟨i2, r2 _ S2.md _ <| opB_in <| Bd_e (y := al M t M.n) (by simp) <| If_in (fun hz => ?_) fun hz => ?_⟩⟩
      · have e2 : lsStep M q t = (q.1, q.2 ++ [-1]) := by unfold lsStep; rw [if_pos hz]
        refine S2.app hn1 hn2 .n (-1) (by omega) fun a' c' w128 S3 m3 => opL_in ?_
        intro w132 m132 hL
        rw [hJ, e2]
        refine ⟨upd R .n (a', c', (R .n).2.2 ++ [-1]), ?_, ?_, S3.up m132, C.appN _ _ _⟩
        · rw [upd_ne _ _ (by simp)]; rfl
        · rw [upd_same, upd_ne _ _ (by simp)]; rfl
      · refine P93S_ok D P hn1 hn2 hqI (by omega) htn (by rw [hz]; simp) S2 C fun R' w' S' C' => ?_
        rw [hJ]
        exact ⟨R', rfl, rfl, S', C'⟩
  · have hkm : k = M.m := by
      have : ¬ (k : Int) < ((M.m : Nat) : Int) := by rw [hb64] at hb; exact of_decide_eq_false hb
      omega
    subst hkm
    exact Bd_e (inc_i64 (by omega)) (K R w51 S C)
theorem P93B_ok {w22 : World} {R : L3 → Rw Int} {J21 : List Value → List Value → World → Prop} (D : DmIn M next tags) (P : AP M wb a11) (hn1 : n1 < wb.heap.size) (hn2 : n2 < wb.heap.size) (hrow : RowAt wb na 1 i1 next) (hrow2 : RowAt wb ta 1 i1 tags) (hp : LI M p (i * M.m)) (hs : p.1[i]? = some s) (S : LW wb w22 n39 R) (C : LC R p tg) (htg : tg.length < 2 ^ 20)
    (K : ∀ R' w', LW wb w' n39 R' → LC R' (lsRow M s p M.m) (tg ++ [M.tag s]) → J21 [slE (R' .f), .int .i64 ((i + 1 : Nat) : Int)] [.agg #[.int .i64 x50, slE (R' .n), slE (R' .t)]] w') :
    P93B (M.m : Int) na next.length nc ta tags.length tc n1 n2 n39 a11 (M.n + 1) (M.n : Int) J21 (i : Int) (R .f).1 (R .f).2.2.length (R .f).2.1 x50 (R .n).1 (R .n).2.2.length (R .n).2.1 (R .t).1 (R .t).2.2.length (R .t).2.1 w22 := by
  have hil : i < (R .f).2.2.length := by rw [C.cf, List.length_map]; exact (List.getElem?_eq_some_iff.1 hs).1
  have hsl : s < M.n := hp.lt s (List.mem_of_getElem? hs)
  have hfv : (R .f).2.2[i] = (s : Int) := by
    have : (R .f).2.2[i]? = some (s : Int) := by rw [C.cf, List.getElem?_map, hs]; rfl
    exact (List.getElem?_eq_some_iff.1 this).2
  have hst : s < tags.length := by rw [D.tl]; exact hsl
  have htag : tags[s] = M.tag s := (D.tg1 s hst).symm
  have hlT : (R .t).2.2.length = tg.length := by rw [C.ct]
  unfold P93B
  obtain ⟨J, hJ⟩ : ∃ J : List Value → List Value → World → Prop, J = (fun us vs w' => ∃ (R' : L3 → Rw Int), vs = [.agg #[.int .i64 x50, slE (R' .n), slE (R' .t)]] ∧ R' .f = R .f ∧ LW wb w' n39 R' ∧ LC R' p (tg ++ [M.tag s])) := ⟨_, rfl⟩
  refine Jn_in J ?_ ?_
  · intro us vs w39 hj
    rw [hJ] at hj
    obtain ⟨R', rfl, ef, S, C⟩ := hj
    rw [← ef]
    exact opAg_in <| opI_in <| opL_in <| opL_in <| SzIs_in rfl <| P93I_ok D P hn1 hn2 hrow hp hs S C K
  · have dw : Md [] w22 w22.drew := Md_drew w22
    have S1 := S.md0 dw
    have fin : ∀ (a' : Option Addr) (c' : Nat) (w5 w6 : World), LW wb w5 n39 (upd R .t (a', c', (R .t).2.2 ++ [M.tag s])) → Md [n39] w5 w6 → J [] [.agg #[.int .i64 x50, .slice (R .n).1 (R .n).2.2.length (R .n).2.1, slE (a', c', (R .t).2.2 ++ [M.tag s])]] w6 := fun a' c' w5 w6 S5 m6 => by
      rw [hJ]
      refine ⟨upd R .t (a', c', (R .t).2.2 ++ [M.tag s]), ?_, upd_ne _ _ (by simp), S5.up m6, C.appT _ _ _⟩
      rw [upd_same, upd_ne _ _ (by simp)]; rfl
    have good : ∀ {a' : Option Addr} {c' : Nat} {w5 : World}, LW wb w5 n39 (upd R .t (a', c', (R .t).2.2 ++ [M.tag s])) → RowAt w5 (R .f).1 1 i1 (R .f).2.2 ∧ Md [] wb w5 := fun {a' c' w5} S5 => by
      have := (S5.fam.own .f).row enci1
      rw [upd_ne _ _ (by simp)] at this
      exact ⟨this, S5.md⟩
    refine ⟨fun w' => RowAt w' (R .f).1 1 i1 (R .f).2.2 ∧ Md [] wb w', ⟨(S1.fam.own .f).row enci1, S1.md⟩, ((S.fam.own .f).row enci1).ix hil, _, fun w' h' => h'.1.ld1 hil (by rw [hfv]; rfl) rfl, opI_in ⟨(hrow2.md S1.md).ix hst, _, fun w' h' => (hrow2.md h'.2).ld1 hst (by rw [htag]; rfl) rfl, opI_in ⟨⟨⟨(S1.fam.own .f).row enci1, S1.md⟩, ?_⟩, ?_⟩⟩⟩
    · intro n186 w187 e1 e2
      have ma : Md [] w22.drew w187 := by subst e2; exact Md.alloc (M := []) _ _
      refine ⟨⟨((S1.md0 ma).fam.own .f).row enci1, (S1.md0 ma).md⟩, ?_⟩
      exact S1.app hn1 hn2 .t (M.tag s) (by omega) (fun a' c' w5 S5 m5 => opL_in ⟨good S5, fun w6 m6 _ => fin a' c' w5 w6 S5 m6⟩) n186 w187 e1 e2
    · intro n186 w187 e1 e2
      have ma : Md [] w22.drew w187 := by subst e2; exact Md.alloc (M := []) _ _
      refine ⟨⟨((S1.md0 ma).fam.own .f).row enci1, (S1.md0 ma).md⟩, ⟨((S1.md0 ma).fam.own .f).row enci1, (S1.md0 ma).md⟩, ?_⟩
      exact S1.app hn1 hn2 .t (M.tag s) (by omega) (fun a' c' w5 S5 m5 => opL_in ⟨good S5, fun w6 m6 _ => fin a' c' w5 w6 S5 m6⟩) n186 w187 e1 e2
theorem P93O_ok {w18 : World} {n17 : Nat} {p0_0 : Int} {Q : Value → World → Prop} (D : DmIn M next tags) (e0 : p0_0 = (M.m : Int)) (P : AP M wb a11) (hn1 : n1 < wb.heap.size) (hn2 : n2 < wb.heap.size) (hrow : RowAt wb na 1 i1 next) (hrow2 : RowAt wb ta 1 i1 tags)
    {R0 : L3 → Rw Int} (S : LW wb w18 n39 R0) (e1 : R0 .f = (some ⟨n17, 0, none⟩, 1, [0])) (e2 : R0 .n = (none, 0, [])) (e3 : R0 .t = (none, 0, []))
    (K : ∀ a c a2 c2 w', OwnL w' wb.heap.size 3 1 i1 a c (leastP M).2 → OwnL w' wb.heap.size 3 1 i1 a2 c2 ((leastP M).1.map M.tag) → Md [n2] wb w' →
      Q (.tuple #[.agg #[.int .i64 p0_0, .slice a (leastP M).2.length c, .slice a2 ((leastP M).1.map M.tag).length c2], .int .i64 0]) w') :
    P93O p0_0 na next.length nc ta tags.length tc n1 n2 n39 a11 (M.n + 1) (M.n : Int) Q n17 w18 := by
  have hnn2 := D.n2
  unfold P93O
  refine LoopP_in (fun mm us vs w' => ∃ (i : Nat) (R : L3 → Rw Int), us = [slE (R .f), .int .i64 i] ∧ vs = [.agg #[.int .i64 p0_0, slE (R .n), slE (R .t)]] ∧ mm = M.n + 1 - i ∧ i ≤ (ls M i).1.length ∧ LI M (ls M i) (i * M.m) ∧ LW wb w' n39 R ∧ LC R (ls M i) (((ls M i).1.take i).map M.tag)) (M.n + 1)
    ⟨0, R0, by rw [e1]; rfl, by rw [e2, e3]; rfl, rfl, by omega, by rw [Nat.zero_mul]; exact LI.start D.n1, S, ⟨by rw [e1]; rfl, by rw [e2]; rfl, by rw [e3]; rfl⟩⟩ ?_
  clear S e1 e2 e3
  rintro mm us vs w44 ⟨i, R, rfl, rfl, hmm, hi, hp, S, C⟩
  have hlF : (R .f).2.2.length = (ls M i).1.length := by rw [C.cf]; simp
  have hpb := hp.bound
  refine opL_in <| opI_in <| opAg_in <| opI_in <| opL_in <| opL_in <| SzIs_in rfl <| Bd_e rfl <| Bd_in fun b58 hb58 => If_in (fun hb => ?_) fun hb => ?_
  · have hil : i < (ls M i).1.length := by
      rw [hb58] at hb
      have : (i : Int) < (((R .f).2.2.length : Nat) : Int) := of_decide_eq_true hb
      omega
    have hs := List.getElem?_eq_getElem hil
    subst e0
    refine P93B_ok D P hn1 hn2 hrow hrow2 hp hs S C (by rw [List.length_map, List.length_take]; omega) fun R' w' S' C' => ?_
    obtain ⟨hI, l', el⟩ := hp.row D.ok hs M.m (Nat.le_refl _)
    have en := ls_succ hs
    have hle : (ls M i).1.length ≤ (ls M (i + 1)).1.length := by rw [en, el]; simp
    refine ⟨M.n + 1 - (i + 1), by omega, i + 1, R', rfl, rfl, rfl, by omega, ?_, S', ?_⟩
    · rw [en, Nat.succ_mul]; exact hI
    · have et : ((ls M (i + 1)).1.take (i + 1)).map M.tag = ((ls M i).1.take i).map M.tag ++ [M.tag ((ls M i).1[i])] := by
        rw [en, el, List.take_append_of_le_length (by omega), List.take_succ_eq_append_getElem hil, List.map_append]
        rfl
      rw [et, en]
      exact C'
  · have hil : i = (ls M i).1.length := by
      have : ¬ (i : Int) < (((R .f).2.2.length : Nat) : Int) := by rw [hb58] at hb; exact of_decide_eq_false hb
      omega
    have he := ls_end (M := M) (i := i) (by omega) (by omega)
    intro w202 m202 _
    have hav : ∀ l A, (R l).1 = some A → A.block ∉ [n2] := fun l A hA hd => by
      have h1 := ((S.fam.own l).lt hA).1
      have h2 : A.block = n2 := by simpa using hd
      omega
    have oN := (S.fam.own .n).mdD m202 (hav .n)
    have oT := (S.fam.own .t).mdD m202 (hav .t)
    have ct := C.ct
    rw [hil, ← hil, List.take_of_length_le (by omega)] at ct
    rw [C.cn, ← he] at oN
    rw [ct, ← he] at oT
    have := K _ _ _ _ w202 oN oT ((S.md.mono (by simp)).trans m202)
    rw [he] at this
    show Q (.tuple #[.agg #[.int .i64 p0_0, .slice (R .n).1 (R .n).2.2.length (R .n).2.1, .slice (R .t).1 (R .t).2.2.length (R .t).2.1], .int .i64 0]) w202
    rw [C.cn, ct]
    exact this
end
theorem f93_Q (dm : Int) (next tags : List Int) (na ta : Option Addr) (nc tc : Nat) (w : World) {Q : Value → World → Prop} (hn : RowAt w na 1 i1 next) (ht : RowAt w ta 1 i1 tags) (hnl : next.length < 2 ^ 62) (htl : tags.length < 2 ^ 12)
    (K : ∀ v w', outD w w' (leastD dm next tags) v → Q v w') : f93_vc dm na next.length nc ta tags.length tc Q w := by
  intro n1 hn1 n2 hn2
  intro w3 m3 hL3
  have h1 : n1 < w3.heap.size := hL3 n1 (by simp)
  have h2 : n2 < w3.heap.size := hL3 n2 (by simp)
  refine Ct.call (f133_ok dm next tags na ta nc tc w3 (hn.md m3) (ht.md m3) (by omega) (by omega)) (by simp; omega) fun v w5 hv m5 => ?_
  subst hv
  refine opB_in <| Bd_e rfl <| If_in (fun hb => ?_) fun hb => ?_
  · have hr : ¬ dRight dm next tags = true := by intro e; rw [e] at hb; cases hb
    intro w8 m8 _
    refine K _ _ ⟨⟨none, 0, none, 0, ?_, ?_, ?_⟩, ((m3.trans m5).old m8 (by simpa using hn2))⟩
    · unfold leastD; rw [if_neg hr]; rfl
    · unfold leastD; rw [if_neg hr]; exact OwnL.nil _ _ _ _ _
    · unfold leastD; rw [if_neg hr]; exact OwnL.nil _ _ _ _ _
  · have hr : dRight dm next tags = true := by
      cases h : dRight dm next tags with
      | true => rfl
      | false => rw [h] at hb; cases hb
    obtain ⟨D, em⟩ := dIn_of (drOk hr) htl
    have hres : leastD dm next tags = ((dm, (leastP (dMch dm next tags)).2, (leastP (dMch dm next tags)).1.map (dMch dm next tags).tag), 0) := by unfold leastD; rw [if_pos hr]
    obtain ⟨M, hM⟩ : ∃ M, M = dMch dm next tags := ⟨_, rfl⟩
    rw [← hM] at D em hres
    have h189 := f189_ok (nc := nc) (tc := tc) D (hn.md (m3.trans m5)) (ht.md (m3.trans m5))
    rw [em] at h189
    refine Ct.call h189 (fun d hd => ?_) fun v w10 hv m10 => ?_
    · simp only [List.mem_cons, List.not_mem_nil, or_false] at hd
      have := m5.size
      rcases hd with rfl | rfl <;> omega
    · obtain ⟨a11, c11, rfl, P⟩ := hv
      have m10' : Md [] w w10 := (m3.trans m5).trans m10
      have hn1' : n1 < w10.heap.size := by have := m5.size; have := m10.size; omega
      have hn2' : n2 < w10.heap.size := by have := m5.size; have := m10.size; omega
      refine opL_in <| Bd_e (by rw [D.tl]) ?_
      intro n15 hn15 w16 m16 hL16
      have h15 : n15 < w16.heap.size := hL16 n15 (by simp)
      have m16' : Md [] w10 w16 := m16.fresh (by simpa using hn15)
      intro n17 w18 e17 e18
      subst e17; subst e18
      have ma2 : Md [] w16 (w16.alloc (.cells #[.int .i64 0] 3)) := Md.alloc (M := []) _ _
      have hlit := OwnL.lit (P := Try.prog) (base := w10.heap.size) enci1 w16 3 [(0 : Int)] #[.int .i64 0] m16'.size (by simp [maxLen]) rfl
      have hs18 : (w16.alloc (.cells #[.int .i64 0] 3)).heap.size = w16.heap.size + 1 := Array.size_push _
      have F18 : Fam (w16.alloc (.cells #[.int .i64 0] 3)) w10.heap.size 3 i1 (upd (fun _ : L3 => ((none, 0, []) : Rw Int)) .f (some ⟨w16.heap.size, 0, none⟩, 1, [0])) :=
        (Fam.none w16 _ _ _).upd (ma2.mono (by simp)) hlit fun A hA => .inr (by injection hA with hA; rw [← hA]; exact Nat.le_refl _)
      have hne : ∀ l A, ((upd (fun _ : L3 => ((none, 0, []) : Rw Int)) .f (some ⟨w16.heap.size, 0, none⟩, 1, [0])) l).1 = some A → A.block ≠ n15 := fun l A hA e => by
        cases l with
        | f =>
          rw [upd_same] at hA
          injection hA with hA
          rw [← hA] at e
          have : w16.heap.size = n15 := e
          omega
        | n => rw [upd_ne _ _ (by simp)] at hA; cases hA
        | t => rw [upd_ne _ _ (by simp)] at hA; cases hA
      have S : LW w10 (w16.alloc (.cells #[.int .i64 0] 3)) n15 (upd (fun _ : L3 => ((none, 0, []) : Rw Int)) .f (some ⟨w16.heap.size, 0, none⟩, 1, [0])) :=
        ⟨m16'.trans ma2, F18, hne, by omega, hn15⟩
      refine P93O_ok D em.symm P hn1' hn2' (hn.md m10') (ht.md m10') S (upd_same _ _ _) (upd_ne _ _ (by simp)) (upd_ne _ _ (by simp)) fun a c a2 c2 w' oN oT m' => ?_
      refine K _ _ ⟨⟨a, c, a2, c2, ?_, ?_, ?_⟩, m10'.old m' (by simpa using hn2)⟩
      · rw [hres]
      · rw [hres]; exact oN.down m10'.size
      · rw [hres]; exact oT.down m10'.size
theorem f93_ok (dm : Int) (next tags : List Int) (na ta : Option Addr) (nc tc : Nat) (w : World) (hn : RowAt w na 1 i1 next) (ht : RowAt w ta 1 i1 tags) (hnl : next.length < 2 ^ 62) (htl : tags.length < 2 ^ 12) :
    Ct Try.prog 93 #[.agg #[.int .i64 dm, .slice na next.length nc, .slice ta tags.length tc]] w fun v w' => outD w w' (leastD dm next tags) v := by
  apply f93_in
  exact f93_Q dm next tags na ta nc tc w hn ht hnl htl fun v w' h => h
theorem f95_ok (dm : Int) (next tags : List Int) (na ta : Option Addr) (nc tc : Nat) (p1 p2 : Int) (w : World) (hn : RowAt w na 1 i1 next) (ht : RowAt w ta 1 i1 tags) (hnl : next.length < 2 ^ 62) (htl : tags.length < 2 ^ 12) :
    Ct Try.prog 95 #[.agg #[.int .i64 dm, .slice na next.length nc, .slice ta tags.length tc], .int .i64 p1, .int .i64 p2] w fun v w' => v = .tuple #[.bool (alkD dm next tags p1 p2).1, .int .i64 (alkD dm next tags p1 p2).2] ∧ Md [] w w' := by
  apply f95_in
  intro n1 hn1
  refine Bd_e rfl ?_
  intro w3 m3 hL3
  refine Ct.call (f133_ok dm next tags na ta nc tc w3 (hn.md m3) (ht.md m3) (by omega) (by omega)) (by simpa using hL3 n1 (by simp)) fun v w5 hv m5 => ?_
  subst hv
  refine opB_in <| Bd_e rfl <| Bd_e rfl <| Bd_e rfl <| Bd_e rfl <| Bd_e rfl <| Bd_e rfl <| Bd_e rfl <| Bd_e rfl <| Bd_in fun b15 hb15 => If_in (fun hb => ?_) fun hb => ?_
  · have hno : ¬ (dRight dm next tags = true ∧ -1 ≤ p1 ∧ p1 < tags.length ∧ -1 ≤ p2 ∧ p2 < tags.length) := by
      rintro ⟨h1, h2, h3, h4, h5⟩
      rw [hb15] at hb
      have e1 : decide (p1 < -1) = false := decide_eq_false (by omega)
      have e2 : decide (p1 ≥ (tags.length : Int)) = false := decide_eq_false (by omega)
      have e3 : decide (p2 < -1) = false := decide_eq_false (by omega)
      have e4 : decide (p2 ≥ (tags.length : Int)) = false := decide_eq_false (by omega)
      rw [h1, e1, e2, e3, e4] at hb
      simp at hb
    unfold alkD
    rw [if_neg hno]
    exact ⟨rfl, m3.trans m5⟩
  · have hyes : dRight dm next tags = true ∧ -1 ≤ p1 ∧ p1 < tags.length ∧ -1 ≤ p2 ∧ p2 < tags.length := by
      rw [hb15] at hb
      obtain ⟨k1, k2, k3, k4, k5⟩ := five_false _ _ _ _ _ hb
      have k2 := of_decide_eq_false k2
      have k3 := of_decide_eq_false k3
      have k4 := of_decide_eq_false k4
      have k5 := of_decide_eq_false k5
      refine ⟨by simpa using k1, ?_⟩
      omega
    obtain ⟨D, em⟩ := dIn_of (drOk hyes.1) htl
    have hres : alkD dm next tags p1 p2 = (al (dMch dm next tags) (stD tags p1) (stD tags p2), 0) := by
      unfold alkD
      rw [if_pos hyes]; rfl
    obtain ⟨M, hM⟩ : ∃ M, M = dMch dm next tags := ⟨_, rfl⟩
    have hMn : M.n = tags.length := by rw [hM]; rfl
    rw [← hM] at D em hres
    have hst : ∀ a : Int, -1 ≤ a → a < tags.length → stD tags a ≤ M.n := fun a h1 h2 => by
      unfold stD; rw [hMn]; split <;> omega
    have hs1 := hst p1 hyes.2.1 hyes.2.2.1
    have hs2 := hst p2 hyes.2.2.2.1 hyes.2.2.2.2
    have m5' := m3.trans m5
    refine Jn_in (fun us vs w' => us = [.int .i64 ((stD tags p1 : Nat) : Int)] ∧ w' = w5) ?_ ?_
    · rintro us vs w21 ⟨rfl, rfl⟩
      refine opI_in <| Jn_in (fun us vs w' => us = [.int .i64 ((stD tags p2 : Nat) : Int)] ∧ w' = w21) ?_ ?_
      · rintro us vs w25 ⟨rfl, rfl⟩
        have h189 := f189_ok (nc := nc) (tc := tc) D (hn.md m5') (ht.md m5')
        rw [em] at h189
        refine opI_in <| Ct.call h189 (by have := hL3 n1 (by simp); simpa using Nat.lt_of_lt_of_le this m5.size) fun v w10 hv m10 => ?_
        obtain ⟨a11, c11, rfl, P⟩ := hv
        obtain ⟨i1', ra, rc, i2, r1, r2⟩ := P.rd hs1 hs2
        refine opL_in ⟨i1', r1 _ (Md.refl _ _) _ <| opL_in ⟨i2, r2 _ (Md.refl _ _) _ <| opB_in <| Bd_e (y := al M (stD tags p1) (stD tags p2)) (by simp) ⟨?_, m5'.trans m10⟩⟩⟩
        rw [hres]
      · refine Bd_in fun b hb => If_in (fun h => ?_) fun h => ?_
        · have : p2 = -1 := by rw [hb] at h; simpa using h
          refine ⟨?_, rfl⟩
          unfold stD; rw [if_pos (by omega)]
        · have : ¬ p2 = -1 := by rw [hb] at h; simpa using h
          refine ⟨?_, rfl⟩
          unfold stD; rw [if_neg (by omega)]
          rw [Int.toNat_of_nonneg (by omega)]
    · refine Bd_in fun b hb => If_in (fun h => ?_) fun h => ?_
      · have : p1 = -1 := by rw [hb] at h; simpa using h
        refine ⟨?_, rfl⟩
        unfold stD; rw [if_pos (by omega)]
      · have : ¬ p1 = -1 := by rw [hb] at h; simpa using h
        refine ⟨?_, rfl⟩
        unfold stD; rw [if_neg (by omega)]
        rw [Int.toNat_of_nonneg (by omega)]
end Fk
set_option linter.unusedVariables false
set_option linter.unusedSimpArgs false
set_option maxRecDepth 100000
set_option maxHeartbeats 4000000
namespace Fk
open Go Go.Proofs Go.RowKit
structure Lr (L : List Nat) (wb w : World) (a : Option Addr) (c : Nat) (B : List Rb) (na : Option Addr) (nc : Nat) (nx : List Int) (ta : Option Addr) (tc : Nat) (tg : List Int) : Prop where
  md : Md [] wb w
  own : OwnL w wb.heap.size 222 1 rbE a c B
  rows : ∀ p ∈ B, OwnL w wb.heap.size 4 1 bE p.a p.c p.N
  nx : OwnL w wb.heap.size 3 1 i1 na nc nx
  tg : OwnL w wb.heap.size 3 1 i1 ta tc tg
  ap : Apt na ta
  lt : ∀ b ∈ L, b < w.heap.size
  l0 : ∀ b ∈ L, ∀ A, a = some A → A.block ≠ b
  l1 : ∀ b ∈ L, ∀ A, na = some A → A.block ≠ b
  l2 : ∀ b ∈ L, ∀ A, ta = some A → A.block ≠ b
  l3 : ∀ p ∈ B, ∀ A, p.a = some A → ∀ b ∈ L, A.block ≠ b
section
variable {L : List Nat} {wb w w' : World} {c nc tc : Nat} {a na ta : Option Addr} {B : List Rb} {nx tg : List Int}
theorem Lr.md0 (h : Lr L wb w a c B na nc nx ta tc tg) (hm : Md [] w w') : Lr L wb w' a c B na nc nx ta tc tg :=
  ⟨h.md.trans hm, h.own.md hm, fun p hp => (h.rows p hp).md hm, h.nx.md hm, h.tg.md hm, h.ap, fun b hb => Nat.lt_of_lt_of_le (h.lt b hb) hm.size, h.l0, h.l1, h.l2, h.l3⟩
theorem Lr.mdL {n0 : Nat} (h : Lr L wb w a c B na nc nx ta tc tg) (h0 : n0 ∈ L) (hlo : wb.heap.size ≤ n0) (hm : Md [n0] w w') : Lr L wb w' a c B na nc nx ta tc tg :=
  ⟨h.md.old hm (by simp; exact hlo), h.own.mdD hm (fun A hA => by simp; exact h.l0 n0 h0 A hA), fun p hp => (h.rows p hp).mdD hm (fun A hA => by simp; exact h.l3 p hp A hA n0 h0), h.nx.mdD hm (fun A hA => by simp; exact h.l1 n0 h0 A hA), h.tg.mdD hm (fun A hA => by simp; exact h.l2 n0 h0 A hA), h.ap, fun b hb => Nat.lt_of_lt_of_le (h.lt b hb) hm.size, h.l0, h.l1, h.l2, h.l3⟩
theorem Lr.mdI {b0 c2 : Nat} {x : Option Addr} {xs : List Int} (h : Lr L wb w a c B na nc nx ta tc tg) (o : OwnL w b0 3 1 i1 x c2 xs) (hlo : wb.heap.size ≤ b0) (hm : Md (x.map (·.block)).toList w w') : Md [] wb w' ∧ OwnL w' wb.heap.size 222 1 rbE a c B ∧ ∀ p ∈ B, OwnL w' wb.heap.size 4 1 bE p.a p.c p.N := by
  refine ⟨h.md.old hm (fun d hd => ?_), h.own.mdD hm (fun A hA hd => ?_), fun p hp => (h.rows p hp).mdD hm (fun A hA hd => ?_)⟩
  · obtain ⟨A, hA, e⟩ := mem_blk hd; have := (o.lt hA).1; omega
  · obtain ⟨X, hX, e⟩ := mem_blk hd; exact own_apt2 o h.own (by decide) X A hX hA e
  · obtain ⟨X, hX, e⟩ := mem_blk hd; exact own_apt2 o (h.rows p hp) (by decide) X A hX hA e
theorem Lr.addT {n0 : Nat} (h : Lr L wb w a c B na nc nx ta tc tg) (h0 : n0 ∈ L) (hlo : wb.heap.size ≤ n0) (x : Int) (hl : tg.length < 2 ^ 30) {K : Option Addr → Nat → Nat → World → Prop}
    (kk : ∀ ta' tc' w', Lr L wb w' a c B na nc nx ta' tc' (tg ++ [x]) → K ta' (tg ++ [x]).length tc' w') :
    Nw (.cells #[.int .i64 x] 3) w fun b w' => RunW Try.prog L (Builtin.append_ #[52, 52] 52 #[.slice ta tg.length tc, .slice (some (Addr.mk b 0 none)) 1 1]) (fun v w'' => opL v fun a' n' c' => Up [n0] L w'' fun w3 => K a' n' c' w3) w' := by
  refine app_one rowT52 enci1 x rfl h.tg h.md.size h.lt h.l2 (by simp [maxLen]; omega) (by omega) fun a' c' w' o hm hA => opL_in fun w3 h3 _ => kk a' c' w3 ?_
  obtain ⟨m', o', r'⟩ := h.mdI h.tg (Nat.le_refl _) hm
  obtain ⟨t', ap'⟩ := own_keep h.nx hm hA h.ap.symm
  exact Lr.mdL ⟨m', o', r', t', o, ap'.symm, fun b hb => Nat.lt_of_lt_of_le (h.lt b hb) hm.size, h.l0, h.l1, fun b hb A hA' => by
    rcases hA A hA' with h1 | h1
    · exact h.l2 b hb A h1
    · have := h.lt b hb; omega, h.l3⟩ h0 hlo h3
end
end Fk
set_option linter.unusedVariables false
set_option linter.unusedSimpArgs false
namespace Fk
open Go Go.Proofs Go.RowKit
def cntK (k : Int) (n s : Nat) : Nat := (if k = 1 ∨ k = 4 then 1 else if k = 3 then n - 1 else 0) + s
/-- How many states trees make. -/
def Fo.cnt : Fo → Nat
  | .nil => 0
  | .cons k _ _ _ _ q r => cntK k q.len q.cnt + r.cnt
end Fk
set_option linter.unusedVariables false
set_option linter.unusedSimpArgs false
set_option maxRecDepth 100000
set_option maxHeartbeats 2000000
namespace Fk
open Go Go.Proofs Go.RowKit
structure RS (w0 w : World) (a : Option Addr) (c : Nat) (l : List Ns) : Prop where
  md : Md [] w0 w
  own : OwnL w w0.heap.size 103 8 nsE a c l
/-- A row of states that one appends to, from a world on. -/
structure Sq (w0 wb : World) (pa : Option Addr) (n1 : Nat) (w : World) (a : Option Addr) (c : Nat) (l : List Ns) : Prop where
  rs : RS w0 w a c l
  md : Md (pa.map (·.block)).toList wb w
  rel : ∀ A, a = some A → pa = some A ∨ wb.heap.size ≤ A.block
  nlt : n1 < wb.heap.size
  np : ∀ A, pa = some A → A.block ≠ n1
section
variable {w0 wb w : World} {pa a : Option Addr} {n1 c : Nat} {l : List Ns}
theorem Sq.ln (S : Sq w0 wb pa n1 w a c l) : ∀ b ∈ [n1], b < w.heap.size := fun b hb => by simp at hb; subst hb; have := S.nlt; have := S.md.size; omega
theorem Sq.la (S : Sq w0 wb pa n1 w a c l) : ∀ b ∈ [n1], ∀ A, a = some A → A.block ≠ b := fun b hb A hA e => by
  simp at hb; subst hb
  rcases S.rel A hA with h | h
  · exact S.np A h e
  · have := S.nlt; omega
theorem Sq.step (S : Sq w0 wb pa n1 w a c l) {w' : World} {a' : Option Addr} {c' : Nat} {l' : List Ns} (h : RS w0 w' a' c' l') (hm : Md (a.map (·.block)).toList w w') (hA : ∀ A, a' = some A → a = some A ∨ w.heap.size ≤ A.block) : Sq w0 wb pa n1 w' a' c' l' :=
  ⟨h, S.md.row hm S.rel, fun A h1 => by
    rcases hA A h1 with h2 | h2
    · exact S.rel A h2
    · have := S.md.size; right; omega, S.nlt, S.np⟩
end
end Fk
set_option linter.unusedVariables false
set_option linter.unusedSimpArgs false
set_option maxRecDepth 100000
set_option maxHeartbeats 2000000
namespace Fk
open Go Go.Proofs Go.RowKit
/-- States, and beginnings. -/
structure S2 (wb : World) (n1 : Nat) (w : World) (a : Option Addr) (c : Nat) (l : List Ns) (a2 : Option Addr) (c2 : Nat) (bs : List Int) : Prop where
  q : Sq wb wb none n1 w a c l
  o : OwnL w wb.heap.size 3 1 i1 a2 c2 bs
  ap : Apt a2 a
section
variable {wb w : World} {a a2 : Option Addr} {n1 c c2 : Nat} {l : List Ns} {bs : List Int}
theorem S2.st (S : S2 wb n1 w a c l a2 c2 bs) {w' : World} {a' : Option Addr} {c' : Nat} {l' : List Ns} (h : Sq wb wb none n1 w' a' c' l') (hm : Md (a.map (·.block)).toList w w') (hA : ∀ A, a' = some A → a = some A ∨ w.heap.size ≤ A.block) : S2 wb n1 w' a' c' l' a2 c2 bs :=
  ⟨h, S.o.mdD hm fun A hA' hd => by obtain ⟨B, hB, e⟩ := mem_blk hd; exact S.ap A B hA' hB e.symm, fun A B hA' hB e => by
    rcases hA B hB with h1 | h1
    · exact S.ap A B hA' h1 e
    · have := (S.o.lt hA').2; omega⟩
end
end Fk
set_option linter.unusedVariables false
set_option linter.unusedSimpArgs false
set_option maxRecDepth 100000
set_option maxHeartbeats 2000000
namespace Fk
open Go Go.Proofs Go.RowKit
theorem rgU {L : List Nat} {w0 w : World} {K : Nat → World → Prop} (h : Good L w0 w) (k : ∀ n w', Good (n :: L) w0 w' → Md [] w w' → K n w') : Rg w fun n => Up [n] (n :: L) w (K n) :=
  fun n hn w' hm hL => k n w' ⟨h.1.trans (hm.fresh (by simp; exact hn)), hL⟩ (hm.fresh (by simp; exact hn))
section
variable {L : List Nat} {w0 w : World}
end
theorem ReC.blk {w : World} {n : Nat} {ty : TypeId} {l : List Value} (h : Blk w n ty l) (o : Nat) {k a b c d : Int} {sa : Option Addr} {sn sc : Nat}
    (e0 : l[o]? = some (.int .u8 k)) (e1 : l[o + 1]? = some (.int .u64 a)) (e2 : l[o + 2]? = some (.int .u64 b)) (e3 : l[o + 3]? = some (.int .u64 c)) (e4 : l[o + 4]? = some (.int .u64 d)) (e5 : l[o + 5]? = some (.slice sa sn sc)) :
    ReC w ((Addr.mk n 0 none).add o) k a b c d sa sn sc := by
  have e : ∀ j, ((Addr.mk n 0 none).add o).add j = ⟨n, o + j, none⟩ := fun j => by rw [add_add, ad0']
  unfold ReC
  rw [e, e, e, e, e, e]
  exact ⟨h.cell e0, h.cell e1, h.cell e2, h.cell e3, h.cell e4, h.cell e5⟩
end Fk
set_option linter.unusedVariables false
set_option linter.unusedSimpArgs false
set_option maxRecDepth 100000
namespace Fk
open Go Go.Proofs Go.RowKit
def Fo.app : Fo → Fo → Fo
  | .nil, x => x
  | .cons k a b c d q r, x => .cons k a b c d q (r.app x)
theorem TrF.app {w : World} : ∀ {l l2 : List Tr} {f f2 : Fo}, TrF w l f → TrF w l2 f2 → TrF w (l ++ l2) (f.app f2)
  | [], l2, .nil, f2, _, h2 => h2
  | t :: l, l2, .cons k a b c d q r, f2, ⟨h, h1⟩, h2 => ⟨h, TrF.app h1 h2⟩
  | [], _, .cons .., _, h, _ => h.elim
  | _ :: _, _, .nil, _, h, _ => h.elim
/-- Those that are right. -/
def Fo.good : Fo → Fo
  | .nil => .nil
  | .cons k a b c d q r => if (nodeOk k (z4 a b c d) q.len && q.right) = true then .cons k a b c d q r.good else r.good
end Fk
set_option linter.unusedVariables false
set_option linter.unusedSimpArgs false
set_option maxRecDepth 100000
set_option maxHeartbeats 4000000
namespace Fk
open Go Go.Proofs Go.RowKit
section
variable {L : List Nat} {w0 w : World}
theorem in90 (dm : Int) (na ta : Option Addr) (nn nc tn tc : Nat) (h : Good L w0 w) {K : Bool → World → Prop} (kk : ∀ w', Good L w0 w' → Md [] w w' → K (decide (tn ≤ 60) && decide (nn ≤ 2400)) w') :
    CallW Try.prog L 90 #[.agg #[.int .i64 dm, .slice na nn nc, .slice ta tn tc]] (fun v w' => opB v fun b => K b w') w := by
  refine (f90_ok dm na ta nn nc tn tc w).call h.2 ?_
  rintro v w' rfl h'
  exact opB_in (kk w' (h.tr h') h')
theorem in96 (dm em : Int) (na nb ta tb : List Int) (A B D E : Option Addr) (C1 C2 C3 C4 : Nat) (h : Good L w0 w) (h1 : RowAt w A 1 i1 na) (h2 : RowAt w B 1 i1 ta) (h3 : RowAt w D 1 i1 nb) (h4 : RowAt w E 1 i1 tb) (hl1 : na.length < 2 ^ 63) (hl2 : ta.length < 2 ^ 63) {K : Bool → World → Prop} (kk : ∀ w', Good L w0 w' → Md [] w w' → K (decide (dm = em) && decide (na = nb) && decide (ta = tb)) w') :
    CallW Try.prog L 96 #[.agg #[.int .i64 dm, .slice A na.length C1, .slice B ta.length C2], .agg #[.int .i64 em, .slice D nb.length C3, .slice E tb.length C4]] (fun v w' => opB v fun b => K b w') w := by
  refine (f96_ok dm em na nb ta tb A B D E C1 C2 C3 C4 w h1 h2 h3 h4 hl1 hl2).call h.2 ?_
  rintro v w' rfl h'
  exact opB_in (kk w' (h.tr h') h')
end
end Fk
set_option linter.unusedVariables false
set_option linter.unusedSimpArgs false
set_option maxRecDepth 100000
set_option maxHeartbeats 4000000
namespace Fk
open Go Go.Proofs Go.RowKit
section
variable {L : List Nat} {w0 w : World}
end
section
variable {L : List Nat} {w0 w : World}
end
section
variable {L : List Nat} {w0 w : World}
end
theorem ints_lit {w : World} (l : List Int) (cs : Array Value) (hc : cs.toList = l.flatMap i1) (hl : l.length ≤ 1000) : RowAt (w.alloc (.cells cs 3)) (some ⟨w.heap.size, 0, none⟩) 1 i1 l :=
  (OwnL.lit (P := Try.prog) (base := w.heap.size) enci1 w 3 l cs (Nat.le_refl _) (by simp [maxLen]; omega) hc).row enci1
end Fk
set_option linter.unusedVariables false
set_option linter.unusedSimpArgs false
set_option linter.unusedSectionVars false
set_option maxRecDepth 100000
set_option maxHeartbeats 1000000
namespace Fk
open Go Go.Proofs Go.RowKit
theorem leastD_len {dm : Int} {next tags : List Int} (hl : tags.length < 2 ^ 12) : (leastD dm next tags).1.2.1.length ≤ 2 ^ 20 ∧ (leastD dm next tags).1.2.2.length ≤ tags.length := by
  unfold leastD
  by_cases h : dRight dm next tags = true
  · rw [if_pos h]
    obtain ⟨D, em⟩ := dIn_of (drOk h) hl
    have hI := leastP_LI D.ok D.n1
    have hb := hI.bound
    have hm := D.m2
    have hn := D.n2
    have e : (dMch dm next tags).n = tags.length := rfl
    refine ⟨?_, by simp only [List.length_map]; omega⟩
    show (leastP (dMch dm next tags)).2.length ≤ _
    rw [hI.len]
    have : (leastP (dMch dm next tags)).1.length * (dMch dm next tags).m ≤ 2 ^ 12 * 256 := Nat.mul_le_mul (by omega) hm
    omega
  · rw [if_neg h]; simp
section
variable {L : List Nat} {w0 w : World}
theorem in92 (dm : Int) (next tags : List Int) (na ta : Option Addr) (nc tc : Nat) (h : Good L w0 w) (hn : RowAt w na 1 i1 next) (ht : RowAt w ta 1 i1 tags) (hnl : next.length < 2 ^ 62) (htl : tags.length < 2 ^ 12) {K : Int → Option Addr → Nat → Nat → Option Addr → Nat → Nat → Int → World → Prop}
    (kk : ∀ a c a2 c2 w', Good L w0 w' → Md [] w w' → RowAt w' a 1 i1 (leastD dm next tags).1.2.1 → RowAt w' a2 1 i1 (leastD dm next tags).1.2.2 → K (leastD dm next tags).1.1 a (leastD dm next tags).1.2.1.length c a2 (leastD dm next tags).1.2.2.length c2 (leastD dm next tags).2 w') :
    CallW Try.prog L 92 #[.agg #[.int .i64 dm, .slice na next.length nc, .slice ta tags.length tc]] (fun v w' => opTu v fun cs => opAg (nthD cs.toList 0) fun cs2 => opI .i64 (nthD cs2.toList 0) fun x => opL (nthD cs2.toList 1) fun a n c => opL (nthD cs2.toList 2) fun a2 n2 c2 => SzIs cs2.size 3 (opI .i64 (nthD cs.toList 1) fun e => SzIs cs.size 2 (K x a n c a2 n2 c2 e w'))) w := by
  refine (f92_ok dm next tags na ta nc tc w hn ht hnl htl).call h.2 ?_
  rintro v w' ⟨a, c, a2, c2, rfl, o1, o2⟩ h'
  exact opTu_in <| opAg_in <| opI_in <| opL_in <| opL_in <| SzIs_in rfl <| opI_in <| SzIs_in rfl <| kk a c a2 c2 w' (h.tr h') h' (o1.row enci1) (o2.row enci1)
theorem in93 (dm : Int) (next tags : List Int) (na ta : Option Addr) (nc tc : Nat) (h : Good L w0 w) (hn : RowAt w na 1 i1 next) (ht : RowAt w ta 1 i1 tags) (hnl : next.length < 2 ^ 62) (htl : tags.length < 2 ^ 12) {K : Int → Option Addr → Nat → Nat → Option Addr → Nat → Nat → Int → World → Prop}
    (kk : ∀ a c a2 c2 w', Good L w0 w' → Md [] w w' → RowAt w' a 1 i1 (leastD dm next tags).1.2.1 → RowAt w' a2 1 i1 (leastD dm next tags).1.2.2 → K (leastD dm next tags).1.1 a (leastD dm next tags).1.2.1.length c a2 (leastD dm next tags).1.2.2.length c2 (leastD dm next tags).2 w') :
    CallW Try.prog L 93 #[.agg #[.int .i64 dm, .slice na next.length nc, .slice ta tags.length tc]] (fun v w' => opTu v fun cs => opAg (nthD cs.toList 0) fun cs2 => opI .i64 (nthD cs2.toList 0) fun x => opL (nthD cs2.toList 1) fun a n c => opL (nthD cs2.toList 2) fun a2 n2 c2 => SzIs cs2.size 3 (opI .i64 (nthD cs.toList 1) fun e => SzIs cs.size 2 (K x a n c a2 n2 c2 e w'))) w := by
  refine (f93_ok dm next tags na ta nc tc w hn ht hnl htl).call h.2 ?_
  rintro v w' ⟨a, c, a2, c2, rfl, o1, o2⟩ h'
  exact opTu_in <| opAg_in <| opI_in <| opL_in <| opL_in <| SzIs_in rfl <| opI_in <| SzIs_in rfl <| kk a c a2 c2 w' (h.tr h') h' (o1.row enci1) (o2.row enci1)
theorem in94 (dm : Int) (next tags : List Int) (na ta : Option Addr) (nc tc : Nat) (p1 p2 : Int) (h : Good L w0 w) (hn : RowAt w na 1 i1 next) (ht : RowAt w ta 1 i1 tags) (hnl : next.length < 2 ^ 62) (htl : tags.length < 2 ^ 12) {K : Bool → Int → World → Prop}
    (kk : ∀ w', Good L w0 w' → Md [] w w' → K (alkD dm next tags p1 p2).1 (alkD dm next tags p1 p2).2 w') :
    CallW Try.prog L 94 #[.agg #[.int .i64 dm, .slice na next.length nc, .slice ta tags.length tc], .int .i64 p1, .int .i64 p2] (fun v w' => opTu v fun cs => opB (nthD cs.toList 0) fun b => opI .i64 (nthD cs.toList 1) fun e => SzIs cs.size 2 (K b e w')) w := by
  refine (f94_ok dm next tags na ta nc tc p1 p2 w hn ht hnl htl).call h.2 ?_
  rintro v w' rfl h'
  exact opTu_in <| opB_in <| opI_in <| SzIs_in rfl <| kk w' (h.tr h') h'
theorem in95 (dm : Int) (next tags : List Int) (na ta : Option Addr) (nc tc : Nat) (p1 p2 : Int) (h : Good L w0 w) (hn : RowAt w na 1 i1 next) (ht : RowAt w ta 1 i1 tags) (hnl : next.length < 2 ^ 62) (htl : tags.length < 2 ^ 12) {K : Bool → Int → World → Prop}
    (kk : ∀ w', Good L w0 w' → Md [] w w' → K (alkD dm next tags p1 p2).1 (alkD dm next tags p1 p2).2 w') :
    CallW Try.prog L 95 #[.agg #[.int .i64 dm, .slice na next.length nc, .slice ta tags.length tc], .int .i64 p1, .int .i64 p2] (fun v w' => opTu v fun cs => opB (nthD cs.toList 0) fun b => opI .i64 (nthD cs.toList 1) fun e => SzIs cs.size 2 (K b e w')) w := by
  refine (f95_ok dm next tags na ta nc tc p1 p2 w hn ht hnl htl).call h.2 ?_
  rintro v w' rfl h'
  exact opTu_in <| opB_in <| opI_in <| SzIs_in rfl <| kk w' (h.tr h') h'
end
/-- Which states are alike is told by classes. -/
theorem al_cls {M : Mch} (c : Nat → Nat) (h1 : ∀ x y, c x = c y → M.tag x = M.tag y) (h2 : ∀ x y k, k < M.m → c x = c y → c (M.go x k) = c (M.go y k)) (h3 : ∀ x y, c x ≠ c y → ∃ ks : List Nat, (∀ k ∈ ks, k < M.m) ∧ M.tag (M.run ks x) ≠ M.tag (M.run ks y)) : al M = fun x y => c x == c y := by
  funext x y
  rw [Bool.eq_iff_iff, al_iff, beq_iff_eq]
  constructor
  · intro h
    refine Classical.byContradiction fun hn => ?_
    obtain ⟨ks, hk, hne⟩ := h3 x y hn
    exact hne (h ks hk)
  · intro h
    exact alike_of (R := fun x y => c x = c y) h1 (fun x y k hxy hk => h2 x y k hk hxy) x y h
def lsStepG (f : Nat → Nat → Bool) (n : Nat) (p : List Nat × List Int) (t : Nat) : List Nat × List Int :=
  if f t n = true then (p.1, p.2 ++ [-1]) else (if (p.1.map fun x => f x t).idxOf true < p.1.length then p.1 else p.1 ++ [t], p.2 ++ [((p.1.map fun x => f x t).idxOf true : Int)])
def lsRowG (f : Nat → Nat → Bool) (M : Mch) (s : Nat) (p : List Nat × List Int) : Nat → List Nat × List Int
  | 0 => p
  | k + 1 => lsStepG f M.n (lsRowG f M s p k) (M.go s k)
def lsG (f : Nat → Nat → Bool) (M : Mch) : Nat → List Nat × List Int
  | 0 => ([0], [])
  | i + 1 => match (lsG f M i).1[i]? with
    | some s => lsRowG f M s (lsG f M i) M.m
    | none => lsG f M i
theorem lsRowG_eq (M : Mch) (s : Nat) (p : List Nat × List Int) : ∀ k, lsRowG (al M) M s p k = lsRow M s p k
  | 0 => rfl
  | k + 1 => by
    show lsStepG (al M) M.n (lsRowG (al M) M s p k) (M.go s k) = _
    rw [lsRowG_eq M s p k]; rfl
theorem lsG_eq (M : Mch) : ∀ i, lsG (al M) M i = ls M i
  | 0 => rfl
  | i + 1 => by
    simp only [lsG, ls]
    rw [lsG_eq M i]
    cases (ls M i).1[i]? with
    | none => rfl
    | some s => exact lsRowG_eq M s _ _
theorem leastP_cls {M : Mch} (c : Nat → Nat) (h1 : ∀ x y, c x = c y → M.tag x = M.tag y) (h2 : ∀ x y k, k < M.m → c x = c y → c (M.go x k) = c (M.go y k)) (h3 : ∀ x y, c x ≠ c y → ∃ ks : List Nat, (∀ k ∈ ks, k < M.m) ∧ M.tag (M.run ks x) ≠ M.tag (M.run ks y)) :
    leastP M = lsG (fun x y => c x == c y) M (M.n + 1) := by
  rw [← al_cls c h1 h2 h3]
  exact (lsG_eq M _).symm
/-- Machines of a few states: whatever is no state is nowhere. -/
theorem dM_big {dm : Int} {next tags : List Int} {x : Nat} (h : tags.length ≤ x) : (dMch dm next tags).tag x = -1 ∧ ∀ k, (dMch dm next tags).go x k = tags.length := by
  refine ⟨?_, fun k => ?_⟩
  · show (if x < tags.length then _ else _) = _; rw [if_neg (by omega)]
  · show (if x < tags.length then _ else _) = _; rw [if_neg (by omega)]
/-- Enough: what is so of states up to the last, and of one beyond. -/
theorem cls_fin {dm : Int} {next tags : List Int} (c : List Nat) (d : Nat) (hc : c.length = tags.length) (h1 : ∀ x, x ≤ tags.length → ∀ y, y ≤ tags.length → c.getD x d = c.getD y d → (dMch dm next tags).tag x = (dMch dm next tags).tag y)
    (h2 : ∀ x, x ≤ tags.length → ∀ y, y ≤ tags.length → ∀ k, k < dm.toNat → c.getD x d = c.getD y d → c.getD ((dMch dm next tags).go x k) d = c.getD ((dMch dm next tags).go y k) d)
    (h3 : ∀ x, x ≤ tags.length → ∀ y, y ≤ tags.length → c.getD x d ≠ c.getD y d → (dMch dm next tags).tag x ≠ (dMch dm next tags).tag y ∨ ∃ k, k < dm.toNat ∧ (dMch dm next tags).tag ((dMch dm next tags).go x k) ≠ (dMch dm next tags).tag ((dMch dm next tags).go y k)) :
    leastP (dMch dm next tags) = lsG (fun x y => c.getD x d == c.getD y d) (dMch dm next tags) (tags.length + 1) := by
  -- one that is beyond is as the last one
  have cut : ∀ x, ∃ x', x' ≤ tags.length ∧ c.getD x d = c.getD x' d ∧ (dMch dm next tags).tag x = (dMch dm next tags).tag x' ∧ ∀ k, (dMch dm next tags).go x k = (dMch dm next tags).go x' k := fun x => by
    by_cases h : x ≤ tags.length
    · exact ⟨x, h, rfl, rfl, fun _ => rfl⟩
    · refine ⟨tags.length, Nat.le_refl _, ?_, ?_, fun k => ?_⟩
      · rw [List.getD_eq_getElem?_getD, List.getD_eq_getElem?_getD, List.getElem?_eq_none (by omega), List.getElem?_eq_none (by omega)]
      · rw [(dM_big (by omega)).1, (dM_big (Nat.le_refl _)).1]
      · rw [(dM_big (by omega)).2, (dM_big (Nat.le_refl _)).2]
  refine leastP_cls (fun x => c.getD x d) (fun x y hxy => ?_) (fun x y k hk hxy => ?_) fun x y hxy => ?_
  · obtain ⟨x', hx, a1, a2, _⟩ := cut x
    obtain ⟨y', hy, b1, b2, _⟩ := cut y
    rw [a2, b2]
    exact h1 x' hx y' hy (by rw [← a1, ← b1]; exact hxy)
  · obtain ⟨x', hx, a1, _, a3⟩ := cut x
    obtain ⟨y', hy, b1, _, b3⟩ := cut y
    show c.getD ((dMch dm next tags).go x k) d = c.getD ((dMch dm next tags).go y k) d
    rw [a3, b3]
    exact h2 x' hx y' hy k hk (by rw [← a1, ← b1]; exact hxy)
  · obtain ⟨x', hx, a1, a2, a3⟩ := cut x
    obtain ⟨y', hy, b1, b2, b3⟩ := cut y
    rcases h3 x' hx y' hy (by rw [← a1, ← b1]; exact hxy) with h | ⟨k, hk, h⟩
    · exact ⟨[], by simp, by rw [← a2, ← b2] at h; exact h⟩
    · have hks : ∀ j ∈ [k], j < (dMch dm next tags).m := fun j hj => by
        have e : j = k := List.mem_singleton.1 hj
        rw [e]; exact hk
      refine ⟨[k], hks, ?_⟩
      rw [← a3, ← b3] at h
      exact h
theorem ex_l1 : leastD 1 [1, 2, 2] [0, 0, 0] = ((1, [0], [0]), 0) := by
  have h := cls_fin (dm := 1) (next := [1, 2, 2]) (tags := [0, 0, 0]) [0, 0, 0] 1 rfl (by decide) (by decide) (by decide)
  unfold leastD
  rw [if_pos (by decide), h]
  rfl
theorem ex_l2 : leastD 2 [1, 2, 1, 2, 1, 2] [-1, 0, 0] = ((2, [1, 1, 1, 1], [-1, 0]), 0) := by
  have h := cls_fin (dm := 2) (next := [1, 2, 1, 2, 1, 2]) (tags := [-1, 0, 0]) [0, 1, 1] 2 rfl (by decide) (by decide) (by decide)
  unfold leastD
  rw [if_pos (by decide), h]
  rfl
theorem ex_l3 : leastD 2 [0, 0] [-1] = ((2, [-1, -1], [-1]), 0) := by
  have h := cls_fin (dm := 2) (next := [0, 0]) (tags := [-1]) [0] 0 rfl (by decide) (by decide) (by decide)
  unfold leastD
  rw [if_pos (by decide), h]
  rfl
theorem ex_l4 : leastD 0 [] [] = ((0, [], []), 2) := by
  unfold leastD
  rw [if_neg (by decide)]
section
theorem f187_ok (dm em : Int) (na nb ta tb : List Int) (A B D E : Option Addr) (C1 C2 C3 C4 : Nat) (w : World) (h1 : RowAt w A 1 i1 na) (h2 : RowAt w B 1 i1 ta) (h3 : RowAt w D 1 i1 nb) (h4 : RowAt w E 1 i1 tb) (hl1 : na.length < 2 ^ 62) (hl2 : ta.length < 2 ^ 12) :
    Ct Try.prog 187 #[.agg #[.int .i64 dm, .slice A na.length C1, .slice B ta.length C2], .agg #[.int .i64 em, .slice D nb.length C3, .slice E tb.length C4]] w fun v w' => v = .bool (decide ((leastD dm na ta).2 = 0) && (decide ((leastD dm na ta).1.1 = em) && decide ((leastD dm na ta).1.2.1 = nb) && decide ((leastD dm na ta).1.2.2 = tb))) ∧ Md [] w w' := by
  apply f187_in
  intro n1 hn1 n2 hn2 w3 m3 hL3
  have g3 : Good [n2, n1] w w3 := ⟨m3, hL3⟩
  have hlen := leastD_len (dm := dm) (next := na) hl2
  refine in92 dm na ta A B C1 C2 g3 (h1.md m3) (h2.md m3) hl1 hl2 fun a c a2 c2 w5 g5 m5 r1 r2 n16 hn16 => ?_
  refine Bd_in fun b17 hb17 w18 m18 hL18 => ?_
  have m18' : Md [] w5 w18 := m18.fresh (by simp; exact hn16)
  have g18 : Good [n16, n2, n1] w w18 := ⟨g5.1.trans m18', hL18⟩
  have fin : ∀ (b : Bool) (w' : World), Md [] w w' → ((Value.bool (bif b17 then b else false) = .bool (decide ((leastD dm na ta).2 = 0) && (decide ((leastD dm na ta).1.1 = em) && decide ((leastD dm na ta).1.2.1 = nb) && decide ((leastD dm na ta).1.2.2 = tb)))) ∧ Md [] w w') ∨ ¬ (b17 = true → b = (decide ((leastD dm na ta).1.1 = em) && decide ((leastD dm na ta).1.2.1 = nb) && decide ((leastD dm na ta).1.2.2 = tb))) := fun b w' hm => by
    by_cases hb : b17 = true → b = (decide ((leastD dm na ta).1.1 = em) && decide ((leastD dm na ta).1.2.1 = nb) && decide ((leastD dm na ta).1.2.2 = tb))
    · left
      refine ⟨?_, hm⟩
      congr 1
      have e : b17 = decide ((leastD dm na ta).2 = 0) := by rw [hb17, Bool.eq_iff_iff, beq_iff_eq, decide_eq_true_eq]
      rw [← e]
      cases hb2 : b17 with
      | false => rfl
      | true => rw [hb hb2]; rfl
    · exact .inr hb
  cases hb2 : b17 with
  | false =>
    refine Gd_f <| Bd_e rfl ?_
    rcases fin false w18 g18.1 with h | h
    · rw [hb2] at h; exact h
    · exact absurd (fun e => by rw [hb2] at e; cases e) h
  | true =>
    refine Gd_t <| in96 _ em _ nb _ tb a a2 D E c c2 C3 C4 g18 (r1.md m18') (r2.md m18') (h3.md g18.1) (h4.md g18.1) (by omega) (by omega) fun w21 g21 m21 => Bd_e rfl ?_
    rcases fin _ w21 g21.1 with h | h
    · rw [hb2] at h; exact h
    · exact absurd (fun _ => rfl) h
variable {L : List Nat} {w0 w : World}
theorem in187 (dm em : Int) (na nb ta tb : List Int) (A B D E : Option Addr) (C1 C2 C3 C4 : Nat) (h : Good L w0 w) (h1 : RowAt w A 1 i1 na) (h2 : RowAt w B 1 i1 ta) (h3 : RowAt w D 1 i1 nb) (h4 : RowAt w E 1 i1 tb) (hl1 : na.length < 2 ^ 62) (hl2 : ta.length < 2 ^ 12) (he : leastD dm na ta = ((em, nb, tb), 0)) {K : Bool → World → Prop} (kk : ∀ w', Good L w0 w' → Md [] w w' → K true w') :
    CallW Try.prog L 187 #[.agg #[.int .i64 dm, .slice A na.length C1, .slice B ta.length C2], .agg #[.int .i64 em, .slice D nb.length C3, .slice E tb.length C4]] (fun v w' => opB v fun b => K b w') w := by
  refine (f187_ok dm em na nb ta tb A B D E C1 C2 C3 C4 w h1 h2 h3 h4 hl1 hl2).call h.2 ?_
  rintro v w' rfl h'
  refine opB_in ?_
  have : (decide ((leastD dm na ta).2 = 0) && (decide ((leastD dm na ta).1.1 = em) && decide ((leastD dm na ta).1.2.1 = nb) && decide ((leastD dm na ta).1.2.2 = tb))) = true := by rw [he]; simp
  rw [this]
  exact kk w' (h.tr h') h'
end
theorem f91_ok (w : World) : Ct Try.prog 91 #[] w fun v w' => v = .bool true ∧ Md [] w w' := by
  apply f91_in
  have lit : ∀ (w : World) (l : List Int) (cs : Array Value), cs.toList = l.flatMap i1 → l.length ≤ 1000 → RowAt (w.alloc (.cells cs 3)) (some ⟨w.heap.size, 0, none⟩) 1 i1 l := fun w l cs hc hl => ints_lit l cs hc hl
  have al : ∀ (w : World) (o : Obj), Md [] w (w.alloc o) := fun w o => Md.alloc w o
  have g0 : Good [] w w := ⟨Md.refl _ _, by simp⟩
  intro n1 w2 e1 e2 n3 w4 e3 e4 n5 w6 e5 e6 n7 w8 e7 e8
  have m2 : Md [] w w2 := by rw [e2]; exact al _ _
  have m4 : Md [] w2 w4 := by rw [e4]; exact al _ _
  have m6 : Md [] w4 w6 := by rw [e6]; exact al _ _
  have m8 : Md [] w6 w8 := by rw [e8]; exact al _ _
  have r1 : RowAt w2 (some ⟨n1, 0, none⟩) 1 i1 [1, 2, 2] := by rw [e1, e2]; exact lit _ _ _ rfl (by decide)
  have r3 : RowAt w4 (some ⟨n3, 0, none⟩) 1 i1 [0, 0, 0] := by rw [e3, e4]; exact lit _ _ _ rfl (by decide)
  have r5 : RowAt w6 (some ⟨n5, 0, none⟩) 1 i1 [0] := by rw [e5, e6]; exact lit _ _ _ rfl (by decide)
  have r7 : RowAt w8 (some ⟨n7, 0, none⟩) 1 i1 [0] := by rw [e7, e8]; exact lit _ _ _ rfl (by decide)
  refine in187 1 1 [1, 2, 2] [0] [0, 0, 0] [0] _ _ _ _ 3 3 1 1 (g0.tr (((m2.trans m4).trans m6).trans m8)) (r1.md ((m4.trans m6).trans m8)) (r3.md (m6.trans m8)) (r5.md m8) r7 (by decide) (by decide) ex_l1 fun w10 g10 _ => ?_
  clear m2 m4 m6 m8 r1 r3 r5 r7 e1 e2 e3 e4 e5 e6 e7 e8
  intro n1 w2 e1 e2 n3 w4 e3 e4 n5 w6 e5 e6 n7 w8 e7 e8
  have m2 : Md [] w10 w2 := by rw [e2]; exact al _ _
  have m4 : Md [] w2 w4 := by rw [e4]; exact al _ _
  have m6 : Md [] w4 w6 := by rw [e6]; exact al _ _
  have m8 : Md [] w6 w8 := by rw [e8]; exact al _ _
  have r1 : RowAt w2 (some ⟨n1, 0, none⟩) 1 i1 [1, 2, 1, 2, 1, 2] := by rw [e1, e2]; exact lit _ _ _ rfl (by decide)
  have r3 : RowAt w4 (some ⟨n3, 0, none⟩) 1 i1 [-1, 0, 0] := by rw [e3, e4]; exact lit _ _ _ rfl (by decide)
  have r5 : RowAt w6 (some ⟨n5, 0, none⟩) 1 i1 [1, 1, 1, 1] := by rw [e5, e6]; exact lit _ _ _ rfl (by decide)
  have r7 : RowAt w8 (some ⟨n7, 0, none⟩) 1 i1 [-1, 0] := by rw [e7, e8]; exact lit _ _ _ rfl (by decide)
  refine in187 2 2 [1, 2, 1, 2, 1, 2] [1, 1, 1, 1] [-1, 0, 0] [-1, 0] _ _ _ _ 6 3 4 2 (g10.tr (((m2.trans m4).trans m6).trans m8)) (r1.md ((m4.trans m6).trans m8)) (r3.md (m6.trans m8)) (r5.md m8) r7 (by decide) (by decide) ex_l2 fun w21 g21 _ => ?_
  clear m2 m4 m6 m8 r1 r3 r5 r7 e1 e2 e3 e4 e5 e6 e7 e8
  intro n1 w2 e1 e2 n3 w4 e3 e4 n5 w6 e5 e6 n7 w8 e7 e8
  have m2 : Md [] w21 w2 := by rw [e2]; exact al _ _
  have m4 : Md [] w2 w4 := by rw [e4]; exact al _ _
  have m6 : Md [] w4 w6 := by rw [e6]; exact al _ _
  have m8 : Md [] w6 w8 := by rw [e8]; exact al _ _
  have r1 : RowAt w2 (some ⟨n1, 0, none⟩) 1 i1 [0, 0] := by rw [e1, e2]; exact lit _ _ _ rfl (by decide)
  have r3 : RowAt w4 (some ⟨n3, 0, none⟩) 1 i1 [-1] := by rw [e3, e4]; exact lit _ _ _ rfl (by decide)
  have r5 : RowAt w6 (some ⟨n5, 0, none⟩) 1 i1 [-1, -1] := by rw [e5, e6]; exact lit _ _ _ rfl (by decide)
  have r7 : RowAt w8 (some ⟨n7, 0, none⟩) 1 i1 [-1] := by rw [e7, e8]; exact lit _ _ _ rfl (by decide)
  refine in187 2 2 [0, 0] [-1, -1] [-1] [-1] _ _ _ _ 2 1 2 1 (g21.tr (((m2.trans m4).trans m6).trans m8)) (r1.md ((m4.trans m6).trans m8)) (r3.md (m6.trans m8)) (r5.md m8) r7 (by decide) (by decide) ex_l3 fun w32 g32 _ => ?_
  clear m2 m4 m6 m8 r1 r3 r5 r7 e1 e2 e3 e4 e5 e6 e7 e8
  have rn : ∀ w : World, RowAt w none 1 i1 ([] : List Int) := fun w i x h => by simp at h
  refine in92 0 [] [] none none 0 0 g32 (rn _) (rn _) (by decide) (by decide) fun a c a2 c2 w35 g35 m35 _ _ => ?_
  rw [ex_l4]
  intro n46 hn46
  refine Bd_e (y := true) rfl <| Bd_e (y := true) rfl <| Bd_e (y := true) rfl <| Bd_e (y := true) rfl fun w51 m51 _ => ⟨rfl, ?_⟩
  exact g35.1.trans (m51.fresh (by simp; exact hn46))
section
variable {L : List Nat} {w0 w : World}
theorem in91 (h : Good L w0 w) {K : Bool → World → Prop} (kk : ∀ w', Good L w0 w' → K true w') : CallW Try.prog L 91 #[] (fun v w' => opB v fun b => K b w') w := by
  refine (f91_ok w).call h.2 ?_
  rintro v w' rfl h'
  exact opB_in (kk w' (h.tr h'))
end
theorem f19_ok (dm : Int) (next tags : List Int) (na ta : Option Addr) (nc tc : Nat) (p1 p2 : Int) (w : World) (hn : RowAt w na 1 i1 next) (ht : RowAt w ta 1 i1 tags) :
    Ct Try.prog 19 #[.agg #[.int .i64 dm, .slice na next.length nc, .slice ta tags.length tc], .int .i64 p1, .int .i64 p2] w fun v w' => v = .bool true ∧ Md [] w w' := by
  apply f19_in
  intro n1 hn1 w2 m2 hL2
  have g2 : Good [n1] w w2 := ⟨m2, hL2⟩
  have fin : ∀ {w' : World} {L : List Nat}, Good L w w' → (Value.bool true = .bool true ∧ Md [] w w') := fun h => ⟨rfl, h.1⟩
  refine in90 dm na ta next.length nc tags.length tc g2 fun w4 g4 m4 => ?_
  refine Bd_in fun b6 hb6 => If_in (fun _ => in91 g4 fun w8 g8 => fin g8) fun hb => ?_
  have hfew : tags.length ≤ 60 ∧ next.length ≤ 2400 := by
    rw [hb6] at hb
    simp at hb
    omega
  have hl := leastD_len (dm := dm) (next := next) (tags := tags) (by omega)
  refine in92 dm next tags na ta nc tc g4 (hn.md g4.1) (ht.md g4.1) (by omega) (by omega) fun a c a2 c2 w11 g11 m11 r1 r2 => ?_
  refine rgU g11 fun n22 w23 g23 m23 => ?_
  refine in93 dm next tags na ta nc tc g23 (hn.md g23.1) (ht.md g23.1) (by omega) (by omega) fun a3 c3 a4 c4 w25 g25 m25 r3 r4 => ?_
  refine rgU g25 fun n36 w37 g37 m37 => ?_
  refine in94 dm next tags na ta nc tc p1 p2 g37 (hn.md g37.1) (ht.md g37.1) (by omega) (by omega) fun w39 g39 m39 => ?_
  refine in95 dm next tags na ta nc tc p1 p2 g39 (hn.md g39.1) (ht.md g39.1) (by omega) (by omega) fun w44 g44 m44 => ?_
  have m2344 : Md [] w25 w44 := (m37.trans m39).trans m44
  have m1144 : Md [] w11 w44 := (m23.trans m25).trans m2344
  refine in96 _ _ _ _ _ _ a a2 a3 a4 c c2 c3 c4 g44 (r1.md m1144) (r2.md m1144) (r3.md m2344) (r4.md m2344) (by omega) (by omega) fun w49 g49 m49 => ?_
  refine Bd_e (y := true) (by simp) <| Bd_e (y := true) (by simp) <| Bd_e (y := true) (by simp) <| Bd_e (y := true) rfl <| Bd_e (y := true) (by simp) <| Bd_e (y := true) rfl <| Gd_t <| in91 g49 fun w59 g59 => Bd_e (y := true) rfl (fin g59)
end Fk
