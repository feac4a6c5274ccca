/- Contracts of functions, and plain laws: several texts, joined. -/
import Derived.Test.YtpgjpgecgibklaaGR2
import Derived.Test.YtpgjpgecgibklaaGR1
import Derived.Test.YtpgjpgecgibklaaGK2
import Derived.Laws.Strings2
import Derived.Test.YtpgjpgecgibklaaGR0
import Derived.Test.YtpgjpgecgibklaaGV1
set_option linter.unusedVariables false
set_option linter.unusedSimpArgs false
set_option maxRecDepth 100000
set_option maxHeartbeats 4000000
namespace Fk
open Go Go.Proofs Go.RowKit
def L67 (st : Int) (pa : Option Addr) (pn pc : Nat) (n1 n2 n3 n69 n : Nat) (fa : Option Addr) (fn : Nat) (many most : Int) (nt : Nat) (R : Value → World → Prop) (w : World) : Prop :=
  LoopP (fun l72 l73 J74 w75 => opI IntKind.i64 (nthD l72 (0 : Nat)) fun x76 => opI IntKind.i64 (nthD l72 (1 : Nat)) fun x77 => opAg (nthD l73 (0 : Nat)) fun cs78 => opI IntKind.i64
  (nthD (Array.toList cs78) (0 : Nat)) fun x79 => opL (nthD (Array.toList cs78) (1 : Nat)) fun a80 n81 n82 => opL (nthD (Array.toList cs78) (2 : Nat)) fun a83 n84 n85 => SzIs
  (Array.size cs78) (3 : Nat) (opAg (nthD l73 (1 : Nat)) fun cs86 => opI IntKind.i64 (nthD (Array.toList cs86) (0 : Nat)) fun x87 => opL (nthD (Array.toList cs86) (1 : Nat)) fun a88
  n89 n90 => opL (nthD (Array.toList cs86) (2 : Nat)) fun a91 n92 n93 => SzIs (Array.size cs86) (3 : Nat) (NN (some (Addr.mk n (0 : Nat) none)) fun A94 => Ld w75 (Addr.add A94 (1 :
  Nat)) fun v95 => opL v95 fun a96 n97 n98 => Bd ((n97 : Nat) : Int) fun x99 => Bd (decide (x77 < x99)) fun b100 => If b100 (Bd ((fn : Nat) : Int) fun x101 => LoopP (fun l102 l103
  J104 w105 => opI IntKind.i64 (nthD l102 (0 : Nat)) fun x106 => opI IntKind.i64 (nthD l102 (1 : Nat)) fun x107 => opAg (nthD l103 (0 : Nat)) fun cs108 => opI IntKind.i64 (nthD
  (Array.toList cs108) (0 : Nat)) fun x109 => opL (nthD (Array.toList cs108) (1 : Nat)) fun a110 n111 n112 => opL (nthD (Array.toList cs108) (2 : Nat)) fun a113 n114 n115 => SzIs
  (Array.size cs108) (3 : Nat) (opAg (nthD l103 (1 : Nat)) fun cs116 => opI IntKind.i64 (nthD (Array.toList cs116) (0 : Nat)) fun x117 => opL (nthD (Array.toList cs116) (1 : Nat))
  fun a118 n119 n120 => opL (nthD (Array.toList cs116) (2 : Nat)) fun a121 n122 n123 => SzIs (Array.size cs116) (3 : Nat) (Bd (decide (x107 < x101)) fun b124 => If b124 (Jn (fun l125
  l126 w127 => opI IntKind.i64 (nthD l125 (0 : Nat)) fun x128 => opAg (nthD l126 (0 : Nat)) fun cs129 => opI IntKind.i64 (nthD (Array.toList cs129) (0 : Nat)) fun x130 => opL (nthD
  (Array.toList cs129) (1 : Nat)) fun a131 n132 n133 => opL (nthD (Array.toList cs129) (2 : Nat)) fun a134 n135 n136 => SzIs (Array.size cs129) (3 : Nat) (opAg (nthD l126 (1 : Nat))
  fun cs137 => opI IntKind.i64 (nthD (Array.toList cs137) (0 : Nat)) fun x138 => opL (nthD (Array.toList cs137) (1 : Nat)) fun a139 n140 n141 => opL (nthD (Array.toList cs137) (2 :
  Nat)) fun a142 n143 n144 => SzIs (Array.size cs137) (3 : Nat) (Bd (IntKind.wrap IntKind.i64 (x107 + (1 : Int))) fun x145 => J104 [Value.int IntKind.i64 x128, Value.int IntKind.i64
  x145] [Value.agg #[Value.int IntKind.i64 x130, Value.slice a131 n132 n133, Value.slice a134 n135 n136], Value.agg #[Value.int IntKind.i64 x138, Value.slice a139 n140 n141,
  Value.slice a142 n143 n144]] w127))) fun J146 => IxOk x107 fn fa ∧ Ld w105 (adAt fa x107 (1 : Nat)) fun v147 => opI IntKind.u8 v147 fun x148 => Dr (World.drew w105) fun J149 => NN
  (some (Addr.mk n (0 : Nat) none)) fun A150 => ∃ v151, (∀ (w152 : World), J149 w152 → Ld w152 (Addr.add A150 (1 : Nat)) fun v154 => v154 = v151) ∧ opL v151 fun a155 n156 n157 =>
  IxOk x77 n156 a155 ∧ ∃ v158, (∀ (w159 : World), J149 w159 → Ld w159 (adAt a155 x77 (1 : Nat)) fun v161 => v161 = v158) ∧ opL v158 fun a162 n163 n164 => CallW Try.prog [n69, n3, n2,
  n1] (171 : Nat) #[Value.agg #[Value.int IntKind.i64 st, Value.slice pa pn pc], Value.slice a162 n163 n164, Value.int IntKind.u8 x148] (fun v165 w166 => opL v165 fun a167 n168 n169
  => J149 w166 ∧ Bd ((n168 : Nat) : Int) fun x170 => Bd (x170 == (0 : Int)) fun b171 => If b171 (Nw (Obj.cells #[Value.int IntKind.i64 (-1 : Int)] (3 : Nat)) w166 fun n172 w173 =>
  RunW Try.prog [n69, n3, n2, n1] (Builtin.append_ #[(52 : Nat), (52 : Nat)] (52 : Nat) #[Value.slice a118 n119 n120, Value.slice (some (Addr.mk n172 (0 : Nat) none)) (1 : Nat) (1 :
  Nat)]) (fun v174 w175 => opL v174 fun a176 n177 n178 => Up [n69] [n69, n3, n2, n1] w175 fun w179 => J146 [Value.int IntKind.i64 x106] [Value.agg #[Value.int IntKind.i64 x109,
  Value.slice a110 n111 n112, Value.slice a113 n114 n115], Value.agg #[Value.int IntKind.i64 x117, Value.slice a176 n177 n178, Value.slice a121 n122 n123]] w179) w173) (CallW
  Try.prog [n69, n3, n2, n1] (167 : Nat) #[Value.agg #[Value.int IntKind.i64 st, Value.slice pa pn pc], Value.slice a167 n168 n169] (fun v180 w181 => opL v180 fun a182 n183 n184 =>
  CallW Try.prog [n69, n3, n2, n1] (169 : Nat) #[Value.slice a182 n183 n184] (fun v185 w186 => opStr v185 fun s187 => CallW Try.prog [n69, n3, n2, n1] (168 : Nat) #[Value.pointer
  (some (Addr.mk n (0 : Nat) none)), Value.string s187, Value.slice a182 n183 n184] (fun v188 w189 => opTu v188 fun cs190 => opI IntKind.i64 (nthD (Array.toList cs190) (0 : Nat)) fun
  x191 => opB (nthD (Array.toList cs190) (1 : Nat)) fun b192 => SzIs (Array.size cs190) (2 : Nat) (Jn (fun l193 l194 w195 => opAg (nthD l194 (0 : Nat)) fun cs196 => opI IntKind.i64
  (nthD (Array.toList cs196) (0 : Nat)) fun x197 => opL (nthD (Array.toList cs196) (1 : Nat)) fun a198 n199 n200 => opL (nthD (Array.toList cs196) (2 : Nat)) fun a201 n202 n203 =>
  SzIs (Array.size cs196) (3 : Nat) (NN (some (Addr.mk n (0 : Nat) none)) fun A204 => Ld w195 (Addr.add A204 (1 : Nat)) fun v205 => opL v205 fun a206 n207 n208 => Bd ((n207 : Nat) :
  Int) fun x209 => Bd (decide (x209 > most)) fun b210 => If b210 (Up [n3] [n69, n3, n2, n1] w195 fun w211 => R (Value.tuple #[Value.agg #[Value.int IntKind.i64 (0 : Int), Value.slice
  none (0 : Nat) (0 : Nat), Value.slice none (0 : Nat) (0 : Nat)], Value.int IntKind.i64 (40 : Int)]) w211) (Nw (Obj.cells #[Value.int IntKind.i64 x191] (3 : Nat)) w195 fun n212 w213
  => RunW Try.prog [n69, n3, n2, n1] (Builtin.append_ #[(52 : Nat), (52 : Nat)] (52 : Nat) #[Value.slice a198 n199 n200, Value.slice (some (Addr.mk n212 (0 : Nat) none)) (1 : Nat) (1
  : Nat)]) (fun v214 w215 => opL v214 fun a216 n217 n218 => Up [n69] [n69, n3, n2, n1] w215 fun w219 => J146 [Value.int IntKind.i64 x106] [Value.agg #[Value.int IntKind.i64 x109,
  Value.slice a110 n111 n112, Value.slice a113 n114 n115], Value.agg #[Value.int IntKind.i64 x197, Value.slice a216 n217 n218, Value.slice a201 n202 n203]] w219) w213))) fun J220 =>
  If b192 (CallW Try.prog [n69, n3, n2, n1] (170 : Nat) #[Value.agg #[Value.int IntKind.i64 st, Value.slice pa pn pc], Value.slice a182 n183 n184] (fun v221 w222 => opI IntKind.i64
  v221 fun x223 => Nw (Obj.cells #[Value.int IntKind.i64 x223] (3 : Nat)) w222 fun n224 w225 => RunW Try.prog [n69, n3, n2, n1] (Builtin.append_ #[(52 : Nat), (52 : Nat)] (52 : Nat)
  #[Value.slice a121 n122 n123, Value.slice (some (Addr.mk n224 (0 : Nat) none)) (1 : Nat) (1 : Nat)]) (fun v226 w227 => opL v226 fun a228 n229 n230 => Up [n69] [n69, n3, n2, n1]
  w227 fun w231 => J220 [] [Value.agg #[Value.int IntKind.i64 x117, Value.slice a118 n119 n120, Value.slice a228 n229 n230]] w231) w225) (World.drew w189) ∧ CallW Try.prog [n69, n3,
  n2, n1] (170 : Nat) #[Value.agg #[Value.int IntKind.i64 st, Value.slice pa pn pc], Value.slice a182 n183 n184] (fun v232 w233 => opI IntKind.i64 v232 fun x234 => (Nw (Obj.cells
  #[Value.int IntKind.i64 x234] (3 : Nat)) w233 fun n235 w236 => RunW Try.prog [n69, n3, n2, n1] (Builtin.append_ #[(52 : Nat), (52 : Nat)] (52 : Nat) #[Value.slice a121 n122 n123,
  Value.slice (some (Addr.mk n235 (0 : Nat) none)) (1 : Nat) (1 : Nat)]) (fun v237 w238 => opL v237 fun a239 n240 n241 => Up [n69] [n69, n3, n2, n1] w238 fun w242 => J220 []
  [Value.agg #[Value.int IntKind.i64 x117, Value.slice a118 n119 n120, Value.slice a239 n240 n241]] w242) w236) ∧ Nw (Obj.cells #[Value.int IntKind.i64 x234] (3 : Nat)) w233 fun n243
  w244 => RunW Try.prog [n69, n3, n2, n1] (Builtin.append_ #[(52 : Nat), (52 : Nat)] (52 : Nat) #[Value.slice a121 n122 n123, Value.slice (some (Addr.mk n243 (0 : Nat) none)) (1 :
  Nat) (1 : Nat)]) (fun v245 w246 => opL v245 fun a247 n248 n249 => Up [n69] [n69, n3, n2, n1] w246 fun w250 => J220 [] [Value.agg #[Value.int IntKind.i64 x117, Value.slice a118 n119
  n120, Value.slice a247 n248 n249]] w250) w244) (World.drew w189)) (J220 [] [Value.agg #[Value.int IntKind.i64 x117, Value.slice a118 n119 n120, Value.slice a121 n122 n123]] w189)))
  w186) w181) w166)) (World.drew w105)) (Bd (IntKind.wrap IntKind.i64 (x77 + (1 : Int))) fun x251 => J74 [Value.int IntKind.i64 x106, Value.int IntKind.i64 x251] [Value.agg
  #[Value.int IntKind.i64 x109, Value.slice a110 n111 n112, Value.slice a113 n114 n115], Value.agg #[Value.int IntKind.i64 x117, Value.slice a118 n119 n120, Value.slice a121 n122
  n123]] w105)))) [Value.int IntKind.i64 x76, Value.int IntKind.i64 (0 : Int)] [Value.agg #[Value.int IntKind.i64 x79, Value.slice a80 n81 n82, Value.slice a83 n84 n85], Value.agg
  #[Value.int IntKind.i64 x87, Value.slice a88 n89 n90, Value.slice a91 n92 n93]] w75) (Up [n3] [n69, n3, n2, n1] w75 fun w252 => R (Value.tuple #[Value.agg #[Value.int IntKind.i64
  x87, Value.slice a88 n89 n90, Value.slice a91 n92 n93], Value.int IntKind.i64 (0 : Int)]) w252)))) [Value.int IntKind.i64 (0 : Int), Value.int IntKind.i64 (0 : Int)] [Value.agg
  #[Value.int IntKind.i64 (0 : Int), Value.slice none (0 : Nat) (0 : Nat), Value.slice none (0 : Nat) (0 : Nat)], Value.agg #[Value.int IntKind.i64 many, Value.slice none (0 : Nat)
  (0 : Nat), Value.slice (some (Addr.mk nt (0 : Nat) none)) (1 : Nat) (1 : Nat)]] w
theorem byL_len (b : Nat) : ∀ (N : List Bool) (l : List Ns), (byL b N l).length ≤ l.length
  | [], l => by rw [show byL b [] l = [] by cases l <;> rfl]; simp
  | h :: hs, [] => by simp [byL]
  | h :: hs, x :: xs => by
    have := byL_len b hs xs
    unfold byL
    split
    · simp; omega
    · simp; omega
theorem Ls.placeU {L : List Nat} {wb w : World} {n m c nc tc : Nat} {a na ta : Option Addr} {B : List Rb} {nx tg : List Int} (h : Ls L wb w n m a c B na nc nx ta tc tg) (N : List Bool) (pa : Option Addr) (pc b0 : Nat) (hN : OwnL w b0 4 1 bE pa pc N) (hb0 : wb.heap.size ≤ b0) (hbL : ∀ b ∈ L, b < b0) (hlen : ∀ p ∈ B, p.N.length = N.length) (hl : B.length < 2 ^ 30) {K : Int → Bool → World → Prop}
    (k : ∀ x b a' c' B' w', Ls L wb w' n m a' c' B' na nc nx ta tc tg → (b = false ∧ B' = B ∧ ∃ i : Nat, idxB N (B.map (·.N)) 0 = some i ∧ x = (i : Int)) ∨ (b = true ∧ B' = B ++ [⟨pa, pc, N⟩] ∧ idxB N (B.map (·.N)) 0 = none ∧ x = (B.length : Int)) → K x b w') :
    CallW Try.prog L 168 #[.pointer (some (Addr.mk n 0 none)), .string (keyS N), .slice pa N.length pc] (fun v w' => opTu v fun cs => opI .i64 (nthD cs.toList 0) fun x => opB (nthD cs.toList 1) fun b => SzIs cs.size 2 (K x b w')) w :=
  h.place N pa pc b0 hN hb0 hbL hlen hl (fun i w' hi h' => k _ _ a c B w' h' (.inl ⟨rfl, rfl, i, hi, rfl⟩)) fun a' c' w' hi h' => k _ _ a' c' _ w' h' (.inr ⟨rfl, rfl, hi, rfl⟩)
theorem l67_ok {w0 wb w : World} {n1 n2 n3 n69 n m nt : Nat} (st : Int) (l : List Ns) (pa : Option Addr) (pc : Nat) (fa : Option Addr) (F : List Nat) (many most : Int) {a0 : Option Addr} {c0 : Nat} {p0 : Rb} {R : Value → World → Prop}
    (hr : RowAt wb pa 8 nsE l) (hl : OkL l) (hlen : l.length ≤ 20000) (hF : RowAt wb fa 1 b1 F) (hF8 : ∀ x ∈ F, x < 256) (hFl : F.length ≤ 256) (hm1 : 1 ≤ most) (hm2 : most ≤ 5000)
    (h0 : Md [] w0 wb) (hn3 : w0.heap.size ≤ n3) (hn69 : wb.heap.size ≤ n69) (hp0 : p0.N.length = l.length)
    (S : Ls [n69, n3, n2, n1] wb w n m a0 c0 [p0] none 0 [] (some ⟨nt, 0, none⟩) 1 [tagF p0.N l (-1)])
    (hR40 : dAll l most.toNat F (most.toNat + 1) 0 ([p0.N], []) = none → ∀ w', Md [] w0 w' → R (.tuple #[.agg #[.int .i64 0, .slice none 0 0, .slice none 0 0], .int .i64 40]) w')
    (hR0 : ∀ p na nc ta tc w', dAll l most.toNat F (most.toNat + 1) 0 ([p0.N], []) = some p → OwnL w' wb.heap.size 3 1 i1 na nc p.2 → OwnL w' wb.heap.size 3 1 i1 ta tc (tagL l p.1) → Apt na ta → Md [] w0 w' → R (.tuple #[.agg #[.int .i64 many, .slice na p.2.length nc, .slice ta (tagL l p.1).length tc], .int .i64 0]) w') :
    L67 st pa l.length pc n1 n2 n3 n69 n fa F.length many most nt R w := by
  unfold L67
  generalize hT : dAll l most.toNat F (most.toNat + 1) 0 ([p0.N], []) = T at *
  generalize hM : most.toNat = M at *
  have hMm : most = (M : Int) := by omega
  refine LoopP_in (fun mm us vs w' => ∃ (i : Nat) (a : Option Addr) (c : Nat) (B : List Rb) (na : Option Addr) (nc : Nat) (nx : List Int) (ta : Option Addr) (tc : Nat) (tg : List Int),
      us = [.int .i64 0, .int .i64 i] ∧ vs = [.agg #[.int .i64 0, .slice none 0 0, .slice none 0 0], .agg #[.int .i64 many, .slice na nx.length nc, .slice ta tg.length tc]] ∧ Ls [n69, n3, n2, n1] wb w' n m a c B na nc nx ta tc tg ∧ tg = tagL l (B.map (·.N)) ∧
      B.length ≤ M ∧ i ≤ B.length ∧ mm = M + 1 - i ∧ (∀ p ∈ B, p.N.length = l.length) ∧ nx.length ≤ i * 256 ∧ dAll l M F mm i (B.map (·.N), nx) = T) (M + 1)
    ⟨0, a0, c0, [p0], none, 0, [], _, 1, _, rfl, rfl, S, rfl, by simp; omega, by omega, rfl, by simpa using hp0, by simp, hT⟩ ?_
  rintro mm us vs w75 ⟨i, a, c, B, na, nc, nx, ta, tc, tg, rfl, rfl, S75, htg, hBM, hi, hmm, hBl, hnx, hD⟩
  refine opI_in <| opI_in <| opAg_in <| opI_in <| opL_in <| opL_in <| SzIs_in rfl <| opAg_in <| opI_in <| opL_in <| opL_in <| SzIs_in rfl <| NN_in <| S75.S.blk.ld' rfl <| opL_in <| Bd_e rfl <| Bd_in fun b100 hb100 => If_in (fun hb => ?_) fun hb => ?_
  case refine_2 =>
    have hib : i = B.length := by
      have : ¬ (i : Int) < (B.length : Int) := by rw [hb100] at hb; exact of_decide_eq_false hb
      omega
    subst hib
    obtain ⟨mm', rfl⟩ : ∃ k, mm = k + 1 := ⟨mm - 1, by omega⟩
    have e : T = some (B.map (·.N), nx) := by
      rw [← hD]
      simp [dAll]
    intro w' hm _
    have hS := S75.md0 (Md.refl _ _)
    have o1 := S75.nx.mdD hm (fun A hA => by simp; exact S75.l1 n3 (by simp) A hA)
    have o2 := S75.tg.mdD hm (fun A hA => by simp; exact S75.l2 n3 (by simp) A hA)
    subst htg
    exact hR0 (B.map (·.N), nx) na nc ta tc w' e o1 o2 S75.ap ((h0.trans S75.S.md).old hm (by simp; exact hn3))
  have hib : i < B.length := by rw [hb100] at hb; have : (i : Int) < (B.length : Int) := of_decide_eq_true hb
                                omega
  obtain ⟨mm', rfl⟩ : ∃ k, mm = k + 1 := ⟨mm - 1, by omega⟩
  have hN : (B.map (·.N))[i]? = some B[i].N := by rw [List.getElem?_map, List.getElem?_eq_getElem hib]; rfl
  have hD' : (dRow l M F B[i].N (B.map (·.N), nx)).bind (dAll l M F mm' (i + 1)) = T := by
    rw [← hD]
    simp only [dAll, hN]
  have hNl : B[i].N.length = l.length := hBl _ (List.getElem_mem hib)
  generalize hNN : B[i].N = N at *
  refine Bd_e rfl ?_
  refine LoopP_in (fun m2 us vs w' => ∃ (j : Nat) (a : Option Addr) (c : Nat) (B : List Rb) (na : Option Addr) (nc : Nat) (nx : List Int) (ta : Option Addr) (tc : Nat) (tg : List Int),
      us = [.int .i64 0, .int .i64 j] ∧ vs = [.agg #[.int .i64 0, .slice none 0 0, .slice none 0 0], .agg #[.int .i64 many, .slice na nx.length nc, .slice ta tg.length tc]] ∧ Ls [n69, n3, n2, n1] wb w' n m a c B na nc nx ta tc tg ∧ tg = tagL l (B.map (·.N)) ∧
      B.length ≤ M ∧ (B.map (·.N))[i]? = some N ∧ j ≤ F.length ∧ m2 = F.length - j ∧ (∀ p ∈ B, p.N.length = l.length) ∧ nx.length ≤ i * 256 + j ∧ (dRow l M (F.drop j) N (B.map (·.N), nx)).bind (dAll l M F mm' (i + 1)) = T) F.length
    ⟨0, a, c, B, na, nc, nx, ta, tc, tg, rfl, rfl, S75, htg, hBM, hN, by omega, rfl, hBl, hnx, hD'⟩ ?_
  clear hD' hD hN hNN hBl hnx htg S75 hib hb hb100 hi hBM
  clear a c B na nc nx ta tc tg
  rintro m2 us vs w105 ⟨j, a, c, B, na, nc, nx, ta, tc, tg, rfl, rfl, S105, htg, hBM, hN, hj, hm2', hBl, hnx, hD⟩
  have hib : i < B.length := by
    have := (List.getElem?_eq_some_iff.1 hN).1
    simpa using this
  have hNi : B[i].N = N := by
    rw [List.getElem?_map, List.getElem?_eq_getElem hib] at hN
    simpa using hN
  refine opI_in <| opI_in <| opAg_in <| opI_in <| opL_in <| opL_in <| SzIs_in rfl <| opAg_in <| opI_in <| opL_in <| opL_in <| SzIs_in rfl <| Bd_in fun b124 hb124 => If_in (fun hb => ?_) fun hb => ?_
  case refine_2 =>
    have hjF : j = F.length := by
      have : ¬ (j : Int) < (F.length : Int) := by rw [hb124] at hb; exact of_decide_eq_false hb
      omega
    subst hjF
    rw [List.drop_of_length_le (Nat.le_refl _)] at hD
    exact Bd_e (inc_i64 (by omega)) ⟨mm', by omega, i + 1, a, c, B, na, nc, nx, ta, tc, tg, rfl, rfl, S105, htg, hBM, by omega, by omega, hBl, by omega, hD⟩
  have hjF : j < F.length := by rw [hb124] at hb; have : (j : Int) < (F.length : Int) := of_decide_eq_true hb
                                omega
  rw [List.drop_eq_getElem_cons hjF] at hD
  have hb256 := hF8 _ (List.getElem_mem hjF)
  have hFix := (hF.md S105.S.md).ix hjF
  have hFld := fun {K : Value → Prop} => (hF.md S105.S.md).ld1 (K := K) hjF rfl
  generalize F[j] = b at *
  refine Jn_in (fun us vs w' => ∃ (a : Option Addr) (c : Nat) (B : List Rb) (na : Option Addr) (nc : Nat) (nx : List Int) (ta : Option Addr) (tc : Nat) (tg : List Int),
      us = [.int .i64 0] ∧ vs = [.agg #[.int .i64 0, .slice none 0 0, .slice none 0 0], .agg #[.int .i64 many, .slice na nx.length nc, .slice ta tg.length tc]] ∧ Ls [n69, n3, n2, n1] wb w' n m a c B na nc nx ta tc tg ∧ tg = tagL l (B.map (·.N)) ∧
      B.length ≤ M ∧ (B.map (·.N))[i]? = some N ∧ (∀ p ∈ B, p.N.length = l.length) ∧ nx.length ≤ i * 256 + (j + 1) ∧ (dRow l M (F.drop (j + 1)) N (B.map (·.N), nx)).bind (dAll l M F mm' (i + 1)) = T) ?_ ?_
  · rintro us vs w127 ⟨a, c, B, na, nc, nx, ta, tc, tg, rfl, rfl, q1, q2, q3, q4, q5, q6, q7⟩
    exact opI_in <| opAg_in <| opI_in <| opL_in <| opL_in <| SzIs_in rfl <| opAg_in <| opI_in <| opL_in <| opL_in <| SzIs_in rfl <| Bd_e (inc_i64 (by omega)) ⟨F.length - (j + 1), by omega, j + 1, a, c, B, na, nc, nx, ta, tc, tg, rfl, rfl, q1, q2, q3, q4, by omega, rfl, q5, q6, q7⟩
  refine ⟨hFix, hFld <| opI_in ?_⟩
  have Sd := S105.md0 (Md_drew w105)
  refine ⟨fun w' => Md [] w105.drew w', Md.refl _ _, NN_in ?_⟩
  show ∃ v, _ ∧ _
  refine ⟨_, fun w' hm => (Sd.md0 hm).S.blk.ld' rfl rfl, opL_in ⟨(Sd.S.own.row encrb).ix hib, ?_⟩⟩
  show ∃ v, _ ∧ _
  refine ⟨_, fun w' hm => ((Sd.md0 hm).S.own.row encrb).ld1 hib rfl rfl, opL_in ?_⟩
  have hrow := (Sd.S.rows _ (List.getElem_mem hib)).row encbE
  have hnl : B[i].N.length = l.length := by rw [hNi]; exact hNl
  refine (f171_ok st l pa B[i].a pc B[i].c B[i].N b hb256 w105.drew (hr.md Sd.S.md) hrow hnl hlen).call Sd.lt ?_
  rintro v w166 ⟨A, C, rfl, own⟩ m166
  have S166 := Sd.md0 m166
  rw [hNi] at own ⊢
  refine opL_in ⟨m166, Bd_e rfl <| Bd_in fun b171 hb171 => If_in (fun hb => ?_) fun hb => ?_⟩
  · have hnil : byL b N l = [] := by rw [hb171] at hb; exact List.eq_nil_of_length_eq_zero (by have := of_decide_eq_true hb; omega)
    have e1 : oneB l b N (B.map (·.N), nx) = (B.map (·.N), nx ++ [-1]) := by unfold oneB; rw [if_pos hnil]
    have hlt : ¬ M < (oneB l b N (B.map (·.N), nx)).1.length := by rw [e1]; simp; omega
    unfold dRow at hD
    rw [if_neg hlt, e1] at hD
    exact S166.addN (n0 := n69) (by simp) hn69 (-1) (by omega) fun na' nc' w' S' => ⟨a, c, B, na', nc', nx ++ [-1], ta, tc, tg, rfl, rfl, S', htg, hBM, hN, hBl, by simp; omega, hD⟩
  · have hnn : byL b N l ≠ [] := fun e => by rw [hb171, e] at hb; simp at hb
    have htl := byL_len b N l
    have hin := byL_in hl b N
    have lt166 := S166.lt
    refine (f167_ok st l pa A pc C _ (byL b N l) w166 (hr.md S166.S.md) own hl hlen (by omega) hin).call lt166 ?_
    rintro v w181 ⟨A2, C2, rfl, own2⟩ m181
    have S181 := S166.md0 m181
    have hdl : (dst l (byL b N l)).length = l.length := (dst_ok hl hin).1
    refine opL_in ?_
    refine (f169_ok (dst l (byL b N l)) A2 C2 _ (by omega) w181 own2).call S181.lt ?_
    rintro v w186 rfl m186
    have S186 := S181.md0 m186
    refine opStr_in ?_
    have ob : wb.heap.size ≤ w166.heap.size := S166.S.md.size
    refine S186.placeU (dst l (byL b N l)) A2 C2 w166.heap.size (own2.md m186) ob lt166 (fun p hp => by rw [hBl p hp, hdl]) (by omega) ?_
    intro x191 b192 a' c' B' w189 S189 hcase
    have e1 : oneB l b N (B.map (·.N), nx) = (B'.map (·.N), nx ++ [x191]) := by
      unfold oneB
      rw [if_neg hnn]
      rcases hcase with ⟨_, rfl, k, h1, rfl⟩ | ⟨_, rfl, h1, rfl⟩
      · simp only [h1]
      · simp only [h1]; simp
    have hB'l : ∀ p ∈ B', p.N.length = l.length := by
      rcases hcase with ⟨_, rfl, _⟩ | ⟨_, rfl, _⟩
      · exact hBl
      · intro p hp
        rcases List.mem_append.1 hp with h | h
        · exact hBl p h
        · simp at h; subst h; exact hdl
    have hN' : (B'.map (·.N))[i]? = some N := by
      rcases hcase with ⟨_, rfl, _⟩ | ⟨_, rfl, _⟩
      · exact hN
      · rw [List.map_append, List.getElem?_append_left (by simpa using hib)]; exact hN
    have hB'2 : B'.length ≤ M + 1 := by
      rcases hcase with ⟨_, rfl, _⟩ | ⟨_, rfl, _⟩
      · omega
      · simp; omega
    have htl2 : tg.length ≤ M := by rw [htg]; simp [tagL]; exact hBM
    refine Jn_in (fun us vs w' => ∃ (ta : Option Addr) (tc : Nat) (tg : List Int), us = [] ∧ vs = [.agg #[.int .i64 many, .slice na nx.length nc, .slice ta tg.length tc]] ∧ Ls [n69, n3, n2, n1] wb w' n m a' c' B' na nc nx ta tc tg ∧ tg = tagL l (B'.map (·.N))) ?_ ?_
    · rintro us vs w195 ⟨ta', tc', tg', rfl, rfl, S195, htg'⟩
      refine opAg_in <| opI_in <| opL_in <| opL_in <| SzIs_in rfl <| NN_in <| S195.S.blk.ld' rfl <| opL_in <| Bd_e rfl <| Bd_in fun b210 hb210 => If_in (fun hb => ?_) fun hb => ?_
      · have hlt : M < (oneB l b N (B.map (·.N), nx)).1.length := by
          rw [hb210] at hb
          have : (B'.length : Int) > most := of_decide_eq_true hb
          rw [e1]; simp; omega
        unfold dRow at hD
        rw [if_pos hlt] at hD
        intro w' hm _
        exact hR40 (by rw [← hD]; rfl) w' ((h0.trans S195.S.md).old hm (by simp; exact hn3))
      · have hle : B'.length ≤ M := by
          rw [hb210] at hb
          have : ¬ (B'.length : Int) > most := of_decide_eq_false hb
          omega
        have hlt : ¬ M < (oneB l b N (B.map (·.N), nx)).1.length := by rw [e1]; simp; omega
        unfold dRow at hD
        rw [if_neg hlt, e1] at hD
        exact S195.addN (n0 := n69) (by simp) hn69 x191 (by omega) fun na' nc' w' S' => ⟨a', c', B', na', nc', nx ++ [x191], ta', tc', tg', rfl, rfl, S', htg', hle, hN', hB'l, by simp; omega, hD⟩
    · rcases hcase with ⟨rfl, rfl, _⟩ | ⟨rfl, rfl, _⟩
      · exact If_in (fun h => by cases h) fun _ => ⟨ta, tc, tg, rfl, rfl, S189, htg⟩
      · refine If_in (fun _ => ?_) fun h => by cases h
        have htg2 : tg ++ [tagF (dst l (byL b N l)) l (-1)] = tagL l ((B ++ [(⟨A2, C2, dst l (byL b N l)⟩ : Rb)]).map (fun p : Rb => p.N)) := by rw [htg]; simp [tagL]
        have Sq := S189.md0 (Md_drew w189)
        have call170 := fun {K : Value → World → Prop} (hk : ∀ v w', v = .int .i64 (tagF (dst l (byL b N l)) l (-1)) → Md [] w189.drew w' → K v w') =>
          (f170_ok st l pa A2 pc C2 (dst l (byL b N l)) w189.drew (hr.md Sq.S.md) ((((own2.md m186).row encbE).md (Md.refl _ _)).mdD (Md.refl [] _) (by simp) |> fun _ => (Sq.S.rows ⟨A2, C2, dst l (byL b N l)⟩ (by simp)).row encbE) hdl hlen).call Sq.lt (K := K) hk
        have app := fun {w' : World} {K : Option Addr → Nat → Nat → World → Prop} (hm : Md [] w189.drew w') kk => (Sq.md0 hm).addT (n0 := n69) (by simp) hn69 (tagF (dst l (byL b N l)) l (-1)) (by omega) (K := K) kk
        refine ⟨call170 fun v w' e hm => ?_, call170 fun v w' e hm => ?_⟩
        · subst e
          exact opI_in <| app hm fun ta' tc' w' S' => ⟨ta', tc', _, rfl, rfl, S', htg2⟩
        · subst e
          exact opI_in ⟨app hm fun ta' tc' w' S' => ⟨ta', tc', _, rfl, rfl, S', htg2⟩, app hm fun ta' tc' w' S' => ⟨ta', tc', _, rfl, rfl, S', htg2⟩⟩
end Fk
set_option linter.unusedVariables false
set_option linter.unusedSimpArgs false
set_option maxRecDepth 100000
set_option maxHeartbeats 4000000
namespace Fk
open Go Go.Proofs Go.RowKit
theorem made51 (m : Nat) (w : World) (hm : m < 2 ^ 20) : ∃ w', (Instr.makeSlice 51 (.int .i64 (m : Int)) (.int .i64 (m : Int))).run Try.prog w = .ok (.slice (some ⟨w.heap.size, 0, none⟩) m m) w' ∧ OwnL w' w.heap.size 5 1 b1 (some ⟨w.heap.size, 0, none⟩) m (List.replicate m 0) ∧ Md [] w w' := by
  have h5 : (Try.prog.info? 5).isSome = true := by kernel_rfl
  obtain ⟨i5, hi5⟩ := Option.isSome_iff_exists.1 h5
  have hz5 : (Try.prog.info? 5).bind (·.zero) = some (.int .u8 0) := by kernel_rfl
  have hs5 : (Try.prog.info? 5).map (fun i => (i.size, i.bytes)) = some (1, 1) := by kernel_rfl
  rw [hi5] at hz5 hs5
  simp only [Option.bind_some, Option.map_some, Option.some.injEq, Prod.mk.injEq] at hz5 hs5
  obtain ⟨w3, hrun, hown, hgr⟩ := run_makeSlice_full (P := Try.prog) w w.heap.size 51 5 i5 (.int .u8 0) 1 (by kernel_rfl) hi5 hz5 hs5.1 .i64 .i64 m (by omega) (by rw [hs5.2]; omega) (by simp [maxLen]; omega) (Nat.le_refl _)
  refine ⟨w3, hrun, ?_, Md_of_grown hgr⟩
  have hmc : (madeCells (Value.int .u8 0).cells (m * 1)).toList = (List.replicate m 0).flatMap b1 := by
    rw [nb1_map, List.map_replicate, Nat.mul_one]
    exact toList_madeCells_one _ m
  unfold OwnL
  rw [← hmc, List.length_replicate]; exact hown
theorem right_m {c : Cl} (hc : c.ok) (h : c.right = true) : 1 ≤ c.m ∧ c.m ≤ 256 := by
  rw [right_iff hc] at h
  unfold Cl.rightR at h
  simp only [Bool.and_eq_true, decide_eq_true_eq] at h
  exact ⟨h.1.1.1, h.1.1.2⟩
theorem first_b (c : Cl) (k : Int) : 0 ≤ (c.first k).1 ∧ (c.first k).1 < 256 := by
  unfold Cl.first
  split
  · split
    · exact ⟨by simp, by simp; omega⟩
    · simp
  · simp
theorem firsts_len (c : Cl) : c.firsts.length = c.m.toNat := by simp [Cl.firsts]
theorem firsts_get (c : Cl) {i : Nat} (h : i < c.firsts.length) : c.firsts[i] = (c.first i).1.toNat := by simp [Cl.firsts]
theorem firsts_lt (c : Cl) : ∀ x ∈ c.firsts, x < 256 := fun x hx => by
  simp only [Cl.firsts, List.mem_map] at hx
  obtain ⟨k, _, rfl⟩ := hx
  have := first_b c k
  omega
section
variable {L : List Nat} {wb w w' : World} {n m c nc tc : Nat} {a na ta : Option Addr} {B : List Rb} {nx tg : List Int}
theorem Ls.name {n0 : Nat} (h : Ls L wb w n m a c B na nc nx ta tc tg) (h0 : w.heap.size ≤ n0) (hm : Md [] w w') (hL : ∀ b ∈ n0 :: L, b < w'.heap.size) : Ls (n0 :: L) wb w' n m a c B na nc nx ta tc tg := by
  have h' := h.md0 hm
  have S := h'.S
  refine ⟨⟨S.blk, S.md, S.nlo, S.mlo, S.map, S.own, S.rows, S.nm, fun b hb => ?_⟩, h'.nx, h'.tg, h'.ap, fun b hb A hA => ?_, fun b hb A hA => ?_, fun p hp A hA b hb => ?_⟩
  · refine ⟨hL b hb, ?_⟩
    rcases List.mem_cons.1 hb with rfl | hb
    · exact ⟨by have := h.S.blk.lt; omega, by have := h.S.map.lt; omega, fun A hA => by have := (h.S.own.lt hA).2; omega⟩
    · exact (h.S.nl b hb).2
  · rcases List.mem_cons.1 hb with rfl | hb
    · have := (h.nx.lt hA).2; omega
    · exact h.l1 b hb A hA
  · rcases List.mem_cons.1 hb with rfl | hb
    · have := (h.tg.lt hA).2; omega
    · exact h.l2 b hb A hA
  · rcases List.mem_cons.1 hb with rfl | hb
    · have := ((h.S.rows p hp).lt hA).2; omega
    · exact h.l3 p hp A hA b hb
theorem Ls.lit (h : Ls L wb w n m a c B none 0 [] none 0 []) (x : Int) : Ls L wb (w.alloc (.cells #[.int .i64 x] 3)) n m a c B none 0 [] (some ⟨w.heap.size, 0, none⟩) 1 [x] := by
  have ma : Md [] w (w.alloc (.cells #[.int .i64 x] 3)) := Md.alloc w _
  have h' := h.md0 ma
  refine ⟨h'.S, h'.nx, OwnL.lit (P := Try.prog) (base := wb.heap.size) enci1 w 3 [x] #[.int .i64 x] h.S.md.size (by simp [maxLen]) rfl, (fun A B hA => by cases hA), h'.l1, fun b hb A hA => ?_, h'.l3⟩
  injection hA with hA; subst hA
  have := h.lt b hb
  simp; omega
end
def dmV (d : Dm) (na : Option Addr) (nc : Nat) (ta : Option Addr) (tc : Nat) : Value := .agg #[.int .i64 d.1, .slice na d.2.1.length nc, .slice ta d.2.2.length tc]
def DmOut (w w' : World) (r : Dm × Int) (v : Value) : Prop := (∃ na nc ta tc, v = .tuple #[dmV r.1 na nc ta tc, .int .i64 r.2] ∧ OwnL w' w.heap.size 3 1 i1 na nc r.1.2.1 ∧ OwnL w' w.heap.size 3 1 i1 ta tc r.1.2.2 ∧ Apt na ta) ∧ Md [] w w'
theorem DmOut.err {w w' : World} (e : Int) (h : Md [] w w') : DmOut w w' ((0, [], []), e) (.tuple #[.agg #[.int .i64 0, .slice none 0 0, .slice none 0 0], .int .i64 e]) :=
  ⟨⟨none, 0, none, 0, rfl, OwnL.nil _ _ _ _ _, OwnL.nil _ _ _ _ _, fun A B hA => by cases hA⟩, h⟩
theorem f67_ok (st : Int) (l : List Ns) (pa : Option Addr) (pc : Nat) (c : Cl) (hc : c.ok) (most : Int) (w : World) (hr : RowAt w pa 8 nsE l) (hl : l.length < 2 ^ 60) :
    Ct Try.prog 67 #[.agg #[.int .i64 st, .slice pa l.length pc], .agg c.v, .int .i64 most] w fun v w' => DmOut w w' (dBld st l c most) v := by
  apply f67_in
  intro n1 hn1 n2 hn2 n3 hn3 w4 h4 hL4
  have g4 : Good [n3, n2, n1] w w4 := ⟨h4, hL4⟩
  refine (f81_ok st l pa pc w4 (hr.md h4) hl).call hL4 ?_
  rintro v w6 rfl m6
  have g6 := g4.tr m6
  refine opB_in <| Bd_in fun b8 hb8 => ⟨fun _ => hc.size, ?_⟩
  refine Gd_to (fun b w' => (nfRight st l = true → b = fitsN c l) ∧ Good [n3, n2, n1] w w') (fun b14 w15 hJ => ?_) (fun fin hcn => ?_) (fun hcn => ⟨(fun h => by rw [hb8, h] at hcn; cases hcn), g6⟩)
  case refine_2 =>
    have hn : nfRight st l = true := by rw [hb8] at hcn; simpa using hcn
    have hlen := (okL_of_right hn).2.2.2.1
    refine (f166_ok c hc st l pa pc w6 (hr.md g6.1) hlen).call g6.2 ?_
    rintro v w12 rfl m12
    exact opB_in <| fin _ _ ⟨fun _ => rfl, g6.tr m12⟩
  obtain ⟨h14, g15⟩ := hJ
  refine Bd_in fun b16 hb16 => Bd_in fun b17 hb17 => Bd_in fun b18 hb18 => Bd_in fun b19 hb19 => Bd_in fun b20 hb20 => Bd_in fun b21 hb21 => ?_
  have e21 : b21 = true ↔ ¬ (nfRight st l = true ∧ fitsN c l = true ∧ 1 ≤ most ∧ most ≤ 5000) := by
    rw [hb21, hb20, hb19, hb18, hb17, hb16, hb8]
    cases hn : nfRight st l with
    | false => simp
    | true =>
      rw [h14 hn]
      cases fitsN c l with
      | false => simp
      | true =>
        by_cases c1 : most < 1
        · simp [c1]; try omega
        · by_cases c2 : most > 5000
          · simp [c1, c2]; try omega
          · simp [c1, c2]; try omega
  refine If_in (fun hb w22 h22 _ => ?_) fun hb => ?_
  · have : dBld st l c most = ((0, [], []), 2) := by unfold dBld; rw [if_neg (e21.1 hb)]
    rw [this]
    exact DmOut.err 2 (g15.1.old h22 (by simp; exact hn3))
  have hcond : nfRight st l = true ∧ fitsN c l = true ∧ 1 ≤ most ∧ most ≤ 5000 := Classical.byContradiction fun h => by have := e21.2 h; rw [hb] at this; cases this
  have ebld : dBld st l c most = (match dAll l most.toNat c.firsts (most.toNat + 1) 0 ([dst l [st]], []) with | none => ((0, [], []), 40) | some p => ((c.m, p.2, tagL l p.1), 0)) := by unfold dBld; rw [if_pos hcond] <;> cases dAll l most.toNat c.firsts (most.toNat + 1) 0 ([dst l [st]], []) <;> rfl
  rw [ebld]
  clear ebld
  obtain ⟨hright, hfit, hm1, hm2⟩ := hcond
  obtain ⟨hok, hst0, hst1, hlen, _⟩ := okL_of_right hright
  have hcr : c.right = true := by unfold fitsN at hfit; rw [Bool.and_eq_true] at hfit; exact hfit.2
  obtain ⟨cm1, cm2⟩ := right_m hc hcr
  refine BdO_in hc.many <| opI_in ?_
  have hcm : c.m = ((c.m.toNat : Nat) : Int) := by omega
  obtain ⟨w26, r26, o26, m26⟩ := made51 c.m.toNat w15 (by omega)
  rw [← hcm] at r26
  have l15 := g15.2
  refine RunW_in r26 (fun b hb => m26.blk b (l15 b hb) (by simp)) <| opL_in <| Bd_e rfl ?_
  have hfl := firsts_len c
  generalize hfa : (some (Addr.mk w15.heap.size 0 none)) = fa at *
  have hfab : ∀ A, fa = some A → A.block = w15.heap.size := fun A hA => by rw [← hfa] at hA; injection hA with hA; subst hA; rfl
  refine LoopP_in (fun mm us vs w' => ∃ (i : Nat) (xs : List Nat), us = [.int .i64 i] ∧ mm = c.m.toNat - i ∧ i ≤ c.m.toNat ∧ OwnL w' w15.heap.size 5 1 b1 fa c.m.toNat xs ∧ xs.length = c.m.toNat ∧ (∀ j, j < i → xs[j]? = c.firsts[j]?) ∧ Md [] w15 w') c.m.toNat
    ⟨0, List.replicate c.m.toNat 0, rfl, rfl, by omega, o26, by simp, fun j hj => by omega, m26⟩ ?_
  rintro mm us vs w34 ⟨i, xs, rfl, hmm, hi, o34, hxl, hxs, m34⟩
  have g34 : Good [n3, n2, n1] w w34 := g15.tr m34
  refine opI_in <| Bd_in fun b36 hb36 => If_in (fun hb => ?_) fun hb => ?_
  · have him : i < c.m.toNat := by rw [hb36] at hb; have : (i : Int) < (c.m.toNat : Int) := of_decide_eq_true hb
                                   omega
    refine ⟨hc.size, ?_⟩
    refine (f42_ok c hc i w34).call g34.2 ?_
    rintro v w38 rfl m38
    refine opTu_in <| opI_in <| opB_in <| SzIs_in rfl ?_
    have fb := first_b c i
    have o38 := o34.md m38
    have hix := (o38.row encb1).ix (i := i) (by omega)
    obtain ⟨A, hA, p1, p2, p3, p4, p5, p6⟩ := o38.put encb1 (by omega) (show i < xs.length by omega) (c.first i).1.toNat
    rw [hxl] at hix
    have m15_38 := m34.trans m38
    have eb : b1 (c.first i).1.toNat = [.int .u8 (c.first i).1] := by unfold b1; rw [Int.toNat_of_nonneg fb.1]
    rw [eb] at p5 p6
    have hAb := hfab A hA
    have hmem : ¬ Addr.block (adAt fa (i : Int) 1) ∈ [n3, n2, n1] := by
      rw [p3, hAb]
      intro hb
      have := l15 _ hb
      omega
    refine ⟨hix, hmem, p4, Bd_e (inc_i64 (by omega)) ⟨c.m.toNat - (i + 1), by omega, i + 1, xs.set i (c.first i).1.toNat, rfl, rfl, by omega, p5, by simpa using hxl, fun j hj => ?_, m15_38.old p6 (by simp; omega)⟩⟩
    by_cases hji : j = i
    · subst hji
      rw [List.getElem?_set_self (by omega), List.getElem?_eq_getElem (by omega), firsts_get]
    · rw [List.getElem?_set_ne (by omega)]
      exact hxs j (by omega)
  have him : i = c.m.toNat := by
    have : ¬ (i : Int) < (c.m.toNat : Int) := by rw [hb36] at hb; exact of_decide_eq_false hb
    omega
  subst him
  have hxf : xs = c.firsts := by
    apply List.ext_getElem?
    intro j
    by_cases hj : j < c.m.toNat
    · exact hxs j hj
    · rw [List.getElem?_eq_none (by omega), List.getElem?_eq_none (by omega)]
  subst hxf
  have hF := o34.row encb1
  have hr34 := hr.md g34.1
  refine Nw_i <| Nw_i <| Nw_i ?_
  have ma : Md [] w34 (w34.alloc (.map #[] 0)) := Md.alloc w34 _
  have hM0 : MapAt (w34.alloc (.map #[] 0)) w34.heap.size (fun s : ByteArray => .string s) (fun x : Int => .int .i64 x) [] := MapAt.new w34 _ _
  have hm43 := hM0.lt
  have sza := ma.size
  have g44 := g34.tr ma
  generalize hw44 : w34.alloc (.map #[] 0) = w44 at *
  have mb : Md [] w44 (w44.alloc (.cells #[.map (some w34.heap.size), .slice none 0 0] 221)) := Md.alloc w44 _
  have bb := Blk.new w44 #[.map (some w34.heap.size), .slice none 0 0] 221
  have hb45 := bb.lt
  have szb := mb.size
  have g46 := g44.tr mb
  generalize hw46 : w44.alloc (.cells #[.map (some w34.heap.size), .slice none 0 0] 221) = w46 at *
  have B46 : Bkp [n3, n2, n1] w34 w46 w44.heap.size w34.heap.size none 0 [] :=
    ⟨bb, ma.trans mb, by omega, Nat.le_refl _, hM0.md mb (by simp), OwnL.nil _ _ _ _ _, by simp, by omega, fun b hb => ⟨g46.2 b hb, by have := g44.2 b hb; omega, by have := g34.2 b hb; omega, fun A hA => by cases hA⟩⟩
  have S46 : Ls [n3, n2, n1] w34 w46 w44.heap.size w34.heap.size none 0 [] none 0 [] none 0 [] := ⟨B46, OwnL.nil _ _ _ _ _, OwnL.nil _ _ _ _ _, (fun A B hA => by cases hA), (fun b hb A hA => by cases hA), (fun b hb A hA => by cases hA), by simp⟩
  have mc : Md [] w46 (w46.alloc (.cells #[.int .i64 st] 3)) := Md.alloc w46 _
  have olc : OwnL (w46.alloc (.cells #[.int .i64 st] 3)) w46.heap.size 3 1 i1 (some ⟨w46.heap.size, 0, none⟩) 1 [st] := OwnL.lit (P := Try.prog) (base := w46.heap.size) enci1 w46 3 [st] #[.int .i64 st] (Nat.le_refl _) (by simp [maxLen]) rfl
  have S48 := S46.md0 mc
  have hb48 : ∀ b ∈ [n3, n2, n1], b < (w46.alloc (.cells #[.int .i64 st] 3)).heap.size := S48.lt
  have hin : ∀ x ∈ [st], 0 ≤ x ∧ x < l.length := by simp; omega
  refine (f167_ok st l pa _ pc 1 _ [st] _ (hr34.md S48.S.md) olc hok hlen (by simp) hin).call S48.lt ?_
  rintro v w50 ⟨A, C, rfl, own⟩ m50
  have S50 := S48.md0 m50
  have hdl : (dst l [st]).length = l.length := (dst_ok hok hin).1
  refine opL_in <| (f169_ok (dst l [st]) A C _ (by omega) w50 own).call S50.lt ?_
  rintro v w55 rfl m55
  have S55 := S50.md0 m55
  refine opStr_in ?_
  refine S55.placeU (dst l [st]) A C _ (own.md m55) S48.S.md.size hb48 (by simp) (by simp) ?_
  intro x60 b61 a' c' B' w58 S58 hcase
  obtain ⟨rfl, rfl, rfl⟩ : b61 = true ∧ B' = [⟨A, C, dst l [st]⟩] ∧ x60 = 0 := by
    rcases hcase with ⟨_, _, k, h1, _⟩ | ⟨h1, h2, _, h3⟩
    · simp [idxB] at h1
    · exact ⟨h1, by simpa using h2, by simpa using h3⟩
  have Sq := S58.md0 (Md_drew w58)
  have hrow : ∀ {L : List Nat} {w' : World} {n m : Nat} {a na ta : Option Addr} {c nc tc : Nat} {nx tg : List Int}, Ls L w34 w' n m a c [⟨A, C, dst l [st]⟩] na nc nx ta tc tg → RowAt w' A 1 bE (dst l [st]) := fun h => (h.S.rows ⟨A, C, dst l [st]⟩ (by simp)).row encbE
  have call170 := fun {L : List Nat} {w' : World} {n m : Nat} {a na ta : Option Addr} {c nc tc : Nat} {nx tg : List Int} (h : Ls L w34 w' n m a c [⟨A, C, dst l [st]⟩] na nc nx ta tc tg) {K : Value → World → Prop} (hk : ∀ v w'', v = .int .i64 (tagF (dst l [st]) l (-1)) → Md [] w' w'' → K v w'') =>
    (f170_ok st l pa A pc C (dst l [st]) w' (hr34.md h.S.md) (hrow h) hdl hlen).call h.lt (K := K) hk
  have h0 : Md [] w w34 := g34.1
  have loop := fun {n69 n m nt : Nat} {a0 : Option Addr} {c0 : Nat} {w' : World} (hn69 : w34.heap.size ≤ n69) (S : Ls [n69, n3, n2, n1] w34 w' n m a0 c0 [⟨A, C, dst l [st]⟩] none 0 [] (some ⟨nt, 0, none⟩) 1 [tagF (dst l [st]) l (-1)]) =>
    l67_ok (p0 := ⟨A, C, dst l [st]⟩) st l pa pc fa c.firsts c.m most hr34 hok hlen hF (firsts_lt c) (by omega) hm1 hm2 h0 hn3 hn69 hdl S
      (R := fun v w' => DmOut w w' (match dAll l most.toNat c.firsts (most.toNat + 1) 0 ([dst l [st]], []) with | none => ((0, [], []), 40) | some p => ((c.m, p.2, tagL l p.1), 0)) v)
      (fun e w' hm => by simp only at e; rw [e]; exact DmOut.err 40 hm)
      (fun p na nc ta tc w' e o1 o2 ap hm => by simp only at e; rw [e]; exact ⟨⟨na, nc, ta, tc, rfl, o1.down h0.size, o2.down h0.size, ap⟩, hm⟩)
  rw [hfl] at loop
  have lo58 : ∀ {w' : World}, Md [] w34 w' → ∀ n, w'.heap.size ≤ n → w34.heap.size ≤ n := fun hm n hn => by have := hm.size; omega
  refine BdO_in hc.many <| opI_in ⟨?_, ?_⟩
  · refine call170 Sq fun v w65 e m65 => ?_
    subst e
    have S65 := Sq.md0 m65
    refine opI_in ⟨Nw_i ?_, ?_⟩
    · intro n69 hn69 w70 m70 hL70 w71 m71 hL71
      have S70 := (S65.lit (tagF (dst l [st]) l (-1))).name hn69 m70 hL70
      have hlo := lo58 (S65.lit (tagF (dst l [st]) l (-1))).S.md n69 hn69
      exact loop hlo (S70.mdL (by simp) hlo m71)
    · intro n69 hn69 w70 m70 hL70
      have hlo := lo58 S65.S.md n69 hn69
      have S70 := (S65.name hn69 m70 hL70).lit (tagF (dst l [st]) l (-1))
      exact Nw_i fun w71 m71 hL71 => loop hlo (S70.mdL (by simp) hlo m71)
  · intro n69 hn69 w70 m70 hL70
    have hlo := lo58 Sq.S.md n69 hn69
    refine call170 (Sq.name hn69 m70 hL70) fun v w65 e m65 => ?_
    subst e
    have S70 := ((Sq.name hn69 m70 hL70).md0 m65).lit (tagF (dst l [st]) l (-1))
    exact opI_in <| Nw_i fun w71 m71 hL71 => loop hlo (S70.mdL (by simp) hlo m71)
end Fk
set_option linter.unusedVariables false
set_option linter.unusedSimpArgs false
set_option maxRecDepth 100000
set_option maxHeartbeats 4000000
namespace Fk
open Go Go.Proofs Go.RowKit
def dNext (dm : Int) (nx : List Int) (at' x : Int) : Int := if 0 ≤ at' then nx.getD (at' * dm + x).toNat (-1) else at'
def dTag (tg : List Int) (a : Int) : Int := if 0 ≤ a then tg.getD a.toNat (-1) else -1
def dGo (dm : Int) (nx tg : List Int) : List Int → Int → List Int
  | [], _ => []
  | x :: xs, a => dTag tg (dNext dm nx a x) :: dGo dm nx tg xs (dNext dm nx a x)
def inCs (dm : Int) (cs : List Int) : Bool := cs.all fun x => decide (0 ≤ x ∧ x < dm)
def dRun (dm : Int) (nx tg cs : List Int) : List Int × Int := if dRight dm nx tg = true ∧ inCs dm cs = true then (dTag tg 0 :: dGo dm nx tg cs 0, 0) else ([], 2)
def rowOut (w w' : World) (r : List Int × Int) (v : Value) : Prop := (∃ (a : Option Addr) (c : Nat), v = .tuple #[.slice a r.1.length c, .int .i64 r.2] ∧ OwnL w' w.heap.size 3 1 i1 a c r.1) ∧ Md [] w w'
structure DrOk (dm : Int) (nx tg : List Int) : Prop where
  m1 : 1 ≤ dm
  m2 : dm ≤ 256
  t1 : 1 ≤ tg.length
  t2 : tg.length ≤ 5000
  nl : (nx.length : Int) = dm * tg.length
  tag : ∀ x ∈ tg, -1 ≤ x ∧ x < 200
  nxt : ∀ x ∈ nx, -1 ≤ x ∧ x < tg.length
theorem drOk {dm : Int} {nx tg : List Int} (h : dRight dm nx tg = true) : DrOk dm nx tg := by
  simp only [dRight, Bool.and_eq_true, decide_eq_true_eq, List.all_eq_true] at h
  exact ⟨h.1.1.1, h.1.1.2.1, h.1.1.2.2.1, h.1.1.2.2.2.1, h.1.1.2.2.2.2, h.1.2, h.2⟩
theorem DrOk.ix {dm : Int} {nx tg : List Int} (h : DrOk dm nx tg) {a x : Int} (h1 : 0 ≤ a) (h2 : a < tg.length) (h3 : 0 ≤ x) (h4 : x < dm) : 0 ≤ a * dm + x ∧ a * dm + x < nx.length ∧ a * dm ≤ 2000000 ∧ 0 ≤ a * dm := by
  have hm1 := h.m1
  have hm2 := h.m2
  have ht2 := h.t2
  have e1 : 0 ≤ a * dm := Int.mul_nonneg h1 (by omega)
  have e2 : (a + 1) * dm ≤ tg.length * dm := Int.mul_le_mul_of_nonneg_right (by omega) (by omega)
  have e3 : (a + 1) * dm = a * dm + dm := by rw [Int.add_mul, Int.one_mul]
  have e4 : (tg.length : Int) * dm = dm * tg.length := Int.mul_comm _ _
  have e5 : dm * (tg.length : Int) ≤ 256 * 5000 := Int.mul_le_mul hm2 (by omega) (by omega) (by omega)
  have := h.nl
  omega
theorem DrOk.next {dm : Int} {nx tg : List Int} (h : DrOk dm nx tg) {a x : Int} (h2 : a < tg.length) (h3 : 0 ≤ x) (h4 : x < dm) : dNext dm nx a x < tg.length := by
  unfold dNext
  split
  · rename_i h1
    obtain ⟨q1, q2, _⟩ := h.ix h1 h2 h3 h4
    have hlt : (a * dm + x).toNat < nx.length := by omega
    rw [List.getD_eq_getElem?_getD, List.getElem?_eq_getElem hlt]
    exact (h.nxt _ (List.getElem_mem hlt)).2
  · exact h2
theorem dRun_bad {w w' : World} {dm : Int} {nx tg cs : List Int} (hno : ¬ (dRight dm nx tg = true ∧ inCs dm cs = true)) (hm : Md [] w w') : rowOut w w' (dRun dm nx tg cs) (.tuple #[.slice none 0 0, .int .i64 2]) := by
  have e : dRun dm nx tg cs = ([], 2) := by unfold dRun; rw [if_neg hno]
  rw [e]
  exact ⟨⟨none, 0, rfl, OwnL.nil _ _ _ _ _⟩, hm⟩
theorem f70_ok (dm : Int) (nx tg cs : List Int) (na ta ca : Option Addr) (nc tc cc : Nat) (w : World) (h1 : RowAt w na 1 i1 nx) (h2 : RowAt w ta 1 i1 tg) (h3 : RowAt w ca 1 i1 cs) (hl1 : nx.length < 2 ^ 63) (hl2 : tg.length < 2 ^ 63) (hl3 : cs.length < 2 ^ 30) :
    Ct Try.prog 70 #[.agg #[.int .i64 dm, .slice na nx.length nc, .slice ta tg.length tc], .slice ca cs.length cc] w fun v w' => rowOut w w' (dRun dm nx tg cs) v := by
  apply f70_in
  intro n1 hn1 w2 m2 hL2
  refine (f72_ok dm nx tg na ta nc tc w2 (h1.md m2) (h2.md m2) hl1 hl2).call hL2 ?_
  rintro v w4 rfl m4
  have m24 := m2.trans m4
  have l4 : n1 < w4.heap.size := by have := hL2 n1 (by simp); have := m4.size; omega
  refine opB_in ?_
  refine LoopP_in (fun mm us vs w' => ∃ (i : Nat), us = [.bool (dRight dm nx tg && inCs dm (cs.take i)), .int .i64 i] ∧ mm = cs.length - i ∧ i ≤ cs.length ∧ Md [] w4 w') cs.length ⟨0, by simp [inCs], rfl, by omega, Md.refl _ _⟩ ?_
  rintro mm us vs w9 ⟨i, rfl, hmm, hi, m9⟩
  have mw9 := m24.trans m9
  refine opB_in <| opI_in <| Bd_e rfl <| Bd_in fun b13 hb13 => Bd_in fun b14 hb14 => If_in (fun hb => ?_) fun hb => ?_
  · have hbb : i < cs.length ∧ (dRight dm nx tg && inCs dm (cs.take i)) = true := by
      rw [hb14, hb13] at hb
      by_cases hc : (i : Int) < (cs.length : Int)
      · simp only [hc, decide_true, cond_true] at hb; exact ⟨by omega, hb⟩
      · simp [hc] at hb
    obtain ⟨hil, hgo⟩ := hbb
    have mdd := mw9.trans (Md_drew w9)
    refine ⟨fun w' => Md [] w w', mdd, h3.ix hil, ?_⟩
    show ∃ v, _ ∧ _
    refine ⟨_, fun w' hm => (h3.md hm).ld1 hil rfl rfl, opI_in <| Bd_in fun b21 hb21 => ⟨fun _ => h3.ix hil, ?_⟩⟩
    show ∃ v, _ ∧ _
    refine ⟨_, fun _ w' hm => (h3.md hm).ld1 hil rfl rfl, Bd_in fun b28 hb28 => Bd_in fun b29 hb29 => Bd_e (inc_i64 (by omega)) ⟨cs.length - (i + 1), by omega, i + 1, ?_, rfl, by omega, m9.trans (Md_drew w9)⟩⟩
    have hgo' := hgo
    have : inCs dm (cs.take (i + 1)) = (inCs dm (cs.take i) && decide (0 ≤ cs[i] ∧ cs[i] < dm)) := by
      unfold inCs
      rw [List.take_succ_eq_append_getElem hil, List.all_append]; simp
    rw [Bool.and_eq_true] at hgo
    rw [this, hgo.1, hgo.2, hb29, hb28, hb21]
    by_cases c1 : cs[i] ≥ 0
    · by_cases c2 : cs[i] < dm
      · simp [c1, c2]
      · simp [c1, c2]
    · have : ¬ (0 : Int) ≤ cs[i] := c1
      simp [this]
  · refine Bd_in fun b31 hb31 => If_in (fun hz => ?_) fun hz => ?_
    · refine dRun_bad (fun h => ?_) mw9
      rw [hb31, h.1] at hz
      have : inCs dm (cs.take i) = true := by
        unfold inCs
        rw [List.all_eq_true]
        intro x hx
        have := h.2
        unfold inCs at this
        rw [List.all_eq_true] at this
        exact this x (List.mem_of_mem_take hx)
      rw [this] at hz
      simp at hz
    have hgo : (dRight dm nx tg && inCs dm (cs.take i)) = true := by rw [hb31] at hz; simpa using hz
    have hil : i = cs.length := by
      rw [hb14, hb13, hgo] at hb
      by_cases hc : (i : Int) < (cs.length : Int)
      · simp [hc] at hb
      · omega
    subst hil
    rw [List.take_length, Bool.and_eq_true] at hgo
    have D := drOk hgo.1
    have e : dRun dm nx tg cs = (dTag tg 0 :: dGo dm nx tg cs 0, 0) := by unfold dRun; rw [if_pos hgo]
    rw [e]
    have ht1 := D.t1
    have hcs : ∀ x ∈ cs, 0 ≤ x ∧ x < dm := fun x hx => by
      have := hgo.2
      unfold inCs at this
      rw [List.all_eq_true] at this
      exact of_decide_eq_true (this x hx)
    have h0t : (0 : Nat) < tg.length := by omega
    have mdd := mw9.trans (Md_drew w9)
    refine ⟨fun w' => Md [] w w', mdd, h2.ix h0t, ?_⟩
    show ∃ v, _ ∧ _
    refine ⟨_, fun w' hm => (h2.md hm).ld1 h0t rfl rfl, opI_in ?_⟩
    have et : tg[0] = dTag tg 0 := by unfold dTag; rw [if_pos (by omega), List.getD_eq_getElem?_getD, show ((0 : Int).toNat) = 0 from rfl, List.getElem?_eq_getElem h0t]; rfl
    rw [et]
    refine Nw_i ⟨mdd.trans (Md.alloc _ _), Bd_e rfl ?_⟩
    have ma : Md [] w9.drew (w9.drew.alloc (.cells #[.int .i64 (dTag tg 0)] 3)) := Md.alloc _ _
    have ol := OwnL.lit (P := Try.prog) (base := w9.drew.heap.size) enci1 w9.drew 3 [dTag tg 0] #[.int .i64 (dTag tg 0)] (Nat.le_refl _) (by simp [maxLen]) rfl
    have l9 : n1 < w9.drew.heap.size := by have := m9.size; show n1 < w9.heap.size; omega
    have mwa := mdd.trans ma
    generalize hwa : w9.drew.alloc (.cells #[.int .i64 (dTag tg 0)] 3) = wa at *
    generalize hbs : w9.drew.heap.size = bs at *
    have hbsw : w.heap.size ≤ bs := by rw [← hbs]; exact mdd.size
    have hbsa : bs ≤ wa.heap.size := by have := (ol.lt rfl).2; simp only at this; omega
    refine LoopP_in (fun mm us vs w' => ∃ (i : Nat) (at' : Int) (a : Option Addr) (c : Nat) (out : List Int), us = [.int .i64 at', .slice a out.length c, .int .i64 i] ∧ mm = cs.length - i ∧ i ≤ cs.length ∧ at' < tg.length ∧ out.length = i + 1 ∧ out ++ dGo dm nx tg (cs.drop i) at' = dTag tg 0 :: dGo dm nx tg cs 0 ∧ OwnL w' bs 3 1 i1 a c out ∧ bs ≤ w'.heap.size ∧ Md [] w w') cs.length
      ⟨0, 0, _, 1, [dTag tg 0], rfl, rfl, by omega, by omega, rfl, rfl, ol, hbsa, mwa⟩ ?_
    rintro mm us vs w44 ⟨i, at', a, c, out, rfl, hmm, hi, hat, hol, ho, own, hbs44, m44⟩
    refine opI_in <| opL_in <| opI_in <| Bd_in fun b50 hb50 => If_in (fun hb => ?_) fun hb => ?_
    case refine_2 =>
      have hil : i = cs.length := by
        have : ¬ (i : Int) < (cs.length : Int) := by rw [hb50] at hb; exact of_decide_eq_false hb
        omega
      subst hil
      rw [List.drop_of_length_le (Nat.le_refl _)] at ho
      rw [show dGo dm nx tg [] at' = [] from rfl, List.append_nil] at ho
      rw [← ho]
      exact ⟨⟨a, c, rfl, own.down hbsw⟩, m44⟩
    have hil : i < cs.length := by rw [hb50] at hb; have : (i : Int) < (cs.length : Int) := of_decide_eq_true hb
                                   omega
    rw [List.drop_eq_getElem_cons hil] at ho
    have hx := hcs _ (List.getElem_mem hil)
    refine ⟨h3.ix hil, (h3.md m44).ld1 hil rfl <| opI_in ?_⟩
    generalize cs[i] = x at *
    have hnt := D.next hat hx.1 hx.2
    refine Jn_in (fun us vs w' => us = [.int .i64 (dNext dm nx at' x)] ∧ w' = w44) ?_ ?_
    · rintro us vs w55 ⟨rfl, rfl⟩
      refine opI_in <| Jn_in (fun us vs w' => us = [.int .i64 (dTag tg (dNext dm nx at' x))] ∧ w' = w55) ?_ ?_
      · rintro us vs w59 ⟨rfl, rfl⟩
        refine opI_in <| app_one rowT52 enci1 _ rfl own hbs44 (by simp; omega) (fun b hb A hA => by simp at hb; subst hb; have := (own.lt hA).1; omega) (by simp [maxLen]; omega) (by omega) fun a' c' w' o m hA' => opL_in <| Bd_e (inc_i64 (by omega)) ?_
        exact ⟨cs.length - (i + 1), by omega, i + 1, dNext dm nx at' x, a', c', out ++ [dTag tg (dNext dm nx at' x)], rfl, rfl, by omega, hnt, by simp; omega, by rw [← ho]; simp [dGo], o, by have := m.size; omega, m44.old m fun d hd => by obtain ⟨A, hA, rfl⟩ := mem_blk hd; have := (own.lt hA).1; omega⟩
      · refine Bd_in fun b70 hb70 => If_in (fun hb => ?_) fun hb => ?_
        · have h0 : 0 ≤ dNext dm nx at' x := by rw [hb70] at hb; simpa using hb
          obtain ⟨k, hk⟩ := Int.eq_ofNat_of_zero_le h0
          have hkl : k < tg.length := by omega
          rw [hk]
          refine ⟨h2.ix hkl, (h2.md m44).ld1 hkl rfl <| opI_in ⟨?_, rfl⟩⟩
          unfold dTag
          rw [if_pos (by omega), Int.toNat_natCast, List.getD_eq_getElem?_getD, List.getElem?_eq_getElem hkl]; rfl
        · have h0 : ¬ 0 ≤ dNext dm nx at' x := by rw [hb70] at hb; simpa using hb
          refine ⟨?_, rfl⟩
          unfold dTag
          rw [if_neg h0]
    · refine Bd_in fun b74 hb74 => If_in (fun hb => ?_) fun hb => ?_
      · have h0 : 0 ≤ at' := by rw [hb74] at hb; simpa using hb
        obtain ⟨q1, q2, q3, q4⟩ := D.ix h0 hat hx.1 hx.2
        have hm2 := D.m2
        refine Bd_e (y := at' * dm) (by rw [IntKind.wrap_i64]; omega) <| Bd_e (y := (((at' * dm + x).toNat : Nat) : Int)) (by rw [IntKind.wrap_i64]; omega) ?_
        have hk : (at' * dm + x).toNat < nx.length := by omega
        refine ⟨h1.ix hk, (h1.md m44).ld1 hk rfl <| opI_in ⟨?_, rfl⟩⟩
        unfold dNext
        rw [if_pos h0, List.getD_eq_getElem?_getD, List.getElem?_eq_getElem hk]; rfl
      · have h0 : ¬ 0 ≤ at' := by rw [hb74] at hb; simpa using hb
        refine ⟨?_, rfl⟩
        unfold dNext
        rw [if_neg h0]
end Fk
set_option linter.unusedVariables false
set_option linter.unusedSimpArgs false
set_option maxRecDepth 100000
set_option maxHeartbeats 4000000
namespace Fk
open Go Go.Proofs Go.RowKit
structure Lr (L : List Nat) (wb w : World) (a : Option Addr) (c : Nat) (B : List Rb) (na : Option Addr) (nc : Nat) (nx : List Int) (ta : Option Addr) (tc : Nat) (tg : List Int) : Prop where
  md : Md [] wb w
  own : OwnL w wb.heap.size 222 1 rbE a c B
  rows : ∀ p ∈ B, OwnL w wb.heap.size 4 1 bE p.a p.c p.N
  nx : OwnL w wb.heap.size 3 1 i1 na nc nx
  tg : OwnL w wb.heap.size 3 1 i1 ta tc tg
  ap : Apt na ta
  lt : ∀ b ∈ L, b < w.heap.size
  l0 : ∀ b ∈ L, ∀ A, a = some A → A.block ≠ b
  l1 : ∀ b ∈ L, ∀ A, na = some A → A.block ≠ b
  l2 : ∀ b ∈ L, ∀ A, ta = some A → A.block ≠ b
  l3 : ∀ p ∈ B, ∀ A, p.a = some A → ∀ b ∈ L, A.block ≠ b
section
variable {L : List Nat} {wb w w' : World} {c nc tc : Nat} {a na ta : Option Addr} {B : List Rb} {nx tg : List Int}
theorem Lr.md0 (h : Lr L wb w a c B na nc nx ta tc tg) (hm : Md [] w w') : Lr L wb w' a c B na nc nx ta tc tg :=
  ⟨h.md.trans hm, h.own.md hm, fun p hp => (h.rows p hp).md hm, h.nx.md hm, h.tg.md hm, h.ap, fun b hb => Nat.lt_of_lt_of_le (h.lt b hb) hm.size, h.l0, h.l1, h.l2, h.l3⟩
theorem Lr.mdL {n0 : Nat} (h : Lr L wb w a c B na nc nx ta tc tg) (h0 : n0 ∈ L) (hlo : wb.heap.size ≤ n0) (hm : Md [n0] w w') : Lr L wb w' a c B na nc nx ta tc tg :=
  ⟨h.md.old hm (by simp; exact hlo), h.own.mdD hm (fun A hA => by simp; exact h.l0 n0 h0 A hA), fun p hp => (h.rows p hp).mdD hm (fun A hA => by simp; exact h.l3 p hp A hA n0 h0), h.nx.mdD hm (fun A hA => by simp; exact h.l1 n0 h0 A hA), h.tg.mdD hm (fun A hA => by simp; exact h.l2 n0 h0 A hA), h.ap, fun b hb => Nat.lt_of_lt_of_le (h.lt b hb) hm.size, h.l0, h.l1, h.l2, h.l3⟩
theorem Lr.mdI {b0 c2 : Nat} {x : Option Addr} {xs : List Int} (h : Lr L wb w a c B na nc nx ta tc tg) (o : OwnL w b0 3 1 i1 x c2 xs) (hlo : wb.heap.size ≤ b0) (hm : Md (x.map (·.block)).toList w w') : Md [] wb w' ∧ OwnL w' wb.heap.size 222 1 rbE a c B ∧ ∀ p ∈ B, OwnL w' wb.heap.size 4 1 bE p.a p.c p.N := by
  refine ⟨h.md.old hm (fun d hd => ?_), h.own.mdD hm (fun A hA hd => ?_), fun p hp => (h.rows p hp).mdD hm (fun A hA hd => ?_)⟩
  · obtain ⟨A, hA, e⟩ := mem_blk hd; have := (o.lt hA).1; omega
  · obtain ⟨X, hX, e⟩ := mem_blk hd; exact own_apt2 o h.own (by decide) X A hX hA e
  · obtain ⟨X, hX, e⟩ := mem_blk hd; exact own_apt2 o (h.rows p hp) (by decide) X A hX hA e
theorem Lr.addN {n0 : Nat} (h : Lr L wb w a c B na nc nx ta tc tg) (h0 : n0 ∈ L) (hlo : wb.heap.size ≤ n0) (x : Int) (hl : nx.length < 2 ^ 30) {K : Option Addr → Nat → Nat → World → Prop}
    (kk : ∀ na' nc' w', Lr L wb w' a c B na' nc' (nx ++ [x]) ta tc tg → K na' (nx ++ [x]).length nc' w') :
    Nw (.cells #[.int .i64 x] 3) w fun b w' => RunW Try.prog L (Builtin.append_ #[52, 52] 52 #[.slice na nx.length nc, .slice (some (Addr.mk b 0 none)) 1 1]) (fun v w'' => opL v fun a' n' c' => Up [n0] L w'' fun w3 => K a' n' c' w3) w' := by
  refine app_one rowT52 enci1 x rfl h.nx h.md.size h.lt h.l1 (by simp [maxLen]; omega) (by omega) fun a' c' w' o hm hA => opL_in fun w3 h3 _ => kk a' c' w3 ?_
  obtain ⟨m', o', r'⟩ := h.mdI h.nx (Nat.le_refl _) hm
  obtain ⟨t', ap'⟩ := own_keep h.tg hm hA h.ap
  exact Lr.mdL ⟨m', o', r', o, t', ap', fun b hb => Nat.lt_of_lt_of_le (h.lt b hb) hm.size, h.l0, fun b hb A hA' => by
    rcases hA A hA' with h1 | h1
    · exact h.l1 b hb A h1
    · have := h.lt b hb; omega, h.l2, h.l3⟩ h0 hlo h3
theorem Lr.addT {n0 : Nat} (h : Lr L wb w a c B na nc nx ta tc tg) (h0 : n0 ∈ L) (hlo : wb.heap.size ≤ n0) (x : Int) (hl : tg.length < 2 ^ 30) {K : Option Addr → Nat → Nat → World → Prop}
    (kk : ∀ ta' tc' w', Lr L wb w' a c B na nc nx ta' tc' (tg ++ [x]) → K ta' (tg ++ [x]).length tc' w') :
    Nw (.cells #[.int .i64 x] 3) w fun b w' => RunW Try.prog L (Builtin.append_ #[52, 52] 52 #[.slice ta tg.length tc, .slice (some (Addr.mk b 0 none)) 1 1]) (fun v w'' => opL v fun a' n' c' => Up [n0] L w'' fun w3 => K a' n' c' w3) w' := by
  refine app_one rowT52 enci1 x rfl h.tg h.md.size h.lt h.l2 (by simp [maxLen]; omega) (by omega) fun a' c' w' o hm hA => opL_in fun w3 h3 _ => kk a' c' w3 ?_
  obtain ⟨m', o', r'⟩ := h.mdI h.tg (Nat.le_refl _) hm
  obtain ⟨t', ap'⟩ := own_keep h.nx hm hA h.ap.symm
  exact Lr.mdL ⟨m', o', r', t', o, ap'.symm, fun b hb => Nat.lt_of_lt_of_le (h.lt b hb) hm.size, h.l0, h.l1, fun b hb A hA' => by
    rcases hA A hA' with h1 | h1
    · exact h.l2 b hb A h1
    · have := h.lt b hb; omega, h.l3⟩ h0 hlo h3
end
end Fk
set_option linter.unusedVariables false
set_option linter.unusedSimpArgs false
namespace Fk
open Go Go.Proofs Go.RowKit
def cntK (k : Int) (n s : Nat) : Nat := (if k = 1 ∨ k = 4 then 1 else if k = 3 then n - 1 else 0) + s
/-- How many states trees make. -/
def Fo.cnt : Fo → Nat
  | .nil => 0
  | .cons k _ _ _ _ q r => cntK k q.len q.cnt + r.cnt
def Fo.cnt1 : Fo → Nat
  | .nil => 0
  | .cons k _ _ _ _ q r => cntK k q.len q.cnt
theorem len_zero : ∀ {f : Fo}, f.len = 0 → f = .nil
  | .nil, _ => rfl
  | .cons _ _ _ _ _ _ r, h => by simp [Fo.len] at h
theorem nodeOk_inv {k : Int} {z : Bool} {n : Nat} (h : nodeOk k z n = true) : (k = 0 ∧ n = 0 ∧ z = true) ∨ (k = 1 ∧ n = 0 ∧ z = false) ∨ (k = 2 ∧ 2 ≤ n ∧ z = true) ∨ (k = 3 ∧ 2 ≤ n ∧ z = true) ∨ (k = 4 ∧ n = 1 ∧ z = true) := by
  unfold nodeOk at h
  cases z <;> simp at h ⊢ <;> omega
theorem mst_min (most : Nat) (l : List Ns) (x : Ns) (h : l.length ≤ most + 1) : (mst most l x).length = min (l.length + 1) (most + 1) := by
  unfold mst
  split
  · simp; omega
  · omega
theorem tw_min (most : Nat) : ∀ f : Fo, f.right = true →
    (∀ p : List Ns × Int, p.1.length ≤ most + 1 → ((tw most f).cat p).1.length = min (p.1.length + f.cnt) (most + 1)) ∧
    (∀ (to : Int) (l : List Ns), l.length ≤ most + 1 → ((tw most f).alt to l).1.length = min (l.length + (f.cnt + (f.len - 1))) (most + 1) ∧ (((tw most f).alt to l).2 = none ↔ f.len = 0)) ∧
    (∀ p : List Ns × Int, p.1.length ≤ most + 1 → ((tw most f).one p).1.length = min (p.1.length + f.cnt1) (most + 1))
  | .nil, _ => by
    refine ⟨fun p h => ?_, fun to l h => ⟨?_, by simp [tw, Fo.len]⟩, fun p h => ?_⟩
    · show p.1.length = _; simp [Fo.cnt]; omega
    · show l.length = _; simp [Fo.cnt, Fo.len]; omega
    · show p.1.length = _; simp [Fo.cnt1]; omega
  | .cons k a b c d q r, hr => by
    simp only [Fo.right, Bool.and_eq_true] at hr
    obtain ⟨q1, q2, q3⟩ := tw_min most q hr.1.2
    obtain ⟨r1, r2, r3⟩ := tw_min most r hr.2
    have hn := nodeOk_inv hr.1.1
    have one : ∀ p : List Ns × Int, p.1.length ≤ most + 1 → (twOne most k a b c d (tw most q) p).1.length = min (p.1.length + cntK k q.len q.cnt) (most + 1) := by
      intro p hp
      unfold twOne
      split
      · omega
      · rename_i hfull
        rcases hn with ⟨rfl, h2, _⟩ | ⟨rfl, h2, _⟩ | ⟨rfl, h2, _⟩ | ⟨rfl, h2, _⟩ | ⟨rfl, h2, _⟩
        · have := len_zero h2; subst this
          simp [cntK, Fo.cnt]; omega
        · have := len_zero h2; subst this
          simp only [if_true, cntK, Fo.cnt]
          have := mst_min most p.1 ⟨1, a, b, c, d, p.2, 0, 0⟩ hp
          simpa [pst] using this
        · simp [cntK]; have := q1 p hp; simpa using this
        · simp [cntK]
          rw [(q2 p.2 p.1 hp).1]
          omega
        · have hq : q.cnt1 = q.cnt := by
            cases q with
            | nil => simp [Fo.len] at h2
            | cons k' a' b' c' d' q' r' =>
              have hr' : r' = .nil := len_zero (by simp [Fo.len] at h2; omega)
              subst hr'
              simp [Fo.cnt, Fo.cnt1]
          simp [cntK, setA_len]
          have h1 := mst_min most p.1 (spl 0 p.2) hp
          have h3 := q3 (pst most p.1 (spl 0 p.2)) (by simp only [pst]; omega)
          simp only [pst] at h3 ⊢
          rw [h3, h1, hq]
          omega
    refine ⟨fun p hp => ?_, fun to l hl => ⟨?_, ?_⟩, fun p hp => one p hp⟩
    · have h1 := r1 p hp
      have h2 := one ((tw most r).cat p) (by omega)
      show (twOne most k a b c d (tw most q) ((tw most r).cat p)).1.length = _
      rw [h2, h1]
      simp only [Fo.cnt]
      omega
    · have h1 := r2 to l hl
      have h2 := one (((tw most r).alt to l).1, to) (by simp only; omega)
      simp only at h2
      show (twAlt most _ _ to l).1.length = _
      unfold twAlt
      simp only [Fo.cnt, Fo.len]
      cases hq : ((tw most r).alt to l).2 with
      | none =>
        have := h1.2.1 hq
        have hrn := len_zero this
        subst hrn
        simp only
        rw [h2, h1.1]
        simp [Fo.len, Fo.cnt]; omega
      | some at' =>
        have : ¬ r.len = 0 := fun h => by rw [h1.2.2 h] at hq; cases hq
        simp only
        have h3 := mst_min most (twOne most k a b c d (tw most q) (((tw most r).alt to l).1, to)).1 (spl (twOne most k a b c d (tw most q) (((tw most r).alt to l).1, to)).2 at') (by omega)
        show (mst most _ _).length = _
        rw [h3, h2, h1.1]
        omega
    · show (twAlt most _ _ to l).2 = none ↔ _
      unfold twAlt
      simp only [Fo.len]
      cases ((tw most r).alt to l).2 <;> simp
theorem mst_agree {most M : Nat} {l : List Ns} (x : Ns) (h : l.length ≤ most) (hM : most ≤ M) : mst most l x = mst M l x := by
  unfold mst
  rw [if_pos h, if_pos (by omega)]
/-- Where the cap is not met it does not matter. -/
theorem tw_agree {most M : Nat} (hM : most ≤ M) : ∀ f : Fo, f.right = true →
    (∀ p : List Ns × Int, p.1.length + f.cnt ≤ most → (tw most f).cat p = (tw M f).cat p) ∧
    (∀ (to : Int) (l : List Ns), l.length + (f.cnt + (f.len - 1)) ≤ most → (tw most f).alt to l = (tw M f).alt to l) ∧
    (∀ p : List Ns × Int, p.1.length + f.cnt1 ≤ most → (tw most f).one p = (tw M f).one p)
  | .nil, _ => ⟨fun p h => rfl, fun to l h => rfl, fun p h => rfl⟩
  | .cons k a b c d q r, hr => by
    have hr0 := hr
    simp only [Fo.right, Bool.and_eq_true] at hr
    obtain ⟨q1, q2, q3⟩ := tw_agree hM q hr.1.2
    obtain ⟨r1, r2, r3⟩ := tw_agree hM r hr.2
    have hn := nodeOk_inv hr.1.1
    have one : ∀ p : List Ns × Int, p.1.length + cntK k q.len q.cnt ≤ most → twOne most k a b c d (tw most q) p = twOne M k a b c d (tw M q) p := by
      intro p hp
      unfold twOne
      rw [if_neg (show ¬ p.1.length > most by omega), if_neg (show ¬ p.1.length > M by omega)]
      rcases hn with ⟨rfl, h2, _⟩ | ⟨rfl, h2, _⟩ | ⟨rfl, h2, _⟩ | ⟨rfl, h2, _⟩ | ⟨rfl, h2, _⟩
      · simp
      · simp only [if_true]
        unfold pst
        rw [mst_agree _ (by omega) hM]
      · simp [cntK] at hp ⊢; exact q1 p hp
      · simp [cntK] at hp ⊢
        have := q2 p.2 p.1 (by omega)
        rw [this]
        exact ⟨rfl, rfl⟩
      · have hq : q.cnt1 = q.cnt := by
          cases q with
          | nil => simp [Fo.len] at h2
          | cons k' a' b' c' d' q' r' =>
            have hr' : r' = .nil := len_zero (by simp [Fo.len] at h2; omega)
            subst hr'
            simp [Fo.cnt, Fo.cnt1]
        simp [cntK] at hp ⊢
        have h1 : pst most p.1 (spl 0 p.2) = pst M p.1 (spl 0 p.2) := by unfold pst; rw [mst_agree _ (by omega) hM]
        have h2 := mst_min M p.1 (spl 0 p.2) (by omega)
        rw [h1]
        have h3 := q3 (pst M p.1 (spl 0 p.2)) (by simp only [pst]; omega)
        rw [h3]
        exact ⟨rfl, rfl⟩
    refine ⟨fun p hp => ?_, fun to l hl => ?_, fun p hp => one p hp⟩
    · simp only [Fo.cnt] at hp
      have h1 := (tw_min M r hr.2).1 p (by omega)
      show twOne most k a b c d (tw most q) ((tw most r).cat p) = twOne M k a b c d (tw M q) ((tw M r).cat p)
      rw [r1 p (by omega)]
      exact one _ (by omega)
    · simp only [Fo.cnt, Fo.len] at hl
      have h1 := (tw_min M r hr.2).2.1 to l (by omega)
      show twAlt most _ _ to l = twAlt M _ _ to l
      unfold twAlt
      dsimp only
      rw [r2 to l (by omega)]
      have h2 := one (((tw M r).alt to l).1, to) (by simp only; omega)
      rw [h2]
      have h3 := (tw_min M (.cons k a b c d q r) hr0).2.2 (((tw M r).alt to l).1, to) (by simp only; omega)
      change (twOne M k a b c d (tw M q) (((tw M r).alt to l).1, to)).1.length = _ at h3
      simp only [Fo.cnt1] at h3
      cases hq : ((tw M r).alt to l).2 with
      | none => rfl
      | some at' =>
        have : ¬ r.len = 0 := fun h => by rw [h1.2.2 h] at hq; cases hq
        simp only [pst]
        rw [mst_agree _ (by omega) hM]
end Fk
set_option linter.unusedVariables false
set_option linter.unusedSimpArgs false
set_option maxRecDepth 100000
set_option maxHeartbeats 2000000
namespace Fk
open Go Go.Proofs Go.RowKit
structure RS (w0 w : World) (a : Option Addr) (c : Nat) (l : List Ns) : Prop where
  md : Md [] w0 w
  own : OwnL w w0.heap.size 103 8 nsE a c l
/-- A row of states that one appends to, from a world on. -/
structure Sq (w0 wb : World) (pa : Option Addr) (n1 : Nat) (w : World) (a : Option Addr) (c : Nat) (l : List Ns) : Prop where
  rs : RS w0 w a c l
  md : Md (pa.map (·.block)).toList wb w
  rel : ∀ A, a = some A → pa = some A ∨ wb.heap.size ≤ A.block
  nlt : n1 < wb.heap.size
  np : ∀ A, pa = some A → A.block ≠ n1
section
variable {w0 wb w : World} {pa a : Option Addr} {n1 c : Nat} {l : List Ns}
theorem Sq.ln (S : Sq w0 wb pa n1 w a c l) : ∀ b ∈ [n1], b < w.heap.size := fun b hb => by simp at hb; subst hb; have := S.nlt; have := S.md.size; omega
theorem Sq.step (S : Sq w0 wb pa n1 w a c l) {w' : World} {a' : Option Addr} {c' : Nat} {l' : List Ns} (h : RS w0 w' a' c' l') (hm : Md (a.map (·.block)).toList w w') (hA : ∀ A, a' = some A → a = some A ∨ w.heap.size ≤ A.block) : Sq w0 wb pa n1 w' a' c' l' :=
  ⟨h, S.md.row hm S.rel, fun A h1 => by
    rcases hA A h1 with h2 | h2
    · exact S.rel A h2
    · have := S.md.size; right; omega, S.nlt, S.np⟩
end
end Fk
set_option linter.unusedVariables false
set_option linter.unusedSimpArgs false
set_option maxRecDepth 100000
set_option maxHeartbeats 2000000
namespace Fk
open Go Go.Proofs Go.RowKit
theorem one_min {most : Nat} {k a b c d : Int} {q : Fo} (hn : nodeOk k (z4 a b c d) q.len = true) (hq : q.right = true) (p : List Ns × Int) (h : p.1.length ≤ most + 1) : (twOne most k a b c d (tw most q) p).1.length = min (p.1.length + cntK k q.len q.cnt) (most + 1) :=
  (tw_min most (.cons k a b c d q .nil) (by simp [Fo.right, hn, hq])).2.2 p h
theorem one_agree {most M : Nat} (hM : most ≤ M) {k a b c d : Int} {q : Fo} (hn : nodeOk k (z4 a b c d) q.len = true) (hq : q.right = true) (p : List Ns × Int) (h : p.1.length + cntK k q.len q.cnt ≤ most) : twOne most k a b c d (tw most q) p = twOne M k a b c d (tw M q) p :=
  (tw_agree hM (.cons k a b c d q .nil) (by simp [Fo.right, hn, hq])).2.2 p h
theorem bldF_min (most : Nat) : ∀ (f : Fo) (i : Int) (l : List Ns) (bs : List Int), f.right = true → l.length ≤ most + 1 → (bldF most f i l bs).1.length = min (l.length + (f.cnt + f.len)) (most + 1) ∧ (bldF most f i l bs).2.length = bs.length + f.len
  | .nil, i, l, bs, _, hl => by simp only [bldF, Fo.cnt, Fo.len]; omega
  | .cons k a b c d q r, i, l, bs, hr, hl => by
    simp only [Fo.right, Bool.and_eq_true] at hr
    have h1 := mst_min most l ⟨0, 0, 0, 0, 0, 0, 0, i⟩ hl
    have h2 := one_min (most := most) hr.1.1 hr.1.2 (pst most l ⟨0, 0, 0, 0, 0, 0, 0, i⟩) (by simp only [pst]; omega)
    simp only [pst] at h2
    obtain ⟨h3, h4⟩ := bldF_min most r (i + 1) (twOne most k a b c d (tw most q) (pst most l ⟨0, 0, 0, 0, 0, 0, 0, i⟩)).1 (bs ++ [(twOne most k a b c d (tw most q) (pst most l ⟨0, 0, 0, 0, 0, 0, 0, i⟩)).2]) hr.2 (by simp only [pst]; omega)
    simp only [bldF, Fo.cnt, Fo.len]
    simp only [pst] at h3 h4 ⊢
    rw [h3, h4, h2, h1]
    simp
    omega
theorem bldF_agree {most M : Nat} (hM : most ≤ M) : ∀ (f : Fo) (i : Int) (l : List Ns) (bs : List Int), f.right = true → l.length + (f.cnt + f.len) ≤ most → bldF most f i l bs = bldF M f i l bs
  | .nil, i, l, bs, _, hl => rfl
  | .cons k a b c d q r, i, l, bs, hr, hl => by
    simp only [Fo.right, Bool.and_eq_true] at hr
    simp only [Fo.cnt, Fo.len] at hl
    have e1 : pst most l ⟨0, 0, 0, 0, 0, 0, 0, i⟩ = pst M l ⟨0, 0, 0, 0, 0, 0, 0, i⟩ := by unfold pst; rw [mst_agree _ (by omega) hM]
    have h1 := mst_min M l ⟨0, 0, 0, 0, 0, 0, 0, i⟩ (by omega)
    have e2 := one_agree hM hr.1.1 hr.1.2 (pst M l ⟨0, 0, 0, 0, 0, 0, 0, i⟩) (by simp only [pst]; omega)
    have h2 := one_min (most := M) hr.1.1 hr.1.2 (pst M l ⟨0, 0, 0, 0, 0, 0, 0, i⟩) (by simp only [pst]; omega)
    simp only [bldF]
    rw [e1, e2]
    refine bldF_agree hM r _ _ _ hr.2 ?_
    rw [h2]
    simp only [pst]
    omega
theorem joinB_min (most : Nat) : ∀ (bs : List Int) (l : List Ns), l.length ≤ most + 1 → (joinB most bs l).1.length = min (l.length + (bs.length - 1)) (most + 1)
  | [], l, h => by simp [joinB]; omega
  | [b], l, h => by simp [joinB]; omega
  | b :: b2 :: bs, l, h => by
    have h1 := joinB_min most (b2 :: bs) l h
    have h2 := mst_min most (joinB most (b2 :: bs) l).1 (spl b (joinB most (b2 :: bs) l).2) (by omega)
    show (mst most _ _).length = _
    rw [h2, h1]
    simp
    omega
theorem joinB_agree {most M : Nat} (hM : most ≤ M) : ∀ (bs : List Int) (l : List Ns), l.length + (bs.length - 1) ≤ most → joinB most bs l = joinB M bs l
  | [], l, h => rfl
  | [b], l, h => rfl
  | b :: b2 :: bs, l, h => by
    simp only [List.length_cons] at h
    have h1 := joinB_agree hM (b2 :: bs) l (by simp; omega)
    have h2 := joinB_min M (b2 :: bs) l (by omega)
    simp only [List.length_cons] at h2
    show pst most (joinB most (b2 :: bs) l).1 _ = pst M (joinB M (b2 :: bs) l).1 _
    rw [h1]
    unfold pst
    rw [mst_agree _ (by omega) hM]
def Fo.total (f : Fo) : Nat := f.cnt + (2 * f.len - 1)
/-- The machine with a cap that is not met. -/
def bldM (f : Fo) : List Ns × Int := joinB 20000 (bldF 20000 f 0 [] []).2 (bldF 20000 f 0 [] []).1
theorem bld_eq {f : Fo} {most : Int} (h1 : 1 ≤ f.len) (h2 : f.len ≤ 200) (h3 : 1 ≤ most) (h4 : most ≤ 20000) (hr : f.right = true) : bld f most = if most < f.total then ((0, []), 40) else (((bldM f).2, (bldM f).1), 0) := by
  obtain ⟨m, rfl⟩ := Int.eq_ofNat_of_zero_le (show 0 ≤ most by omega)
  unfold bld
  rw [if_pos ⟨h1, h2, h3, h4, hr⟩]
  simp only [Int.toNat_natCast]
  obtain ⟨b1, b2⟩ := bldF_min m f 0 [] [] hr (by simp)
  have b3 := joinB_min m (bldF m f 0 [] []).2 (bldF m f 0 [] []).1 (by omega)
  simp only [List.length_nil] at b1 b2
  unfold Fo.total
  by_cases hc : (m : Int) < ((f.cnt + (2 * f.len - 1) : Nat) : Int)
  · rw [if_pos hc, if_pos (by omega)]
  · rw [if_neg hc, if_neg (by omega)]
    unfold bldM
    have e1 := bldF_agree (show m ≤ 20000 by omega) f 0 [] [] hr (by simp; omega)
    rw [e1] at b1 b2 ⊢
    rw [joinB_agree (show m ≤ 20000 by omega) _ _ (by omega)]
theorem bldM_len {f : Fo} (h1 : 1 ≤ f.len) (hr : f.right = true) (h : f.total ≤ 20000) : (bldM f).1.length = f.total := by
  obtain ⟨b1, b2⟩ := bldF_min 20000 f 0 [] [] hr (by simp)
  have b3 := joinB_min 20000 (bldF 20000 f 0 [] []).2 (bldF 20000 f 0 [] []).1 (by omega)
  simp only [List.length_nil] at b1 b2
  unfold bldM
  unfold Fo.total at h ⊢
  rw [b3]
  omega
/-- States, and beginnings. -/
structure S2 (wb : World) (n1 : Nat) (w : World) (a : Option Addr) (c : Nat) (l : List Ns) (a2 : Option Addr) (c2 : Nat) (bs : List Int) : Prop where
  q : Sq wb wb none n1 w a c l
  o : OwnL w wb.heap.size 3 1 i1 a2 c2 bs
  ap : Apt a2 a
section
variable {wb w : World} {a a2 : Option Addr} {n1 c c2 : Nat} {l : List Ns} {bs : List Int}
theorem S2.st (S : S2 wb n1 w a c l a2 c2 bs) {w' : World} {a' : Option Addr} {c' : Nat} {l' : List Ns} (h : Sq wb wb none n1 w' a' c' l') (hm : Md (a.map (·.block)).toList w w') (hA : ∀ A, a' = some A → a = some A ∨ w.heap.size ≤ A.block) : S2 wb n1 w' a' c' l' a2 c2 bs :=
  ⟨h, S.o.mdD hm fun A hA' hd => by obtain ⟨B, hB, e⟩ := mem_blk hd; exact S.ap A B hA' hB e.symm, fun A B hA' hB e => by
    rcases hA B hB with h1 | h1
    · exact S.ap A B hA' h1 e
    · have := (S.o.lt hA').2; omega⟩
end
end Fk
set_option linter.unusedVariables false
set_option linter.unusedSimpArgs false
set_option maxRecDepth 100000
set_option maxHeartbeats 2000000
namespace Fk
open Go Go.Proofs Go.RowKit
def reZ (_ : Unit) : List Value := [.int .u8 0, .int .u64 0, .int .u64 0, .int .u64 0, .int .u64 0, .slice none 0 0]
theorem encZ : Enc 6 reZ := ⟨fun _ => rfl, by intro x v hv; simp [reZ] at hv; rcases hv with rfl | rfl | rfl <;> rfl⟩
end Fk
set_option linter.unusedVariables false
set_option linter.unusedSimpArgs false
set_option maxRecDepth 100000
set_option maxHeartbeats 2000000
namespace Fk
open Go Go.Proofs Go.RowKit
theorem rgU {L : List Nat} {w0 w : World} {K : Nat → World → Prop} (h : Good L w0 w) (k : ∀ n w', Good (n :: L) w0 w' → Md [] w w' → K n w') : Rg w fun n => Up [n] (n :: L) w (K n) :=
  fun n hn w' hm hL => k n w' ⟨h.1.trans (hm.fresh (by simp; exact hn)), hL⟩ (hm.fresh (by simp; exact hn))
section
variable {L : List Nat} {w0 w : World}
theorem in66 (f : Fo) (A : Option Addr) (C : Nat) (most : Int) (h : Good L w0 w) (hr : RepF w A 0 f) (hl : f.len < 2 ^ 63) {K : Int → Option Addr → Nat → Nat → Int → World → Prop}
    (kk : ∀ a c w', Good L w0 w' → Md [] w w' → OwnL w' w.heap.size 103 8 nsE a c (bld f most).1.2 → K (bld f most).1.1 a (bld f most).1.2.length c (bld f most).2 w') :
    CallW Try.prog L 66 #[.slice A f.len C, .int .i64 most] (fun v w' => opTu v fun cs => opAg (nthD cs.toList 0) fun cs2 => opI .i64 (nthD cs2.toList 0) fun x => opL (nthD cs2.toList 1) fun a n c => SzIs cs2.size 2 (opI .i64 (nthD cs.toList 1) fun e => SzIs cs.size 2 (K x a n c e w'))) w := by
  refine (f66_ok f A C most w hr hl).call h.2 ?_
  rintro v w' ⟨a, c, rfl, own⟩ h'
  exact opTu_in <| opAg_in <| opI_in <| opL_in <| SzIs_in rfl <| opI_in <| SzIs_in rfl <| kk a c w' (h.tr h') h' own
theorem in73 (a b : List Int) (A B : Option Addr) (C D : Nat) (h : Good L w0 w) (ha : RowAt w A 1 i1 a) (hb : RowAt w B 1 i1 b) (hl : a.length < 2 ^ 63) {K : Bool → World → Prop} (kk : ∀ w', Good L w0 w' → Md [] w w' → K (decide (a = b)) w') :
    CallW Try.prog L 73 #[.slice A a.length C, .slice B b.length D] (fun v w' => opB v fun b => K b w') w := by
  refine (f73_ok a b A B C D w ha hb hl).call h.2 ?_
  rintro v w' rfl h'
  exact opB_in (kk w' (h.tr h') h')
end
def exF : Fo := .cons 1 0 17179869184 0 0 .nil (.cons 4 0 0 0 0 (.cons 1 0 8589934592 0 0 .nil .nil) .nil)
def exS : List Ns := [⟨0, 0, 0, 0, 0, 0, 0, 0⟩, ⟨1, 0, 17179869184, 0, 0, 0, 0, 0⟩, ⟨0, 0, 0, 0, 0, 0, 0, 1⟩, ⟨2, 0, 0, 0, 0, 4, 2, 0⟩, ⟨1, 0, 8589934592, 0, 0, 3, 0, 0⟩, ⟨2, 0, 0, 0, 0, 1, 3, 0⟩]
def o42a (m : Int) : Obj := .cells #[.int .u8 1, .int .u64 0, .int .u64 m, .int .u64 0, .int .u64 0, .slice none 0 0] 42
def o42b (m : Int) (n : Nat) : Obj := .cells #[.int .u8 1, .int .u64 0, .int .u64 m, .int .u64 0, .int .u64 0, .slice none 0 0, .int .u8 4, .int .u64 0, .int .u64 0, .int .u64 0, .int .u64 0, .slice (some ⟨n, 0, none⟩) 1 1] 42
theorem ReC.blk {w : World} {n : Nat} {ty : TypeId} {l : List Value} (h : Blk w n ty l) (o : Nat) {k a b c d : Int} {sa : Option Addr} {sn sc : Nat}
    (e0 : l[o]? = some (.int .u8 k)) (e1 : l[o + 1]? = some (.int .u64 a)) (e2 : l[o + 2]? = some (.int .u64 b)) (e3 : l[o + 3]? = some (.int .u64 c)) (e4 : l[o + 4]? = some (.int .u64 d)) (e5 : l[o + 5]? = some (.slice sa sn sc)) :
    ReC w ((Addr.mk n 0 none).add o) k a b c d sa sn sc := by
  have e : ∀ j, ((Addr.mk n 0 none).add o).add j = ⟨n, o + j, none⟩ := fun j => by rw [add_add, ad0']
  unfold ReC
  rw [e, e, e, e, e, e]
  exact ⟨h.cell e0, h.cell e1, h.cell e2, h.cell e3, h.cell e4, h.cell e5⟩
theorem exRep (w : World) : RepF ((w.alloc (o42a 8589934592)).alloc (o42b 17179869184 w.heap.size)) (some ⟨(w.alloc (o42a 8589934592)).heap.size, 0, none⟩) 0 exF := by
  have b1 : Blk (w.alloc (o42a 8589934592)) w.heap.size 42 _ := Blk.new w _ 42
  have b2 : Blk ((w.alloc (o42a 8589934592)).alloc (o42b 17179869184 w.heap.size)) (w.alloc (o42a 8589934592)).heap.size 42 _ := Blk.new (w.alloc (o42a 8589934592)) _ 42
  have b1' := b1.md (Md.alloc (M := []) _ (o42b 17179869184 w.heap.size)) (by simp)
  simp only [exF, RepF, Fo.len]
  refine ⟨⟨_, none, 0, rfl, ReC.blk b2 0 rfl rfl rfl rfl rfl rfl, by omega, trivial⟩, ⟨_, _, 1, rfl, ReC.blk b2 6 rfl rfl rfl rfl rfl rfl, by omega, ⟨_, none, 0, rfl, ReC.blk b1' 0 rfl rfl rfl rfl rfl rfl, by omega, trivial⟩, trivial⟩, trivial⟩
end Fk
set_option linter.unusedVariables false
set_option linter.unusedSimpArgs false
set_option maxRecDepth 100000
set_option maxHeartbeats 2000000
namespace Fk
open Go Go.Proofs Go.RowKit
theorem bld_len (f : Fo) (most : Int) : (bld f most).1.2.length ≤ 20000 := by
  by_cases h : 1 ≤ f.len ∧ f.len ≤ 200 ∧ 1 ≤ most ∧ most ≤ 20000 ∧ f.right = true
  · rw [bld_eq h.1 h.2.1 h.2.2.1 h.2.2.2.1 h.2.2.2.2]
    split
    · simp
    · rename_i hc
      simp only
      rw [bldM_len h.1 h.2.2.2.2 (by omega)]
      omega
  · unfold bld; rw [if_neg h]; simp
end Fk
set_option linter.unusedVariables false
set_option linter.unusedSimpArgs false
set_option maxRecDepth 100000
namespace Fk
open Go Go.Proofs Go.RowKit
def Fo.app : Fo → Fo → Fo
  | .nil, x => x
  | .cons k a b c d q r, x => .cons k a b c d q (r.app x)
theorem TrF.app {w : World} : ∀ {l l2 : List Tr} {f f2 : Fo}, TrF w l f → TrF w l2 f2 → TrF w (l ++ l2) (f.app f2)
  | [], l2, .nil, f2, _, h2 => h2
  | t :: l, l2, .cons k a b c d q r, f2, ⟨h, h1⟩, h2 => ⟨h, TrF.app h1 h2⟩
  | [], _, .cons .., _, h, _ => h.elim
  | _ :: _, _, .nil, _, h, _ => h.elim
end Fk
set_option linter.unusedVariables false
set_option linter.unusedSimpArgs false
set_option maxRecDepth 100000
set_option maxHeartbeats 4000000
namespace Fk
open Go Go.Proofs Go.RowKit
theorem f161_ok (b : Nat) (hb : b = 97 ∨ b = 98) (w : World) : Ct Try.prog 161 #[.int .u8 (b : Int)] w fun v w' => v = .agg #[.int .u8 1, .int .u64 0, .int .u64 (2 ^ (b - 64)), .int .u64 0, .int .u64 0, .slice none 0 0] ∧ Md [] w w' := by
  apply f161_in
  intro n1 hn1 w2 h2 hL2
  have l1 := hL2 n1 (by simp)
  refine Nw_i ?_
  have ma : Md [] w2 (w2.alloc (.cells #[.int .u8 0, .int .u64 0, .int .u64 0, .int .u64 0, .int .u64 0, .slice none 0 0] 42)) := Md.alloc w2 _
  have ol : OwnL (w2.alloc (.cells #[.int .u8 0, .int .u64 0, .int .u64 0, .int .u64 0, .int .u64 0, .slice none 0 0] 42)) w2.heap.size 42 6 reZ (some ⟨w2.heap.size, 0, none⟩) 1 [()] := OwnL.lit (P := Try.prog) (base := w2.heap.size) encZ w2 42 [()] _ (Nat.le_refl _) (by simp [maxLen]) rfl
  generalize w2.alloc (.cells #[.int .u8 0, .int .u64 0, .int .u64 0, .int .u64 0, .int .u64 0, .slice none 0 0] 42) = w4 at *
  have hN : n1 < w2.heap.size := l1
  have hsz := h2.size
  generalize w2.heap.size = n3 at *
  obtain ⟨A, hA, p1, p2, p3, p4, p5⟩ := own_put (n := 1) ol 0 [.int .u8 1, .int .u64 0, .int .u64 0, .int .u64 0, .int .u64 0, .slice none 0 0] (by simp [reZ]) (by simp)
  injection hA with hA
  subst hA
  have e0 : (Addr.mk n3 0 none).add 0 = ⟨n3, 0, none⟩ := Addr.add_lit _ _ _
  rw [e0] at p3 p4 p5
  generalize setCells w4 ⟨n3, 0, none⟩ 0 [.int .u8 1, .int .u64 0, .int .u64 0, .int .u64 0, .int .u64 0, .slice none 0 0] = w5 at *
  obtain ⟨A, hA, q1, q2, q3, q4, q5⟩ := own_put (n := 1) p4 2 [.int .u64 (2 ^ (b - 64))] (by simp [reZ, wrL]) (by simp)
  injection hA with hA
  subst hA
  have e2 : ((Addr.mk n3 0 none).add 1).add (1 * 1) = (Addr.mk n3 0 none).add 2 := by rw [add_add]
  refine ⟨by simp; omega, p3, Bd_e (y := 1) (by rcases hb with rfl | rfl <;> rfl) <| Bd_e (y := ((b - 64 : Nat) : Int)) (by rcases hb with rfl | rfl <;> rfl) ⟨by omega, Bd_e (y := 2 ^ (b - 64)) (by rcases hb with rfl | rfl <;> rfl) ⟨⟨by omega, by omega⟩, ?_⟩⟩⟩
  rw [show (Int.toNat 1 * 1) = 1 * 1 from rfl, e2]
  have cl := World.ownsRow.cells q4 rfl
  refine ⟨by rw [add_block]; simp; omega, q3, Ld_in (cl 0 _ rfl) <| Ld_in (cl 1 _ rfl) <| Ld_in (cl 2 _ rfl) <| Ld_in (cl 3 _ rfl) <| Ld_in (cl 4 _ rfl) <| Ld_in (cl 5 _ rfl) <| opI_in <| opI_in <| opI_in <| opI_in <| opI_in <| opL_in ?_⟩
  intro w22 h22 _
  exact ⟨rfl, ((((h2.trans ma).old p5 (by simp; omega)).old q5 (by simp; omega)).old h22 (by simp; omega))⟩
section
variable {L : List Nat} {w0 w : World}
theorem in161 (b : Nat) (m : Int) (hb : (b = 97 ∧ m = 8589934592) ∨ (b = 98 ∧ m = 17179869184)) (h : Good L w0 w) {K : Int → Int → Int → Int → Int → Option Addr → Nat → Nat → World → Prop} (kk : ∀ w', Good L w0 w' → Md [] w w' → K 1 0 m 0 0 none 0 0 w') :
    CallW Try.prog L 161 #[.int .u8 (b : Int)] (fun v w' => opAg v fun cs => opI .u8 (nthD cs.toList 0) fun x4 => opI .u64 (nthD cs.toList 1) fun x5 => opI .u64 (nthD cs.toList 2) fun x6 => opI .u64 (nthD cs.toList 3) fun x7 => opI .u64 (nthD cs.toList 4) fun x8 => opL (nthD cs.toList 5) fun a n c => SzIs cs.size 6 (K x4 x5 x6 x7 x8 a n c w')) w := by
  refine (f161_ok b (hb.imp And.left And.left) w).call h.2 ?_
  rintro v w' rfl h'
  have e : (2 : Int) ^ (b - 64) = m := by rcases hb with ⟨rfl, rfl⟩ | ⟨rfl, rfl⟩ <;> rfl
  rw [e]
  exact opAg_in <| opI_in <| opI_in <| opI_in <| opI_in <| opI_in <| opL_in <| SzIs_in rfl <| kk w' (h.tr h') h'
abbrev DIn (L : List Nat) (w0 w : World) (r : Dm × Int) (K : Int → Option Addr → Nat → Nat → Option Addr → Nat → Nat → Int → World → Prop) : Prop :=
  ∀ na nc ta tc w', Good L w0 w' → Md [] w w' → OwnL w' w.heap.size 3 1 i1 na nc r.1.2.1 → OwnL w' w.heap.size 3 1 i1 ta tc r.1.2.2 → K r.1.1 na r.1.2.1.length nc ta r.1.2.2.length tc r.2 w'
theorem in67 (st : Int) (l : List Ns) (A : Option Addr) (C : Nat) (c : Cl) (hc : c.ok) (most : Int) (h : Good L w0 w) (hr : RowAt w A 8 nsE l) (hl : l.length < 2 ^ 40) {K : Int → Option Addr → Nat → Nat → Option Addr → Nat → Nat → Int → World → Prop}
    (kk : DIn L w0 w (dBld st l c most) K) :
    CallW Try.prog L 67 #[.agg #[.int .i64 st, .slice A l.length C], .agg c.v, .int .i64 most] (fun v w' => opTu v fun cs => opAg (nthD cs.toList 0) fun cs2 => opI .i64 (nthD cs2.toList 0) fun x => opL (nthD cs2.toList 1) fun a n c => opL (nthD cs2.toList 2) fun a2 n2 c2 => SzIs cs2.size 3 (opI .i64 (nthD cs.toList 1) fun e => SzIs cs.size 2 (K x a n c a2 n2 c2 e w'))) w := by
  refine (f67_ok st l A C c hc most w hr (by omega)).call h.2 ?_
  rintro v w' ⟨na, nc, ta, tc, rfl, o1, o2, _⟩ h'
  exact opTu_in <| opAg_in <| opI_in <| opL_in <| opL_in <| SzIs_in rfl <| opI_in <| SzIs_in rfl <| kk na nc ta tc w' (h.tr h') h' o1 o2
theorem in70 (dm : Int) (nx tg cs : List Int) (na ta ca : Option Addr) (nc tc cc : Nat) (h : Good L w0 w) (h1 : RowAt w na 1 i1 nx) (h2 : RowAt w ta 1 i1 tg) (h3 : RowAt w ca 1 i1 cs) (hl1 : nx.length < 2 ^ 63) (hl2 : tg.length < 2 ^ 63) (hl3 : cs.length < 2 ^ 30) {K : Option Addr → Nat → Nat → Int → World → Prop}
    (kk : ∀ a c w', Good L w0 w' → Md [] w w' → OwnL w' w.heap.size 3 1 i1 a c (dRun dm nx tg cs).1 → K a (dRun dm nx tg cs).1.length c (dRun dm nx tg cs).2 w') :
    CallW Try.prog L 70 #[.agg #[.int .i64 dm, .slice na nx.length nc, .slice ta tg.length tc], .slice ca cs.length cc] (fun v w' => opTu v fun cs => opL (nthD cs.toList 0) fun a n c => opI .i64 (nthD cs.toList 1) fun e => SzIs cs.size 2 (K a n c e w')) w := by
  refine (f70_ok dm nx tg cs na ta ca nc tc cc w h1 h2 h3 hl1 hl2 hl3).call h.2 ?_
  rintro v w' ⟨a, c, rfl, own⟩ h'
  exact opTu_in <| opL_in <| opI_in <| SzIs_in rfl <| kk a c w' (h.tr h') h' own
theorem in72d (dm : Int) (nx tg : List Int) (na ta : Option Addr) (nc tc : Nat) (h : Good L w0 w) (h1 : RowAt w na 1 i1 nx) (h2 : RowAt w ta 1 i1 tg) (hl1 : nx.length < 2 ^ 63) (hl2 : tg.length < 2 ^ 63) {K : Bool → World → Prop} (kk : ∀ w', Good L w0 w' → Md [] w w' → K (dRight dm nx tg) w') :
    CallW Try.prog L 72 #[.agg #[.int .i64 dm, .slice na nx.length nc, .slice ta tg.length tc]] (fun v w' => opB v fun b => K b w') w := by
  refine (f72_ok dm nx tg na ta nc tc w h1 h2 hl1 hl2).call h.2 ?_
  rintro v w' rfl h'
  exact opB_in (kk w' (h.tr h') h')
theorem in90 (dm : Int) (na ta : Option Addr) (nn nc tn tc : Nat) (h : Good L w0 w) {K : Bool → World → Prop} (kk : ∀ w', Good L w0 w' → Md [] w w' → K (decide (tn ≤ 60) && decide (nn ≤ 2400)) w') :
    CallW Try.prog L 90 #[.agg #[.int .i64 dm, .slice na nn nc, .slice ta tn tc]] (fun v w' => opB v fun b => K b w') w := by
  refine (f90_ok dm na ta nn nc tn tc w).call h.2 ?_
  rintro v w' rfl h'
  exact opB_in (kk w' (h.tr h') h')
theorem in96 (dm em : Int) (na nb ta tb : List Int) (A B D E : Option Addr) (C1 C2 C3 C4 : Nat) (h : Good L w0 w) (h1 : RowAt w A 1 i1 na) (h2 : RowAt w B 1 i1 ta) (h3 : RowAt w D 1 i1 nb) (h4 : RowAt w E 1 i1 tb) (hl1 : na.length < 2 ^ 63) (hl2 : ta.length < 2 ^ 63) {K : Bool → World → Prop} (kk : ∀ w', Good L w0 w' → Md [] w w' → K (decide (dm = em) && decide (na = nb) && decide (ta = tb)) w') :
    CallW Try.prog L 96 #[.agg #[.int .i64 dm, .slice A na.length C1, .slice B ta.length C2], .agg #[.int .i64 em, .slice D nb.length C3, .slice E tb.length C4]] (fun v w' => opB v fun b => K b w') w := by
  refine (f96_ok dm em na nb ta tb A B D E C1 C2 C3 C4 w h1 h2 h3 h4 hl1 hl2).call h.2 ?_
  rintro v w' rfl h'
  exact opB_in (kk w' (h.tr h') h')
end
theorem f162_ok (dm : Int) (nx tg cs wt : List Int) (na ta ca wa : Option Addr) (nc tc cc wc : Nat) (w : World) (h1 : RowAt w na 1 i1 nx) (h2 : RowAt w ta 1 i1 tg) (h3 : RowAt w ca 1 i1 cs) (h4 : RowAt w wa 1 i1 wt) (hl1 : nx.length < 2 ^ 63) (hl2 : tg.length < 2 ^ 63) (hl3 : cs.length < 2 ^ 30) :
    Ct Try.prog 162 #[.agg #[.int .i64 dm, .slice na nx.length nc, .slice ta tg.length tc], .slice ca cs.length cc, .slice wa wt.length wc] w fun v w' => v = .bool (decide (dRun dm nx tg cs = (wt, 0))) ∧ Md [] w w' := by
  apply f162_in
  intro n1 hn1 w2 m2 hL2
  have g2 : Good [n1] w w2 := ⟨m2, hL2⟩
  have hrl : (dRun dm nx tg cs).1.length < 2 ^ 63 := by
    unfold dRun
    split
    · have : ∀ (l : List Int) (a : Int), (dGo dm nx tg l a).length = l.length := fun l => by
        induction l with
        | nil => intro a; rfl
        | cons x l ih => intro a; simp [dGo, ih]
      simp [this]; omega
    · simp
  refine in70 dm nx tg cs na ta ca nc tc cc g2 (h1.md m2) (h2.md m2) (h3.md m2) hl1 hl2 hl3 fun a c w4 g4 m4 own => ?_
  refine Bd_in fun b10 hb10 => Gd_to (fun b w' => (b10 = true → b = decide ((dRun dm nx tg cs).1 = wt)) ∧ Md [] w w') (fun b w' hJ => ?_) (fun fin hc => ?_) (fun hc => ⟨(fun h => by rw [h] at hc; cases hc), g4.1⟩)
  · obtain ⟨hb, hm⟩ := hJ
    refine Bd_in fun b17 hb17 => ⟨?_, hm⟩
    rw [hb17]
    have e : (dRun dm nx tg cs = (wt, 0)) ↔ ((dRun dm nx tg cs).1 = wt ∧ (dRun dm nx tg cs).2 = 0) := by rw [Prod.ext_iff]
    rw [show decide (dRun dm nx tg cs = (wt, 0)) = decide ((dRun dm nx tg cs).1 = wt ∧ (dRun dm nx tg cs).2 = 0) from decide_eq_decide.2 e]
    cases h10 : b10 with
    | false =>
      have : ¬ (dRun dm nx tg cs).2 = 0 := by rw [hb10] at h10; simpa using h10
      simp [this]
    | true =>
      have : (dRun dm nx tg cs).2 = 0 := by rw [hb10] at h10; simpa using h10
      rw [hb h10]
      simp [this]
  · exact in73 _ wt a wa c wc g4 (own.row enci1) (h4.md g4.1) hrl fun w' g' m' => fin _ _ ⟨fun _ => rfl, g'.1⟩
end Fk
set_option linter.unusedVariables false
set_option linter.unusedSimpArgs false
set_option maxRecDepth 100000
set_option maxHeartbeats 4000000
namespace Fk
open Go Go.Proofs Go.RowKit
def ofC (f : Fo) : Cl × Int := if f.right = true then (clOf f.sets, 0) else (zCl 0, 2)
theorem ofC_ok (f : Fo) : (ofC f).1.ok := by
  unfold ofC
  split
  · exact clOf_ok _ _ (zCl_ok (by omega) (by omega))
  · exact zCl_ok (by omega) (by omega)
section
variable {L : List Nat} {w0 w : World}
theorem in40c (fo : Fo) (A : Option Addr) (C : Nat) (hl : fo.len < 2 ^ 40) (hbig : fo.size ≤ 2 ^ 39) {K : Array Value → Int → World → Prop} (h : Good L w0 w) (hr : RepF w A 0 fo)
    (k : ∀ w', Good L w0 w' → Md [] w w' → K (ofC fo).1.v (ofC fo).2 w') :
    CallW Try.prog L 40 #[.slice A fo.len C] (fun v w' => opTu v fun cs => opBig (nthD cs.toList 0) fun c => c.size = 257 ∧ opI .i64 (nthD cs.toList 1) fun e => SzIs cs.size 2 (K c e w')) w := by
  refine (f40_ok fo A C w hr hl hbig).call h.2 ?_
  rintro v w' rfl h'
  have hok := ofC_ok fo
  have e : (if fo.right = true then ofV (clOf fo.sets) 0 else ofV (zCl 0) 2) = ofV (ofC fo).1 (ofC fo).2 := by unfold ofC; cases fo.right <;> rfl
  rw [e]
  exact opTu_in <| opBig_in ⟨hok.size, opI_in <| SzIs_in rfl <| k w' (h.tr h') h'⟩
end
def ofD (f : Fo) (most : Int) : Dm × Int := dBld (bld f 20000).1.1 (bld f 20000).1.2 (ofC f).1 most
def ofB (f : Fo) (most : Int) : Bool := decide ((bld f 20000).2 = 0 ∧ (ofC f).2 = 0 ∧ (ofD f most).2 = 0)
theorem f85_ok (f : Fo) (A : Option Addr) (C : Nat) (most : Int) (w : World) (hr : RepF w A 0 f) (hl : f.len < 2 ^ 40) (hbig : f.size ≤ 2 ^ 39) :
    Ct Try.prog 85 #[.slice A f.len C, .int .i64 most] w fun v w' => (∃ a c na nc ta tc, v = .tuple #[.agg #[.int .i64 (bld f 20000).1.1, .slice a (bld f 20000).1.2.length c], .agg (ofC f).1.v, dmV (ofD f most).1 na nc ta tc, .bool (ofB f most)] ∧ OwnL w' w.heap.size 103 8 nsE a c (bld f 20000).1.2 ∧ OwnL w' w.heap.size 3 1 i1 na nc (ofD f most).1.2.1 ∧ OwnL w' w.heap.size 3 1 i1 ta tc (ofD f most).1.2.2) ∧ Md [] w w' := by
  apply f85_in
  intro n1 hn1 n2 hn2 n3 hn3 w4 m4 hL4
  have g4 : Good [n3, n2, n1] w w4 := ⟨m4, hL4⟩
  have hok := ofC_ok f
  have s4 := m4.size
  refine in66 f A C 20000 g4 (hr.md m4) (by omega) fun a c w6 g6 m6 own6 => rgU g6 fun n14 w15 g15 m15 => ?_
  refine in40c f A C hl hbig g15 (hr.md g15.1) fun w17 g17 m17 => ⟨hok.size, ?_⟩
  intro n21 hn21
  refine OkC_in hok.cells ⟨hok.size, fun w22 h22 hL22 => ?_⟩
  have m22 : Md [] w17 w22 := h22.fresh (by simp; exact hn21)
  have g22 : Good [n21, n14, n3, n2, n1] w w22 := ⟨g17.1.trans m22, hL22⟩
  have own22 := ((own6.md m15).md m17).md m22
  have hbl := bld_len f 20000
  refine in67 _ _ a c _ hok most g22 (own22.row encNs) (by omega) fun na nc ta tc w24 g24 m24 o1 o2 => ?_
  intro n35 hn35
  have own24 := own22.md m24
  have e0 : ofD f most = dBld (bld f 20000).1.1 (bld f 20000).1.2 (ofC f).1 most := rfl
  rw [← e0] at o1 o2 ⊢
  refine Jn_in (fun us vs w' => us = [.bool (ofB f most)] ∧ vs = [dmV (ofD f most).1 na nc ta tc, .agg (ofC f).1.v, .agg #[.int .i64 (bld f 20000).1.1, .slice a (bld f 20000).1.2.length c]] ∧ Md [] w w' ∧ OwnL w' w.heap.size 103 8 nsE a c (bld f 20000).1.2 ∧ OwnL w' w.heap.size 3 1 i1 na nc (ofD f most).1.2.1 ∧ OwnL w' w.heap.size 3 1 i1 ta tc (ofD f most).1.2.2) ?_ ?_
  · rintro us vs w38 ⟨rfl, rfl, q1, q2, q3, q4⟩
    exact opB_in <| opAg_in <| opI_in <| opL_in <| opL_in <| SzIs_in rfl <| opBig_in <| opAg_in <| opI_in <| opL_in <| SzIs_in rfl ⟨hok.size, ⟨a, c, na, nc, ta, tc, rfl, q2, q3, q4⟩, q1⟩
  · intro w55 h55 hL55
    have m55 : Md [] w24 w55 := h55.fresh (by simp; exact hn35)
    refine ⟨hok.size, Bd_in fun b56 hb56 => Bd_in fun b57 hb57 => Bd_in fun b58 hb58 => Bd_in fun b59 hb59 => Bd_in fun b60 hb60 => ?_⟩
    intro w61 h61 _
    refine OkC_in hok.cells ?_
    intro w62 h62 _ w63 h63 _
    have keep : ∀ {α : Type} {w' w'' : World} {n e size : Nat} {enc : α → List Value} {x : Option Addr} {y : Nat} {l : List α}, n < w4.heap.size → Md [n] w' w'' → OwnL w' w4.heap.size e size enc x y l → OwnL w'' w4.heap.size e size enc x y l := fun hn hm ho => ho.mdD hm fun A hA hd => by
      have := (ho.lt hA).1
      simp at hd
      omega
    have l1 := hL4 n1 (by simp)
    have l2 := hL4 n2 (by simp)
    have l3 := hL4 n3 (by simp)
    have s22 : w4.heap.size ≤ w22.heap.size := by have := m6.size; have := m15.size; have := m17.size; have := m22.size; omega
    have md24 : Md [] w24 w55.drew := m55.trans (Md_drew w55)
    have all : ∀ {α : Type} {e size : Nat} {enc : α → List Value} {x : Option Addr} {y : Nat} {l : List α}, OwnL w24 w4.heap.size e size enc x y l → OwnL w63 w.heap.size e size enc x y l := fun ho => (keep l3 h63 (keep l2 h62 (keep l1 h61 (ho.md md24)))).down s4
    refine ⟨?_, rfl, (((g24.1.trans md24).old h61 (by simp; exact hn1)).old h62 (by simp; exact hn2)).old h63 (by simp; exact hn3), all own24, all (o1.down s22), all (o2.down s22)⟩
    congr 2
    rw [hb60, hb59, hb58, hb57, hb56]
    unfold ofB
    by_cases c1 : (bld f 20000).2 = 0 <;> by_cases c2 : (ofC f).2 = 0 <;> by_cases c3 : (ofD f most).2 = 0 <;> simp [c1, c2, c3]
section
variable {L : List Nat} {w0 w : World}
theorem in85 (f : Fo) (A : Option Addr) (C : Nat) (most : Int) (h : Good L w0 w) (hr : RepF w A 0 f) (hl : f.len < 2 ^ 40) (hbig : f.size ≤ 2 ^ 39) {K : Int → Option Addr → Nat → Nat → Array Value → Int → Option Addr → Nat → Nat → Option Addr → Nat → Nat → Bool → World → Prop}
    (kk : ∀ a c na nc ta tc w', Good L w0 w' → Md [] w w' → OwnL w' w.heap.size 103 8 nsE a c (bld f 20000).1.2 → OwnL w' w.heap.size 3 1 i1 na nc (ofD f most).1.2.1 → OwnL w' w.heap.size 3 1 i1 ta tc (ofD f most).1.2.2 → K (bld f 20000).1.1 a (bld f 20000).1.2.length c (ofC f).1.v (ofD f most).1.1 na (ofD f most).1.2.1.length nc ta (ofD f most).1.2.2.length tc (ofB f most) w') :
    CallW Try.prog L 85 #[.slice A f.len C, .int .i64 most] (fun v w' => opTu v fun cs => opAg (nthD cs.toList 0) fun cs2 => opI .i64 (nthD cs2.toList 0) fun x => opL (nthD cs2.toList 1) fun a n c => SzIs cs2.size 2 (opBig (nthD cs.toList 1) fun cs3 => cs3.size = 257 ∧ opAg (nthD cs.toList 2) fun cs4 => opI .i64 (nthD cs4.toList 0) fun x2 => opL (nthD cs4.toList 1) fun a3 n3 c3 => opL (nthD cs4.toList 2) fun a4 n4 c4 => SzIs cs4.size 3 (opB (nthD cs.toList 3) fun b => SzIs cs.size 4 (K x a n c cs3 x2 a3 n3 c3 a4 n4 c4 b w')))) w := by
  refine (f85_ok f A C most w hr hl hbig).call h.2 ?_
  rintro v w' ⟨a, c, na, nc, ta, tc, rfl, o1, o2, o3⟩ h'
  exact opTu_in <| opAg_in <| opI_in <| opL_in <| SzIs_in rfl <| opBig_in ⟨(ofC_ok f).size, opAg_in <| opI_in <| opL_in <| opL_in <| SzIs_in rfl <| opB_in <| SzIs_in rfl <| kk a c na nc ta tc w' (h.tr h') h' o1 o2 o3⟩
end
def exC : Cl := ⟨List.replicate 97 0 ++ [1, 2] ++ List.replicate 157 0, 3⟩
theorem ex_C : ofC exF = (exC, 0) := by kernel_rfl
theorem ex_bld2 : bld exF 20000 = ((5, exS), 0) := by kernel_rfl
theorem ex_D3 : dBld 5 exS exC 3 = ((3, [-1, 1, 2, -1, 1, -1, -1, -1, -1], [1, 1, 0]), 0) := by kernel_rfl
theorem ex_D2 : dBld 5 exS exC 2 = ((0, [], []), 40) := by kernel_rfl
theorem ex_ofB : ofB exF 3 = true := by
  unfold ofB ofD
  rw [ex_bld2, ex_C]
  simp only
  rw [ex_D3]
  rfl
theorem ex_ofD : ofD exF 3 = ((3, [-1, 1, 2, -1, 1, -1, -1, -1, -1], [1, 1, 0]), 0) := by
  unfold ofD
  rw [ex_bld2, ex_C]
  exact ex_D3
theorem ex_runs : dRun 3 [-1, 1, 2, -1, 1, -1, -1, -1, -1] [1, 1, 0] [3] = ([], 2) := by kernel_rfl
theorem ex_runs1 : decide (dRun 3 [-1, 1, 2, -1, 1, -1, -1, -1, -1] [1, 1, 0] [1, 1] = ([1, 1, 1], 0)) = true := by kernel_rfl
theorem ex_runs2 : decide (dRun 3 [-1, 1, 2, -1, 1, -1, -1, -1, -1] [1, 1, 0] [2, 1] = ([1, 0, -1], 0)) = true := by kernel_rfl
section
variable {L : List Nat} {w0 w : World}
theorem in162 (dm : Int) (nx tg cs wt : List Int) (na ta ca wa : Option Addr) (nc tc cc wc : Nat) (h : Good L w0 w) (h1 : RowAt w na 1 i1 nx) (h2 : RowAt w ta 1 i1 tg) (h3 : RowAt w ca 1 i1 cs) (h4 : RowAt w wa 1 i1 wt) (hl1 : nx.length < 2 ^ 63) (hl2 : tg.length < 2 ^ 63) (hl3 : cs.length < 2 ^ 30) {K : Bool → World → Prop} (kk : ∀ w', Good L w0 w' → Md [] w w' → K (decide (dRun dm nx tg cs = (wt, 0))) w') :
    CallW Try.prog L 162 #[.agg #[.int .i64 dm, .slice na nx.length nc, .slice ta tg.length tc], .slice ca cs.length cc, .slice wa wt.length wc] (fun v w' => opB v fun b => K b w') w := by
  refine (f162_ok dm nx tg cs wt na ta ca wa nc tc cc wc w h1 h2 h3 h4 hl1 hl2 hl3).call h.2 ?_
  rintro v w' rfl h'
  exact opB_in (kk w' (h.tr h') h')
end
theorem ints_lit {w : World} (l : List Int) (cs : Array Value) (hc : cs.toList = l.flatMap i1) (hl : l.length ≤ 1000) : RowAt (w.alloc (.cells cs 3)) (some ⟨w.heap.size, 0, none⟩) 1 i1 l :=
  (OwnL.lit (P := Try.prog) (base := w.heap.size) enci1 w 3 l cs (Nat.le_refl _) (by simp [maxLen]; omega) hc).row enci1
theorem f65_ok (w : World) : Ct Try.prog 65 #[] w fun v w' => v = .bool true ∧ Md [] w w' := by
  apply f65_in
  have g0 : Good [] w w := ⟨Md.refl _ _, by simp⟩
  refine in161 98 17179869184 (.inr ⟨rfl, rfl⟩) g0 fun w2 g2 _ => in161 97 8589934592 (.inl ⟨rfl, rfl⟩) g2 fun w13 g13 _ => Nw_i <| Nw_i ?_
  have m26 : Md [] w13 ((w13.alloc (o42a 8589934592)).alloc (o42b 17179869184 w13.heap.size)) := (Md.alloc w13 _).trans (Md.alloc _ _)
  have r26 := exRep w13
  change CallW _ _ _ _ _ ((w13.alloc (o42a 8589934592)).alloc (o42b 17179869184 w13.heap.size))
  have hok : exC.ok := by have := ofC_ok exF; rw [ex_C] at this; exact this
  refine in85 exF _ 2 3 (g13.tr m26) r26 (by decide) (by decide) fun a c na nc ta tc w28 g28 m28 o1 o2 o3 => ?_
  rw [ex_bld2, ex_ofD] at *
  rw [ex_ofB, ex_C]
  simp only at o1 o2 o3 ⊢
  refine ⟨hok.size, fun n45 h45 n46 h46 n47 h47 => OkC_in hok.cells ⟨hok.size, fun w48 h48 hL48 => ?_⟩⟩
  have m48 : Md [] w28 w48 := h48.fresh (by simp; omega)
  have g48 : Good [n47, n46, n45] w w48 := ⟨g28.1.trans m48, hL48⟩
  have nx48 := ((o2.md m48).row enci1)
  have tg48 := ((o3.md m48).row enci1)
  refine in67 5 exS a c exC hok 2 g48 ((o1.md m48).row encNs) (by decide) fun na2 nc2 ta2 tc2 w50 g50 m50 p1 p2 => ?_
  rw [ex_D2]
  simp only
  refine rgU g50 fun n61 w62 g62 m62 => Nw_i ?_
  have m64 : Md [] w62 (w62.alloc (.cells #[.int .i64 3] 3)) := Md.alloc w62 _
  have r64 := ints_lit (w := w62) [3] #[.int .i64 3] rfl (by decide)
  have md64 := (m50.trans m62).trans m64
  refine in70 3 _ _ [3] na ta _ nc tc 1 (g62.tr m64) (nx48.md md64) (tg48.md md64) r64 (by decide) (by decide) (by decide) fun a68 c70 w66 g66 m66 _ => ?_
  rw [ex_runs]
  simp only
  have nx66 := (nx48.md md64).md m66
  have tg66 := (tg48.md md64).md m66
  refine Bd_e (y := true) rfl <| Bd_e (y := true) rfl <| Bd_e (y := true) rfl <| Bd_e (y := true) rfl ⟨fun _ => hok.manyI.1, Bd_e (y := 3) (by rw [hok.manyI.2]; rfl) <| Bd_e (y := true) rfl <| Bd_e (y := true) rfl ?_⟩
  refine Gd_t <| Nw_i <| Gd_t <| Nw_i ?_
  have ma1 : Md [] w66 (w66.alloc (.cells #[.int .i64 (-1), .int .i64 1, .int .i64 2, .int .i64 (-1), .int .i64 1, .int .i64 (-1), .int .i64 (-1), .int .i64 (-1), .int .i64 (-1)] 3)) := Md.alloc w66 _
  have q1 := ints_lit (w := w66) [-1, 1, 2, -1, 1, -1, -1, -1, -1] #[.int .i64 (-1), .int .i64 1, .int .i64 2, .int .i64 (-1), .int .i64 1, .int .i64 (-1), .int .i64 (-1), .int .i64 (-1), .int .i64 (-1)] rfl (by decide)
  have g84 := g66.tr ma1
  generalize w66.alloc (.cells #[.int .i64 (-1), .int .i64 1, .int .i64 2, .int .i64 (-1), .int .i64 1, .int .i64 (-1), .int .i64 (-1), .int .i64 (-1), .int .i64 (-1)] 3) = w84 at *
  have ma2 : Md [] w84 (w84.alloc (.cells #[.int .i64 1, .int .i64 1, .int .i64 0] 3)) := Md.alloc w84 _
  have q2 := ints_lit (w := w84) [1, 1, 0] #[.int .i64 1, .int .i64 1, .int .i64 0] rfl (by decide)
  have nx89 := (nx66.md ma1).md ma2
  have tg89 := (tg66.md ma1).md ma2
  refine Gd_t <| in96 3 3 [-1, 1, 2, -1, 1, -1, -1, -1, -1] [-1, 1, 2, -1, 1, -1, -1, -1, -1] [1, 1, 0] [1, 1, 0] na ta _ _ nc tc 9 3 (g84.tr ma2) nx89 tg89 (q1.md ma2) q2 (by decide) (by decide) fun w95 g95 m95 => ?_
  have nx95 := nx89.md m95
  have tg95 := tg89.md m95
  refine Bd_e (y := true) rfl <| Gd_t <| Nw_i <| Gd_t <| Nw_i ?_
  have ma3 : Md [] w95 (w95.alloc (.cells #[.int .i64 1, .int .i64 1] 3)) := Md.alloc w95 _
  have q3 := ints_lit (w := w95) [1, 1] #[.int .i64 1, .int .i64 1] rfl (by decide)
  have g101 := g95.tr ma3
  generalize w95.alloc (.cells #[.int .i64 1, .int .i64 1] 3) = w101 at *
  have ma4 : Md [] w101 (w101.alloc (.cells #[.int .i64 1, .int .i64 1, .int .i64 1] 3)) := Md.alloc w101 _
  have q4 := ints_lit (w := w101) [1, 1, 1] #[.int .i64 1, .int .i64 1, .int .i64 1] rfl (by decide)
  have nx106 := (nx95.md ma3).md ma4
  have tg106 := (tg95.md ma3).md ma4
  refine Gd_t <| in162 3 _ _ [1, 1] [1, 1, 1] na ta _ _ nc tc 2 3 (g101.tr ma4) nx106 tg106 (q3.md ma4) q4 (by decide) (by decide) (by decide) fun w112 g112 m112 => ?_
  rw [ex_runs1]
  have nx112 := nx106.md m112
  have tg112 := tg106.md m112
  refine Bd_e (y := true) rfl <| Gd_t <| Nw_i <| Gd_t <| Nw_i ?_
  have ma5 : Md [] w112 (w112.alloc (.cells #[.int .i64 2, .int .i64 1] 3)) := Md.alloc w112 _
  have q5 := ints_lit (w := w112) [2, 1] #[.int .i64 2, .int .i64 1] rfl (by decide)
  have g118 := g112.tr ma5
  generalize w112.alloc (.cells #[.int .i64 2, .int .i64 1] 3) = w118 at *
  have ma6 : Md [] w118 (w118.alloc (.cells #[.int .i64 1, .int .i64 0, .int .i64 (-1)] 3)) := Md.alloc w118 _
  have q6 := ints_lit (w := w118) [1, 0, -1] #[.int .i64 1, .int .i64 0, .int .i64 (-1)] rfl (by decide)
  have nx123 := (nx112.md ma5).md ma6
  have tg123 := (tg112.md ma5).md ma6
  refine Gd_t <| in162 3 _ _ [2, 1] [1, 0, -1] na ta _ _ nc tc 2 3 (g118.tr ma6) nx123 tg123 (q5.md ma6) q6 (by decide) (by decide) (by decide) fun w129 g129 m129 => ?_
  rw [ex_runs2]
  exact Bd_e (y := true) rfl ⟨rfl, g129.1⟩
theorem in65 {L : List Nat} {w0 w : World} {K : Bool → World → Prop} (h : Good L w0 w) (kk : ∀ w', Good L w0 w' → K true w') : CallW Try.prog L 65 #[] (fun v w' => opB v fun b => K b w') w := by
  refine (f65_ok w).call h.2 ?_
  rintro v w' rfl h'
  exact opB_in (kk w' (h.tr h'))
end Fk
set_option linter.unusedVariables false
set_option linter.unusedSimpArgs false
set_option maxRecDepth 100000
set_option maxHeartbeats 4000000
namespace Fk
open Go Go.Proofs Go.RowKit
theorem Good.up {L D : List Nat} {w0 w w' : World} (g : Good L w0 w) (hD : ∀ d ∈ D, w.heap.size ≤ d) (hm : Md D w w') {L' : List Nat} (hL : ∀ b ∈ L', b < w'.heap.size) : Good L' w0 w' ∧ Md [] w w' :=
  ⟨⟨g.1.trans (hm.fresh hD), hL⟩, hm.fresh hD⟩
end Fk
