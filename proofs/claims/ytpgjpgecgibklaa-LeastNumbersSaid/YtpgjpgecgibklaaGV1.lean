/- Conditions of functions, as the generator works them out; each one is checked by the kernel. -/
import Derived.Test.YtpgjpgecgibklaaGK2
set_option linter.unusedVariables false
set_option maxRecDepth 1000000
set_option maxHeartbeats 4000000
namespace Fk
open Go Go.Proofs Go.RowKit
def f21_vc (p0_0 : Int) (p0_1a : Option Addr) (p0_1n : Nat) (p0_1c : Nat) (p0_2a : Option Addr) (p0_2n : Nat) (p0_2c : Nat) (p1a : Option Addr) (p1n : Nat) (p1c : Nat)
  (p2a : Option Addr) (p2n : Nat) (p2c : Nat) (R : Value → World → Prop) (w : World) : Prop := Rg w fun n1 => Bd ((p0_2n : Nat) : Int) fun x2 => Up [] [n1] w fun w3 =>
  CallW Try.prog [n1] (90 : Nat) #[Value.agg #[Value.int IntKind.i64 p0_0, Value.slice p0_1a p0_1n p0_1c, Value.slice p0_2a p0_2n p0_2c]] (fun v4 w5 => opB v4 fun b6 =>
  Bd (!b6) fun b7 => Bd (decide (x2 > (30 : Int))) fun b8 => Bd (bif b7 then true else b8) fun b9 => Gd (!b9) false (fun J10 => CallW Try.prog [n1] (72 : Nat) #[Value.agg
  #[Value.int IntKind.i64 p0_0, Value.slice p0_1a p0_1n p0_1c, Value.slice p0_2a p0_2n p0_2c]] (fun v11 w12 => opB v11 fun b13 => J10 b13 w12) w5) (fun b14 w15 => Bd
  (!b14) fun b16 => Bd (bif b9 then true else b16) fun b17 => If b17 (CallW Try.prog [n1] (91 : Nat) #[] (fun v18 w19 => opB v18 fun b20 => R (Value.bool b20) w19) w15)
  (Bd (IntKind.wrap IntKind.i64 ((2 : Int) * x2)) fun x21 => RunW Try.prog [n1] (Instr.makeSlice (52 : Nat) (Value.int IntKind.i64 x21) (Value.int IntKind.i64 x21)) (fun
  v22 w23 => opL v22 fun a24 n25 n26 => Bd ((n25 : Nat) : Int) fun x27 => LoopP (fun l28 l29 J30 w31 => opI IntKind.i64 (nthD l28 (0 : Nat)) fun x32 => Bd (decide (x32 <
  x27)) fun b33 => If b33 (IxOk x32 n25 a24 ∧ ¬Addr.block (adAt a24 x32 (1 : Nat)) ∈ [n1] ∧ Wr w31 (adAt a24 x32 (1 : Nat)) (1 : Nat) ∧ Bd (IntKind.wrap IntKind.i64 (x32
  + (1 : Int))) fun x34 => J30 [Value.int IntKind.i64 x34] [] (setCells w31 (adAt a24 x32 (1 : Nat)) (0 : Nat) [Value.int IntKind.i64 x32])) (Bd ((p1n : Nat) : Int) fun
  x35 => LoopP (fun l36 l37 J38 w39 => opI IntKind.i64 (nthD l36 (0 : Nat)) fun x40 => Bd (decide (x40 < x35)) fun b41 => If b41 (Jn (fun l42 l43 w44 => opI IntKind.i64
  (nthD l42 (0 : Nat)) fun x45 => opI IntKind.u8 (nthD l42 (1 : Nat)) fun x46 => opI IntKind.i64 (nthD l42 (2 : Nat)) fun x47 => opI IntKind.i64 (nthD l42 (3 : Nat)) fun
  x48 => Bd (IntKind.wrap IntKind.i64 (x40 + (1 : Int))) fun x49 => J38 [Value.int IntKind.i64 x49] [] w44) fun J50 => IxOk x40 p1n p1a ∧ Ld w39 (adAt p1a x40 (1 : Nat))
  fun v51 => opI IntKind.u8 v51 fun x52 => Dr (World.drew w39) fun J53 => Bd (IntKind.wrap IntKind.i64 ((2 : Int) * x2)) fun x54 => x54 ≠ (0 : Int) ∧ Bd (Int.tmod x40
  x54) fun x55 => Bd (IntKind.wrap IntKind.i64 x52) fun x56 => Bd (IntKind.wrap IntKind.i64 ((2 : Int) * x2)) fun x57 => x57 ≠ (0 : Int) ∧ Bd (Int.tmod x56 x57) fun x58
  => IxOk x55 n25 a24 ∧ Ld (World.drew w39) (adAt a24 x55 (1 : Nat)) fun v59 => opI IntKind.i64 v59 fun x60 => Bd (x60 != (0 : Int)) fun b61 => (b61 = true → IxOk x58 n25
  a24) ∧ Gd b61 (0 : Int) (fun J63 => Ld (World.drew w39) (adAt a24 x58 (1 : Nat)) fun v64 => opI IntKind.i64 v64 fun x65 => J63 x65 (World.drew w39)) (fun x66 w67 => Bd
  (x66 != (0 : Int)) fun b68 => Bd (bif b61 then b68 else false) fun b69 => If b69 (Dr (World.drew w67) fun J70 => IxOk x58 n25 a24 ∧ IxOk x55 n25 a24 ∧ ∃ v71, (∀ (w72 :
  World), J70 w72 → Ld w72 (adAt a24 x58 (1 : Nat)) fun v74 => v74 = v71) ∧ opI IntKind.i64 v71 fun x75 => ∃ v76, (∀ (w77 : World), J70 w77 → Ld w77 (adAt a24 x55 (1 :
  Nat)) fun v79 => v79 = v76) ∧ opI IntKind.i64 v76 fun x80 => IxOk x55 n25 a24 ∧ ¬Addr.block (adAt a24 x55 (1 : Nat)) ∈ [n1] ∧ Wr (World.drew w67) (adAt a24 x55 (1 :
  Nat)) (1 : Nat) ∧ IxOk x58 n25 a24 ∧ ¬Addr.block (adAt a24 x58 (1 : Nat)) ∈ [n1] ∧ Wr (setCells (World.drew w67) (adAt a24 x55 (1 : Nat)) (0 : Nat) [Value.int
  IntKind.i64 x75]) (adAt a24 x58 (1 : Nat)) (1 : Nat) ∧ J50 [Value.int IntKind.i64 x40, Value.int IntKind.u8 x52, Value.int IntKind.i64 x55, Value.int IntKind.i64 x58]
  [] (setCells (setCells (World.drew w67) (adAt a24 x55 (1 : Nat)) (0 : Nat) [Value.int IntKind.i64 x75]) (adAt a24 x58 (1 : Nat)) (0 : Nat) [Value.int IntKind.i64 x80]))
  (J50 [Value.int IntKind.i64 x40, Value.int IntKind.u8 x52, Value.int IntKind.i64 x55, Value.int IntKind.i64 x58] [] w67)) (World.drew w39)) (Bd (IntKind.wrap
  IntKind.i64 ((2 : Int) * x2)) fun x81 => Bd (IntKind.wrap IntKind.i64 (x81 * p0_0)) fun x82 => Bd (IntKind.wrap IntKind.i64 ((2 : Int) * x2)) fun x83 => RunW Try.prog
  [n1] (Instr.makeSlice (52 : Nat) (Value.int IntKind.i64 x82) (Value.int IntKind.i64 x82)) (fun v84 w85 => opL v84 fun a86 n87 n88 => RunW Try.prog [n1] (Instr.makeSlice
  (52 : Nat) (Value.int IntKind.i64 x83) (Value.int IntKind.i64 x83)) (fun v89 w90 => opL v89 fun a91 n92 n93 => Rg w90 fun n94 => Up [] [n94, n1] w90 fun w95 => Up [n94]
  [n94, n1] w95 fun w96 => Bd (IntKind.wrap IntKind.i64 ((2 : Int) * x2)) fun x97 => LoopP (fun l98 l99 J100 w101 => opI IntKind.i64 (nthD l98 (0 : Nat)) fun x102 => opI
  IntKind.i64 (nthD l98 (1 : Nat)) fun x103 => Bd (decide (x103 < x97)) fun b104 => If b104 (Dr (World.drew w101) fun J105 => IxOk x103 n25 a24 ∧ x2 ≠ (0 : Int) ∧ Bd
  (Int.tmod x103 x2) fun x106 => ∃ v107, (∀ (w108 : World), J105 w108 → Ld w108 (adAt a24 x103 (1 : Nat)) fun v110 => v110 = v107) ∧ opI IntKind.i64 v107 fun x111 => IxOk
  x106 p0_2n p0_2a ∧ ∃ v112, (∀ (w113 : World), J105 w113 → Ld w113 (adAt p0_2a x106 (1 : Nat)) fun v115 => v115 = v112) ∧ opI IntKind.i64 v112 fun x116 => IxOk x111 n92
  a91 ∧ ¬Addr.block (adAt a91 x111 (1 : Nat)) ∈ [n94, n1] ∧ Wr (World.drew w101) (adAt a91 x111 (1 : Nat)) (1 : Nat) ∧ LoopP (fun l117 l118 J119 w120 => opI IntKind.i64
  (nthD l117 (0 : Nat)) fun x121 => opI IntKind.i64 (nthD l117 (1 : Nat)) fun x122 => Bd (decide (x122 < p0_0)) fun b123 => If b123 (Dr (World.drew w120) fun J124 => x2 ≠
  (0 : Int) ∧ Bd (Int.tmod x103 x2) fun x125 => Bd (IntKind.wrap IntKind.i64 (x125 * p0_0)) fun x126 => Bd (IntKind.wrap IntKind.i64 (x126 + x122)) fun x127 => IxOk x127
  p0_1n p0_1a ∧ ∃ v128, (∀ (w129 : World), J124 w129 → Ld w129 (adAt p0_1a x127 (1 : Nat)) fun v131 => v131 = v128) ∧ opI IntKind.i64 v128 fun x132 => Jn (fun l133 l134
  w135 => opI IntKind.i64 (nthD l133 (0 : Nat)) fun x136 => opI IntKind.i64 (nthD l133 (1 : Nat)) fun x137 => Dr (World.drew w135) fun J138 => IxOk x103 n25 a24 ∧ ∃ v139,
  (∀ (w140 : World), J138 w140 → Ld w140 (adAt a24 x103 (1 : Nat)) fun v142 => v142 = v139) ∧ opI IntKind.i64 v139 fun x143 => Bd (IntKind.wrap IntKind.i64 (x143 * p0_0))
  fun x144 => Bd (IntKind.wrap IntKind.i64 (x144 + x122)) fun x145 => IxOk x145 n87 a86 ∧ ¬Addr.block (adAt a86 x145 (1 : Nat)) ∈ [n94, n1] ∧ Wr (World.drew w135) (adAt
  a86 x145 (1 : Nat)) (1 : Nat) ∧ Bd (IntKind.wrap IntKind.i64 (x122 + (1 : Int))) fun x146 => J119 [Value.int IntKind.i64 x136, Value.int IntKind.i64 x146] [] (setCells
  (World.drew w135) (adAt a86 x145 (1 : Nat)) (0 : Nat) [Value.int IntKind.i64 x137])) fun J147 => Bd (decide (x132 ≥ (0 : Int))) fun b148 => If b148 (Jn (fun l149 l150
  w151 => opI IntKind.i64 (nthD l149 (0 : Nat)) fun x152 => Bd (IntKind.wrap IntKind.i64 (x121 + (1 : Int))) fun x153 => IxOk x152 n25 a24 ∧ Ld w151 (adAt a24 x152 (1 :
  Nat)) fun v154 => opI IntKind.i64 v154 fun x155 => J147 [Value.int IntKind.i64 x153, Value.int IntKind.i64 x155] [] w151) fun J156 => Bd ((p2n : Nat) : Int) fun x157 =>
  Bd (decide (x157 > (0 : Int))) fun b158 => Bd ((p2n : Nat) : Int) fun x159 => (b158 = true → x159 ≠ (0 : Int)) ∧ Bd (Int.tmod x121 x159) fun x161 => (b158 = true → IxOk
  x161 p2n p2a) ∧ Gd b158 (0 : Int) (fun J163 => Ld (World.drew w120) (adAt p2a x161 (1 : Nat)) fun v164 => opI IntKind.u8 v164 fun x165 => J163 x165 (World.drew w120))
  (fun x166 w167 => Bd (Int.tmod x166 (2 : Int)) fun x168 => Bd (x168 == (1 : Int)) fun b169 => Bd (bif b158 then b169 else false) fun b170 => If b170 (Bd (IntKind.wrap
  IntKind.i64 (x132 + x2)) fun x171 => J156 [Value.int IntKind.i64 x171] [] w167) (J156 [Value.int IntKind.i64 x132] [] w167)) (World.drew w120)) (J147 [Value.int
  IntKind.i64 x121, Value.int IntKind.i64 x132] [] (World.drew w120))) (Bd (IntKind.wrap IntKind.i64 (x103 + (1 : Int))) fun x172 => J100 [Value.int IntKind.i64 x121,
  Value.int IntKind.i64 x172] [] w120)) [Value.int IntKind.i64 x102, Value.int IntKind.i64 (0 : Int)] [] (setCells (World.drew w101) (adAt a91 x111 (1 : Nat)) (0 : Nat)
  [Value.int IntKind.i64 x116])) (CallW Try.prog [n94, n1] (92 : Nat) #[Value.agg #[Value.int IntKind.i64 p0_0, Value.slice p0_1a p0_1n p0_1c, Value.slice p0_2a p0_2n
  p0_2c]] (fun v173 w174 => opTu v173 fun cs175 => opAg (nthD (Array.toList cs175) (0 : Nat)) fun cs176 => opI IntKind.i64 (nthD (Array.toList cs176) (0 : Nat)) fun x177
  => opL (nthD (Array.toList cs176) (1 : Nat)) fun a178 n179 n180 => opL (nthD (Array.toList cs176) (2 : Nat)) fun a181 n182 n183 => SzIs (Array.size cs176) (3 : Nat)
  (opI IntKind.i64 (nthD (Array.toList cs175) (1 : Nat)) fun x184 => SzIs (Array.size cs175) (2 : Nat) (Rg w174 fun n185 => Up [n185] [n185, n94, n1] w174 fun w186 =>
  CallW Try.prog [n185, n94, n1] (92 : Nat) #[Value.agg #[Value.int IntKind.i64 p0_0, Value.slice a86 n87 n88, Value.slice a91 n92 n93]] (fun v187 w188 => opTu v187 fun
  cs189 => opAg (nthD (Array.toList cs189) (0 : Nat)) fun cs190 => opI IntKind.i64 (nthD (Array.toList cs190) (0 : Nat)) fun x191 => opL (nthD (Array.toList cs190) (1 :
  Nat)) fun a192 n193 n194 => opL (nthD (Array.toList cs190) (2 : Nat)) fun a195 n196 n197 => SzIs (Array.size cs190) (3 : Nat) (opI IntKind.i64 (nthD (Array.toList
  cs189) (1 : Nat)) fun x198 => SzIs (Array.size cs189) (2 : Nat) (Rg w188 fun n199 => Up [n199] [n199, n185, n94, n1] w188 fun w200 => Dr (World.drew w200) fun J201 =>
  IxOk (0 : Int) n25 a24 ∧ ∃ v202, (∀ (w203 : World), J201 w203 → Ld w203 (adAt a24 (0 : Int) (1 : Nat)) fun v205 => v205 = v202) ∧ opI IntKind.i64 v202 fun x206 => IxOk
  x2 n25 a24 ∧ ∃ v207, (∀ (w208 : World), J201 w208 → Ld w208 (adAt a24 x2 (1 : Nat)) fun v210 => v210 = v207) ∧ opI IntKind.i64 v207 fun x211 => CallW Try.prog [n199,
  n185, n94, n1] (94 : Nat) #[Value.agg #[Value.int IntKind.i64 p0_0, Value.slice a86 n87 n88, Value.slice a91 n92 n93], Value.int IntKind.i64 x206, Value.int IntKind.i64
  x211] (fun v212 w213 => opTu v212 fun cs214 => opB (nthD (Array.toList cs214) (0 : Nat)) fun b215 => opI IntKind.i64 (nthD (Array.toList cs214) (1 : Nat)) fun x216 =>
  SzIs (Array.size cs214) (2 : Nat) (J201 w213 ∧ Bd (x184 == (0 : Int)) fun b217 => Bd (x198 == (0 : Int)) fun b218 => Bd (bif b217 then b218 else false) fun b219 => Bd
  (x216 == (0 : Int)) fun b220 => Bd (bif b219 then b220 else false) fun b221 => Bd (bif b221 then b215 else false) fun b222 => Gd b222 false (fun J223 => CallW Try.prog
  [n199, n185, n94, n1] (96 : Nat) #[Value.agg #[Value.int IntKind.i64 x177, Value.slice a178 n179 n180, Value.slice a181 n182 n183], Value.agg #[Value.int IntKind.i64
  x191, Value.slice a192 n193 n194, Value.slice a195 n196 n197]] (fun v224 w225 => opB v224 fun b226 => J223 b226 w225) w213) (fun b227 w228 => Bd (bif b222 then b227
  else false) fun b229 => Gd b229 false (fun J230 => CallW Try.prog [n199, n185, n94, n1] (91 : Nat) #[] (fun v231 w232 => opB v231 fun b233 => J230 b233 w232) w228) (fun
  b234 w235 => Bd (bif b229 then b234 else false) fun b236 => R (Value.bool b236) w235) w228) w213)) (World.drew w200)))) w186))) w101)) [Value.int IntKind.i64 (0 : Int),
  Value.int IntKind.i64 (0 : Int)] [] w96) w85 ∧ Rg w85 fun n237 => Up [] [n237, n1] w85 fun w238 => RunW Try.prog [n237, n1] (Instr.makeSlice (52 : Nat) (Value.int
  IntKind.i64 x83) (Value.int IntKind.i64 x83)) (fun v239 w240 => opL v239 fun a241 n242 n243 => Up [n237] [n237, n1] w240 fun w244 => Bd (IntKind.wrap IntKind.i64 ((2 :
  Int) * x2)) fun x245 => LoopP (fun l246 l247 J248 w249 => opI IntKind.i64 (nthD l246 (0 : Nat)) fun x250 => opI IntKind.i64 (nthD l246 (1 : Nat)) fun x251 => Bd (decide
  (x251 < x245)) fun b252 => If b252 (Dr (World.drew w249) fun J253 => IxOk x251 n25 a24 ∧ x2 ≠ (0 : Int) ∧ Bd (Int.tmod x251 x2) fun x254 => ∃ v255, (∀ (w256 : World),
  J253 w256 → Ld w256 (adAt a24 x251 (1 : Nat)) fun v258 => v258 = v255) ∧ opI IntKind.i64 v255 fun x259 => IxOk x254 p0_2n p0_2a ∧ ∃ v260, (∀ (w261 : World), J253 w261 →
  Ld w261 (adAt p0_2a x254 (1 : Nat)) fun v263 => v263 = v260) ∧ opI IntKind.i64 v260 fun x264 => IxOk x259 n242 a241 ∧ ¬Addr.block (adAt a241 x259 (1 : Nat)) ∈ [n237,
  n1] ∧ Wr (World.drew w249) (adAt a241 x259 (1 : Nat)) (1 : Nat) ∧ LoopP (fun l265 l266 J267 w268 => opI IntKind.i64 (nthD l265 (0 : Nat)) fun x269 => opI IntKind.i64
  (nthD l265 (1 : Nat)) fun x270 => Bd (decide (x270 < p0_0)) fun b271 => If b271 (Dr (World.drew w268) fun J272 => x2 ≠ (0 : Int) ∧ Bd (Int.tmod x251 x2) fun x273 => Bd
  (IntKind.wrap IntKind.i64 (x273 * p0_0)) fun x274 => Bd (IntKind.wrap IntKind.i64 (x274 + x270)) fun x275 => IxOk x275 p0_1n p0_1a ∧ ∃ v276, (∀ (w277 : World), J272
  w277 → Ld w277 (adAt p0_1a x275 (1 : Nat)) fun v279 => v279 = v276) ∧ opI IntKind.i64 v276 fun x280 => Jn (fun l281 l282 w283 => opI IntKind.i64 (nthD l281 (0 : Nat))
  fun x284 => opI IntKind.i64 (nthD l281 (1 : Nat)) fun x285 => Dr (World.drew w283) fun J286 => IxOk x251 n25 a24 ∧ ∃ v287, (∀ (w288 : World), J286 w288 → Ld w288 (adAt
  a24 x251 (1 : Nat)) fun v290 => v290 = v287) ∧ opI IntKind.i64 v287 fun x291 => Bd (IntKind.wrap IntKind.i64 (x291 * p0_0)) fun x292 => Bd (IntKind.wrap IntKind.i64
  (x292 + x270)) fun x293 => IxOk x293 n87 a86 ∧ ¬Addr.block (adAt a86 x293 (1 : Nat)) ∈ [n237, n1] ∧ Wr (World.drew w283) (adAt a86 x293 (1 : Nat)) (1 : Nat) ∧ Bd
  (IntKind.wrap IntKind.i64 (x270 + (1 : Int))) fun x294 => J267 [Value.int IntKind.i64 x284, Value.int IntKind.i64 x294] [] (setCells (World.drew w283) (adAt a86 x293 (1
  : Nat)) (0 : Nat) [Value.int IntKind.i64 x285])) fun J295 => Bd (decide (x280 ≥ (0 : Int))) fun b296 => If b296 (Jn (fun l297 l298 w299 => opI IntKind.i64 (nthD l297 (0
  : Nat)) fun x300 => Bd (IntKind.wrap IntKind.i64 (x269 + (1 : Int))) fun x301 => IxOk x300 n25 a24 ∧ Ld w299 (adAt a24 x300 (1 : Nat)) fun v302 => opI IntKind.i64 v302
  fun x303 => J295 [Value.int IntKind.i64 x301, Value.int IntKind.i64 x303] [] w299) fun J304 => Bd ((p2n : Nat) : Int) fun x305 => Bd (decide (x305 > (0 : Int))) fun
  b306 => Bd ((p2n : Nat) : Int) fun x307 => (b306 = true → x307 ≠ (0 : Int)) ∧ Bd (Int.tmod x269 x307) fun x309 => (b306 = true → IxOk x309 p2n p2a) ∧ Gd b306 (0 : Int)
  (fun J311 => Ld (World.drew w268) (adAt p2a x309 (1 : Nat)) fun v312 => opI IntKind.u8 v312 fun x313 => J311 x313 (World.drew w268)) (fun x314 w315 => Bd (Int.tmod x314
  (2 : Int)) fun x316 => Bd (x316 == (1 : Int)) fun b317 => Bd (bif b306 then b317 else false) fun b318 => If b318 (Bd (IntKind.wrap IntKind.i64 (x280 + x2)) fun x319 =>
  J304 [Value.int IntKind.i64 x319] [] w315) (J304 [Value.int IntKind.i64 x280] [] w315)) (World.drew w268)) (J295 [Value.int IntKind.i64 x269, Value.int IntKind.i64
  x280] [] (World.drew w268))) (Bd (IntKind.wrap IntKind.i64 (x251 + (1 : Int))) fun x320 => J248 [Value.int IntKind.i64 x269, Value.int IntKind.i64 x320] [] w268))
  [Value.int IntKind.i64 x250, Value.int IntKind.i64 (0 : Int)] [] (setCells (World.drew w249) (adAt a241 x259 (1 : Nat)) (0 : Nat) [Value.int IntKind.i64 x264])) (CallW
  Try.prog [n237, n1] (92 : Nat) #[Value.agg #[Value.int IntKind.i64 p0_0, Value.slice p0_1a p0_1n p0_1c, Value.slice p0_2a p0_2n p0_2c]] (fun v321 w322 => opTu v321 fun
  cs323 => opAg (nthD (Array.toList cs323) (0 : Nat)) fun cs324 => opI IntKind.i64 (nthD (Array.toList cs324) (0 : Nat)) fun x325 => opL (nthD (Array.toList cs324) (1 :
  Nat)) fun a326 n327 n328 => opL (nthD (Array.toList cs324) (2 : Nat)) fun a329 n330 n331 => SzIs (Array.size cs324) (3 : Nat) (opI IntKind.i64 (nthD (Array.toList
  cs323) (1 : Nat)) fun x332 => SzIs (Array.size cs323) (2 : Nat) (Rg w322 fun n333 => Up [n333] [n333, n237, n1] w322 fun w334 => CallW Try.prog [n333, n237, n1] (92 :
  Nat) #[Value.agg #[Value.int IntKind.i64 p0_0, Value.slice a86 n87 n88, Value.slice a241 n242 n243]] (fun v335 w336 => opTu v335 fun cs337 => opAg (nthD (Array.toList
  cs337) (0 : Nat)) fun cs338 => opI IntKind.i64 (nthD (Array.toList cs338) (0 : Nat)) fun x339 => opL (nthD (Array.toList cs338) (1 : Nat)) fun a340 n341 n342 => opL
  (nthD (Array.toList cs338) (2 : Nat)) fun a343 n344 n345 => SzIs (Array.size cs338) (3 : Nat) (opI IntKind.i64 (nthD (Array.toList cs337) (1 : Nat)) fun x346 => SzIs
  (Array.size cs337) (2 : Nat) (Rg w336 fun n347 => Up [n347] [n347, n333, n237, n1] w336 fun w348 => Dr (World.drew w348) fun J349 => IxOk (0 : Int) n25 a24 ∧ ∃ v350, (∀
  (w351 : World), J349 w351 → Ld w351 (adAt a24 (0 : Int) (1 : Nat)) fun v353 => v353 = v350) ∧ opI IntKind.i64 v350 fun x354 => IxOk x2 n25 a24 ∧ ∃ v355, (∀ (w356 :
  World), J349 w356 → Ld w356 (adAt a24 x2 (1 : Nat)) fun v358 => v358 = v355) ∧ opI IntKind.i64 v355 fun x359 => CallW Try.prog [n347, n333, n237, n1] (94 : Nat)
  #[Value.agg #[Value.int IntKind.i64 p0_0, Value.slice a86 n87 n88, Value.slice a241 n242 n243], Value.int IntKind.i64 x354, Value.int IntKind.i64 x359] (fun v360 w361
  => opTu v360 fun cs362 => opB (nthD (Array.toList cs362) (0 : Nat)) fun b363 => opI IntKind.i64 (nthD (Array.toList cs362) (1 : Nat)) fun x364 => SzIs (Array.size
  cs362) (2 : Nat) (J349 w361 ∧ Bd (x332 == (0 : Int)) fun b365 => Bd (x346 == (0 : Int)) fun b366 => Bd (bif b365 then b366 else false) fun b367 => Bd (x364 == (0 :
  Int)) fun b368 => Bd (bif b367 then b368 else false) fun b369 => Bd (bif b369 then b363 else false) fun b370 => Gd b370 false (fun J371 => CallW Try.prog [n347, n333,
  n237, n1] (96 : Nat) #[Value.agg #[Value.int IntKind.i64 x325, Value.slice a326 n327 n328, Value.slice a329 n330 n331], Value.agg #[Value.int IntKind.i64 x339,
  Value.slice a340 n341 n342, Value.slice a343 n344 n345]] (fun v372 w373 => opB v372 fun b374 => J371 b374 w373) w361) (fun b375 w376 => Bd (bif b370 then b375 else
  false) fun b377 => Gd b377 false (fun J378 => CallW Try.prog [n347, n333, n237, n1] (91 : Nat) #[] (fun v379 w380 => opB v379 fun b381 => J378 b381 w380) w376) (fun
  b382 w383 => Bd (bif b377 then b382 else false) fun b384 => R (Value.bool b384) w383) w376) w361)) (World.drew w348)))) w334))) w249)) [Value.int IntKind.i64 (0 : Int),
  Value.int IntKind.i64 (0 : Int)] [] w244) w238) (World.drew w39) ∧ RunW Try.prog [n1] (Instr.makeSlice (52 : Nat) (Value.int IntKind.i64 x83) (Value.int IntKind.i64
  x83)) (fun v385 w386 => opL v385 fun a387 n388 n389 => RunW Try.prog [n1] (Instr.makeSlice (52 : Nat) (Value.int IntKind.i64 x82) (Value.int IntKind.i64 x82)) (fun v390
  w391 => opL v390 fun a392 n393 n394 => Rg w391 fun n395 => Up [] [n395, n1] w391 fun w396 => Up [n395] [n395, n1] w396 fun w397 => Bd (IntKind.wrap IntKind.i64 ((2 :
  Int) * x2)) fun x398 => LoopP (fun l399 l400 J401 w402 => opI IntKind.i64 (nthD l399 (0 : Nat)) fun x403 => opI IntKind.i64 (nthD l399 (1 : Nat)) fun x404 => Bd (decide
  (x404 < x398)) fun b405 => If b405 (Dr (World.drew w402) fun J406 => IxOk x404 n25 a24 ∧ x2 ≠ (0 : Int) ∧ Bd (Int.tmod x404 x2) fun x407 => ∃ v408, (∀ (w409 : World),
  J406 w409 → Ld w409 (adAt a24 x404 (1 : Nat)) fun v411 => v411 = v408) ∧ opI IntKind.i64 v408 fun x412 => IxOk x407 p0_2n p0_2a ∧ ∃ v413, (∀ (w414 : World), J406 w414 →
  Ld w414 (adAt p0_2a x407 (1 : Nat)) fun v416 => v416 = v413) ∧ opI IntKind.i64 v413 fun x417 => IxOk x412 n388 a387 ∧ ¬Addr.block (adAt a387 x412 (1 : Nat)) ∈ [n395,
  n1] ∧ Wr (World.drew w402) (adAt a387 x412 (1 : Nat)) (1 : Nat) ∧ LoopP (fun l418 l419 J420 w421 => opI IntKind.i64 (nthD l418 (0 : Nat)) fun x422 => opI IntKind.i64
  (nthD l418 (1 : Nat)) fun x423 => Bd (decide (x423 < p0_0)) fun b424 => If b424 (Dr (World.drew w421) fun J425 => x2 ≠ (0 : Int) ∧ Bd (Int.tmod x404 x2) fun x426 => Bd
  (IntKind.wrap IntKind.i64 (x426 * p0_0)) fun x427 => Bd (IntKind.wrap IntKind.i64 (x427 + x423)) fun x428 => IxOk x428 p0_1n p0_1a ∧ ∃ v429, (∀ (w430 : World), J425
  w430 → Ld w430 (adAt p0_1a x428 (1 : Nat)) fun v432 => v432 = v429) ∧ opI IntKind.i64 v429 fun x433 => Jn (fun l434 l435 w436 => opI IntKind.i64 (nthD l434 (0 : Nat))
  fun x437 => opI IntKind.i64 (nthD l434 (1 : Nat)) fun x438 => Dr (World.drew w436) fun J439 => IxOk x404 n25 a24 ∧ ∃ v440, (∀ (w441 : World), J439 w441 → Ld w441 (adAt
  a24 x404 (1 : Nat)) fun v443 => v443 = v440) ∧ opI IntKind.i64 v440 fun x444 => Bd (IntKind.wrap IntKind.i64 (x444 * p0_0)) fun x445 => Bd (IntKind.wrap IntKind.i64
  (x445 + x423)) fun x446 => IxOk x446 n393 a392 ∧ ¬Addr.block (adAt a392 x446 (1 : Nat)) ∈ [n395, n1] ∧ Wr (World.drew w436) (adAt a392 x446 (1 : Nat)) (1 : Nat) ∧ Bd
  (IntKind.wrap IntKind.i64 (x423 + (1 : Int))) fun x447 => J420 [Value.int IntKind.i64 x437, Value.int IntKind.i64 x447] [] (setCells (World.drew w436) (adAt a392 x446
  (1 : Nat)) (0 : Nat) [Value.int IntKind.i64 x438])) fun J448 => Bd (decide (x433 ≥ (0 : Int))) fun b449 => If b449 (Jn (fun l450 l451 w452 => opI IntKind.i64 (nthD l450
  (0 : Nat)) fun x453 => Bd (IntKind.wrap IntKind.i64 (x422 + (1 : Int))) fun x454 => IxOk x453 n25 a24 ∧ Ld w452 (adAt a24 x453 (1 : Nat)) fun v455 => opI IntKind.i64
  v455 fun x456 => J448 [Value.int IntKind.i64 x454, Value.int IntKind.i64 x456] [] w452) fun J457 => Bd ((p2n : Nat) : Int) fun x458 => Bd (decide (x458 > (0 : Int)))
  fun b459 => Bd ((p2n : Nat) : Int) fun x460 => (b459 = true → x460 ≠ (0 : Int)) ∧ Bd (Int.tmod x422 x460) fun x462 => (b459 = true → IxOk x462 p2n p2a) ∧ Gd b459 (0 :
  Int) (fun J464 => Ld (World.drew w421) (adAt p2a x462 (1 : Nat)) fun v465 => opI IntKind.u8 v465 fun x466 => J464 x466 (World.drew w421)) (fun x467 w468 => Bd (Int.tmod
  x467 (2 : Int)) fun x469 => Bd (x469 == (1 : Int)) fun b470 => Bd (bif b459 then b470 else false) fun b471 => If b471 (Bd (IntKind.wrap IntKind.i64 (x433 + x2)) fun
  x472 => J457 [Value.int IntKind.i64 x472] [] w468) (J457 [Value.int IntKind.i64 x433] [] w468)) (World.drew w421)) (J448 [Value.int IntKind.i64 x422, Value.int
  IntKind.i64 x433] [] (World.drew w421))) (Bd (IntKind.wrap IntKind.i64 (x404 + (1 : Int))) fun x473 => J401 [Value.int IntKind.i64 x422, Value.int IntKind.i64 x473] []
  w421)) [Value.int IntKind.i64 x403, Value.int IntKind.i64 (0 : Int)] [] (setCells (World.drew w402) (adAt a387 x412 (1 : Nat)) (0 : Nat) [Value.int IntKind.i64 x417]))
  (CallW Try.prog [n395, n1] (92 : Nat) #[Value.agg #[Value.int IntKind.i64 p0_0, Value.slice p0_1a p0_1n p0_1c, Value.slice p0_2a p0_2n p0_2c]] (fun v474 w475 => opTu
  v474 fun cs476 => opAg (nthD (Array.toList cs476) (0 : Nat)) fun cs477 => opI IntKind.i64 (nthD (Array.toList cs477) (0 : Nat)) fun x478 => opL (nthD (Array.toList
  cs477) (1 : Nat)) fun a479 n480 n481 => opL (nthD (Array.toList cs477) (2 : Nat)) fun a482 n483 n484 => SzIs (Array.size cs477) (3 : Nat) (opI IntKind.i64 (nthD
  (Array.toList cs476) (1 : Nat)) fun x485 => SzIs (Array.size cs476) (2 : Nat) (Rg w475 fun n486 => Up [n486] [n486, n395, n1] w475 fun w487 => CallW Try.prog [n486,
  n395, n1] (92 : Nat) #[Value.agg #[Value.int IntKind.i64 p0_0, Value.slice a392 n393 n394, Value.slice a387 n388 n389]] (fun v488 w489 => opTu v488 fun cs490 => opAg
  (nthD (Array.toList cs490) (0 : Nat)) fun cs491 => opI IntKind.i64 (nthD (Array.toList cs491) (0 : Nat)) fun x492 => opL (nthD (Array.toList cs491) (1 : Nat)) fun a493
  n494 n495 => opL (nthD (Array.toList cs491) (2 : Nat)) fun a496 n497 n498 => SzIs (Array.size cs491) (3 : Nat) (opI IntKind.i64 (nthD (Array.toList cs490) (1 : Nat))
  fun x499 => SzIs (Array.size cs490) (2 : Nat) (Rg w489 fun n500 => Up [n500] [n500, n486, n395, n1] w489 fun w501 => Dr (World.drew w501) fun J502 => IxOk (0 : Int) n25
  a24 ∧ ∃ v503, (∀ (w504 : World), J502 w504 → Ld w504 (adAt a24 (0 : Int) (1 : Nat)) fun v506 => v506 = v503) ∧ opI IntKind.i64 v503 fun x507 => IxOk x2 n25 a24 ∧ ∃
  v508, (∀ (w509 : World), J502 w509 → Ld w509 (adAt a24 x2 (1 : Nat)) fun v511 => v511 = v508) ∧ opI IntKind.i64 v508 fun x512 => CallW Try.prog [n500, n486, n395, n1]
  (94 : Nat) #[Value.agg #[Value.int IntKind.i64 p0_0, Value.slice a392 n393 n394, Value.slice a387 n388 n389], Value.int IntKind.i64 x507, Value.int IntKind.i64 x512]
  (fun v513 w514 => opTu v513 fun cs515 => opB (nthD (Array.toList cs515) (0 : Nat)) fun b516 => opI IntKind.i64 (nthD (Array.toList cs515) (1 : Nat)) fun x517 => SzIs
  (Array.size cs515) (2 : Nat) (J502 w514 ∧ Bd (x485 == (0 : Int)) fun b518 => Bd (x499 == (0 : Int)) fun b519 => Bd (bif b518 then b519 else false) fun b520 => Bd (x517
  == (0 : Int)) fun b521 => Bd (bif b520 then b521 else false) fun b522 => Bd (bif b522 then b516 else false) fun b523 => Gd b523 false (fun J524 => CallW Try.prog [n500,
  n486, n395, n1] (96 : Nat) #[Value.agg #[Value.int IntKind.i64 x478, Value.slice a479 n480 n481, Value.slice a482 n483 n484], Value.agg #[Value.int IntKind.i64 x492,
  Value.slice a493 n494 n495, Value.slice a496 n497 n498]] (fun v525 w526 => opB v525 fun b527 => J524 b527 w526) w514) (fun b528 w529 => Bd (bif b523 then b528 else
  false) fun b530 => Gd b530 false (fun J531 => CallW Try.prog [n500, n486, n395, n1] (91 : Nat) #[] (fun v532 w533 => opB v532 fun b534 => J531 b534 w533) w529) (fun
  b535 w536 => Bd (bif b530 then b535 else false) fun b537 => R (Value.bool b537) w536) w529) w514)) (World.drew w501)))) w487))) w402)) [Value.int IntKind.i64 (0 : Int),
  Value.int IntKind.i64 (0 : Int)] [] w397) w386 ∧ Rg w386 fun n538 => Up [] [n538, n1] w386 fun w539 => RunW Try.prog [n538, n1] (Instr.makeSlice (52 : Nat) (Value.int
  IntKind.i64 x82) (Value.int IntKind.i64 x82)) (fun v540 w541 => opL v540 fun a542 n543 n544 => Up [n538] [n538, n1] w541 fun w545 => Bd (IntKind.wrap IntKind.i64 ((2 :
  Int) * x2)) fun x546 => LoopP (fun l547 l548 J549 w550 => opI IntKind.i64 (nthD l547 (0 : Nat)) fun x551 => opI IntKind.i64 (nthD l547 (1 : Nat)) fun x552 => Bd (decide
  (x552 < x546)) fun b553 => If b553 (Dr (World.drew w550) fun J554 => IxOk x552 n25 a24 ∧ x2 ≠ (0 : Int) ∧ Bd (Int.tmod x552 x2) fun x555 => ∃ v556, (∀ (w557 : World),
  J554 w557 → Ld w557 (adAt a24 x552 (1 : Nat)) fun v559 => v559 = v556) ∧ opI IntKind.i64 v556 fun x560 => IxOk x555 p0_2n p0_2a ∧ ∃ v561, (∀ (w562 : World), J554 w562 →
  Ld w562 (adAt p0_2a x555 (1 : Nat)) fun v564 => v564 = v561) ∧ opI IntKind.i64 v561 fun x565 => IxOk x560 n388 a387 ∧ ¬Addr.block (adAt a387 x560 (1 : Nat)) ∈ [n538,
  n1] ∧ Wr (World.drew w550) (adAt a387 x560 (1 : Nat)) (1 : Nat) ∧ LoopP (fun l566 l567 J568 w569 => opI IntKind.i64 (nthD l566 (0 : Nat)) fun x570 => opI IntKind.i64
  (nthD l566 (1 : Nat)) fun x571 => Bd (decide (x571 < p0_0)) fun b572 => If b572 (Dr (World.drew w569) fun J573 => x2 ≠ (0 : Int) ∧ Bd (Int.tmod x552 x2) fun x574 => Bd
  (IntKind.wrap IntKind.i64 (x574 * p0_0)) fun x575 => Bd (IntKind.wrap IntKind.i64 (x575 + x571)) fun x576 => IxOk x576 p0_1n p0_1a ∧ ∃ v577, (∀ (w578 : World), J573
  w578 → Ld w578 (adAt p0_1a x576 (1 : Nat)) fun v580 => v580 = v577) ∧ opI IntKind.i64 v577 fun x581 => Jn (fun l582 l583 w584 => opI IntKind.i64 (nthD l582 (0 : Nat))
  fun x585 => opI IntKind.i64 (nthD l582 (1 : Nat)) fun x586 => Dr (World.drew w584) fun J587 => IxOk x552 n25 a24 ∧ ∃ v588, (∀ (w589 : World), J587 w589 → Ld w589 (adAt
  a24 x552 (1 : Nat)) fun v591 => v591 = v588) ∧ opI IntKind.i64 v588 fun x592 => Bd (IntKind.wrap IntKind.i64 (x592 * p0_0)) fun x593 => Bd (IntKind.wrap IntKind.i64
  (x593 + x571)) fun x594 => IxOk x594 n543 a542 ∧ ¬Addr.block (adAt a542 x594 (1 : Nat)) ∈ [n538, n1] ∧ Wr (World.drew w584) (adAt a542 x594 (1 : Nat)) (1 : Nat) ∧ Bd
  (IntKind.wrap IntKind.i64 (x571 + (1 : Int))) fun x595 => J568 [Value.int IntKind.i64 x585, Value.int IntKind.i64 x595] [] (setCells (World.drew w584) (adAt a542 x594
  (1 : Nat)) (0 : Nat) [Value.int IntKind.i64 x586])) fun J596 => Bd (decide (x581 ≥ (0 : Int))) fun b597 => If b597 (Jn (fun l598 l599 w600 => opI IntKind.i64 (nthD l598
  (0 : Nat)) fun x601 => Bd (IntKind.wrap IntKind.i64 (x570 + (1 : Int))) fun x602 => IxOk x601 n25 a24 ∧ Ld w600 (adAt a24 x601 (1 : Nat)) fun v603 => opI IntKind.i64
  v603 fun x604 => J596 [Value.int IntKind.i64 x602, Value.int IntKind.i64 x604] [] w600) fun J605 => Bd ((p2n : Nat) : Int) fun x606 => Bd (decide (x606 > (0 : Int)))
  fun b607 => Bd ((p2n : Nat) : Int) fun x608 => (b607 = true → x608 ≠ (0 : Int)) ∧ Bd (Int.tmod x570 x608) fun x610 => (b607 = true → IxOk x610 p2n p2a) ∧ Gd b607 (0 :
  Int) (fun J612 => Ld (World.drew w569) (adAt p2a x610 (1 : Nat)) fun v613 => opI IntKind.u8 v613 fun x614 => J612 x614 (World.drew w569)) (fun x615 w616 => Bd (Int.tmod
  x615 (2 : Int)) fun x617 => Bd (x617 == (1 : Int)) fun b618 => Bd (bif b607 then b618 else false) fun b619 => If b619 (Bd (IntKind.wrap IntKind.i64 (x581 + x2)) fun
  x620 => J605 [Value.int IntKind.i64 x620] [] w616) (J605 [Value.int IntKind.i64 x581] [] w616)) (World.drew w569)) (J596 [Value.int IntKind.i64 x570, Value.int
  IntKind.i64 x581] [] (World.drew w569))) (Bd (IntKind.wrap IntKind.i64 (x552 + (1 : Int))) fun x621 => J549 [Value.int IntKind.i64 x570, Value.int IntKind.i64 x621] []
  w569)) [Value.int IntKind.i64 x551, Value.int IntKind.i64 (0 : Int)] [] (setCells (World.drew w550) (adAt a387 x560 (1 : Nat)) (0 : Nat) [Value.int IntKind.i64 x565]))
  (CallW Try.prog [n538, n1] (92 : Nat) #[Value.agg #[Value.int IntKind.i64 p0_0, Value.slice p0_1a p0_1n p0_1c, Value.slice p0_2a p0_2n p0_2c]] (fun v622 w623 => opTu
  v622 fun cs624 => opAg (nthD (Array.toList cs624) (0 : Nat)) fun cs625 => opI IntKind.i64 (nthD (Array.toList cs625) (0 : Nat)) fun x626 => opL (nthD (Array.toList
  cs625) (1 : Nat)) fun a627 n628 n629 => opL (nthD (Array.toList cs625) (2 : Nat)) fun a630 n631 n632 => SzIs (Array.size cs625) (3 : Nat) (opI IntKind.i64 (nthD
  (Array.toList cs624) (1 : Nat)) fun x633 => SzIs (Array.size cs624) (2 : Nat) (Rg w623 fun n634 => Up [n634] [n634, n538, n1] w623 fun w635 => CallW Try.prog [n634,
  n538, n1] (92 : Nat) #[Value.agg #[Value.int IntKind.i64 p0_0, Value.slice a542 n543 n544, Value.slice a387 n388 n389]] (fun v636 w637 => opTu v636 fun cs638 => opAg
  (nthD (Array.toList cs638) (0 : Nat)) fun cs639 => opI IntKind.i64 (nthD (Array.toList cs639) (0 : Nat)) fun x640 => opL (nthD (Array.toList cs639) (1 : Nat)) fun a641
  n642 n643 => opL (nthD (Array.toList cs639) (2 : Nat)) fun a644 n645 n646 => SzIs (Array.size cs639) (3 : Nat) (opI IntKind.i64 (nthD (Array.toList cs638) (1 : Nat))
  fun x647 => SzIs (Array.size cs638) (2 : Nat) (Rg w637 fun n648 => Up [n648] [n648, n634, n538, n1] w637 fun w649 => Dr (World.drew w649) fun J650 => IxOk (0 : Int) n25
  a24 ∧ ∃ v651, (∀ (w652 : World), J650 w652 → Ld w652 (adAt a24 (0 : Int) (1 : Nat)) fun v654 => v654 = v651) ∧ opI IntKind.i64 v651 fun x655 => IxOk x2 n25 a24 ∧ ∃
  v656, (∀ (w657 : World), J650 w657 → Ld w657 (adAt a24 x2 (1 : Nat)) fun v659 => v659 = v656) ∧ opI IntKind.i64 v656 fun x660 => CallW Try.prog [n648, n634, n538, n1]
  (94 : Nat) #[Value.agg #[Value.int IntKind.i64 p0_0, Value.slice a542 n543 n544, Value.slice a387 n388 n389], Value.int IntKind.i64 x655, Value.int IntKind.i64 x660]
  (fun v661 w662 => opTu v661 fun cs663 => opB (nthD (Array.toList cs663) (0 : Nat)) fun b664 => opI IntKind.i64 (nthD (Array.toList cs663) (1 : Nat)) fun x665 => SzIs
  (Array.size cs663) (2 : Nat) (J650 w662 ∧ Bd (x633 == (0 : Int)) fun b666 => Bd (x647 == (0 : Int)) fun b667 => Bd (bif b666 then b667 else false) fun b668 => Bd (x665
  == (0 : Int)) fun b669 => Bd (bif b668 then b669 else false) fun b670 => Bd (bif b670 then b664 else false) fun b671 => Gd b671 false (fun J672 => CallW Try.prog [n648,
  n634, n538, n1] (96 : Nat) #[Value.agg #[Value.int IntKind.i64 x626, Value.slice a627 n628 n629, Value.slice a630 n631 n632], Value.agg #[Value.int IntKind.i64 x640,
  Value.slice a641 n642 n643, Value.slice a644 n645 n646]] (fun v673 w674 => opB v673 fun b675 => J672 b675 w674) w662) (fun b676 w677 => Bd (bif b671 then b676 else
  false) fun b678 => Gd b678 false (fun J679 => CallW Try.prog [n648, n634, n538, n1] (91 : Nat) #[] (fun v680 w681 => opB v680 fun b682 => J679 b682 w681) w677) (fun
  b683 w684 => Bd (bif b678 then b683 else false) fun b685 => R (Value.bool b685) w684) w677) w662)) (World.drew w649)))) w635))) w550)) [Value.int IntKind.i64 (0 : Int),
  Value.int IntKind.i64 (0 : Int)] [] w545) w539) (World.drew w39) ∧ Rg (World.drew w39) fun n686 => Up [] [n686, n1] (World.drew w39) fun w687 => RunW Try.prog [n686,
  n1] (Instr.makeSlice (52 : Nat) (Value.int IntKind.i64 x82) (Value.int IntKind.i64 x82)) (fun v688 w689 => opL v688 fun a690 n691 n692 => RunW Try.prog [n686, n1]
  (Instr.makeSlice (52 : Nat) (Value.int IntKind.i64 x83) (Value.int IntKind.i64 x83)) (fun v693 w694 => opL v693 fun a695 n696 n697 => Up [n686] [n686, n1] w694 fun w698
  => Bd (IntKind.wrap IntKind.i64 ((2 : Int) * x2)) fun x699 => LoopP (fun l700 l701 J702 w703 => opI IntKind.i64 (nthD l700 (0 : Nat)) fun x704 => opI IntKind.i64 (nthD
  l700 (1 : Nat)) fun x705 => Bd (decide (x705 < x699)) fun b706 => If b706 (Dr (World.drew w703) fun J707 => IxOk x705 n25 a24 ∧ x2 ≠ (0 : Int) ∧ Bd (Int.tmod x705 x2)
  fun x708 => ∃ v709, (∀ (w710 : World), J707 w710 → Ld w710 (adAt a24 x705 (1 : Nat)) fun v712 => v712 = v709) ∧ opI IntKind.i64 v709 fun x713 => IxOk x708 p0_2n p0_2a ∧
  ∃ v714, (∀ (w715 : World), J707 w715 → Ld w715 (adAt p0_2a x708 (1 : Nat)) fun v717 => v717 = v714) ∧ opI IntKind.i64 v714 fun x718 => IxOk x713 n696 a695 ∧ ¬Addr.block
  (adAt a695 x713 (1 : Nat)) ∈ [n686, n1] ∧ Wr (World.drew w703) (adAt a695 x713 (1 : Nat)) (1 : Nat) ∧ LoopP (fun l719 l720 J721 w722 => opI IntKind.i64 (nthD l719 (0 :
  Nat)) fun x723 => opI IntKind.i64 (nthD l719 (1 : Nat)) fun x724 => Bd (decide (x724 < p0_0)) fun b725 => If b725 (Dr (World.drew w722) fun J726 => x2 ≠ (0 : Int) ∧ Bd
  (Int.tmod x705 x2) fun x727 => Bd (IntKind.wrap IntKind.i64 (x727 * p0_0)) fun x728 => Bd (IntKind.wrap IntKind.i64 (x728 + x724)) fun x729 => IxOk x729 p0_1n p0_1a ∧ ∃
  v730, (∀ (w731 : World), J726 w731 → Ld w731 (adAt p0_1a x729 (1 : Nat)) fun v733 => v733 = v730) ∧ opI IntKind.i64 v730 fun x734 => Jn (fun l735 l736 w737 => opI
  IntKind.i64 (nthD l735 (0 : Nat)) fun x738 => opI IntKind.i64 (nthD l735 (1 : Nat)) fun x739 => Dr (World.drew w737) fun J740 => IxOk x705 n25 a24 ∧ ∃ v741, (∀ (w742 :
  World), J740 w742 → Ld w742 (adAt a24 x705 (1 : Nat)) fun v744 => v744 = v741) ∧ opI IntKind.i64 v741 fun x745 => Bd (IntKind.wrap IntKind.i64 (x745 * p0_0)) fun x746
  => Bd (IntKind.wrap IntKind.i64 (x746 + x724)) fun x747 => IxOk x747 n691 a690 ∧ ¬Addr.block (adAt a690 x747 (1 : Nat)) ∈ [n686, n1] ∧ Wr (World.drew w737) (adAt a690
  x747 (1 : Nat)) (1 : Nat) ∧ Bd (IntKind.wrap IntKind.i64 (x724 + (1 : Int))) fun x748 => J721 [Value.int IntKind.i64 x738, Value.int IntKind.i64 x748] [] (setCells
  (World.drew w737) (adAt a690 x747 (1 : Nat)) (0 : Nat) [Value.int IntKind.i64 x739])) fun J749 => Bd (decide (x734 ≥ (0 : Int))) fun b750 => If b750 (Jn (fun l751 l752
  w753 => opI IntKind.i64 (nthD l751 (0 : Nat)) fun x754 => Bd (IntKind.wrap IntKind.i64 (x723 + (1 : Int))) fun x755 => IxOk x754 n25 a24 ∧ Ld w753 (adAt a24 x754 (1 :
  Nat)) fun v756 => opI IntKind.i64 v756 fun x757 => J749 [Value.int IntKind.i64 x755, Value.int IntKind.i64 x757] [] w753) fun J758 => Bd ((p2n : Nat) : Int) fun x759 =>
  Bd (decide (x759 > (0 : Int))) fun b760 => Bd ((p2n : Nat) : Int) fun x761 => (b760 = true → x761 ≠ (0 : Int)) ∧ Bd (Int.tmod x723 x761) fun x763 => (b760 = true → IxOk
  x763 p2n p2a) ∧ Gd b760 (0 : Int) (fun J765 => Ld (World.drew w722) (adAt p2a x763 (1 : Nat)) fun v766 => opI IntKind.u8 v766 fun x767 => J765 x767 (World.drew w722))
  (fun x768 w769 => Bd (Int.tmod x768 (2 : Int)) fun x770 => Bd (x770 == (1 : Int)) fun b771 => Bd (bif b760 then b771 else false) fun b772 => If b772 (Bd (IntKind.wrap
  IntKind.i64 (x734 + x2)) fun x773 => J758 [Value.int IntKind.i64 x773] [] w769) (J758 [Value.int IntKind.i64 x734] [] w769)) (World.drew w722)) (J749 [Value.int
  IntKind.i64 x723, Value.int IntKind.i64 x734] [] (World.drew w722))) (Bd (IntKind.wrap IntKind.i64 (x705 + (1 : Int))) fun x774 => J702 [Value.int IntKind.i64 x723,
  Value.int IntKind.i64 x774] [] w722)) [Value.int IntKind.i64 x704, Value.int IntKind.i64 (0 : Int)] [] (setCells (World.drew w703) (adAt a695 x713 (1 : Nat)) (0 : Nat)
  [Value.int IntKind.i64 x718])) (CallW Try.prog [n686, n1] (92 : Nat) #[Value.agg #[Value.int IntKind.i64 p0_0, Value.slice p0_1a p0_1n p0_1c, Value.slice p0_2a p0_2n
  p0_2c]] (fun v775 w776 => opTu v775 fun cs777 => opAg (nthD (Array.toList cs777) (0 : Nat)) fun cs778 => opI IntKind.i64 (nthD (Array.toList cs778) (0 : Nat)) fun x779
  => opL (nthD (Array.toList cs778) (1 : Nat)) fun a780 n781 n782 => opL (nthD (Array.toList cs778) (2 : Nat)) fun a783 n784 n785 => SzIs (Array.size cs778) (3 : Nat)
  (opI IntKind.i64 (nthD (Array.toList cs777) (1 : Nat)) fun x786 => SzIs (Array.size cs777) (2 : Nat) (Rg w776 fun n787 => Up [n787] [n787, n686, n1] w776 fun w788 =>
  CallW Try.prog [n787, n686, n1] (92 : Nat) #[Value.agg #[Value.int IntKind.i64 p0_0, Value.slice a690 n691 n692, Value.slice a695 n696 n697]] (fun v789 w790 => opTu
  v789 fun cs791 => opAg (nthD (Array.toList cs791) (0 : Nat)) fun cs792 => opI IntKind.i64 (nthD (Array.toList cs792) (0 : Nat)) fun x793 => opL (nthD (Array.toList
  cs792) (1 : Nat)) fun a794 n795 n796 => opL (nthD (Array.toList cs792) (2 : Nat)) fun a797 n798 n799 => SzIs (Array.size cs792) (3 : Nat) (opI IntKind.i64 (nthD
  (Array.toList cs791) (1 : Nat)) fun x800 => SzIs (Array.size cs791) (2 : Nat) (Rg w790 fun n801 => Up [n801] [n801, n787, n686, n1] w790 fun w802 => Dr (World.drew
  w802) fun J803 => IxOk (0 : Int) n25 a24 ∧ ∃ v804, (∀ (w805 : World), J803 w805 → Ld w805 (adAt a24 (0 : Int) (1 : Nat)) fun v807 => v807 = v804) ∧ opI IntKind.i64 v804
  fun x808 => IxOk x2 n25 a24 ∧ ∃ v809, (∀ (w810 : World), J803 w810 → Ld w810 (adAt a24 x2 (1 : Nat)) fun v812 => v812 = v809) ∧ opI IntKind.i64 v809 fun x813 => CallW
  Try.prog [n801, n787, n686, n1] (94 : Nat) #[Value.agg #[Value.int IntKind.i64 p0_0, Value.slice a690 n691 n692, Value.slice a695 n696 n697], Value.int IntKind.i64
  x808, Value.int IntKind.i64 x813] (fun v814 w815 => opTu v814 fun cs816 => opB (nthD (Array.toList cs816) (0 : Nat)) fun b817 => opI IntKind.i64 (nthD (Array.toList
  cs816) (1 : Nat)) fun x818 => SzIs (Array.size cs816) (2 : Nat) (J803 w815 ∧ Bd (x786 == (0 : Int)) fun b819 => Bd (x800 == (0 : Int)) fun b820 => Bd (bif b819 then
  b820 else false) fun b821 => Bd (x818 == (0 : Int)) fun b822 => Bd (bif b821 then b822 else false) fun b823 => Bd (bif b823 then b817 else false) fun b824 => Gd b824
  false (fun J825 => CallW Try.prog [n801, n787, n686, n1] (96 : Nat) #[Value.agg #[Value.int IntKind.i64 x779, Value.slice a780 n781 n782, Value.slice a783 n784 n785],
  Value.agg #[Value.int IntKind.i64 x793, Value.slice a794 n795 n796, Value.slice a797 n798 n799]] (fun v826 w827 => opB v826 fun b828 => J825 b828 w827) w815) (fun b829
  w830 => Bd (bif b824 then b829 else false) fun b831 => Gd b831 false (fun J832 => CallW Try.prog [n801, n787, n686, n1] (91 : Nat) #[] (fun v833 w834 => opB v833 fun
  b835 => J832 b835 w834) w830) (fun b836 w837 => Bd (bif b831 then b836 else false) fun b838 => R (Value.bool b838) w837) w830) w815)) (World.drew w802)))) w788)))
  w703)) [Value.int IntKind.i64 (0 : Int), Value.int IntKind.i64 (0 : Int)] [] w698) w689) w687 ∧ RunW Try.prog [n686, n1] (Instr.makeSlice (52 : Nat) (Value.int
  IntKind.i64 x83) (Value.int IntKind.i64 x83)) (fun v839 w840 => opL v839 fun a841 n842 n843 => RunW Try.prog [n686, n1] (Instr.makeSlice (52 : Nat) (Value.int
  IntKind.i64 x82) (Value.int IntKind.i64 x82)) (fun v844 w845 => opL v844 fun a846 n847 n848 => Up [n686] [n686, n1] w845 fun w849 => Bd (IntKind.wrap IntKind.i64 ((2 :
  Int) * x2)) fun x850 => LoopP (fun l851 l852 J853 w854 => opI IntKind.i64 (nthD l851 (0 : Nat)) fun x855 => opI IntKind.i64 (nthD l851 (1 : Nat)) fun x856 => Bd (decide
  (x856 < x850)) fun b857 => If b857 (Dr (World.drew w854) fun J858 => IxOk x856 n25 a24 ∧ x2 ≠ (0 : Int) ∧ Bd (Int.tmod x856 x2) fun x859 => ∃ v860, (∀ (w861 : World),
  J858 w861 → Ld w861 (adAt a24 x856 (1 : Nat)) fun v863 => v863 = v860) ∧ opI IntKind.i64 v860 fun x864 => IxOk x859 p0_2n p0_2a ∧ ∃ v865, (∀ (w866 : World), J858 w866 →
  Ld w866 (adAt p0_2a x859 (1 : Nat)) fun v868 => v868 = v865) ∧ opI IntKind.i64 v865 fun x869 => IxOk x864 n842 a841 ∧ ¬Addr.block (adAt a841 x864 (1 : Nat)) ∈ [n686,
  n1] ∧ Wr (World.drew w854) (adAt a841 x864 (1 : Nat)) (1 : Nat) ∧ LoopP (fun l870 l871 J872 w873 => opI IntKind.i64 (nthD l870 (0 : Nat)) fun x874 => opI IntKind.i64
  (nthD l870 (1 : Nat)) fun x875 => Bd (decide (x875 < p0_0)) fun b876 => If b876 (Dr (World.drew w873) fun J877 => x2 ≠ (0 : Int) ∧ Bd (Int.tmod x856 x2) fun x878 => Bd
  (IntKind.wrap IntKind.i64 (x878 * p0_0)) fun x879 => Bd (IntKind.wrap IntKind.i64 (x879 + x875)) fun x880 => IxOk x880 p0_1n p0_1a ∧ ∃ v881, (∀ (w882 : World), J877
  w882 → Ld w882 (adAt p0_1a x880 (1 : Nat)) fun v884 => v884 = v881) ∧ opI IntKind.i64 v881 fun x885 => Jn (fun l886 l887 w888 => opI IntKind.i64 (nthD l886 (0 : Nat))
  fun x889 => opI IntKind.i64 (nthD l886 (1 : Nat)) fun x890 => Dr (World.drew w888) fun J891 => IxOk x856 n25 a24 ∧ ∃ v892, (∀ (w893 : World), J891 w893 → Ld w893 (adAt
  a24 x856 (1 : Nat)) fun v895 => v895 = v892) ∧ opI IntKind.i64 v892 fun x896 => Bd (IntKind.wrap IntKind.i64 (x896 * p0_0)) fun x897 => Bd (IntKind.wrap IntKind.i64
  (x897 + x875)) fun x898 => IxOk x898 n847 a846 ∧ ¬Addr.block (adAt a846 x898 (1 : Nat)) ∈ [n686, n1] ∧ Wr (World.drew w888) (adAt a846 x898 (1 : Nat)) (1 : Nat) ∧ Bd
  (IntKind.wrap IntKind.i64 (x875 + (1 : Int))) fun x899 => J872 [Value.int IntKind.i64 x889, Value.int IntKind.i64 x899] [] (setCells (World.drew w888) (adAt a846 x898
  (1 : Nat)) (0 : Nat) [Value.int IntKind.i64 x890])) fun J900 => Bd (decide (x885 ≥ (0 : Int))) fun b901 => If b901 (Jn (fun l902 l903 w904 => opI IntKind.i64 (nthD l902
  (0 : Nat)) fun x905 => Bd (IntKind.wrap IntKind.i64 (x874 + (1 : Int))) fun x906 => IxOk x905 n25 a24 ∧ Ld w904 (adAt a24 x905 (1 : Nat)) fun v907 => opI IntKind.i64
  v907 fun x908 => J900 [Value.int IntKind.i64 x906, Value.int IntKind.i64 x908] [] w904) fun J909 => Bd ((p2n : Nat) : Int) fun x910 => Bd (decide (x910 > (0 : Int)))
  fun b911 => Bd ((p2n : Nat) : Int) fun x912 => (b911 = true → x912 ≠ (0 : Int)) ∧ Bd (Int.tmod x874 x912) fun x914 => (b911 = true → IxOk x914 p2n p2a) ∧ Gd b911 (0 :
  Int) (fun J916 => Ld (World.drew w873) (adAt p2a x914 (1 : Nat)) fun v917 => opI IntKind.u8 v917 fun x918 => J916 x918 (World.drew w873)) (fun x919 w920 => Bd (Int.tmod
  x919 (2 : Int)) fun x921 => Bd (x921 == (1 : Int)) fun b922 => Bd (bif b911 then b922 else false) fun b923 => If b923 (Bd (IntKind.wrap IntKind.i64 (x885 + x2)) fun
  x924 => J909 [Value.int IntKind.i64 x924] [] w920) (J909 [Value.int IntKind.i64 x885] [] w920)) (World.drew w873)) (J900 [Value.int IntKind.i64 x874, Value.int
  IntKind.i64 x885] [] (World.drew w873))) (Bd (IntKind.wrap IntKind.i64 (x856 + (1 : Int))) fun x925 => J853 [Value.int IntKind.i64 x874, Value.int IntKind.i64 x925] []
  w873)) [Value.int IntKind.i64 x855, Value.int IntKind.i64 (0 : Int)] [] (setCells (World.drew w854) (adAt a841 x864 (1 : Nat)) (0 : Nat) [Value.int IntKind.i64 x869]))
  (CallW Try.prog [n686, n1] (92 : Nat) #[Value.agg #[Value.int IntKind.i64 p0_0, Value.slice p0_1a p0_1n p0_1c, Value.slice p0_2a p0_2n p0_2c]] (fun v926 w927 => opTu
  v926 fun cs928 => opAg (nthD (Array.toList cs928) (0 : Nat)) fun cs929 => opI IntKind.i64 (nthD (Array.toList cs929) (0 : Nat)) fun x930 => opL (nthD (Array.toList
  cs929) (1 : Nat)) fun a931 n932 n933 => opL (nthD (Array.toList cs929) (2 : Nat)) fun a934 n935 n936 => SzIs (Array.size cs929) (3 : Nat) (opI IntKind.i64 (nthD
  (Array.toList cs928) (1 : Nat)) fun x937 => SzIs (Array.size cs928) (2 : Nat) (Rg w927 fun n938 => Up [n938] [n938, n686, n1] w927 fun w939 => CallW Try.prog [n938,
  n686, n1] (92 : Nat) #[Value.agg #[Value.int IntKind.i64 p0_0, Value.slice a846 n847 n848, Value.slice a841 n842 n843]] (fun v940 w941 => opTu v940 fun cs942 => opAg
  (nthD (Array.toList cs942) (0 : Nat)) fun cs943 => opI IntKind.i64 (nthD (Array.toList cs943) (0 : Nat)) fun x944 => opL (nthD (Array.toList cs943) (1 : Nat)) fun a945
  n946 n947 => opL (nthD (Array.toList cs943) (2 : Nat)) fun a948 n949 n950 => SzIs (Array.size cs943) (3 : Nat) (opI IntKind.i64 (nthD (Array.toList cs942) (1 : Nat))
  fun x951 => SzIs (Array.size cs942) (2 : Nat) (Rg w941 fun n952 => Up [n952] [n952, n938, n686, n1] w941 fun w953 => Dr (World.drew w953) fun J954 => IxOk (0 : Int) n25
  a24 ∧ ∃ v955, (∀ (w956 : World), J954 w956 → Ld w956 (adAt a24 (0 : Int) (1 : Nat)) fun v958 => v958 = v955) ∧ opI IntKind.i64 v955 fun x959 => IxOk x2 n25 a24 ∧ ∃
  v960, (∀ (w961 : World), J954 w961 → Ld w961 (adAt a24 x2 (1 : Nat)) fun v963 => v963 = v960) ∧ opI IntKind.i64 v960 fun x964 => CallW Try.prog [n952, n938, n686, n1]
  (94 : Nat) #[Value.agg #[Value.int IntKind.i64 p0_0, Value.slice a846 n847 n848, Value.slice a841 n842 n843], Value.int IntKind.i64 x959, Value.int IntKind.i64 x964]
  (fun v965 w966 => opTu v965 fun cs967 => opB (nthD (Array.toList cs967) (0 : Nat)) fun b968 => opI IntKind.i64 (nthD (Array.toList cs967) (1 : Nat)) fun x969 => SzIs
  (Array.size cs967) (2 : Nat) (J954 w966 ∧ Bd (x937 == (0 : Int)) fun b970 => Bd (x951 == (0 : Int)) fun b971 => Bd (bif b970 then b971 else false) fun b972 => Bd (x969
  == (0 : Int)) fun b973 => Bd (bif b972 then b973 else false) fun b974 => Bd (bif b974 then b968 else false) fun b975 => Gd b975 false (fun J976 => CallW Try.prog [n952,
  n938, n686, n1] (96 : Nat) #[Value.agg #[Value.int IntKind.i64 x930, Value.slice a931 n932 n933, Value.slice a934 n935 n936], Value.agg #[Value.int IntKind.i64 x944,
  Value.slice a945 n946 n947, Value.slice a948 n949 n950]] (fun v977 w978 => opB v977 fun b979 => J976 b979 w978) w966) (fun b980 w981 => Bd (bif b975 then b980 else
  false) fun b982 => Gd b982 false (fun J983 => CallW Try.prog [n952, n938, n686, n1] (91 : Nat) #[] (fun v984 w985 => opB v984 fun b986 => J983 b986 w985) w981) (fun
  b987 w988 => Bd (bif b982 then b987 else false) fun b989 => R (Value.bool b989) w988) w981) w966)) (World.drew w953)))) w939))) w854)) [Value.int IntKind.i64 (0 : Int),
  Value.int IntKind.i64 (0 : Int)] [] w849) w840) w687)) [Value.int IntKind.i64 (0 : Int)] [] w31)) [Value.int IntKind.i64 (0 : Int)] [] w23) w15)) w5) w3
theorem f21_eq (p0_0 : Int) (p0_1a : Option Addr) (p0_1n : Nat) (p0_1c : Nat) (p0_2a : Option Addr) (p0_2n : Nat) (p0_2c : Nat) (p1a : Option Addr) (p1n : Nat) (p1c :
  Nat) (p2a : Option Addr) (p2n : Nat) (p2c : Nat) (R : Value → World → Prop) (w : World) : fnW Try.prog [3, 14, 19, 21, 100013, 500015, 400017, 500022, 100026, 500032,
  100037] Try.f21 [Value.agg #[Value.int IntKind.i64 p0_0, Value.slice p0_1a p0_1n p0_1c, Value.slice p0_2a p0_2n p0_2c], Value.slice p1a p1n p1c, Value.slice p2a p2n
  p2c] R w = f21_vc p0_0 p0_1a p0_1n p0_1c p0_2a p0_2n p0_2c p1a p1n p1c p2a p2n p2c R w := by kernel_rfl
theorem f21_in (p0_0 : Int) (p0_1a : Option Addr) (p0_1n : Nat) (p0_1c : Nat) (p0_2a : Option Addr) (p0_2n : Nat) (p0_2c : Nat) (p1a : Option Addr) (p1n : Nat) (p1c :
  Nat) (p2a : Option Addr) (p2n : Nat) (p2c : Nat) (R : Value → World → Prop) (w : World) (h : f21_vc p0_0 p0_1a p0_1n p0_1c p0_2a p0_2n p0_2c p1a p1n p1c p2a p2n p2c R
  w) : Ct Try.prog 21 #[Value.agg #[Value.int IntKind.i64 p0_0, Value.slice p0_1a p0_1n p0_1c, Value.slice p0_2a p0_2n p0_2c], Value.slice p1a p1n p1c, Value.slice p2a
  p2n p2c] w R := by
  refine Ct_of (rk := [3, 14, 19, 21, 100013, 500015, 400017, 500022, 100026, 500032, 100037]) (fn := Try.f21) (args := [Value.agg #[Value.int IntKind.i64 p0_0, Value.slice p0_1a p0_1n p0_1c, Value.slice p0_2a p0_2n p0_2c], Value.slice p1a p1n p1c, Value.slice p2a p2n p2c]) mixedT Try.func21 (by kernel_rfl) ?_
  rw [f21_eq]
  exact h
end Fk
