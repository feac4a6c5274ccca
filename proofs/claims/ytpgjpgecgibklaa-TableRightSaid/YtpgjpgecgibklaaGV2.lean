/- Conditions of functions, as the generator works them out; each one is checked by the kernel. -/
import Derived.Test.YtpgjpgecgibklaaGK2
set_option linter.unusedVariables false
set_option maxRecDepth 1000000
set_option maxHeartbeats 4000000
namespace Fk
open Go Go.Proofs Go.RowKit
def f15_vc (p0a : Option Addr) (p0n : Nat) (p0c : Nat) (p1 : ByteArray) (p2 : Int) (R : Value → World → Prop) (w : World) : Prop := Bd ((p0n : Nat) : Int) fun x1 => Bd
  (x1 == (0 : Int)) fun b2 => Bd ((p0n : Nat) : Int) fun x3 => Bd (decide (x3 > (6 : Int))) fun b4 => Bd (bif b2 then true else b4) fun b5 => Bd (((ByteArray.size p1) :
  Nat) : Int) fun x6 => Bd (decide (x6 > (70 : Int))) fun b7 => Bd (bif b5 then true else b7) fun b8 => If b8 (CallW Try.prog [] (54 : Nat) #[] (fun v9 w10 => opB v9 fun
  b11 => R (Value.bool b11) w10) w) (Bd ((p0n : Nat) : Int) fun x12 => LoopP (fun l13 l14 J15 w16 => opB (nthD l13 (0 : Nat)) fun b17 => opI IntKind.i64 (nthD l13 (1 :
  Nat)) fun x18 => Bd (decide (x18 < x12)) fun b19 => If b19 (IxOk x18 p0n p0a ∧ Ld w16 (Addr.add (adAt p0a x18 (6 : Nat)) (0 : Nat)) fun v20 => Ld w16 (Addr.add (adAt
  p0a x18 (6 : Nat)) (1 : Nat)) fun v21 => Ld w16 (Addr.add (adAt p0a x18 (6 : Nat)) (2 : Nat)) fun v22 => Ld w16 (Addr.add (adAt p0a x18 (6 : Nat)) (3 : Nat)) fun v23 =>
  Ld w16 (Addr.add (adAt p0a x18 (6 : Nat)) (4 : Nat)) fun v24 => Ld w16 (Addr.add (adAt p0a x18 (6 : Nat)) (5 : Nat)) fun v25 => opI IntKind.u8 v20 fun x26 => opI
  IntKind.u64 v21 fun x27 => opI IntKind.u64 v22 fun x28 => opI IntKind.u64 v23 fun x29 => opI IntKind.u64 v24 fun x30 => opL v25 fun a31 n32 n33 => Rg w16 fun n34 => Up
  [n34] [n34] w16 fun w35 => CallW Try.prog [n34] (84 : Nat) #[Value.agg #[Value.int IntKind.u8 x26, Value.int IntKind.u64 x27, Value.int IntKind.u64 x28, Value.int
  IntKind.u64 x29, Value.int IntKind.u64 x30, Value.slice a31 n32 n33], Value.int IntKind.i64 (200 : Int)] (fun v36 w37 => opI IntKind.i64 v36 fun x38 => Bd (decide (x38
  > (200 : Int))) fun b39 => If b39 (CallW Try.prog [n34] (54 : Nat) #[] (fun v40 w41 => opB v40 fun b42 => R (Value.bool b42) w41) w37) (Bd (IntKind.wrap IntKind.i64
  (x18 + (1 : Int))) fun x43 => J15 [Value.bool b17, Value.int IntKind.i64 x43] [] w37)) w35) (CallW Try.prog [] (85 : Nat) #[Value.slice p0a p0n p0c, Value.int
  IntKind.i64 (60 : Int)] (fun v44 w45 => opTu v44 fun cs46 => opAg (nthD (Array.toList cs46) (0 : Nat)) fun cs47 => opI IntKind.i64 (nthD (Array.toList cs47) (0 : Nat))
  fun x48 => opL (nthD (Array.toList cs47) (1 : Nat)) fun a49 n50 n51 => SzIs (Array.size cs47) (2 : Nat) (opBig (nthD (Array.toList cs46) (1 : Nat)) fun cs52 =>
  Array.size cs52 = (257 : Nat) ∧ opAg (nthD (Array.toList cs46) (2 : Nat)) fun cs53 => opI IntKind.i64 (nthD (Array.toList cs53) (0 : Nat)) fun x54 => opL (nthD
  (Array.toList cs53) (1 : Nat)) fun a55 n56 n57 => opL (nthD (Array.toList cs53) (2 : Nat)) fun a58 n59 n60 => SzIs (Array.size cs53) (3 : Nat) (opB (nthD (Array.toList
  cs46) (3 : Nat)) fun b61 => SzIs (Array.size cs46) (4 : Nat) (Array.size cs52 = (257 : Nat) ∧ Rg w45 fun n62 => Rg w45 fun n63 => Rg w45 fun n64 => OkC (Array.toList
  cs52) (257 : Nat) (Bd (!b61) fun b65 => If b65 (Up [n64, n63, n62] [n64, n63, n62] w45 fun w66 => CallW Try.prog [n64, n63, n62] (54 : Nat) #[] (fun v67 w68 => opB v67
  fun b69 => R (Value.bool b69) w68) w66) (Up [n64, n63, n62] [n64, n63, n62] w45 fun w70 => Array.size cs52 = (257 : Nat) ∧ Bd ((p0n : Nat) : Int) fun x71 => CallW
  Try.prog [n64, n63, n62] (86 : Nat) #[] (fun v72 w73 => opL v72 fun a74 n75 n76 => ∃ v77, (∀ (w78 : World), True → RunV Try.prog (Instr.sliceAt (55 : Nat) (Value.slice
  a74 n75 n76) none (some (Value.int IntKind.i64 x71)) none) v77 w78) ∧ opL v77 fun a80 n81 n82 => ∃ v83, (∀ (w84 : World), True → RunV Try.prog (Instr.build (57 : Nat)
  #[((0 : Nat), Value.agg cs52), ((1 : Nat), Value.agg #[Value.int IntKind.i64 x54, Value.slice a55 n56 n57, Value.slice a58 n59 n60]), ((2 : Nat), Value.slice a80 n81
  n82)]) v83 w84) ∧ opBig v83 fun cs86 => Array.size cs86 = (261 : Nat) ∧ Rg w73 fun n87 => Up [] [n87, n64, n63, n62] w73 fun w88 => OkC (Array.toList cs86) (261 : Nat)
  (Up [n87] [n87, n64, n63, n62] w88 fun w89 => Array.size cs86 = (261 : Nat) ∧ CallW Try.prog [n87, n64, n63, n62] (55 : Nat) #[Value.agg cs86] (fun v90 w91 => opB v90
  fun b92 => Bd (!b92) fun b93 => If b93 (R (Value.bool false) w91) (Array.size cs86 = (261 : Nat) ∧ Array.size cs86 = (261 : Nat) ∧ (Rg (World.drew w91) fun n94 => Up []
  [n94, n87, n64, n63, n62] (World.drew w91) fun w95 => Rg w95 fun n96 => Up [] [n96, n94, n87, n64, n63, n62] w95 fun w97 => OkC (Array.toList cs86) (261 : Nat) (Up
  [n94] [n96, n94, n87, n64, n63, n62] w97 fun w98 => OkC (Array.toList cs86) (261 : Nat) (Up [n96] [n96, n94, n87, n64, n63, n62] w98 fun w99 => Bd ((n59 : Nat) : Int)
  fun x100 => LoopP (fun l101 l102 J103 w104 => opI IntKind.i64 (nthD l101 (0 : Nat)) fun x105 => opI IntKind.i64 (nthD l101 (1 : Nat)) fun x106 => Bd (decide (x106 <
  x100)) fun b107 => If b107 (IxOk x106 n59 a58 ∧ Ld w104 (adAt a58 x106 (1 : Nat)) fun v108 => opI IntKind.i64 v108 fun x109 => Bd (if x109 > x105 then x109 else x105)
  fun x110 => Bd (IntKind.wrap IntKind.i64 (x106 + (1 : Int))) fun x111 => J103 [Value.int IntKind.i64 x110, Value.int IntKind.i64 x111] [] w104) (BdO (nthV (Array.toList
  cs86) (260 : Nat)) fun v112 => opL v112 fun a113 n114 n115 => Bd (if (0 : Int) > x105 then (0 : Int) else x105) fun x116 => RunW Try.prog [n96, n94, n87, n64, n63, n62]
  (Instr.sliceAt (55 : Nat) (Value.slice a113 n114 n115) none (some (Value.int IntKind.i64 x116)) none) (fun v117 w118 => opL v117 fun a119 n120 n121 => LeC (261 : Nat)
  (Array.size cs86) (Jn (fun l122 l123 w124 => opBig (nthD l123 (0 : Nat)) fun cs125 => Array.size cs86 = (261 : Nat) ∧ Rg w124 fun n126 => OkC (Array.toList cs86) (261 :
  Nat) (Up [n126] [n126, n96, n94, n87, n64, n63, n62] w124 fun w127 => Nw (Obj.cells #[] (9 : Nat)) w127 fun n128 w129 => BdO (nthV (Array.toList cs86) (260 : Nat)) fun
  v130 => opL v130 fun a131 n132 n133 => RunW Try.prog [n126, n96, n94, n87, n64, n63, n62] (Builtin.append_ #[(55 : Nat), (55 : Nat)] (55 : Nat) #[Value.slice (some
  (Addr.mk n128 (0 : Nat) none)) (0 : Nat) (0 : Nat), Value.slice a131 n132 n133]) (fun v134 w135 => opL v134 fun a136 n137 n138 => LeC (261 : Nat) (Array.size cs86) (Bd
  (IntKind.wrap IntKind.i64 p2) fun x139 => Bd ((p0n : Nat) : Int) fun x140 => x140 ≠ (0 : Int) ∧ Bd (Int.tmod x139 x140) fun x141 => BdO (nthV (wrL (Array.toList cs86)
  (260 : Nat) [Value.slice a136 n137 n138]) (260 : Nat)) fun v142 => opL v142 fun a143 n144 n145 => IxOk x141 n144 a143 ∧ Up [n126] [n126, n96, n94, n87, n64, n63, n62]
  w135 fun w146 => ¬Addr.block (adAt a143 x141 (1 : Nat)) ∈ [n126, n96, n94, n87, n64, n63, n62] ∧ Wr w146 (adAt a143 x141 (1 : Nat)) (1 : Nat) ∧ BdO (nthV (Array.toList
  cs86) (260 : Nat)) fun v147 => opL v147 fun a148 n149 n150 => Bd ((n149 : Nat) : Int) fun x151 => LoopP (fun l152 l153 J154 w155 => opB (nthD l152 (0 : Nat)) fun b156
  => opI IntKind.i64 (nthD l152 (1 : Nat)) fun x157 => Bd (decide (x157 < x151)) fun b158 => If b158 (IxOk x157 n149 a148 ∧ Ld w155 (adAt a148 x157 (1 : Nat)) fun v159 =>
  opStr v159 fun s160 => Bd (x157 != x141) fun b161 => Bd (ByteArray.toList s160 == ByteArray.toList p1) fun b162 => Bd (bif b161 then b162 else false) fun b163 => Bd
  (bif b156 then true else b163) fun b164 => Bd (IntKind.wrap IntKind.i64 (x157 + (1 : Int))) fun x165 => J154 [Value.bool b164, Value.int IntKind.i64 x165] [] w155) (BdO
  (nthV (wrL (Array.toList cs86) (260 : Nat) [Value.slice a119 n120 n121]) (260 : Nat)) fun v166 => opL v166 fun a167 n168 n169 => Bd ((n168 : Nat) : Int) fun x170 => Bd
  (decide (x170 > x105)) fun b171 => ∃ a172 n173 n174, (b171 = true → nthV (wrL (Array.toList cs86) (260 : Nat) [Value.slice a119 n120 n121]) (260 : Nat) = some
  (Value.slice a172 n173 n174)) ∧ Bd ((n173 : Nat) : Int) fun x176 => Bd (decide (x176 > (0 : Int))) fun b177 => Bd (bif b171 then b177 else false) fun b178 => ((!b178) =
  true → List.length (wrL (Array.toList cs86) (260 : Nat) [Value.slice a119 n120 n121]) = (261 : Nat)) ∧ Gd (!b178) false (fun J180 => CallW Try.prog [n126, n96, n94,
  n87, n64, n63, n62] (55 : Nat) #[Value.agg (List.toArray (wrL (Array.toList cs86) (260 : Nat) [Value.slice a119 n120 n121]))] (fun v181 w182 => opB v181 fun b183 =>
  J180 b183 w182) w155) (fun b184 w185 => Bd (!b184) fun b186 => Bd (bif b178 then true else b186) fun b187 => (b187 = true → isI IntKind.i64 (Array.toList cs52) (256 :
  Nat)) ∧ Bd (rdI (Array.toList cs52) (256 : Nat)) fun x189 => Bd (x189 == (256 : Int)) fun b190 => ((b187 && !b190) = true → Array.size cs125 = (261 : Nat)) ∧ Gd (b187
  && !b190) false (fun J192 => CallW Try.prog [n126, n96, n94, n87, n64, n63, n62] (55 : Nat) #[Value.agg cs125] (fun v193 w194 => opB v193 fun b195 => J192 b195 w194)
  w185) (fun b196 w197 => Bd (!b196) fun b198 => Bd (bif b190 then true else b198) fun b199 => Bd (bif b187 then b199 else false) fun b200 => (b200 = true → List.length
  (wrL (Array.toList cs86) (260 : Nat) [Value.slice a136 n137 n138]) = (261 : Nat)) ∧ Gd b200 false (fun J202 => CallW Try.prog [n126, n96, n94, n87, n64, n63, n62] (55 :
  Nat) #[Value.agg (List.toArray (wrL (Array.toList cs86) (260 : Nat) [Value.slice a136 n137 n138]))] (fun v203 w204 => opB v203 fun b205 => J202 b205 w204) w197) (fun
  b206 w207 => Gd b200 false (fun J208 => CallW Try.prog [n126, n96, n94, n87, n64, n63, n62] (87 : Nat) #[Value.string p1] (fun v209 w210 => opB v209 fun b211 => J208
  b211 w210) w207) (fun b212 w213 => Bd (!b156) fun b214 => Bd (bif b212 then b214 else false) fun b215 => Bd (b206 == b215) fun b216 => Bd (bif b200 then b216 else
  false) fun b217 => Gd b217 false (fun J218 => CallW Try.prog [n126, n96, n94, n87, n64, n63, n62] (54 : Nat) #[] (fun v219 w220 => opB v219 fun b221 => J218 b221 w220)
  w213) (fun b222 w223 => Bd (bif b217 then b222 else false) fun b224 => R (Value.bool b224) w223) w213) w207) w197) w185) w155)) [Value.bool false, Value.int IntKind.i64
  (0 : Int)] [] (setCells w146 (adAt a143 x141 (1 : Nat)) (0 : Nat) [Value.string p1]))) w129)) fun J225 => Up [n94] [n96, n94, n87, n64, n63, n62] w118 fun w226 => BdO
  (nthV (Array.toList cs52) (256 : Nat)) fun v227 => opI IntKind.i64 v227 fun x228 => Bd (IntKind.wrap IntKind.u8 x228) fun x229 => BdO (nthV (Array.toList cs52) (256 :
  Nat)) fun v230 => opI IntKind.i64 v230 fun x231 => Bd (IntKind.wrap IntKind.i64 (x231 + (1 : Int))) fun x232 => LeC (256 : Nat) (Array.size cs86) (Up [n96] [n96, n94,
  n87, n64, n63, n62] (World.drew w226) fun w233 => LeC (257 : Nat) (List.length (wrL (Array.toList cs86) (255 : Nat) [Value.int IntKind.u8 x229])) (Up [n96] [n96, n94,
  n87, n64, n63, n62] w233 fun w234 => J225 [] [Value.agg (List.toArray (wrL (wrL (Array.toList cs86) (255 : Nat) [Value.int IntKind.u8 x229]) (256 : Nat) [Value.int
  IntKind.i64 x232]))] w234)))) w104)) [Value.int IntKind.i64 (-1 : Int), Value.int IntKind.i64 (0 : Int)] [] w99))) ∧ Rg (World.drew w91) fun n235 => Up [] [n235, n87,
  n64, n63, n62] (World.drew w91) fun w236 => Rg w236 fun n237 => Up [] [n237, n235, n87, n64, n63, n62] w236 fun w238 => OkC (Array.toList cs86) (261 : Nat) (Up [n237]
  [n237, n235, n87, n64, n63, n62] w238 fun w239 => OkC (Array.toList cs86) (261 : Nat) (Up [n235] [n237, n235, n87, n64, n63, n62] w239 fun w240 => Bd ((n59 : Nat) :
  Int) fun x241 => LoopP (fun l242 l243 J244 w245 => opI IntKind.i64 (nthD l242 (0 : Nat)) fun x246 => opI IntKind.i64 (nthD l242 (1 : Nat)) fun x247 => Bd (decide (x247
  < x241)) fun b248 => If b248 (IxOk x247 n59 a58 ∧ Ld w245 (adAt a58 x247 (1 : Nat)) fun v249 => opI IntKind.i64 v249 fun x250 => Bd (if x250 > x246 then x250 else x246)
  fun x251 => Bd (IntKind.wrap IntKind.i64 (x247 + (1 : Int))) fun x252 => J244 [Value.int IntKind.i64 x251, Value.int IntKind.i64 x252] [] w245) (BdO (nthV (Array.toList
  cs86) (260 : Nat)) fun v253 => opL v253 fun a254 n255 n256 => Bd (if (0 : Int) > x246 then (0 : Int) else x246) fun x257 => RunW Try.prog [n237, n235, n87, n64, n63,
  n62] (Instr.sliceAt (55 : Nat) (Value.slice a254 n255 n256) none (some (Value.int IntKind.i64 x257)) none) (fun v258 w259 => opL v258 fun a260 n261 n262 => LeC (261 :
  Nat) (Array.size cs86) (Jn (fun l263 l264 w265 => opBig (nthD l264 (0 : Nat)) fun cs266 => Array.size cs86 = (261 : Nat) ∧ Rg w265 fun n267 => OkC (Array.toList cs86)
  (261 : Nat) (Up [n267] [n267, n237, n235, n87, n64, n63, n62] w265 fun w268 => Nw (Obj.cells #[] (9 : Nat)) w268 fun n269 w270 => BdO (nthV (Array.toList cs86) (260 :
  Nat)) fun v271 => opL v271 fun a272 n273 n274 => RunW Try.prog [n267, n237, n235, n87, n64, n63, n62] (Builtin.append_ #[(55 : Nat), (55 : Nat)] (55 : Nat)
  #[Value.slice (some (Addr.mk n269 (0 : Nat) none)) (0 : Nat) (0 : Nat), Value.slice a272 n273 n274]) (fun v275 w276 => opL v275 fun a277 n278 n279 => LeC (261 : Nat)
  (Array.size cs86) (Bd (IntKind.wrap IntKind.i64 p2) fun x280 => Bd ((p0n : Nat) : Int) fun x281 => x281 ≠ (0 : Int) ∧ Bd (Int.tmod x280 x281) fun x282 => BdO (nthV (wrL
  (Array.toList cs86) (260 : Nat) [Value.slice a277 n278 n279]) (260 : Nat)) fun v283 => opL v283 fun a284 n285 n286 => IxOk x282 n285 a284 ∧ Up [n267] [n267, n237, n235,
  n87, n64, n63, n62] w276 fun w287 => ¬Addr.block (adAt a284 x282 (1 : Nat)) ∈ [n267, n237, n235, n87, n64, n63, n62] ∧ Wr w287 (adAt a284 x282 (1 : Nat)) (1 : Nat) ∧
  BdO (nthV (Array.toList cs86) (260 : Nat)) fun v288 => opL v288 fun a289 n290 n291 => Bd ((n290 : Nat) : Int) fun x292 => LoopP (fun l293 l294 J295 w296 => opB (nthD
  l293 (0 : Nat)) fun b297 => opI IntKind.i64 (nthD l293 (1 : Nat)) fun x298 => Bd (decide (x298 < x292)) fun b299 => If b299 (IxOk x298 n290 a289 ∧ Ld w296 (adAt a289
  x298 (1 : Nat)) fun v300 => opStr v300 fun s301 => Bd (x298 != x282) fun b302 => Bd (ByteArray.toList s301 == ByteArray.toList p1) fun b303 => Bd (bif b302 then b303
  else false) fun b304 => Bd (bif b297 then true else b304) fun b305 => Bd (IntKind.wrap IntKind.i64 (x298 + (1 : Int))) fun x306 => J295 [Value.bool b305, Value.int
  IntKind.i64 x306] [] w296) (BdO (nthV (wrL (Array.toList cs86) (260 : Nat) [Value.slice a260 n261 n262]) (260 : Nat)) fun v307 => opL v307 fun a308 n309 n310 => Bd
  ((n309 : Nat) : Int) fun x311 => Bd (decide (x311 > x246)) fun b312 => ∃ a313 n314 n315, (b312 = true → nthV (wrL (Array.toList cs86) (260 : Nat) [Value.slice a260 n261
  n262]) (260 : Nat) = some (Value.slice a313 n314 n315)) ∧ Bd ((n314 : Nat) : Int) fun x317 => Bd (decide (x317 > (0 : Int))) fun b318 => Bd (bif b312 then b318 else
  false) fun b319 => ((!b319) = true → List.length (wrL (Array.toList cs86) (260 : Nat) [Value.slice a260 n261 n262]) = (261 : Nat)) ∧ Gd (!b319) false (fun J321 => CallW
  Try.prog [n267, n237, n235, n87, n64, n63, n62] (55 : Nat) #[Value.agg (List.toArray (wrL (Array.toList cs86) (260 : Nat) [Value.slice a260 n261 n262]))] (fun v322 w323
  => opB v322 fun b324 => J321 b324 w323) w296) (fun b325 w326 => Bd (!b325) fun b327 => Bd (bif b319 then true else b327) fun b328 => (b328 = true → isI IntKind.i64
  (Array.toList cs52) (256 : Nat)) ∧ Bd (rdI (Array.toList cs52) (256 : Nat)) fun x330 => Bd (x330 == (256 : Int)) fun b331 => ((b328 && !b331) = true → Array.size cs266
  = (261 : Nat)) ∧ Gd (b328 && !b331) false (fun J333 => CallW Try.prog [n267, n237, n235, n87, n64, n63, n62] (55 : Nat) #[Value.agg cs266] (fun v334 w335 => opB v334
  fun b336 => J333 b336 w335) w326) (fun b337 w338 => Bd (!b337) fun b339 => Bd (bif b331 then true else b339) fun b340 => Bd (bif b328 then b340 else false) fun b341 =>
  (b341 = true → List.length (wrL (Array.toList cs86) (260 : Nat) [Value.slice a277 n278 n279]) = (261 : Nat)) ∧ Gd b341 false (fun J343 => CallW Try.prog [n267, n237,
  n235, n87, n64, n63, n62] (55 : Nat) #[Value.agg (List.toArray (wrL (Array.toList cs86) (260 : Nat) [Value.slice a277 n278 n279]))] (fun v344 w345 => opB v344 fun b346
  => J343 b346 w345) w338) (fun b347 w348 => Gd b341 false (fun J349 => CallW Try.prog [n267, n237, n235, n87, n64, n63, n62] (87 : Nat) #[Value.string p1] (fun v350 w351
  => opB v350 fun b352 => J349 b352 w351) w348) (fun b353 w354 => Bd (!b297) fun b355 => Bd (bif b353 then b355 else false) fun b356 => Bd (b347 == b356) fun b357 => Bd
  (bif b341 then b357 else false) fun b358 => Gd b358 false (fun J359 => CallW Try.prog [n267, n237, n235, n87, n64, n63, n62] (54 : Nat) #[] (fun v360 w361 => opB v360
  fun b362 => J359 b362 w361) w354) (fun b363 w364 => Bd (bif b358 then b363 else false) fun b365 => R (Value.bool b365) w364) w354) w348) w338) w326) w296)) [Value.bool
  false, Value.int IntKind.i64 (0 : Int)] [] (setCells w287 (adAt a284 x282 (1 : Nat)) (0 : Nat) [Value.string p1]))) w270)) fun J366 => Up [n237] [n237, n235, n87, n64,
  n63, n62] w259 fun w367 => BdO (nthV (Array.toList cs52) (256 : Nat)) fun v368 => opI IntKind.i64 v368 fun x369 => Bd (IntKind.wrap IntKind.u8 x369) fun x370 => BdO
  (nthV (Array.toList cs52) (256 : Nat)) fun v371 => opI IntKind.i64 v371 fun x372 => Bd (IntKind.wrap IntKind.i64 (x372 + (1 : Int))) fun x373 => LeC (256 : Nat)
  (Array.size cs86) (Up [n235] [n237, n235, n87, n64, n63, n62] (World.drew w367) fun w374 => LeC (257 : Nat) (List.length (wrL (Array.toList cs86) (255 : Nat) [Value.int
  IntKind.u8 x370])) (Up [n235] [n237, n235, n87, n64, n63, n62] w374 fun w375 => J366 [] [Value.agg (List.toArray (wrL (wrL (Array.toList cs86) (255 : Nat) [Value.int
  IntKind.u8 x370]) (256 : Nat) [Value.int IntKind.i64 x373]))] w375)))) w245)) [Value.int IntKind.i64 (-1 : Int), Value.int IntKind.i64 (0 : Int)] [] w240)))) w89))
  (World.drew w70) ∧ Rg (World.drew w70) fun n376 => Up [] [n376, n64, n63, n62] (World.drew w70) fun w377 => CallW Try.prog [n376, n64, n63, n62] (86 : Nat) #[] (fun
  v378 w379 => opL v378 fun a380 n381 n382 => ∃ v383, (∀ (w384 : World), True → RunV Try.prog (Instr.sliceAt (55 : Nat) (Value.slice a380 n381 n382) none (some (Value.int
  IntKind.i64 x71)) none) v383 w384) ∧ opL v383 fun a386 n387 n388 => ∃ v389, (∀ (w390 : World), True → RunV Try.prog (Instr.build (57 : Nat) #[((0 : Nat), Value.agg
  cs52), ((1 : Nat), Value.agg #[Value.int IntKind.i64 x54, Value.slice a55 n56 n57, Value.slice a58 n59 n60]), ((2 : Nat), Value.slice a386 n387 n388)]) v389 w390) ∧
  opBig v389 fun cs392 => Array.size cs392 = (261 : Nat) ∧ OkC (Array.toList cs392) (261 : Nat) (Up [n376] [n376, n64, n63, n62] w379 fun w393 => Array.size cs392 = (261
  : Nat) ∧ CallW Try.prog [n376, n64, n63, n62] (55 : Nat) #[Value.agg cs392] (fun v394 w395 => opB v394 fun b396 => Bd (!b396) fun b397 => If b397 (R (Value.bool false)
  w395) (Array.size cs392 = (261 : Nat) ∧ Array.size cs392 = (261 : Nat) ∧ (Rg (World.drew w395) fun n398 => Up [] [n398, n376, n64, n63, n62] (World.drew w395) fun w399
  => Rg w399 fun n400 => Up [] [n400, n398, n376, n64, n63, n62] w399 fun w401 => OkC (Array.toList cs392) (261 : Nat) (Up [n398] [n400, n398, n376, n64, n63, n62] w401
  fun w402 => OkC (Array.toList cs392) (261 : Nat) (Up [n400] [n400, n398, n376, n64, n63, n62] w402 fun w403 => Bd ((n59 : Nat) : Int) fun x404 => LoopP (fun l405 l406
  J407 w408 => opI IntKind.i64 (nthD l405 (0 : Nat)) fun x409 => opI IntKind.i64 (nthD l405 (1 : Nat)) fun x410 => Bd (decide (x410 < x404)) fun b411 => If b411 (IxOk
  x410 n59 a58 ∧ Ld w408 (adAt a58 x410 (1 : Nat)) fun v412 => opI IntKind.i64 v412 fun x413 => Bd (if x413 > x409 then x413 else x409) fun x414 => Bd (IntKind.wrap
  IntKind.i64 (x410 + (1 : Int))) fun x415 => J407 [Value.int IntKind.i64 x414, Value.int IntKind.i64 x415] [] w408) (BdO (nthV (Array.toList cs392) (260 : Nat)) fun v416
  => opL v416 fun a417 n418 n419 => Bd (if (0 : Int) > x409 then (0 : Int) else x409) fun x420 => RunW Try.prog [n400, n398, n376, n64, n63, n62] (Instr.sliceAt (55 :
  Nat) (Value.slice a417 n418 n419) none (some (Value.int IntKind.i64 x420)) none) (fun v421 w422 => opL v421 fun a423 n424 n425 => LeC (261 : Nat) (Array.size cs392) (Jn
  (fun l426 l427 w428 => opBig (nthD l427 (0 : Nat)) fun cs429 => Array.size cs392 = (261 : Nat) ∧ Rg w428 fun n430 => OkC (Array.toList cs392) (261 : Nat) (Up [n430]
  [n430, n400, n398, n376, n64, n63, n62] w428 fun w431 => Nw (Obj.cells #[] (9 : Nat)) w431 fun n432 w433 => BdO (nthV (Array.toList cs392) (260 : Nat)) fun v434 => opL
  v434 fun a435 n436 n437 => RunW Try.prog [n430, n400, n398, n376, n64, n63, n62] (Builtin.append_ #[(55 : Nat), (55 : Nat)] (55 : Nat) #[Value.slice (some (Addr.mk n432
  (0 : Nat) none)) (0 : Nat) (0 : Nat), Value.slice a435 n436 n437]) (fun v438 w439 => opL v438 fun a440 n441 n442 => LeC (261 : Nat) (Array.size cs392) (Bd (IntKind.wrap
  IntKind.i64 p2) fun x443 => Bd ((p0n : Nat) : Int) fun x444 => x444 ≠ (0 : Int) ∧ Bd (Int.tmod x443 x444) fun x445 => BdO (nthV (wrL (Array.toList cs392) (260 : Nat)
  [Value.slice a440 n441 n442]) (260 : Nat)) fun v446 => opL v446 fun a447 n448 n449 => IxOk x445 n448 a447 ∧ Up [n430] [n430, n400, n398, n376, n64, n63, n62] w439 fun
  w450 => ¬Addr.block (adAt a447 x445 (1 : Nat)) ∈ [n430, n400, n398, n376, n64, n63, n62] ∧ Wr w450 (adAt a447 x445 (1 : Nat)) (1 : Nat) ∧ BdO (nthV (Array.toList cs392)
  (260 : Nat)) fun v451 => opL v451 fun a452 n453 n454 => Bd ((n453 : Nat) : Int) fun x455 => LoopP (fun l456 l457 J458 w459 => opB (nthD l456 (0 : Nat)) fun b460 => opI
  IntKind.i64 (nthD l456 (1 : Nat)) fun x461 => Bd (decide (x461 < x455)) fun b462 => If b462 (IxOk x461 n453 a452 ∧ Ld w459 (adAt a452 x461 (1 : Nat)) fun v463 => opStr
  v463 fun s464 => Bd (x461 != x445) fun b465 => Bd (ByteArray.toList s464 == ByteArray.toList p1) fun b466 => Bd (bif b465 then b466 else false) fun b467 => Bd (bif b460
  then true else b467) fun b468 => Bd (IntKind.wrap IntKind.i64 (x461 + (1 : Int))) fun x469 => J458 [Value.bool b468, Value.int IntKind.i64 x469] [] w459) (BdO (nthV
  (wrL (Array.toList cs392) (260 : Nat) [Value.slice a423 n424 n425]) (260 : Nat)) fun v470 => opL v470 fun a471 n472 n473 => Bd ((n472 : Nat) : Int) fun x474 => Bd
  (decide (x474 > x409)) fun b475 => ∃ a476 n477 n478, (b475 = true → nthV (wrL (Array.toList cs392) (260 : Nat) [Value.slice a423 n424 n425]) (260 : Nat) = some
  (Value.slice a476 n477 n478)) ∧ Bd ((n477 : Nat) : Int) fun x480 => Bd (decide (x480 > (0 : Int))) fun b481 => Bd (bif b475 then b481 else false) fun b482 => ((!b482) =
  true → List.length (wrL (Array.toList cs392) (260 : Nat) [Value.slice a423 n424 n425]) = (261 : Nat)) ∧ Gd (!b482) false (fun J484 => CallW Try.prog [n430, n400, n398,
  n376, n64, n63, n62] (55 : Nat) #[Value.agg (List.toArray (wrL (Array.toList cs392) (260 : Nat) [Value.slice a423 n424 n425]))] (fun v485 w486 => opB v485 fun b487 =>
  J484 b487 w486) w459) (fun b488 w489 => Bd (!b488) fun b490 => Bd (bif b482 then true else b490) fun b491 => (b491 = true → isI IntKind.i64 (Array.toList cs52) (256 :
  Nat)) ∧ Bd (rdI (Array.toList cs52) (256 : Nat)) fun x493 => Bd (x493 == (256 : Int)) fun b494 => ((b491 && !b494) = true → Array.size cs429 = (261 : Nat)) ∧ Gd (b491
  && !b494) false (fun J496 => CallW Try.prog [n430, n400, n398, n376, n64, n63, n62] (55 : Nat) #[Value.agg cs429] (fun v497 w498 => opB v497 fun b499 => J496 b499 w498)
  w489) (fun b500 w501 => Bd (!b500) fun b502 => Bd (bif b494 then true else b502) fun b503 => Bd (bif b491 then b503 else false) fun b504 => (b504 = true → List.length
  (wrL (Array.toList cs392) (260 : Nat) [Value.slice a440 n441 n442]) = (261 : Nat)) ∧ Gd b504 false (fun J506 => CallW Try.prog [n430, n400, n398, n376, n64, n63, n62]
  (55 : Nat) #[Value.agg (List.toArray (wrL (Array.toList cs392) (260 : Nat) [Value.slice a440 n441 n442]))] (fun v507 w508 => opB v507 fun b509 => J506 b509 w508) w501)
  (fun b510 w511 => Gd b504 false (fun J512 => CallW Try.prog [n430, n400, n398, n376, n64, n63, n62] (87 : Nat) #[Value.string p1] (fun v513 w514 => opB v513 fun b515 =>
  J512 b515 w514) w511) (fun b516 w517 => Bd (!b460) fun b518 => Bd (bif b516 then b518 else false) fun b519 => Bd (b510 == b519) fun b520 => Bd (bif b504 then b520 else
  false) fun b521 => Gd b521 false (fun J522 => CallW Try.prog [n430, n400, n398, n376, n64, n63, n62] (54 : Nat) #[] (fun v523 w524 => opB v523 fun b525 => J522 b525
  w524) w517) (fun b526 w527 => Bd (bif b521 then b526 else false) fun b528 => R (Value.bool b528) w527) w517) w511) w501) w489) w459)) [Value.bool false, Value.int
  IntKind.i64 (0 : Int)] [] (setCells w450 (adAt a447 x445 (1 : Nat)) (0 : Nat) [Value.string p1]))) w433)) fun J529 => Up [n398] [n400, n398, n376, n64, n63, n62] w422
  fun w530 => BdO (nthV (Array.toList cs52) (256 : Nat)) fun v531 => opI IntKind.i64 v531 fun x532 => Bd (IntKind.wrap IntKind.u8 x532) fun x533 => BdO (nthV
  (Array.toList cs52) (256 : Nat)) fun v534 => opI IntKind.i64 v534 fun x535 => Bd (IntKind.wrap IntKind.i64 (x535 + (1 : Int))) fun x536 => LeC (256 : Nat) (Array.size
  cs392) (Up [n400] [n400, n398, n376, n64, n63, n62] (World.drew w530) fun w537 => LeC (257 : Nat) (List.length (wrL (Array.toList cs392) (255 : Nat) [Value.int
  IntKind.u8 x533])) (Up [n400] [n400, n398, n376, n64, n63, n62] w537 fun w538 => J529 [] [Value.agg (List.toArray (wrL (wrL (Array.toList cs392) (255 : Nat) [Value.int
  IntKind.u8 x533]) (256 : Nat) [Value.int IntKind.i64 x536]))] w538)))) w408)) [Value.int IntKind.i64 (-1 : Int), Value.int IntKind.i64 (0 : Int)] [] w403))) ∧ Rg
  (World.drew w395) fun n539 => Up [] [n539, n376, n64, n63, n62] (World.drew w395) fun w540 => Rg w540 fun n541 => Up [] [n541, n539, n376, n64, n63, n62] w540 fun w542
  => OkC (Array.toList cs392) (261 : Nat) (Up [n541] [n541, n539, n376, n64, n63, n62] w542 fun w543 => OkC (Array.toList cs392) (261 : Nat) (Up [n539] [n541, n539, n376,
  n64, n63, n62] w543 fun w544 => Bd ((n59 : Nat) : Int) fun x545 => LoopP (fun l546 l547 J548 w549 => opI IntKind.i64 (nthD l546 (0 : Nat)) fun x550 => opI IntKind.i64
  (nthD l546 (1 : Nat)) fun x551 => Bd (decide (x551 < x545)) fun b552 => If b552 (IxOk x551 n59 a58 ∧ Ld w549 (adAt a58 x551 (1 : Nat)) fun v553 => opI IntKind.i64 v553
  fun x554 => Bd (if x554 > x550 then x554 else x550) fun x555 => Bd (IntKind.wrap IntKind.i64 (x551 + (1 : Int))) fun x556 => J548 [Value.int IntKind.i64 x555, Value.int
  IntKind.i64 x556] [] w549) (BdO (nthV (Array.toList cs392) (260 : Nat)) fun v557 => opL v557 fun a558 n559 n560 => Bd (if (0 : Int) > x550 then (0 : Int) else x550) fun
  x561 => RunW Try.prog [n541, n539, n376, n64, n63, n62] (Instr.sliceAt (55 : Nat) (Value.slice a558 n559 n560) none (some (Value.int IntKind.i64 x561)) none) (fun v562
  w563 => opL v562 fun a564 n565 n566 => LeC (261 : Nat) (Array.size cs392) (Jn (fun l567 l568 w569 => opBig (nthD l568 (0 : Nat)) fun cs570 => Array.size cs392 = (261 :
  Nat) ∧ Rg w569 fun n571 => OkC (Array.toList cs392) (261 : Nat) (Up [n571] [n571, n541, n539, n376, n64, n63, n62] w569 fun w572 => Nw (Obj.cells #[] (9 : Nat)) w572
  fun n573 w574 => BdO (nthV (Array.toList cs392) (260 : Nat)) fun v575 => opL v575 fun a576 n577 n578 => RunW Try.prog [n571, n541, n539, n376, n64, n63, n62]
  (Builtin.append_ #[(55 : Nat), (55 : Nat)] (55 : Nat) #[Value.slice (some (Addr.mk n573 (0 : Nat) none)) (0 : Nat) (0 : Nat), Value.slice a576 n577 n578]) (fun v579
  w580 => opL v579 fun a581 n582 n583 => LeC (261 : Nat) (Array.size cs392) (Bd (IntKind.wrap IntKind.i64 p2) fun x584 => Bd ((p0n : Nat) : Int) fun x585 => x585 ≠ (0 :
  Int) ∧ Bd (Int.tmod x584 x585) fun x586 => BdO (nthV (wrL (Array.toList cs392) (260 : Nat) [Value.slice a581 n582 n583]) (260 : Nat)) fun v587 => opL v587 fun a588 n589
  n590 => IxOk x586 n589 a588 ∧ Up [n571] [n571, n541, n539, n376, n64, n63, n62] w580 fun w591 => ¬Addr.block (adAt a588 x586 (1 : Nat)) ∈ [n571, n541, n539, n376, n64,
  n63, n62] ∧ Wr w591 (adAt a588 x586 (1 : Nat)) (1 : Nat) ∧ BdO (nthV (Array.toList cs392) (260 : Nat)) fun v592 => opL v592 fun a593 n594 n595 => Bd ((n594 : Nat) :
  Int) fun x596 => LoopP (fun l597 l598 J599 w600 => opB (nthD l597 (0 : Nat)) fun b601 => opI IntKind.i64 (nthD l597 (1 : Nat)) fun x602 => Bd (decide (x602 < x596)) fun
  b603 => If b603 (IxOk x602 n594 a593 ∧ Ld w600 (adAt a593 x602 (1 : Nat)) fun v604 => opStr v604 fun s605 => Bd (x602 != x586) fun b606 => Bd (ByteArray.toList s605 ==
  ByteArray.toList p1) fun b607 => Bd (bif b606 then b607 else false) fun b608 => Bd (bif b601 then true else b608) fun b609 => Bd (IntKind.wrap IntKind.i64 (x602 + (1 :
  Int))) fun x610 => J599 [Value.bool b609, Value.int IntKind.i64 x610] [] w600) (BdO (nthV (wrL (Array.toList cs392) (260 : Nat) [Value.slice a564 n565 n566]) (260 :
  Nat)) fun v611 => opL v611 fun a612 n613 n614 => Bd ((n613 : Nat) : Int) fun x615 => Bd (decide (x615 > x550)) fun b616 => ∃ a617 n618 n619, (b616 = true → nthV (wrL
  (Array.toList cs392) (260 : Nat) [Value.slice a564 n565 n566]) (260 : Nat) = some (Value.slice a617 n618 n619)) ∧ Bd ((n618 : Nat) : Int) fun x621 => Bd (decide (x621 >
  (0 : Int))) fun b622 => Bd (bif b616 then b622 else false) fun b623 => ((!b623) = true → List.length (wrL (Array.toList cs392) (260 : Nat) [Value.slice a564 n565 n566])
  = (261 : Nat)) ∧ Gd (!b623) false (fun J625 => CallW Try.prog [n571, n541, n539, n376, n64, n63, n62] (55 : Nat) #[Value.agg (List.toArray (wrL (Array.toList cs392)
  (260 : Nat) [Value.slice a564 n565 n566]))] (fun v626 w627 => opB v626 fun b628 => J625 b628 w627) w600) (fun b629 w630 => Bd (!b629) fun b631 => Bd (bif b623 then true
  else b631) fun b632 => (b632 = true → isI IntKind.i64 (Array.toList cs52) (256 : Nat)) ∧ Bd (rdI (Array.toList cs52) (256 : Nat)) fun x634 => Bd (x634 == (256 : Int))
  fun b635 => ((b632 && !b635) = true → Array.size cs570 = (261 : Nat)) ∧ Gd (b632 && !b635) false (fun J637 => CallW Try.prog [n571, n541, n539, n376, n64, n63, n62] (55
  : Nat) #[Value.agg cs570] (fun v638 w639 => opB v638 fun b640 => J637 b640 w639) w630) (fun b641 w642 => Bd (!b641) fun b643 => Bd (bif b635 then true else b643) fun
  b644 => Bd (bif b632 then b644 else false) fun b645 => (b645 = true → List.length (wrL (Array.toList cs392) (260 : Nat) [Value.slice a581 n582 n583]) = (261 : Nat)) ∧
  Gd b645 false (fun J647 => CallW Try.prog [n571, n541, n539, n376, n64, n63, n62] (55 : Nat) #[Value.agg (List.toArray (wrL (Array.toList cs392) (260 : Nat)
  [Value.slice a581 n582 n583]))] (fun v648 w649 => opB v648 fun b650 => J647 b650 w649) w642) (fun b651 w652 => Gd b645 false (fun J653 => CallW Try.prog [n571, n541,
  n539, n376, n64, n63, n62] (87 : Nat) #[Value.string p1] (fun v654 w655 => opB v654 fun b656 => J653 b656 w655) w652) (fun b657 w658 => Bd (!b601) fun b659 => Bd (bif
  b657 then b659 else false) fun b660 => Bd (b651 == b660) fun b661 => Bd (bif b645 then b661 else false) fun b662 => Gd b662 false (fun J663 => CallW Try.prog [n571,
  n541, n539, n376, n64, n63, n62] (54 : Nat) #[] (fun v664 w665 => opB v664 fun b666 => J663 b666 w665) w658) (fun b667 w668 => Bd (bif b662 then b667 else false) fun
  b669 => R (Value.bool b669) w668) w658) w652) w642) w630) w600)) [Value.bool false, Value.int IntKind.i64 (0 : Int)] [] (setCells w591 (adAt a588 x586 (1 : Nat)) (0 :
  Nat) [Value.string p1]))) w574)) fun J670 => Up [n541] [n541, n539, n376, n64, n63, n62] w563 fun w671 => BdO (nthV (Array.toList cs52) (256 : Nat)) fun v672 => opI
  IntKind.i64 v672 fun x673 => Bd (IntKind.wrap IntKind.u8 x673) fun x674 => BdO (nthV (Array.toList cs52) (256 : Nat)) fun v675 => opI IntKind.i64 v675 fun x676 => Bd
  (IntKind.wrap IntKind.i64 (x676 + (1 : Int))) fun x677 => LeC (256 : Nat) (Array.size cs392) (Up [n539] [n541, n539, n376, n64, n63, n62] (World.drew w671) fun w678 =>
  LeC (257 : Nat) (List.length (wrL (Array.toList cs392) (255 : Nat) [Value.int IntKind.u8 x674])) (Up [n539] [n541, n539, n376, n64, n63, n62] w678 fun w679 => J670 []
  [Value.agg (List.toArray (wrL (wrL (Array.toList cs392) (255 : Nat) [Value.int IntKind.u8 x674]) (256 : Nat) [Value.int IntKind.i64 x677]))] w679)))) w549)) [Value.int
  IntKind.i64 (-1 : Int), Value.int IntKind.i64 (0 : Int)] [] w544)))) w393)) w377)))))) w16)) [Value.bool false, Value.int IntKind.i64 (0 : Int)] [] w)
theorem f15_eq (p0a : Option Addr) (p0n : Nat) (p0c : Nat) (p1 : ByteArray) (p2 : Int) (R : Value → World → Prop) (w : World) : fnW Try.prog [8, 9, 10, 11, 13, 14, 15,
  19, 400012, 400015, 400023] Try.f15 [Value.slice p0a p0n p0c, Value.string p1, Value.int IntKind.u8 p2] R w = f15_vc p0a p0n p0c p1 p2 R w := by kernel_rfl
theorem f15_in (p0a : Option Addr) (p0n : Nat) (p0c : Nat) (p1 : ByteArray) (p2 : Int) (R : Value → World → Prop) (w : World) (h : f15_vc p0a p0n p0c p1 p2 R w) : Ct
  Try.prog 15 #[Value.slice p0a p0n p0c, Value.string p1, Value.int IntKind.u8 p2] w R := by
  refine Ct_of (rk := [8, 9, 10, 11, 13, 14, 15, 19, 400012, 400015, 400023]) (fn := Try.f15) (args := [Value.slice p0a p0n p0c, Value.string p1, Value.int IntKind.u8 p2]) mixedT Try.func15 (by kernel_rfl) ?_
  rw [f15_eq]
  exact h
end Fk
