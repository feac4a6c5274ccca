/- Conditions of functions, as the generator works them out; each one is checked by the kernel. -/
import Derived.Test.YtpgjpgecgibklaaTT
set_option linter.unusedVariables false
set_option maxRecDepth 1000000
set_option maxHeartbeats 4000000
namespace Fk
open Go Go.Proofs Go.RowKit
def f27_vc (p0 : Int) (p1a : Option Addr) (p1n : Nat) (p1c : Nat) (R : Value → World → Prop) (w : World) : Prop := CallW Try.prog [] (109 : Nat) #[Value.int IntKind.i64
  p0] (fun v1 w2 => opTu v1 fun cs3 => opP (nthD (Array.toList cs3) (0 : Nat)) fun a4 => opI IntKind.i64 (nthD (Array.toList cs3) (1 : Nat)) fun x5 => SzIs (Array.size
  cs3) (2 : Nat) (Bd (x5 == (0 : Int)) fun b6 => Bd (decide (p0 ≥ (1 : Int))) fun b7 => Bd (decide (p0 ≤ (65536 : Int))) fun b8 => Bd (bif b7 then b8 else false) fun b9
  => Bd (!b6 == b9) fun b10 => Bd (x5 != (0 : Int)) fun b11 => Bd (x5 != (2 : Int)) fun b12 => Gd (!b10 && b11 && !b12) false (fun J13 => RunW Try.prog [] (eqS BinOp.neq
  (119 : Nat) (Operand.tmp (39 : Nat)) (Operand.const (Value.pointer none)) (Value.pointer a4) (Value.pointer none)) (fun v14 w15 => opB v14 fun b16 => J13 b16 w15) w2)
  (fun b17 w18 => Bd (bif b12 then true else b17) fun b19 => Bd (bif b11 then b19 else false) fun b20 => Bd (bif b10 then true else b20) fun b21 => Bd (x5 == (0 : Int))
  fun b22 => Gd (!b21 && b22) (0 : Int) (fun J23 => CallW Try.prog [] (112 : Nat) #[Value.pointer a4] (fun v24 w25 => opI IntKind.i64 v24 fun x26 => J23 x26 w25) w18)
  (fun x27 w28 => Bd (x27 != p0) fun b29 => Bd (bif b22 then b29 else false) fun b30 => Bd (bif b21 then true else b30) fun b31 => If b31 (R (Value.bool false) w28) (Bd
  (x5 != (0 : Int)) fun b32 => Bd (decide (p0 > (20 : Int))) fun b33 => Bd (bif b32 then true else b33) fun b34 => Bd ((p1n : Nat) : Int) fun x35 => Bd (decide (x35 > (40
  : Int))) fun b36 => Bd (bif b34 then true else b36) fun b37 => If b37 (CallW Try.prog [] (107 : Nat) #[] (fun v38 w39 => opB v38 fun b40 => R (Value.bool b40) w39) w28)
  (CallW Try.prog [] (113 : Nat) #[Value.int IntKind.i64 p0] (fun v41 w42 => opTu v41 fun cs43 => opAg (nthD (Array.toList cs43) (0 : Nat)) fun cs44 => opL (nthD
  (Array.toList cs44) (0 : Nat)) fun a45 n46 n47 => opL (nthD (Array.toList cs44) (1 : Nat)) fun a48 n49 n50 => opI IntKind.i64 (nthD (Array.toList cs44) (2 : Nat)) fun
  x51 => SzIs (Array.size cs44) (3 : Nat) (opB (nthD (Array.toList cs43) (1 : Nat)) fun b52 => SzIs (Array.size cs43) (2 : Nat) (Rg w42 fun n53 => Bd ((p1n : Nat) : Int)
  fun x54 => Up [n53] [n53] w42 fun w55 => LoopP (fun l56 l57 J58 w59 => opB (nthD l56 (0 : Nat)) fun b60 => opI IntKind.i64 (nthD l56 (1 : Nat)) fun x61 => opAg (nthD
  l57 (0 : Nat)) fun cs62 => opL (nthD (Array.toList cs62) (0 : Nat)) fun a63 n64 n65 => opL (nthD (Array.toList cs62) (1 : Nat)) fun a66 n67 n68 => opI IntKind.i64 (nthD
  (Array.toList cs62) (2 : Nat)) fun x69 => SzIs (Array.size cs62) (3 : Nat) (Bd (decide (x61 < x54)) fun b70 => If b70 (IxOk x61 p1n p1a ∧ Ld w59 (Addr.add (adAt p1a x61
  (6 : Nat)) (0 : Nat)) fun v71 => Ld w59 (Addr.add (adAt p1a x61 (6 : Nat)) (1 : Nat)) fun v72 => Ld w59 (Addr.add (adAt p1a x61 (6 : Nat)) (2 : Nat)) fun v73 => Ld w59
  (Addr.add (adAt p1a x61 (6 : Nat)) (3 : Nat)) fun v74 => Ld w59 (Addr.add (adAt p1a x61 (6 : Nat)) (4 : Nat)) fun v75 => Ld w59 (Addr.add (adAt p1a x61 (6 : Nat)) (5 :
  Nat)) fun v76 => opI IntKind.u8 v71 fun x77 => opI IntKind.i64 v72 fun x78 => opI IntKind.i64 v73 fun x79 => opI IntKind.u8 v74 fun x80 => opI IntKind.u8 v75 fun x81 =>
  opB v76 fun b82 => Rg w59 fun n83 => Jn (fun l84 l85 w86 => opI IntKind.i64 (nthD l84 (0 : Nat)) fun x87 => opI IntKind.i64 (nthD l84 (1 : Nat)) fun x88 => opB (nthD
  l84 (2 : Nat)) fun b89 => opB (nthD l84 (3 : Nat)) fun b90 => opAg (nthD l85 (0 : Nat)) fun cs91 => opL (nthD (Array.toList cs91) (0 : Nat)) fun a92 n93 n94 => opL
  (nthD (Array.toList cs91) (1 : Nat)) fun a95 n96 n97 => opI IntKind.i64 (nthD (Array.toList cs91) (2 : Nat)) fun x98 => SzIs (Array.size cs91) (3 : Nat) (Jn (fun l99
  l100 w101 => opB (nthD l99 (0 : Nat)) fun b102 => If b102 (R (Value.bool false) w101) (Bd (IntKind.wrap IntKind.i64 (x61 + (1 : Int))) fun x103 => J58 [Value.bool b89,
  Value.int IntKind.i64 x103] [Value.agg #[Value.slice a92 n93 n94, Value.slice a95 n96 n97, Value.int IntKind.i64 x98]] w101)) fun J104 => Bd (x87 != x88) fun b105 => Gd
  (!b105) (none, (0 : Nat), (0 : Nat)) (fun J106 => CallW Try.prog [n83, n53] (104 : Nat) #[Value.pointer a4] (fun v107 w108 => opL v107 fun a109 n110 n111 => J106 (a109,
  n110, n111) w108) (World.drew w86)) (fun u112 w113 => Gd (!b105) ByteArray.empty (fun J114 => RunW Try.prog [n83, n53] (convert (51 : Nat) (9 : Nat) (Value.slice
  (Prod.fst u112) (Prod.fst (Prod.snd u112)) (Prod.snd (Prod.snd u112)))) (fun v115 w116 => opStr v115 fun s117 => J114 s117 w116) w113) (fun s118 w119 => Gd (!b105)
  ByteArray.empty (fun J120 => CallW Try.prog [n83, n53] (121 : Nat) #[Value.agg #[Value.slice a92 n93 n94, Value.slice a95 n96 n97, Value.int IntKind.i64 x98]] (fun v121
  w122 => opStr v121 fun s123 => J120 s123 w122) w119) (fun s124 w125 => Bd (!ByteArray.toList s118 == ByteArray.toList s124) fun b126 => Bd (bif b105 then true else
  b126) fun b127 => Bd ((n96 : Nat) : Int) fun x128 => Gd (!b127) (0 : Int) (fun J129 => CallW Try.prog [n83, n53] (108 : Nat) #[Value.pointer a4] (fun v130 w131 => opI
  IntKind.i64 v130 fun x132 => J129 x132 w131) w125) (fun x133 w134 => Bd (x133 != x128) fun b135 => Bd (bif b127 then true else b135) fun b136 => J104 [Value.bool b136]
  [] w134) w125) w119) w113 ∧ Gd (!b105) ByteArray.empty (fun J137 => CallW Try.prog [n83, n53] (121 : Nat) #[Value.agg #[Value.slice a92 n93 n94, Value.slice a95 n96
  n97, Value.int IntKind.i64 x98]] (fun v138 w139 => opStr v138 fun s140 => J137 s140 w139) w113) (fun s141 w142 => Gd (!b105) ByteArray.empty (fun J143 => RunW Try.prog
  [n83, n53] (convert (51 : Nat) (9 : Nat) (Value.slice (Prod.fst u112) (Prod.fst (Prod.snd u112)) (Prod.snd (Prod.snd u112)))) (fun v144 w145 => opStr v144 fun s146 =>
  J143 s146 w145) w142) (fun s147 w148 => Bd (!ByteArray.toList s147 == ByteArray.toList s141) fun b149 => Bd (bif b105 then true else b149) fun b150 => Bd ((n96 : Nat) :
  Int) fun x151 => Gd (!b150) (0 : Int) (fun J152 => CallW Try.prog [n83, n53] (108 : Nat) #[Value.pointer a4] (fun v153 w154 => opI IntKind.i64 v153 fun x155 => J152
  x155 w154) w148) (fun x156 w157 => Bd (x156 != x151) fun b158 => Bd (bif b150 then true else b158) fun b159 => J104 [Value.bool b159] [] w157) w148) w142) w113)
  (World.drew w86))) fun J160 => Bd (x77 == (1 : Int)) fun b161 => If b161 (Up [n83] [n83, n53] w59 fun w162 => CallW Try.prog [n83, n53] (110 : Nat) #[Value.agg
  #[Value.int IntKind.u8 x77, Value.int IntKind.i64 x78, Value.int IntKind.i64 x79, Value.int IntKind.u8 x80, Value.int IntKind.u8 x81, Value.bool b82]] (fun v163 w164 =>
  opL v163 fun a165 n166 n167 => CallW Try.prog [n83, n53] (114 : Nat) #[Value.pointer a4, Value.int IntKind.i64 x78, Value.slice a165 n166 n167] (fun v168 w169 => opI
  IntKind.i64 v168 fun x170 => Bd ((n166 : Nat) : Int) fun x171 => LoopP (fun l172 l173 J174 w175 => opI IntKind.i64 (nthD l172 (0 : Nat)) fun x176 => Bd (decide (x176 <
  x171)) fun b177 => If b177 (IxOk x176 n166 a165 ∧ Ld w175 (adAt a165 x176 (1 : Nat)) fun v178 => opI IntKind.u8 v178 fun x179 => Bd (IntKind.wrap IntKind.u8 (x179 + (1
  : Int))) fun x180 => IxOk x176 n166 a165 ∧ ¬Addr.block (adAt a165 x176 (1 : Nat)) ∈ [n83, n53] ∧ Wr w175 (adAt a165 x176 (1 : Nat)) (1 : Nat) ∧ Bd (IntKind.wrap
  IntKind.i64 (x176 + (1 : Int))) fun x181 => J174 [Value.int IntKind.i64 x181] [] (setCells w175 (adAt a165 x176 (1 : Nat)) (0 : Nat) [Value.int IntKind.u8 x180])) (Dr
  (World.drew w175) fun J182 => (J182 (World.drew w175) ∧ CallW Try.prog [n83, n53] (110 : Nat) #[Value.agg #[Value.int IntKind.u8 x77, Value.int IntKind.i64 x78,
  Value.int IntKind.i64 x79, Value.int IntKind.u8 x80, Value.int IntKind.u8 x81, Value.bool b82]] (fun v183 w184 => opL v183 fun a185 n186 n187 => J182 w184 ∧ CallW
  Try.prog [n83, n53] (115 : Nat) #[Value.agg #[Value.slice a63 n64 n65, Value.slice a66 n67 n68, Value.int IntKind.i64 x69], Value.int IntKind.i64 x78, Value.slice a185
  n186 n187] (fun v188 w189 => opTu v188 fun cs190 => opAg (nthD (Array.toList cs190) (0 : Nat)) fun cs191 => opL (nthD (Array.toList cs191) (0 : Nat)) fun a192 n193 n194
  => opL (nthD (Array.toList cs191) (1 : Nat)) fun a195 n196 n197 => opI IntKind.i64 (nthD (Array.toList cs191) (2 : Nat)) fun x198 => SzIs (Array.size cs191) (3 : Nat)
  (opI IntKind.i64 (nthD (Array.toList cs190) (1 : Nat)) fun x199 => SzIs (Array.size cs190) (2 : Nat) (J182 w189 ∧ Up [n53] [n83, n53] w189 fun w200 => J182 w200 ∧ J160
  [Value.int IntKind.i64 x170, Value.int IntKind.i64 x199, Value.bool b60, Value.bool b161] [Value.agg #[Value.slice a192 n193 n194, Value.slice a195 n196 n197, Value.int
  IntKind.i64 x198]] w200))) w184) (World.drew w175)) ∧ CallW Try.prog [n83, n53] (110 : Nat) #[Value.agg #[Value.int IntKind.u8 x77, Value.int IntKind.i64 x78, Value.int
  IntKind.i64 x79, Value.int IntKind.u8 x80, Value.int IntKind.u8 x81, Value.bool b82]] (fun v201 w202 => opL v201 fun a203 n204 n205 => J182 w202 ∧ J182 w202 ∧ CallW
  Try.prog [n83, n53] (115 : Nat) #[Value.agg #[Value.slice a63 n64 n65, Value.slice a66 n67 n68, Value.int IntKind.i64 x69], Value.int IntKind.i64 x78, Value.slice a203
  n204 n205] (fun v206 w207 => opTu v206 fun cs208 => opAg (nthD (Array.toList cs208) (0 : Nat)) fun cs209 => opL (nthD (Array.toList cs209) (0 : Nat)) fun a210 n211 n212
  => opL (nthD (Array.toList cs209) (1 : Nat)) fun a213 n214 n215 => opI IntKind.i64 (nthD (Array.toList cs209) (2 : Nat)) fun x216 => SzIs (Array.size cs209) (3 : Nat)
  (opI IntKind.i64 (nthD (Array.toList cs208) (1 : Nat)) fun x217 => SzIs (Array.size cs208) (2 : Nat) (J182 w207 ∧ Up [n53] [n83, n53] w207 fun w218 => J182 w218 ∧ J160
  [Value.int IntKind.i64 x170, Value.int IntKind.i64 x217, Value.bool b60, Value.bool b161] [Value.agg #[Value.slice a210 n211 n212, Value.slice a213 n214 n215, Value.int
  IntKind.i64 x216]] w218))) w202) (World.drew w175))) [Value.int IntKind.i64 (0 : Int)] [] w169) w164) w162) (Bd (x77 == (2 : Int)) fun b219 => If b219 (Up [n83] [n83,
  n53] w59 fun w220 => CallW Try.prog [n83, n53] (103 : Nat) #[Value.pointer a4] (fun v221 w222 => opI IntKind.i64 v221 fun x223 => CallW Try.prog [n83, n53] (116 : Nat)
  #[Value.agg #[Value.slice a63 n64 n65, Value.slice a66 n67 n68, Value.int IntKind.i64 x69]] (fun v224 w225 => opTu v224 fun cs226 => opAg (nthD (Array.toList cs226) (0
  : Nat)) fun cs227 => opL (nthD (Array.toList cs227) (0 : Nat)) fun a228 n229 n230 => opL (nthD (Array.toList cs227) (1 : Nat)) fun a231 n232 n233 => opI IntKind.i64
  (nthD (Array.toList cs227) (2 : Nat)) fun x234 => SzIs (Array.size cs227) (3 : Nat) (opI IntKind.i64 (nthD (Array.toList cs226) (1 : Nat)) fun x235 => SzIs (Array.size
  cs226) (2 : Nat) (Up [n53] [n83, n53] w225 fun w236 => J160 [Value.int IntKind.i64 x223, Value.int IntKind.i64 x235, Value.bool b60, Value.bool b161] [Value.agg
  #[Value.slice a228 n229 n230, Value.slice a231 n232 n233, Value.int IntKind.i64 x234]] w236))) w222) w220) (Bd (x77 == (3 : Int)) fun b237 => If b237 (Up [n83] [n83,
  n53] w59 fun w238 => CallW Try.prog [n83, n53] (102 : Nat) #[Value.pointer a4, Value.int IntKind.i64 x78] (fun v239 w240 => opTu v239 fun cs241 => SzIs (Array.size
  cs241) (0 : Nat) (CallW Try.prog [n83, n53] (117 : Nat) #[Value.agg #[Value.slice a63 n64 n65, Value.slice a66 n67 n68, Value.int IntKind.i64 x69], Value.int
  IntKind.i64 x78] (fun v242 w243 => opAg v242 fun cs244 => opL (nthD (Array.toList cs244) (0 : Nat)) fun a245 n246 n247 => opL (nthD (Array.toList cs244) (1 : Nat)) fun
  a248 n249 n250 => opI IntKind.i64 (nthD (Array.toList cs244) (2 : Nat)) fun x251 => SzIs (Array.size cs244) (3 : Nat) (Up [n53] [n83, n53] w243 fun w252 => J160
  [Value.int IntKind.i64 (0 : Int), Value.int IntKind.i64 (0 : Int), Value.bool b60, Value.bool b161] [Value.agg #[Value.slice a245 n246 n247, Value.slice a248 n249 n250,
  Value.int IntKind.i64 x251]] w252)) w240)) w238) (Bd (x77 == (4 : Int)) fun b253 => If b253 (Up [n83] [n83, n53] w59 fun w254 => CallW Try.prog [n83, n53] (106 : Nat)
  #[Value.pointer a4, Value.int IntKind.i64 x78, Value.int IntKind.i64 x79] (fun v255 w256 => opTu v255 fun cs257 => SzIs (Array.size cs257) (0 : Nat) (CallW Try.prog
  [n83, n53] (118 : Nat) #[Value.agg #[Value.slice a63 n64 n65, Value.slice a66 n67 n68, Value.int IntKind.i64 x69], Value.int IntKind.i64 x78, Value.int IntKind.i64 x79]
  (fun v258 w259 => opAg v258 fun cs260 => opL (nthD (Array.toList cs260) (0 : Nat)) fun a261 n262 n263 => opL (nthD (Array.toList cs260) (1 : Nat)) fun a264 n265 n266 =>
  opI IntKind.i64 (nthD (Array.toList cs260) (2 : Nat)) fun x267 => SzIs (Array.size cs260) (3 : Nat) (Up [n53] [n83, n53] w259 fun w268 => J160 [Value.int IntKind.i64 (0
  : Int), Value.int IntKind.i64 (0 : Int), Value.bool b60, Value.bool b161] [Value.agg #[Value.slice a261 n262 n263, Value.slice a264 n265 n266, Value.int IntKind.i64
  x267]] w268)) w256)) w254) (Bd (x77 == (5 : Int)) fun b269 => If b269 (Up [n83] [n83, n53] w59 fun w270 => CallW Try.prog [n83, n53] (119 : Nat) #[Value.pointer a4,
  Value.int IntKind.i64 x78] (fun v271 w272 => opTu v271 fun cs273 => opL (nthD (Array.toList cs273) (0 : Nat)) fun a274 n275 n276 => opI IntKind.i64 (nthD (Array.toList
  cs273) (1 : Nat)) fun x277 => SzIs (Array.size cs273) (2 : Nat) (Dr (World.drew w272) fun J278 => Bd (x277 == (0 : Int)) fun b279 => Bd (decide (x78 ≥ (0 : Int))) fun
  b280 => Bd (decide (x78 < p0)) fun b281 => Bd (bif b280 then b281 else false) fun b282 => Bd (!b279 == b282) fun b283 => Bd (x277 == (0 : Int)) fun b284 => ∃ v285,
  ((!b283 && b284) = true → ∀ (w287 : World), J278 w287 → RunV Try.prog (convert (51 : Nat) (9 : Nat) (Value.slice a274 n275 n276)) v285 w287) ∧ opStr v285 fun s289 => Gd
  (!b283 && b284) ByteArray.empty (fun J290 => CallW Try.prog [n83, n53] (120 : Nat) #[Value.agg #[Value.slice a63 n64 n65, Value.slice a66 n67 n68, Value.int IntKind.i64
  x69], Value.int IntKind.i64 x78] (fun v291 w292 => opStr v291 fun s293 => J290 s293 w292) (World.drew w272)) (fun s294 w295 => J278 w295 ∧ Bd (!ByteArray.toList s289 ==
  ByteArray.toList s294) fun b296 => Bd (bif b284 then b296 else false) fun b297 => Bd (bif b283 then true else b297) fun b298 => Bd (x277 != (0 : Int)) fun b299 => Bd
  (x277 != (2 : Int)) fun b300 => Bd ((n275 : Nat) : Int) fun x301 => Bd (x301 != (0 : Int)) fun b302 => Bd (bif b300 then true else b302) fun b303 => Bd (bif b299 then
  b303 else false) fun b304 => Bd (bif b298 then true else b304) fun b305 => If b305 (R (Value.bool false) w295) (Bd ((n275 : Nat) : Int) fun x306 => LoopP (fun l307 l308
  J309 w310 => opI IntKind.i64 (nthD l307 (0 : Nat)) fun x311 => Bd (decide (x311 < x306)) fun b312 => If b312 (IxOk x311 n275 a274 ∧ Ld w310 (adAt a274 x311 (1 : Nat))
  fun v313 => opI IntKind.u8 v313 fun x314 => Bd (IntKind.wrap IntKind.u8 (x314 + (1 : Int))) fun x315 => IxOk x311 n275 a274 ∧ ¬Addr.block (adAt a274 x311 (1 : Nat)) ∈
  [n83, n53] ∧ Wr w310 (adAt a274 x311 (1 : Nat)) (1 : Nat) ∧ Bd (IntKind.wrap IntKind.i64 (x311 + (1 : Int))) fun x316 => J309 [Value.int IntKind.i64 x316] [] (setCells
  w310 (adAt a274 x311 (1 : Nat)) (0 : Nat) [Value.int IntKind.u8 x315])) (J160 [Value.int IntKind.i64 (0 : Int), Value.int IntKind.i64 (0 : Int), Value.bool b60,
  Value.bool b161] [Value.agg #[Value.slice a63 n64 n65, Value.slice a66 n67 n68, Value.int IntKind.i64 x69]] w310)) [Value.int IntKind.i64 (0 : Int)] [] w295))
  (World.drew w272))) w270) (Up [n83] [n83, n53] w59 fun w317 => J160 [Value.int IntKind.i64 (0 : Int), Value.int IntKind.i64 (0 : Int), Value.bool b60, Value.bool b161]
  [Value.agg #[Value.slice a63 n64 n65, Value.slice a66 n67 n68, Value.int IntKind.i64 x69]] w317)))))) (CallW Try.prog [n53] (107 : Nat) #[] (fun v318 w319 => opB v318
  fun b320 => R (Value.bool b320) w319) w59))) [Value.bool false, Value.int IntKind.i64 (0 : Int)] [Value.agg #[Value.slice a45 n46 n47, Value.slice a48 n49 n50,
  Value.int IntKind.i64 x51]] w55))) w28))) w18) w2)) w
theorem f27_eq (p0 : Int) (p1a : Option Addr) (p1n : Nat) (p1c : Nat) (R : Value → World → Prop) (w : World) : fnW Try.prog [7, 10, 100020, 100032, 400039] Try.f27
  [Value.int IntKind.i64 p0, Value.slice p1a p1n p1c] R w = f27_vc p0 p1a p1n p1c R w := by kernel_rfl
theorem f27_in (p0 : Int) (p1a : Option Addr) (p1n : Nat) (p1c : Nat) (R : Value → World → Prop) (w : World) (h : f27_vc p0 p1a p1n p1c R w) : Ct Try.prog 27 #[Value.int
  IntKind.i64 p0, Value.slice p1a p1n p1c] w R := by
  refine Ct_of (rk := [7, 10, 100020, 100032, 400039]) (fn := Try.f27) (args := [Value.int IntKind.i64 p0, Value.slice p1a p1n p1c]) mixedT Try.func27 (by kernel_rfl) ?_
  rw [f27_eq]
  exact h
end Fk
