/- Conditions of functions, as the generator works them out; each one is checked by the kernel. -/
import Derived.Test.YtpgjpgecgibklaaTT
set_option linter.unusedVariables false
set_option maxRecDepth 1000000
set_option maxHeartbeats 4000000
namespace Fk
open Go Go.Proofs Go.RowKit
def f8_vc (p0 : Array Value) (p1 : Int) (p2 : Int) (p3a : Option Addr) (p3n : Nat) (p3c : Nat) (R : Value → World → Prop) (w : World) : Prop := Rg w fun n1 => Array.size
  p0 = (261 : Nat) ∧ Up [] [n1] w fun w2 => CallW Try.prog [n1] (53 : Nat) #[Value.agg p0] (fun v3 w4 => opB v3 fun b5 => Bd (!b5) fun b6 => Bd ((p3n : Nat) : Int) fun x7
  => Bd (decide (x7 > (6000 : Int))) fun b8 => Bd (bif b6 then true else b8) fun b9 => If b9 (CallW Try.prog [n1] (54 : Nat) #[] (fun v10 w11 => opB v10 fun b12 => R
  (Value.bool b12) w11) w4) (Jn (fun l13 l14 w15 => opB (nthD l13 (0 : Nat)) fun b16 => If b16 (R (Value.bool false) w15) (Array.size p0 = (261 : Nat) ∧ CallW Try.prog
  [n1] (59 : Nat) #[Value.agg p0] (fun v17 w18 => opTu v17 fun cs19 => opL (nthD (Array.toList cs19) (0 : Nat)) fun a20 n21 n22 => opI IntKind.i64 (nthD (Array.toList
  cs19) (1 : Nat)) fun x23 => SzIs (Array.size cs19) (2 : Nat) (Array.size p0 = (261 : Nat) ∧ CallW Try.prog [n1] (60 : Nat) #[Value.agg p0] (fun v24 w25 => opTu v24 fun
  cs26 => opL (nthD (Array.toList cs26) (0 : Nat)) fun a27 n28 n29 => opI IntKind.i64 (nthD (Array.toList cs26) (1 : Nat)) fun x30 => SzIs (Array.size cs26) (2 : Nat)
  (RunW Try.prog [n1] (convert (51 : Nat) (9 : Nat) (Value.slice a20 n21 n22)) (fun v31 w32 => opStr v31 fun s33 => RunW Try.prog [n1] (convert (51 : Nat) (9 : Nat)
  (Value.slice a27 n28 n29)) (fun v34 w35 => opStr v34 fun s36 => Bd (!ByteArray.toList s33 == ByteArray.toList s36) fun b37 => Bd (x23 != x30) fun b38 => Bd (bif b37
  then true else b38) fun b39 => If b39 (R (Value.bool false) w35) (RunW Try.prog [n1] (convert (51 : Nat) (9 : Nat) (Value.slice p3a p3n p3c)) (fun v40 w41 => opStr v40
  fun s42 => CallW Try.prog [n1] (61 : Nat) #[Value.slice p3a p3n p3c] (fun v43 w44 => opTu v43 fun cs45 => opBig (nthD (Array.toList cs45) (0 : Nat)) fun cs46 =>
  Array.size cs46 = (261 : Nat) ∧ opI IntKind.i64 (nthD (Array.toList cs45) (1 : Nat)) fun x47 => SzIs (Array.size cs45) (2 : Nat) (Array.size cs46 = (261 : Nat) ∧ Rg w44
  fun n48 => OkC (Array.toList cs46) (261 : Nat) (Up [n48] [n48, n1] w44 fun w49 => CallW Try.prog [n48, n1] (62 : Nat) #[Value.slice p3a p3n p3c] (fun v50 w51 => opTu
  v50 fun cs52 => opBig (nthD (Array.toList cs52) (0 : Nat)) fun cs53 => Array.size cs53 = (261 : Nat) ∧ opI IntKind.i64 (nthD (Array.toList cs52) (1 : Nat)) fun x54 =>
  SzIs (Array.size cs52) (2 : Nat) (Array.size cs53 = (261 : Nat) ∧ Rg w51 fun n55 => OkC (Array.toList cs53) (261 : Nat) (Array.size cs46 = (261 : Nat) ∧ Array.size cs53
  = (261 : Nat) ∧ Up [n55] [n55, n48, n1] w51 fun w56 => CallW Try.prog [n55, n48, n1] (63 : Nat) #[Value.agg cs46, Value.agg cs53] (fun v57 w58 => opB v57 fun b59 => Bd
  (!b59) fun b60 => Bd (x47 != x54) fun b61 => Bd (bif b60 then true else b61) fun b62 => If b62 (R (Value.bool false) w58) (Bd ((n21 : Nat) : Int) fun x63 => LoopP (fun
  l64 l65 J66 w67 => opI IntKind.i64 (nthD l64 (0 : Nat)) fun x68 => Bd (decide (x68 < x63)) fun b69 => If b69 (IxOk x68 n21 a20 ∧ Ld w67 (adAt a20 x68 (1 : Nat)) fun v70
  => opI IntKind.u8 v70 fun x71 => Bd (IntKind.wrap IntKind.u8 (x71 + (1 : Int))) fun x72 => IxOk x68 n21 a20 ∧ ¬Addr.block (adAt a20 x68 (1 : Nat)) ∈ [n55, n48, n1] ∧ Wr
  w67 (adAt a20 x68 (1 : Nat)) (1 : Nat) ∧ Bd (IntKind.wrap IntKind.i64 (x68 + (1 : Int))) fun x73 => J66 [Value.int IntKind.i64 x73] [] (setCells w67 (adAt a20 x68 (1 :
  Nat)) (0 : Nat) [Value.int IntKind.u8 x72])) (BdO (nthV (Array.toList cs46) (259 : Nat)) fun v74 => opL v74 fun a75 n76 n77 => Bd ((n76 : Nat) : Int) fun x78 => LoopP
  (fun l79 l80 J81 w82 => opI IntKind.i64 (nthD l79 (0 : Nat)) fun x83 => Bd (decide (x83 < x78)) fun b84 => If b84 (BdO (nthV (Array.toList cs46) (259 : Nat)) fun v85 =>
  opL v85 fun a86 n87 n88 => IxOk x83 n87 a86 ∧ Ld w82 (adAt a86 x83 (1 : Nat)) fun v89 => opI IntKind.i64 v89 fun x90 => Bd (IntKind.wrap IntKind.i64 (x90 + (1 : Int)))
  fun x91 => IxOk x83 n87 a86 ∧ ¬Addr.block (adAt a86 x83 (1 : Nat)) ∈ [n55, n48, n1] ∧ Wr w82 (adAt a86 x83 (1 : Nat)) (1 : Nat) ∧ Bd (IntKind.wrap IntKind.i64 (x83 + (1
  : Int))) fun x92 => J81 [Value.int IntKind.i64 x92] [] (setCells w82 (adAt a86 x83 (1 : Nat)) (0 : Nat) [Value.int IntKind.i64 x91])) (Array.size p0 = (261 : Nat) ∧
  CallW Try.prog [n55, n48, n1] (59 : Nat) #[Value.agg p0] (fun v93 w94 => opTu v93 fun cs95 => opL (nthD (Array.toList cs95) (0 : Nat)) fun a96 n97 n98 => opI
  IntKind.i64 (nthD (Array.toList cs95) (1 : Nat)) fun x99 => SzIs (Array.size cs95) (2 : Nat) (CallW Try.prog [n55, n48, n1] (61 : Nat) #[Value.slice p3a p3n p3c] (fun
  v100 w101 => opTu v100 fun cs102 => opBig (nthD (Array.toList cs102) (0 : Nat)) fun cs103 => Array.size cs103 = (261 : Nat) ∧ opI IntKind.i64 (nthD (Array.toList cs102)
  (1 : Nat)) fun x104 => SzIs (Array.size cs102) (2 : Nat) (Array.size cs103 = (261 : Nat) ∧ OkC (Array.toList cs103) (261 : Nat) (SzIs (Array.size cs46) (261 : Nat) (Up
  [n48] [n55, n48, n1] w101 fun w105 => RunW Try.prog [n55, n48, n1] (convert (51 : Nat) (9 : Nat) (Value.slice a96 n97 n98)) (fun v106 w107 => opStr v106 fun s108 =>
  RunW Try.prog [n55, n48, n1] (convert (51 : Nat) (9 : Nat) (Value.slice a27 n28 n29)) (fun v109 w110 => opStr v109 fun s111 => Bd (ByteArray.toList s108 ==
  ByteArray.toList s111) fun b112 => (b112 = true → Array.size cs103 = (261 : Nat)) ∧ (b112 = true → Array.size cs53 = (261 : Nat)) ∧ Gd b112 false (fun J115 => CallW
  Try.prog [n55, n48, n1] (63 : Nat) #[Value.agg cs103, Value.agg cs53] (fun v116 w117 => opB v116 fun b118 => J115 b118 w117) w110) (fun b119 w120 => Bd (bif b112 then
  b119 else false) fun b121 => Gd b121 ByteArray.empty (fun J122 => RunW Try.prog [n55, n48, n1] (convert (51 : Nat) (9 : Nat) (Value.slice p3a p3n p3c)) (fun v123 w124
  => opStr v123 fun s125 => J122 s125 w124) w120) (fun s126 w127 => Bd (ByteArray.toList s126 == ByteArray.toList s42) fun b128 => Bd (bif b121 then b128 else false) fun
  b129 => Gd b129 false (fun J130 => CallW Try.prog [n55, n48, n1] (54 : Nat) #[] (fun v131 w132 => opB v131 fun b133 => J130 b133 w132) w127) (fun b134 w135 => Bd (bif
  b129 then b134 else false) fun b136 => R (Value.bool b136) w135) w127) w120) w110) w107) w105)))) w94)) w82)) [Value.int IntKind.i64 (0 : Int)] [] w67)) [Value.int
  IntKind.i64 (0 : Int)] [] w58)) w56))) w49))) w41) w35)) w32) w25)) w18)) w15)) fun J137 => Array.size p0 = (261 : Nat) ∧ Array.size p0 = (261 : Nat) ∧ CallW Try.prog
  [n1] (55 : Nat) #[Value.agg p0] (fun v138 w139 => opB v138 fun b140 => CallW Try.prog [n1] (56 : Nat) #[Value.agg p0] (fun v141 w142 => opB v141 fun b143 => Bd (!b140
  == b143) fun b144 => ((!b144) = true → Array.size p0 = (261 : Nat)) ∧ ((!b144) = true → Array.size p0 = (261 : Nat)) ∧ Gd (!b144) (0 : Int) (fun J147 => CallW Try.prog
  [n1] (57 : Nat) #[Value.agg p0, Value.int IntKind.i64 p1, Value.int IntKind.u8 p2] (fun v148 w149 => opI IntKind.i64 v148 fun x150 => J147 x150 w149) w142) (fun x151
  w152 => Gd (!b144) (0 : Int) (fun J153 => CallW Try.prog [n1] (58 : Nat) #[Value.agg p0, Value.int IntKind.i64 p1, Value.int IntKind.u8 p2] (fun v154 w155 => opI
  IntKind.i64 v154 fun x156 => J153 x156 w155) w152) (fun x157 w158 => Bd (x151 != x157) fun b159 => Bd (bif b144 then true else b159) fun b160 => J137 [Value.bool b160]
  [] w158) w152) w142) w139) (World.drew w4))) w2
theorem f8_eq (p0 : Array Value) (p1 : Int) (p2 : Int) (p3a : Option Addr) (p3n : Nat) (p3c : Nat) (R : Value → World → Prop) (w : World) : fnW Try.prog [4, 14, 16]
  Try.f8 [Value.agg p0, Value.int IntKind.i64 p1, Value.int IntKind.u8 p2, Value.slice p3a p3n p3c] R w = f8_vc p0 p1 p2 p3a p3n p3c R w := by kernel_rfl
theorem f8_in (p0 : Array Value) (p1 : Int) (p2 : Int) (p3a : Option Addr) (p3n : Nat) (p3c : Nat) (R : Value → World → Prop) (w : World) (h : f8_vc p0 p1 p2 p3a p3n p3c
  R w) : Ct Try.prog 8 #[Value.agg p0, Value.int IntKind.i64 p1, Value.int IntKind.u8 p2, Value.slice p3a p3n p3c] w R := by
  refine Ct_of (rk := [4, 14, 16]) (fn := Try.f8) (args := [Value.agg p0, Value.int IntKind.i64 p1, Value.int IntKind.u8 p2, Value.slice p3a p3n p3c]) mixedT Try.func8 (by kernel_rfl) ?_
  rw [f8_eq]
  exact h
end Fk
