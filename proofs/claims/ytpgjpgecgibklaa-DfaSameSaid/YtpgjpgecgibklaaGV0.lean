/- Conditions of functions, as the generator works them out; each one is checked by the kernel. -/
import Derived.Test.YtpgjpgecgibklaaGK2
set_option linter.unusedVariables false
set_option maxRecDepth 100000
set_option maxHeartbeats 4000000
namespace Fk
open Go Go.Proofs Go.RowKit
def f84_vc (p0_0 : Int) (p0_1 : Int) (p0_2 : Int) (p0_3 : Int) (p0_4 : Int) (p0_5a : Option Addr) (p0_5n : Nat) (p0_5c : Nat) (p1 : Int) (R : Value → World → Prop) (w :
  World) : Prop := Rg w fun n1 => Bd ↑p0_5n fun x2 => Up [] [n1] w fun w3 => LoopP (fun l4 l5 J6 w7 => opI IntKind.i64 (nthD l4 (0 : Nat)) fun x8 => opI IntKind.i64 (nthD
  l4 (1 : Nat)) fun x9 => opI IntKind.i64 (nthD l4 (2 : Nat)) fun x10 => Bd (decide (x10 < x2)) fun b11 => If b11 (Bd (decide (x9 > p1)) fun b12 => If b12 (Bd
  (IntKind.wrap IntKind.i64 (p1 + (1 : Int))) fun x13 => R (Value.int IntKind.i64 x13) w7) (IxOk x10 p0_5n p0_5a ∧ Ld w7 (Addr.add (adAt p0_5a x10 (6 : Nat)) (0 : Nat))
  fun v14 => Ld w7 (Addr.add (adAt p0_5a x10 (6 : Nat)) (1 : Nat)) fun v15 => Ld w7 (Addr.add (adAt p0_5a x10 (6 : Nat)) (2 : Nat)) fun v16 => Ld w7 (Addr.add (adAt p0_5a
  x10 (6 : Nat)) (3 : Nat)) fun v17 => Ld w7 (Addr.add (adAt p0_5a x10 (6 : Nat)) (4 : Nat)) fun v18 => Ld w7 (Addr.add (adAt p0_5a x10 (6 : Nat)) (5 : Nat)) fun v19 =>
  opI IntKind.u8 v14 fun x20 => opI IntKind.u64 v15 fun x21 => opI IntKind.u64 v16 fun x22 => opI IntKind.u64 v17 fun x23 => opI IntKind.u64 v18 fun x24 => opL v19 fun
  a25 n26 n27 => Bd (IntKind.wrap IntKind.i64 (p1 - x9)) fun x28 => CallW Try.prog [n1] (84 : Nat) #[Value.agg #[Value.int IntKind.u8 x20, Value.int IntKind.u64 x21,
  Value.int IntKind.u64 x22, Value.int IntKind.u64 x23, Value.int IntKind.u64 x24, Value.slice a25 n26 n27], Value.int IntKind.i64 x28] (fun v29 w30 => opI IntKind.i64
  v29 fun x31 => Bd (IntKind.wrap IntKind.i64 (x9 + x31)) fun x32 => Bd (IntKind.wrap IntKind.i64 (x10 + (1 : Int))) fun x33 => J6 [Value.int IntKind.i64 x8, Value.int
  IntKind.i64 x32, Value.int IntKind.i64 x33] [] w30) w7)) (R (Value.int IntKind.i64 x9) w7)) [Value.int IntKind.i64 (0 : Int), Value.int IntKind.i64 (1 : Int), Value.int
  IntKind.i64 (0 : Int)] [] w3
theorem f84_eq (p0_0 : Int) (p0_1 : Int) (p0_2 : Int) (p0_3 : Int) (p0_4 : Int) (p0_5a : Option Addr) (p0_5n : Nat) (p0_5c : Nat) (p1 : Int) (R : Value → World → Prop) (w
  : World) : fnW Try.prog [2] Try.f84 [Value.agg #[Value.int IntKind.u8 p0_0, Value.int IntKind.u64 p0_1, Value.int IntKind.u64 p0_2, Value.int IntKind.u64 p0_3,
  Value.int IntKind.u64 p0_4, Value.slice p0_5a p0_5n p0_5c], Value.int IntKind.i64 p1] R w = f84_vc p0_0 p0_1 p0_2 p0_3 p0_4 p0_5a p0_5n p0_5c p1 R w := by kernel_rfl
theorem f84_in (p0_0 : Int) (p0_1 : Int) (p0_2 : Int) (p0_3 : Int) (p0_4 : Int) (p0_5a : Option Addr) (p0_5n : Nat) (p0_5c : Nat) (p1 : Int) (R : Value → World → Prop) (w
  : World) (h : f84_vc p0_0 p0_1 p0_2 p0_3 p0_4 p0_5a p0_5n p0_5c p1 R w) : Ct Try.prog 84 #[Value.agg #[Value.int IntKind.u8 p0_0, Value.int IntKind.u64 p0_1, Value.int
  IntKind.u64 p0_2, Value.int IntKind.u64 p0_3, Value.int IntKind.u64 p0_4, Value.slice p0_5a p0_5n p0_5c], Value.int IntKind.i64 p1] w R := by
  refine Ct_of (rk := [2]) (fn := Try.f84) (args := [Value.agg #[Value.int IntKind.u8 p0_0, Value.int IntKind.u64 p0_1, Value.int IntKind.u64 p0_2, Value.int IntKind.u64 p0_3, Value.int IntKind.u64 p0_4, Value.slice p0_5a p0_5n p0_5c], Value.int IntKind.i64 p1]) mixedT Try.func84 (by kernel_rfl) ?_
  rw [f84_eq]
  exact h
def f38_vc (p0a : Option Addr) (p0n : Nat) (p0c : Nat) (R : Value → World → Prop) (w : World) : Prop := Bd ↑p0n fun x1 => LoopP (fun l2 l3 J4 w5 => opB (nthD l2 (0 :
  Nat)) fun b6 => opI IntKind.i64 (nthD l2 (1 : Nat)) fun x7 => Bd (decide (x7 < x1)) fun b8 => If b8 (IxOk x7 p0n p0a ∧ Ld w5 (Addr.add (adAt p0a x7 (6 : Nat)) (0 :
  Nat)) fun v9 => Ld w5 (Addr.add (adAt p0a x7 (6 : Nat)) (1 : Nat)) fun v10 => Ld w5 (Addr.add (adAt p0a x7 (6 : Nat)) (2 : Nat)) fun v11 => Ld w5 (Addr.add (adAt p0a x7
  (6 : Nat)) (3 : Nat)) fun v12 => Ld w5 (Addr.add (adAt p0a x7 (6 : Nat)) (4 : Nat)) fun v13 => Ld w5 (Addr.add (adAt p0a x7 (6 : Nat)) (5 : Nat)) fun v14 => opI
  IntKind.u8 v9 fun x15 => opI IntKind.u64 v10 fun x16 => opI IntKind.u64 v11 fun x17 => opI IntKind.u64 v12 fun x18 => opI IntKind.u64 v13 fun x19 => opL v14 fun a20 n21
  n22 => Rg w5 fun n23 => Bd (decide (x7 ≥ (6 : Int))) fun b24 => Up [n23] [n23] w5 fun w25 => Gd (!b24) (0 : Int) (fun J26 => CallW Try.prog [n23] (84 : Nat) #[Value.agg
  #[Value.int IntKind.u8 x15, Value.int IntKind.u64 x16, Value.int IntKind.u64 x17, Value.int IntKind.u64 x18, Value.int IntKind.u64 x19, Value.slice a20 n21 n22],
  Value.int IntKind.i64 (200 : Int)] (fun v27 w28 => opI IntKind.i64 v27 fun x29 => J26 x29 w28) w25) (fun x30 w31 => Bd (decide (x30 > (200 : Int))) fun b32 => Bd (bif
  b24 then true else b32) fun b33 => If b33 (R (Value.bool false) w31) (Bd (IntKind.wrap IntKind.i64 (x7 + (1 : Int))) fun x34 => J4 [Value.bool b6, Value.int IntKind.i64
  x34] [] w31)) w25) (R (Value.bool true) w5)) [Value.bool false, Value.int IntKind.i64 (0 : Int)] [] w
theorem f38_eq (p0a : Option Addr) (p0n : Nat) (p0c : Nat) (R : Value → World → Prop) (w : World) : fnW Try.prog [4] Try.f38 [Value.slice p0a p0n p0c] R w = f38_vc p0a
  p0n p0c R w := by kernel_rfl
theorem f38_in (p0a : Option Addr) (p0n : Nat) (p0c : Nat) (R : Value → World → Prop) (w : World) (h : f38_vc p0a p0n p0c R w) : Ct Try.prog 38 #[Value.slice p0a p0n p0c]
  w R := by
  refine Ct_of (rk := [4]) (fn := Try.f38) (args := [Value.slice p0a p0n p0c]) mixedT Try.func38 (by kernel_rfl) ?_
  rw [f38_eq]
  exact h
def f144_vc (p0_0 : Int) (p0_1 : Int) (p0_2 : Int) (p0_3 : Int) (p0_4 : Int) (p0_5a : Option Addr) (p0_5n : Nat) (p0_5c : Nat) (R : Value → World → Prop) (w : World) :
  Prop := Rg w fun n1 => Jn (fun l2 l3 w4 => opI IntKind.i64 (nthD l2 (0 : Nat)) fun x5 => opI IntKind.i64 (nthD l2 (1 : Nat)) fun x6 => opB (nthD l2 (2 : Nat)) fun b7 =>
  opB (nthD l2 (3 : Nat)) fun b8 => Bd ↑p0_5n fun x9 => Bd (decide (x9 < x5)) fun b10 => Bd ↑p0_5n fun x11 => Bd (decide (x11 > x6)) fun b12 => Bd (bif b10 then true else
  b12) fun b13 => Bd (p0_0 == (1 : Int)) fun b14 => Gd (!b13) false (fun J15 => RunW Try.prog [n1] (eqS BinOp.eql (28 : Nat) (Operand.tmp (37 : Nat)) (Operand.tmp (38 :
  Nat)) (Value.agg #[Value.int IntKind.u64 p0_1, Value.int IntKind.u64 p0_2, Value.int IntKind.u64 p0_3, Value.int IntKind.u64 p0_4]) (Value.agg #[Value.int IntKind.u64
  (0 : Int), Value.int IntKind.u64 (0 : Int), Value.int IntKind.u64 (0 : Int), Value.int IntKind.u64 (0 : Int)])) (fun v16 w17 => opB v16 fun b18 => J15 b18 w17)
  (World.drew w4)) (fun b19 w20 => Bd (b14 == b19) fun b21 => Bd (bif b13 then true else b21) fun b22 => If b22 (R (Value.bool false) w20) (Bd ↑p0_5n fun x23 => LoopP
  (fun l24 l25 J26 w27 => opB (nthD l24 (0 : Nat)) fun b28 => opI IntKind.i64 (nthD l24 (1 : Nat)) fun x29 => Bd (decide (x29 < x23)) fun b30 => If b30 (IxOk x29 p0_5n
  p0_5a ∧ Ld w27 (Addr.add (adAt p0_5a x29 (6 : Nat)) (0 : Nat)) fun v31 => Ld w27 (Addr.add (adAt p0_5a x29 (6 : Nat)) (1 : Nat)) fun v32 => Ld w27 (Addr.add (adAt p0_5a
  x29 (6 : Nat)) (2 : Nat)) fun v33 => Ld w27 (Addr.add (adAt p0_5a x29 (6 : Nat)) (3 : Nat)) fun v34 => Ld w27 (Addr.add (adAt p0_5a x29 (6 : Nat)) (4 : Nat)) fun v35 =>
  Ld w27 (Addr.add (adAt p0_5a x29 (6 : Nat)) (5 : Nat)) fun v36 => opI IntKind.u8 v31 fun x37 => opI IntKind.u64 v32 fun x38 => opI IntKind.u64 v33 fun x39 => opI
  IntKind.u64 v34 fun x40 => opI IntKind.u64 v35 fun x41 => opL v36 fun a42 n43 n44 => Rg w27 fun n45 => Up [n45] [n45, n1] w27 fun w46 => CallW Try.prog [n45, n1] (144 :
  Nat) #[Value.agg #[Value.int IntKind.u8 x37, Value.int IntKind.u64 x38, Value.int IntKind.u64 x39, Value.int IntKind.u64 x40, Value.int IntKind.u64 x41, Value.slice a42
  n43 n44]] (fun v47 w48 => opB v47 fun b49 => Bd (!b49) fun b50 => If b50 (R (Value.bool false) w48) (Bd (IntKind.wrap IntKind.i64 (x29 + (1 : Int))) fun x51 => J26
  [Value.bool b28, Value.int IntKind.i64 x51] [] w48)) w46) (R (Value.bool true) w27)) [Value.bool b7, Value.int IntKind.i64 (0 : Int)] [] w20)) (World.drew w4)) fun J52
  => Jn (fun l53 l54 w55 => opB (nthD l53 (0 : Nat)) fun b56 => If b56 (Bd ↑p0_5n fun x57 => J52 [Value.int IntKind.i64 (2 : Int), Value.int IntKind.i64 x57, Value.bool
  false, Value.bool b56] [] (World.drew w55)) (Bd (p0_0 == (4 : Int)) fun b58 => If b58 (J52 [Value.int IntKind.i64 (1 : Int), Value.int IntKind.i64 (1 : Int), Value.bool
  false, Value.bool b56] [] w55) (Jn (fun l59 l60 w61 => opB (nthD l59 (0 : Nat)) fun b62 => If b62 (J52 [Value.int IntKind.i64 (0 : Int), Value.int IntKind.i64 (0 :
  Int), Value.bool false, Value.bool b56] [] w61) (R (Value.bool false) w61)) fun J63 => Bd (p0_0 == (0 : Int)) fun b64 => If b64 (J63 [Value.bool b64] [] w55) (Bd (p0_0
  == (1 : Int)) fun b65 => J63 [Value.bool b65] [] w55)))) fun J66 => Bd (p0_0 == (2 : Int)) fun b67 => If b67 (Up [] [n1] w fun w68 => J66 [Value.bool b67] [] w68) (Bd
  (p0_0 == (3 : Int)) fun b69 => Up [] [n1] w fun w70 => J66 [Value.bool b69] [] w70)
theorem f144_eq (p0_0 : Int) (p0_1 : Int) (p0_2 : Int) (p0_3 : Int) (p0_4 : Int) (p0_5a : Option Addr) (p0_5n : Nat) (p0_5c : Nat) (R : Value → World → Prop) (w : World)
  : fnW Try.prog [1, 6] Try.f144 [Value.agg #[Value.int IntKind.u8 p0_0, Value.int IntKind.u64 p0_1, Value.int IntKind.u64 p0_2, Value.int IntKind.u64 p0_3, Value.int
  IntKind.u64 p0_4, Value.slice p0_5a p0_5n p0_5c]] R w = f144_vc p0_0 p0_1 p0_2 p0_3 p0_4 p0_5a p0_5n p0_5c R w := by kernel_rfl
theorem f144_in (p0_0 : Int) (p0_1 : Int) (p0_2 : Int) (p0_3 : Int) (p0_4 : Int) (p0_5a : Option Addr) (p0_5n : Nat) (p0_5c : Nat) (R : Value → World → Prop) (w : World)
  (h : f144_vc p0_0 p0_1 p0_2 p0_3 p0_4 p0_5a p0_5n p0_5c R w) : Ct Try.prog 144 #[Value.agg #[Value.int IntKind.u8 p0_0, Value.int IntKind.u64 p0_1, Value.int
  IntKind.u64 p0_2, Value.int IntKind.u64 p0_3, Value.int IntKind.u64 p0_4, Value.slice p0_5a p0_5n p0_5c]] w R := by
  refine Ct_of (rk := [1, 6]) (fn := Try.f144) (args := [Value.agg #[Value.int IntKind.u8 p0_0, Value.int IntKind.u64 p0_1, Value.int IntKind.u64 p0_2, Value.int IntKind.u64 p0_3, Value.int IntKind.u64 p0_4, Value.slice p0_5a p0_5n p0_5c]]) mixedT Try.func144 (by kernel_rfl) ?_
  rw [f144_eq]
  exact h
def f40_vc (p0a : Option Addr) (p0n : Nat) (p0c : Nat) (R : Value → World → Prop) (w : World) : Prop := Rg w fun n1 => Bd ↑p0n fun x2 => Up [] [n1] w fun w3 => LoopP (fun
  l4 l5 J6 w7 => opI IntKind.i64 (nthD l4 (0 : Nat)) fun x8 => opI IntKind.i64 (nthD l4 (1 : Nat)) fun x9 => opBig (nthD l5 (0 : Nat)) fun cs10 => Bd (decide (x9 < x2))
  fun b11 => If b11 (IxOk x9 p0n p0a ∧ Ld w7 (Addr.add (adAt p0a x9 (6 : Nat)) (0 : Nat)) fun v12 => Ld w7 (Addr.add (adAt p0a x9 (6 : Nat)) (1 : Nat)) fun v13 => Ld w7
  (Addr.add (adAt p0a x9 (6 : Nat)) (2 : Nat)) fun v14 => Ld w7 (Addr.add (adAt p0a x9 (6 : Nat)) (3 : Nat)) fun v15 => Ld w7 (Addr.add (adAt p0a x9 (6 : Nat)) (4 : Nat))
  fun v16 => Ld w7 (Addr.add (adAt p0a x9 (6 : Nat)) (5 : Nat)) fun v17 => opI IntKind.u8 v12 fun x18 => opI IntKind.u64 v13 fun x19 => opI IntKind.u64 v14 fun x20 => opI
  IntKind.u64 v15 fun x21 => opI IntKind.u64 v16 fun x22 => opL v17 fun a23 n24 n25 => Rg w7 fun n26 => Up [n26] [n26, n1] w7 fun w27 => CallW Try.prog [n26, n1] (144 :
  Nat) #[Value.agg #[Value.int IntKind.u8 x18, Value.int IntKind.u64 x19, Value.int IntKind.u64 x20, Value.int IntKind.u64 x21, Value.int IntKind.u64 x22, Value.slice a23
  n24 n25]] (fun v28 w29 => opB v28 fun b30 => Bd (!b30) fun b31 => If b31 (RunW Try.prog [n26, n1] (Instr.build (25 : Nat) #[]) (fun v32 w33 => opBig v32 fun cs34 =>
  Array.size cs34 = (257 : Nat) ∧ OkC (Array.toList cs34) (257 : Nat) (SzIs (Array.size cs10) (257 : Nat) (Up [n1] [n26, n1] w33 fun w35 => Array.size cs34 = (257 : Nat)
  ∧ R (Value.tuple #[Value.agg cs34, Value.int IntKind.i64 (2 : Int)]) w35))) w29) (Bd (IntKind.wrap IntKind.i64 (x9 + (1 : Int))) fun x36 => J6 [Value.int IntKind.i64
  x8, Value.int IntKind.i64 x36] [Value.agg cs10] w29)) w27) (RunW Try.prog [n1] (Instr.build (25 : Nat) #[((1 : Nat), Value.int IntKind.i64 (1 : Int))]) (fun v37 w38 =>
  opBig v37 fun cs39 => Array.size cs39 = (257 : Nat) ∧ Rg w38 fun n40 => OkC (Array.toList cs39) (257 : Nat) (Up [n40] [n40, n1] w38 fun w41 => CallW Try.prog [n40, n1]
  (145 : Nat) #[Value.slice p0a p0n p0c] (fun v42 w43 => opL v42 fun a44 n45 n46 => Bd ↑n45 fun x47 => LoopP (fun l48 l49 J50 w51 => opI IntKind.i64 (nthD l48 (0 : Nat))
  fun x52 => opBig (nthD l49 (0 : Nat)) fun cs53 => Bd (decide (x52 < x47)) fun b54 => If b54 (IxOk x52 n45 a44 ∧ Ld w51 (Addr.add (adAt a44 x52 (4 : Nat)) (0 : Nat)) fun
  v55 => Ld w51 (Addr.add (adAt a44 x52 (4 : Nat)) (1 : Nat)) fun v56 => Ld w51 (Addr.add (adAt a44 x52 (4 : Nat)) (2 : Nat)) fun v57 => Ld w51 (Addr.add (adAt a44 x52 (4
  : Nat)) (3 : Nat)) fun v58 => opI IntKind.u64 v55 fun x59 => opI IntKind.u64 v56 fun x60 => opI IntKind.u64 v57 fun x61 => opI IntKind.u64 v58 fun x62 => Rg w51 fun n63
  => Array.size cs53 = (257 : Nat) ∧ Up [n63] [n63, n40, n1] w51 fun w64 => CallW Try.prog [n63, n40, n1] (146 : Nat) #[Value.agg cs53, Value.agg #[Value.int IntKind.u64
  x59, Value.int IntKind.u64 x60, Value.int IntKind.u64 x61, Value.int IntKind.u64 x62]] (fun v65 w66 => opBig v65 fun cs67 => Array.size cs67 = (257 : Nat) ∧ OkC
  (Array.toList cs67) (257 : Nat) (SzIs (Array.size cs53) (257 : Nat) (Bd (IntKind.wrap IntKind.i64 (x52 + (1 : Int))) fun x68 => Up [n40] [n63, n40, n1] w66 fun w69 =>
  J50 [Value.int IntKind.i64 x68] [Value.agg cs67] w69))) w64) (Array.size cs53 = (257 : Nat) ∧ OkC (Array.toList cs53) (257 : Nat) (SzIs (Array.size cs10) (257 : Nat)
  (Up [n1] [n40, n1] w51 fun w70 => Array.size cs53 = (257 : Nat) ∧ R (Value.tuple #[Value.agg cs53, Value.int IntKind.i64 (0 : Int)]) w70)))) [Value.int IntKind.i64 (0 :
  Int)] [Value.agg cs39] w43) w41)) w7)) [Value.int IntKind.i64 (0 : Int), Value.int IntKind.i64 (0 : Int)] [Value.agg (List.toArray (zeroL Try.prog (25 : Nat)))] w3
theorem f40_eq (p0a : Option Addr) (p0n : Nat) (p0c : Nat) (R : Value → World → Prop) (w : World) : fnW Try.prog [2, 5, 6, 8] Try.f40 [Value.slice p0a p0n p0c] R w =
  f40_vc p0a p0n p0c R w := by kernel_rfl
theorem f40_in (p0a : Option Addr) (p0n : Nat) (p0c : Nat) (R : Value → World → Prop) (w : World) (h : f40_vc p0a p0n p0c R w) : Ct Try.prog 40 #[Value.slice p0a p0n p0c]
  w R := by
  refine Ct_of (rk := [2, 5, 6, 8]) (fn := Try.f40) (args := [Value.slice p0a p0n p0c]) mixedT Try.func40 (by kernel_rfl) ?_
  rw [f40_eq]
  exact h
def f145_vc (p0a : Option Addr) (p0n : Nat) (p0c : Nat) (R : Value → World → Prop) (w : World) : Prop := Bd ↑p0n fun x1 => LoopP (fun l2 l3 J4 w5 => opL (nthD l2 (0 :
  Nat)) fun a6 n7 n8 => opI IntKind.i64 (nthD l2 (1 : Nat)) fun x9 => Bd (decide (x9 < x1)) fun b10 => If b10 (IxOk x9 p0n p0a ∧ Ld w5 (Addr.add (adAt p0a x9 (6 : Nat))
  (0 : Nat)) fun v11 => Ld w5 (Addr.add (adAt p0a x9 (6 : Nat)) (1 : Nat)) fun v12 => Ld w5 (Addr.add (adAt p0a x9 (6 : Nat)) (2 : Nat)) fun v13 => Ld w5 (Addr.add (adAt
  p0a x9 (6 : Nat)) (3 : Nat)) fun v14 => Ld w5 (Addr.add (adAt p0a x9 (6 : Nat)) (4 : Nat)) fun v15 => Ld w5 (Addr.add (adAt p0a x9 (6 : Nat)) (5 : Nat)) fun v16 => opI
  IntKind.u8 v11 fun x17 => opI IntKind.u64 v12 fun x18 => opI IntKind.u64 v13 fun x19 => opI IntKind.u64 v14 fun x20 => opI IntKind.u64 v15 fun x21 => opL v16 fun a22
  n23 n24 => Rg w5 fun n25 => Jn (fun l26 l27 w28 => opL (nthD l26 (0 : Nat)) fun a29 n30 n31 => CallW Try.prog [n25] (145 : Nat) #[Value.slice a22 n23 n24] (fun v32 w33
  => opL v32 fun a34 n35 n36 => RunW Try.prog [n25] (Builtin.append_ #[(43 : Nat), (43 : Nat)] (43 : Nat) #[Value.slice a29 n30 n31, Value.slice a34 n35 n36]) (fun v37
  w38 => opL v37 fun a39 n40 n41 => Bd (IntKind.wrap IntKind.i64 (x9 + (1 : Int))) fun x42 => J4 [Value.slice a39 n40 n41, Value.int IntKind.i64 x42] [] w38) w33) w28)
  fun J43 => Bd (x17 == (1 : Int)) fun b44 => If b44 (Up [n25] [n25] w5 fun w45 => Nw (Obj.cells #[Value.int IntKind.u64 x18, Value.int IntKind.u64 x19, Value.int
  IntKind.u64 x20, Value.int IntKind.u64 x21] (28 : Nat)) w45 fun n46 w47 => RunW Try.prog [n25] (Builtin.append_ #[(43 : Nat), (43 : Nat)] (43 : Nat) #[Value.slice a6 n7
  n8, Value.slice (some { block := n46, off := (0 : Nat) }) (1 : Nat) (1 : Nat)]) (fun v48 w49 => opL v48 fun a50 n51 n52 => J43 [Value.slice a50 n51 n52] [] w49) w47)
  (Up [n25] [n25] w5 fun w53 => J43 [Value.slice a6 n7 n8] [] w53)) (R (Value.slice a6 n7 n8) w5)) [Value.slice none (0 : Nat) (0 : Nat), Value.int IntKind.i64 (0 : Int)]
  [] w
theorem f145_eq (p0a : Option Addr) (p0n : Nat) (p0c : Nat) (R : Value → World → Prop) (w : World) : fnW Try.prog [5] Try.f145 [Value.slice p0a p0n p0c] R w = f145_vc p0a
  p0n p0c R w := by kernel_rfl
theorem f145_in (p0a : Option Addr) (p0n : Nat) (p0c : Nat) (R : Value → World → Prop) (w : World) (h : f145_vc p0a p0n p0c R w) : Ct Try.prog 145 #[Value.slice p0a p0n
  p0c] w R := by
  refine Ct_of (rk := [5]) (fn := Try.f145) (args := [Value.slice p0a p0n p0c]) mixedT Try.func145 (by kernel_rfl) ?_
  rw [f145_eq]
  exact h
def f146_vc (p0 : Array Value) (p1_0 : Int) (p1_1 : Int) (p1_2 : Int) (p1_3 : Int) (R : Value → World → Prop) (w : World) : Prop := Rg w fun n1 => Rg w fun n2 => Rg w fun
  n3 => Up [] [n3, n2, n1] w fun w4 => Nw (Obj.map #[] (0 : Nat)) w4 fun n5 w6 => LoopP (fun l7 l8 J9 w10 => opI IntKind.i64 (nthD l7 (0 : Nat)) fun x11 => opBig (nthD l8
  (0 : Nat)) fun cs12 => Bd (decide (x11 < (256 : Int))) fun b13 => If b13 (((0 : Int) ≤ x11 ∧ x11 < ↑(256 : Nat)) ∧ (BdO (nthV (Array.toList cs12) ((0 : Nat) + Int.toNat
  x11 * (1 : Nat))) fun v14 => opI IntKind.u8 v14 fun x15 => (CallW Try.prog [n3, n2, n1] (214 : Nat) #[Value.agg #[Value.int IntKind.u64 p1_0, Value.int IntKind.u64
  p1_1, Value.int IntKind.u64 p1_2, Value.int IntKind.u64 p1_3], Value.int IntKind.i64 x11] (fun v16 w17 => opB v16 fun b18 => Rg w17 fun n19 => Up [] [n19, n3, n2, n1]
  w17 fun w20 => Up [n19] [n19, n3, n2, n1] w20 fun w21 => RunW Try.prog [n19, n3, n2, n1] (Instr.lookup (274 : Nat) (Value.map (some n5)) (Value.agg #[Value.int
  IntKind.u8 x15, Value.bool b18]) true) (fun v22 w23 => opTu v22 fun cs24 => opI IntKind.u8 (nthD (Array.toList cs24) (0 : Nat)) fun x25 => opB (nthD (Array.toList cs24)
  (1 : Nat)) fun b26 => SzIs (Array.size cs24) (2 : Nat) (Jn (fun l27 l28 w29 => opI IntKind.u8 (nthD l27 (0 : Nat)) fun x30 => ((0 : Int) ≤ x11 ∧ x11 < ↑(256 : Nat)) ∧
  LeC ((0 : Nat) + Int.toNat x11 * (1 : Nat) + (1 : Nat)) (Array.size cs12) (Bd (IntKind.wrap IntKind.i64 (x11 + (1 : Int))) fun x31 => Up [n1] [n19, n3, n2, n1] w29 fun
  w32 => J9 [Value.int IntKind.i64 x31] [Value.agg (List.toArray (wrL (Array.toList cs12) ((0 : Nat) + Int.toNat x11 * (1 : Nat)) [Value.int IntKind.u8 x30]))] w32)) fun
  J33 => Bd (!b26) fun b34 => If b34 (RunW Try.prog [n19, n3, n2, n1] (Builtin.len_ #[(274 : Nat)] (3 : Nat) #[Value.map (some n5)]) (fun v35 w36 => opI IntKind.i64 v35
  fun x37 => Bd (IntKind.wrap IntKind.u8 x37) fun x38 => RunU Try.prog [n19, n3, n2, n1] (Instr.mapUpdate (274 : Nat) (Value.map (some n5)) (Value.agg #[Value.int
  IntKind.u8 x15, Value.bool b18]) (Value.int IntKind.u8 x38)) (fun w39 => J33 [Value.int IntKind.u8 x38] [] w39) w36) w23) (J33 [Value.int IntKind.u8 x25] [] w23))) w21)
  (World.drew w10) ∧ Rg (World.drew w10) fun n40 => Up [] [n40, n3, n2, n1] (World.drew w10) fun w41 => CallW Try.prog [n40, n3, n2, n1] (214 : Nat) #[Value.agg
  #[Value.int IntKind.u64 p1_0, Value.int IntKind.u64 p1_1, Value.int IntKind.u64 p1_2, Value.int IntKind.u64 p1_3], Value.int IntKind.i64 x11] (fun v42 w43 => opB v42
  fun b44 => Up [n40] [n40, n3, n2, n1] w43 fun w45 => RunW Try.prog [n40, n3, n2, n1] (Instr.lookup (274 : Nat) (Value.map (some n5)) (Value.agg #[Value.int IntKind.u8
  x15, Value.bool b44]) true) (fun v46 w47 => opTu v46 fun cs48 => opI IntKind.u8 (nthD (Array.toList cs48) (0 : Nat)) fun x49 => opB (nthD (Array.toList cs48) (1 : Nat))
  fun b50 => SzIs (Array.size cs48) (2 : Nat) (Jn (fun l51 l52 w53 => opI IntKind.u8 (nthD l51 (0 : Nat)) fun x54 => ((0 : Int) ≤ x11 ∧ x11 < ↑(256 : Nat)) ∧ LeC ((0 :
  Nat) + Int.toNat x11 * (1 : Nat) + (1 : Nat)) (Array.size cs12) (Bd (IntKind.wrap IntKind.i64 (x11 + (1 : Int))) fun x55 => Up [n1] [n40, n3, n2, n1] w53 fun w56 => J9
  [Value.int IntKind.i64 x55] [Value.agg (List.toArray (wrL (Array.toList cs12) ((0 : Nat) + Int.toNat x11 * (1 : Nat)) [Value.int IntKind.u8 x54]))] w56)) fun J57 => Bd
  (!b50) fun b58 => If b58 (RunW Try.prog [n40, n3, n2, n1] (Builtin.len_ #[(274 : Nat)] (3 : Nat) #[Value.map (some n5)]) (fun v59 w60 => opI IntKind.i64 v59 fun x61 =>
  Bd (IntKind.wrap IntKind.u8 x61) fun x62 => RunU Try.prog [n40, n3, n2, n1] (Instr.mapUpdate (274 : Nat) (Value.map (some n5)) (Value.agg #[Value.int IntKind.u8 x15,
  Value.bool b44]) (Value.int IntKind.u8 x62)) (fun w63 => J57 [Value.int IntKind.u8 x62] [] w63) w60) w47) (J57 [Value.int IntKind.u8 x49] [] w47))) w45) w41) ∧ Rg
  (World.drew w10) fun n64 => Up [] [n64, n3, n2, n1] (World.drew w10) fun w65 => CallW Try.prog [n64, n3, n2, n1] (214 : Nat) #[Value.agg #[Value.int IntKind.u64 p1_0,
  Value.int IntKind.u64 p1_1, Value.int IntKind.u64 p1_2, Value.int IntKind.u64 p1_3], Value.int IntKind.i64 x11] (fun v66 w67 => opB v66 fun b68 => Up [n64] [n64, n3,
  n2, n1] w67 fun w69 => RunW Try.prog [n64, n3, n2, n1] (Instr.lookup (274 : Nat) (Value.map (some n5)) (Value.agg #[Value.int IntKind.u8 x15, Value.bool b68]) true)
  (fun v70 w71 => opTu v70 fun cs72 => opI IntKind.u8 (nthD (Array.toList cs72) (0 : Nat)) fun x73 => opB (nthD (Array.toList cs72) (1 : Nat)) fun b74 => SzIs (Array.size
  cs72) (2 : Nat) (Jn (fun l75 l76 w77 => opI IntKind.u8 (nthD l75 (0 : Nat)) fun x78 => ((0 : Int) ≤ x11 ∧ x11 < ↑(256 : Nat)) ∧ LeC ((0 : Nat) + Int.toNat x11 * (1 :
  Nat) + (1 : Nat)) (Array.size cs12) (Bd (IntKind.wrap IntKind.i64 (x11 + (1 : Int))) fun x79 => Up [n1] [n64, n3, n2, n1] w77 fun w80 => J9 [Value.int IntKind.i64 x79]
  [Value.agg (List.toArray (wrL (Array.toList cs12) ((0 : Nat) + Int.toNat x11 * (1 : Nat)) [Value.int IntKind.u8 x78]))] w80)) fun J81 => Bd (!b74) fun b82 => If b82
  (RunW Try.prog [n64, n3, n2, n1] (Builtin.len_ #[(274 : Nat)] (3 : Nat) #[Value.map (some n5)]) (fun v83 w84 => opI IntKind.i64 v83 fun x85 => Bd (IntKind.wrap
  IntKind.u8 x85) fun x86 => RunU Try.prog [n64, n3, n2, n1] (Instr.mapUpdate (274 : Nat) (Value.map (some n5)) (Value.agg #[Value.int IntKind.u8 x15, Value.bool b68])
  (Value.int IntKind.u8 x86)) (fun w87 => J81 [Value.int IntKind.u8 x86] [] w87) w84) w71) (J81 [Value.int IntKind.u8 x73] [] w71))) w69) w65) ∧ ((BdO (nthV (Array.toList
  cs12) ((0 : Nat) + Int.toNat x11 * (1 : Nat))) fun v88 => opI IntKind.u8 v88 fun x89 => CallW Try.prog [n3, n2, n1] (214 : Nat) #[Value.agg #[Value.int IntKind.u64
  p1_0, Value.int IntKind.u64 p1_1, Value.int IntKind.u64 p1_2, Value.int IntKind.u64 p1_3], Value.int IntKind.i64 x11] (fun v90 w91 => opB v90 fun b92 => Rg w91 fun n93
  => Up [] [n93, n3, n2, n1] w91 fun w94 => Up [n93] [n93, n3, n2, n1] w94 fun w95 => RunW Try.prog [n93, n3, n2, n1] (Instr.lookup (274 : Nat) (Value.map (some n5))
  (Value.agg #[Value.int IntKind.u8 x89, Value.bool b92]) true) (fun v96 w97 => opTu v96 fun cs98 => opI IntKind.u8 (nthD (Array.toList cs98) (0 : Nat)) fun x99 => opB
  (nthD (Array.toList cs98) (1 : Nat)) fun b100 => SzIs (Array.size cs98) (2 : Nat) (Jn (fun l101 l102 w103 => opI IntKind.u8 (nthD l101 (0 : Nat)) fun x104 => ((0 : Int)
  ≤ x11 ∧ x11 < ↑(256 : Nat)) ∧ LeC ((0 : Nat) + Int.toNat x11 * (1 : Nat) + (1 : Nat)) (Array.size cs12) (Bd (IntKind.wrap IntKind.i64 (x11 + (1 : Int))) fun x105 => Up
  [n1] [n93, n3, n2, n1] w103 fun w106 => J9 [Value.int IntKind.i64 x105] [Value.agg (List.toArray (wrL (Array.toList cs12) ((0 : Nat) + Int.toNat x11 * (1 : Nat))
  [Value.int IntKind.u8 x104]))] w106)) fun J107 => Bd (!b100) fun b108 => If b108 (RunW Try.prog [n93, n3, n2, n1] (Builtin.len_ #[(274 : Nat)] (3 : Nat) #[Value.map
  (some n5)]) (fun v109 w110 => opI IntKind.i64 v109 fun x111 => Bd (IntKind.wrap IntKind.u8 x111) fun x112 => RunU Try.prog [n93, n3, n2, n1] (Instr.mapUpdate (274 :
  Nat) (Value.map (some n5)) (Value.agg #[Value.int IntKind.u8 x89, Value.bool b92]) (Value.int IntKind.u8 x112)) (fun w113 => J107 [Value.int IntKind.u8 x112] [] w113)
  w110) w97) (J107 [Value.int IntKind.u8 x99] [] w97))) w95) (World.drew w10) ∧ Rg (World.drew w10) fun n114 => Up [] [n114, n3, n2, n1] (World.drew w10) fun w115 =>
  CallW Try.prog [n114, n3, n2, n1] (214 : Nat) #[Value.agg #[Value.int IntKind.u64 p1_0, Value.int IntKind.u64 p1_1, Value.int IntKind.u64 p1_2, Value.int IntKind.u64
  p1_3], Value.int IntKind.i64 x11] (fun v116 w117 => opB v116 fun b118 => Up [n114] [n114, n3, n2, n1] w117 fun w119 => RunW Try.prog [n114, n3, n2, n1] (Instr.lookup
  (274 : Nat) (Value.map (some n5)) (Value.agg #[Value.int IntKind.u8 x89, Value.bool b118]) true) (fun v120 w121 => opTu v120 fun cs122 => opI IntKind.u8 (nthD
  (Array.toList cs122) (0 : Nat)) fun x123 => opB (nthD (Array.toList cs122) (1 : Nat)) fun b124 => SzIs (Array.size cs122) (2 : Nat) (Jn (fun l125 l126 w127 => opI
  IntKind.u8 (nthD l125 (0 : Nat)) fun x128 => ((0 : Int) ≤ x11 ∧ x11 < ↑(256 : Nat)) ∧ LeC ((0 : Nat) + Int.toNat x11 * (1 : Nat) + (1 : Nat)) (Array.size cs12) (Bd
  (IntKind.wrap IntKind.i64 (x11 + (1 : Int))) fun x129 => Up [n1] [n114, n3, n2, n1] w127 fun w130 => J9 [Value.int IntKind.i64 x129] [Value.agg (List.toArray (wrL
  (Array.toList cs12) ((0 : Nat) + Int.toNat x11 * (1 : Nat)) [Value.int IntKind.u8 x128]))] w130)) fun J131 => Bd (!b124) fun b132 => If b132 (RunW Try.prog [n114, n3,
  n2, n1] (Builtin.len_ #[(274 : Nat)] (3 : Nat) #[Value.map (some n5)]) (fun v133 w134 => opI IntKind.i64 v133 fun x135 => Bd (IntKind.wrap IntKind.u8 x135) fun x136 =>
  RunU Try.prog [n114, n3, n2, n1] (Instr.mapUpdate (274 : Nat) (Value.map (some n5)) (Value.agg #[Value.int IntKind.u8 x89, Value.bool b118]) (Value.int IntKind.u8
  x136)) (fun w137 => J131 [Value.int IntKind.u8 x136] [] w137) w134) w121) (J131 [Value.int IntKind.u8 x123] [] w121))) w119) w115) ∧ CallW Try.prog [n3, n2, n1] (214 :
  Nat) #[Value.agg #[Value.int IntKind.u64 p1_0, Value.int IntKind.u64 p1_1, Value.int IntKind.u64 p1_2, Value.int IntKind.u64 p1_3], Value.int IntKind.i64 x11] (fun v138
  w139 => opB v138 fun b140 => (BdO (nthV (Array.toList cs12) ((0 : Nat) + Int.toNat x11 * (1 : Nat))) fun v141 => opI IntKind.u8 v141 fun x142 => Rg w139 fun n143 => Up
  [] [n143, n3, n2, n1] w139 fun w144 => Up [n143] [n143, n3, n2, n1] w144 fun w145 => RunW Try.prog [n143, n3, n2, n1] (Instr.lookup (274 : Nat) (Value.map (some n5))
  (Value.agg #[Value.int IntKind.u8 x142, Value.bool b140]) true) (fun v146 w147 => opTu v146 fun cs148 => opI IntKind.u8 (nthD (Array.toList cs148) (0 : Nat)) fun x149
  => opB (nthD (Array.toList cs148) (1 : Nat)) fun b150 => SzIs (Array.size cs148) (2 : Nat) (Jn (fun l151 l152 w153 => opI IntKind.u8 (nthD l151 (0 : Nat)) fun x154 =>
  ((0 : Int) ≤ x11 ∧ x11 < ↑(256 : Nat)) ∧ LeC ((0 : Nat) + Int.toNat x11 * (1 : Nat) + (1 : Nat)) (Array.size cs12) (Bd (IntKind.wrap IntKind.i64 (x11 + (1 : Int))) fun
  x155 => Up [n1] [n143, n3, n2, n1] w153 fun w156 => J9 [Value.int IntKind.i64 x155] [Value.agg (List.toArray (wrL (Array.toList cs12) ((0 : Nat) + Int.toNat x11 * (1 :
  Nat)) [Value.int IntKind.u8 x154]))] w156)) fun J157 => Bd (!b150) fun b158 => If b158 (RunW Try.prog [n143, n3, n2, n1] (Builtin.len_ #[(274 : Nat)] (3 : Nat)
  #[Value.map (some n5)]) (fun v159 w160 => opI IntKind.i64 v159 fun x161 => Bd (IntKind.wrap IntKind.u8 x161) fun x162 => RunU Try.prog [n143, n3, n2, n1]
  (Instr.mapUpdate (274 : Nat) (Value.map (some n5)) (Value.agg #[Value.int IntKind.u8 x142, Value.bool b140]) (Value.int IntKind.u8 x162)) (fun w163 => J157 [Value.int
  IntKind.u8 x162] [] w163) w160) w147) (J157 [Value.int IntKind.u8 x149] [] w147))) w145) ∧ Rg w139 fun n164 => Up [] [n164, n3, n2, n1] w139 fun w165 => BdO (nthV
  (Array.toList cs12) ((0 : Nat) + Int.toNat x11 * (1 : Nat))) fun v166 => opI IntKind.u8 v166 fun x167 => Up [n164] [n164, n3, n2, n1] w165 fun w168 => RunW Try.prog
  [n164, n3, n2, n1] (Instr.lookup (274 : Nat) (Value.map (some n5)) (Value.agg #[Value.int IntKind.u8 x167, Value.bool b140]) true) (fun v169 w170 => opTu v169 fun cs171
  => opI IntKind.u8 (nthD (Array.toList cs171) (0 : Nat)) fun x172 => opB (nthD (Array.toList cs171) (1 : Nat)) fun b173 => SzIs (Array.size cs171) (2 : Nat) (Jn (fun
  l174 l175 w176 => opI IntKind.u8 (nthD l174 (0 : Nat)) fun x177 => ((0 : Int) ≤ x11 ∧ x11 < ↑(256 : Nat)) ∧ LeC ((0 : Nat) + Int.toNat x11 * (1 : Nat) + (1 : Nat))
  (Array.size cs12) (Bd (IntKind.wrap IntKind.i64 (x11 + (1 : Int))) fun x178 => Up [n1] [n164, n3, n2, n1] w176 fun w179 => J9 [Value.int IntKind.i64 x178] [Value.agg
  (List.toArray (wrL (Array.toList cs12) ((0 : Nat) + Int.toNat x11 * (1 : Nat)) [Value.int IntKind.u8 x177]))] w179)) fun J180 => Bd (!b173) fun b181 => If b181 (RunW
  Try.prog [n164, n3, n2, n1] (Builtin.len_ #[(274 : Nat)] (3 : Nat) #[Value.map (some n5)]) (fun v182 w183 => opI IntKind.i64 v182 fun x184 => Bd (IntKind.wrap
  IntKind.u8 x184) fun x185 => RunU Try.prog [n164, n3, n2, n1] (Instr.mapUpdate (274 : Nat) (Value.map (some n5)) (Value.agg #[Value.int IntKind.u8 x167, Value.bool
  b140]) (Value.int IntKind.u8 x185)) (fun w186 => J180 [Value.int IntKind.u8 x185] [] w186) w183) w170) (J180 [Value.int IntKind.u8 x172] [] w170))) w168) (World.drew
  w10) ∧ Rg (World.drew w10) fun n187 => Up [] [n187, n3, n2, n1] (World.drew w10) fun w188 => (BdO (nthV (Array.toList cs12) ((0 : Nat) + Int.toNat x11 * (1 : Nat))) fun
  v189 => opI IntKind.u8 v189 fun x190 => CallW Try.prog [n187, n3, n2, n1] (214 : Nat) #[Value.agg #[Value.int IntKind.u64 p1_0, Value.int IntKind.u64 p1_1, Value.int
  IntKind.u64 p1_2, Value.int IntKind.u64 p1_3], Value.int IntKind.i64 x11] (fun v191 w192 => opB v191 fun b193 => Up [n187] [n187, n3, n2, n1] w192 fun w194 => RunW
  Try.prog [n187, n3, n2, n1] (Instr.lookup (274 : Nat) (Value.map (some n5)) (Value.agg #[Value.int IntKind.u8 x190, Value.bool b193]) true) (fun v195 w196 => opTu v195
  fun cs197 => opI IntKind.u8 (nthD (Array.toList cs197) (0 : Nat)) fun x198 => opB (nthD (Array.toList cs197) (1 : Nat)) fun b199 => SzIs (Array.size cs197) (2 : Nat)
  (Jn (fun l200 l201 w202 => opI IntKind.u8 (nthD l200 (0 : Nat)) fun x203 => ((0 : Int) ≤ x11 ∧ x11 < ↑(256 : Nat)) ∧ LeC ((0 : Nat) + Int.toNat x11 * (1 : Nat) + (1 :
  Nat)) (Array.size cs12) (Bd (IntKind.wrap IntKind.i64 (x11 + (1 : Int))) fun x204 => Up [n1] [n187, n3, n2, n1] w202 fun w205 => J9 [Value.int IntKind.i64 x204]
  [Value.agg (List.toArray (wrL (Array.toList cs12) ((0 : Nat) + Int.toNat x11 * (1 : Nat)) [Value.int IntKind.u8 x203]))] w205)) fun J206 => Bd (!b199) fun b207 => If
  b207 (RunW Try.prog [n187, n3, n2, n1] (Builtin.len_ #[(274 : Nat)] (3 : Nat) #[Value.map (some n5)]) (fun v208 w209 => opI IntKind.i64 v208 fun x210 => Bd
  (IntKind.wrap IntKind.u8 x210) fun x211 => RunU Try.prog [n187, n3, n2, n1] (Instr.mapUpdate (274 : Nat) (Value.map (some n5)) (Value.agg #[Value.int IntKind.u8 x190,
  Value.bool b193]) (Value.int IntKind.u8 x211)) (fun w212 => J206 [Value.int IntKind.u8 x211] [] w212) w209) w196) (J206 [Value.int IntKind.u8 x198] [] w196))) w194)
  w188) ∧ CallW Try.prog [n187, n3, n2, n1] (214 : Nat) #[Value.agg #[Value.int IntKind.u64 p1_0, Value.int IntKind.u64 p1_1, Value.int IntKind.u64 p1_2, Value.int
  IntKind.u64 p1_3], Value.int IntKind.i64 x11] (fun v213 w214 => opB v213 fun b215 => BdO (nthV (Array.toList cs12) ((0 : Nat) + Int.toNat x11 * (1 : Nat))) fun v216 =>
  opI IntKind.u8 v216 fun x217 => Up [n187] [n187, n3, n2, n1] w214 fun w218 => RunW Try.prog [n187, n3, n2, n1] (Instr.lookup (274 : Nat) (Value.map (some n5))
  (Value.agg #[Value.int IntKind.u8 x217, Value.bool b215]) true) (fun v219 w220 => opTu v219 fun cs221 => opI IntKind.u8 (nthD (Array.toList cs221) (0 : Nat)) fun x222
  => opB (nthD (Array.toList cs221) (1 : Nat)) fun b223 => SzIs (Array.size cs221) (2 : Nat) (Jn (fun l224 l225 w226 => opI IntKind.u8 (nthD l224 (0 : Nat)) fun x227 =>
  ((0 : Int) ≤ x11 ∧ x11 < ↑(256 : Nat)) ∧ LeC ((0 : Nat) + Int.toNat x11 * (1 : Nat) + (1 : Nat)) (Array.size cs12) (Bd (IntKind.wrap IntKind.i64 (x11 + (1 : Int))) fun
  x228 => Up [n1] [n187, n3, n2, n1] w226 fun w229 => J9 [Value.int IntKind.i64 x228] [Value.agg (List.toArray (wrL (Array.toList cs12) ((0 : Nat) + Int.toNat x11 * (1 :
  Nat)) [Value.int IntKind.u8 x227]))] w229)) fun J230 => Bd (!b223) fun b231 => If b231 (RunW Try.prog [n187, n3, n2, n1] (Builtin.len_ #[(274 : Nat)] (3 : Nat)
  #[Value.map (some n5)]) (fun v232 w233 => opI IntKind.i64 v232 fun x234 => Bd (IntKind.wrap IntKind.u8 x234) fun x235 => RunU Try.prog [n187, n3, n2, n1]
  (Instr.mapUpdate (274 : Nat) (Value.map (some n5)) (Value.agg #[Value.int IntKind.u8 x217, Value.bool b215]) (Value.int IntKind.u8 x235)) (fun w236 => J230 [Value.int
  IntKind.u8 x235] [] w236) w233) w220) (J230 [Value.int IntKind.u8 x222] [] w220))) w218) w188) ∧ Rg (World.drew w10) fun n237 => Up [] [n237, n3, n2, n1] (World.drew
  w10) fun w238 => (BdO (nthV (Array.toList cs12) ((0 : Nat) + Int.toNat x11 * (1 : Nat))) fun v239 => opI IntKind.u8 v239 fun x240 => CallW Try.prog [n237, n3, n2, n1]
  (214 : Nat) #[Value.agg #[Value.int IntKind.u64 p1_0, Value.int IntKind.u64 p1_1, Value.int IntKind.u64 p1_2, Value.int IntKind.u64 p1_3], Value.int IntKind.i64 x11]
  (fun v241 w242 => opB v241 fun b243 => Up [n237] [n237, n3, n2, n1] w242 fun w244 => RunW Try.prog [n237, n3, n2, n1] (Instr.lookup (274 : Nat) (Value.map (some n5))
  (Value.agg #[Value.int IntKind.u8 x240, Value.bool b243]) true) (fun v245 w246 => opTu v245 fun cs247 => opI IntKind.u8 (nthD (Array.toList cs247) (0 : Nat)) fun x248
  => opB (nthD (Array.toList cs247) (1 : Nat)) fun b249 => SzIs (Array.size cs247) (2 : Nat) (Jn (fun l250 l251 w252 => opI IntKind.u8 (nthD l250 (0 : Nat)) fun x253 =>
  ((0 : Int) ≤ x11 ∧ x11 < ↑(256 : Nat)) ∧ LeC ((0 : Nat) + Int.toNat x11 * (1 : Nat) + (1 : Nat)) (Array.size cs12) (Bd (IntKind.wrap IntKind.i64 (x11 + (1 : Int))) fun
  x254 => Up [n1] [n237, n3, n2, n1] w252 fun w255 => J9 [Value.int IntKind.i64 x254] [Value.agg (List.toArray (wrL (Array.toList cs12) ((0 : Nat) + Int.toNat x11 * (1 :
  Nat)) [Value.int IntKind.u8 x253]))] w255)) fun J256 => Bd (!b249) fun b257 => If b257 (RunW Try.prog [n237, n3, n2, n1] (Builtin.len_ #[(274 : Nat)] (3 : Nat)
  #[Value.map (some n5)]) (fun v258 w259 => opI IntKind.i64 v258 fun x260 => Bd (IntKind.wrap IntKind.u8 x260) fun x261 => RunU Try.prog [n237, n3, n2, n1]
  (Instr.mapUpdate (274 : Nat) (Value.map (some n5)) (Value.agg #[Value.int IntKind.u8 x240, Value.bool b243]) (Value.int IntKind.u8 x261)) (fun w262 => J256 [Value.int
  IntKind.u8 x261] [] w262) w259) w246) (J256 [Value.int IntKind.u8 x248] [] w246))) w244) w238) ∧ (BdO (nthV (Array.toList cs12) ((0 : Nat) + Int.toNat x11 * (1 : Nat)))
  fun v263 => opI IntKind.u8 v263 fun x264 => CallW Try.prog [n237, n3, n2, n1] (214 : Nat) #[Value.agg #[Value.int IntKind.u64 p1_0, Value.int IntKind.u64 p1_1,
  Value.int IntKind.u64 p1_2, Value.int IntKind.u64 p1_3], Value.int IntKind.i64 x11] (fun v265 w266 => opB v265 fun b267 => Up [n237] [n237, n3, n2, n1] w266 fun w268 =>
  RunW Try.prog [n237, n3, n2, n1] (Instr.lookup (274 : Nat) (Value.map (some n5)) (Value.agg #[Value.int IntKind.u8 x264, Value.bool b267]) true) (fun v269 w270 => opTu
  v269 fun cs271 => opI IntKind.u8 (nthD (Array.toList cs271) (0 : Nat)) fun x272 => opB (nthD (Array.toList cs271) (1 : Nat)) fun b273 => SzIs (Array.size cs271) (2 :
  Nat) (Jn (fun l274 l275 w276 => opI IntKind.u8 (nthD l274 (0 : Nat)) fun x277 => ((0 : Int) ≤ x11 ∧ x11 < ↑(256 : Nat)) ∧ LeC ((0 : Nat) + Int.toNat x11 * (1 : Nat) +
  (1 : Nat)) (Array.size cs12) (Bd (IntKind.wrap IntKind.i64 (x11 + (1 : Int))) fun x278 => Up [n1] [n237, n3, n2, n1] w276 fun w279 => J9 [Value.int IntKind.i64 x278]
  [Value.agg (List.toArray (wrL (Array.toList cs12) ((0 : Nat) + Int.toNat x11 * (1 : Nat)) [Value.int IntKind.u8 x277]))] w279)) fun J280 => Bd (!b273) fun b281 => If
  b281 (RunW Try.prog [n237, n3, n2, n1] (Builtin.len_ #[(274 : Nat)] (3 : Nat) #[Value.map (some n5)]) (fun v282 w283 => opI IntKind.i64 v282 fun x284 => Bd
  (IntKind.wrap IntKind.u8 x284) fun x285 => RunU Try.prog [n237, n3, n2, n1] (Instr.mapUpdate (274 : Nat) (Value.map (some n5)) (Value.agg #[Value.int IntKind.u8 x264,
  Value.bool b267]) (Value.int IntKind.u8 x285)) (fun w286 => J280 [Value.int IntKind.u8 x285] [] w286) w283) w270) (J280 [Value.int IntKind.u8 x272] [] w270))) w268)
  w238) ∧ CallW Try.prog [n237, n3, n2, n1] (214 : Nat) #[Value.agg #[Value.int IntKind.u64 p1_0, Value.int IntKind.u64 p1_1, Value.int IntKind.u64 p1_2, Value.int
  IntKind.u64 p1_3], Value.int IntKind.i64 x11] (fun v287 w288 => opB v287 fun b289 => BdO (nthV (Array.toList cs12) ((0 : Nat) + Int.toNat x11 * (1 : Nat))) fun v290 =>
  opI IntKind.u8 v290 fun x291 => Up [n237] [n237, n3, n2, n1] w288 fun w292 => RunW Try.prog [n237, n3, n2, n1] (Instr.lookup (274 : Nat) (Value.map (some n5))
  (Value.agg #[Value.int IntKind.u8 x291, Value.bool b289]) true) (fun v293 w294 => opTu v293 fun cs295 => opI IntKind.u8 (nthD (Array.toList cs295) (0 : Nat)) fun x296
  => opB (nthD (Array.toList cs295) (1 : Nat)) fun b297 => SzIs (Array.size cs295) (2 : Nat) (Jn (fun l298 l299 w300 => opI IntKind.u8 (nthD l298 (0 : Nat)) fun x301 =>
  ((0 : Int) ≤ x11 ∧ x11 < ↑(256 : Nat)) ∧ LeC ((0 : Nat) + Int.toNat x11 * (1 : Nat) + (1 : Nat)) (Array.size cs12) (Bd (IntKind.wrap IntKind.i64 (x11 + (1 : Int))) fun
  x302 => Up [n1] [n237, n3, n2, n1] w300 fun w303 => J9 [Value.int IntKind.i64 x302] [Value.agg (List.toArray (wrL (Array.toList cs12) ((0 : Nat) + Int.toNat x11 * (1 :
  Nat)) [Value.int IntKind.u8 x301]))] w303)) fun J304 => Bd (!b297) fun b305 => If b305 (RunW Try.prog [n237, n3, n2, n1] (Builtin.len_ #[(274 : Nat)] (3 : Nat)
  #[Value.map (some n5)]) (fun v306 w307 => opI IntKind.i64 v306 fun x308 => Bd (IntKind.wrap IntKind.u8 x308) fun x309 => RunU Try.prog [n237, n3, n2, n1]
  (Instr.mapUpdate (274 : Nat) (Value.map (some n5)) (Value.agg #[Value.int IntKind.u8 x291, Value.bool b289]) (Value.int IntKind.u8 x309)) (fun w310 => J304 [Value.int
  IntKind.u8 x309] [] w310) w307) w294) (J304 [Value.int IntKind.u8 x296] [] w294))) w292) w238) (RunW Try.prog [n3, n2, n1] (Builtin.len_ #[(274 : Nat)] (3 : Nat)
  #[Value.map (some n5)]) (fun v311 w312 => opI IntKind.i64 v311 fun x313 => LeC (257 : Nat) (Array.size cs12) (List.length (wrL (Array.toList cs12) (256 : Nat)
  [Value.int IntKind.i64 x313]) = (257 : Nat) ∧ OkC (Array.toList (List.toArray (wrL (Array.toList cs12) (256 : Nat) [Value.int IntKind.i64 x313]))) (257 : Nat) (Up [n3,
  n1] [n3, n2, n1] w312 fun w314 => Array.size (List.toArray (wrL (Array.toList cs12) (256 : Nat) [Value.int IntKind.i64 x313])) = (257 : Nat) ∧ R (Value.agg
  (List.toArray (wrL (Array.toList cs12) (256 : Nat) [Value.int IntKind.i64 x313]))) w314))) w10)) [Value.int IntKind.i64 (0 : Int)] [Value.agg p0] w6
theorem f146_eq (p0 : Array Value) (p1_0 : Int) (p1_1 : Int) (p1_2 : Int) (p1_3 : Int) (R : Value → World → Prop) (w : World) : fnW Try.prog [2, 3, 4, 7] Try.f146
  [Value.agg p0, Value.agg #[Value.int IntKind.u64 p1_0, Value.int IntKind.u64 p1_1, Value.int IntKind.u64 p1_2, Value.int IntKind.u64 p1_3]] R w = f146_vc p0 p1_0 p1_1
  p1_2 p1_3 R w := by kernel_rfl
theorem f146_in (p0 : Array Value) (p1_0 : Int) (p1_1 : Int) (p1_2 : Int) (p1_3 : Int) (R : Value → World → Prop) (w : World) (h : f146_vc p0 p1_0 p1_1 p1_2 p1_3 R w) :
  Ct Try.prog 146 #[Value.agg p0, Value.agg #[Value.int IntKind.u64 p1_0, Value.int IntKind.u64 p1_1, Value.int IntKind.u64 p1_2, Value.int IntKind.u64 p1_3]] w R := by
  refine Ct_of (rk := [2, 3, 4, 7]) (fn := Try.f146) (args := [Value.agg p0, Value.agg #[Value.int IntKind.u64 p1_0, Value.int IntKind.u64 p1_1, Value.int IntKind.u64 p1_2, Value.int IntKind.u64 p1_3]]) mixedT Try.func146 (by kernel_rfl) ?_
  rw [f146_eq]
  exact h
def f214_vc (p0_0 : Int) (p0_1 : Int) (p0_2 : Int) (p0_3 : Int) (p1 : Int) (R : Value → World → Prop) (w : World) : Prop := Rg w fun n1 => Bd (IntKind.wrap IntKind.i64
  (Int.tdiv p1 (64 : Int))) fun x2 => ((0 : Int) ≤ x2 ∧ x2 < ↑(4 : Nat)) ∧ BdO (nthV [Value.int IntKind.u64 p0_0, Value.int IntKind.u64 p0_1, Value.int IntKind.u64 p0_2,
  Value.int IntKind.u64 p0_3] ((0 : Nat) + Int.toNat x2 * (1 : Nat))) fun v3 => opI IntKind.u64 v3 fun x4 => Bd (Int.tmod p1 (64 : Int)) fun x5 => (0 : Int) ≤ x5 ∧ Bd
  (Int.fdiv x4 ((2 : Int) ^ min (Int.toNat x5) (64 : Nat))) fun x6 => Bd (IntKind.wrap IntKind.u64 ↑(BitVec.toNat (BitVec.ofInt (64 : Nat) x6 &&& BitVec.ofInt (64 : Nat)
  (1 : Int)))) fun x7 => Bd (x7 == (1 : Int)) fun b8 => Up [] [n1] w fun w9 => R (Value.bool b8) w9
theorem f214_eq (p0_0 : Int) (p0_1 : Int) (p0_2 : Int) (p0_3 : Int) (p1 : Int) (R : Value → World → Prop) (w : World) : fnW Try.prog [2] Try.f214 [Value.agg #[Value.int
  IntKind.u64 p0_0, Value.int IntKind.u64 p0_1, Value.int IntKind.u64 p0_2, Value.int IntKind.u64 p0_3], Value.int IntKind.i64 p1] R w = f214_vc p0_0 p0_1 p0_2 p0_3 p1 R
  w := by kernel_rfl
theorem f214_in (p0_0 : Int) (p0_1 : Int) (p0_2 : Int) (p0_3 : Int) (p1 : Int) (R : Value → World → Prop) (w : World) (h : f214_vc p0_0 p0_1 p0_2 p0_3 p1 R w) : Ct
  Try.prog 214 #[Value.agg #[Value.int IntKind.u64 p0_0, Value.int IntKind.u64 p0_1, Value.int IntKind.u64 p0_2, Value.int IntKind.u64 p0_3], Value.int IntKind.i64 p1] w
  R := by
  refine Ct_of (rk := [2]) (fn := Try.f214) (args := [Value.agg #[Value.int IntKind.u64 p0_0, Value.int IntKind.u64 p0_1, Value.int IntKind.u64 p0_2, Value.int IntKind.u64 p0_3], Value.int IntKind.i64 p1]) mixedT Try.func214 (by kernel_rfl) ?_
  rw [f214_eq]
  exact h
def f42_vc (p0 : Array Value) (p1 : Int) (R : Value → World → Prop) (w : World) : Prop := Rg w fun n1 => Array.size p0 = (257 : Nat) ∧ Up [] [n1] w fun w2 => CallW
  Try.prog [n1] (44 : Nat) #[Value.agg p0] (fun v3 w4 => opB v3 fun b5 => Bd (!b5) fun b6 => Bd (decide (p1 < (0 : Int))) fun b7 => Bd (bif b6 then true else b7) fun b8
  => ((!b8) = true → isI IntKind.i64 (Array.toList p0) (256 : Nat)) ∧ Bd (rdI (Array.toList p0) (256 : Nat)) fun x10 => Bd (decide (p1 ≥ x10)) fun b11 => Bd (bif b8 then
  true else b11) fun b12 => If b12 (R (Value.tuple #[Value.int IntKind.u8 (0 : Int), Value.bool false]) w4) (LoopP (fun l13 l14 J15 w16 => opI IntKind.u8 (nthD l13 (0 :
  Nat)) fun x17 => opB (nthD l13 (1 : Nat)) fun b18 => opI IntKind.i64 (nthD l13 (2 : Nat)) fun x19 => Bd (decide (x19 < (256 : Int))) fun b20 => If b20 (((0 : Int) ≤ x19
  ∧ x19 < ↑(256 : Nat)) ∧ BdO (nthV (Array.toList p0) ((0 : Nat) + Int.toNat x19 * (1 : Nat))) fun v21 => opI IntKind.u8 v21 fun x22 => Bd (IntKind.wrap IntKind.i64 x22)
  fun x23 => Bd (x23 == p1) fun b24 => If b24 (Bd (IntKind.wrap IntKind.u8 x19) fun x25 => R (Value.tuple #[Value.int IntKind.u8 x25, Value.bool true]) w16) (Bd
  (IntKind.wrap IntKind.i64 (x19 + (1 : Int))) fun x26 => J15 [Value.int IntKind.u8 x17, Value.bool b18, Value.int IntKind.i64 x26] [] w16)) (R (Value.tuple #[Value.int
  IntKind.u8 (0 : Int), Value.bool false]) w16)) [Value.int IntKind.u8 (0 : Int), Value.bool false, Value.int IntKind.i64 (0 : Int)] [] w4)) w2
theorem f42_eq (p0 : Array Value) (p1 : Int) (R : Value → World → Prop) (w : World) : fnW Try.prog [2] Try.f42 [Value.agg p0, Value.int IntKind.i64 p1] R w = f42_vc p0 p1
  R w := by kernel_rfl
theorem f42_in (p0 : Array Value) (p1 : Int) (R : Value → World → Prop) (w : World) (h : f42_vc p0 p1 R w) : Ct Try.prog 42 #[Value.agg p0, Value.int IntKind.i64 p1] w R
  := by
  refine Ct_of (rk := [2]) (fn := Try.f42) (args := [Value.agg p0, Value.int IntKind.i64 p1]) mixedT Try.func42 (by kernel_rfl) ?_
  rw [f42_eq]
  exact h
def f44_vc (p0 : Array Value) (R : Value → World → Prop) (w : World) : Prop := Rg w fun n1 => Up [] [n1] w fun w2 => LoopP (fun l3 l4 J5 w6 => opB (nthD l3 (0 : Nat)) fun
  b7 => opI IntKind.i64 (nthD l3 (1 : Nat)) fun x8 => opI IntKind.i64 (nthD l3 (2 : Nat)) fun x9 => Bd (decide (x9 < (256 : Int))) fun b10 => If b10 (Jn (fun l11 l12 w13
  => opB (nthD l11 (0 : Nat)) fun b14 => opI IntKind.i64 (nthD l11 (1 : Nat)) fun x15 => opI IntKind.i64 (nthD l11 (2 : Nat)) fun x16 => opI IntKind.i64 (nthD l11 (3 :
  Nat)) fun x17 => Bd (IntKind.wrap IntKind.i64 (x9 + (1 : Int))) fun x18 => J5 [Value.bool b14, Value.int IntKind.i64 x15, Value.int IntKind.i64 x18] [] w13) fun J19 =>
  ((0 : Int) ≤ x9 ∧ x9 < ↑(256 : Nat)) ∧ BdO (nthV (Array.toList p0) ((0 : Nat) + Int.toNat x9 * (1 : Nat))) fun v20 => opI IntKind.u8 v20 fun x21 => Bd (IntKind.wrap
  IntKind.i64 x21) fun x22 => Bd (decide (x22 > x8)) fun b23 => If b23 (R (Value.bool false) w6) (Bd (x22 == x8) fun b24 => If b24 (Bd (IntKind.wrap IntKind.i64 (x8 + (1
  : Int))) fun x25 => J19 [Value.bool b7, Value.int IntKind.i64 x25, Value.int IntKind.i64 x9, Value.int IntKind.i64 x22] [] w6) (J19 [Value.bool b7, Value.int
  IntKind.i64 x8, Value.int IntKind.i64 x9, Value.int IntKind.i64 x22] [] w6))) (BdO (nthV (Array.toList p0) (256 : Nat)) fun v26 => opI IntKind.i64 v26 fun x27 => Bd (x8
  == x27) fun b28 => R (Value.bool b28) w6)) [Value.bool false, Value.int IntKind.i64 (0 : Int), Value.int IntKind.i64 (0 : Int)] [] w2
theorem f44_eq (p0 : Array Value) (R : Value → World → Prop) (w : World) : fnW Try.prog [1] Try.f44 [Value.agg p0] R w = f44_vc p0 R w := by kernel_rfl
theorem f44_in (p0 : Array Value) (R : Value → World → Prop) (w : World) (h : f44_vc p0 R w) : Ct Try.prog 44 #[Value.agg p0] w R := by
  refine Ct_of (rk := [1]) (fn := Try.f44) (args := [Value.agg p0]) mixedT Try.func44 (by kernel_rfl) ?_
  rw [f44_eq]
  exact h
def f46_vc (p0 : Array Value) (p1_0 : Int) (p1_1 : Int) (p1_2 : Int) (p1_3 : Int) (R : Value → World → Prop) (w : World) : Prop := Rg w fun n1 => Rg w fun n2 => Jn (fun
  l3 l4 w5 => opB (nthD l3 (0 : Nat)) fun b6 => R (Value.bool b6) w5) fun J7 => Up [] [n2, n1] w fun w8 => Array.size p0 = (257 : Nat) ∧ CallW Try.prog [n2, n1] (44 :
  Nat) #[Value.agg p0] (fun v9 w10 => opB v9 fun b11 => (b11 = true → Array.size p0 = (257 : Nat)) ∧ (b11 = true → isI IntKind.i64 (Array.toList p0) (256 : Nat)) ∧ Bd
  (rdI (Array.toList p0) (256 : Nat)) fun x14 => Gd b11 #[] (fun J15 => CallW Try.prog [n2, n1] (146 : Nat) #[Value.agg p0, Value.agg #[Value.int IntKind.u64 p1_0,
  Value.int IntKind.u64 p1_1, Value.int IntKind.u64 p1_2, Value.int IntKind.u64 p1_3]] (fun v16 w17 => opBig v16 fun cs18 => Array.size cs18 = (257 : Nat) ∧ J15 cs18 w17)
  w10) (fun cs19 w20 => (b11 = true → isI IntKind.i64 (Array.toList cs19) (256 : Nat)) ∧ Bd (rdI (Array.toList cs19) (256 : Nat)) fun x22 => Bd (x22 == x14) fun b23 => Bd
  (bif b11 then b23 else false) fun b24 => J7 [Value.bool b24] [] w20) w10) (World.drew w8)
theorem f46_eq (p0 : Array Value) (p1_0 : Int) (p1_1 : Int) (p1_2 : Int) (p1_3 : Int) (R : Value → World → Prop) (w : World) : fnW Try.prog [2, 3] Try.f46 [Value.agg p0,
  Value.agg #[Value.int IntKind.u64 p1_0, Value.int IntKind.u64 p1_1, Value.int IntKind.u64 p1_2, Value.int IntKind.u64 p1_3]] R w = f46_vc p0 p1_0 p1_1 p1_2 p1_3 R w :=
  by kernel_rfl
theorem f46_in (p0 : Array Value) (p1_0 : Int) (p1_1 : Int) (p1_2 : Int) (p1_3 : Int) (R : Value → World → Prop) (w : World) (h : f46_vc p0 p1_0 p1_1 p1_2 p1_3 R w) : Ct
  Try.prog 46 #[Value.agg p0, Value.agg #[Value.int IntKind.u64 p1_0, Value.int IntKind.u64 p1_1, Value.int IntKind.u64 p1_2, Value.int IntKind.u64 p1_3]] w R := by
  refine Ct_of (rk := [2, 3]) (fn := Try.f46) (args := [Value.agg p0, Value.agg #[Value.int IntKind.u64 p1_0, Value.int IntKind.u64 p1_1, Value.int IntKind.u64 p1_2, Value.int IntKind.u64 p1_3]]) mixedT Try.func46 (by kernel_rfl) ?_
  rw [f46_eq]
  exact h
def f50_vc (p0_0 : Int) (p0_1 : Int) (p0_2 : Int) (p0_3 : Int) (p1 : Int) (R : Value → World → Prop) (w : World) : Prop := Rg w fun n1 => Bd (IntKind.wrap IntKind.u8
  (Int.tdiv p1 (64 : Int))) fun x2 => ((0 : Int) ≤ x2 ∧ x2 < ↑(4 : Nat)) ∧ BdO (nthV [Value.int IntKind.u64 p0_0, Value.int IntKind.u64 p0_1, Value.int IntKind.u64 p0_2,
  Value.int IntKind.u64 p0_3] ((0 : Nat) + Int.toNat x2 * (1 : Nat))) fun v3 => opI IntKind.u64 v3 fun x4 => Bd (Int.tmod p1 (64 : Int)) fun x5 => (0 : Int) ≤ x5 ∧ Bd
  (Int.fdiv x4 ((2 : Int) ^ min (Int.toNat x5) (64 : Nat))) fun x6 => Bd (IntKind.wrap IntKind.u64 ↑(BitVec.toNat (BitVec.ofInt (64 : Nat) x6 &&& BitVec.ofInt (64 : Nat)
  (1 : Int)))) fun x7 => Bd (x7 == (1 : Int)) fun b8 => Up [] [n1] w fun w9 => R (Value.bool b8) w9
theorem f50_eq (p0_0 : Int) (p0_1 : Int) (p0_2 : Int) (p0_3 : Int) (p1 : Int) (R : Value → World → Prop) (w : World) : fnW Try.prog [2] Try.f50 [Value.agg #[Value.int
  IntKind.u64 p0_0, Value.int IntKind.u64 p0_1, Value.int IntKind.u64 p0_2, Value.int IntKind.u64 p0_3], Value.int IntKind.u8 p1] R w = f50_vc p0_0 p0_1 p0_2 p0_3 p1 R w
  := by kernel_rfl
theorem f50_in (p0_0 : Int) (p0_1 : Int) (p0_2 : Int) (p0_3 : Int) (p1 : Int) (R : Value → World → Prop) (w : World) (h : f50_vc p0_0 p0_1 p0_2 p0_3 p1 R w) : Ct Try.prog
  50 #[Value.agg #[Value.int IntKind.u64 p0_0, Value.int IntKind.u64 p0_1, Value.int IntKind.u64 p0_2, Value.int IntKind.u64 p0_3], Value.int IntKind.u8 p1] w R := by
  refine Ct_of (rk := [2]) (fn := Try.f50) (args := [Value.agg #[Value.int IntKind.u64 p0_0, Value.int IntKind.u64 p0_1, Value.int IntKind.u64 p0_2, Value.int IntKind.u64 p0_3], Value.int IntKind.u8 p1]) mixedT Try.func50 (by kernel_rfl) ?_
  rw [f50_eq]
  exact h
end Fk
set_option linter.unusedVariables false
set_option maxRecDepth 1000000
set_option maxHeartbeats 4000000
namespace Fk
open Go Go.Proofs Go.RowKit
def f72_vc (p0_0 : Int) (p0_1a : Option Addr) (p0_1n : Nat) (p0_1c : Nat) (p0_2a : Option Addr) (p0_2n : Nat) (p0_2c : Nat) (R : Value → World → Prop) (w : World) : Prop
  := Rg w fun n1 => Bd ((p0_2n : Nat) : Int) fun x2 => Bd (decide (p0_0 < (1 : Int))) fun b3 => Bd (decide (p0_0 > (256 : Int))) fun b4 => Bd (bif b3 then true else b4)
  fun b5 => Bd (decide (x2 < (1 : Int))) fun b6 => Bd (bif b5 then true else b6) fun b7 => Bd (decide (x2 > (5000 : Int))) fun b8 => Bd (bif b7 then true else b8) fun b9
  => Bd ((p0_1n : Nat) : Int) fun x10 => Bd (IntKind.wrap IntKind.i64 (p0_0 * x2)) fun x11 => Bd (x10 != x11) fun b12 => Bd (bif b9 then true else b12) fun b13 => If b13
  (Up [] [n1] w fun w14 => R (Value.bool false) w14) (Bd ((p0_2n : Nat) : Int) fun x15 => Up [] [n1] w fun w16 => LoopP (fun l17 l18 J19 w20 => opB (nthD l17 (0 : Nat))
  fun b21 => opI IntKind.i64 (nthD l17 (1 : Nat)) fun x22 => Bd (decide (x22 < x15)) fun b23 => If b23 (IxOk x22 p0_2n p0_2a ∧ Ld w20 (adAt p0_2a x22 (1 : Nat)) fun v24
  => opI IntKind.i64 v24 fun x25 => Bd (decide (x25 < (-1 : Int))) fun b26 => Bd (decide (x25 ≥ (200 : Int))) fun b27 => Bd (bif b26 then true else b27) fun b28 => If b28
  (R (Value.bool false) w20) (Bd (IntKind.wrap IntKind.i64 (x22 + (1 : Int))) fun x29 => J19 [Value.bool b21, Value.int IntKind.i64 x29] [] w20)) (Bd ((p0_1n : Nat) :
  Int) fun x30 => LoopP (fun l31 l32 J33 w34 => opB (nthD l31 (0 : Nat)) fun b35 => opI IntKind.i64 (nthD l31 (1 : Nat)) fun x36 => Bd (decide (x36 < x30)) fun b37 => If
  b37 (IxOk x36 p0_1n p0_1a ∧ Ld w34 (adAt p0_1a x36 (1 : Nat)) fun v38 => opI IntKind.i64 v38 fun x39 => Bd (decide (x39 < (-1 : Int))) fun b40 => Bd (decide (x39 ≥ x2))
  fun b41 => Bd (bif b40 then true else b41) fun b42 => If b42 (R (Value.bool false) w34) (Bd (IntKind.wrap IntKind.i64 (x36 + (1 : Int))) fun x43 => J33 [Value.bool b35,
  Value.int IntKind.i64 x43] [] w34)) (R (Value.bool true) w34)) [Value.bool b21, Value.int IntKind.i64 (0 : Int)] [] w20)) [Value.bool false, Value.int IntKind.i64 (0 :
  Int)] [] w16)
theorem f72_eq (p0_0 : Int) (p0_1a : Option Addr) (p0_1n : Nat) (p0_1c : Nat) (p0_2a : Option Addr) (p0_2n : Nat) (p0_2c : Nat) (R : Value → World → Prop) (w : World) :
  fnW Try.prog [1] Try.f72 [Value.agg #[Value.int IntKind.i64 p0_0, Value.slice p0_1a p0_1n p0_1c, Value.slice p0_2a p0_2n p0_2c]] R w = f72_vc p0_0 p0_1a p0_1n p0_1c
  p0_2a p0_2n p0_2c R w := by kernel_rfl
theorem f72_in (p0_0 : Int) (p0_1a : Option Addr) (p0_1n : Nat) (p0_1c : Nat) (p0_2a : Option Addr) (p0_2n : Nat) (p0_2c : Nat) (R : Value → World → Prop) (w : World) (h
  : f72_vc p0_0 p0_1a p0_1n p0_1c p0_2a p0_2n p0_2c R w) : Ct Try.prog 72 #[Value.agg #[Value.int IntKind.i64 p0_0, Value.slice p0_1a p0_1n p0_1c, Value.slice p0_2a p0_2n
  p0_2c]] w R := by
  refine Ct_of (rk := [1]) (fn := Try.f72) (args := [Value.agg #[Value.int IntKind.i64 p0_0, Value.slice p0_1a p0_1n p0_1c, Value.slice p0_2a p0_2n p0_2c]]) mixedT Try.func72 (by kernel_rfl) ?_
  rw [f72_eq]
  exact h
def f96_vc (p0_0 : Int) (p0_1a : Option Addr) (p0_1n : Nat) (p0_1c : Nat) (p0_2a : Option Addr) (p0_2n : Nat) (p0_2c : Nat) (p1_0 : Int) (p1_1a : Option Addr) (p1_1n :
  Nat) (p1_1c : Nat) (p1_2a : Option Addr) (p1_2n : Nat) (p1_2c : Nat) (R : Value → World → Prop) (w : World) : Prop := Rg w fun n1 => Rg w fun n2 => Bd (p0_0 == p1_0)
  fun b3 => Up [] [n2, n1] w fun w4 => Gd b3 false (fun J5 => CallW Try.prog [n2, n1] (73 : Nat) #[Value.slice p0_1a p0_1n p0_1c, Value.slice p1_1a p1_1n p1_1c] (fun v6
  w7 => opB v6 fun b8 => J5 b8 w7) w4) (fun b9 w10 => Bd (bif b3 then b9 else false) fun b11 => Gd b11 false (fun J12 => CallW Try.prog [n2, n1] (73 : Nat) #[Value.slice
  p0_2a p0_2n p0_2c, Value.slice p1_2a p1_2n p1_2c] (fun v13 w14 => opB v13 fun b15 => J12 b15 w14) w10) (fun b16 w17 => Bd (bif b11 then b16 else false) fun b18 => R
  (Value.bool b18) w17) w10) w4
theorem f96_eq (p0_0 : Int) (p0_1a : Option Addr) (p0_1n : Nat) (p0_1c : Nat) (p0_2a : Option Addr) (p0_2n : Nat) (p0_2c : Nat) (p1_0 : Int) (p1_1a : Option Addr) (p1_1n
  : Nat) (p1_1c : Nat) (p1_2a : Option Addr) (p1_2n : Nat) (p1_2c : Nat) (R : Value → World → Prop) (w : World) : fnW Try.prog [2, 3] Try.f96 [Value.agg #[Value.int
  IntKind.i64 p0_0, Value.slice p0_1a p0_1n p0_1c, Value.slice p0_2a p0_2n p0_2c], Value.agg #[Value.int IntKind.i64 p1_0, Value.slice p1_1a p1_1n p1_1c, Value.slice
  p1_2a p1_2n p1_2c]] R w = f96_vc p0_0 p0_1a p0_1n p0_1c p0_2a p0_2n p0_2c p1_0 p1_1a p1_1n p1_1c p1_2a p1_2n p1_2c R w := by kernel_rfl
theorem f96_in (p0_0 : Int) (p0_1a : Option Addr) (p0_1n : Nat) (p0_1c : Nat) (p0_2a : Option Addr) (p0_2n : Nat) (p0_2c : Nat) (p1_0 : Int) (p1_1a : Option Addr) (p1_1n
  : Nat) (p1_1c : Nat) (p1_2a : Option Addr) (p1_2n : Nat) (p1_2c : Nat) (R : Value → World → Prop) (w : World) (h : f96_vc p0_0 p0_1a p0_1n p0_1c p0_2a p0_2n p0_2c p1_0
  p1_1a p1_1n p1_1c p1_2a p1_2n p1_2c R w) : Ct Try.prog 96 #[Value.agg #[Value.int IntKind.i64 p0_0, Value.slice p0_1a p0_1n p0_1c, Value.slice p0_2a p0_2n p0_2c],
  Value.agg #[Value.int IntKind.i64 p1_0, Value.slice p1_1a p1_1n p1_1c, Value.slice p1_2a p1_2n p1_2c]] w R := by
  refine Ct_of (rk := [2, 3]) (fn := Try.f96) (args := [Value.agg #[Value.int IntKind.i64 p0_0, Value.slice p0_1a p0_1n p0_1c, Value.slice p0_2a p0_2n p0_2c], Value.agg #[Value.int IntKind.i64 p1_0, Value.slice p1_1a p1_1n p1_1c, Value.slice p1_2a p1_2n p1_2c]]) mixedT Try.func96 (by kernel_rfl) ?_
  rw [f96_eq]
  exact h
def f73_vc (p0a : Option Addr) (p0n : Nat) (p0c : Nat) (p1a : Option Addr) (p1n : Nat) (p1c : Nat) (R : Value → World → Prop) (w : World) : Prop := Bd ((p0n : Nat) : Int)
  fun x1 => Bd ((p1n : Nat) : Int) fun x2 => Bd (x1 != x2) fun b3 => If b3 (R (Value.bool false) w) (Bd ((p0n : Nat) : Int) fun x4 => LoopP (fun l5 l6 J7 w8 => opB (nthD
  l5 (0 : Nat)) fun b9 => opI IntKind.i64 (nthD l5 (1 : Nat)) fun x10 => Bd (decide (x10 < x4)) fun b11 => If b11 (Dr (World.drew w8) fun J12 => IxOk x10 p0n p0a ∧ ∃ v13,
  (∀ (w14 : World), J12 w14 → Ld w14 (adAt p0a x10 (1 : Nat)) fun v16 => v16 = v13) ∧ opI IntKind.i64 v13 fun x17 => IxOk x10 p1n p1a ∧ ∃ v18, (∀ (w19 : World), J12 w19 →
  Ld w19 (adAt p1a x10 (1 : Nat)) fun v21 => v21 = v18) ∧ opI IntKind.i64 v18 fun x22 => Bd (x17 != x22) fun b23 => If b23 (R (Value.bool false) (World.drew w8)) (Bd
  (IntKind.wrap IntKind.i64 (x10 + (1 : Int))) fun x24 => J7 [Value.bool b9, Value.int IntKind.i64 x24] [] (World.drew w8))) (R (Value.bool true) w8)) [Value.bool false,
  Value.int IntKind.i64 (0 : Int)] [] w)
theorem f73_eq (p0a : Option Addr) (p0n : Nat) (p0c : Nat) (p1a : Option Addr) (p1n : Nat) (p1c : Nat) (R : Value → World → Prop) (w : World) : fnW Try.prog [] Try.f73
  [Value.slice p0a p0n p0c, Value.slice p1a p1n p1c] R w = f73_vc p0a p0n p0c p1a p1n p1c R w := by kernel_rfl
theorem f73_in (p0a : Option Addr) (p0n : Nat) (p0c : Nat) (p1a : Option Addr) (p1n : Nat) (p1c : Nat) (R : Value → World → Prop) (w : World) (h : f73_vc p0a p0n p0c p1a
  p1n p1c R w) : Ct Try.prog 73 #[Value.slice p0a p0n p0c, Value.slice p1a p1n p1c] w R := by
  refine Ct_of (rk := []) (fn := Try.f73) (args := [Value.slice p0a p0n p0c, Value.slice p1a p1n p1c]) mixedT Try.func73 (by kernel_rfl) ?_
  rw [f73_eq]
  exact h
end Fk
set_option linter.unusedVariables false
set_option maxRecDepth 1000000
set_option maxHeartbeats 4000000
namespace Fk
open Go Go.Proofs Go.RowKit
def f81_vc (p0_0 : Int) (p0_1a : Option Addr) (p0_1n : Nat) (p0_1c : Nat) (R : Value → World → Prop) (w : World) : Prop := Nw (Obj.cells #[Value.int IntKind.i64 p0_0,
  Value.slice p0_1a p0_1n p0_1c] (71 : Nat)) w fun n1 w2 => Ld w2 (Addr.add (Addr.mk n1 (0 : Nat) none) (0 : Nat)) fun v3 => opI IntKind.i64 v3 fun x4 => CallW Try.prog
  [] (186 : Nat) #[Value.int IntKind.i64 x4, Value.pointer (some (Addr.mk n1 (0 : Nat) none))] (fun v5 w6 => opB v5 fun b7 => Bd (!b7) fun b8 => Gd (!b8) (none, (0 :
  Nat), (0 : Nat)) (fun J9 => Ld w6 (Addr.add (Addr.mk n1 (0 : Nat) none) (1 : Nat)) fun v10 => opL v10 fun a11 n12 n13 => J9 (a11, n12, n13) w6) (fun u14 w15 => Bd
  ↑(Prod.fst (Prod.snd u14)) fun x16 => Bd (decide (x16 > (20000 : Int))) fun b17 => Bd (bif b8 then true else b17) fun b18 => If b18 (R (Value.bool false) w15) (Ld w15
  (Addr.add (Addr.mk n1 (0 : Nat) none) (1 : Nat)) fun v19 => opL v19 fun a20 n21 n22 => Bd ((n21 : Nat) : Int) fun x23 => LoopP (fun l24 l25 J26 w27 => opB (nthD l24 (0
  : Nat)) fun b28 => opI IntKind.i64 (nthD l24 (1 : Nat)) fun x29 => Bd (decide (x29 < x23)) fun b30 => If b30 (IxOk x29 n21 a20 ∧ Ld w27 (Addr.add (adAt a20 x29 (8 :
  Nat)) (0 : Nat)) fun v31 => Ld w27 (Addr.add (adAt a20 x29 (8 : Nat)) (1 : Nat)) fun v32 => Ld w27 (Addr.add (adAt a20 x29 (8 : Nat)) (2 : Nat)) fun v33 => Ld w27
  (Addr.add (adAt a20 x29 (8 : Nat)) (3 : Nat)) fun v34 => Ld w27 (Addr.add (adAt a20 x29 (8 : Nat)) (4 : Nat)) fun v35 => Ld w27 (Addr.add (adAt a20 x29 (8 : Nat)) (5 :
  Nat)) fun v36 => Ld w27 (Addr.add (adAt a20 x29 (8 : Nat)) (6 : Nat)) fun v37 => Ld w27 (Addr.add (adAt a20 x29 (8 : Nat)) (7 : Nat)) fun v38 => opI IntKind.u8 v31 fun
  x39 => opI IntKind.u64 v32 fun x40 => opI IntKind.u64 v33 fun x41 => opI IntKind.u64 v34 fun x42 => opI IntKind.u64 v35 fun x43 => opI IntKind.i64 v36 fun x44 => opI
  IntKind.i64 v37 fun x45 => opI IntKind.i64 v38 fun x46 => Rg w27 fun n47 => Rg w27 fun n48 => Jn (fun l49 l50 w51 => opB (nthD l49 (0 : Nat)) fun b52 => opB (nthD l49
  (1 : Nat)) fun b53 => opAg (nthD l50 (0 : Nat)) fun cs54 => opI IntKind.u8 (nthD (Array.toList cs54) (0 : Nat)) fun x55 => opI IntKind.u64 (nthD (Array.toList cs54) (1
  : Nat)) fun x56 => opI IntKind.u64 (nthD (Array.toList cs54) (2 : Nat)) fun x57 => opI IntKind.u64 (nthD (Array.toList cs54) (3 : Nat)) fun x58 => opI IntKind.u64 (nthD
  (Array.toList cs54) (4 : Nat)) fun x59 => opI IntKind.i64 (nthD (Array.toList cs54) (5 : Nat)) fun x60 => opI IntKind.i64 (nthD (Array.toList cs54) (6 : Nat)) fun x61
  => opI IntKind.i64 (nthD (Array.toList cs54) (7 : Nat)) fun x62 => SzIs (Array.size cs54) (8 : Nat) (Bd (!b52) fun b63 => Gd (!b63) false (fun J64 => RunW Try.prog
  [n48, n47] (eqS BinOp.neq (103 : Nat) (Operand.tmp (84 : Nat)) (Operand.tmp (85 : Nat)) (Value.agg #[Value.int IntKind.u8 x39, Value.int IntKind.u64 x40, Value.int
  IntKind.u64 x41, Value.int IntKind.u64 x42, Value.int IntKind.u64 x43, Value.int IntKind.i64 x44, Value.int IntKind.i64 x45, Value.int IntKind.i64 x46]) (Value.agg
  #[Value.int IntKind.u8 x55, Value.int IntKind.u64 x56, Value.int IntKind.u64 x57, Value.int IntKind.u64 x58, Value.int IntKind.u64 x59, Value.int IntKind.i64 x60,
  Value.int IntKind.i64 x61, Value.int IntKind.i64 x62])) (fun v65 w66 => opB v65 fun b67 => J64 b67 w66) w51) (fun b68 w69 => Bd (bif b63 then true else b68) fun b70 =>
  If b70 (R (Value.bool false) w69) (Bd (IntKind.wrap IntKind.i64 (x29 + (1 : Int))) fun x71 => J26 [Value.bool b28, Value.int IntKind.i64 x71] [] w69)) w51)) fun J72 =>
  Bd (x39 == (0 : Int)) fun b73 => If b73 (Bd (decide (x46 ≥ (0 : Int))) fun b74 => Bd (decide (x46 < (200 : Int))) fun b75 => Bd (bif b74 then b75 else false) fun b76 =>
  Up [n48, n48, n47] [n48, n47] w27 fun w77 => J72 [Value.bool b76, Value.bool b73] [Value.agg #[Value.int IntKind.u8 x39, Value.int IntKind.u64 (0 : Int), Value.int
  IntKind.u64 (0 : Int), Value.int IntKind.u64 (0 : Int), Value.int IntKind.u64 (0 : Int), Value.int IntKind.i64 (0 : Int), Value.int IntKind.i64 (0 : Int), Value.int
  IntKind.i64 x46]] w77) (Bd (x39 == (1 : Int)) fun b78 => If b78 (Jn (fun l79 l80 w81 => opAg (nthD l80 (0 : Nat)) fun cs82 => opI IntKind.u8 (nthD (Array.toList cs82)
  (0 : Nat)) fun x83 => opI IntKind.u64 (nthD (Array.toList cs82) (1 : Nat)) fun x84 => opI IntKind.u64 (nthD (Array.toList cs82) (2 : Nat)) fun x85 => opI IntKind.u64
  (nthD (Array.toList cs82) (3 : Nat)) fun x86 => opI IntKind.u64 (nthD (Array.toList cs82) (4 : Nat)) fun x87 => opI IntKind.i64 (nthD (Array.toList cs82) (5 : Nat)) fun
  x88 => opI IntKind.i64 (nthD (Array.toList cs82) (6 : Nat)) fun x89 => opI IntKind.i64 (nthD (Array.toList cs82) (7 : Nat)) fun x90 => SzIs (Array.size cs82) (8 : Nat)
  (RunW Try.prog [n48, n47] (eqS BinOp.neq (28 : Nat) (Operand.tmp (54 : Nat)) (Operand.tmp (55 : Nat)) (Value.agg #[Value.int IntKind.u64 x40, Value.int IntKind.u64 x41,
  Value.int IntKind.u64 x42, Value.int IntKind.u64 x43]) (Value.agg #[Value.int IntKind.u64 (0 : Int), Value.int IntKind.u64 (0 : Int), Value.int IntKind.u64 (0 : Int),
  Value.int IntKind.u64 (0 : Int)])) (fun v91 w92 => opB v91 fun b93 => Gd b93 false (fun J94 => CallW Try.prog [n48, n47] (186 : Nat) #[Value.int IntKind.i64 x44,
  Value.pointer (some (Addr.mk n1 (0 : Nat) none))] (fun v95 w96 => opB v95 fun b97 => J94 b97 w96) w92) (fun b98 w99 => Bd (bif b93 then b98 else false) fun b100 => J72
  [Value.bool b100, Value.bool b73] [Value.agg #[Value.int IntKind.u8 x83, Value.int IntKind.u64 x84, Value.int IntKind.u64 x85, Value.int IntKind.u64 x86, Value.int
  IntKind.u64 x87, Value.int IntKind.i64 x88, Value.int IntKind.i64 x89, Value.int IntKind.i64 x90]] w99) w92) w81)) fun J101 => Up [n48, n47] [n48, n47] w27 fun w102 =>
  Up [n48] [n48, n47] (World.drew w102) fun w103 => Up [n48] [n48, n47] w103 fun w104 => J101 [] [Value.agg #[Value.int IntKind.u8 x39, Value.int IntKind.u64 x40,
  Value.int IntKind.u64 x41, Value.int IntKind.u64 x42, Value.int IntKind.u64 x43, Value.int IntKind.i64 x44, Value.int IntKind.i64 (0 : Int), Value.int IntKind.i64 (0 :
  Int)]] w104) (Bd (x39 == (2 : Int)) fun b105 => If b105 (Jn (fun l106 l107 w108 => opAg (nthD l107 (0 : Nat)) fun cs109 => opI IntKind.u8 (nthD (Array.toList cs109) (0
  : Nat)) fun x110 => opI IntKind.u64 (nthD (Array.toList cs109) (1 : Nat)) fun x111 => opI IntKind.u64 (nthD (Array.toList cs109) (2 : Nat)) fun x112 => opI IntKind.u64
  (nthD (Array.toList cs109) (3 : Nat)) fun x113 => opI IntKind.u64 (nthD (Array.toList cs109) (4 : Nat)) fun x114 => opI IntKind.i64 (nthD (Array.toList cs109) (5 :
  Nat)) fun x115 => opI IntKind.i64 (nthD (Array.toList cs109) (6 : Nat)) fun x116 => opI IntKind.i64 (nthD (Array.toList cs109) (7 : Nat)) fun x117 => SzIs (Array.size
  cs109) (8 : Nat) (CallW Try.prog [n48, n47] (186 : Nat) #[Value.int IntKind.i64 x44, Value.pointer (some (Addr.mk n1 (0 : Nat) none))] (fun v118 w119 => opB v118 fun
  b120 => Gd b120 false (fun J121 => CallW Try.prog [n48, n47] (186 : Nat) #[Value.int IntKind.i64 x45, Value.pointer (some (Addr.mk n1 (0 : Nat) none))] (fun v122 w123
  => opB v122 fun b124 => J121 b124 w123) w119) (fun b125 w126 => Bd (bif b120 then b125 else false) fun b127 => J72 [Value.bool b127, Value.bool b73] [Value.agg
  #[Value.int IntKind.u8 x110, Value.int IntKind.u64 x111, Value.int IntKind.u64 x112, Value.int IntKind.u64 x113, Value.int IntKind.u64 x114, Value.int IntKind.i64 x115,
  Value.int IntKind.i64 x116, Value.int IntKind.i64 x117]] w126) w119) w108)) fun J128 => Up [n48, n47] [n48, n47] w27 fun w129 => Up [n48] [n48, n47] (World.drew w129)
  fun w130 => Up [n48] [n48, n47] w130 fun w131 => J128 [] [Value.agg #[Value.int IntKind.u8 x39, Value.int IntKind.u64 (0 : Int), Value.int IntKind.u64 (0 : Int),
  Value.int IntKind.u64 (0 : Int), Value.int IntKind.u64 (0 : Int), Value.int IntKind.i64 x44, Value.int IntKind.i64 x45, Value.int IntKind.i64 (0 : Int)]] w131) (Up
  [n48, n47] [n48, n47] w27 fun w132 => J72 [Value.bool false, Value.bool b73] [Value.agg #[Value.int IntKind.u8 x39, Value.int IntKind.u64 (0 : Int), Value.int
  IntKind.u64 (0 : Int), Value.int IntKind.u64 (0 : Int), Value.int IntKind.u64 (0 : Int), Value.int IntKind.i64 (0 : Int), Value.int IntKind.i64 (0 : Int), Value.int
  IntKind.i64 (0 : Int)]] w132)))) (R (Value.bool true) w27)) [Value.bool false, Value.int IntKind.i64 (0 : Int)] [] w15)) w6) w2
theorem f81_eq (p0_0 : Int) (p0_1a : Option Addr) (p0_1n : Nat) (p0_1c : Nat) (R : Value → World → Prop) (w : World) : fnW Try.prog [5, 6, 400013, 400016] Try.f81
  [Value.agg #[Value.int IntKind.i64 p0_0, Value.slice p0_1a p0_1n p0_1c]] R w = f81_vc p0_0 p0_1a p0_1n p0_1c R w := by kernel_rfl
theorem f81_in (p0_0 : Int) (p0_1a : Option Addr) (p0_1n : Nat) (p0_1c : Nat) (R : Value → World → Prop) (w : World) (h : f81_vc p0_0 p0_1a p0_1n p0_1c R w) : Ct Try.prog
  81 #[Value.agg #[Value.int IntKind.i64 p0_0, Value.slice p0_1a p0_1n p0_1c]] w R := by
  refine Ct_of (rk := [5, 6, 400013, 400016]) (fn := Try.f81) (args := [Value.agg #[Value.int IntKind.i64 p0_0, Value.slice p0_1a p0_1n p0_1c]]) mixedT Try.func81 (by kernel_rfl) ?_
  rw [f81_eq]
  exact h
def f186_vc (p0 : Int) (q0 : Addr) (R : Value → World → Prop) (w : World) : Prop := Bd (decide (p0 ≥ (0 : Int))) fun b1 => Gd b1 (none, (0 : Nat), (0 : Nat)) (fun J2 =>
  Ld w (Addr.add q0 (1 : Nat)) fun v3 => opL v3 fun a4 n5 n6 => J2 (a4, n5, n6) w) (fun u7 w8 => Bd ↑(Prod.fst (Prod.snd u7)) fun x9 => Bd (decide (p0 < x9)) fun b10 =>
  Bd (bif b1 then b10 else false) fun b11 => R (Value.bool b11) w8) w
theorem f186_eq (p0 : Int) (q0 : Addr) (R : Value → World → Prop) (w : World) : fnW Try.prog [] Try.f186 [Value.int IntKind.i64 p0, Value.pointer (some q0)] R w = f186_vc
  p0 q0 R w := by kernel_rfl
theorem f186_in (p0 : Int) (q0 : Addr) (R : Value → World → Prop) (w : World) (h : f186_vc p0 q0 R w) : Ct Try.prog 186 #[Value.int IntKind.i64 p0, Value.pointer (some
  q0)] w R := by
  refine Ct_of (rk := []) (fn := Try.f186) (args := [Value.int IntKind.i64 p0, Value.pointer (some q0)]) mixedT Try.func186 (by kernel_rfl) ?_
  rw [f186_eq]
  exact h
end Fk
set_option linter.unusedVariables false
set_option maxRecDepth 1000000
set_option maxHeartbeats 4000000
namespace Fk
open Go Go.Proofs Go.RowKit
def f165_vc (p0 : Option Addr) (R : Value → World → Prop) (w : World) : Prop := Dr (World.drew w) fun J1 => NN p0 fun A2 => ∃ v3, (∀ (w4 : World), J1 w4 → Ld w4 (Addr.add
  A2 (0 : Nat)) fun v6 => v6 = v3) ∧ opL v3 fun a7 n8 n9 => Bd ((n8 : Nat) : Int) fun x10 => NN p0 fun A11 => ∃ v12, (∀ (w13 : World), J1 w13 → Ld w13 (Addr.add A11 (1 :
  Nat)) fun v15 => v15 = v12) ∧ opI IntKind.i64 v12 fun x16 => Bd (decide (x10 > x16)) fun b17 => R (Value.bool b17) (World.drew w)
theorem f165_eq (p0 : Option Addr) (R : Value → World → Prop) (w : World) : fnW Try.prog [100001] Try.f165 [Value.pointer p0] R w = f165_vc p0 R w := by kernel_rfl
theorem f165_in (p0 : Option Addr) (R : Value → World → Prop) (w : World) (h : f165_vc p0 R w) : Ct Try.prog 165 #[Value.pointer p0] w R := by
  refine Ct_of (rk := [100001]) (fn := Try.f165) (args := [Value.pointer p0]) mixedT Try.func165 (by kernel_rfl) ?_
  rw [f165_eq]
  exact h
def f164_vc (p0 : Option Addr) (p1_0 : Int) (p1_1 : Int) (p1_2 : Int) (p1_3 : Int) (p1_4 : Int) (p1_5 : Int) (p1_6 : Int) (p1_7 : Int) (R : Value → World → Prop) (w :
  World) : Prop := Rg w fun n1 => Jn (fun l2 l3 w4 => NN p0 fun A5 => Ld w4 (Addr.add A5 (0 : Nat)) fun v6 => opL v6 fun a7 n8 n9 => Bd ((n8 : Nat) : Int) fun x10 => Bd
  (IntKind.wrap IntKind.i64 (x10 - (1 : Int))) fun x11 => R (Value.int IntKind.i64 x11) w4) fun J12 => Up [] [n1] w fun w13 => Dr (World.drew w13) fun J14 => NN p0 fun
  A15 => ∃ v16, (∀ (w17 : World), J14 w17 → Ld w17 (Addr.add A15 (0 : Nat)) fun v19 => v19 = v16) ∧ opL v16 fun a20 n21 n22 => Bd ((n21 : Nat) : Int) fun x23 => NN p0 fun
  A24 => ∃ v25, (∀ (w26 : World), J14 w26 → Ld w26 (Addr.add A24 (1 : Nat)) fun v28 => v28 = v25) ∧ opI IntKind.i64 v25 fun x29 => Bd (decide (x23 ≤ x29)) fun b30 => If
  b30 (NN p0 fun A31 => (Ld (World.drew (World.drew w13)) (Addr.add A31 (0 : Nat)) fun v32 => opL v32 fun a33 n34 n35 => Nw (Obj.cells #[Value.int IntKind.u8 p1_0,
  Value.int IntKind.u64 p1_1, Value.int IntKind.u64 p1_2, Value.int IntKind.u64 p1_3, Value.int IntKind.u64 p1_4, Value.int IntKind.i64 p1_5, Value.int IntKind.i64 p1_6,
  Value.int IntKind.i64 p1_7] (103 : Nat)) (World.drew (World.drew w13)) fun n36 w37 => RunW Try.prog [n1] (Builtin.append_ #[(69 : Nat), (69 : Nat)] (69 : Nat)
  #[Value.slice a33 n34 n35, Value.slice (some (Addr.mk n36 (0 : Nat) none)) (1 : Nat) (1 : Nat)]) (fun v38 w39 => opL v38 fun a40 n41 n42 => NN p0 fun A43 => ¬Addr.block
  (Addr.add A43 (0 : Nat)) ∈ [n1] ∧ Wr w39 (Addr.add A43 (0 : Nat)) (1 : Nat) ∧ J12 [] [] (setCells w39 (Addr.add A43 (0 : Nat)) (0 : Nat) [Value.slice a40 n41 n42]))
  w37) ∧ Nw (Obj.cells #[Value.int IntKind.u8 p1_0, Value.int IntKind.u64 p1_1, Value.int IntKind.u64 p1_2, Value.int IntKind.u64 p1_3, Value.int IntKind.u64 p1_4,
  Value.int IntKind.i64 p1_5, Value.int IntKind.i64 p1_6, Value.int IntKind.i64 p1_7] (103 : Nat)) (World.drew (World.drew w13)) fun n44 w45 => Ld w45 (Addr.add A31 (0 :
  Nat)) fun v46 => opL v46 fun a47 n48 n49 => RunW Try.prog [n1] (Builtin.append_ #[(69 : Nat), (69 : Nat)] (69 : Nat) #[Value.slice a47 n48 n49, Value.slice (some
  (Addr.mk n44 (0 : Nat) none)) (1 : Nat) (1 : Nat)]) (fun v50 w51 => opL v50 fun a52 n53 n54 => NN p0 fun A55 => ¬Addr.block (Addr.add A55 (0 : Nat)) ∈ [n1] ∧ Wr w51
  (Addr.add A55 (0 : Nat)) (1 : Nat) ∧ J12 [] [] (setCells w51 (Addr.add A55 (0 : Nat)) (0 : Nat) [Value.slice a52 n53 n54])) w45) (J12 [] [] (World.drew w13))
theorem f164_eq (p0 : Option Addr) (p1_0 : Int) (p1_1 : Int) (p1_2 : Int) (p1_3 : Int) (p1_4 : Int) (p1_5 : Int) (p1_6 : Int) (p1_7 : Int) (R : Value → World → Prop) (w :
  World) : fnW Try.prog [3, 100001, 400002] Try.f164 [Value.pointer p0, Value.agg #[Value.int IntKind.u8 p1_0, Value.int IntKind.u64 p1_1, Value.int IntKind.u64 p1_2,
  Value.int IntKind.u64 p1_3, Value.int IntKind.u64 p1_4, Value.int IntKind.i64 p1_5, Value.int IntKind.i64 p1_6, Value.int IntKind.i64 p1_7]] R w = f164_vc p0 p1_0 p1_1
  p1_2 p1_3 p1_4 p1_5 p1_6 p1_7 R w := by kernel_rfl
theorem f164_in (p0 : Option Addr) (p1_0 : Int) (p1_1 : Int) (p1_2 : Int) (p1_3 : Int) (p1_4 : Int) (p1_5 : Int) (p1_6 : Int) (p1_7 : Int) (R : Value → World → Prop) (w :
  World) (h : f164_vc p0 p1_0 p1_1 p1_2 p1_3 p1_4 p1_5 p1_6 p1_7 R w) : Ct Try.prog 164 #[Value.pointer p0, Value.agg #[Value.int IntKind.u8 p1_0, Value.int IntKind.u64
  p1_1, Value.int IntKind.u64 p1_2, Value.int IntKind.u64 p1_3, Value.int IntKind.u64 p1_4, Value.int IntKind.i64 p1_5, Value.int IntKind.i64 p1_6, Value.int IntKind.i64
  p1_7]] w R := by
  refine Ct_of (rk := [3, 100001, 400002]) (fn := Try.f164) (args := [Value.pointer p0, Value.agg #[Value.int IntKind.u8 p1_0, Value.int IntKind.u64 p1_1, Value.int IntKind.u64 p1_2, Value.int IntKind.u64 p1_3, Value.int IntKind.u64 p1_4, Value.int IntKind.i64 p1_5, Value.int IntKind.i64 p1_6, Value.int IntKind.i64 p1_7]]) mixedT Try.func164 (by kernel_rfl) ?_
  rw [f164_eq]
  exact h
def f163_vc (p0 : Option Addr) (p1_0 : Int) (p1_1 : Int) (p1_2 : Int) (p1_3 : Int) (p1_4 : Int) (p1_5a : Option Addr) (p1_5n : Nat) (p1_5c : Nat) (p2 : Int) (R : Value →
  World → Prop) (w : World) : Prop := Rg w fun n1 => Up [] [n1] w fun w2 => CallW Try.prog [n1] (165 : Nat) #[Value.pointer p0] (fun v3 w4 => opB v3 fun b5 => If b5 (R
  (Value.int IntKind.i64 p2) w4) (Bd ((p1_5n : Nat) : Int) fun x6 => Bd (IntKind.wrap IntKind.i64 (x6 - (1 : Int))) fun x7 => Jn (fun l8 l9 w10 => opI IntKind.i64 (nthD
  l8 (0 : Nat)) fun x11 => opI IntKind.i64 (nthD l8 (1 : Nat)) fun x12 => opB (nthD l8 (2 : Nat)) fun b13 => opB (nthD l8 (3 : Nat)) fun b14 => R (Value.int IntKind.i64
  x11) w10) fun J15 => Bd (p1_0 == (1 : Int)) fun b16 => If b16 (CallW Try.prog [n1] (164 : Nat) #[Value.pointer p0, Value.agg #[Value.int IntKind.u8 (1 : Int), Value.int
  IntKind.u64 p1_1, Value.int IntKind.u64 p1_2, Value.int IntKind.u64 p1_3, Value.int IntKind.u64 p1_4, Value.int IntKind.i64 p2, Value.int IntKind.i64 (0 : Int),
  Value.int IntKind.i64 (0 : Int)]] (fun v17 w18 => opI IntKind.i64 v17 fun x19 => R (Value.int IntKind.i64 x19) w18) w4) (Bd (p1_0 == (2 : Int)) fun b20 => If b20 (LoopP
  (fun l21 l22 J23 w24 => opI IntKind.i64 (nthD l21 (0 : Nat)) fun x25 => opI IntKind.i64 (nthD l21 (1 : Nat)) fun x26 => Bd (decide (x26 ≥ (0 : Int))) fun b27 => If b27
  (IxOk x26 p1_5n p1_5a ∧ Ld w24 (Addr.add (adAt p1_5a x26 (6 : Nat)) (0 : Nat)) fun v28 => Ld w24 (Addr.add (adAt p1_5a x26 (6 : Nat)) (1 : Nat)) fun v29 => Ld w24
  (Addr.add (adAt p1_5a x26 (6 : Nat)) (2 : Nat)) fun v30 => Ld w24 (Addr.add (adAt p1_5a x26 (6 : Nat)) (3 : Nat)) fun v31 => Ld w24 (Addr.add (adAt p1_5a x26 (6 : Nat))
  (4 : Nat)) fun v32 => Ld w24 (Addr.add (adAt p1_5a x26 (6 : Nat)) (5 : Nat)) fun v33 => opI IntKind.u8 v28 fun x34 => opI IntKind.u64 v29 fun x35 => opI IntKind.u64 v30
  fun x36 => opI IntKind.u64 v31 fun x37 => opI IntKind.u64 v32 fun x38 => opL v33 fun a39 n40 n41 => CallW Try.prog [n1] (163 : Nat) #[Value.pointer p0, Value.agg
  #[Value.int IntKind.u8 x34, Value.int IntKind.u64 x35, Value.int IntKind.u64 x36, Value.int IntKind.u64 x37, Value.int IntKind.u64 x38, Value.slice a39 n40 n41],
  Value.int IntKind.i64 x25] (fun v42 w43 => opI IntKind.i64 v42 fun x44 => Bd (IntKind.wrap IntKind.i64 (x26 - (1 : Int))) fun x45 => J23 [Value.int IntKind.i64 x44,
  Value.int IntKind.i64 x45] [] w43) w24) (J15 [Value.int IntKind.i64 x25, Value.int IntKind.i64 (0 : Int), Value.bool b16, Value.bool b20] [] w24)) [Value.int
  IntKind.i64 p2, Value.int IntKind.i64 x7] [] w4) (Bd (p1_0 == (3 : Int)) fun b46 => If b46 (IxOk x7 p1_5n p1_5a ∧ Ld w4 (Addr.add (adAt p1_5a x7 (6 : Nat)) (0 : Nat))
  fun v47 => Ld w4 (Addr.add (adAt p1_5a x7 (6 : Nat)) (1 : Nat)) fun v48 => Ld w4 (Addr.add (adAt p1_5a x7 (6 : Nat)) (2 : Nat)) fun v49 => Ld w4 (Addr.add (adAt p1_5a
  x7 (6 : Nat)) (3 : Nat)) fun v50 => Ld w4 (Addr.add (adAt p1_5a x7 (6 : Nat)) (4 : Nat)) fun v51 => Ld w4 (Addr.add (adAt p1_5a x7 (6 : Nat)) (5 : Nat)) fun v52 => opI
  IntKind.u8 v47 fun x53 => opI IntKind.u64 v48 fun x54 => opI IntKind.u64 v49 fun x55 => opI IntKind.u64 v50 fun x56 => opI IntKind.u64 v51 fun x57 => opL v52 fun a58
  n59 n60 => CallW Try.prog [n1] (163 : Nat) #[Value.pointer p0, Value.agg #[Value.int IntKind.u8 x53, Value.int IntKind.u64 x54, Value.int IntKind.u64 x55, Value.int
  IntKind.u64 x56, Value.int IntKind.u64 x57, Value.slice a58 n59 n60], Value.int IntKind.i64 p2] (fun v61 w62 => opI IntKind.i64 v61 fun x63 => Bd (IntKind.wrap
  IntKind.i64 (x7 - (1 : Int))) fun x64 => LoopP (fun l65 l66 J67 w68 => opI IntKind.i64 (nthD l65 (0 : Nat)) fun x69 => opI IntKind.i64 (nthD l65 (1 : Nat)) fun x70 =>
  Bd (decide (x70 ≥ (0 : Int))) fun b71 => If b71 (IxOk x70 p1_5n p1_5a ∧ Ld w68 (Addr.add (adAt p1_5a x70 (6 : Nat)) (0 : Nat)) fun v72 => Ld w68 (Addr.add (adAt p1_5a
  x70 (6 : Nat)) (1 : Nat)) fun v73 => Ld w68 (Addr.add (adAt p1_5a x70 (6 : Nat)) (2 : Nat)) fun v74 => Ld w68 (Addr.add (adAt p1_5a x70 (6 : Nat)) (3 : Nat)) fun v75 =>
  Ld w68 (Addr.add (adAt p1_5a x70 (6 : Nat)) (4 : Nat)) fun v76 => Ld w68 (Addr.add (adAt p1_5a x70 (6 : Nat)) (5 : Nat)) fun v77 => opI IntKind.u8 v72 fun x78 => opI
  IntKind.u64 v73 fun x79 => opI IntKind.u64 v74 fun x80 => opI IntKind.u64 v75 fun x81 => opI IntKind.u64 v76 fun x82 => opL v77 fun a83 n84 n85 => CallW Try.prog [n1]
  (163 : Nat) #[Value.pointer p0, Value.agg #[Value.int IntKind.u8 x78, Value.int IntKind.u64 x79, Value.int IntKind.u64 x80, Value.int IntKind.u64 x81, Value.int
  IntKind.u64 x82, Value.slice a83 n84 n85], Value.int IntKind.i64 p2] (fun v86 w87 => opI IntKind.i64 v86 fun x88 => CallW Try.prog [n1] (164 : Nat) #[Value.pointer p0,
  Value.agg #[Value.int IntKind.u8 (2 : Int), Value.int IntKind.u64 (0 : Int), Value.int IntKind.u64 (0 : Int), Value.int IntKind.u64 (0 : Int), Value.int IntKind.u64 (0
  : Int), Value.int IntKind.i64 x88, Value.int IntKind.i64 x69, Value.int IntKind.i64 (0 : Int)]] (fun v89 w90 => opI IntKind.i64 v89 fun x91 => Bd (IntKind.wrap
  IntKind.i64 (x70 - (1 : Int))) fun x92 => J67 [Value.int IntKind.i64 x91, Value.int IntKind.i64 x92] [] w90) w87) w68) (R (Value.int IntKind.i64 x69) w68)) [Value.int
  IntKind.i64 x63, Value.int IntKind.i64 x64] [] w62) w4) (Bd (p1_0 == (4 : Int)) fun b93 => If b93 (CallW Try.prog [n1] (164 : Nat) #[Value.pointer p0, Value.agg
  #[Value.int IntKind.u8 (2 : Int), Value.int IntKind.u64 (0 : Int), Value.int IntKind.u64 (0 : Int), Value.int IntKind.u64 (0 : Int), Value.int IntKind.u64 (0 : Int),
  Value.int IntKind.i64 (0 : Int), Value.int IntKind.i64 p2, Value.int IntKind.i64 (0 : Int)]] (fun v94 w95 => opI IntKind.i64 v94 fun x96 => IxOk (0 : Int) p1_5n p1_5a ∧
  Ld w95 (Addr.add (adAt p1_5a (0 : Int) (6 : Nat)) (0 : Nat)) fun v97 => Ld w95 (Addr.add (adAt p1_5a (0 : Int) (6 : Nat)) (1 : Nat)) fun v98 => Ld w95 (Addr.add (adAt
  p1_5a (0 : Int) (6 : Nat)) (2 : Nat)) fun v99 => Ld w95 (Addr.add (adAt p1_5a (0 : Int) (6 : Nat)) (3 : Nat)) fun v100 => Ld w95 (Addr.add (adAt p1_5a (0 : Int) (6 :
  Nat)) (4 : Nat)) fun v101 => Ld w95 (Addr.add (adAt p1_5a (0 : Int) (6 : Nat)) (5 : Nat)) fun v102 => opI IntKind.u8 v97 fun x103 => opI IntKind.u64 v98 fun x104 => opI
  IntKind.u64 v99 fun x105 => opI IntKind.u64 v100 fun x106 => opI IntKind.u64 v101 fun x107 => opL v102 fun a108 n109 n110 => CallW Try.prog [n1] (163 : Nat)
  #[Value.pointer p0, Value.agg #[Value.int IntKind.u8 x103, Value.int IntKind.u64 x104, Value.int IntKind.u64 x105, Value.int IntKind.u64 x106, Value.int IntKind.u64
  x107, Value.slice a108 n109 n110], Value.int IntKind.i64 x96] (fun v111 w112 => opI IntKind.i64 v111 fun x113 => NN p0 fun A114 => Ld w112 (Addr.add A114 (0 : Nat)) fun
  v115 => opL v115 fun a116 n117 n118 => IxOk x96 n117 a116 ∧ ¬Addr.block (adAt a116 x96 (8 : Nat)) ∈ [n1] ∧ Wr w112 (Addr.add (adAt a116 x96 (8 : Nat)) (5 : Nat)) (1 :
  Nat) ∧ R (Value.int IntKind.i64 x96) (setCells w112 (Addr.add (adAt a116 x96 (8 : Nat)) (5 : Nat)) (0 : Nat) [Value.int IntKind.i64 x113])) w95) w4) (J15 [Value.int
  IntKind.i64 p2, Value.int IntKind.i64 (0 : Int), Value.bool b16, Value.bool b20] [] w4)))))) w2
theorem f163_eq (p0 : Option Addr) (p1_0 : Int) (p1_1 : Int) (p1_2 : Int) (p1_3 : Int) (p1_4 : Int) (p1_5a : Option Addr) (p1_5n : Nat) (p1_5c : Nat) (p2 : Int) (R :
  Value → World → Prop) (w : World) : fnW Try.prog [4] Try.f163 [Value.pointer p0, Value.agg #[Value.int IntKind.u8 p1_0, Value.int IntKind.u64 p1_1, Value.int
  IntKind.u64 p1_2, Value.int IntKind.u64 p1_3, Value.int IntKind.u64 p1_4, Value.slice p1_5a p1_5n p1_5c], Value.int IntKind.i64 p2] R w = f163_vc p0 p1_0 p1_1 p1_2 p1_3
  p1_4 p1_5a p1_5n p1_5c p2 R w := by kernel_rfl
theorem f163_in (p0 : Option Addr) (p1_0 : Int) (p1_1 : Int) (p1_2 : Int) (p1_3 : Int) (p1_4 : Int) (p1_5a : Option Addr) (p1_5n : Nat) (p1_5c : Nat) (p2 : Int) (R :
  Value → World → Prop) (w : World) (h : f163_vc p0 p1_0 p1_1 p1_2 p1_3 p1_4 p1_5a p1_5n p1_5c p2 R w) : Ct Try.prog 163 #[Value.pointer p0, Value.agg #[Value.int
  IntKind.u8 p1_0, Value.int IntKind.u64 p1_1, Value.int IntKind.u64 p1_2, Value.int IntKind.u64 p1_3, Value.int IntKind.u64 p1_4, Value.slice p1_5a p1_5n p1_5c],
  Value.int IntKind.i64 p2] w R := by
  refine Ct_of (rk := [4]) (fn := Try.f163) (args := [Value.pointer p0, Value.agg #[Value.int IntKind.u8 p1_0, Value.int IntKind.u64 p1_1, Value.int IntKind.u64 p1_2, Value.int IntKind.u64 p1_3, Value.int IntKind.u64 p1_4, Value.slice p1_5a p1_5n p1_5c], Value.int IntKind.i64 p2]) mixedT Try.func163 (by kernel_rfl) ?_
  rw [f163_eq]
  exact h
def f66_vc (p0a : Option Addr) (p0n : Nat) (p0c : Nat) (p1 : Int) (R : Value → World → Prop) (w : World) : Prop := Rg w fun n1 => Bd ((p0n : Nat) : Int) fun x2 => Bd
  (decide (x2 ≥ (1 : Int))) fun b3 => Bd ((p0n : Nat) : Int) fun x4 => Bd (decide (x4 ≤ (200 : Int))) fun b5 => Bd (bif b3 then b5 else false) fun b6 => Bd (decide (p1 ≥
  (1 : Int))) fun b7 => Bd (bif b6 then b7 else false) fun b8 => Bd (decide (p1 ≤ (20000 : Int))) fun b9 => Bd (bif b8 then b9 else false) fun b10 => Up [] [n1] w fun w11
  => LoopP (fun l12 l13 J14 w15 => opB (nthD l12 (0 : Nat)) fun b16 => opI IntKind.i64 (nthD l12 (1 : Nat)) fun x17 => Bd ((p0n : Nat) : Int) fun x18 => Bd (decide (x17 <
  x18)) fun b19 => Bd (bif b19 then b16 else false) fun b20 => If b20 (IxOk x17 p0n p0a ∧ Ld w15 (Addr.add (adAt p0a x17 (6 : Nat)) (0 : Nat)) fun v21 => Ld w15 (Addr.add
  (adAt p0a x17 (6 : Nat)) (1 : Nat)) fun v22 => Ld w15 (Addr.add (adAt p0a x17 (6 : Nat)) (2 : Nat)) fun v23 => Ld w15 (Addr.add (adAt p0a x17 (6 : Nat)) (3 : Nat)) fun
  v24 => Ld w15 (Addr.add (adAt p0a x17 (6 : Nat)) (4 : Nat)) fun v25 => Ld w15 (Addr.add (adAt p0a x17 (6 : Nat)) (5 : Nat)) fun v26 => opI IntKind.u8 v21 fun x27 => opI
  IntKind.u64 v22 fun x28 => opI IntKind.u64 v23 fun x29 => opI IntKind.u64 v24 fun x30 => opI IntKind.u64 v25 fun x31 => opL v26 fun a32 n33 n34 => CallW Try.prog [n1]
  (144 : Nat) #[Value.agg #[Value.int IntKind.u8 x27, Value.int IntKind.u64 x28, Value.int IntKind.u64 x29, Value.int IntKind.u64 x30, Value.int IntKind.u64 x31,
  Value.slice a32 n33 n34]] (fun v35 w36 => opB v35 fun b37 => Bd (IntKind.wrap IntKind.i64 (x17 + (1 : Int))) fun x38 => J14 [Value.bool b37, Value.int IntKind.i64 x38]
  [] w36) w15) (Bd (!b16) fun b39 => If b39 (Up [n1] [n1] w15 fun w40 => R (Value.tuple #[Value.agg #[Value.int IntKind.i64 (0 : Int), Value.slice none (0 : Nat) (0 :
  Nat)], Value.int IntKind.i64 (2 : Int)]) w40) (Nw (Obj.cells #[Value.slice none (0 : Nat) (0 : Nat), Value.int IntKind.i64 p1] (214 : Nat)) w15 fun n41 w42 => Bd ((p0n
  : Nat) : Int) fun x43 => LoopP (fun l44 l45 J46 w47 => opL (nthD l44 (0 : Nat)) fun a48 n49 n50 => opI IntKind.i64 (nthD l44 (1 : Nat)) fun x51 => Bd (decide (x51 <
  x43)) fun b52 => If b52 (IxOk x51 p0n p0a ∧ Ld w47 (Addr.add (adAt p0a x51 (6 : Nat)) (0 : Nat)) fun v53 => Ld w47 (Addr.add (adAt p0a x51 (6 : Nat)) (1 : Nat)) fun v54
  => Ld w47 (Addr.add (adAt p0a x51 (6 : Nat)) (2 : Nat)) fun v55 => Ld w47 (Addr.add (adAt p0a x51 (6 : Nat)) (3 : Nat)) fun v56 => Ld w47 (Addr.add (adAt p0a x51 (6 :
  Nat)) (4 : Nat)) fun v57 => Ld w47 (Addr.add (adAt p0a x51 (6 : Nat)) (5 : Nat)) fun v58 => opI IntKind.u8 v53 fun x59 => opI IntKind.u64 v54 fun x60 => opI IntKind.u64
  v55 fun x61 => opI IntKind.u64 v56 fun x62 => opI IntKind.u64 v57 fun x63 => opL v58 fun a64 n65 n66 => Rg w47 fun n67 => Up [n67] [n67, n1] w47 fun w68 => Dr
  (World.drew w68) fun J69 => CallW Try.prog [n67, n1] (164 : Nat) #[Value.pointer (some (Addr.mk n41 (0 : Nat) none)), Value.agg #[Value.int IntKind.u8 (0 : Int),
  Value.int IntKind.u64 (0 : Int), Value.int IntKind.u64 (0 : Int), Value.int IntKind.u64 (0 : Int), Value.int IntKind.u64 (0 : Int), Value.int IntKind.i64 (0 : Int),
  Value.int IntKind.i64 (0 : Int), Value.int IntKind.i64 x51]] (fun v70 w71 => opI IntKind.i64 v70 fun x72 => J69 w71 ∧ CallW Try.prog [n67, n1] (163 : Nat)
  #[Value.pointer (some (Addr.mk n41 (0 : Nat) none)), Value.agg #[Value.int IntKind.u8 x59, Value.int IntKind.u64 x60, Value.int IntKind.u64 x61, Value.int IntKind.u64
  x62, Value.int IntKind.u64 x63, Value.slice a64 n65 n66], Value.int IntKind.i64 x72] (fun v73 w74 => opI IntKind.i64 v73 fun x75 => J69 w74 ∧ Nw (Obj.cells #[Value.int
  IntKind.i64 x75] (3 : Nat)) w74 fun n76 w77 => J69 w77 ∧ RunW Try.prog [n67, n1] (Builtin.append_ #[(52 : Nat), (52 : Nat)] (52 : Nat) #[Value.slice a48 n49 n50,
  Value.slice (some (Addr.mk n76 (0 : Nat) none)) (1 : Nat) (1 : Nat)]) (fun v78 w79 => opL v78 fun a80 n81 n82 => J69 w79 ∧ Bd (IntKind.wrap IntKind.i64 (x51 + (1 :
  Int))) fun x83 => J46 [Value.slice a80 n81 n82, Value.int IntKind.i64 x83] [] w79) w77) w71) (World.drew w68)) (Bd ((p0n : Nat) : Int) fun x84 => Bd (IntKind.wrap
  IntKind.i64 (x84 - (1 : Int))) fun x85 => IxOk x85 n49 a48 ∧ Ld w47 (adAt a48 x85 (1 : Nat)) fun v86 => opI IntKind.i64 v86 fun x87 => Bd ((p0n : Nat) : Int) fun x88 =>
  Bd (IntKind.wrap IntKind.i64 (x88 - (2 : Int))) fun x89 => LoopP (fun l90 l91 J92 w93 => opI IntKind.i64 (nthD l90 (0 : Nat)) fun x94 => opI IntKind.i64 (nthD l90 (1 :
  Nat)) fun x95 => Bd (decide (x95 ≥ (0 : Int))) fun b96 => If b96 (IxOk x95 n49 a48 ∧ Ld w93 (adAt a48 x95 (1 : Nat)) fun v97 => opI IntKind.i64 v97 fun x98 => CallW
  Try.prog [n1] (164 : Nat) #[Value.pointer (some (Addr.mk n41 (0 : Nat) none)), Value.agg #[Value.int IntKind.u8 (2 : Int), Value.int IntKind.u64 (0 : Int), Value.int
  IntKind.u64 (0 : Int), Value.int IntKind.u64 (0 : Int), Value.int IntKind.u64 (0 : Int), Value.int IntKind.i64 x98, Value.int IntKind.i64 x94, Value.int IntKind.i64 (0
  : Int)]] (fun v99 w100 => opI IntKind.i64 v99 fun x101 => Bd (IntKind.wrap IntKind.i64 (x95 - (1 : Int))) fun x102 => J92 [Value.int IntKind.i64 x101, Value.int
  IntKind.i64 x102] [] w100) w93) (CallW Try.prog [n1] (165 : Nat) #[Value.pointer (some (Addr.mk n41 (0 : Nat) none))] (fun v103 w104 => opB v103 fun b105 => If b105 (Up
  [n1] [n1] w104 fun w106 => R (Value.tuple #[Value.agg #[Value.int IntKind.i64 (0 : Int), Value.slice none (0 : Nat) (0 : Nat)], Value.int IntKind.i64 (40 : Int)]) w106)
  (NN (some (Addr.mk n41 (0 : Nat) none)) fun A107 => Ld w104 (Addr.add A107 (0 : Nat)) fun v108 => opL v108 fun a109 n110 n111 => Up [n1] [n1] w104 fun w112 => R
  (Value.tuple #[Value.agg #[Value.int IntKind.i64 x94, Value.slice a109 n110 n111], Value.int IntKind.i64 (0 : Int)]) w112)) w93)) [Value.int IntKind.i64 x87, Value.int
  IntKind.i64 x89] [] w47)) [Value.slice none (0 : Nat) (0 : Nat), Value.int IntKind.i64 (0 : Int)] [] w42))) [Value.bool b10, Value.int IntKind.i64 (0 : Int)] [] w11
theorem f66_eq (p0a : Option Addr) (p0n : Nat) (p0c : Nat) (p1 : Int) (R : Value → World → Prop) (w : World) : fnW Try.prog [4, 11, 100013] Try.f66 [Value.slice p0a p0n
  p0c, Value.int IntKind.i64 p1] R w = f66_vc p0a p0n p0c p1 R w := by kernel_rfl
theorem f66_in (p0a : Option Addr) (p0n : Nat) (p0c : Nat) (p1 : Int) (R : Value → World → Prop) (w : World) (h : f66_vc p0a p0n p0c p1 R w) : Ct Try.prog 66
  #[Value.slice p0a p0n p0c, Value.int IntKind.i64 p1] w R := by
  refine Ct_of (rk := [4, 11, 100013]) (fn := Try.f66) (args := [Value.slice p0a p0n p0c, Value.int IntKind.i64 p1]) mixedT Try.func66 (by kernel_rfl) ?_
  rw [f66_eq]
  exact h
def f68_vc (p0 : ByteArray) (p1 : Int) (R : Value → World → Prop) (w : World) : Prop := Bd (((ByteArray.size p0) : Nat) : Int) fun x1 => Bd (if p1 < x1 then p1 else x1)
  fun x2 => RunW Try.prog [] (Instr.sliceAt (9 : Nat) (Value.string p0) none (some (Value.int IntKind.i64 x2)) none) (fun v3 w4 => opStr v3 fun s5 => R (Value.string s5)
  w4) w
theorem f68_eq (p0 : ByteArray) (p1 : Int) (R : Value → World → Prop) (w : World) : fnW Try.prog [] Try.f68 [Value.string p0, Value.int IntKind.i64 p1] R w = f68_vc p0 p1
  R w := by kernel_rfl
theorem f68_in (p0 : ByteArray) (p1 : Int) (R : Value → World → Prop) (w : World) (h : f68_vc p0 p1 R w) : Ct Try.prog 68 #[Value.string p0, Value.int IntKind.i64 p1] w R
  := by
  refine Ct_of (rk := []) (fn := Try.f68) (args := [Value.string p0, Value.int IntKind.i64 p1]) mixedT Try.func68 (by kernel_rfl) ?_
  rw [f68_eq]
  exact h
end Fk
set_option linter.unusedVariables false
set_option maxRecDepth 1000000
set_option maxHeartbeats 4000000
namespace Fk
open Go Go.Proofs Go.RowKit
def f172_vc (p0 : Option Addr) (p1 : Int) (R : Value → World → Prop) (w : World) : Prop := Nw (Obj.cells #[Value.int IntKind.i64 p1] (3 : Nat)) w fun n1 w2 => LoopP (fun
  l3 l4 J5 w6 => opI IntKind.i64 (nthD l3 (0 : Nat)) fun x7 => opL (nthD l3 (1 : Nat)) fun a8 n9 n10 => Bd ((n9 : Nat) : Int) fun x11 => Bd (decide (x11 > (0 : Int))) fun
  b12 => If b12 (Bd ((n9 : Nat) : Int) fun x13 => Bd (IntKind.wrap IntKind.i64 (x13 - (1 : Int))) fun x14 => IxOk x14 n9 a8 ∧ Ld w6 (adAt a8 x14 (1 : Nat)) fun v15 => opI
  IntKind.i64 v15 fun x16 => Bd ((n9 : Nat) : Int) fun x17 => Bd (IntKind.wrap IntKind.i64 (x17 - (1 : Int))) fun x18 => RunW Try.prog [] (Instr.sliceAt (52 : Nat)
  (Value.slice a8 n9 n10) none (some (Value.int IntKind.i64 x18)) none) (fun v19 w20 => opL v19 fun a21 n22 n23 => NN p0 fun A24 => Ld w20 (Addr.add A24 (3 : Nat)) fun
  v25 => opL v25 fun a26 n27 n28 => IxOk x16 n27 a26 ∧ Ld w20 (adAt a26 x16 (1 : Nat)) fun v29 => opB v29 fun b30 => If b30 (J5 [Value.int IntKind.i64 x16, Value.slice
  a21 n22 n23] [] w20) (NN p0 fun A31 => Ld w20 (Addr.add A31 (3 : Nat)) fun v32 => opL v32 fun a33 n34 n35 => IxOk x16 n34 a33 ∧ ¬Addr.block (adAt a33 x16 (1 : Nat)) ∈
  [] ∧ Wr w20 (adAt a33 x16 (1 : Nat)) (1 : Nat) ∧ NN p0 fun A36 => Ld (setCells w20 (adAt a33 x16 (1 : Nat)) (0 : Nat) [Value.bool true]) (Addr.add (Addr.add A36 (0 :
  Nat)) (1 : Nat)) fun v37 => opL v37 fun a38 n39 n40 => IxOk x16 n39 a38 ∧ Ld (setCells w20 (adAt a33 x16 (1 : Nat)) (0 : Nat) [Value.bool true]) (Addr.add (adAt a38 x16
  (8 : Nat)) (0 : Nat)) fun v41 => Ld (setCells w20 (adAt a33 x16 (1 : Nat)) (0 : Nat) [Value.bool true]) (Addr.add (adAt a38 x16 (8 : Nat)) (1 : Nat)) fun v42 => Ld
  (setCells w20 (adAt a33 x16 (1 : Nat)) (0 : Nat) [Value.bool true]) (Addr.add (adAt a38 x16 (8 : Nat)) (2 : Nat)) fun v43 => Ld (setCells w20 (adAt a33 x16 (1 : Nat))
  (0 : Nat) [Value.bool true]) (Addr.add (adAt a38 x16 (8 : Nat)) (3 : Nat)) fun v44 => Ld (setCells w20 (adAt a33 x16 (1 : Nat)) (0 : Nat) [Value.bool true]) (Addr.add
  (adAt a38 x16 (8 : Nat)) (4 : Nat)) fun v45 => Ld (setCells w20 (adAt a33 x16 (1 : Nat)) (0 : Nat) [Value.bool true]) (Addr.add (adAt a38 x16 (8 : Nat)) (5 : Nat)) fun
  v46 => Ld (setCells w20 (adAt a33 x16 (1 : Nat)) (0 : Nat) [Value.bool true]) (Addr.add (adAt a38 x16 (8 : Nat)) (6 : Nat)) fun v47 => Ld (setCells w20 (adAt a33 x16 (1
  : Nat)) (0 : Nat) [Value.bool true]) (Addr.add (adAt a38 x16 (8 : Nat)) (7 : Nat)) fun v48 => opI IntKind.u8 v41 fun x49 => opI IntKind.u64 v42 fun x50 => opI
  IntKind.u64 v43 fun x51 => opI IntKind.u64 v44 fun x52 => opI IntKind.u64 v45 fun x53 => opI IntKind.i64 v46 fun x54 => opI IntKind.i64 v47 fun x55 => opI IntKind.i64
  v48 fun x56 => Rg (setCells w20 (adAt a33 x16 (1 : Nat)) (0 : Nat) [Value.bool true]) fun n57 => Bd (x49 == (2 : Int)) fun b58 => If b58 (Up [n57] [n57] (setCells w20
  (adAt a33 x16 (1 : Nat)) (0 : Nat) [Value.bool true]) fun w59 => Nw (Obj.cells #[Value.int IntKind.i64 x54, Value.int IntKind.i64 x55] (3 : Nat)) w59 fun n60 w61 =>
  RunW Try.prog [n57] (Builtin.append_ #[(52 : Nat), (52 : Nat)] (52 : Nat) #[Value.slice a21 n22 n23, Value.slice (some (Addr.mk n60 (0 : Nat) none)) (2 : Nat) (2 :
  Nat)]) (fun v62 w63 => opL v62 fun a64 n65 n66 => J5 [Value.int IntKind.i64 x16, Value.slice a64 n65 n66] [] w63) w61) (Up [n57] [n57] (setCells w20 (adAt a33 x16 (1 :
  Nat)) (0 : Nat) [Value.bool true]) fun w67 => J5 [Value.int IntKind.i64 x16, Value.slice a21 n22 n23] [] w67))) w6) (R (Value.tuple #[]) w6)) [Value.int IntKind.i64 p1,
  Value.slice (some (Addr.mk n1 (0 : Nat) none)) (1 : Nat) (1 : Nat)] [] w2
theorem f172_eq (p0 : Option Addr) (p1 : Int) (R : Value → World → Prop) (w : World) : fnW Try.prog [5] Try.f172 [Value.pointer p0, Value.int IntKind.i64 p1] R w =
  f172_vc p0 p1 R w := by kernel_rfl
theorem f172_in (p0 : Option Addr) (p1 : Int) (R : Value → World → Prop) (w : World) (h : f172_vc p0 p1 R w) : Ct Try.prog 172 #[Value.pointer p0, Value.int IntKind.i64
  p1] w R := by
  refine Ct_of (rk := [5]) (fn := Try.f172) (args := [Value.pointer p0, Value.int IntKind.i64 p1]) mixedT Try.func172 (by kernel_rfl) ?_
  rw [f172_eq]
  exact h
def f173_vc (p0 : Option Addr) (R : Value → World → Prop) (w : World) : Prop := Dr (World.drew w) fun J1 => NN p0 fun A2 => ∃ v3, (∀ (w4 : World), J1 w4 → Ld w4 (Addr.add
  A2 (2 : Nat)) fun v6 => v6 = v3) ∧ opL v3 fun a7 n8 n9 => NN p0 fun A10 => ∃ v11, (∀ (w12 : World), J1 w12 → Ld w12 (Addr.add A10 (3 : Nat)) fun v14 => v14 = v11) ∧ opL
  v11 fun a15 n16 n17 => RunW Try.prog [] (Builtin.copy_ #[(222 : Nat), (222 : Nat)] (3 : Nat) #[Value.slice a7 n8 n9, Value.slice a15 n16 n17]) (fun v18 w19 => opI
  IntKind.i64 v18 fun x20 => J1 w19 ∧ NN p0 fun A21 => Ld w19 (Addr.add A21 (3 : Nat)) fun v22 => opL v22 fun a23 n24 n25 => RunW Try.prog [] (Builtin.clear_ #[(222 :
  Nat)] (0 : Nat) #[Value.slice a23 n24 n25]) (fun v26 w27 => opTu v26 fun cs28 => SzIs (Array.size cs28) (0 : Nat) (NN p0 fun A29 => Ld w27 (Addr.add A29 (2 : Nat)) fun
  v30 => opL v30 fun a31 n32 n33 => Bd ((n32 : Nat) : Int) fun x34 => LoopP (fun l35 l36 J37 w38 => opI IntKind.i64 (nthD l35 (0 : Nat)) fun x39 => opI IntKind.i64 (nthD
  l35 (1 : Nat)) fun x40 => Bd (decide (x40 < x34)) fun b41 => If b41 (Jn (fun l42 l43 w44 => opI IntKind.i64 (nthD l42 (0 : Nat)) fun x45 => opI IntKind.i64 (nthD l42 (1
  : Nat)) fun x46 => opB (nthD l42 (2 : Nat)) fun b47 => Bd (IntKind.wrap IntKind.i64 (x40 + (1 : Int))) fun x48 => J37 [Value.int IntKind.i64 x45, Value.int IntKind.i64
  x48] [] w44) fun J49 => IxOk x40 n32 a31 ∧ Ld w38 (adAt a31 x40 (1 : Nat)) fun v50 => opB v50 fun b51 => NN p0 fun A52 => Ld w38 (Addr.add (Addr.add A52 (0 : Nat)) (1 :
  Nat)) fun v53 => opL v53 fun a54 n55 n56 => IxOk x40 n55 a54 ∧ Ld w38 (Addr.add (adAt a54 x40 (8 : Nat)) (0 : Nat)) fun v57 => Ld w38 (Addr.add (adAt a54 x40 (8 : Nat))
  (1 : Nat)) fun v58 => Ld w38 (Addr.add (adAt a54 x40 (8 : Nat)) (2 : Nat)) fun v59 => Ld w38 (Addr.add (adAt a54 x40 (8 : Nat)) (3 : Nat)) fun v60 => Ld w38 (Addr.add
  (adAt a54 x40 (8 : Nat)) (4 : Nat)) fun v61 => Ld w38 (Addr.add (adAt a54 x40 (8 : Nat)) (5 : Nat)) fun v62 => Ld w38 (Addr.add (adAt a54 x40 (8 : Nat)) (6 : Nat)) fun
  v63 => Ld w38 (Addr.add (adAt a54 x40 (8 : Nat)) (7 : Nat)) fun v64 => opI IntKind.u8 v57 fun x65 => opI IntKind.u64 v58 fun x66 => opI IntKind.u64 v59 fun x67 => opI
  IntKind.u64 v60 fun x68 => opI IntKind.u64 v61 fun x69 => opI IntKind.i64 v62 fun x70 => opI IntKind.i64 v63 fun x71 => opI IntKind.i64 v64 fun x72 => Rg w38 fun n73 =>
  Bd (x65 == (0 : Int)) fun b74 => Bd (bif b51 then b74 else false) fun b75 => Bd (decide (x39 < (0 : Int))) fun b76 => Bd (decide (x72 < x39)) fun b77 => Bd (bif b76
  then true else b77) fun b78 => Bd (bif b75 then b78 else false) fun b79 => If b79 (Up [n73] [n73] w38 fun w80 => J49 [Value.int IntKind.i64 x72, Value.int IntKind.i64
  x40, Value.bool b51] [] w80) (Up [n73] [n73] w38 fun w81 => J49 [Value.int IntKind.i64 x39, Value.int IntKind.i64 x40, Value.bool b51] [] w81)) (R (Value.int
  IntKind.i64 x39) w38)) [Value.int IntKind.i64 (-1 : Int), Value.int IntKind.i64 (0 : Int)] [] w27)) w19) (World.drew w)
theorem f173_eq (p0 : Option Addr) (R : Value → World → Prop) (w : World) : fnW Try.prog [6, 100001] Try.f173 [Value.pointer p0] R w = f173_vc p0 R w := by kernel_rfl
theorem f173_in (p0 : Option Addr) (R : Value → World → Prop) (w : World) (h : f173_vc p0 R w) : Ct Try.prog 173 #[Value.pointer p0] w R := by
  refine Ct_of (rk := [6, 100001]) (fn := Try.f173) (args := [Value.pointer p0]) mixedT Try.func173 (by kernel_rfl) ?_
  rw [f173_eq]
  exact h
def f69_vc (p0_0 : Int) (p0_1a : Option Addr) (p0_1n : Nat) (p0_1c : Nat) (p1 : ByteArray) (R : Value → World → Prop) (w : World) : Prop := Rg w fun n1 => Up [] [n1] w
  fun w2 => CallW Try.prog [n1] (81 : Nat) #[Value.agg #[Value.int IntKind.i64 p0_0, Value.slice p0_1a p0_1n p0_1c]] (fun v3 w4 => opB v3 fun b5 => Bd (!b5) fun b6 => If
  b6 (R (Value.tuple #[Value.slice none (0 : Nat) (0 : Nat), Value.int IntKind.i64 (2 : Int)]) w4) (Jn (fun l7 l8 w9 => opP (nthD l7 (0 : Nat)) fun a10 => CallW Try.prog
  [n1] (172 : Nat) #[Value.pointer a10, Value.int IntKind.i64 p0_0] (fun v11 w12 => opTu v11 fun cs13 => SzIs (Array.size cs13) (0 : Nat) (CallW Try.prog [n1] (173 : Nat)
  #[Value.pointer a10] (fun v14 w15 => opI IntKind.i64 v14 fun x16 => Nw (Obj.cells #[Value.int IntKind.i64 x16] (3 : Nat)) w15 fun n17 w18 => Bd (((ByteArray.size p1) :
  Nat) : Int) fun x19 => LoopP (fun l20 l21 J22 w23 => opL (nthD l20 (0 : Nat)) fun a24 n25 n26 => opI IntKind.i64 (nthD l20 (1 : Nat)) fun x27 => Bd (decide (x27 < x19))
  fun b28 => If b28 (((0 : Int) ≤ x27 ∧ x27 < ↑(ByteArray.size p1)) ∧ Bd (byteAt p1 x27) fun x29 => NN a10 fun A30 => Ld w23 (Addr.add A30 (2 : Nat)) fun v31 => opL v31
  fun a32 n33 n34 => Bd ((n33 : Nat) : Int) fun x35 => LoopP (fun l36 l37 J38 w39 => opI IntKind.i64 (nthD l36 (0 : Nat)) fun x40 => Bd (decide (x40 < x35)) fun b41 => If
  b41 (Jn (fun l42 l43 w44 => opI IntKind.i64 (nthD l42 (0 : Nat)) fun x45 => opB (nthD l42 (1 : Nat)) fun b46 => Bd (IntKind.wrap IntKind.i64 (x40 + (1 : Int))) fun x47
  => J38 [Value.int IntKind.i64 x47] [] w44) fun J48 => IxOk x40 n33 a32 ∧ Ld w39 (adAt a32 x40 (1 : Nat)) fun v49 => opB v49 fun b50 => IxOk x40 p0_1n p0_1a ∧ Ld w39
  (Addr.add (adAt p0_1a x40 (8 : Nat)) (0 : Nat)) fun v51 => Ld w39 (Addr.add (adAt p0_1a x40 (8 : Nat)) (1 : Nat)) fun v52 => Ld w39 (Addr.add (adAt p0_1a x40 (8 : Nat))
  (2 : Nat)) fun v53 => Ld w39 (Addr.add (adAt p0_1a x40 (8 : Nat)) (3 : Nat)) fun v54 => Ld w39 (Addr.add (adAt p0_1a x40 (8 : Nat)) (4 : Nat)) fun v55 => Ld w39
  (Addr.add (adAt p0_1a x40 (8 : Nat)) (5 : Nat)) fun v56 => Ld w39 (Addr.add (adAt p0_1a x40 (8 : Nat)) (6 : Nat)) fun v57 => Ld w39 (Addr.add (adAt p0_1a x40 (8 : Nat))
  (7 : Nat)) fun v58 => opI IntKind.u8 v51 fun x59 => opI IntKind.u64 v52 fun x60 => opI IntKind.u64 v53 fun x61 => opI IntKind.u64 v54 fun x62 => opI IntKind.u64 v55 fun
  x63 => opI IntKind.i64 v56 fun x64 => opI IntKind.i64 v57 fun x65 => opI IntKind.i64 v58 fun x66 => Rg w39 fun n67 => Bd (x59 == (1 : Int)) fun b68 => Bd (bif b50 then
  b68 else false) fun b69 => Bd (IntKind.wrap IntKind.u8 (Int.tdiv x29 (64 : Int))) fun x70 => (b69 = true → (0 : Int) ≤ x70 ∧ x70 < ↑(4 : Nat)) ∧ BdO (nthV [Value.int
  IntKind.u8 x59, Value.int IntKind.u64 x60, Value.int IntKind.u64 x61, Value.int IntKind.u64 x62, Value.int IntKind.u64 x63, Value.int IntKind.i64 x64, Value.int
  IntKind.i64 x65, Value.int IntKind.i64 x66] ((1 : Nat) + Int.toNat x70 * (1 : Nat))) fun v72 => opI IntKind.u64 v72 fun x73 => Bd (Int.tmod x29 (64 : Int)) fun x74 =>
  (b69 = true → (0 : Int) ≤ x74) ∧ Bd (Int.fdiv x73 ((2 : Int) ^ min (Int.toNat x74) (64 : Nat))) fun x76 => Bd (IntKind.wrap IntKind.u64 ↑(BitVec.toNat (BitVec.ofInt (64
  : Nat) x76 &&& BitVec.ofInt (64 : Nat) (1 : Int)))) fun x77 => Bd (x77 == (1 : Int)) fun b78 => Bd (bif b69 then b78 else false) fun b79 => If b79 (Up [n67] [n67, n1]
  w39 fun w80 => CallW Try.prog [n67, n1] (172 : Nat) #[Value.pointer a10, Value.int IntKind.i64 x64] (fun v81 w82 => opTu v81 fun cs83 => SzIs (Array.size cs83) (0 :
  Nat) (J48 [Value.int IntKind.i64 x40, Value.bool b50] [] w82)) w80) (Up [n67] [n67, n1] w39 fun w84 => J48 [Value.int IntKind.i64 x40, Value.bool b50] [] w84)) (CallW
  Try.prog [n1] (173 : Nat) #[Value.pointer a10] (fun v85 w86 => opI IntKind.i64 v85 fun x87 => Nw (Obj.cells #[Value.int IntKind.i64 x87] (3 : Nat)) w86 fun n88 w89 =>
  RunW Try.prog [n1] (Builtin.append_ #[(52 : Nat), (52 : Nat)] (52 : Nat) #[Value.slice a24 n25 n26, Value.slice (some (Addr.mk n88 (0 : Nat) none)) (1 : Nat) (1 :
  Nat)]) (fun v90 w91 => opL v90 fun a92 n93 n94 => Bd (IntKind.wrap IntKind.i64 (x27 + (1 : Int))) fun x95 => J22 [Value.slice a92 n93 n94, Value.int IntKind.i64 x95] []
  w91) w89) w39)) [Value.int IntKind.i64 (0 : Int)] [] w23) (R (Value.tuple #[Value.slice a24 n25 n26, Value.int IntKind.i64 (0 : Int)]) w23)) [Value.slice (some (Addr.mk
  n17 (0 : Nat) none)) (1 : Nat) (1 : Nat), Value.int IntKind.i64 (0 : Int)] [] w18) w12)) w9) fun J96 => Dr (World.drew w4) fun J97 => Bd ((p0_1n : Nat) : Int) fun x98
  => Bd ((p0_1n : Nat) : Int) fun x99 => RunW Try.prog [n1] (Instr.makeSlice (222 : Nat) (Value.int IntKind.i64 x98) (Value.int IntKind.i64 x98)) (fun v100 w101 => opL
  v100 fun a102 n103 n104 => J97 w101 ∧ RunW Try.prog [n1] (Instr.makeSlice (222 : Nat) (Value.int IntKind.i64 x99) (Value.int IntKind.i64 x99)) (fun v105 w106 => opL
  v105 fun a107 n108 n109 => J97 w106 ∧ Nw (Obj.cells #[Value.int IntKind.i64 p0_0, Value.slice p0_1a p0_1n p0_1c, Value.slice a102 n103 n104, Value.slice a107 n108 n109]
  (231 : Nat)) w106 fun n110 w111 => J97 w111 ∧ J96 [Value.pointer (some (Addr.mk n110 (0 : Nat) none))] [] w111) w101) (World.drew w4) ∧ RunW Try.prog [n1]
  (Instr.makeSlice (222 : Nat) (Value.int IntKind.i64 x99) (Value.int IntKind.i64 x99)) (fun v112 w113 => opL v112 fun a114 n115 n116 => J97 w113 ∧ RunW Try.prog [n1]
  (Instr.makeSlice (222 : Nat) (Value.int IntKind.i64 x98) (Value.int IntKind.i64 x98)) (fun v117 w118 => opL v117 fun a119 n120 n121 => J97 w118 ∧ Nw (Obj.cells
  #[Value.int IntKind.i64 p0_0, Value.slice p0_1a p0_1n p0_1c, Value.slice a119 n120 n121, Value.slice a114 n115 n116] (231 : Nat)) w118 fun n122 w123 => J97 w123 ∧ J96
  [Value.pointer (some (Addr.mk n122 (0 : Nat) none))] [] w123) w113) (World.drew w4))) w2
theorem f69_eq (p0_0 : Int) (p0_1a : Option Addr) (p0_1n : Nat) (p0_1c : Nat) (p1 : ByteArray) (R : Value → World → Prop) (w : World) : fnW Try.prog [2, 12, 100003]
  Try.f69 [Value.agg #[Value.int IntKind.i64 p0_0, Value.slice p0_1a p0_1n p0_1c], Value.string p1] R w = f69_vc p0_0 p0_1a p0_1n p0_1c p1 R w := by kernel_rfl
theorem f69_in (p0_0 : Int) (p0_1a : Option Addr) (p0_1n : Nat) (p0_1c : Nat) (p1 : ByteArray) (R : Value → World → Prop) (w : World) (h : f69_vc p0_0 p0_1a p0_1n p0_1c
  p1 R w) : Ct Try.prog 69 #[Value.agg #[Value.int IntKind.i64 p0_0, Value.slice p0_1a p0_1n p0_1c], Value.string p1] w R := by
  refine Ct_of (rk := [2, 12, 100003]) (fn := Try.f69) (args := [Value.agg #[Value.int IntKind.i64 p0_0, Value.slice p0_1a p0_1n p0_1c], Value.string p1]) mixedT Try.func69 (by kernel_rfl) ?_
  rw [f69_eq]
  exact h
end Fk
