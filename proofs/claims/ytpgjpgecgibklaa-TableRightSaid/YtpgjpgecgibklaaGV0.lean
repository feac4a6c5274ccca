/- Conditions of functions, as the generator works them out; each one is checked by the kernel. -/
import Derived.Test.YtpgjpgecgibklaaGK2
set_option linter.unusedVariables false
set_option maxRecDepth 100000
set_option maxHeartbeats 4000000
namespace Fk
open Go Go.Proofs Go.RowKit
def f84_vc (p0_0 : Int) (p0_1 : Int) (p0_2 : Int) (p0_3 : Int) (p0_4 : Int) (p0_5a : Option Addr) (p0_5n : Nat) (p0_5c : Nat) (p1 : Int) (R : Value → World → Prop) (w :
  World) : Prop := Rg w fun n1 => Bd ↑p0_5n fun x2 => Up [] [n1] w fun w3 => LoopP (fun l4 l5 J6 w7 => opI IntKind.i64 (nthD l4 (0 : Nat)) fun x8 => opI IntKind.i64 (nthD
  l4 (1 : Nat)) fun x9 => opI IntKind.i64 (nthD l4 (2 : Nat)) fun x10 => Bd (decide (x10 < x2)) fun b11 => If b11 (Bd (decide (x9 > p1)) fun b12 => If b12 (Bd
  (IntKind.wrap IntKind.i64 (p1 + (1 : Int))) fun x13 => R (Value.int IntKind.i64 x13) w7) (IxOk x10 p0_5n p0_5a ∧ Ld w7 (Addr.add (adAt p0_5a x10 (6 : Nat)) (0 : Nat))
  fun v14 => Ld w7 (Addr.add (adAt p0_5a x10 (6 : Nat)) (1 : Nat)) fun v15 => Ld w7 (Addr.add (adAt p0_5a x10 (6 : Nat)) (2 : Nat)) fun v16 => Ld w7 (Addr.add (adAt p0_5a
  x10 (6 : Nat)) (3 : Nat)) fun v17 => Ld w7 (Addr.add (adAt p0_5a x10 (6 : Nat)) (4 : Nat)) fun v18 => Ld w7 (Addr.add (adAt p0_5a x10 (6 : Nat)) (5 : Nat)) fun v19 =>
  opI IntKind.u8 v14 fun x20 => opI IntKind.u64 v15 fun x21 => opI IntKind.u64 v16 fun x22 => opI IntKind.u64 v17 fun x23 => opI IntKind.u64 v18 fun x24 => opL v19 fun
  a25 n26 n27 => Bd (IntKind.wrap IntKind.i64 (p1 - x9)) fun x28 => CallW Try.prog [n1] (84 : Nat) #[Value.agg #[Value.int IntKind.u8 x20, Value.int IntKind.u64 x21,
  Value.int IntKind.u64 x22, Value.int IntKind.u64 x23, Value.int IntKind.u64 x24, Value.slice a25 n26 n27], Value.int IntKind.i64 x28] (fun v29 w30 => opI IntKind.i64
  v29 fun x31 => Bd (IntKind.wrap IntKind.i64 (x9 + x31)) fun x32 => Bd (IntKind.wrap IntKind.i64 (x10 + (1 : Int))) fun x33 => J6 [Value.int IntKind.i64 x8, Value.int
  IntKind.i64 x32, Value.int IntKind.i64 x33] [] w30) w7)) (R (Value.int IntKind.i64 x9) w7)) [Value.int IntKind.i64 (0 : Int), Value.int IntKind.i64 (1 : Int), Value.int
  IntKind.i64 (0 : Int)] [] w3
theorem f84_eq (p0_0 : Int) (p0_1 : Int) (p0_2 : Int) (p0_3 : Int) (p0_4 : Int) (p0_5a : Option Addr) (p0_5n : Nat) (p0_5c : Nat) (p1 : Int) (R : Value → World → Prop) (w
  : World) : fnW Try.prog [2] Try.f84 [Value.agg #[Value.int IntKind.u8 p0_0, Value.int IntKind.u64 p0_1, Value.int IntKind.u64 p0_2, Value.int IntKind.u64 p0_3,
  Value.int IntKind.u64 p0_4, Value.slice p0_5a p0_5n p0_5c], Value.int IntKind.i64 p1] R w = f84_vc p0_0 p0_1 p0_2 p0_3 p0_4 p0_5a p0_5n p0_5c p1 R w := by kernel_rfl
theorem f84_in (p0_0 : Int) (p0_1 : Int) (p0_2 : Int) (p0_3 : Int) (p0_4 : Int) (p0_5a : Option Addr) (p0_5n : Nat) (p0_5c : Nat) (p1 : Int) (R : Value → World → Prop) (w
  : World) (h : f84_vc p0_0 p0_1 p0_2 p0_3 p0_4 p0_5a p0_5n p0_5c p1 R w) : Ct Try.prog 84 #[Value.agg #[Value.int IntKind.u8 p0_0, Value.int IntKind.u64 p0_1, Value.int
  IntKind.u64 p0_2, Value.int IntKind.u64 p0_3, Value.int IntKind.u64 p0_4, Value.slice p0_5a p0_5n p0_5c], Value.int IntKind.i64 p1] w R := by
  refine Ct_of (rk := [2]) (fn := Try.f84) (args := [Value.agg #[Value.int IntKind.u8 p0_0, Value.int IntKind.u64 p0_1, Value.int IntKind.u64 p0_2, Value.int IntKind.u64 p0_3, Value.int IntKind.u64 p0_4, Value.slice p0_5a p0_5n p0_5c], Value.int IntKind.i64 p1]) mixedT Try.func84 (by kernel_rfl) ?_
  rw [f84_eq]
  exact h
def f144_vc (p0_0 : Int) (p0_1 : Int) (p0_2 : Int) (p0_3 : Int) (p0_4 : Int) (p0_5a : Option Addr) (p0_5n : Nat) (p0_5c : Nat) (R : Value → World → Prop) (w : World) :
  Prop := Rg w fun n1 => Jn (fun l2 l3 w4 => opI IntKind.i64 (nthD l2 (0 : Nat)) fun x5 => opI IntKind.i64 (nthD l2 (1 : Nat)) fun x6 => opB (nthD l2 (2 : Nat)) fun b7 =>
  opB (nthD l2 (3 : Nat)) fun b8 => Bd ↑p0_5n fun x9 => Bd (decide (x9 < x5)) fun b10 => Bd ↑p0_5n fun x11 => Bd (decide (x11 > x6)) fun b12 => Bd (bif b10 then true else
  b12) fun b13 => Bd (p0_0 == (1 : Int)) fun b14 => Gd (!b13) false (fun J15 => RunW Try.prog [n1] (eqS BinOp.eql (28 : Nat) (Operand.tmp (37 : Nat)) (Operand.tmp (38 :
  Nat)) (Value.agg #[Value.int IntKind.u64 p0_1, Value.int IntKind.u64 p0_2, Value.int IntKind.u64 p0_3, Value.int IntKind.u64 p0_4]) (Value.agg #[Value.int IntKind.u64
  (0 : Int), Value.int IntKind.u64 (0 : Int), Value.int IntKind.u64 (0 : Int), Value.int IntKind.u64 (0 : Int)])) (fun v16 w17 => opB v16 fun b18 => J15 b18 w17)
  (World.drew w4)) (fun b19 w20 => Bd (b14 == b19) fun b21 => Bd (bif b13 then true else b21) fun b22 => If b22 (R (Value.bool false) w20) (Bd ↑p0_5n fun x23 => LoopP
  (fun l24 l25 J26 w27 => opB (nthD l24 (0 : Nat)) fun b28 => opI IntKind.i64 (nthD l24 (1 : Nat)) fun x29 => Bd (decide (x29 < x23)) fun b30 => If b30 (IxOk x29 p0_5n
  p0_5a ∧ Ld w27 (Addr.add (adAt p0_5a x29 (6 : Nat)) (0 : Nat)) fun v31 => Ld w27 (Addr.add (adAt p0_5a x29 (6 : Nat)) (1 : Nat)) fun v32 => Ld w27 (Addr.add (adAt p0_5a
  x29 (6 : Nat)) (2 : Nat)) fun v33 => Ld w27 (Addr.add (adAt p0_5a x29 (6 : Nat)) (3 : Nat)) fun v34 => Ld w27 (Addr.add (adAt p0_5a x29 (6 : Nat)) (4 : Nat)) fun v35 =>
  Ld w27 (Addr.add (adAt p0_5a x29 (6 : Nat)) (5 : Nat)) fun v36 => opI IntKind.u8 v31 fun x37 => opI IntKind.u64 v32 fun x38 => opI IntKind.u64 v33 fun x39 => opI
  IntKind.u64 v34 fun x40 => opI IntKind.u64 v35 fun x41 => opL v36 fun a42 n43 n44 => Rg w27 fun n45 => Up [n45] [n45, n1] w27 fun w46 => CallW Try.prog [n45, n1] (144 :
  Nat) #[Value.agg #[Value.int IntKind.u8 x37, Value.int IntKind.u64 x38, Value.int IntKind.u64 x39, Value.int IntKind.u64 x40, Value.int IntKind.u64 x41, Value.slice a42
  n43 n44]] (fun v47 w48 => opB v47 fun b49 => Bd (!b49) fun b50 => If b50 (R (Value.bool false) w48) (Bd (IntKind.wrap IntKind.i64 (x29 + (1 : Int))) fun x51 => J26
  [Value.bool b28, Value.int IntKind.i64 x51] [] w48)) w46) (R (Value.bool true) w27)) [Value.bool b7, Value.int IntKind.i64 (0 : Int)] [] w20)) (World.drew w4)) fun J52
  => Jn (fun l53 l54 w55 => opB (nthD l53 (0 : Nat)) fun b56 => If b56 (Bd ↑p0_5n fun x57 => J52 [Value.int IntKind.i64 (2 : Int), Value.int IntKind.i64 x57, Value.bool
  false, Value.bool b56] [] (World.drew w55)) (Bd (p0_0 == (4 : Int)) fun b58 => If b58 (J52 [Value.int IntKind.i64 (1 : Int), Value.int IntKind.i64 (1 : Int), Value.bool
  false, Value.bool b56] [] w55) (Jn (fun l59 l60 w61 => opB (nthD l59 (0 : Nat)) fun b62 => If b62 (J52 [Value.int IntKind.i64 (0 : Int), Value.int IntKind.i64 (0 :
  Int), Value.bool false, Value.bool b56] [] w61) (R (Value.bool false) w61)) fun J63 => Bd (p0_0 == (0 : Int)) fun b64 => If b64 (J63 [Value.bool b64] [] w55) (Bd (p0_0
  == (1 : Int)) fun b65 => J63 [Value.bool b65] [] w55)))) fun J66 => Bd (p0_0 == (2 : Int)) fun b67 => If b67 (Up [] [n1] w fun w68 => J66 [Value.bool b67] [] w68) (Bd
  (p0_0 == (3 : Int)) fun b69 => Up [] [n1] w fun w70 => J66 [Value.bool b69] [] w70)
theorem f144_eq (p0_0 : Int) (p0_1 : Int) (p0_2 : Int) (p0_3 : Int) (p0_4 : Int) (p0_5a : Option Addr) (p0_5n : Nat) (p0_5c : Nat) (R : Value → World → Prop) (w : World)
  : fnW Try.prog [1, 6] Try.f144 [Value.agg #[Value.int IntKind.u8 p0_0, Value.int IntKind.u64 p0_1, Value.int IntKind.u64 p0_2, Value.int IntKind.u64 p0_3, Value.int
  IntKind.u64 p0_4, Value.slice p0_5a p0_5n p0_5c]] R w = f144_vc p0_0 p0_1 p0_2 p0_3 p0_4 p0_5a p0_5n p0_5c R w := by kernel_rfl
theorem f144_in (p0_0 : Int) (p0_1 : Int) (p0_2 : Int) (p0_3 : Int) (p0_4 : Int) (p0_5a : Option Addr) (p0_5n : Nat) (p0_5c : Nat) (R : Value → World → Prop) (w : World)
  (h : f144_vc p0_0 p0_1 p0_2 p0_3 p0_4 p0_5a p0_5n p0_5c R w) : Ct Try.prog 144 #[Value.agg #[Value.int IntKind.u8 p0_0, Value.int IntKind.u64 p0_1, Value.int
  IntKind.u64 p0_2, Value.int IntKind.u64 p0_3, Value.int IntKind.u64 p0_4, Value.slice p0_5a p0_5n p0_5c]] w R := by
  refine Ct_of (rk := [1, 6]) (fn := Try.f144) (args := [Value.agg #[Value.int IntKind.u8 p0_0, Value.int IntKind.u64 p0_1, Value.int IntKind.u64 p0_2, Value.int IntKind.u64 p0_3, Value.int IntKind.u64 p0_4, Value.slice p0_5a p0_5n p0_5c]]) mixedT Try.func144 (by kernel_rfl) ?_
  rw [f144_eq]
  exact h
def f40_vc (p0a : Option Addr) (p0n : Nat) (p0c : Nat) (R : Value → World → Prop) (w : World) : Prop := Rg w fun n1 => Bd ↑p0n fun x2 => Up [] [n1] w fun w3 => LoopP (fun
  l4 l5 J6 w7 => opI IntKind.i64 (nthD l4 (0 : Nat)) fun x8 => opI IntKind.i64 (nthD l4 (1 : Nat)) fun x9 => opBig (nthD l5 (0 : Nat)) fun cs10 => Bd (decide (x9 < x2))
  fun b11 => If b11 (IxOk x9 p0n p0a ∧ Ld w7 (Addr.add (adAt p0a x9 (6 : Nat)) (0 : Nat)) fun v12 => Ld w7 (Addr.add (adAt p0a x9 (6 : Nat)) (1 : Nat)) fun v13 => Ld w7
  (Addr.add (adAt p0a x9 (6 : Nat)) (2 : Nat)) fun v14 => Ld w7 (Addr.add (adAt p0a x9 (6 : Nat)) (3 : Nat)) fun v15 => Ld w7 (Addr.add (adAt p0a x9 (6 : Nat)) (4 : Nat))
  fun v16 => Ld w7 (Addr.add (adAt p0a x9 (6 : Nat)) (5 : Nat)) fun v17 => opI IntKind.u8 v12 fun x18 => opI IntKind.u64 v13 fun x19 => opI IntKind.u64 v14 fun x20 => opI
  IntKind.u64 v15 fun x21 => opI IntKind.u64 v16 fun x22 => opL v17 fun a23 n24 n25 => Rg w7 fun n26 => Up [n26] [n26, n1] w7 fun w27 => CallW Try.prog [n26, n1] (144 :
  Nat) #[Value.agg #[Value.int IntKind.u8 x18, Value.int IntKind.u64 x19, Value.int IntKind.u64 x20, Value.int IntKind.u64 x21, Value.int IntKind.u64 x22, Value.slice a23
  n24 n25]] (fun v28 w29 => opB v28 fun b30 => Bd (!b30) fun b31 => If b31 (RunW Try.prog [n26, n1] (Instr.build (25 : Nat) #[]) (fun v32 w33 => opBig v32 fun cs34 =>
  Array.size cs34 = (257 : Nat) ∧ OkC (Array.toList cs34) (257 : Nat) (SzIs (Array.size cs10) (257 : Nat) (Up [n1] [n26, n1] w33 fun w35 => Array.size cs34 = (257 : Nat)
  ∧ R (Value.tuple #[Value.agg cs34, Value.int IntKind.i64 (2 : Int)]) w35))) w29) (Bd (IntKind.wrap IntKind.i64 (x9 + (1 : Int))) fun x36 => J6 [Value.int IntKind.i64
  x8, Value.int IntKind.i64 x36] [Value.agg cs10] w29)) w27) (RunW Try.prog [n1] (Instr.build (25 : Nat) #[((1 : Nat), Value.int IntKind.i64 (1 : Int))]) (fun v37 w38 =>
  opBig v37 fun cs39 => Array.size cs39 = (257 : Nat) ∧ Rg w38 fun n40 => OkC (Array.toList cs39) (257 : Nat) (Up [n40] [n40, n1] w38 fun w41 => CallW Try.prog [n40, n1]
  (145 : Nat) #[Value.slice p0a p0n p0c] (fun v42 w43 => opL v42 fun a44 n45 n46 => Bd ↑n45 fun x47 => LoopP (fun l48 l49 J50 w51 => opI IntKind.i64 (nthD l48 (0 : Nat))
  fun x52 => opBig (nthD l49 (0 : Nat)) fun cs53 => Bd (decide (x52 < x47)) fun b54 => If b54 (IxOk x52 n45 a44 ∧ Ld w51 (Addr.add (adAt a44 x52 (4 : Nat)) (0 : Nat)) fun
  v55 => Ld w51 (Addr.add (adAt a44 x52 (4 : Nat)) (1 : Nat)) fun v56 => Ld w51 (Addr.add (adAt a44 x52 (4 : Nat)) (2 : Nat)) fun v57 => Ld w51 (Addr.add (adAt a44 x52 (4
  : Nat)) (3 : Nat)) fun v58 => opI IntKind.u64 v55 fun x59 => opI IntKind.u64 v56 fun x60 => opI IntKind.u64 v57 fun x61 => opI IntKind.u64 v58 fun x62 => Rg w51 fun n63
  => Array.size cs53 = (257 : Nat) ∧ Up [n63] [n63, n40, n1] w51 fun w64 => CallW Try.prog [n63, n40, n1] (146 : Nat) #[Value.agg cs53, Value.agg #[Value.int IntKind.u64
  x59, Value.int IntKind.u64 x60, Value.int IntKind.u64 x61, Value.int IntKind.u64 x62]] (fun v65 w66 => opBig v65 fun cs67 => Array.size cs67 = (257 : Nat) ∧ OkC
  (Array.toList cs67) (257 : Nat) (SzIs (Array.size cs53) (257 : Nat) (Bd (IntKind.wrap IntKind.i64 (x52 + (1 : Int))) fun x68 => Up [n40] [n63, n40, n1] w66 fun w69 =>
  J50 [Value.int IntKind.i64 x68] [Value.agg cs67] w69))) w64) (Array.size cs53 = (257 : Nat) ∧ OkC (Array.toList cs53) (257 : Nat) (SzIs (Array.size cs10) (257 : Nat)
  (Up [n1] [n40, n1] w51 fun w70 => Array.size cs53 = (257 : Nat) ∧ R (Value.tuple #[Value.agg cs53, Value.int IntKind.i64 (0 : Int)]) w70)))) [Value.int IntKind.i64 (0 :
  Int)] [Value.agg cs39] w43) w41)) w7)) [Value.int IntKind.i64 (0 : Int), Value.int IntKind.i64 (0 : Int)] [Value.agg (List.toArray (zeroL Try.prog (25 : Nat)))] w3
theorem f40_eq (p0a : Option Addr) (p0n : Nat) (p0c : Nat) (R : Value → World → Prop) (w : World) : fnW Try.prog [2, 5, 6, 8] Try.f40 [Value.slice p0a p0n p0c] R w =
  f40_vc p0a p0n p0c R w := by kernel_rfl
theorem f40_in (p0a : Option Addr) (p0n : Nat) (p0c : Nat) (R : Value → World → Prop) (w : World) (h : f40_vc p0a p0n p0c R w) : Ct Try.prog 40 #[Value.slice p0a p0n p0c]
  w R := by
  refine Ct_of (rk := [2, 5, 6, 8]) (fn := Try.f40) (args := [Value.slice p0a p0n p0c]) mixedT Try.func40 (by kernel_rfl) ?_
  rw [f40_eq]
  exact h
def f145_vc (p0a : Option Addr) (p0n : Nat) (p0c : Nat) (R : Value → World → Prop) (w : World) : Prop := Bd ↑p0n fun x1 => LoopP (fun l2 l3 J4 w5 => opL (nthD l2 (0 :
  Nat)) fun a6 n7 n8 => opI IntKind.i64 (nthD l2 (1 : Nat)) fun x9 => Bd (decide (x9 < x1)) fun b10 => If b10 (IxOk x9 p0n p0a ∧ Ld w5 (Addr.add (adAt p0a x9 (6 : Nat))
  (0 : Nat)) fun v11 => Ld w5 (Addr.add (adAt p0a x9 (6 : Nat)) (1 : Nat)) fun v12 => Ld w5 (Addr.add (adAt p0a x9 (6 : Nat)) (2 : Nat)) fun v13 => Ld w5 (Addr.add (adAt
  p0a x9 (6 : Nat)) (3 : Nat)) fun v14 => Ld w5 (Addr.add (adAt p0a x9 (6 : Nat)) (4 : Nat)) fun v15 => Ld w5 (Addr.add (adAt p0a x9 (6 : Nat)) (5 : Nat)) fun v16 => opI
  IntKind.u8 v11 fun x17 => opI IntKind.u64 v12 fun x18 => opI IntKind.u64 v13 fun x19 => opI IntKind.u64 v14 fun x20 => opI IntKind.u64 v15 fun x21 => opL v16 fun a22
  n23 n24 => Rg w5 fun n25 => Jn (fun l26 l27 w28 => opL (nthD l26 (0 : Nat)) fun a29 n30 n31 => CallW Try.prog [n25] (145 : Nat) #[Value.slice a22 n23 n24] (fun v32 w33
  => opL v32 fun a34 n35 n36 => RunW Try.prog [n25] (Builtin.append_ #[(43 : Nat), (43 : Nat)] (43 : Nat) #[Value.slice a29 n30 n31, Value.slice a34 n35 n36]) (fun v37
  w38 => opL v37 fun a39 n40 n41 => Bd (IntKind.wrap IntKind.i64 (x9 + (1 : Int))) fun x42 => J4 [Value.slice a39 n40 n41, Value.int IntKind.i64 x42] [] w38) w33) w28)
  fun J43 => Bd (x17 == (1 : Int)) fun b44 => If b44 (Up [n25] [n25] w5 fun w45 => Nw (Obj.cells #[Value.int IntKind.u64 x18, Value.int IntKind.u64 x19, Value.int
  IntKind.u64 x20, Value.int IntKind.u64 x21] (28 : Nat)) w45 fun n46 w47 => RunW Try.prog [n25] (Builtin.append_ #[(43 : Nat), (43 : Nat)] (43 : Nat) #[Value.slice a6 n7
  n8, Value.slice (some { block := n46, off := (0 : Nat) }) (1 : Nat) (1 : Nat)]) (fun v48 w49 => opL v48 fun a50 n51 n52 => J43 [Value.slice a50 n51 n52] [] w49) w47)
  (Up [n25] [n25] w5 fun w53 => J43 [Value.slice a6 n7 n8] [] w53)) (R (Value.slice a6 n7 n8) w5)) [Value.slice none (0 : Nat) (0 : Nat), Value.int IntKind.i64 (0 : Int)]
  [] w
theorem f145_eq (p0a : Option Addr) (p0n : Nat) (p0c : Nat) (R : Value → World → Prop) (w : World) : fnW Try.prog [5] Try.f145 [Value.slice p0a p0n p0c] R w = f145_vc p0a
  p0n p0c R w := by kernel_rfl
theorem f145_in (p0a : Option Addr) (p0n : Nat) (p0c : Nat) (R : Value → World → Prop) (w : World) (h : f145_vc p0a p0n p0c R w) : Ct Try.prog 145 #[Value.slice p0a p0n
  p0c] w R := by
  refine Ct_of (rk := [5]) (fn := Try.f145) (args := [Value.slice p0a p0n p0c]) mixedT Try.func145 (by kernel_rfl) ?_
  rw [f145_eq]
  exact h
def f146_vc (p0 : Array Value) (p1_0 : Int) (p1_1 : Int) (p1_2 : Int) (p1_3 : Int) (R : Value → World → Prop) (w : World) : Prop := Rg w fun n1 => Rg w fun n2 => Rg w fun
  n3 => Up [] [n3, n2, n1] w fun w4 => Nw (Obj.map #[] (0 : Nat)) w4 fun n5 w6 => LoopP (fun l7 l8 J9 w10 => opI IntKind.i64 (nthD l7 (0 : Nat)) fun x11 => opBig (nthD l8
  (0 : Nat)) fun cs12 => Bd (decide (x11 < (256 : Int))) fun b13 => If b13 (((0 : Int) ≤ x11 ∧ x11 < ↑(256 : Nat)) ∧ (BdO (nthV (Array.toList cs12) ((0 : Nat) + Int.toNat
  x11 * (1 : Nat))) fun v14 => opI IntKind.u8 v14 fun x15 => (CallW Try.prog [n3, n2, n1] (214 : Nat) #[Value.agg #[Value.int IntKind.u64 p1_0, Value.int IntKind.u64
  p1_1, Value.int IntKind.u64 p1_2, Value.int IntKind.u64 p1_3], Value.int IntKind.i64 x11] (fun v16 w17 => opB v16 fun b18 => Rg w17 fun n19 => Up [] [n19, n3, n2, n1]
  w17 fun w20 => Up [n19] [n19, n3, n2, n1] w20 fun w21 => RunW Try.prog [n19, n3, n2, n1] (Instr.lookup (274 : Nat) (Value.map (some n5)) (Value.agg #[Value.int
  IntKind.u8 x15, Value.bool b18]) true) (fun v22 w23 => opTu v22 fun cs24 => opI IntKind.u8 (nthD (Array.toList cs24) (0 : Nat)) fun x25 => opB (nthD (Array.toList cs24)
  (1 : Nat)) fun b26 => SzIs (Array.size cs24) (2 : Nat) (Jn (fun l27 l28 w29 => opI IntKind.u8 (nthD l27 (0 : Nat)) fun x30 => ((0 : Int) ≤ x11 ∧ x11 < ↑(256 : Nat)) ∧
  LeC ((0 : Nat) + Int.toNat x11 * (1 : Nat) + (1 : Nat)) (Array.size cs12) (Bd (IntKind.wrap IntKind.i64 (x11 + (1 : Int))) fun x31 => Up [n1] [n19, n3, n2, n1] w29 fun
  w32 => J9 [Value.int IntKind.i64 x31] [Value.agg (List.toArray (wrL (Array.toList cs12) ((0 : Nat) + Int.toNat x11 * (1 : Nat)) [Value.int IntKind.u8 x30]))] w32)) fun
  J33 => Bd (!b26) fun b34 => If b34 (RunW Try.prog [n19, n3, n2, n1] (Builtin.len_ #[(274 : Nat)] (3 : Nat) #[Value.map (some n5)]) (fun v35 w36 => opI IntKind.i64 v35
  fun x37 => Bd (IntKind.wrap IntKind.u8 x37) fun x38 => RunU Try.prog [n19, n3, n2, n1] (Instr.mapUpdate (274 : Nat) (Value.map (some n5)) (Value.agg #[Value.int
  IntKind.u8 x15, Value.bool b18]) (Value.int IntKind.u8 x38)) (fun w39 => J33 [Value.int IntKind.u8 x38] [] w39) w36) w23) (J33 [Value.int IntKind.u8 x25] [] w23))) w21)
  (World.drew w10) ∧ Rg (World.drew w10) fun n40 => Up [] [n40, n3, n2, n1] (World.drew w10) fun w41 => CallW Try.prog [n40, n3, n2, n1] (214 : Nat) #[Value.agg
  #[Value.int IntKind.u64 p1_0, Value.int IntKind.u64 p1_1, Value.int IntKind.u64 p1_2, Value.int IntKind.u64 p1_3], Value.int IntKind.i64 x11] (fun v42 w43 => opB v42
  fun b44 => Up [n40] [n40, n3, n2, n1] w43 fun w45 => RunW Try.prog [n40, n3, n2, n1] (Instr.lookup (274 : Nat) (Value.map (some n5)) (Value.agg #[Value.int IntKind.u8
  x15, Value.bool b44]) true) (fun v46 w47 => opTu v46 fun cs48 => opI IntKind.u8 (nthD (Array.toList cs48) (0 : Nat)) fun x49 => opB (nthD (Array.toList cs48) (1 : Nat))
  fun b50 => SzIs (Array.size cs48) (2 : Nat) (Jn (fun l51 l52 w53 => opI IntKind.u8 (nthD l51 (0 : Nat)) fun x54 => ((0 : Int) ≤ x11 ∧ x11 < ↑(256 : Nat)) ∧ LeC ((0 :
  Nat) + Int.toNat x11 * (1 : Nat) + (1 : Nat)) (Array.size cs12) (Bd (IntKind.wrap IntKind.i64 (x11 + (1 : Int))) fun x55 => Up [n1] [n40, n3, n2, n1] w53 fun w56 => J9
  [Value.int IntKind.i64 x55] [Value.agg (List.toArray (wrL (Array.toList cs12) ((0 : Nat) + Int.toNat x11 * (1 : Nat)) [Value.int IntKind.u8 x54]))] w56)) fun J57 => Bd
  (!b50) fun b58 => If b58 (RunW Try.prog [n40, n3, n2, n1] (Builtin.len_ #[(274 : Nat)] (3 : Nat) #[Value.map (some n5)]) (fun v59 w60 => opI IntKind.i64 v59 fun x61 =>
  Bd (IntKind.wrap IntKind.u8 x61) fun x62 => RunU Try.prog [n40, n3, n2, n1] (Instr.mapUpdate (274 : Nat) (Value.map (some n5)) (Value.agg #[Value.int IntKind.u8 x15,
  Value.bool b44]) (Value.int IntKind.u8 x62)) (fun w63 => J57 [Value.int IntKind.u8 x62] [] w63) w60) w47) (J57 [Value.int IntKind.u8 x49] [] w47))) w45) w41) ∧ Rg
  (World.drew w10) fun n64 => Up [] [n64, n3, n2, n1] (World.drew w10) fun w65 => CallW Try.prog [n64, n3, n2, n1] (214 : Nat) #[Value.agg #[Value.int IntKind.u64 p1_0,
  Value.int IntKind.u64 p1_1, Value.int IntKind.u64 p1_2, Value.int IntKind.u64 p1_3], Value.int IntKind.i64 x11] (fun v66 w67 => opB v66 fun b68 => Up [n64] [n64, n3,
  n2, n1] w67 fun w69 => RunW Try.prog [n64, n3, n2, n1] (Instr.lookup (274 : Nat) (Value.map (some n5)) (Value.agg #[Value.int IntKind.u8 x15, Value.bool b68]) true)
  (fun v70 w71 => opTu v70 fun cs72 => opI IntKind.u8 (nthD (Array.toList cs72) (0 : Nat)) fun x73 => opB (nthD (Array.toList cs72) (1 : Nat)) fun b74 => SzIs (Array.size
  cs72) (2 : Nat) (Jn (fun l75 l76 w77 => opI IntKind.u8 (nthD l75 (0 : Nat)) fun x78 => ((0 : Int) ≤ x11 ∧ x11 < ↑(256 : Nat)) ∧ LeC ((0 : Nat) + Int.toNat x11 * (1 :
  Nat) + (1 : Nat)) (Array.size cs12) (Bd (IntKind.wrap IntKind.i64 (x11 + (1 : Int))) fun x79 => Up [n1] [n64, n3, n2, n1] w77 fun w80 => J9 [Value.int IntKind.i64 x79]
  [Value.agg (List.toArray (wrL (Array.toList cs12) ((0 : Nat) + Int.toNat x11 * (1 : Nat)) [Value.int IntKind.u8 x78]))] w80)) fun J81 => Bd (!b74) fun b82 => If b82
  (RunW Try.prog [n64, n3, n2, n1] (Builtin.len_ #[(274 : Nat)] (3 : Nat) #[Value.map (some n5)]) (fun v83 w84 => opI IntKind.i64 v83 fun x85 => Bd (IntKind.wrap
  IntKind.u8 x85) fun x86 => RunU Try.prog [n64, n3, n2, n1] (Instr.mapUpdate (274 : Nat) (Value.map (some n5)) (Value.agg #[Value.int IntKind.u8 x15, Value.bool b68])
  (Value.int IntKind.u8 x86)) (fun w87 => J81 [Value.int IntKind.u8 x86] [] w87) w84) w71) (J81 [Value.int IntKind.u8 x73] [] w71))) w69) w65) ∧ ((BdO (nthV (Array.toList
  cs12) ((0 : Nat) + Int.toNat x11 * (1 : Nat))) fun v88 => opI IntKind.u8 v88 fun x89 => CallW Try.prog [n3, n2, n1] (214 : Nat) #[Value.agg #[Value.int IntKind.u64
  p1_0, Value.int IntKind.u64 p1_1, Value.int IntKind.u64 p1_2, Value.int IntKind.u64 p1_3], Value.int IntKind.i64 x11] (fun v90 w91 => opB v90 fun b92 => Rg w91 fun n93
  => Up [] [n93, n3, n2, n1] w91 fun w94 => Up [n93] [n93, n3, n2, n1] w94 fun w95 => RunW Try.prog [n93, n3, n2, n1] (Instr.lookup (274 : Nat) (Value.map (some n5))
  (Value.agg #[Value.int IntKind.u8 x89, Value.bool b92]) true) (fun v96 w97 => opTu v96 fun cs98 => opI IntKind.u8 (nthD (Array.toList cs98) (0 : Nat)) fun x99 => opB
  (nthD (Array.toList cs98) (1 : Nat)) fun b100 => SzIs (Array.size cs98) (2 : Nat) (Jn (fun l101 l102 w103 => opI IntKind.u8 (nthD l101 (0 : Nat)) fun x104 => ((0 : Int)
  ≤ x11 ∧ x11 < ↑(256 : Nat)) ∧ LeC ((0 : Nat) + Int.toNat x11 * (1 : Nat) + (1 : Nat)) (Array.size cs12) (Bd (IntKind.wrap IntKind.i64 (x11 + (1 : Int))) fun x105 => Up
  [n1] [n93, n3, n2, n1] w103 fun w106 => J9 [Value.int IntKind.i64 x105] [Value.agg (List.toArray (wrL (Array.toList cs12) ((0 : Nat) + Int.toNat x11 * (1 : Nat))
  [Value.int IntKind.u8 x104]))] w106)) fun J107 => Bd (!b100) fun b108 => If b108 (RunW Try.prog [n93, n3, n2, n1] (Builtin.len_ #[(274 : Nat)] (3 : Nat) #[Value.map
  (some n5)]) (fun v109 w110 => opI IntKind.i64 v109 fun x111 => Bd (IntKind.wrap IntKind.u8 x111) fun x112 => RunU Try.prog [n93, n3, n2, n1] (Instr.mapUpdate (274 :
  Nat) (Value.map (some n5)) (Value.agg #[Value.int IntKind.u8 x89, Value.bool b92]) (Value.int IntKind.u8 x112)) (fun w113 => J107 [Value.int IntKind.u8 x112] [] w113)
  w110) w97) (J107 [Value.int IntKind.u8 x99] [] w97))) w95) (World.drew w10) ∧ Rg (World.drew w10) fun n114 => Up [] [n114, n3, n2, n1] (World.drew w10) fun w115 =>
  CallW Try.prog [n114, n3, n2, n1] (214 : Nat) #[Value.agg #[Value.int IntKind.u64 p1_0, Value.int IntKind.u64 p1_1, Value.int IntKind.u64 p1_2, Value.int IntKind.u64
  p1_3], Value.int IntKind.i64 x11] (fun v116 w117 => opB v116 fun b118 => Up [n114] [n114, n3, n2, n1] w117 fun w119 => RunW Try.prog [n114, n3, n2, n1] (Instr.lookup
  (274 : Nat) (Value.map (some n5)) (Value.agg #[Value.int IntKind.u8 x89, Value.bool b118]) true) (fun v120 w121 => opTu v120 fun cs122 => opI IntKind.u8 (nthD
  (Array.toList cs122) (0 : Nat)) fun x123 => opB (nthD (Array.toList cs122) (1 : Nat)) fun b124 => SzIs (Array.size cs122) (2 : Nat) (Jn (fun l125 l126 w127 => opI
  IntKind.u8 (nthD l125 (0 : Nat)) fun x128 => ((0 : Int) ≤ x11 ∧ x11 < ↑(256 : Nat)) ∧ LeC ((0 : Nat) + Int.toNat x11 * (1 : Nat) + (1 : Nat)) (Array.size cs12) (Bd
  (IntKind.wrap IntKind.i64 (x11 + (1 : Int))) fun x129 => Up [n1] [n114, n3, n2, n1] w127 fun w130 => J9 [Value.int IntKind.i64 x129] [Value.agg (List.toArray (wrL
  (Array.toList cs12) ((0 : Nat) + Int.toNat x11 * (1 : Nat)) [Value.int IntKind.u8 x128]))] w130)) fun J131 => Bd (!b124) fun b132 => If b132 (RunW Try.prog [n114, n3,
  n2, n1] (Builtin.len_ #[(274 : Nat)] (3 : Nat) #[Value.map (some n5)]) (fun v133 w134 => opI IntKind.i64 v133 fun x135 => Bd (IntKind.wrap IntKind.u8 x135) fun x136 =>
  RunU Try.prog [n114, n3, n2, n1] (Instr.mapUpdate (274 : Nat) (Value.map (some n5)) (Value.agg #[Value.int IntKind.u8 x89, Value.bool b118]) (Value.int IntKind.u8
  x136)) (fun w137 => J131 [Value.int IntKind.u8 x136] [] w137) w134) w121) (J131 [Value.int IntKind.u8 x123] [] w121))) w119) w115) ∧ CallW Try.prog [n3, n2, n1] (214 :
  Nat) #[Value.agg #[Value.int IntKind.u64 p1_0, Value.int IntKind.u64 p1_1, Value.int IntKind.u64 p1_2, Value.int IntKind.u64 p1_3], Value.int IntKind.i64 x11] (fun v138
  w139 => opB v138 fun b140 => (BdO (nthV (Array.toList cs12) ((0 : Nat) + Int.toNat x11 * (1 : Nat))) fun v141 => opI IntKind.u8 v141 fun x142 => Rg w139 fun n143 => Up
  [] [n143, n3, n2, n1] w139 fun w144 => Up [n143] [n143, n3, n2, n1] w144 fun w145 => RunW Try.prog [n143, n3, n2, n1] (Instr.lookup (274 : Nat) (Value.map (some n5))
  (Value.agg #[Value.int IntKind.u8 x142, Value.bool b140]) true) (fun v146 w147 => opTu v146 fun cs148 => opI IntKind.u8 (nthD (Array.toList cs148) (0 : Nat)) fun x149
  => opB (nthD (Array.toList cs148) (1 : Nat)) fun b150 => SzIs (Array.size cs148) (2 : Nat) (Jn (fun l151 l152 w153 => opI IntKind.u8 (nthD l151 (0 : Nat)) fun x154 =>
  ((0 : Int) ≤ x11 ∧ x11 < ↑(256 : Nat)) ∧ LeC ((0 : Nat) + Int.toNat x11 * (1 : Nat) + (1 : Nat)) (Array.size cs12) (Bd (IntKind.wrap IntKind.i64 (x11 + (1 : Int))) fun
  x155 => Up [n1] [n143, n3, n2, n1] w153 fun w156 => J9 [Value.int IntKind.i64 x155] [Value.agg (List.toArray (wrL (Array.toList cs12) ((0 : Nat) + Int.toNat x11 * (1 :
  Nat)) [Value.int IntKind.u8 x154]))] w156)) fun J157 => Bd (!b150) fun b158 => If b158 (RunW Try.prog [n143, n3, n2, n1] (Builtin.len_ #[(274 : Nat)] (3 : Nat)
  #[Value.map (some n5)]) (fun v159 w160 => opI IntKind.i64 v159 fun x161 => Bd (IntKind.wrap IntKind.u8 x161) fun x162 => RunU Try.prog [n143, n3, n2, n1]
  (Instr.mapUpdate (274 : Nat) (Value.map (some n5)) (Value.agg #[Value.int IntKind.u8 x142, Value.bool b140]) (Value.int IntKind.u8 x162)) (fun w163 => J157 [Value.int
  IntKind.u8 x162] [] w163) w160) w147) (J157 [Value.int IntKind.u8 x149] [] w147))) w145) ∧ Rg w139 fun n164 => Up [] [n164, n3, n2, n1] w139 fun w165 => BdO (nthV
  (Array.toList cs12) ((0 : Nat) + Int.toNat x11 * (1 : Nat))) fun v166 => opI IntKind.u8 v166 fun x167 => Up [n164] [n164, n3, n2, n1] w165 fun w168 => RunW Try.prog
  [n164, n3, n2, n1] (Instr.lookup (274 : Nat) (Value.map (some n5)) (Value.agg #[Value.int IntKind.u8 x167, Value.bool b140]) true) (fun v169 w170 => opTu v169 fun cs171
  => opI IntKind.u8 (nthD (Array.toList cs171) (0 : Nat)) fun x172 => opB (nthD (Array.toList cs171) (1 : Nat)) fun b173 => SzIs (Array.size cs171) (2 : Nat) (Jn (fun
  l174 l175 w176 => opI IntKind.u8 (nthD l174 (0 : Nat)) fun x177 => ((0 : Int) ≤ x11 ∧ x11 < ↑(256 : Nat)) ∧ LeC ((0 : Nat) + Int.toNat x11 * (1 : Nat) + (1 : Nat))
  (Array.size cs12) (Bd (IntKind.wrap IntKind.i64 (x11 + (1 : Int))) fun x178 => Up [n1] [n164, n3, n2, n1] w176 fun w179 => J9 [Value.int IntKind.i64 x178] [Value.agg
  (List.toArray (wrL (Array.toList cs12) ((0 : Nat) + Int.toNat x11 * (1 : Nat)) [Value.int IntKind.u8 x177]))] w179)) fun J180 => Bd (!b173) fun b181 => If b181 (RunW
  Try.prog [n164, n3, n2, n1] (Builtin.len_ #[(274 : Nat)] (3 : Nat) #[Value.map (some n5)]) (fun v182 w183 => opI IntKind.i64 v182 fun x184 => Bd (IntKind.wrap
  IntKind.u8 x184) fun x185 => RunU Try.prog [n164, n3, n2, n1] (Instr.mapUpdate (274 : Nat) (Value.map (some n5)) (Value.agg #[Value.int IntKind.u8 x167, Value.bool
  b140]) (Value.int IntKind.u8 x185)) (fun w186 => J180 [Value.int IntKind.u8 x185] [] w186) w183) w170) (J180 [Value.int IntKind.u8 x172] [] w170))) w168) (World.drew
  w10) ∧ Rg (World.drew w10) fun n187 => Up [] [n187, n3, n2, n1] (World.drew w10) fun w188 => (BdO (nthV (Array.toList cs12) ((0 : Nat) + Int.toNat x11 * (1 : Nat))) fun
  v189 => opI IntKind.u8 v189 fun x190 => CallW Try.prog [n187, n3, n2, n1] (214 : Nat) #[Value.agg #[Value.int IntKind.u64 p1_0, Value.int IntKind.u64 p1_1, Value.int
  IntKind.u64 p1_2, Value.int IntKind.u64 p1_3], Value.int IntKind.i64 x11] (fun v191 w192 => opB v191 fun b193 => Up [n187] [n187, n3, n2, n1] w192 fun w194 => RunW
  Try.prog [n187, n3, n2, n1] (Instr.lookup (274 : Nat) (Value.map (some n5)) (Value.agg #[Value.int IntKind.u8 x190, Value.bool b193]) true) (fun v195 w196 => opTu v195
  fun cs197 => opI IntKind.u8 (nthD (Array.toList cs197) (0 : Nat)) fun x198 => opB (nthD (Array.toList cs197) (1 : Nat)) fun b199 => SzIs (Array.size cs197) (2 : Nat)
  (Jn (fun l200 l201 w202 => opI IntKind.u8 (nthD l200 (0 : Nat)) fun x203 => ((0 : Int) ≤ x11 ∧ x11 < ↑(256 : Nat)) ∧ LeC ((0 : Nat) + Int.toNat x11 * (1 : Nat) + (1 :
  Nat)) (Array.size cs12) (Bd (IntKind.wrap IntKind.i64 (x11 + (1 : Int))) fun x204 => Up [n1] [n187, n3, n2, n1] w202 fun w205 => J9 [Value.int IntKind.i64 x204]
  [Value.agg (List.toArray (wrL (Array.toList cs12) ((0 : Nat) + Int.toNat x11 * (1 : Nat)) [Value.int IntKind.u8 x203]))] w205)) fun J206 => Bd (!b199) fun b207 => If
  b207 (RunW Try.prog [n187, n3, n2, n1] (Builtin.len_ #[(274 : Nat)] (3 : Nat) #[Value.map (some n5)]) (fun v208 w209 => opI IntKind.i64 v208 fun x210 => Bd
  (IntKind.wrap IntKind.u8 x210) fun x211 => RunU Try.prog [n187, n3, n2, n1] (Instr.mapUpdate (274 : Nat) (Value.map (some n5)) (Value.agg #[Value.int IntKind.u8 x190,
  Value.bool b193]) (Value.int IntKind.u8 x211)) (fun w212 => J206 [Value.int IntKind.u8 x211] [] w212) w209) w196) (J206 [Value.int IntKind.u8 x198] [] w196))) w194)
  w188) ∧ CallW Try.prog [n187, n3, n2, n1] (214 : Nat) #[Value.agg #[Value.int IntKind.u64 p1_0, Value.int IntKind.u64 p1_1, Value.int IntKind.u64 p1_2, Value.int
  IntKind.u64 p1_3], Value.int IntKind.i64 x11] (fun v213 w214 => opB v213 fun b215 => BdO (nthV (Array.toList cs12) ((0 : Nat) + Int.toNat x11 * (1 : Nat))) fun v216 =>
  opI IntKind.u8 v216 fun x217 => Up [n187] [n187, n3, n2, n1] w214 fun w218 => RunW Try.prog [n187, n3, n2, n1] (Instr.lookup (274 : Nat) (Value.map (some n5))
  (Value.agg #[Value.int IntKind.u8 x217, Value.bool b215]) true) (fun v219 w220 => opTu v219 fun cs221 => opI IntKind.u8 (nthD (Array.toList cs221) (0 : Nat)) fun x222
  => opB (nthD (Array.toList cs221) (1 : Nat)) fun b223 => SzIs (Array.size cs221) (2 : Nat) (Jn (fun l224 l225 w226 => opI IntKind.u8 (nthD l224 (0 : Nat)) fun x227 =>
  ((0 : Int) ≤ x11 ∧ x11 < ↑(256 : Nat)) ∧ LeC ((0 : Nat) + Int.toNat x11 * (1 : Nat) + (1 : Nat)) (Array.size cs12) (Bd (IntKind.wrap IntKind.i64 (x11 + (1 : Int))) fun
  x228 => Up [n1] [n187, n3, n2, n1] w226 fun w229 => J9 [Value.int IntKind.i64 x228] [Value.agg (List.toArray (wrL (Array.toList cs12) ((0 : Nat) + Int.toNat x11 * (1 :
  Nat)) [Value.int IntKind.u8 x227]))] w229)) fun J230 => Bd (!b223) fun b231 => If b231 (RunW Try.prog [n187, n3, n2, n1] (Builtin.len_ #[(274 : Nat)] (3 : Nat)
  #[Value.map (some n5)]) (fun v232 w233 => opI IntKind.i64 v232 fun x234 => Bd (IntKind.wrap IntKind.u8 x234) fun x235 => RunU Try.prog [n187, n3, n2, n1]
  (Instr.mapUpdate (274 : Nat) (Value.map (some n5)) (Value.agg #[Value.int IntKind.u8 x217, Value.bool b215]) (Value.int IntKind.u8 x235)) (fun w236 => J230 [Value.int
  IntKind.u8 x235] [] w236) w233) w220) (J230 [Value.int IntKind.u8 x222] [] w220))) w218) w188) ∧ Rg (World.drew w10) fun n237 => Up [] [n237, n3, n2, n1] (World.drew
  w10) fun w238 => (BdO (nthV (Array.toList cs12) ((0 : Nat) + Int.toNat x11 * (1 : Nat))) fun v239 => opI IntKind.u8 v239 fun x240 => CallW Try.prog [n237, n3, n2, n1]
  (214 : Nat) #[Value.agg #[Value.int IntKind.u64 p1_0, Value.int IntKind.u64 p1_1, Value.int IntKind.u64 p1_2, Value.int IntKind.u64 p1_3], Value.int IntKind.i64 x11]
  (fun v241 w242 => opB v241 fun b243 => Up [n237] [n237, n3, n2, n1] w242 fun w244 => RunW Try.prog [n237, n3, n2, n1] (Instr.lookup (274 : Nat) (Value.map (some n5))
  (Value.agg #[Value.int IntKind.u8 x240, Value.bool b243]) true) (fun v245 w246 => opTu v245 fun cs247 => opI IntKind.u8 (nthD (Array.toList cs247) (0 : Nat)) fun x248
  => opB (nthD (Array.toList cs247) (1 : Nat)) fun b249 => SzIs (Array.size cs247) (2 : Nat) (Jn (fun l250 l251 w252 => opI IntKind.u8 (nthD l250 (0 : Nat)) fun x253 =>
  ((0 : Int) ≤ x11 ∧ x11 < ↑(256 : Nat)) ∧ LeC ((0 : Nat) + Int.toNat x11 * (1 : Nat) + (1 : Nat)) (Array.size cs12) (Bd (IntKind.wrap IntKind.i64 (x11 + (1 : Int))) fun
  x254 => Up [n1] [n237, n3, n2, n1] w252 fun w255 => J9 [Value.int IntKind.i64 x254] [Value.agg (List.toArray (wrL (Array.toList cs12) ((0 : Nat) + Int.toNat x11 * (1 :
  Nat)) [Value.int IntKind.u8 x253]))] w255)) fun J256 => Bd (!b249) fun b257 => If b257 (RunW Try.prog [n237, n3, n2, n1] (Builtin.len_ #[(274 : Nat)] (3 : Nat)
  #[Value.map (some n5)]) (fun v258 w259 => opI IntKind.i64 v258 fun x260 => Bd (IntKind.wrap IntKind.u8 x260) fun x261 => RunU Try.prog [n237, n3, n2, n1]
  (Instr.mapUpdate (274 : Nat) (Value.map (some n5)) (Value.agg #[Value.int IntKind.u8 x240, Value.bool b243]) (Value.int IntKind.u8 x261)) (fun w262 => J256 [Value.int
  IntKind.u8 x261] [] w262) w259) w246) (J256 [Value.int IntKind.u8 x248] [] w246))) w244) w238) ∧ (BdO (nthV (Array.toList cs12) ((0 : Nat) + Int.toNat x11 * (1 : Nat)))
  fun v263 => opI IntKind.u8 v263 fun x264 => CallW Try.prog [n237, n3, n2, n1] (214 : Nat) #[Value.agg #[Value.int IntKind.u64 p1_0, Value.int IntKind.u64 p1_1,
  Value.int IntKind.u64 p1_2, Value.int IntKind.u64 p1_3], Value.int IntKind.i64 x11] (fun v265 w266 => opB v265 fun b267 => Up [n237] [n237, n3, n2, n1] w266 fun w268 =>
  RunW Try.prog [n237, n3, n2, n1] (Instr.lookup (274 : Nat) (Value.map (some n5)) (Value.agg #[Value.int IntKind.u8 x264, Value.bool b267]) true) (fun v269 w270 => opTu
  v269 fun cs271 => opI IntKind.u8 (nthD (Array.toList cs271) (0 : Nat)) fun x272 => opB (nthD (Array.toList cs271) (1 : Nat)) fun b273 => SzIs (Array.size cs271) (2 :
  Nat) (Jn (fun l274 l275 w276 => opI IntKind.u8 (nthD l274 (0 : Nat)) fun x277 => ((0 : Int) ≤ x11 ∧ x11 < ↑(256 : Nat)) ∧ LeC ((0 : Nat) + Int.toNat x11 * (1 : Nat) +
  (1 : Nat)) (Array.size cs12) (Bd (IntKind.wrap IntKind.i64 (x11 + (1 : Int))) fun x278 => Up [n1] [n237, n3, n2, n1] w276 fun w279 => J9 [Value.int IntKind.i64 x278]
  [Value.agg (List.toArray (wrL (Array.toList cs12) ((0 : Nat) + Int.toNat x11 * (1 : Nat)) [Value.int IntKind.u8 x277]))] w279)) fun J280 => Bd (!b273) fun b281 => If
  b281 (RunW Try.prog [n237, n3, n2, n1] (Builtin.len_ #[(274 : Nat)] (3 : Nat) #[Value.map (some n5)]) (fun v282 w283 => opI IntKind.i64 v282 fun x284 => Bd
  (IntKind.wrap IntKind.u8 x284) fun x285 => RunU Try.prog [n237, n3, n2, n1] (Instr.mapUpdate (274 : Nat) (Value.map (some n5)) (Value.agg #[Value.int IntKind.u8 x264,
  Value.bool b267]) (Value.int IntKind.u8 x285)) (fun w286 => J280 [Value.int IntKind.u8 x285] [] w286) w283) w270) (J280 [Value.int IntKind.u8 x272] [] w270))) w268)
  w238) ∧ CallW Try.prog [n237, n3, n2, n1] (214 : Nat) #[Value.agg #[Value.int IntKind.u64 p1_0, Value.int IntKind.u64 p1_1, Value.int IntKind.u64 p1_2, Value.int
  IntKind.u64 p1_3], Value.int IntKind.i64 x11] (fun v287 w288 => opB v287 fun b289 => BdO (nthV (Array.toList cs12) ((0 : Nat) + Int.toNat x11 * (1 : Nat))) fun v290 =>
  opI IntKind.u8 v290 fun x291 => Up [n237] [n237, n3, n2, n1] w288 fun w292 => RunW Try.prog [n237, n3, n2, n1] (Instr.lookup (274 : Nat) (Value.map (some n5))
  (Value.agg #[Value.int IntKind.u8 x291, Value.bool b289]) true) (fun v293 w294 => opTu v293 fun cs295 => opI IntKind.u8 (nthD (Array.toList cs295) (0 : Nat)) fun x296
  => opB (nthD (Array.toList cs295) (1 : Nat)) fun b297 => SzIs (Array.size cs295) (2 : Nat) (Jn (fun l298 l299 w300 => opI IntKind.u8 (nthD l298 (0 : Nat)) fun x301 =>
  ((0 : Int) ≤ x11 ∧ x11 < ↑(256 : Nat)) ∧ LeC ((0 : Nat) + Int.toNat x11 * (1 : Nat) + (1 : Nat)) (Array.size cs12) (Bd (IntKind.wrap IntKind.i64 (x11 + (1 : Int))) fun
  x302 => Up [n1] [n237, n3, n2, n1] w300 fun w303 => J9 [Value.int IntKind.i64 x302] [Value.agg (List.toArray (wrL (Array.toList cs12) ((0 : Nat) + Int.toNat x11 * (1 :
  Nat)) [Value.int IntKind.u8 x301]))] w303)) fun J304 => Bd (!b297) fun b305 => If b305 (RunW Try.prog [n237, n3, n2, n1] (Builtin.len_ #[(274 : Nat)] (3 : Nat)
  #[Value.map (some n5)]) (fun v306 w307 => opI IntKind.i64 v306 fun x308 => Bd (IntKind.wrap IntKind.u8 x308) fun x309 => RunU Try.prog [n237, n3, n2, n1]
  (Instr.mapUpdate (274 : Nat) (Value.map (some n5)) (Value.agg #[Value.int IntKind.u8 x291, Value.bool b289]) (Value.int IntKind.u8 x309)) (fun w310 => J304 [Value.int
  IntKind.u8 x309] [] w310) w307) w294) (J304 [Value.int IntKind.u8 x296] [] w294))) w292) w238) (RunW Try.prog [n3, n2, n1] (Builtin.len_ #[(274 : Nat)] (3 : Nat)
  #[Value.map (some n5)]) (fun v311 w312 => opI IntKind.i64 v311 fun x313 => LeC (257 : Nat) (Array.size cs12) (List.length (wrL (Array.toList cs12) (256 : Nat)
  [Value.int IntKind.i64 x313]) = (257 : Nat) ∧ OkC (Array.toList (List.toArray (wrL (Array.toList cs12) (256 : Nat) [Value.int IntKind.i64 x313]))) (257 : Nat) (Up [n3,
  n1] [n3, n2, n1] w312 fun w314 => Array.size (List.toArray (wrL (Array.toList cs12) (256 : Nat) [Value.int IntKind.i64 x313])) = (257 : Nat) ∧ R (Value.agg
  (List.toArray (wrL (Array.toList cs12) (256 : Nat) [Value.int IntKind.i64 x313]))) w314))) w10)) [Value.int IntKind.i64 (0 : Int)] [Value.agg p0] w6
theorem f146_eq (p0 : Array Value) (p1_0 : Int) (p1_1 : Int) (p1_2 : Int) (p1_3 : Int) (R : Value → World → Prop) (w : World) : fnW Try.prog [2, 3, 4, 7] Try.f146
  [Value.agg p0, Value.agg #[Value.int IntKind.u64 p1_0, Value.int IntKind.u64 p1_1, Value.int IntKind.u64 p1_2, Value.int IntKind.u64 p1_3]] R w = f146_vc p0 p1_0 p1_1
  p1_2 p1_3 R w := by kernel_rfl
theorem f146_in (p0 : Array Value) (p1_0 : Int) (p1_1 : Int) (p1_2 : Int) (p1_3 : Int) (R : Value → World → Prop) (w : World) (h : f146_vc p0 p1_0 p1_1 p1_2 p1_3 R w) :
  Ct Try.prog 146 #[Value.agg p0, Value.agg #[Value.int IntKind.u64 p1_0, Value.int IntKind.u64 p1_1, Value.int IntKind.u64 p1_2, Value.int IntKind.u64 p1_3]] w R := by
  refine Ct_of (rk := [2, 3, 4, 7]) (fn := Try.f146) (args := [Value.agg p0, Value.agg #[Value.int IntKind.u64 p1_0, Value.int IntKind.u64 p1_1, Value.int IntKind.u64 p1_2, Value.int IntKind.u64 p1_3]]) mixedT Try.func146 (by kernel_rfl) ?_
  rw [f146_eq]
  exact h
def f214_vc (p0_0 : Int) (p0_1 : Int) (p0_2 : Int) (p0_3 : Int) (p1 : Int) (R : Value → World → Prop) (w : World) : Prop := Rg w fun n1 => Bd (IntKind.wrap IntKind.i64
  (Int.tdiv p1 (64 : Int))) fun x2 => ((0 : Int) ≤ x2 ∧ x2 < ↑(4 : Nat)) ∧ BdO (nthV [Value.int IntKind.u64 p0_0, Value.int IntKind.u64 p0_1, Value.int IntKind.u64 p0_2,
  Value.int IntKind.u64 p0_3] ((0 : Nat) + Int.toNat x2 * (1 : Nat))) fun v3 => opI IntKind.u64 v3 fun x4 => Bd (Int.tmod p1 (64 : Int)) fun x5 => (0 : Int) ≤ x5 ∧ Bd
  (Int.fdiv x4 ((2 : Int) ^ min (Int.toNat x5) (64 : Nat))) fun x6 => Bd (IntKind.wrap IntKind.u64 ↑(BitVec.toNat (BitVec.ofInt (64 : Nat) x6 &&& BitVec.ofInt (64 : Nat)
  (1 : Int)))) fun x7 => Bd (x7 == (1 : Int)) fun b8 => Up [] [n1] w fun w9 => R (Value.bool b8) w9
theorem f214_eq (p0_0 : Int) (p0_1 : Int) (p0_2 : Int) (p0_3 : Int) (p1 : Int) (R : Value → World → Prop) (w : World) : fnW Try.prog [2] Try.f214 [Value.agg #[Value.int
  IntKind.u64 p0_0, Value.int IntKind.u64 p0_1, Value.int IntKind.u64 p0_2, Value.int IntKind.u64 p0_3], Value.int IntKind.i64 p1] R w = f214_vc p0_0 p0_1 p0_2 p0_3 p1 R
  w := by kernel_rfl
theorem f214_in (p0_0 : Int) (p0_1 : Int) (p0_2 : Int) (p0_3 : Int) (p1 : Int) (R : Value → World → Prop) (w : World) (h : f214_vc p0_0 p0_1 p0_2 p0_3 p1 R w) : Ct
  Try.prog 214 #[Value.agg #[Value.int IntKind.u64 p0_0, Value.int IntKind.u64 p0_1, Value.int IntKind.u64 p0_2, Value.int IntKind.u64 p0_3], Value.int IntKind.i64 p1] w
  R := by
  refine Ct_of (rk := [2]) (fn := Try.f214) (args := [Value.agg #[Value.int IntKind.u64 p0_0, Value.int IntKind.u64 p0_1, Value.int IntKind.u64 p0_2, Value.int IntKind.u64 p0_3], Value.int IntKind.i64 p1]) mixedT Try.func214 (by kernel_rfl) ?_
  rw [f214_eq]
  exact h
def f42_vc (p0 : Array Value) (p1 : Int) (R : Value → World → Prop) (w : World) : Prop := Rg w fun n1 => Array.size p0 = (257 : Nat) ∧ Up [] [n1] w fun w2 => CallW
  Try.prog [n1] (44 : Nat) #[Value.agg p0] (fun v3 w4 => opB v3 fun b5 => Bd (!b5) fun b6 => Bd (decide (p1 < (0 : Int))) fun b7 => Bd (bif b6 then true else b7) fun b8
  => ((!b8) = true → isI IntKind.i64 (Array.toList p0) (256 : Nat)) ∧ Bd (rdI (Array.toList p0) (256 : Nat)) fun x10 => Bd (decide (p1 ≥ x10)) fun b11 => Bd (bif b8 then
  true else b11) fun b12 => If b12 (R (Value.tuple #[Value.int IntKind.u8 (0 : Int), Value.bool false]) w4) (LoopP (fun l13 l14 J15 w16 => opI IntKind.u8 (nthD l13 (0 :
  Nat)) fun x17 => opB (nthD l13 (1 : Nat)) fun b18 => opI IntKind.i64 (nthD l13 (2 : Nat)) fun x19 => Bd (decide (x19 < (256 : Int))) fun b20 => If b20 (((0 : Int) ≤ x19
  ∧ x19 < ↑(256 : Nat)) ∧ BdO (nthV (Array.toList p0) ((0 : Nat) + Int.toNat x19 * (1 : Nat))) fun v21 => opI IntKind.u8 v21 fun x22 => Bd (IntKind.wrap IntKind.i64 x22)
  fun x23 => Bd (x23 == p1) fun b24 => If b24 (Bd (IntKind.wrap IntKind.u8 x19) fun x25 => R (Value.tuple #[Value.int IntKind.u8 x25, Value.bool true]) w16) (Bd
  (IntKind.wrap IntKind.i64 (x19 + (1 : Int))) fun x26 => J15 [Value.int IntKind.u8 x17, Value.bool b18, Value.int IntKind.i64 x26] [] w16)) (R (Value.tuple #[Value.int
  IntKind.u8 (0 : Int), Value.bool false]) w16)) [Value.int IntKind.u8 (0 : Int), Value.bool false, Value.int IntKind.i64 (0 : Int)] [] w4)) w2
theorem f42_eq (p0 : Array Value) (p1 : Int) (R : Value → World → Prop) (w : World) : fnW Try.prog [2] Try.f42 [Value.agg p0, Value.int IntKind.i64 p1] R w = f42_vc p0 p1
  R w := by kernel_rfl
theorem f42_in (p0 : Array Value) (p1 : Int) (R : Value → World → Prop) (w : World) (h : f42_vc p0 p1 R w) : Ct Try.prog 42 #[Value.agg p0, Value.int IntKind.i64 p1] w R
  := by
  refine Ct_of (rk := [2]) (fn := Try.f42) (args := [Value.agg p0, Value.int IntKind.i64 p1]) mixedT Try.func42 (by kernel_rfl) ?_
  rw [f42_eq]
  exact h
def f44_vc (p0 : Array Value) (R : Value → World → Prop) (w : World) : Prop := Rg w fun n1 => Up [] [n1] w fun w2 => LoopP (fun l3 l4 J5 w6 => opB (nthD l3 (0 : Nat)) fun
  b7 => opI IntKind.i64 (nthD l3 (1 : Nat)) fun x8 => opI IntKind.i64 (nthD l3 (2 : Nat)) fun x9 => Bd (decide (x9 < (256 : Int))) fun b10 => If b10 (Jn (fun l11 l12 w13
  => opB (nthD l11 (0 : Nat)) fun b14 => opI IntKind.i64 (nthD l11 (1 : Nat)) fun x15 => opI IntKind.i64 (nthD l11 (2 : Nat)) fun x16 => opI IntKind.i64 (nthD l11 (3 :
  Nat)) fun x17 => Bd (IntKind.wrap IntKind.i64 (x9 + (1 : Int))) fun x18 => J5 [Value.bool b14, Value.int IntKind.i64 x15, Value.int IntKind.i64 x18] [] w13) fun J19 =>
  ((0 : Int) ≤ x9 ∧ x9 < ↑(256 : Nat)) ∧ BdO (nthV (Array.toList p0) ((0 : Nat) + Int.toNat x9 * (1 : Nat))) fun v20 => opI IntKind.u8 v20 fun x21 => Bd (IntKind.wrap
  IntKind.i64 x21) fun x22 => Bd (decide (x22 > x8)) fun b23 => If b23 (R (Value.bool false) w6) (Bd (x22 == x8) fun b24 => If b24 (Bd (IntKind.wrap IntKind.i64 (x8 + (1
  : Int))) fun x25 => J19 [Value.bool b7, Value.int IntKind.i64 x25, Value.int IntKind.i64 x9, Value.int IntKind.i64 x22] [] w6) (J19 [Value.bool b7, Value.int
  IntKind.i64 x8, Value.int IntKind.i64 x9, Value.int IntKind.i64 x22] [] w6))) (BdO (nthV (Array.toList p0) (256 : Nat)) fun v26 => opI IntKind.i64 v26 fun x27 => Bd (x8
  == x27) fun b28 => R (Value.bool b28) w6)) [Value.bool false, Value.int IntKind.i64 (0 : Int), Value.int IntKind.i64 (0 : Int)] [] w2
theorem f44_eq (p0 : Array Value) (R : Value → World → Prop) (w : World) : fnW Try.prog [1] Try.f44 [Value.agg p0] R w = f44_vc p0 R w := by kernel_rfl
theorem f44_in (p0 : Array Value) (R : Value → World → Prop) (w : World) (h : f44_vc p0 R w) : Ct Try.prog 44 #[Value.agg p0] w R := by
  refine Ct_of (rk := [1]) (fn := Try.f44) (args := [Value.agg p0]) mixedT Try.func44 (by kernel_rfl) ?_
  rw [f44_eq]
  exact h
def f46_vc (p0 : Array Value) (p1_0 : Int) (p1_1 : Int) (p1_2 : Int) (p1_3 : Int) (R : Value → World → Prop) (w : World) : Prop := Rg w fun n1 => Rg w fun n2 => Jn (fun
  l3 l4 w5 => opB (nthD l3 (0 : Nat)) fun b6 => R (Value.bool b6) w5) fun J7 => Up [] [n2, n1] w fun w8 => Array.size p0 = (257 : Nat) ∧ CallW Try.prog [n2, n1] (44 :
  Nat) #[Value.agg p0] (fun v9 w10 => opB v9 fun b11 => (b11 = true → Array.size p0 = (257 : Nat)) ∧ (b11 = true → isI IntKind.i64 (Array.toList p0) (256 : Nat)) ∧ Bd
  (rdI (Array.toList p0) (256 : Nat)) fun x14 => Gd b11 #[] (fun J15 => CallW Try.prog [n2, n1] (146 : Nat) #[Value.agg p0, Value.agg #[Value.int IntKind.u64 p1_0,
  Value.int IntKind.u64 p1_1, Value.int IntKind.u64 p1_2, Value.int IntKind.u64 p1_3]] (fun v16 w17 => opBig v16 fun cs18 => Array.size cs18 = (257 : Nat) ∧ J15 cs18 w17)
  w10) (fun cs19 w20 => (b11 = true → isI IntKind.i64 (Array.toList cs19) (256 : Nat)) ∧ Bd (rdI (Array.toList cs19) (256 : Nat)) fun x22 => Bd (x22 == x14) fun b23 => Bd
  (bif b11 then b23 else false) fun b24 => J7 [Value.bool b24] [] w20) w10) (World.drew w8)
theorem f46_eq (p0 : Array Value) (p1_0 : Int) (p1_1 : Int) (p1_2 : Int) (p1_3 : Int) (R : Value → World → Prop) (w : World) : fnW Try.prog [2, 3] Try.f46 [Value.agg p0,
  Value.agg #[Value.int IntKind.u64 p1_0, Value.int IntKind.u64 p1_1, Value.int IntKind.u64 p1_2, Value.int IntKind.u64 p1_3]] R w = f46_vc p0 p1_0 p1_1 p1_2 p1_3 R w :=
  by kernel_rfl
theorem f46_in (p0 : Array Value) (p1_0 : Int) (p1_1 : Int) (p1_2 : Int) (p1_3 : Int) (R : Value → World → Prop) (w : World) (h : f46_vc p0 p1_0 p1_1 p1_2 p1_3 R w) : Ct
  Try.prog 46 #[Value.agg p0, Value.agg #[Value.int IntKind.u64 p1_0, Value.int IntKind.u64 p1_1, Value.int IntKind.u64 p1_2, Value.int IntKind.u64 p1_3]] w R := by
  refine Ct_of (rk := [2, 3]) (fn := Try.f46) (args := [Value.agg p0, Value.agg #[Value.int IntKind.u64 p1_0, Value.int IntKind.u64 p1_1, Value.int IntKind.u64 p1_2, Value.int IntKind.u64 p1_3]]) mixedT Try.func46 (by kernel_rfl) ?_
  rw [f46_eq]
  exact h
end Fk
set_option linter.unusedVariables false
set_option maxRecDepth 1000000
set_option maxHeartbeats 4000000
namespace Fk
open Go Go.Proofs Go.RowKit
def f72_vc (p0_0 : Int) (p0_1a : Option Addr) (p0_1n : Nat) (p0_1c : Nat) (p0_2a : Option Addr) (p0_2n : Nat) (p0_2c : Nat) (R : Value → World → Prop) (w : World) : Prop
  := Rg w fun n1 => Bd ((p0_2n : Nat) : Int) fun x2 => Bd (decide (p0_0 < (1 : Int))) fun b3 => Bd (decide (p0_0 > (256 : Int))) fun b4 => Bd (bif b3 then true else b4)
  fun b5 => Bd (decide (x2 < (1 : Int))) fun b6 => Bd (bif b5 then true else b6) fun b7 => Bd (decide (x2 > (5000 : Int))) fun b8 => Bd (bif b7 then true else b8) fun b9
  => Bd ((p0_1n : Nat) : Int) fun x10 => Bd (IntKind.wrap IntKind.i64 (p0_0 * x2)) fun x11 => Bd (x10 != x11) fun b12 => Bd (bif b9 then true else b12) fun b13 => If b13
  (Up [] [n1] w fun w14 => R (Value.bool false) w14) (Bd ((p0_2n : Nat) : Int) fun x15 => Up [] [n1] w fun w16 => LoopP (fun l17 l18 J19 w20 => opB (nthD l17 (0 : Nat))
  fun b21 => opI IntKind.i64 (nthD l17 (1 : Nat)) fun x22 => Bd (decide (x22 < x15)) fun b23 => If b23 (IxOk x22 p0_2n p0_2a ∧ Ld w20 (adAt p0_2a x22 (1 : Nat)) fun v24
  => opI IntKind.i64 v24 fun x25 => Bd (decide (x25 < (-1 : Int))) fun b26 => Bd (decide (x25 ≥ (200 : Int))) fun b27 => Bd (bif b26 then true else b27) fun b28 => If b28
  (R (Value.bool false) w20) (Bd (IntKind.wrap IntKind.i64 (x22 + (1 : Int))) fun x29 => J19 [Value.bool b21, Value.int IntKind.i64 x29] [] w20)) (Bd ((p0_1n : Nat) :
  Int) fun x30 => LoopP (fun l31 l32 J33 w34 => opB (nthD l31 (0 : Nat)) fun b35 => opI IntKind.i64 (nthD l31 (1 : Nat)) fun x36 => Bd (decide (x36 < x30)) fun b37 => If
  b37 (IxOk x36 p0_1n p0_1a ∧ Ld w34 (adAt p0_1a x36 (1 : Nat)) fun v38 => opI IntKind.i64 v38 fun x39 => Bd (decide (x39 < (-1 : Int))) fun b40 => Bd (decide (x39 ≥ x2))
  fun b41 => Bd (bif b40 then true else b41) fun b42 => If b42 (R (Value.bool false) w34) (Bd (IntKind.wrap IntKind.i64 (x36 + (1 : Int))) fun x43 => J33 [Value.bool b35,
  Value.int IntKind.i64 x43] [] w34)) (R (Value.bool true) w34)) [Value.bool b21, Value.int IntKind.i64 (0 : Int)] [] w20)) [Value.bool false, Value.int IntKind.i64 (0 :
  Int)] [] w16)
theorem f72_eq (p0_0 : Int) (p0_1a : Option Addr) (p0_1n : Nat) (p0_1c : Nat) (p0_2a : Option Addr) (p0_2n : Nat) (p0_2c : Nat) (R : Value → World → Prop) (w : World) :
  fnW Try.prog [1] Try.f72 [Value.agg #[Value.int IntKind.i64 p0_0, Value.slice p0_1a p0_1n p0_1c, Value.slice p0_2a p0_2n p0_2c]] R w = f72_vc p0_0 p0_1a p0_1n p0_1c
  p0_2a p0_2n p0_2c R w := by kernel_rfl
theorem f72_in (p0_0 : Int) (p0_1a : Option Addr) (p0_1n : Nat) (p0_1c : Nat) (p0_2a : Option Addr) (p0_2n : Nat) (p0_2c : Nat) (R : Value → World → Prop) (w : World) (h
  : f72_vc p0_0 p0_1a p0_1n p0_1c p0_2a p0_2n p0_2c R w) : Ct Try.prog 72 #[Value.agg #[Value.int IntKind.i64 p0_0, Value.slice p0_1a p0_1n p0_1c, Value.slice p0_2a p0_2n
  p0_2c]] w R := by
  refine Ct_of (rk := [1]) (fn := Try.f72) (args := [Value.agg #[Value.int IntKind.i64 p0_0, Value.slice p0_1a p0_1n p0_1c, Value.slice p0_2a p0_2n p0_2c]]) mixedT Try.func72 (by kernel_rfl) ?_
  rw [f72_eq]
  exact h
def f96_vc (p0_0 : Int) (p0_1a : Option Addr) (p0_1n : Nat) (p0_1c : Nat) (p0_2a : Option Addr) (p0_2n : Nat) (p0_2c : Nat) (p1_0 : Int) (p1_1a : Option Addr) (p1_1n :
  Nat) (p1_1c : Nat) (p1_2a : Option Addr) (p1_2n : Nat) (p1_2c : Nat) (R : Value → World → Prop) (w : World) : Prop := Rg w fun n1 => Rg w fun n2 => Bd (p0_0 == p1_0)
  fun b3 => Up [] [n2, n1] w fun w4 => Gd b3 false (fun J5 => CallW Try.prog [n2, n1] (73 : Nat) #[Value.slice p0_1a p0_1n p0_1c, Value.slice p1_1a p1_1n p1_1c] (fun v6
  w7 => opB v6 fun b8 => J5 b8 w7) w4) (fun b9 w10 => Bd (bif b3 then b9 else false) fun b11 => Gd b11 false (fun J12 => CallW Try.prog [n2, n1] (73 : Nat) #[Value.slice
  p0_2a p0_2n p0_2c, Value.slice p1_2a p1_2n p1_2c] (fun v13 w14 => opB v13 fun b15 => J12 b15 w14) w10) (fun b16 w17 => Bd (bif b11 then b16 else false) fun b18 => R
  (Value.bool b18) w17) w10) w4
theorem f96_eq (p0_0 : Int) (p0_1a : Option Addr) (p0_1n : Nat) (p0_1c : Nat) (p0_2a : Option Addr) (p0_2n : Nat) (p0_2c : Nat) (p1_0 : Int) (p1_1a : Option Addr) (p1_1n
  : Nat) (p1_1c : Nat) (p1_2a : Option Addr) (p1_2n : Nat) (p1_2c : Nat) (R : Value → World → Prop) (w : World) : fnW Try.prog [2, 3] Try.f96 [Value.agg #[Value.int
  IntKind.i64 p0_0, Value.slice p0_1a p0_1n p0_1c, Value.slice p0_2a p0_2n p0_2c], Value.agg #[Value.int IntKind.i64 p1_0, Value.slice p1_1a p1_1n p1_1c, Value.slice
  p1_2a p1_2n p1_2c]] R w = f96_vc p0_0 p0_1a p0_1n p0_1c p0_2a p0_2n p0_2c p1_0 p1_1a p1_1n p1_1c p1_2a p1_2n p1_2c R w := by kernel_rfl
theorem f96_in (p0_0 : Int) (p0_1a : Option Addr) (p0_1n : Nat) (p0_1c : Nat) (p0_2a : Option Addr) (p0_2n : Nat) (p0_2c : Nat) (p1_0 : Int) (p1_1a : Option Addr) (p1_1n
  : Nat) (p1_1c : Nat) (p1_2a : Option Addr) (p1_2n : Nat) (p1_2c : Nat) (R : Value → World → Prop) (w : World) (h : f96_vc p0_0 p0_1a p0_1n p0_1c p0_2a p0_2n p0_2c p1_0
  p1_1a p1_1n p1_1c p1_2a p1_2n p1_2c R w) : Ct Try.prog 96 #[Value.agg #[Value.int IntKind.i64 p0_0, Value.slice p0_1a p0_1n p0_1c, Value.slice p0_2a p0_2n p0_2c],
  Value.agg #[Value.int IntKind.i64 p1_0, Value.slice p1_1a p1_1n p1_1c, Value.slice p1_2a p1_2n p1_2c]] w R := by
  refine Ct_of (rk := [2, 3]) (fn := Try.f96) (args := [Value.agg #[Value.int IntKind.i64 p0_0, Value.slice p0_1a p0_1n p0_1c, Value.slice p0_2a p0_2n p0_2c], Value.agg #[Value.int IntKind.i64 p1_0, Value.slice p1_1a p1_1n p1_1c, Value.slice p1_2a p1_2n p1_2c]]) mixedT Try.func96 (by kernel_rfl) ?_
  rw [f96_eq]
  exact h
def f152_vc (p0 : ByteArray) (R : Value → World → Prop) (w : World) : Prop := Bd (((ByteArray.size p0) : Nat) : Int) fun x1 => LoopP (fun l2 l3 J4 w5 => opB (nthD l2 (0 :
  Nat)) fun b6 => opI IntKind.i64 (nthD l2 (1 : Nat)) fun x7 => Bd (decide (x7 < x1)) fun b8 => If b8 (((0 : Int) ≤ x7 ∧ x7 < ↑(ByteArray.size p0)) ∧ Bd (byteAt p0 x7)
  fun x9 => Bd (decide (x9 ≥ (97 : Int))) fun b10 => (b10 = true → (0 : Int) ≤ x7 ∧ x7 < ↑(ByteArray.size p0)) ∧ Bd (byteAt p0 x7) fun x12 => Bd (decide (x12 ≤ (122 :
  Int))) fun b13 => Bd (bif b10 then b13 else false) fun b14 => Bd (!b14) fun b15 => Bd (x7 == (0 : Int)) fun b16 => ((b15 && !b16) = true → (0 : Int) ≤ x7 ∧ x7 <
  ↑(ByteArray.size p0)) ∧ Bd (byteAt p0 x7) fun x18 => Bd (x18 != (45 : Int)) fun b19 => ((b15 && !b16 && b19) = true → (0 : Int) ≤ x7 ∧ x7 < ↑(ByteArray.size p0)) ∧ Bd
  (byteAt p0 x7) fun x21 => Bd (decide (x21 < (48 : Int))) fun b22 => ((b15 && !b16 && b19 && !b22) = true → (0 : Int) ≤ x7 ∧ x7 < ↑(ByteArray.size p0)) ∧ Bd (byteAt p0
  x7) fun x24 => Bd (decide (x24 > (57 : Int))) fun b25 => Bd (bif b22 then true else b25) fun b26 => Bd (bif b19 then b26 else false) fun b27 => Bd (bif b16 then true
  else b27) fun b28 => Bd (bif b15 then b28 else false) fun b29 => If b29 (R (Value.bool false) w5) (Bd (IntKind.wrap IntKind.i64 (x7 + (1 : Int))) fun x30 => J4
  [Value.bool b6, Value.int IntKind.i64 x30] [] w5)) (Bd (((ByteArray.size p0) : Nat) : Int) fun x31 => Bd (decide (x31 ≥ (1 : Int))) fun b32 => Bd (((ByteArray.size p0)
  : Nat) : Int) fun x33 => Bd (decide (x33 ≤ (64 : Int))) fun b34 => Bd (bif b32 then b34 else false) fun b35 => R (Value.bool b35) w5)) [Value.bool false, Value.int
  IntKind.i64 (0 : Int)] [] w
theorem f152_eq (p0 : ByteArray) (R : Value → World → Prop) (w : World) : fnW Try.prog [] Try.f152 [Value.string p0] R w = f152_vc p0 R w := by kernel_rfl
theorem f152_in (p0 : ByteArray) (R : Value → World → Prop) (w : World) (h : f152_vc p0 R w) : Ct Try.prog 152 #[Value.string p0] w R := by
  refine Ct_of (rk := []) (fn := Try.f152) (args := [Value.string p0]) mixedT Try.func152 (by kernel_rfl) ?_
  rw [f152_eq]
  exact h
def f153_vc (p0a : Option Addr) (p0n : Nat) (p0c : Nat) (p1 : ByteArray) (R : Value → World → Prop) (w : World) : Prop := CallW Try.prog [] (215 : Nat) #[Value.slice p0a
  p0n p0c, Value.string p1] (fun v1 w2 => opI IntKind.i64 v1 fun x3 => Bd (decide (x3 ≥ (0 : Int))) fun b4 => R (Value.bool b4) w2) w
theorem f153_eq (p0a : Option Addr) (p0n : Nat) (p0c : Nat) (p1 : ByteArray) (R : Value → World → Prop) (w : World) : fnW Try.prog [] Try.f153 [Value.slice p0a p0n p0c,
  Value.string p1] R w = f153_vc p0a p0n p0c p1 R w := by kernel_rfl
theorem f153_in (p0a : Option Addr) (p0n : Nat) (p0c : Nat) (p1 : ByteArray) (R : Value → World → Prop) (w : World) (h : f153_vc p0a p0n p0c p1 R w) : Ct Try.prog 153
  #[Value.slice p0a p0n p0c, Value.string p1] w R := by
  refine Ct_of (rk := []) (fn := Try.f153) (args := [Value.slice p0a p0n p0c, Value.string p1]) mixedT Try.func153 (by kernel_rfl) ?_
  rw [f153_eq]
  exact h
def f154_vc (p0a : Option Addr) (p0n : Nat) (p0c : Nat) (R : Value → World → Prop) (w : World) : Prop := Jn (fun l1 l2 w3 => IxOk (0 : Int) p0n p0a ∧ Ld w3 (adAt p0a (0 :
  Int) (1 : Nat)) fun v4 => opI IntKind.i64 v4 fun x5 => LoopP (fun l6 l7 J8 w9 => opI IntKind.i64 (nthD l6 (0 : Nat)) fun x10 => opI IntKind.i64 (nthD l6 (1 : Nat)) fun
  x11 => Bd ((p0n : Nat) : Int) fun x12 => Bd (decide (x11 < x12)) fun b13 => If b13 (IxOk x11 p0n p0a ∧ Ld w9 (adAt p0a x11 (1 : Nat)) fun v14 => opI IntKind.i64 v14 fun
  x15 => Bd (if x15 > x10 then x15 else x10) fun x16 => Bd (IntKind.wrap IntKind.i64 (x11 + (1 : Int))) fun x17 => J8 [Value.int IntKind.i64 x16, Value.int IntKind.i64
  x17] [] w9) (R (Value.int IntKind.i64 x10) w9)) [Value.int IntKind.i64 x5, Value.int IntKind.i64 (1 : Int)] [] w3) fun J18 => Bd ((p0n : Nat) : Int) fun x19 => Bd
  (decide (x19 < (1 : Int))) fun b20 => If b20 (RunW Try.prog [] (Instr.makeInterface (9 : Nat) (Value.string (ByteArray.mk #[(115 : UInt8), (108 : UInt8), (105 : UInt8),
  (99 : UInt8), (101 : UInt8), (115 : UInt8), (46 : UInt8), (77 : UInt8), (97 : UInt8), (120 : UInt8), (58 : UInt8), (32 : UInt8), (101 : UInt8), (109 : UInt8), (112 :
  UInt8), (116 : UInt8), (121 : UInt8), (32 : UInt8), (108 : UInt8), (105 : UInt8), (115 : UInt8), (116 : UInt8)]))) (fun v21 w22 => RunW Try.prog [] (Instr.panic v21)
  (fun v23 w24 => opTu v23 fun cs25 => SzIs (Array.size cs25) (0 : Nat) (J18 [] [] w24)) w22) w) (J18 [] [] w)
theorem f154_eq (p0a : Option Addr) (p0n : Nat) (p0c : Nat) (R : Value → World → Prop) (w : World) : fnW Try.prog [] Try.f154 [Value.slice p0a p0n p0c] R w = f154_vc p0a
  p0n p0c R w := by kernel_rfl
theorem f154_in (p0a : Option Addr) (p0n : Nat) (p0c : Nat) (R : Value → World → Prop) (w : World) (h : f154_vc p0a p0n p0c R w) : Ct Try.prog 154 #[Value.slice p0a p0n
  p0c] w R := by
  refine Ct_of (rk := []) (fn := Try.f154) (args := [Value.slice p0a p0n p0c]) mixedT Try.func154 (by kernel_rfl) ?_
  rw [f154_eq]
  exact h
def f156_vc (p0a : Option Addr) (p0n : Nat) (p0c : Nat) (p1 : Int) (R : Value → World → Prop) (w : World) : Prop := Bd (Int.fdiv p1 ((2 : Int) ^ min (8 : Nat) (64 :
  Nat))) fun x1 => Bd (IntKind.wrap IntKind.u8 x1) fun x2 => Bd (IntKind.wrap IntKind.u8 p1) fun x3 => Nw (Obj.cells #[Value.int IntKind.u8 x2, Value.int IntKind.u8 x3]
  (5 : Nat)) w fun n4 w5 => RunW Try.prog [] (Builtin.append_ #[(51 : Nat), (51 : Nat)] (51 : Nat) #[Value.slice p0a p0n p0c, Value.slice (some (Addr.mk n4 (0 : Nat)
  none)) (2 : Nat) (2 : Nat)]) (fun v6 w7 => opL v6 fun a8 n9 n10 => R (Value.slice a8 n9 n10) w7) w5
theorem f156_eq (p0a : Option Addr) (p0n : Nat) (p0c : Nat) (p1 : Int) (R : Value → World → Prop) (w : World) : fnW Try.prog [] Try.f156 [Value.slice p0a p0n p0c,
  Value.int IntKind.i64 p1] R w = f156_vc p0a p0n p0c p1 R w := by kernel_rfl
theorem f156_in (p0a : Option Addr) (p0n : Nat) (p0c : Nat) (p1 : Int) (R : Value → World → Prop) (w : World) (h : f156_vc p0a p0n p0c p1 R w) : Ct Try.prog 156
  #[Value.slice p0a p0n p0c, Value.int IntKind.i64 p1] w R := by
  refine Ct_of (rk := []) (fn := Try.f156) (args := [Value.slice p0a p0n p0c, Value.int IntKind.i64 p1]) mixedT Try.func156 (by kernel_rfl) ?_
  rw [f156_eq]
  exact h
def f160_vc (p0a : Option Addr) (p0n : Nat) (p0c : Nat) (p1a : Option Addr) (p1n : Nat) (p1c : Nat) (R : Value → World → Prop) (w : World) : Prop := Bd ((p0n : Nat) :
  Int) fun x1 => Bd ((p1n : Nat) : Int) fun x2 => Bd (x1 != x2) fun b3 => If b3 (R (Value.bool false) w) (Bd ((p0n : Nat) : Int) fun x4 => LoopP (fun l5 l6 J7 w8 => opB
  (nthD l5 (0 : Nat)) fun b9 => opI IntKind.i64 (nthD l5 (1 : Nat)) fun x10 => Bd (decide (x10 < x4)) fun b11 => If b11 (Dr (World.drew w8) fun J12 => IxOk x10 p0n p0a ∧
  ∃ v13, (∀ (w14 : World), J12 w14 → Ld w14 (adAt p0a x10 (1 : Nat)) fun v16 => v16 = v13) ∧ opStr v13 fun s17 => IxOk x10 p1n p1a ∧ ∃ v18, (∀ (w19 : World), J12 w19 → Ld
  w19 (adAt p1a x10 (1 : Nat)) fun v21 => v21 = v18) ∧ opStr v18 fun s22 => Bd (!ByteArray.toList s17 == ByteArray.toList s22) fun b23 => If b23 (R (Value.bool false)
  (World.drew w8)) (Bd (IntKind.wrap IntKind.i64 (x10 + (1 : Int))) fun x24 => J7 [Value.bool b9, Value.int IntKind.i64 x24] [] (World.drew w8))) (R (Value.bool true)
  w8)) [Value.bool false, Value.int IntKind.i64 (0 : Int)] [] w)
theorem f160_eq (p0a : Option Addr) (p0n : Nat) (p0c : Nat) (p1a : Option Addr) (p1n : Nat) (p1c : Nat) (R : Value → World → Prop) (w : World) : fnW Try.prog [] Try.f160
  [Value.slice p0a p0n p0c, Value.slice p1a p1n p1c] R w = f160_vc p0a p0n p0c p1a p1n p1c R w := by kernel_rfl
theorem f160_in (p0a : Option Addr) (p0n : Nat) (p0c : Nat) (p1a : Option Addr) (p1n : Nat) (p1c : Nat) (R : Value → World → Prop) (w : World) (h : f160_vc p0a p0n p0c
  p1a p1n p1c R w) : Ct Try.prog 160 #[Value.slice p0a p0n p0c, Value.slice p1a p1n p1c] w R := by
  refine Ct_of (rk := []) (fn := Try.f160) (args := [Value.slice p0a p0n p0c, Value.slice p1a p1n p1c]) mixedT Try.func160 (by kernel_rfl) ?_
  rw [f160_eq]
  exact h
def f73_vc (p0a : Option Addr) (p0n : Nat) (p0c : Nat) (p1a : Option Addr) (p1n : Nat) (p1c : Nat) (R : Value → World → Prop) (w : World) : Prop := Bd ((p0n : Nat) : Int)
  fun x1 => Bd ((p1n : Nat) : Int) fun x2 => Bd (x1 != x2) fun b3 => If b3 (R (Value.bool false) w) (Bd ((p0n : Nat) : Int) fun x4 => LoopP (fun l5 l6 J7 w8 => opB (nthD
  l5 (0 : Nat)) fun b9 => opI IntKind.i64 (nthD l5 (1 : Nat)) fun x10 => Bd (decide (x10 < x4)) fun b11 => If b11 (Dr (World.drew w8) fun J12 => IxOk x10 p0n p0a ∧ ∃ v13,
  (∀ (w14 : World), J12 w14 → Ld w14 (adAt p0a x10 (1 : Nat)) fun v16 => v16 = v13) ∧ opI IntKind.i64 v13 fun x17 => IxOk x10 p1n p1a ∧ ∃ v18, (∀ (w19 : World), J12 w19 →
  Ld w19 (adAt p1a x10 (1 : Nat)) fun v21 => v21 = v18) ∧ opI IntKind.i64 v18 fun x22 => Bd (x17 != x22) fun b23 => If b23 (R (Value.bool false) (World.drew w8)) (Bd
  (IntKind.wrap IntKind.i64 (x10 + (1 : Int))) fun x24 => J7 [Value.bool b9, Value.int IntKind.i64 x24] [] (World.drew w8))) (R (Value.bool true) w8)) [Value.bool false,
  Value.int IntKind.i64 (0 : Int)] [] w)
theorem f73_eq (p0a : Option Addr) (p0n : Nat) (p0c : Nat) (p1a : Option Addr) (p1n : Nat) (p1c : Nat) (R : Value → World → Prop) (w : World) : fnW Try.prog [] Try.f73
  [Value.slice p0a p0n p0c, Value.slice p1a p1n p1c] R w = f73_vc p0a p0n p0c p1a p1n p1c R w := by kernel_rfl
theorem f73_in (p0a : Option Addr) (p0n : Nat) (p0c : Nat) (p1a : Option Addr) (p1n : Nat) (p1c : Nat) (R : Value → World → Prop) (w : World) (h : f73_vc p0a p0n p0c p1a
  p1n p1c R w) : Ct Try.prog 73 #[Value.slice p0a p0n p0c, Value.slice p1a p1n p1c] w R := by
  refine Ct_of (rk := []) (fn := Try.f73) (args := [Value.slice p0a p0n p0c, Value.slice p1a p1n p1c]) mixedT Try.func73 (by kernel_rfl) ?_
  rw [f73_eq]
  exact h
def f215_vc (p0a : Option Addr) (p0n : Nat) (p0c : Nat) (p1 : ByteArray) (R : Value → World → Prop) (w : World) : Prop := Bd ((p0n : Nat) : Int) fun x1 => LoopP (fun l2
  l3 J4 w5 => opI IntKind.i64 (nthD l2 (0 : Nat)) fun x6 => opI IntKind.i64 (nthD l2 (1 : Nat)) fun x7 => Bd (decide (x7 < x1)) fun b8 => If b8 (IxOk x7 p0n p0a ∧ Ld w5
  (adAt p0a x7 (1 : Nat)) fun v9 => opStr v9 fun s10 => Bd (ByteArray.toList p1 == ByteArray.toList s10) fun b11 => If b11 (R (Value.int IntKind.i64 x7) w5) (Bd
  (IntKind.wrap IntKind.i64 (x7 + (1 : Int))) fun x12 => J4 [Value.int IntKind.i64 x6, Value.int IntKind.i64 x12] [] w5)) (R (Value.int IntKind.i64 (-1 : Int)) w5))
  [Value.int IntKind.i64 (0 : Int), Value.int IntKind.i64 (0 : Int)] [] w
theorem f215_eq (p0a : Option Addr) (p0n : Nat) (p0c : Nat) (p1 : ByteArray) (R : Value → World → Prop) (w : World) : fnW Try.prog [] Try.f215 [Value.slice p0a p0n p0c,
  Value.string p1] R w = f215_vc p0a p0n p0c p1 R w := by kernel_rfl
theorem f215_in (p0a : Option Addr) (p0n : Nat) (p0c : Nat) (p1 : ByteArray) (R : Value → World → Prop) (w : World) (h : f215_vc p0a p0n p0c p1 R w) : Ct Try.prog 215
  #[Value.slice p0a p0n p0c, Value.string p1] w R := by
  refine Ct_of (rk := []) (fn := Try.f215) (args := [Value.slice p0a p0n p0c, Value.string p1]) mixedT Try.func215 (by kernel_rfl) ?_
  rw [f215_eq]
  exact h
def f158_vc (p0 : Option Addr) (R : Value → World → Prop) (w : World) : Prop := CallW Try.prog [] (217 : Nat) #[Value.pointer p0, Value.int IntKind.i64 (1 : Int)] (fun v1
  w2 => opL v1 fun a3 n4 n5 => IxOk (0 : Int) n4 a3 ∧ Ld w2 (adAt a3 (0 : Int) (1 : Nat)) fun v6 => opI IntKind.u8 v6 fun x7 => Bd (IntKind.wrap IntKind.i64 x7) fun x8 =>
  R (Value.int IntKind.i64 x8) w2) w
theorem f158_eq (p0 : Option Addr) (R : Value → World → Prop) (w : World) : fnW Try.prog [] Try.f158 [Value.pointer p0] R w = f158_vc p0 R w := by kernel_rfl
theorem f158_in (p0 : Option Addr) (R : Value → World → Prop) (w : World) (h : f158_vc p0 R w) : Ct Try.prog 158 #[Value.pointer p0] w R := by
  refine Ct_of (rk := []) (fn := Try.f158) (args := [Value.pointer p0]) mixedT Try.func158 (by kernel_rfl) ?_
  rw [f158_eq]
  exact h
def f159_vc (p0 : Option Addr) (R : Value → World → Prop) (w : World) : Prop := CallW Try.prog [] (217 : Nat) #[Value.pointer p0, Value.int IntKind.i64 (2 : Int)] (fun v1
  w2 => opL v1 fun a3 n4 n5 => Dr (World.drew w2) fun J6 => IxOk (0 : Int) n4 a3 ∧ ∃ v7, (∀ (w8 : World), J6 w8 → Ld w8 (adAt a3 (0 : Int) (1 : Nat)) fun v10 => v10 = v7)
  ∧ opI IntKind.u8 v7 fun x11 => Bd (IntKind.wrap IntKind.i64 x11) fun x12 => Bd (IntKind.wrap IntKind.i64 (x12 * (2 : Int) ^ min (8 : Nat) (64 : Nat))) fun x13 => IxOk
  (1 : Int) n4 a3 ∧ ∃ v14, (∀ (w15 : World), J6 w15 → Ld w15 (adAt a3 (1 : Int) (1 : Nat)) fun v17 => v17 = v14) ∧ opI IntKind.u8 v14 fun x18 => Bd (IntKind.wrap
  IntKind.i64 x18) fun x19 => Bd (IntKind.wrap IntKind.i64 ↑(BitVec.toNat (BitVec.ofInt (64 : Nat) x13 ||| BitVec.ofInt (64 : Nat) x19))) fun x20 => R (Value.int
  IntKind.i64 x20) (World.drew w2)) w
theorem f159_eq (p0 : Option Addr) (R : Value → World → Prop) (w : World) : fnW Try.prog [] Try.f159 [Value.pointer p0] R w = f159_vc p0 R w := by kernel_rfl
theorem f159_in (p0 : Option Addr) (R : Value → World → Prop) (w : World) (h : f159_vc p0 R w) : Ct Try.prog 159 #[Value.pointer p0] w R := by
  refine Ct_of (rk := []) (fn := Try.f159) (args := [Value.pointer p0]) mixedT Try.func159 (by kernel_rfl) ?_
  rw [f159_eq]
  exact h
def f217_vc (p0 : Option Addr) (p1 : Int) (R : Value → World → Prop) (w : World) : Prop := NN p0 fun A1 => Ld w (Addr.add A1 (1 : Nat)) fun v2 => opB v2 fun b3 => ((!b3)
  = true → Option.isSome p0 = true) ∧ Bd (Option.getD p0 default) fun A5 => Gd (!b3) (none, (0 : Nat), (0 : Nat)) (fun J6 => Ld w (Addr.add A5 (0 : Nat)) fun v7 => opL v7
  fun a8 n9 n10 => J6 (a8, n9, n10) w) (fun u11 w12 => Bd ↑(Prod.fst (Prod.snd u11)) fun x13 => Bd (decide (x13 < p1)) fun b14 => Bd (bif b3 then true else b14) fun b15
  => If b15 (NN p0 fun A16 => ¬Addr.block A16 ∈ [] ∧ Wr w12 (Addr.add A16 (1 : Nat)) (1 : Nat) ∧ RunW Try.prog [] (Instr.makeSlice (51 : Nat) (Value.int IntKind.i64 p1)
  (Value.int IntKind.i64 p1)) (fun v17 w18 => opL v17 fun a19 n20 n21 => R (Value.slice a19 n20 n21) w18) (setCells w12 (Addr.add A16 (1 : Nat)) (0 : Nat) [Value.bool
  true])) (NN p0 fun A22 => Ld w12 (Addr.add A22 (0 : Nat)) fun v23 => opL v23 fun a24 n25 n26 => RunW Try.prog [] (Instr.sliceAt (51 : Nat) (Value.slice a24 n25 n26)
  none (some (Value.int IntKind.i64 p1)) none) (fun v27 w28 => opL v27 fun a29 n30 n31 => NN p0 fun A32 => Ld w28 (Addr.add A32 (0 : Nat)) fun v33 => opL v33 fun a34 n35
  n36 => RunW Try.prog [] (Instr.sliceAt (51 : Nat) (Value.slice a34 n35 n36) (some (Value.int IntKind.i64 p1)) none none) (fun v37 w38 => opL v37 fun a39 n40 n41 => NN
  p0 fun A42 => ¬Addr.block (Addr.add A42 (0 : Nat)) ∈ [] ∧ Wr w38 (Addr.add A42 (0 : Nat)) (1 : Nat) ∧ R (Value.slice a29 n30 n31) (setCells w38 (Addr.add A42 (0 : Nat))
  (0 : Nat) [Value.slice a39 n40 n41])) w28) w12)) w
theorem f217_eq (p0 : Option Addr) (p1 : Int) (R : Value → World → Prop) (w : World) : fnW Try.prog [] Try.f217 [Value.pointer p0, Value.int IntKind.i64 p1] R w = f217_vc
  p0 p1 R w := by kernel_rfl
theorem f217_in (p0 : Option Addr) (p1 : Int) (R : Value → World → Prop) (w : World) (h : f217_vc p0 p1 R w) : Ct Try.prog 217 #[Value.pointer p0, Value.int IntKind.i64
  p1] w R := by
  refine Ct_of (rk := []) (fn := Try.f217) (args := [Value.pointer p0, Value.int IntKind.i64 p1]) mixedT Try.func217 (by kernel_rfl) ?_
  rw [f217_eq]
  exact h
def f55_vc (p0 : Array Value) (R : Value → World → Prop) (w : World) : Prop := Rg w fun n1 => (257 : Nat) ≤ Array.size p0 ∧ Bd (List.toArray (List.take (257 : Nat)
  (List.drop (0 : Nat) (Array.toList p0)))) fun cs2 => Array.size cs2 = (257 : Nat) ∧ Up [] [n1] w fun w3 => CallW Try.prog [n1] (44 : Nat) #[Value.agg cs2] (fun v4 w5 =>
  opB v4 fun b6 => Bd (!b6) fun b7 => ((!b7) = true → (260 : Nat) ≤ Array.size p0) ∧ Bd (List.toArray (List.take (3 : Nat) (List.drop (257 : Nat) (Array.toList p0)))) fun
  cs9 => Gd (!b7) false (fun J10 => CallW Try.prog [n1] (72 : Nat) #[Value.agg cs9] (fun v11 w12 => opB v11 fun b13 => J10 b13 w12) w5) (fun b14 w15 => Bd (!b14) fun b16
  => Bd (bif b7 then true else b16) fun b17 => ((!b17) = true → isI IntKind.i64 (Array.toList p0) (256 : Nat)) ∧ Bd (rdI (Array.toList p0) (256 : Nat)) fun x19 => ((!b17)
  = true → isI IntKind.i64 (Array.toList p0) (257 : Nat)) ∧ Bd (rdI (Array.toList p0) (257 : Nat)) fun x21 => Bd (x19 != x21) fun b22 => Bd (bif b17 then true else b22)
  fun b23 => ∃ a24 n25 n26, ((!b23) = true → nthV (Array.toList p0) (260 : Nat) = some (Value.slice a24 n25 n26)) ∧ Bd ((n25 : Nat) : Int) fun x28 => Bd (decide (x28 < (1
  : Int))) fun b29 => Bd (bif b23 then true else b29) fun b30 => ∃ a31 n32 n33, ((!b30) = true → nthV (Array.toList p0) (260 : Nat) = some (Value.slice a31 n32 n33)) ∧ Bd
  ((n32 : Nat) : Int) fun x35 => Bd (decide (x35 > (200 : Int))) fun b36 => Bd (bif b30 then true else b36) fun b37 => If b37 (R (Value.bool false) w15) (BdO (nthV
  (Array.toList p0) (260 : Nat)) fun v38 => opL v38 fun a39 n40 n41 => Bd ((n40 : Nat) : Int) fun x42 => LoopP (fun l43 l44 J45 w46 => opB (nthD l43 (0 : Nat)) fun b47 =>
  opI IntKind.i64 (nthD l43 (1 : Nat)) fun x48 => Bd (decide (x48 < x42)) fun b49 => If b49 (IxOk x48 n40 a39 ∧ Ld w46 (adAt a39 x48 (1 : Nat)) fun v50 => opStr v50 fun
  s51 => CallW Try.prog [n1] (152 : Nat) #[Value.string s51] (fun v52 w53 => opB v52 fun b54 => Bd (!b54) fun b55 => ∃ a56 n57 n58, ((!b55) = true → nthV (Array.toList
  p0) (260 : Nat) = some (Value.slice a56 n57 n58)) ∧ Gd (!b55) (none, (0 : Nat), (0 : Nat)) (fun J60 => RunW Try.prog [n1] (Instr.sliceAt (55 : Nat) (Value.slice a56 n57
  n58) none (some (Value.int IntKind.i64 x48)) none) (fun v61 w62 => opL v61 fun a63 n64 n65 => J60 (a63, n64, n65) w62) w53) (fun u66 w67 => Gd (!b55) false (fun J68 =>
  CallW Try.prog [n1] (153 : Nat) #[Value.slice (Prod.fst u66) (Prod.fst (Prod.snd u66)) (Prod.snd (Prod.snd u66)), Value.string s51] (fun v69 w70 => opB v69 fun b71 =>
  J68 b71 w70) w67) (fun b72 w73 => Bd (bif b55 then true else b72) fun b74 => If b74 (R (Value.bool false) w73) (Bd (IntKind.wrap IntKind.i64 (x48 + (1 : Int))) fun x75
  => J45 [Value.bool b47, Value.int IntKind.i64 x75] [] w73)) w67) w53) w46) (BdO (nthV (Array.toList p0) (259 : Nat)) fun v76 => opL v76 fun a77 n78 n79 => BdO (nthV
  (Array.toList p0) (260 : Nat)) fun v80 => opL v80 fun a81 n82 n83 => Bd ((n82 : Nat) : Int) fun x84 => CallW Try.prog [n1] (154 : Nat) #[Value.slice a77 n78 n79] (fun
  v85 w86 => opI IntKind.i64 v85 fun x87 => Bd (decide (x87 < x84)) fun b88 => R (Value.bool b88) w86) (World.drew w46))) [Value.bool false, Value.int IntKind.i64 (0 :
  Int)] [] w15)) w5) w3
theorem f55_eq (p0 : Array Value) (R : Value → World → Prop) (w : World) : fnW Try.prog [1] Try.f55 [Value.agg p0] R w = f55_vc p0 R w := by kernel_rfl
theorem f55_in (p0 : Array Value) (R : Value → World → Prop) (w : World) (h : f55_vc p0 R w) : Ct Try.prog 55 #[Value.agg p0] w R := by
  refine Ct_of (rk := [1]) (fn := Try.f55) (args := [Value.agg p0]) mixedT Try.func55 (by kernel_rfl) ?_
  rw [f55_eq]
  exact h
def f57_vc (p0 : Array Value) (p1 : Int) (p2 : Int) (R : Value → World → Prop) (w : World) : Prop := Rg w fun n1 => Array.size p0 = (261 : Nat) ∧ Up [] [n1] w fun w2 =>
  CallW Try.prog [n1] (55 : Nat) #[Value.agg p0] (fun v3 w4 => opB v3 fun b5 => Bd (!b5) fun b6 => Bd (decide (p1 < (0 : Int))) fun b7 => Bd (bif b6 then true else b7)
  fun b8 => ∃ a9 n10 n11, ((!b8) = true → nthV (Array.toList p0) (259 : Nat) = some (Value.slice a9 n10 n11)) ∧ Bd ((n10 : Nat) : Int) fun x13 => Bd (decide (p1 ≥ x13))
  fun b14 => Bd (bif b8 then true else b14) fun b15 => If b15 (R (Value.int IntKind.i64 (-1 : Int)) w4) (Dr (World.drew w4) fun J16 => BdO (nthV (Array.toList p0) (258 :
  Nat)) fun v17 => opL v17 fun a18 n19 n20 => BdO (nthV (Array.toList p0) (257 : Nat)) fun v21 => opI IntKind.i64 v21 fun x22 => Bd (IntKind.wrap IntKind.i64 (p1 * x22))
  fun x23 => ((0 : Int) ≤ p2 ∧ p2 < ↑(256 : Nat)) ∧ BdO (nthV (Array.toList p0) ((0 : Nat) + Int.toNat p2 * (1 : Nat))) fun v24 => opI IntKind.u8 v24 fun x25 => Bd
  (IntKind.wrap IntKind.i64 x25) fun x26 => Bd (IntKind.wrap IntKind.i64 (x23 + x26)) fun x27 => IxOk x27 n19 a18 ∧ ∃ v28, (∀ (w29 : World), J16 w29 → Ld w29 (adAt a18
  x27 (1 : Nat)) fun v31 => v31 = v28) ∧ opI IntKind.i64 v28 fun x32 => R (Value.int IntKind.i64 x32) (World.drew w4))) w2
theorem f57_eq (p0 : Array Value) (p1 : Int) (p2 : Int) (R : Value → World → Prop) (w : World) : fnW Try.prog [3] Try.f57 [Value.agg p0, Value.int IntKind.i64 p1,
  Value.int IntKind.u8 p2] R w = f57_vc p0 p1 p2 R w := by kernel_rfl
theorem f57_in (p0 : Array Value) (p1 : Int) (p2 : Int) (R : Value → World → Prop) (w : World) (h : f57_vc p0 p1 p2 R w) : Ct Try.prog 57 #[Value.agg p0, Value.int
  IntKind.i64 p1, Value.int IntKind.u8 p2] w R := by
  refine Ct_of (rk := [3]) (fn := Try.f57) (args := [Value.agg p0, Value.int IntKind.i64 p1, Value.int IntKind.u8 p2]) mixedT Try.func57 (by kernel_rfl) ?_
  rw [f57_eq]
  exact h
def f63_vc (p0 : Array Value) (p1 : Array Value) (R : Value → World → Prop) (w : World) : Prop := Rg w fun n1 => Rg w fun n2 => (257 : Nat) ≤ Array.size p0 ∧ Bd
  (List.toArray (List.take (257 : Nat) (List.drop (0 : Nat) (Array.toList p0)))) fun cs3 => Array.size cs3 = (257 : Nat) ∧ (257 : Nat) ≤ Array.size p1 ∧ Bd (List.toArray
  (List.take (257 : Nat) (List.drop (0 : Nat) (Array.toList p1)))) fun cs4 => Array.size cs4 = (257 : Nat) ∧ Up [] [n2, n1] w fun w5 => RunW Try.prog [n2, n1] (eqS
  BinOp.eql (25 : Nat) (Operand.tmp (6 : Nat)) (Operand.tmp (8 : Nat)) (Value.agg cs3) (Value.agg cs4)) (fun v6 w7 => opB v6 fun b8 => (b8 = true → (260 : Nat) ≤
  Array.size p0) ∧ Bd (List.toArray (List.take (3 : Nat) (List.drop (257 : Nat) (Array.toList p0)))) fun cs10 => (b8 = true → (260 : Nat) ≤ Array.size p1) ∧ Bd
  (List.toArray (List.take (3 : Nat) (List.drop (257 : Nat) (Array.toList p1)))) fun cs12 => Gd b8 false (fun J13 => CallW Try.prog [n2, n1] (96 : Nat) #[Value.agg cs10,
  Value.agg cs12] (fun v14 w15 => opB v14 fun b16 => J13 b16 w15) w7) (fun b17 w18 => Bd (bif b8 then b17 else false) fun b19 => ∃ a20 n21 n22, (b19 = true → nthV
  (Array.toList p0) (260 : Nat) = some (Value.slice a20 n21 n22)) ∧ ∃ a24 n25 n26, (b19 = true → nthV (Array.toList p1) (260 : Nat) = some (Value.slice a24 n25 n26)) ∧ Gd
  b19 false (fun J28 => CallW Try.prog [n2, n1] (160 : Nat) #[Value.slice a20 n21 n22, Value.slice a24 n25 n26] (fun v29 w30 => opB v29 fun b31 => J28 b31 w30) w18) (fun
  b32 w33 => Bd (bif b19 then b32 else false) fun b34 => R (Value.bool b34) w33) w18) w7) w5
theorem f63_eq (p0 : Array Value) (p1 : Array Value) (R : Value → World → Prop) (w : World) : fnW Try.prog [2, 3] Try.f63 [Value.agg p0, Value.agg p1] R w = f63_vc p0 p1
  R w := by kernel_rfl
theorem f63_in (p0 : Array Value) (p1 : Array Value) (R : Value → World → Prop) (w : World) (h : f63_vc p0 p1 R w) : Ct Try.prog 63 #[Value.agg p0, Value.agg p1] w R :=
  by
  refine Ct_of (rk := [2, 3]) (fn := Try.f63) (args := [Value.agg p0, Value.agg p1]) mixedT Try.func63 (by kernel_rfl) ?_
  rw [f63_eq]
  exact h
end Fk
set_option linter.unusedVariables false
set_option maxRecDepth 1000000
set_option maxHeartbeats 4000000
namespace Fk
open Go Go.Proofs Go.RowKit
def f157_vc (p0 : Option Addr) (R : Value → World → Prop) (w : World) : Prop := NN p0 fun A1 => CallW Try.prog [] (158 : Nat) #[Value.pointer (some (Addr.add A1 (0 :
  Nat)))] (fun v2 w3 => opI IntKind.i64 v2 fun x4 => Bd (x4 == (70 : Int)) fun b5 => (b5 = true → Option.isSome p0 = true) ∧ Bd (Option.getD p0 default) fun A7 => Gd b5
  (0 : Int) (fun J8 => CallW Try.prog [] (158 : Nat) #[Value.pointer (some (Addr.add A7 (0 : Nat)))] (fun v9 w10 => opI IntKind.i64 v9 fun x11 => J8 x11 w10) w3) (fun x12
  w13 => Bd (x12 == (84 : Int)) fun b14 => Bd (bif b5 then b14 else false) fun b15 => (b15 = true → Option.isSome p0 = true) ∧ Bd (Option.getD p0 default) fun A17 => Gd
  b15 (0 : Int) (fun J18 => CallW Try.prog [] (158 : Nat) #[Value.pointer (some (Addr.add A17 (0 : Nat)))] (fun v19 w20 => opI IntKind.i64 v19 fun x21 => J18 x21 w20)
  w13) (fun x22 w23 => Bd (x22 == (1 : Int)) fun b24 => Bd (bif b15 then b24 else false) fun b25 => NN p0 fun A26 => Ld w23 (Addr.add (Addr.add A26 (0 : Nat)) (1 : Nat))
  fun v27 => opB v27 fun b28 => Bd (!b25) fun b29 => Bd (bif b28 then true else b29) fun b30 => NN p0 fun A31 => ¬Addr.block (Addr.add A31 (0 : Nat)) ∈ [] ∧ Wr w23
  (Addr.add (Addr.add A31 (0 : Nat)) (1 : Nat)) (1 : Nat) ∧ NN p0 fun A32 => CallW Try.prog [] (158 : Nat) #[Value.pointer (some (Addr.add A32 (0 : Nat)))] (fun v33 w34
  => opI IntKind.i64 v33 fun x35 => Bd (IntKind.wrap IntKind.i64 (x35 + (1 : Int))) fun x36 => NN p0 fun A37 => ¬Addr.block A37 ∈ [] ∧ Wr w34 (Addr.add (Addr.add
  (Addr.add A37 (2 : Nat)) (257 : Nat)) (0 : Nat)) (1 : Nat) ∧ NN p0 fun A38 => CallW Try.prog [] (159 : Nat) #[Value.pointer (some (Addr.add A38 (0 : Nat)))] (fun v39
  w40 => opI IntKind.i64 v39 fun x41 => NN p0 fun A42 => CallW Try.prog [] (158 : Nat) #[Value.pointer (some (Addr.add A42 (0 : Nat)))] (fun v43 w44 => opI IntKind.i64
  v43 fun x45 => LoopP (fun l46 l47 J48 w49 => opI IntKind.i64 (nthD l46 (0 : Nat)) fun x50 => Bd (decide (x50 < x45)) fun b51 => If b51 (NN p0 fun A52 => NN p0 fun A53
  => NN p0 fun A54 => (Ld (World.drew w49) (Addr.add (Addr.add A52 (2 : Nat)) (260 : Nat)) fun v55 => opL v55 fun a56 n57 n58 => CallW Try.prog [] (158 : Nat)
  #[Value.pointer (some (Addr.add A54 (0 : Nat)))] (fun v59 w60 => opI IntKind.i64 v59 fun x61 => CallW Try.prog [] (217 : Nat) #[Value.pointer (some (Addr.add A53 (0 :
  Nat))), Value.int IntKind.i64 x61] (fun v62 w63 => opL v62 fun a64 n65 n66 => RunW Try.prog [] (convert (51 : Nat) (9 : Nat) (Value.slice a64 n65 n66)) (fun v67 w68 =>
  opStr v67 fun s69 => Nw (Obj.cells #[Value.string s69] (9 : Nat)) w68 fun n70 w71 => RunW Try.prog [] (Builtin.append_ #[(55 : Nat), (55 : Nat)] (55 : Nat)
  #[Value.slice a56 n57 n58, Value.slice (some (Addr.mk n70 (0 : Nat) none)) (1 : Nat) (1 : Nat)]) (fun v72 w73 => opL v72 fun a74 n75 n76 => NN p0 fun A77 => ¬Addr.block
  A77 ∈ [] ∧ Wr w73 (Addr.add (Addr.add A77 (2 : Nat)) (260 : Nat)) (1 : Nat) ∧ Bd (IntKind.wrap IntKind.i64 (x50 + (1 : Int))) fun x78 => J48 [Value.int IntKind.i64 x78]
  [] (setCells w73 (Addr.add (Addr.add A77 (2 : Nat)) (260 : Nat)) (0 : Nat) [Value.slice a74 n75 n76])) w71) w63) w60) (World.drew w49)) ∧ CallW Try.prog [] (158 : Nat)
  #[Value.pointer (some (Addr.add A54 (0 : Nat)))] (fun v79 w80 => opI IntKind.i64 v79 fun x81 => (Ld w80 (Addr.add (Addr.add A52 (2 : Nat)) (260 : Nat)) fun v82 => opL
  v82 fun a83 n84 n85 => CallW Try.prog [] (217 : Nat) #[Value.pointer (some (Addr.add A53 (0 : Nat))), Value.int IntKind.i64 x81] (fun v86 w87 => opL v86 fun a88 n89 n90
  => RunW Try.prog [] (convert (51 : Nat) (9 : Nat) (Value.slice a88 n89 n90)) (fun v91 w92 => opStr v91 fun s93 => Nw (Obj.cells #[Value.string s93] (9 : Nat)) w92 fun
  n94 w95 => RunW Try.prog [] (Builtin.append_ #[(55 : Nat), (55 : Nat)] (55 : Nat) #[Value.slice a83 n84 n85, Value.slice (some (Addr.mk n94 (0 : Nat) none)) (1 : Nat)
  (1 : Nat)]) (fun v96 w97 => opL v96 fun a98 n99 n100 => NN p0 fun A101 => ¬Addr.block A101 ∈ [] ∧ Wr w97 (Addr.add (Addr.add A101 (2 : Nat)) (260 : Nat)) (1 : Nat) ∧ Bd
  (IntKind.wrap IntKind.i64 (x50 + (1 : Int))) fun x102 => J48 [Value.int IntKind.i64 x102] [] (setCells w97 (Addr.add (Addr.add A101 (2 : Nat)) (260 : Nat)) (0 : Nat)
  [Value.slice a98 n99 n100])) w95) w87) w80) ∧ CallW Try.prog [] (217 : Nat) #[Value.pointer (some (Addr.add A53 (0 : Nat))), Value.int IntKind.i64 x81] (fun v103 w104
  => opL v103 fun a105 n106 n107 => (Ld w104 (Addr.add (Addr.add A52 (2 : Nat)) (260 : Nat)) fun v108 => opL v108 fun a109 n110 n111 => RunW Try.prog [] (convert (51 :
  Nat) (9 : Nat) (Value.slice a105 n106 n107)) (fun v112 w113 => opStr v112 fun s114 => Nw (Obj.cells #[Value.string s114] (9 : Nat)) w113 fun n115 w116 => RunW Try.prog
  [] (Builtin.append_ #[(55 : Nat), (55 : Nat)] (55 : Nat) #[Value.slice a109 n110 n111, Value.slice (some (Addr.mk n115 (0 : Nat) none)) (1 : Nat) (1 : Nat)]) (fun v117
  w118 => opL v117 fun a119 n120 n121 => NN p0 fun A122 => ¬Addr.block A122 ∈ [] ∧ Wr w118 (Addr.add (Addr.add A122 (2 : Nat)) (260 : Nat)) (1 : Nat) ∧ Bd (IntKind.wrap
  IntKind.i64 (x50 + (1 : Int))) fun x123 => J48 [Value.int IntKind.i64 x123] [] (setCells w118 (Addr.add (Addr.add A122 (2 : Nat)) (260 : Nat)) (0 : Nat) [Value.slice
  a119 n120 n121])) w116) w104) ∧ RunW Try.prog [] (convert (51 : Nat) (9 : Nat) (Value.slice a105 n106 n107)) (fun v124 w125 => opStr v124 fun s126 => (Ld w125 (Addr.add
  (Addr.add A52 (2 : Nat)) (260 : Nat)) fun v127 => opL v127 fun a128 n129 n130 => Nw (Obj.cells #[Value.string s126] (9 : Nat)) w125 fun n131 w132 => RunW Try.prog []
  (Builtin.append_ #[(55 : Nat), (55 : Nat)] (55 : Nat) #[Value.slice a128 n129 n130, Value.slice (some (Addr.mk n131 (0 : Nat) none)) (1 : Nat) (1 : Nat)]) (fun v133
  w134 => opL v133 fun a135 n136 n137 => NN p0 fun A138 => ¬Addr.block A138 ∈ [] ∧ Wr w134 (Addr.add (Addr.add A138 (2 : Nat)) (260 : Nat)) (1 : Nat) ∧ Bd (IntKind.wrap
  IntKind.i64 (x50 + (1 : Int))) fun x139 => J48 [Value.int IntKind.i64 x139] [] (setCells w134 (Addr.add (Addr.add A138 (2 : Nat)) (260 : Nat)) (0 : Nat) [Value.slice
  a135 n136 n137])) w132) ∧ Nw (Obj.cells #[Value.string s126] (9 : Nat)) w125 fun n140 w141 => Ld w141 (Addr.add (Addr.add A52 (2 : Nat)) (260 : Nat)) fun v142 => opL
  v142 fun a143 n144 n145 => RunW Try.prog [] (Builtin.append_ #[(55 : Nat), (55 : Nat)] (55 : Nat) #[Value.slice a143 n144 n145, Value.slice (some (Addr.mk n140 (0 :
  Nat) none)) (1 : Nat) (1 : Nat)]) (fun v146 w147 => opL v146 fun a148 n149 n150 => NN p0 fun A151 => ¬Addr.block A151 ∈ [] ∧ Wr w147 (Addr.add (Addr.add A151 (2 : Nat))
  (260 : Nat)) (1 : Nat) ∧ Bd (IntKind.wrap IntKind.i64 (x50 + (1 : Int))) fun x152 => J48 [Value.int IntKind.i64 x152] [] (setCells w147 (Addr.add (Addr.add A151 (2 :
  Nat)) (260 : Nat)) (0 : Nat) [Value.slice a148 n149 n150])) w141) w104) w80) (World.drew w49)) (NN p0 fun A153 => NN p0 fun A154 => RunW Try.prog [] (Instr.sliceAt (23
  : Nat) (Value.pointer (some (Addr.add (Addr.add (Addr.add A153 (2 : Nat)) (0 : Nat)) (0 : Nat)))) none none none) (fun v155 w156 => opL v155 fun a157 n158 n159 => CallW
  Try.prog [] (217 : Nat) #[Value.pointer (some (Addr.add A154 (0 : Nat))), Value.int IntKind.i64 (256 : Int)] (fun v160 w161 => opL v160 fun a162 n163 n164 => RunW
  Try.prog [] (Builtin.copy_ #[(51 : Nat), (51 : Nat)] (3 : Nat) #[Value.slice a157 n158 n159, Value.slice a162 n163 n164]) (fun v165 w166 => opI IntKind.i64 v165 fun
  x167 => NN p0 fun A168 => Ld w166 (Addr.add (Addr.add (Addr.add A168 (2 : Nat)) (257 : Nat)) (0 : Nat)) fun v169 => opI IntKind.i64 v169 fun x170 => NN p0 fun A171 =>
  ¬Addr.block A171 ∈ [] ∧ Wr w166 (Addr.add (Addr.add (Addr.add A171 (2 : Nat)) (0 : Nat)) (256 : Nat)) (1 : Nat) ∧ R (Value.int IntKind.i64 x41) (setCells w166 (Addr.add
  (Addr.add (Addr.add A171 (2 : Nat)) (0 : Nat)) (256 : Nat)) (0 : Nat) [Value.int IntKind.i64 x170])) w161) w156) (World.drew w49) ∧ CallW Try.prog [] (217 : Nat)
  #[Value.pointer (some (Addr.add A154 (0 : Nat))), Value.int IntKind.i64 (256 : Int)] (fun v172 w173 => opL v172 fun a174 n175 n176 => RunW Try.prog [] (Instr.sliceAt
  (23 : Nat) (Value.pointer (some (Addr.add (Addr.add (Addr.add A153 (2 : Nat)) (0 : Nat)) (0 : Nat)))) none none none) (fun v177 w178 => opL v177 fun a179 n180 n181 =>
  RunW Try.prog [] (Builtin.copy_ #[(51 : Nat), (51 : Nat)] (3 : Nat) #[Value.slice a179 n180 n181, Value.slice a174 n175 n176]) (fun v182 w183 => opI IntKind.i64 v182
  fun x184 => NN p0 fun A185 => Ld w183 (Addr.add (Addr.add (Addr.add A185 (2 : Nat)) (257 : Nat)) (0 : Nat)) fun v186 => opI IntKind.i64 v186 fun x187 => NN p0 fun A188
  => ¬Addr.block A188 ∈ [] ∧ Wr w183 (Addr.add (Addr.add (Addr.add A188 (2 : Nat)) (0 : Nat)) (256 : Nat)) (1 : Nat) ∧ R (Value.int IntKind.i64 x41) (setCells w183
  (Addr.add (Addr.add (Addr.add A188 (2 : Nat)) (0 : Nat)) (256 : Nat)) (0 : Nat) [Value.int IntKind.i64 x187])) w178) w173) (World.drew w49))) [Value.int IntKind.i64 (0
  : Int)] [] w44) w40) (setCells w34 (Addr.add (Addr.add (Addr.add A37 (2 : Nat)) (257 : Nat)) (0 : Nat)) (0 : Nat) [Value.int IntKind.i64 x36])) (setCells w23 (Addr.add
  (Addr.add A31 (0 : Nat)) (1 : Nat)) (0 : Nat) [Value.bool b30])) w13) w3) w
theorem f157_eq (p0 : Option Addr) (R : Value → World → Prop) (w : World) : fnW Try.prog [] Try.f157 [Value.pointer p0] R w = f157_vc p0 R w := by kernel_rfl
theorem f157_in (p0 : Option Addr) (R : Value → World → Prop) (w : World) (h : f157_vc p0 R w) : Ct Try.prog 157 #[Value.pointer p0] w R := by
  refine Ct_of (rk := []) (fn := Try.f157) (args := [Value.pointer p0]) mixedT Try.func157 (by kernel_rfl) ?_
  rw [f157_eq]
  exact h
def f61_vc (p0a : Option Addr) (p0n : Nat) (p0c : Nat) (R : Value → World → Prop) (w : World) : Prop := Rg w fun n1 => Up [] [n1] w fun w2 => RunW Try.prog [n1]
  (Instr.build (209 : Nat) #[((0 : Nat), Value.agg #[Value.slice p0a p0n p0c, Value.bool false])]) (fun v3 w4 => opBig v3 fun cs5 => Array.size cs5 = (263 : Nat) ∧ Nw
  (Obj.cells cs5 (209 : Nat)) w4 fun n6 w7 => CallW Try.prog [n1] (157 : Nat) #[Value.pointer (some (Addr.mk n6 (0 : Nat) none))] (fun v8 w9 => opI IntKind.i64 v8 fun x10
  => Dr (World.drew w9) fun J11 => NN (some (Addr.mk n6 (0 : Nat) none)) fun A12 => ∃ v13, (∀ (w14 : World), J11 w14 → Ld w14 (Addr.add (Addr.add A12 (0 : Nat)) (1 :
  Nat)) fun v16 => v16 = v13) ∧ opB v13 fun b17 => ((!b17) = true → true = true) ∧ ∃ v19, ((!b17) = true → ∀ (w21 : World), J11 w21 → Ld w21 (Addr.add (Addr.add (Addr.mk
  n6 (0 : Nat) none) (0 : Nat)) (0 : Nat)) fun v23 => v23 = v19) ∧ opL v19 fun a24 n25 n26 => Bd ((n25 : Nat) : Int) fun x27 => Bd (IntKind.wrap IntKind.i64 ((2 : Int) *
  x10)) fun x28 => ((!b17) = true → true = true) ∧ ∃ x30, ((!b17) = true → ∀ (w32 : World), J11 w32 → Ld w32 (Addr.add (Addr.add (Addr.add (Addr.mk n6 (0 : Nat) none) (2
  : Nat)) (257 : Nat)) (0 : Nat)) fun v34 => v34 = Value.int IntKind.i64 x30) ∧ Bd (IntKind.wrap IntKind.i64 (x28 * x30)) fun x35 => Bd (IntKind.wrap IntKind.i64 (x10 +
  x35)) fun x36 => Bd (x27 != x36) fun b37 => Bd (bif b17 then true else b37) fun b38 => If b38 (RunW Try.prog [n1] (Instr.build (57 : Nat) #[]) (fun v39 w40 => opBig v39
  fun cs41 => Array.size cs41 = (261 : Nat) ∧ OkC (Array.toList cs41) (261 : Nat) (Up [n1] [n1] w40 fun w42 => Array.size cs41 = (261 : Nat) ∧ R (Value.tuple #[Value.agg
  cs41, Value.int IntKind.i64 (100 : Int)]) w42)) (World.drew w9)) (LoopP (fun l43 l44 J45 w46 => opI IntKind.i64 (nthD l43 (0 : Nat)) fun x47 => Bd (decide (x47 < x10))
  fun b48 => If b48 (NN (some (Addr.mk n6 (0 : Nat) none)) fun A49 => NN (some (Addr.mk n6 (0 : Nat) none)) fun A50 => (Ld (World.drew w46) (Addr.add (Addr.add (Addr.add
  A49 (2 : Nat)) (257 : Nat)) (2 : Nat)) fun v51 => opL v51 fun a52 n53 n54 => CallW Try.prog [n1] (158 : Nat) #[Value.pointer (some (Addr.add A50 (0 : Nat)))] (fun v55
  w56 => opI IntKind.i64 v55 fun x57 => Bd (IntKind.wrap IntKind.i64 (x57 - (1 : Int))) fun x58 => Nw (Obj.cells #[Value.int IntKind.i64 x58] (3 : Nat)) w56 fun n59 w60
  => RunW Try.prog [n1] (Builtin.append_ #[(52 : Nat), (52 : Nat)] (52 : Nat) #[Value.slice a52 n53 n54, Value.slice (some (Addr.mk n59 (0 : Nat) none)) (1 : Nat) (1 :
  Nat)]) (fun v61 w62 => opL v61 fun a63 n64 n65 => NN (some (Addr.mk n6 (0 : Nat) none)) fun A66 => ¬Addr.block A66 ∈ [n1] ∧ Wr w62 (Addr.add (Addr.add (Addr.add A66 (2
  : Nat)) (257 : Nat)) (2 : Nat)) (1 : Nat) ∧ Bd (IntKind.wrap IntKind.i64 (x47 + (1 : Int))) fun x67 => J45 [Value.int IntKind.i64 x67] [] (setCells w62 (Addr.add
  (Addr.add (Addr.add A66 (2 : Nat)) (257 : Nat)) (2 : Nat)) (0 : Nat) [Value.slice a63 n64 n65])) w60) (World.drew w46)) ∧ CallW Try.prog [n1] (158 : Nat)
  #[Value.pointer (some (Addr.add A50 (0 : Nat)))] (fun v68 w69 => opI IntKind.i64 v68 fun x70 => Bd (IntKind.wrap IntKind.i64 (x70 - (1 : Int))) fun x71 => (Ld w69
  (Addr.add (Addr.add (Addr.add A49 (2 : Nat)) (257 : Nat)) (2 : Nat)) fun v72 => opL v72 fun a73 n74 n75 => Nw (Obj.cells #[Value.int IntKind.i64 x71] (3 : Nat)) w69 fun
  n76 w77 => RunW Try.prog [n1] (Builtin.append_ #[(52 : Nat), (52 : Nat)] (52 : Nat) #[Value.slice a73 n74 n75, Value.slice (some (Addr.mk n76 (0 : Nat) none)) (1 : Nat)
  (1 : Nat)]) (fun v78 w79 => opL v78 fun a80 n81 n82 => NN (some (Addr.mk n6 (0 : Nat) none)) fun A83 => ¬Addr.block A83 ∈ [n1] ∧ Wr w79 (Addr.add (Addr.add (Addr.add
  A83 (2 : Nat)) (257 : Nat)) (2 : Nat)) (1 : Nat) ∧ Bd (IntKind.wrap IntKind.i64 (x47 + (1 : Int))) fun x84 => J45 [Value.int IntKind.i64 x84] [] (setCells w79 (Addr.add
  (Addr.add (Addr.add A83 (2 : Nat)) (257 : Nat)) (2 : Nat)) (0 : Nat) [Value.slice a80 n81 n82])) w77) ∧ Nw (Obj.cells #[Value.int IntKind.i64 x71] (3 : Nat)) w69 fun
  n85 w86 => Ld w86 (Addr.add (Addr.add (Addr.add A49 (2 : Nat)) (257 : Nat)) (2 : Nat)) fun v87 => opL v87 fun a88 n89 n90 => RunW Try.prog [n1] (Builtin.append_ #[(52 :
  Nat), (52 : Nat)] (52 : Nat) #[Value.slice a88 n89 n90, Value.slice (some (Addr.mk n85 (0 : Nat) none)) (1 : Nat) (1 : Nat)]) (fun v91 w92 => opL v91 fun a93 n94 n95 =>
  NN (some (Addr.mk n6 (0 : Nat) none)) fun A96 => ¬Addr.block A96 ∈ [n1] ∧ Wr w92 (Addr.add (Addr.add (Addr.add A96 (2 : Nat)) (257 : Nat)) (2 : Nat)) (1 : Nat) ∧ Bd
  (IntKind.wrap IntKind.i64 (x47 + (1 : Int))) fun x97 => J45 [Value.int IntKind.i64 x97] [] (setCells w92 (Addr.add (Addr.add (Addr.add A96 (2 : Nat)) (257 : Nat)) (2 :
  Nat)) (0 : Nat) [Value.slice a93 n94 n95])) w86) (World.drew w46)) (NN (some (Addr.mk n6 (0 : Nat) none)) fun A98 => Ld w46 (Addr.add (Addr.add (Addr.add A98 (2 : Nat))
  (257 : Nat)) (0 : Nat)) fun v99 => opI IntKind.i64 v99 fun x100 => Bd (IntKind.wrap IntKind.i64 (x10 * x100)) fun x101 => LoopP (fun l102 l103 J104 w105 => opI
  IntKind.i64 (nthD l102 (0 : Nat)) fun x106 => Bd (decide (x106 < x101)) fun b107 => If b107 (NN (some (Addr.mk n6 (0 : Nat) none)) fun A108 => NN (some (Addr.mk n6 (0 :
  Nat) none)) fun A109 => (Ld (World.drew w105) (Addr.add (Addr.add (Addr.add A108 (2 : Nat)) (257 : Nat)) (1 : Nat)) fun v110 => opL v110 fun a111 n112 n113 => CallW
  Try.prog [n1] (159 : Nat) #[Value.pointer (some (Addr.add A109 (0 : Nat)))] (fun v114 w115 => opI IntKind.i64 v114 fun x116 => Bd (IntKind.wrap IntKind.i64 (x116 - (1 :
  Int))) fun x117 => Nw (Obj.cells #[Value.int IntKind.i64 x117] (3 : Nat)) w115 fun n118 w119 => RunW Try.prog [n1] (Builtin.append_ #[(52 : Nat), (52 : Nat)] (52 : Nat)
  #[Value.slice a111 n112 n113, Value.slice (some (Addr.mk n118 (0 : Nat) none)) (1 : Nat) (1 : Nat)]) (fun v120 w121 => opL v120 fun a122 n123 n124 => NN (some (Addr.mk
  n6 (0 : Nat) none)) fun A125 => ¬Addr.block A125 ∈ [n1] ∧ Wr w121 (Addr.add (Addr.add (Addr.add A125 (2 : Nat)) (257 : Nat)) (1 : Nat)) (1 : Nat) ∧ Bd (IntKind.wrap
  IntKind.i64 (x106 + (1 : Int))) fun x126 => J104 [Value.int IntKind.i64 x126] [] (setCells w121 (Addr.add (Addr.add (Addr.add A125 (2 : Nat)) (257 : Nat)) (1 : Nat)) (0
  : Nat) [Value.slice a122 n123 n124])) w119) (World.drew w105)) ∧ CallW Try.prog [n1] (159 : Nat) #[Value.pointer (some (Addr.add A109 (0 : Nat)))] (fun v127 w128 => opI
  IntKind.i64 v127 fun x129 => Bd (IntKind.wrap IntKind.i64 (x129 - (1 : Int))) fun x130 => (Ld w128 (Addr.add (Addr.add (Addr.add A108 (2 : Nat)) (257 : Nat)) (1 : Nat))
  fun v131 => opL v131 fun a132 n133 n134 => Nw (Obj.cells #[Value.int IntKind.i64 x130] (3 : Nat)) w128 fun n135 w136 => RunW Try.prog [n1] (Builtin.append_ #[(52 :
  Nat), (52 : Nat)] (52 : Nat) #[Value.slice a132 n133 n134, Value.slice (some (Addr.mk n135 (0 : Nat) none)) (1 : Nat) (1 : Nat)]) (fun v137 w138 => opL v137 fun a139
  n140 n141 => NN (some (Addr.mk n6 (0 : Nat) none)) fun A142 => ¬Addr.block A142 ∈ [n1] ∧ Wr w138 (Addr.add (Addr.add (Addr.add A142 (2 : Nat)) (257 : Nat)) (1 : Nat))
  (1 : Nat) ∧ Bd (IntKind.wrap IntKind.i64 (x106 + (1 : Int))) fun x143 => J104 [Value.int IntKind.i64 x143] [] (setCells w138 (Addr.add (Addr.add (Addr.add A142 (2 :
  Nat)) (257 : Nat)) (1 : Nat)) (0 : Nat) [Value.slice a139 n140 n141])) w136) ∧ Nw (Obj.cells #[Value.int IntKind.i64 x130] (3 : Nat)) w128 fun n144 w145 => Ld w145
  (Addr.add (Addr.add (Addr.add A108 (2 : Nat)) (257 : Nat)) (1 : Nat)) fun v146 => opL v146 fun a147 n148 n149 => RunW Try.prog [n1] (Builtin.append_ #[(52 : Nat), (52 :
  Nat)] (52 : Nat) #[Value.slice a147 n148 n149, Value.slice (some (Addr.mk n144 (0 : Nat) none)) (1 : Nat) (1 : Nat)]) (fun v150 w151 => opL v150 fun a152 n153 n154 =>
  NN (some (Addr.mk n6 (0 : Nat) none)) fun A155 => ¬Addr.block A155 ∈ [n1] ∧ Wr w151 (Addr.add (Addr.add (Addr.add A155 (2 : Nat)) (257 : Nat)) (1 : Nat)) (1 : Nat) ∧ Bd
  (IntKind.wrap IntKind.i64 (x106 + (1 : Int))) fun x156 => J104 [Value.int IntKind.i64 x156] [] (setCells w151 (Addr.add (Addr.add (Addr.add A155 (2 : Nat)) (257 : Nat))
  (1 : Nat)) (0 : Nat) [Value.slice a152 n153 n154])) w145) (World.drew w105)) (NN (some (Addr.mk n6 (0 : Nat) none)) fun A157 => LdN w105 (Addr.add A157 (2 : Nat)) (261
  : Nat) fun l158 => Bd (List.toArray l158) fun cs159 => Array.size cs159 = (261 : Nat) ∧ CallW Try.prog [n1] (55 : Nat) #[Value.agg cs159] (fun v160 w161 => opB v160 fun
  b162 => Bd (!b162) fun b163 => If b163 (RunW Try.prog [n1] (Instr.build (57 : Nat) #[]) (fun v164 w165 => opBig v164 fun cs166 => Array.size cs166 = (261 : Nat) ∧ OkC
  (Array.toList cs166) (261 : Nat) (Up [n1] [n1] w165 fun w167 => Array.size cs166 = (261 : Nat) ∧ R (Value.tuple #[Value.agg cs166, Value.int IntKind.i64 (100 : Int)])
  w167)) w161) (NN (some (Addr.mk n6 (0 : Nat) none)) fun A168 => LdN w161 (Addr.add A168 (2 : Nat)) (261 : Nat) fun l169 => Bd (List.toArray l169) fun cs170 =>
  Array.size cs170 = (261 : Nat) ∧ OkC (Array.toList cs170) (261 : Nat) (Up [n1] [n1] w161 fun w171 => Array.size cs170 = (261 : Nat) ∧ R (Value.tuple #[Value.agg cs170,
  Value.int IntKind.i64 (0 : Int)]) w171))) w105)) [Value.int IntKind.i64 (0 : Int)] [] w46)) [Value.int IntKind.i64 (0 : Int)] [] (World.drew w9))) w7) w2
theorem f61_eq (p0a : Option Addr) (p0n : Nat) (p0c : Nat) (R : Value → World → Prop) (w : World) : fnW Try.prog [2] Try.f61 [Value.slice p0a p0n p0c] R w = f61_vc p0a
  p0n p0c R w := by kernel_rfl
theorem f61_in (p0a : Option Addr) (p0n : Nat) (p0c : Nat) (R : Value → World → Prop) (w : World) (h : f61_vc p0a p0n p0c R w) : Ct Try.prog 61 #[Value.slice p0a p0n p0c]
  w R := by
  refine Ct_of (rk := [2]) (fn := Try.f61) (args := [Value.slice p0a p0n p0c]) mixedT Try.func61 (by kernel_rfl) ?_
  rw [f61_eq]
  exact h
def f54_vc (R : Value → World → Prop) (w : World) : Prop := RunW Try.prog [] (Instr.build (25 : Nat) #[((1 : Nat), Value.int IntKind.i64 (1 : Int))]) (fun v1 w2 => opBig
  v1 fun cs3 => Array.size cs3 = (257 : Nat) ∧ Nw (Obj.cells #[Value.int IntKind.i64 (0 : Int)] (3 : Nat)) w2 fun n4 w5 => Nw (Obj.cells #[Value.int IntKind.i64 (0 :
  Int)] (3 : Nat)) w5 fun n6 w7 => Nw (Obj.cells #[Value.string (ByteArray.mk #[(97 : UInt8)])] (9 : Nat)) w7 fun n8 w9 => RunW Try.prog [] (Instr.build (57 : Nat) #[((0
  : Nat), Value.agg cs3), ((1 : Nat), Value.agg #[Value.int IntKind.i64 (1 : Int), Value.slice (some (Addr.mk n4 (0 : Nat) none)) (1 : Nat) (1 : Nat), Value.slice (some
  (Addr.mk n6 (0 : Nat) none)) (1 : Nat) (1 : Nat)]), ((2 : Nat), Value.slice (some (Addr.mk n8 (0 : Nat) none)) (1 : Nat) (1 : Nat))]) (fun v10 w11 => opBig v10 fun cs12
  => Array.size cs12 = (261 : Nat) ∧ Rg w11 fun n13 => OkC (Array.toList cs12) (261 : Nat) (Array.size cs12 = (261 : Nat) ∧ Up [n13] [n13] w11 fun w14 => CallW Try.prog
  [n13] (59 : Nat) #[Value.agg cs12] (fun v15 w16 => opTu v15 fun cs17 => opL (nthD (Array.toList cs17) (0 : Nat)) fun a18 n19 n20 => opI IntKind.i64 (nthD (Array.toList
  cs17) (1 : Nat)) fun x21 => SzIs (Array.size cs17) (2 : Nat) (Nw (Obj.cells #[Value.int IntKind.u8 (70 : Int), Value.int IntKind.u8 (84 : Int), Value.int IntKind.u8 (1
  : Int), Value.int IntKind.u8 (0 : Int), Value.int IntKind.u8 (0 : Int), Value.int IntKind.u8 (1 : Int), Value.int IntKind.u8 (1 : Int), Value.int IntKind.u8 (1 : Int),
  Value.int IntKind.u8 (97 : Int)] (5 : Nat)) w16 fun n22 w23 => RunW Try.prog [n13] (Builtin.append_ #[(51 : Nat), (3 : Nat)] (51 : Nat) #[Value.slice (some (Addr.mk n22
  (0 : Nat) none)) (9 : Nat) (9 : Nat), Value.int IntKind.i64 (256 : Int)]) (fun v24 w25 => opL v24 fun a26 n27 n28 => Nw (Obj.cells #[Value.int IntKind.u8 (1 : Int),
  Value.int IntKind.u8 (0 : Int), Value.int IntKind.u8 (1 : Int)] (5 : Nat)) w25 fun n29 w30 => RunW Try.prog [n13] (Builtin.append_ #[(51 : Nat), (51 : Nat)] (51 : Nat)
  #[Value.slice a26 n27 n28, Value.slice (some (Addr.mk n29 (0 : Nat) none)) (3 : Nat) (3 : Nat)]) (fun v31 w32 => opL v31 fun a33 n34 n35 => CallW Try.prog [n13] (61 :
  Nat) #[Value.slice a33 n34 n35] (fun v36 w37 => opTu v36 fun cs38 => opBig (nthD (Array.toList cs38) (0 : Nat)) fun cs39 => Array.size cs39 = (261 : Nat) ∧ opI
  IntKind.i64 (nthD (Array.toList cs38) (1 : Nat)) fun x40 => SzIs (Array.size cs38) (2 : Nat) (Array.size cs39 = (261 : Nat) ∧ Rg w37 fun n41 => OkC (Array.toList cs39)
  (261 : Nat) (Up [n41] [n41, n13] w37 fun w42 => RunW Try.prog [n41, n13] (Instr.sliceAt (51 : Nat) (Value.slice a33 n34 n35) none (some (Value.int IntKind.i64 (267 :
  Int))) none) (fun v43 w44 => opL v43 fun a45 n46 n47 => CallW Try.prog [n41, n13] (61 : Nat) #[Value.slice a45 n46 n47] (fun v48 w49 => opTu v48 fun cs50 => opBig (nthD
  (Array.toList cs50) (0 : Nat)) fun cs51 => Array.size cs51 = (261 : Nat) ∧ opI IntKind.i64 (nthD (Array.toList cs50) (1 : Nat)) fun x52 => SzIs (Array.size cs50) (2 :
  Nat) (Array.size cs51 = (261 : Nat) ∧ Rg w49 fun n53 => OkC (Array.toList cs51) (261 : Nat) (Bd (IntKind.wrap IntKind.i64 (x21 + x40)) fun x54 => Bd (x54 == (0 : Int))
  fun b55 => Bd (x52 == (100 : Int)) fun b56 => Bd (bif b55 then b56 else false) fun b57 => Up [n53] [n53, n41, n13] w49 fun w58 => Gd b57 ByteArray.empty (fun J59 =>
  RunW Try.prog [n53, n41, n13] (convert (51 : Nat) (9 : Nat) (Value.slice a18 n19 n20)) (fun v60 w61 => opStr v60 fun s62 => J59 s62 w61) w58) (fun s63 w64 => Gd b57
  ByteArray.empty (fun J65 => RunW Try.prog [n53, n41, n13] (convert (51 : Nat) (9 : Nat) (Value.slice a33 n34 n35)) (fun v66 w67 => opStr v66 fun s68 => J65 s68 w67)
  w64) (fun s69 w70 => Bd (ByteArray.toList s63 == ByteArray.toList s69) fun b71 => Bd (bif b57 then b71 else false) fun b72 => (b72 = true → Array.size cs12 = (261 :
  Nat)) ∧ (b72 = true → Array.size cs39 = (261 : Nat)) ∧ Gd b72 false (fun J75 => CallW Try.prog [n53, n41, n13] (63 : Nat) #[Value.agg cs12, Value.agg cs39] (fun v76 w77
  => opB v76 fun b78 => J75 b78 w77) w70) (fun b79 w80 => Bd (bif b72 then b79 else false) fun b81 => (b81 = true → Array.size cs12 = (261 : Nat)) ∧ Gd b81 (0 : Int) (fun
  J83 => CallW Try.prog [n53, n41, n13] (57 : Nat) #[Value.agg cs12, Value.int IntKind.i64 (0 : Int), Value.int IntKind.u8 (7 : Int)] (fun v84 w85 => opI IntKind.i64 v84
  fun x86 => J83 x86 w85) w80) (fun x87 w88 => Bd (x87 == (0 : Int)) fun b89 => Bd (bif b81 then b89 else false) fun b90 => (b90 = true → Array.size cs12 = (261 : Nat)) ∧
  Gd b90 (0 : Int) (fun J92 => CallW Try.prog [n53, n41, n13] (57 : Nat) #[Value.agg cs12, Value.int IntKind.i64 (1 : Int), Value.int IntKind.u8 (7 : Int)] (fun v93 w94
  => opI IntKind.i64 v93 fun x95 => J92 x95 w94) w88) (fun x96 w97 => Bd (x96 == (-1 : Int)) fun b98 => Bd (bif b90 then b98 else false) fun b99 => R (Value.bool b99)
  w97) w88) w80) w70) w64) w58))) w44) w42))) w32) w30) w23)) w14)) w9) w
theorem f54_eq (R : Value → World → Prop) (w : World) : fnW Try.prog [1, 5, 7] Try.f54 [] R w = f54_vc R w := by kernel_rfl
theorem f54_in (R : Value → World → Prop) (w : World) (h : f54_vc R w) : Ct Try.prog 54 #[] w R := by
  refine Ct_of (rk := [1, 5, 7]) (fn := Try.f54) (args := []) mixedT Try.func54 (by kernel_rfl) ?_
  rw [f54_eq]
  exact h
end Fk
