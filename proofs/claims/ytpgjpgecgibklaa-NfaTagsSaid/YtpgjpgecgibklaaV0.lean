/- Conditions of functions, as the generator works them out; each one is checked by the kernel. -/
import Derived.Test.YtpgjpgecgibklaaTT
set_option linter.unusedVariables false
set_option maxRecDepth 100000
set_option maxHeartbeats 4000000
namespace Fk
open Go Go.Proofs Go.RowKit
def f84_vc (p0_0 : Int) (p0_1 : Int) (p0_2 : Int) (p0_3 : Int) (p0_4 : Int) (p0_5a : Option Addr) (p0_5n : Nat) (p0_5c : Nat) (p1 : Int) (R : Value → World → Prop) (w :
  World) : Prop := Rg w fun n1 => Bd ↑p0_5n fun x2 => Up [] [n1] w fun w3 => LoopP (fun l4 l5 J6 w7 => opI IntKind.i64 (nthD l4 (0 : Nat)) fun x8 => opI IntKind.i64 (nthD
  l4 (1 : Nat)) fun x9 => opI IntKind.i64 (nthD l4 (2 : Nat)) fun x10 => Bd (decide (x10 < x2)) fun b11 => If b11 (Bd (decide (x9 > p1)) fun b12 => If b12 (Bd
  (IntKind.wrap IntKind.i64 (p1 + (1 : Int))) fun x13 => R (Value.int IntKind.i64 x13) w7) (IxOk x10 p0_5n p0_5a ∧ Ld w7 (Addr.add (adAt p0_5a x10 (6 : Nat)) (0 : Nat))
  fun v14 => Ld w7 (Addr.add (adAt p0_5a x10 (6 : Nat)) (1 : Nat)) fun v15 => Ld w7 (Addr.add (adAt p0_5a x10 (6 : Nat)) (2 : Nat)) fun v16 => Ld w7 (Addr.add (adAt p0_5a
  x10 (6 : Nat)) (3 : Nat)) fun v17 => Ld w7 (Addr.add (adAt p0_5a x10 (6 : Nat)) (4 : Nat)) fun v18 => Ld w7 (Addr.add (adAt p0_5a x10 (6 : Nat)) (5 : Nat)) fun v19 =>
  opI IntKind.u8 v14 fun x20 => opI IntKind.u64 v15 fun x21 => opI IntKind.u64 v16 fun x22 => opI IntKind.u64 v17 fun x23 => opI IntKind.u64 v18 fun x24 => opL v19 fun
  a25 n26 n27 => Bd (IntKind.wrap IntKind.i64 (p1 - x9)) fun x28 => CallW Try.prog [n1] (84 : Nat) #[Value.agg #[Value.int IntKind.u8 x20, Value.int IntKind.u64 x21,
  Value.int IntKind.u64 x22, Value.int IntKind.u64 x23, Value.int IntKind.u64 x24, Value.slice a25 n26 n27], Value.int IntKind.i64 x28] (fun v29 w30 => opI IntKind.i64
  v29 fun x31 => Bd (IntKind.wrap IntKind.i64 (x9 + x31)) fun x32 => Bd (IntKind.wrap IntKind.i64 (x10 + (1 : Int))) fun x33 => J6 [Value.int IntKind.i64 x8, Value.int
  IntKind.i64 x32, Value.int IntKind.i64 x33] [] w30) w7)) (R (Value.int IntKind.i64 x9) w7)) [Value.int IntKind.i64 (0 : Int), Value.int IntKind.i64 (1 : Int), Value.int
  IntKind.i64 (0 : Int)] [] w3
theorem f84_eq (p0_0 : Int) (p0_1 : Int) (p0_2 : Int) (p0_3 : Int) (p0_4 : Int) (p0_5a : Option Addr) (p0_5n : Nat) (p0_5c : Nat) (p1 : Int) (R : Value → World → Prop) (w
  : World) : fnW Try.prog [2] Try.f84 [Value.agg #[Value.int IntKind.u8 p0_0, Value.int IntKind.u64 p0_1, Value.int IntKind.u64 p0_2, Value.int IntKind.u64 p0_3,
  Value.int IntKind.u64 p0_4, Value.slice p0_5a p0_5n p0_5c], Value.int IntKind.i64 p1] R w = f84_vc p0_0 p0_1 p0_2 p0_3 p0_4 p0_5a p0_5n p0_5c p1 R w := by kernel_rfl
theorem f84_in (p0_0 : Int) (p0_1 : Int) (p0_2 : Int) (p0_3 : Int) (p0_4 : Int) (p0_5a : Option Addr) (p0_5n : Nat) (p0_5c : Nat) (p1 : Int) (R : Value → World → Prop) (w
  : World) (h : f84_vc p0_0 p0_1 p0_2 p0_3 p0_4 p0_5a p0_5n p0_5c p1 R w) : Ct Try.prog 84 #[Value.agg #[Value.int IntKind.u8 p0_0, Value.int IntKind.u64 p0_1, Value.int
  IntKind.u64 p0_2, Value.int IntKind.u64 p0_3, Value.int IntKind.u64 p0_4, Value.slice p0_5a p0_5n p0_5c], Value.int IntKind.i64 p1] w R := by
  refine Ct_of (rk := [2]) (fn := Try.f84) (args := [Value.agg #[Value.int IntKind.u8 p0_0, Value.int IntKind.u64 p0_1, Value.int IntKind.u64 p0_2, Value.int IntKind.u64 p0_3, Value.int IntKind.u64 p0_4, Value.slice p0_5a p0_5n p0_5c], Value.int IntKind.i64 p1]) mixedT Try.func84 (by kernel_rfl) ?_
  rw [f84_eq]
  exact h
def f38_vc (p0a : Option Addr) (p0n : Nat) (p0c : Nat) (R : Value → World → Prop) (w : World) : Prop := Bd ↑p0n fun x1 => LoopP (fun l2 l3 J4 w5 => opB (nthD l2 (0 :
  Nat)) fun b6 => opI IntKind.i64 (nthD l2 (1 : Nat)) fun x7 => Bd (decide (x7 < x1)) fun b8 => If b8 (IxOk x7 p0n p0a ∧ Ld w5 (Addr.add (adAt p0a x7 (6 : Nat)) (0 :
  Nat)) fun v9 => Ld w5 (Addr.add (adAt p0a x7 (6 : Nat)) (1 : Nat)) fun v10 => Ld w5 (Addr.add (adAt p0a x7 (6 : Nat)) (2 : Nat)) fun v11 => Ld w5 (Addr.add (adAt p0a x7
  (6 : Nat)) (3 : Nat)) fun v12 => Ld w5 (Addr.add (adAt p0a x7 (6 : Nat)) (4 : Nat)) fun v13 => Ld w5 (Addr.add (adAt p0a x7 (6 : Nat)) (5 : Nat)) fun v14 => opI
  IntKind.u8 v9 fun x15 => opI IntKind.u64 v10 fun x16 => opI IntKind.u64 v11 fun x17 => opI IntKind.u64 v12 fun x18 => opI IntKind.u64 v13 fun x19 => opL v14 fun a20 n21
  n22 => Rg w5 fun n23 => Bd (decide (x7 ≥ (6 : Int))) fun b24 => Up [n23] [n23] w5 fun w25 => Gd (!b24) (0 : Int) (fun J26 => CallW Try.prog [n23] (84 : Nat) #[Value.agg
  #[Value.int IntKind.u8 x15, Value.int IntKind.u64 x16, Value.int IntKind.u64 x17, Value.int IntKind.u64 x18, Value.int IntKind.u64 x19, Value.slice a20 n21 n22],
  Value.int IntKind.i64 (200 : Int)] (fun v27 w28 => opI IntKind.i64 v27 fun x29 => J26 x29 w28) w25) (fun x30 w31 => Bd (decide (x30 > (200 : Int))) fun b32 => Bd (bif
  b24 then true else b32) fun b33 => If b33 (R (Value.bool false) w31) (Bd (IntKind.wrap IntKind.i64 (x7 + (1 : Int))) fun x34 => J4 [Value.bool b6, Value.int IntKind.i64
  x34] [] w31)) w25) (R (Value.bool true) w5)) [Value.bool false, Value.int IntKind.i64 (0 : Int)] [] w
theorem f38_eq (p0a : Option Addr) (p0n : Nat) (p0c : Nat) (R : Value → World → Prop) (w : World) : fnW Try.prog [4] Try.f38 [Value.slice p0a p0n p0c] R w = f38_vc p0a
  p0n p0c R w := by kernel_rfl
theorem f38_in (p0a : Option Addr) (p0n : Nat) (p0c : Nat) (R : Value → World → Prop) (w : World) (h : f38_vc p0a p0n p0c R w) : Ct Try.prog 38 #[Value.slice p0a p0n p0c]
  w R := by
  refine Ct_of (rk := [4]) (fn := Try.f38) (args := [Value.slice p0a p0n p0c]) mixedT Try.func38 (by kernel_rfl) ?_
  rw [f38_eq]
  exact h
def f144_vc (p0_0 : Int) (p0_1 : Int) (p0_2 : Int) (p0_3 : Int) (p0_4 : Int) (p0_5a : Option Addr) (p0_5n : Nat) (p0_5c : Nat) (R : Value → World → Prop) (w : World) :
  Prop := Rg w fun n1 => Jn (fun l2 l3 w4 => opI IntKind.i64 (nthD l2 (0 : Nat)) fun x5 => opI IntKind.i64 (nthD l2 (1 : Nat)) fun x6 => opB (nthD l2 (2 : Nat)) fun b7 =>
  opB (nthD l2 (3 : Nat)) fun b8 => Bd ↑p0_5n fun x9 => Bd (decide (x9 < x5)) fun b10 => Bd ↑p0_5n fun x11 => Bd (decide (x11 > x6)) fun b12 => Bd (bif b10 then true else
  b12) fun b13 => Bd (p0_0 == (1 : Int)) fun b14 => Gd (!b13) false (fun J15 => RunW Try.prog [n1] (eqS BinOp.eql (28 : Nat) (Operand.tmp (37 : Nat)) (Operand.tmp (38 :
  Nat)) (Value.agg #[Value.int IntKind.u64 p0_1, Value.int IntKind.u64 p0_2, Value.int IntKind.u64 p0_3, Value.int IntKind.u64 p0_4]) (Value.agg #[Value.int IntKind.u64
  (0 : Int), Value.int IntKind.u64 (0 : Int), Value.int IntKind.u64 (0 : Int), Value.int IntKind.u64 (0 : Int)])) (fun v16 w17 => opB v16 fun b18 => J15 b18 w17)
  (World.drew w4)) (fun b19 w20 => Bd (b14 == b19) fun b21 => Bd (bif b13 then true else b21) fun b22 => If b22 (R (Value.bool false) w20) (Bd ↑p0_5n fun x23 => LoopP
  (fun l24 l25 J26 w27 => opB (nthD l24 (0 : Nat)) fun b28 => opI IntKind.i64 (nthD l24 (1 : Nat)) fun x29 => Bd (decide (x29 < x23)) fun b30 => If b30 (IxOk x29 p0_5n
  p0_5a ∧ Ld w27 (Addr.add (adAt p0_5a x29 (6 : Nat)) (0 : Nat)) fun v31 => Ld w27 (Addr.add (adAt p0_5a x29 (6 : Nat)) (1 : Nat)) fun v32 => Ld w27 (Addr.add (adAt p0_5a
  x29 (6 : Nat)) (2 : Nat)) fun v33 => Ld w27 (Addr.add (adAt p0_5a x29 (6 : Nat)) (3 : Nat)) fun v34 => Ld w27 (Addr.add (adAt p0_5a x29 (6 : Nat)) (4 : Nat)) fun v35 =>
  Ld w27 (Addr.add (adAt p0_5a x29 (6 : Nat)) (5 : Nat)) fun v36 => opI IntKind.u8 v31 fun x37 => opI IntKind.u64 v32 fun x38 => opI IntKind.u64 v33 fun x39 => opI
  IntKind.u64 v34 fun x40 => opI IntKind.u64 v35 fun x41 => opL v36 fun a42 n43 n44 => Rg w27 fun n45 => Up [n45] [n45, n1] w27 fun w46 => CallW Try.prog [n45, n1] (144 :
  Nat) #[Value.agg #[Value.int IntKind.u8 x37, Value.int IntKind.u64 x38, Value.int IntKind.u64 x39, Value.int IntKind.u64 x40, Value.int IntKind.u64 x41, Value.slice a42
  n43 n44]] (fun v47 w48 => opB v47 fun b49 => Bd (!b49) fun b50 => If b50 (R (Value.bool false) w48) (Bd (IntKind.wrap IntKind.i64 (x29 + (1 : Int))) fun x51 => J26
  [Value.bool b28, Value.int IntKind.i64 x51] [] w48)) w46) (R (Value.bool true) w27)) [Value.bool b7, Value.int IntKind.i64 (0 : Int)] [] w20)) (World.drew w4)) fun J52
  => Jn (fun l53 l54 w55 => opB (nthD l53 (0 : Nat)) fun b56 => If b56 (Bd ↑p0_5n fun x57 => J52 [Value.int IntKind.i64 (2 : Int), Value.int IntKind.i64 x57, Value.bool
  false, Value.bool b56] [] (World.drew w55)) (Bd (p0_0 == (4 : Int)) fun b58 => If b58 (J52 [Value.int IntKind.i64 (1 : Int), Value.int IntKind.i64 (1 : Int), Value.bool
  false, Value.bool b56] [] w55) (Jn (fun l59 l60 w61 => opB (nthD l59 (0 : Nat)) fun b62 => If b62 (J52 [Value.int IntKind.i64 (0 : Int), Value.int IntKind.i64 (0 :
  Int), Value.bool false, Value.bool b56] [] w61) (R (Value.bool false) w61)) fun J63 => Bd (p0_0 == (0 : Int)) fun b64 => If b64 (J63 [Value.bool b64] [] w55) (Bd (p0_0
  == (1 : Int)) fun b65 => J63 [Value.bool b65] [] w55)))) fun J66 => Bd (p0_0 == (2 : Int)) fun b67 => If b67 (Up [] [n1] w fun w68 => J66 [Value.bool b67] [] w68) (Bd
  (p0_0 == (3 : Int)) fun b69 => Up [] [n1] w fun w70 => J66 [Value.bool b69] [] w70)
theorem f144_eq (p0_0 : Int) (p0_1 : Int) (p0_2 : Int) (p0_3 : Int) (p0_4 : Int) (p0_5a : Option Addr) (p0_5n : Nat) (p0_5c : Nat) (R : Value → World → Prop) (w : World)
  : fnW Try.prog [1, 6] Try.f144 [Value.agg #[Value.int IntKind.u8 p0_0, Value.int IntKind.u64 p0_1, Value.int IntKind.u64 p0_2, Value.int IntKind.u64 p0_3, Value.int
  IntKind.u64 p0_4, Value.slice p0_5a p0_5n p0_5c]] R w = f144_vc p0_0 p0_1 p0_2 p0_3 p0_4 p0_5a p0_5n p0_5c R w := by kernel_rfl
theorem f144_in (p0_0 : Int) (p0_1 : Int) (p0_2 : Int) (p0_3 : Int) (p0_4 : Int) (p0_5a : Option Addr) (p0_5n : Nat) (p0_5c : Nat) (R : Value → World → Prop) (w : World)
  (h : f144_vc p0_0 p0_1 p0_2 p0_3 p0_4 p0_5a p0_5n p0_5c R w) : Ct Try.prog 144 #[Value.agg #[Value.int IntKind.u8 p0_0, Value.int IntKind.u64 p0_1, Value.int
  IntKind.u64 p0_2, Value.int IntKind.u64 p0_3, Value.int IntKind.u64 p0_4, Value.slice p0_5a p0_5n p0_5c]] w R := by
  refine Ct_of (rk := [1, 6]) (fn := Try.f144) (args := [Value.agg #[Value.int IntKind.u8 p0_0, Value.int IntKind.u64 p0_1, Value.int IntKind.u64 p0_2, Value.int IntKind.u64 p0_3, Value.int IntKind.u64 p0_4, Value.slice p0_5a p0_5n p0_5c]]) mixedT Try.func144 (by kernel_rfl) ?_
  rw [f144_eq]
  exact h
def f147_vc (p0_0 : Int) (p0_1 : Int) (p0_2 : Int) (p0_3 : Int) (p0_4 : Int) (p0_5a : Option Addr) (p0_5n : Nat) (p0_5c : Nat) (R : Value → World → Prop) (w : World) :
  Prop := Rg w fun n1 => Rg w fun n2 => Bd ↑p0_5n fun x3 => Jn (fun l4 l5 w6 => opB (nthD l4 (0 : Nat)) fun b7 => opB (nthD l4 (1 : Nat)) fun b8 => LoopP (fun l9 l10 J11
  w12 => opB (nthD l9 (0 : Nat)) fun b13 => opI IntKind.i64 (nthD l9 (1 : Nat)) fun x14 => Bd (decide (x14 < x3)) fun b15 => Bd (bif b15 then b13 else false) fun b16 =>
  If b16 (IxOk x14 p0_5n p0_5a ∧ Ld w12 (Addr.add (adAt p0_5a x14 (6 : Nat)) (0 : Nat)) fun v17 => Ld w12 (Addr.add (adAt p0_5a x14 (6 : Nat)) (1 : Nat)) fun v18 => Ld
  w12 (Addr.add (adAt p0_5a x14 (6 : Nat)) (2 : Nat)) fun v19 => Ld w12 (Addr.add (adAt p0_5a x14 (6 : Nat)) (3 : Nat)) fun v20 => Ld w12 (Addr.add (adAt p0_5a x14 (6 :
  Nat)) (4 : Nat)) fun v21 => Ld w12 (Addr.add (adAt p0_5a x14 (6 : Nat)) (5 : Nat)) fun v22 => opI IntKind.u8 v17 fun x23 => opI IntKind.u64 v18 fun x24 => opI
  IntKind.u64 v19 fun x25 => opI IntKind.u64 v20 fun x26 => opI IntKind.u64 v21 fun x27 => opL v22 fun a28 n29 n30 => CallW Try.prog [n2, n1] (147 : Nat) #[Value.agg
  #[Value.int IntKind.u8 x23, Value.int IntKind.u64 x24, Value.int IntKind.u64 x25, Value.int IntKind.u64 x26, Value.int IntKind.u64 x27, Value.slice a28 n29 n30]] (fun
  v31 w32 => opB v31 fun b33 => Bd (IntKind.wrap IntKind.i64 (x14 + (1 : Int))) fun x34 => J11 [Value.bool b33, Value.int IntKind.i64 x34] [] w32) w12) (R (Value.bool
  b13) w12)) [Value.bool b7, Value.int IntKind.i64 (0 : Int)] [] w6) fun J35 => Bd (p0_0 == (0 : Int)) fun b36 => If b36 (Bd (x3 == (0 : Int)) fun b37 => Up [] [n2, n1] w
  fun w38 => Gd b37 false (fun J39 => RunW Try.prog [n2, n1] (eqS BinOp.eql (28 : Nat) (Operand.tmp (18 : Nat)) (Operand.tmp (19 : Nat)) (Value.agg #[Value.int
  IntKind.u64 p0_1, Value.int IntKind.u64 p0_2, Value.int IntKind.u64 p0_3, Value.int IntKind.u64 p0_4]) (Value.agg #[Value.int IntKind.u64 (0 : Int), Value.int
  IntKind.u64 (0 : Int), Value.int IntKind.u64 (0 : Int), Value.int IntKind.u64 (0 : Int)])) (fun v40 w41 => opB v40 fun b42 => J39 b42 w41) w38) (fun b43 w44 => Bd (bif
  b37 then b43 else false) fun b45 => J35 [Value.bool b45, Value.bool b36] [] w44) w38) (Bd (p0_0 == (1 : Int)) fun b46 => If b46 (Bd (x3 == (0 : Int)) fun b47 => Up []
  [n2, n1] w fun w48 => Gd b47 false (fun J49 => RunW Try.prog [n2, n1] (eqS BinOp.neq (28 : Nat) (Operand.tmp (28 : Nat)) (Operand.tmp (29 : Nat)) (Value.agg #[Value.int
  IntKind.u64 p0_1, Value.int IntKind.u64 p0_2, Value.int IntKind.u64 p0_3, Value.int IntKind.u64 p0_4]) (Value.agg #[Value.int IntKind.u64 (0 : Int), Value.int
  IntKind.u64 (0 : Int), Value.int IntKind.u64 (0 : Int), Value.int IntKind.u64 (0 : Int)])) (fun v50 w51 => opB v50 fun b52 => J49 b52 w51) w48) (fun b53 w54 => Bd (bif
  b47 then b53 else false) fun b55 => J35 [Value.bool b55, Value.bool b36] [] w54) w48) (Jn (fun l56 l57 w58 => opB (nthD l56 (0 : Nat)) fun b59 => If b59 (Bd (decide (x3
  ≥ (2 : Int))) fun b60 => Gd b60 false (fun J61 => RunW Try.prog [n2, n1] (eqS BinOp.eql (28 : Nat) (Operand.tmp (39 : Nat)) (Operand.tmp (40 : Nat)) (Value.agg
  #[Value.int IntKind.u64 p0_1, Value.int IntKind.u64 p0_2, Value.int IntKind.u64 p0_3, Value.int IntKind.u64 p0_4]) (Value.agg #[Value.int IntKind.u64 (0 : Int),
  Value.int IntKind.u64 (0 : Int), Value.int IntKind.u64 (0 : Int), Value.int IntKind.u64 (0 : Int)])) (fun v62 w63 => opB v62 fun b64 => J61 b64 w63) w58) (fun b65 w66
  => Bd (bif b60 then b65 else false) fun b67 => J35 [Value.bool b67, Value.bool b36] [] w66) w58) (Bd (p0_0 == (4 : Int)) fun b68 => If b68 (Bd (x3 == (1 : Int)) fun b69
  => Gd b69 false (fun J70 => RunW Try.prog [n2, n1] (eqS BinOp.eql (28 : Nat) (Operand.tmp (49 : Nat)) (Operand.tmp (50 : Nat)) (Value.agg #[Value.int IntKind.u64 p0_1,
  Value.int IntKind.u64 p0_2, Value.int IntKind.u64 p0_3, Value.int IntKind.u64 p0_4]) (Value.agg #[Value.int IntKind.u64 (0 : Int), Value.int IntKind.u64 (0 : Int),
  Value.int IntKind.u64 (0 : Int), Value.int IntKind.u64 (0 : Int)])) (fun v71 w72 => opB v71 fun b73 => J70 b73 w72) w58) (fun b74 w75 => Bd (bif b69 then b74 else
  false) fun b76 => J35 [Value.bool b76, Value.bool b36] [] w75) w58) (J35 [Value.bool false, Value.bool b36] [] w58))) fun J77 => Bd (p0_0 == (2 : Int)) fun b78 => If
  b78 (Up [] [n2, n1] w fun w79 => J77 [Value.bool b78] [] w79) (Bd (p0_0 == (3 : Int)) fun b80 => Up [] [n2, n1] w fun w81 => J77 [Value.bool b80] [] w81)))
theorem f147_eq (p0_0 : Int) (p0_1 : Int) (p0_2 : Int) (p0_3 : Int) (p0_4 : Int) (p0_5a : Option Addr) (p0_5n : Nat) (p0_5c : Nat) (R : Value → World → Prop) (w : World)
  : fnW Try.prog [1, 3] Try.f147 [Value.agg #[Value.int IntKind.u8 p0_0, Value.int IntKind.u64 p0_1, Value.int IntKind.u64 p0_2, Value.int IntKind.u64 p0_3, Value.int
  IntKind.u64 p0_4, Value.slice p0_5a p0_5n p0_5c]] R w = f147_vc p0_0 p0_1 p0_2 p0_3 p0_4 p0_5a p0_5n p0_5c R w := by kernel_rfl
theorem f147_in (p0_0 : Int) (p0_1 : Int) (p0_2 : Int) (p0_3 : Int) (p0_4 : Int) (p0_5a : Option Addr) (p0_5n : Nat) (p0_5c : Nat) (R : Value → World → Prop) (w : World)
  (h : f147_vc p0_0 p0_1 p0_2 p0_3 p0_4 p0_5a p0_5n p0_5c R w) : Ct Try.prog 147 #[Value.agg #[Value.int IntKind.u8 p0_0, Value.int IntKind.u64 p0_1, Value.int
  IntKind.u64 p0_2, Value.int IntKind.u64 p0_3, Value.int IntKind.u64 p0_4, Value.slice p0_5a p0_5n p0_5c]] w R := by
  refine Ct_of (rk := [1, 3]) (fn := Try.f147) (args := [Value.agg #[Value.int IntKind.u8 p0_0, Value.int IntKind.u64 p0_1, Value.int IntKind.u64 p0_2, Value.int IntKind.u64 p0_3, Value.int IntKind.u64 p0_4, Value.slice p0_5a p0_5n p0_5c]]) mixedT Try.func147 (by kernel_rfl) ?_
  rw [f147_eq]
  exact h
def f40_vc (p0a : Option Addr) (p0n : Nat) (p0c : Nat) (R : Value → World → Prop) (w : World) : Prop := Rg w fun n1 => Bd ↑p0n fun x2 => Up [] [n1] w fun w3 => LoopP (fun
  l4 l5 J6 w7 => opI IntKind.i64 (nthD l4 (0 : Nat)) fun x8 => opI IntKind.i64 (nthD l4 (1 : Nat)) fun x9 => opBig (nthD l5 (0 : Nat)) fun cs10 => Bd (decide (x9 < x2))
  fun b11 => If b11 (IxOk x9 p0n p0a ∧ Ld w7 (Addr.add (adAt p0a x9 (6 : Nat)) (0 : Nat)) fun v12 => Ld w7 (Addr.add (adAt p0a x9 (6 : Nat)) (1 : Nat)) fun v13 => Ld w7
  (Addr.add (adAt p0a x9 (6 : Nat)) (2 : Nat)) fun v14 => Ld w7 (Addr.add (adAt p0a x9 (6 : Nat)) (3 : Nat)) fun v15 => Ld w7 (Addr.add (adAt p0a x9 (6 : Nat)) (4 : Nat))
  fun v16 => Ld w7 (Addr.add (adAt p0a x9 (6 : Nat)) (5 : Nat)) fun v17 => opI IntKind.u8 v12 fun x18 => opI IntKind.u64 v13 fun x19 => opI IntKind.u64 v14 fun x20 => opI
  IntKind.u64 v15 fun x21 => opI IntKind.u64 v16 fun x22 => opL v17 fun a23 n24 n25 => Rg w7 fun n26 => Up [n26] [n26, n1] w7 fun w27 => CallW Try.prog [n26, n1] (144 :
  Nat) #[Value.agg #[Value.int IntKind.u8 x18, Value.int IntKind.u64 x19, Value.int IntKind.u64 x20, Value.int IntKind.u64 x21, Value.int IntKind.u64 x22, Value.slice a23
  n24 n25]] (fun v28 w29 => opB v28 fun b30 => Bd (!b30) fun b31 => If b31 (RunW Try.prog [n26, n1] (Instr.build (25 : Nat) #[]) (fun v32 w33 => opBig v32 fun cs34 =>
  Array.size cs34 = (257 : Nat) ∧ OkC (Array.toList cs34) (257 : Nat) (SzIs (Array.size cs10) (257 : Nat) (Up [n1] [n26, n1] w33 fun w35 => Array.size cs34 = (257 : Nat)
  ∧ R (Value.tuple #[Value.agg cs34, Value.int IntKind.i64 (2 : Int)]) w35))) w29) (Bd (IntKind.wrap IntKind.i64 (x9 + (1 : Int))) fun x36 => J6 [Value.int IntKind.i64
  x8, Value.int IntKind.i64 x36] [Value.agg cs10] w29)) w27) (RunW Try.prog [n1] (Instr.build (25 : Nat) #[((1 : Nat), Value.int IntKind.i64 (1 : Int))]) (fun v37 w38 =>
  opBig v37 fun cs39 => Array.size cs39 = (257 : Nat) ∧ Rg w38 fun n40 => OkC (Array.toList cs39) (257 : Nat) (Up [n40] [n40, n1] w38 fun w41 => CallW Try.prog [n40, n1]
  (145 : Nat) #[Value.slice p0a p0n p0c] (fun v42 w43 => opL v42 fun a44 n45 n46 => Bd ↑n45 fun x47 => LoopP (fun l48 l49 J50 w51 => opI IntKind.i64 (nthD l48 (0 : Nat))
  fun x52 => opBig (nthD l49 (0 : Nat)) fun cs53 => Bd (decide (x52 < x47)) fun b54 => If b54 (IxOk x52 n45 a44 ∧ Ld w51 (Addr.add (adAt a44 x52 (4 : Nat)) (0 : Nat)) fun
  v55 => Ld w51 (Addr.add (adAt a44 x52 (4 : Nat)) (1 : Nat)) fun v56 => Ld w51 (Addr.add (adAt a44 x52 (4 : Nat)) (2 : Nat)) fun v57 => Ld w51 (Addr.add (adAt a44 x52 (4
  : Nat)) (3 : Nat)) fun v58 => opI IntKind.u64 v55 fun x59 => opI IntKind.u64 v56 fun x60 => opI IntKind.u64 v57 fun x61 => opI IntKind.u64 v58 fun x62 => Rg w51 fun n63
  => Array.size cs53 = (257 : Nat) ∧ Up [n63] [n63, n40, n1] w51 fun w64 => CallW Try.prog [n63, n40, n1] (146 : Nat) #[Value.agg cs53, Value.agg #[Value.int IntKind.u64
  x59, Value.int IntKind.u64 x60, Value.int IntKind.u64 x61, Value.int IntKind.u64 x62]] (fun v65 w66 => opBig v65 fun cs67 => Array.size cs67 = (257 : Nat) ∧ OkC
  (Array.toList cs67) (257 : Nat) (SzIs (Array.size cs53) (257 : Nat) (Bd (IntKind.wrap IntKind.i64 (x52 + (1 : Int))) fun x68 => Up [n40] [n63, n40, n1] w66 fun w69 =>
  J50 [Value.int IntKind.i64 x68] [Value.agg cs67] w69))) w64) (Array.size cs53 = (257 : Nat) ∧ OkC (Array.toList cs53) (257 : Nat) (SzIs (Array.size cs10) (257 : Nat)
  (Up [n1] [n40, n1] w51 fun w70 => Array.size cs53 = (257 : Nat) ∧ R (Value.tuple #[Value.agg cs53, Value.int IntKind.i64 (0 : Int)]) w70)))) [Value.int IntKind.i64 (0 :
  Int)] [Value.agg cs39] w43) w41)) w7)) [Value.int IntKind.i64 (0 : Int), Value.int IntKind.i64 (0 : Int)] [Value.agg (List.toArray (zeroL Try.prog (25 : Nat)))] w3
theorem f40_eq (p0a : Option Addr) (p0n : Nat) (p0c : Nat) (R : Value → World → Prop) (w : World) : fnW Try.prog [2, 5, 6, 8] Try.f40 [Value.slice p0a p0n p0c] R w =
  f40_vc p0a p0n p0c R w := by kernel_rfl
theorem f40_in (p0a : Option Addr) (p0n : Nat) (p0c : Nat) (R : Value → World → Prop) (w : World) (h : f40_vc p0a p0n p0c R w) : Ct Try.prog 40 #[Value.slice p0a p0n p0c]
  w R := by
  refine Ct_of (rk := [2, 5, 6, 8]) (fn := Try.f40) (args := [Value.slice p0a p0n p0c]) mixedT Try.func40 (by kernel_rfl) ?_
  rw [f40_eq]
  exact h
def f145_vc (p0a : Option Addr) (p0n : Nat) (p0c : Nat) (R : Value → World → Prop) (w : World) : Prop := Bd ↑p0n fun x1 => LoopP (fun l2 l3 J4 w5 => opL (nthD l2 (0 :
  Nat)) fun a6 n7 n8 => opI IntKind.i64 (nthD l2 (1 : Nat)) fun x9 => Bd (decide (x9 < x1)) fun b10 => If b10 (IxOk x9 p0n p0a ∧ Ld w5 (Addr.add (adAt p0a x9 (6 : Nat))
  (0 : Nat)) fun v11 => Ld w5 (Addr.add (adAt p0a x9 (6 : Nat)) (1 : Nat)) fun v12 => Ld w5 (Addr.add (adAt p0a x9 (6 : Nat)) (2 : Nat)) fun v13 => Ld w5 (Addr.add (adAt
  p0a x9 (6 : Nat)) (3 : Nat)) fun v14 => Ld w5 (Addr.add (adAt p0a x9 (6 : Nat)) (4 : Nat)) fun v15 => Ld w5 (Addr.add (adAt p0a x9 (6 : Nat)) (5 : Nat)) fun v16 => opI
  IntKind.u8 v11 fun x17 => opI IntKind.u64 v12 fun x18 => opI IntKind.u64 v13 fun x19 => opI IntKind.u64 v14 fun x20 => opI IntKind.u64 v15 fun x21 => opL v16 fun a22
  n23 n24 => Rg w5 fun n25 => Jn (fun l26 l27 w28 => opL (nthD l26 (0 : Nat)) fun a29 n30 n31 => CallW Try.prog [n25] (145 : Nat) #[Value.slice a22 n23 n24] (fun v32 w33
  => opL v32 fun a34 n35 n36 => RunW Try.prog [n25] (Builtin.append_ #[(43 : Nat), (43 : Nat)] (43 : Nat) #[Value.slice a29 n30 n31, Value.slice a34 n35 n36]) (fun v37
  w38 => opL v37 fun a39 n40 n41 => Bd (IntKind.wrap IntKind.i64 (x9 + (1 : Int))) fun x42 => J4 [Value.slice a39 n40 n41, Value.int IntKind.i64 x42] [] w38) w33) w28)
  fun J43 => Bd (x17 == (1 : Int)) fun b44 => If b44 (Up [n25] [n25] w5 fun w45 => Nw (Obj.cells #[Value.int IntKind.u64 x18, Value.int IntKind.u64 x19, Value.int
  IntKind.u64 x20, Value.int IntKind.u64 x21] (28 : Nat)) w45 fun n46 w47 => RunW Try.prog [n25] (Builtin.append_ #[(43 : Nat), (43 : Nat)] (43 : Nat) #[Value.slice a6 n7
  n8, Value.slice (some { block := n46, off := (0 : Nat) }) (1 : Nat) (1 : Nat)]) (fun v48 w49 => opL v48 fun a50 n51 n52 => J43 [Value.slice a50 n51 n52] [] w49) w47)
  (Up [n25] [n25] w5 fun w53 => J43 [Value.slice a6 n7 n8] [] w53)) (R (Value.slice a6 n7 n8) w5)) [Value.slice none (0 : Nat) (0 : Nat), Value.int IntKind.i64 (0 : Int)]
  [] w
theorem f145_eq (p0a : Option Addr) (p0n : Nat) (p0c : Nat) (R : Value → World → Prop) (w : World) : fnW Try.prog [5] Try.f145 [Value.slice p0a p0n p0c] R w = f145_vc p0a
  p0n p0c R w := by kernel_rfl
theorem f145_in (p0a : Option Addr) (p0n : Nat) (p0c : Nat) (R : Value → World → Prop) (w : World) (h : f145_vc p0a p0n p0c R w) : Ct Try.prog 145 #[Value.slice p0a p0n
  p0c] w R := by
  refine Ct_of (rk := [5]) (fn := Try.f145) (args := [Value.slice p0a p0n p0c]) mixedT Try.func145 (by kernel_rfl) ?_
  rw [f145_eq]
  exact h
def f146_vc (p0 : Array Value) (p1_0 : Int) (p1_1 : Int) (p1_2 : Int) (p1_3 : Int) (R : Value → World → Prop) (w : World) : Prop := Rg w fun n1 => Rg w fun n2 => Rg w fun
  n3 => Up [] [n3, n2, n1] w fun w4 => Nw (Obj.map #[] (0 : Nat)) w4 fun n5 w6 => LoopP (fun l7 l8 J9 w10 => opI IntKind.i64 (nthD l7 (0 : Nat)) fun x11 => opBig (nthD l8
  (0 : Nat)) fun cs12 => Bd (decide (x11 < (256 : Int))) fun b13 => If b13 (((0 : Int) ≤ x11 ∧ x11 < ↑(256 : Nat)) ∧ (BdO (nthV (Array.toList cs12) ((0 : Nat) + Int.toNat
  x11 * (1 : Nat))) fun v14 => opI IntKind.u8 v14 fun x15 => (CallW Try.prog [n3, n2, n1] (214 : Nat) #[Value.agg #[Value.int IntKind.u64 p1_0, Value.int IntKind.u64
  p1_1, Value.int IntKind.u64 p1_2, Value.int IntKind.u64 p1_3], Value.int IntKind.i64 x11] (fun v16 w17 => opB v16 fun b18 => Rg w17 fun n19 => Up [] [n19, n3, n2, n1]
  w17 fun w20 => Up [n19] [n19, n3, n2, n1] w20 fun w21 => RunW Try.prog [n19, n3, n2, n1] (Instr.lookup (274 : Nat) (Value.map (some n5)) (Value.agg #[Value.int
  IntKind.u8 x15, Value.bool b18]) true) (fun v22 w23 => opTu v22 fun cs24 => opI IntKind.u8 (nthD (Array.toList cs24) (0 : Nat)) fun x25 => opB (nthD (Array.toList cs24)
  (1 : Nat)) fun b26 => SzIs (Array.size cs24) (2 : Nat) (Jn (fun l27 l28 w29 => opI IntKind.u8 (nthD l27 (0 : Nat)) fun x30 => ((0 : Int) ≤ x11 ∧ x11 < ↑(256 : Nat)) ∧
  LeC ((0 : Nat) + Int.toNat x11 * (1 : Nat) + (1 : Nat)) (Array.size cs12) (Bd (IntKind.wrap IntKind.i64 (x11 + (1 : Int))) fun x31 => Up [n1] [n19, n3, n2, n1] w29 fun
  w32 => J9 [Value.int IntKind.i64 x31] [Value.agg (List.toArray (wrL (Array.toList cs12) ((0 : Nat) + Int.toNat x11 * (1 : Nat)) [Value.int IntKind.u8 x30]))] w32)) fun
  J33 => Bd (!b26) fun b34 => If b34 (RunW Try.prog [n19, n3, n2, n1] (Builtin.len_ #[(274 : Nat)] (3 : Nat) #[Value.map (some n5)]) (fun v35 w36 => opI IntKind.i64 v35
  fun x37 => Bd (IntKind.wrap IntKind.u8 x37) fun x38 => RunU Try.prog [n19, n3, n2, n1] (Instr.mapUpdate (274 : Nat) (Value.map (some n5)) (Value.agg #[Value.int
  IntKind.u8 x15, Value.bool b18]) (Value.int IntKind.u8 x38)) (fun w39 => J33 [Value.int IntKind.u8 x38] [] w39) w36) w23) (J33 [Value.int IntKind.u8 x25] [] w23))) w21)
  (World.drew w10) ∧ Rg (World.drew w10) fun n40 => Up [] [n40, n3, n2, n1] (World.drew w10) fun w41 => CallW Try.prog [n40, n3, n2, n1] (214 : Nat) #[Value.agg
  #[Value.int IntKind.u64 p1_0, Value.int IntKind.u64 p1_1, Value.int IntKind.u64 p1_2, Value.int IntKind.u64 p1_3], Value.int IntKind.i64 x11] (fun v42 w43 => opB v42
  fun b44 => Up [n40] [n40, n3, n2, n1] w43 fun w45 => RunW Try.prog [n40, n3, n2, n1] (Instr.lookup (274 : Nat) (Value.map (some n5)) (Value.agg #[Value.int IntKind.u8
  x15, Value.bool b44]) true) (fun v46 w47 => opTu v46 fun cs48 => opI IntKind.u8 (nthD (Array.toList cs48) (0 : Nat)) fun x49 => opB (nthD (Array.toList cs48) (1 : Nat))
  fun b50 => SzIs (Array.size cs48) (2 : Nat) (Jn (fun l51 l52 w53 => opI IntKind.u8 (nthD l51 (0 : Nat)) fun x54 => ((0 : Int) ≤ x11 ∧ x11 < ↑(256 : Nat)) ∧ LeC ((0 :
  Nat) + Int.toNat x11 * (1 : Nat) + (1 : Nat)) (Array.size cs12) (Bd (IntKind.wrap IntKind.i64 (x11 + (1 : Int))) fun x55 => Up [n1] [n40, n3, n2, n1] w53 fun w56 => J9
  [Value.int IntKind.i64 x55] [Value.agg (List.toArray (wrL (Array.toList cs12) ((0 : Nat) + Int.toNat x11 * (1 : Nat)) [Value.int IntKind.u8 x54]))] w56)) fun J57 => Bd
  (!b50) fun b58 => If b58 (RunW Try.prog [n40, n3, n2, n1] (Builtin.len_ #[(274 : Nat)] (3 : Nat) #[Value.map (some n5)]) (fun v59 w60 => opI IntKind.i64 v59 fun x61 =>
  Bd (IntKind.wrap IntKind.u8 x61) fun x62 => RunU Try.prog [n40, n3, n2, n1] (Instr.mapUpdate (274 : Nat) (Value.map (some n5)) (Value.agg #[Value.int IntKind.u8 x15,
  Value.bool b44]) (Value.int IntKind.u8 x62)) (fun w63 => J57 [Value.int IntKind.u8 x62] [] w63) w60) w47) (J57 [Value.int IntKind.u8 x49] [] w47))) w45) w41) ∧ Rg
  (World.drew w10) fun n64 => Up [] [n64, n3, n2, n1] (World.drew w10) fun w65 => CallW Try.prog [n64, n3, n2, n1] (214 : Nat) #[Value.agg #[Value.int IntKind.u64 p1_0,
  Value.int IntKind.u64 p1_1, Value.int IntKind.u64 p1_2, Value.int IntKind.u64 p1_3], Value.int IntKind.i64 x11] (fun v66 w67 => opB v66 fun b68 => Up [n64] [n64, n3,
  n2, n1] w67 fun w69 => RunW Try.prog [n64, n3, n2, n1] (Instr.lookup (274 : Nat) (Value.map (some n5)) (Value.agg #[Value.int IntKind.u8 x15, Value.bool b68]) true)
  (fun v70 w71 => opTu v70 fun cs72 => opI IntKind.u8 (nthD (Array.toList cs72) (0 : Nat)) fun x73 => opB (nthD (Array.toList cs72) (1 : Nat)) fun b74 => SzIs (Array.size
  cs72) (2 : Nat) (Jn (fun l75 l76 w77 => opI IntKind.u8 (nthD l75 (0 : Nat)) fun x78 => ((0 : Int) ≤ x11 ∧ x11 < ↑(256 : Nat)) ∧ LeC ((0 : Nat) + Int.toNat x11 * (1 :
  Nat) + (1 : Nat)) (Array.size cs12) (Bd (IntKind.wrap IntKind.i64 (x11 + (1 : Int))) fun x79 => Up [n1] [n64, n3, n2, n1] w77 fun w80 => J9 [Value.int IntKind.i64 x79]
  [Value.agg (List.toArray (wrL (Array.toList cs12) ((0 : Nat) + Int.toNat x11 * (1 : Nat)) [Value.int IntKind.u8 x78]))] w80)) fun J81 => Bd (!b74) fun b82 => If b82
  (RunW Try.prog [n64, n3, n2, n1] (Builtin.len_ #[(274 : Nat)] (3 : Nat) #[Value.map (some n5)]) (fun v83 w84 => opI IntKind.i64 v83 fun x85 => Bd (IntKind.wrap
  IntKind.u8 x85) fun x86 => RunU Try.prog [n64, n3, n2, n1] (Instr.mapUpdate (274 : Nat) (Value.map (some n5)) (Value.agg #[Value.int IntKind.u8 x15, Value.bool b68])
  (Value.int IntKind.u8 x86)) (fun w87 => J81 [Value.int IntKind.u8 x86] [] w87) w84) w71) (J81 [Value.int IntKind.u8 x73] [] w71))) w69) w65) ∧ ((BdO (nthV (Array.toList
  cs12) ((0 : Nat) + Int.toNat x11 * (1 : Nat))) fun v88 => opI IntKind.u8 v88 fun x89 => CallW Try.prog [n3, n2, n1] (214 : Nat) #[Value.agg #[Value.int IntKind.u64
  p1_0, Value.int IntKind.u64 p1_1, Value.int IntKind.u64 p1_2, Value.int IntKind.u64 p1_3], Value.int IntKind.i64 x11] (fun v90 w91 => opB v90 fun b92 => Rg w91 fun n93
  => Up [] [n93, n3, n2, n1] w91 fun w94 => Up [n93] [n93, n3, n2, n1] w94 fun w95 => RunW Try.prog [n93, n3, n2, n1] (Instr.lookup (274 : Nat) (Value.map (some n5))
  (Value.agg #[Value.int IntKind.u8 x89, Value.bool b92]) true) (fun v96 w97 => opTu v96 fun cs98 => opI IntKind.u8 (nthD (Array.toList cs98) (0 : Nat)) fun x99 => opB
  (nthD (Array.toList cs98) (1 : Nat)) fun b100 => SzIs (Array.size cs98) (2 : Nat) (Jn (fun l101 l102 w103 => opI IntKind.u8 (nthD l101 (0 : Nat)) fun x104 => ((0 : Int)
  ≤ x11 ∧ x11 < ↑(256 : Nat)) ∧ LeC ((0 : Nat) + Int.toNat x11 * (1 : Nat) + (1 : Nat)) (Array.size cs12) (Bd (IntKind.wrap IntKind.i64 (x11 + (1 : Int))) fun x105 => Up
  [n1] [n93, n3, n2, n1] w103 fun w106 => J9 [Value.int IntKind.i64 x105] [Value.agg (List.toArray (wrL (Array.toList cs12) ((0 : Nat) + Int.toNat x11 * (1 : Nat))
  [Value.int IntKind.u8 x104]))] w106)) fun J107 => Bd (!b100) fun b108 => If b108 (RunW Try.prog [n93, n3, n2, n1] (Builtin.len_ #[(274 : Nat)] (3 : Nat) #[Value.map
  (some n5)]) (fun v109 w110 => opI IntKind.i64 v109 fun x111 => Bd (IntKind.wrap IntKind.u8 x111) fun x112 => RunU Try.prog [n93, n3, n2, n1] (Instr.mapUpdate (274 :
  Nat) (Value.map (some n5)) (Value.agg #[Value.int IntKind.u8 x89, Value.bool b92]) (Value.int IntKind.u8 x112)) (fun w113 => J107 [Value.int IntKind.u8 x112] [] w113)
  w110) w97) (J107 [Value.int IntKind.u8 x99] [] w97))) w95) (World.drew w10) ∧ Rg (World.drew w10) fun n114 => Up [] [n114, n3, n2, n1] (World.drew w10) fun w115 =>
  CallW Try.prog [n114, n3, n2, n1] (214 : Nat) #[Value.agg #[Value.int IntKind.u64 p1_0, Value.int IntKind.u64 p1_1, Value.int IntKind.u64 p1_2, Value.int IntKind.u64
  p1_3], Value.int IntKind.i64 x11] (fun v116 w117 => opB v116 fun b118 => Up [n114] [n114, n3, n2, n1] w117 fun w119 => RunW Try.prog [n114, n3, n2, n1] (Instr.lookup
  (274 : Nat) (Value.map (some n5)) (Value.agg #[Value.int IntKind.u8 x89, Value.bool b118]) true) (fun v120 w121 => opTu v120 fun cs122 => opI IntKind.u8 (nthD
  (Array.toList cs122) (0 : Nat)) fun x123 => opB (nthD (Array.toList cs122) (1 : Nat)) fun b124 => SzIs (Array.size cs122) (2 : Nat) (Jn (fun l125 l126 w127 => opI
  IntKind.u8 (nthD l125 (0 : Nat)) fun x128 => ((0 : Int) ≤ x11 ∧ x11 < ↑(256 : Nat)) ∧ LeC ((0 : Nat) + Int.toNat x11 * (1 : Nat) + (1 : Nat)) (Array.size cs12) (Bd
  (IntKind.wrap IntKind.i64 (x11 + (1 : Int))) fun x129 => Up [n1] [n114, n3, n2, n1] w127 fun w130 => J9 [Value.int IntKind.i64 x129] [Value.agg (List.toArray (wrL
  (Array.toList cs12) ((0 : Nat) + Int.toNat x11 * (1 : Nat)) [Value.int IntKind.u8 x128]))] w130)) fun J131 => Bd (!b124) fun b132 => If b132 (RunW Try.prog [n114, n3,
  n2, n1] (Builtin.len_ #[(274 : Nat)] (3 : Nat) #[Value.map (some n5)]) (fun v133 w134 => opI IntKind.i64 v133 fun x135 => Bd (IntKind.wrap IntKind.u8 x135) fun x136 =>
  RunU Try.prog [n114, n3, n2, n1] (Instr.mapUpdate (274 : Nat) (Value.map (some n5)) (Value.agg #[Value.int IntKind.u8 x89, Value.bool b118]) (Value.int IntKind.u8
  x136)) (fun w137 => J131 [Value.int IntKind.u8 x136] [] w137) w134) w121) (J131 [Value.int IntKind.u8 x123] [] w121))) w119) w115) ∧ CallW Try.prog [n3, n2, n1] (214 :
  Nat) #[Value.agg #[Value.int IntKind.u64 p1_0, Value.int IntKind.u64 p1_1, Value.int IntKind.u64 p1_2, Value.int IntKind.u64 p1_3], Value.int IntKind.i64 x11] (fun v138
  w139 => opB v138 fun b140 => (BdO (nthV (Array.toList cs12) ((0 : Nat) + Int.toNat x11 * (1 : Nat))) fun v141 => opI IntKind.u8 v141 fun x142 => Rg w139 fun n143 => Up
  [] [n143, n3, n2, n1] w139 fun w144 => Up [n143] [n143, n3, n2, n1] w144 fun w145 => RunW Try.prog [n143, n3, n2, n1] (Instr.lookup (274 : Nat) (Value.map (some n5))
  (Value.agg #[Value.int IntKind.u8 x142, Value.bool b140]) true) (fun v146 w147 => opTu v146 fun cs148 => opI IntKind.u8 (nthD (Array.toList cs148) (0 : Nat)) fun x149
  => opB (nthD (Array.toList cs148) (1 : Nat)) fun b150 => SzIs (Array.size cs148) (2 : Nat) (Jn (fun l151 l152 w153 => opI IntKind.u8 (nthD l151 (0 : Nat)) fun x154 =>
  ((0 : Int) ≤ x11 ∧ x11 < ↑(256 : Nat)) ∧ LeC ((0 : Nat) + Int.toNat x11 * (1 : Nat) + (1 : Nat)) (Array.size cs12) (Bd (IntKind.wrap IntKind.i64 (x11 + (1 : Int))) fun
  x155 => Up [n1] [n143, n3, n2, n1] w153 fun w156 => J9 [Value.int IntKind.i64 x155] [Value.agg (List.toArray (wrL (Array.toList cs12) ((0 : Nat) + Int.toNat x11 * (1 :
  Nat)) [Value.int IntKind.u8 x154]))] w156)) fun J157 => Bd (!b150) fun b158 => If b158 (RunW Try.prog [n143, n3, n2, n1] (Builtin.len_ #[(274 : Nat)] (3 : Nat)
  #[Value.map (some n5)]) (fun v159 w160 => opI IntKind.i64 v159 fun x161 => Bd (IntKind.wrap IntKind.u8 x161) fun x162 => RunU Try.prog [n143, n3, n2, n1]
  (Instr.mapUpdate (274 : Nat) (Value.map (some n5)) (Value.agg #[Value.int IntKind.u8 x142, Value.bool b140]) (Value.int IntKind.u8 x162)) (fun w163 => J157 [Value.int
  IntKind.u8 x162] [] w163) w160) w147) (J157 [Value.int IntKind.u8 x149] [] w147))) w145) ∧ Rg w139 fun n164 => Up [] [n164, n3, n2, n1] w139 fun w165 => BdO (nthV
  (Array.toList cs12) ((0 : Nat) + Int.toNat x11 * (1 : Nat))) fun v166 => opI IntKind.u8 v166 fun x167 => Up [n164] [n164, n3, n2, n1] w165 fun w168 => RunW Try.prog
  [n164, n3, n2, n1] (Instr.lookup (274 : Nat) (Value.map (some n5)) (Value.agg #[Value.int IntKind.u8 x167, Value.bool b140]) true) (fun v169 w170 => opTu v169 fun cs171
  => opI IntKind.u8 (nthD (Array.toList cs171) (0 : Nat)) fun x172 => opB (nthD (Array.toList cs171) (1 : Nat)) fun b173 => SzIs (Array.size cs171) (2 : Nat) (Jn (fun
  l174 l175 w176 => opI IntKind.u8 (nthD l174 (0 : Nat)) fun x177 => ((0 : Int) ≤ x11 ∧ x11 < ↑(256 : Nat)) ∧ LeC ((0 : Nat) + Int.toNat x11 * (1 : Nat) + (1 : Nat))
  (Array.size cs12) (Bd (IntKind.wrap IntKind.i64 (x11 + (1 : Int))) fun x178 => Up [n1] [n164, n3, n2, n1] w176 fun w179 => J9 [Value.int IntKind.i64 x178] [Value.agg
  (List.toArray (wrL (Array.toList cs12) ((0 : Nat) + Int.toNat x11 * (1 : Nat)) [Value.int IntKind.u8 x177]))] w179)) fun J180 => Bd (!b173) fun b181 => If b181 (RunW
  Try.prog [n164, n3, n2, n1] (Builtin.len_ #[(274 : Nat)] (3 : Nat) #[Value.map (some n5)]) (fun v182 w183 => opI IntKind.i64 v182 fun x184 => Bd (IntKind.wrap
  IntKind.u8 x184) fun x185 => RunU Try.prog [n164, n3, n2, n1] (Instr.mapUpdate (274 : Nat) (Value.map (some n5)) (Value.agg #[Value.int IntKind.u8 x167, Value.bool
  b140]) (Value.int IntKind.u8 x185)) (fun w186 => J180 [Value.int IntKind.u8 x185] [] w186) w183) w170) (J180 [Value.int IntKind.u8 x172] [] w170))) w168) (World.drew
  w10) ∧ Rg (World.drew w10) fun n187 => Up [] [n187, n3, n2, n1] (World.drew w10) fun w188 => (BdO (nthV (Array.toList cs12) ((0 : Nat) + Int.toNat x11 * (1 : Nat))) fun
  v189 => opI IntKind.u8 v189 fun x190 => CallW Try.prog [n187, n3, n2, n1] (214 : Nat) #[Value.agg #[Value.int IntKind.u64 p1_0, Value.int IntKind.u64 p1_1, Value.int
  IntKind.u64 p1_2, Value.int IntKind.u64 p1_3], Value.int IntKind.i64 x11] (fun v191 w192 => opB v191 fun b193 => Up [n187] [n187, n3, n2, n1] w192 fun w194 => RunW
  Try.prog [n187, n3, n2, n1] (Instr.lookup (274 : Nat) (Value.map (some n5)) (Value.agg #[Value.int IntKind.u8 x190, Value.bool b193]) true) (fun v195 w196 => opTu v195
  fun cs197 => opI IntKind.u8 (nthD (Array.toList cs197) (0 : Nat)) fun x198 => opB (nthD (Array.toList cs197) (1 : Nat)) fun b199 => SzIs (Array.size cs197) (2 : Nat)
  (Jn (fun l200 l201 w202 => opI IntKind.u8 (nthD l200 (0 : Nat)) fun x203 => ((0 : Int) ≤ x11 ∧ x11 < ↑(256 : Nat)) ∧ LeC ((0 : Nat) + Int.toNat x11 * (1 : Nat) + (1 :
  Nat)) (Array.size cs12) (Bd (IntKind.wrap IntKind.i64 (x11 + (1 : Int))) fun x204 => Up [n1] [n187, n3, n2, n1] w202 fun w205 => J9 [Value.int IntKind.i64 x204]
  [Value.agg (List.toArray (wrL (Array.toList cs12) ((0 : Nat) + Int.toNat x11 * (1 : Nat)) [Value.int IntKind.u8 x203]))] w205)) fun J206 => Bd (!b199) fun b207 => If
  b207 (RunW Try.prog [n187, n3, n2, n1] (Builtin.len_ #[(274 : Nat)] (3 : Nat) #[Value.map (some n5)]) (fun v208 w209 => opI IntKind.i64 v208 fun x210 => Bd
  (IntKind.wrap IntKind.u8 x210) fun x211 => RunU Try.prog [n187, n3, n2, n1] (Instr.mapUpdate (274 : Nat) (Value.map (some n5)) (Value.agg #[Value.int IntKind.u8 x190,
  Value.bool b193]) (Value.int IntKind.u8 x211)) (fun w212 => J206 [Value.int IntKind.u8 x211] [] w212) w209) w196) (J206 [Value.int IntKind.u8 x198] [] w196))) w194)
  w188) ∧ CallW Try.prog [n187, n3, n2, n1] (214 : Nat) #[Value.agg #[Value.int IntKind.u64 p1_0, Value.int IntKind.u64 p1_1, Value.int IntKind.u64 p1_2, Value.int
  IntKind.u64 p1_3], Value.int IntKind.i64 x11] (fun v213 w214 => opB v213 fun b215 => BdO (nthV (Array.toList cs12) ((0 : Nat) + Int.toNat x11 * (1 : Nat))) fun v216 =>
  opI IntKind.u8 v216 fun x217 => Up [n187] [n187, n3, n2, n1] w214 fun w218 => RunW Try.prog [n187, n3, n2, n1] (Instr.lookup (274 : Nat) (Value.map (some n5))
  (Value.agg #[Value.int IntKind.u8 x217, Value.bool b215]) true) (fun v219 w220 => opTu v219 fun cs221 => opI IntKind.u8 (nthD (Array.toList cs221) (0 : Nat)) fun x222
  => opB (nthD (Array.toList cs221) (1 : Nat)) fun b223 => SzIs (Array.size cs221) (2 : Nat) (Jn (fun l224 l225 w226 => opI IntKind.u8 (nthD l224 (0 : Nat)) fun x227 =>
  ((0 : Int) ≤ x11 ∧ x11 < ↑(256 : Nat)) ∧ LeC ((0 : Nat) + Int.toNat x11 * (1 : Nat) + (1 : Nat)) (Array.size cs12) (Bd (IntKind.wrap IntKind.i64 (x11 + (1 : Int))) fun
  x228 => Up [n1] [n187, n3, n2, n1] w226 fun w229 => J9 [Value.int IntKind.i64 x228] [Value.agg (List.toArray (wrL (Array.toList cs12) ((0 : Nat) + Int.toNat x11 * (1 :
  Nat)) [Value.int IntKind.u8 x227]))] w229)) fun J230 => Bd (!b223) fun b231 => If b231 (RunW Try.prog [n187, n3, n2, n1] (Builtin.len_ #[(274 : Nat)] (3 : Nat)
  #[Value.map (some n5)]) (fun v232 w233 => opI IntKind.i64 v232 fun x234 => Bd (IntKind.wrap IntKind.u8 x234) fun x235 => RunU Try.prog [n187, n3, n2, n1]
  (Instr.mapUpdate (274 : Nat) (Value.map (some n5)) (Value.agg #[Value.int IntKind.u8 x217, Value.bool b215]) (Value.int IntKind.u8 x235)) (fun w236 => J230 [Value.int
  IntKind.u8 x235] [] w236) w233) w220) (J230 [Value.int IntKind.u8 x222] [] w220))) w218) w188) ∧ Rg (World.drew w10) fun n237 => Up [] [n237, n3, n2, n1] (World.drew
  w10) fun w238 => (BdO (nthV (Array.toList cs12) ((0 : Nat) + Int.toNat x11 * (1 : Nat))) fun v239 => opI IntKind.u8 v239 fun x240 => CallW Try.prog [n237, n3, n2, n1]
  (214 : Nat) #[Value.agg #[Value.int IntKind.u64 p1_0, Value.int IntKind.u64 p1_1, Value.int IntKind.u64 p1_2, Value.int IntKind.u64 p1_3], Value.int IntKind.i64 x11]
  (fun v241 w242 => opB v241 fun b243 => Up [n237] [n237, n3, n2, n1] w242 fun w244 => RunW Try.prog [n237, n3, n2, n1] (Instr.lookup (274 : Nat) (Value.map (some n5))
  (Value.agg #[Value.int IntKind.u8 x240, Value.bool b243]) true) (fun v245 w246 => opTu v245 fun cs247 => opI IntKind.u8 (nthD (Array.toList cs247) (0 : Nat)) fun x248
  => opB (nthD (Array.toList cs247) (1 : Nat)) fun b249 => SzIs (Array.size cs247) (2 : Nat) (Jn (fun l250 l251 w252 => opI IntKind.u8 (nthD l250 (0 : Nat)) fun x253 =>
  ((0 : Int) ≤ x11 ∧ x11 < ↑(256 : Nat)) ∧ LeC ((0 : Nat) + Int.toNat x11 * (1 : Nat) + (1 : Nat)) (Array.size cs12) (Bd (IntKind.wrap IntKind.i64 (x11 + (1 : Int))) fun
  x254 => Up [n1] [n237, n3, n2, n1] w252 fun w255 => J9 [Value.int IntKind.i64 x254] [Value.agg (List.toArray (wrL (Array.toList cs12) ((0 : Nat) + Int.toNat x11 * (1 :
  Nat)) [Value.int IntKind.u8 x253]))] w255)) fun J256 => Bd (!b249) fun b257 => If b257 (RunW Try.prog [n237, n3, n2, n1] (Builtin.len_ #[(274 : Nat)] (3 : Nat)
  #[Value.map (some n5)]) (fun v258 w259 => opI IntKind.i64 v258 fun x260 => Bd (IntKind.wrap IntKind.u8 x260) fun x261 => RunU Try.prog [n237, n3, n2, n1]
  (Instr.mapUpdate (274 : Nat) (Value.map (some n5)) (Value.agg #[Value.int IntKind.u8 x240, Value.bool b243]) (Value.int IntKind.u8 x261)) (fun w262 => J256 [Value.int
  IntKind.u8 x261] [] w262) w259) w246) (J256 [Value.int IntKind.u8 x248] [] w246))) w244) w238) ∧ (BdO (nthV (Array.toList cs12) ((0 : Nat) + Int.toNat x11 * (1 : Nat)))
  fun v263 => opI IntKind.u8 v263 fun x264 => CallW Try.prog [n237, n3, n2, n1] (214 : Nat) #[Value.agg #[Value.int IntKind.u64 p1_0, Value.int IntKind.u64 p1_1,
  Value.int IntKind.u64 p1_2, Value.int IntKind.u64 p1_3], Value.int IntKind.i64 x11] (fun v265 w266 => opB v265 fun b267 => Up [n237] [n237, n3, n2, n1] w266 fun w268 =>
  RunW Try.prog [n237, n3, n2, n1] (Instr.lookup (274 : Nat) (Value.map (some n5)) (Value.agg #[Value.int IntKind.u8 x264, Value.bool b267]) true) (fun v269 w270 => opTu
  v269 fun cs271 => opI IntKind.u8 (nthD (Array.toList cs271) (0 : Nat)) fun x272 => opB (nthD (Array.toList cs271) (1 : Nat)) fun b273 => SzIs (Array.size cs271) (2 :
  Nat) (Jn (fun l274 l275 w276 => opI IntKind.u8 (nthD l274 (0 : Nat)) fun x277 => ((0 : Int) ≤ x11 ∧ x11 < ↑(256 : Nat)) ∧ LeC ((0 : Nat) + Int.toNat x11 * (1 : Nat) +
  (1 : Nat)) (Array.size cs12) (Bd (IntKind.wrap IntKind.i64 (x11 + (1 : Int))) fun x278 => Up [n1] [n237, n3, n2, n1] w276 fun w279 => J9 [Value.int IntKind.i64 x278]
  [Value.agg (List.toArray (wrL (Array.toList cs12) ((0 : Nat) + Int.toNat x11 * (1 : Nat)) [Value.int IntKind.u8 x277]))] w279)) fun J280 => Bd (!b273) fun b281 => If
  b281 (RunW Try.prog [n237, n3, n2, n1] (Builtin.len_ #[(274 : Nat)] (3 : Nat) #[Value.map (some n5)]) (fun v282 w283 => opI IntKind.i64 v282 fun x284 => Bd
  (IntKind.wrap IntKind.u8 x284) fun x285 => RunU Try.prog [n237, n3, n2, n1] (Instr.mapUpdate (274 : Nat) (Value.map (some n5)) (Value.agg #[Value.int IntKind.u8 x264,
  Value.bool b267]) (Value.int IntKind.u8 x285)) (fun w286 => J280 [Value.int IntKind.u8 x285] [] w286) w283) w270) (J280 [Value.int IntKind.u8 x272] [] w270))) w268)
  w238) ∧ CallW Try.prog [n237, n3, n2, n1] (214 : Nat) #[Value.agg #[Value.int IntKind.u64 p1_0, Value.int IntKind.u64 p1_1, Value.int IntKind.u64 p1_2, Value.int
  IntKind.u64 p1_3], Value.int IntKind.i64 x11] (fun v287 w288 => opB v287 fun b289 => BdO (nthV (Array.toList cs12) ((0 : Nat) + Int.toNat x11 * (1 : Nat))) fun v290 =>
  opI IntKind.u8 v290 fun x291 => Up [n237] [n237, n3, n2, n1] w288 fun w292 => RunW Try.prog [n237, n3, n2, n1] (Instr.lookup (274 : Nat) (Value.map (some n5))
  (Value.agg #[Value.int IntKind.u8 x291, Value.bool b289]) true) (fun v293 w294 => opTu v293 fun cs295 => opI IntKind.u8 (nthD (Array.toList cs295) (0 : Nat)) fun x296
  => opB (nthD (Array.toList cs295) (1 : Nat)) fun b297 => SzIs (Array.size cs295) (2 : Nat) (Jn (fun l298 l299 w300 => opI IntKind.u8 (nthD l298 (0 : Nat)) fun x301 =>
  ((0 : Int) ≤ x11 ∧ x11 < ↑(256 : Nat)) ∧ LeC ((0 : Nat) + Int.toNat x11 * (1 : Nat) + (1 : Nat)) (Array.size cs12) (Bd (IntKind.wrap IntKind.i64 (x11 + (1 : Int))) fun
  x302 => Up [n1] [n237, n3, n2, n1] w300 fun w303 => J9 [Value.int IntKind.i64 x302] [Value.agg (List.toArray (wrL (Array.toList cs12) ((0 : Nat) + Int.toNat x11 * (1 :
  Nat)) [Value.int IntKind.u8 x301]))] w303)) fun J304 => Bd (!b297) fun b305 => If b305 (RunW Try.prog [n237, n3, n2, n1] (Builtin.len_ #[(274 : Nat)] (3 : Nat)
  #[Value.map (some n5)]) (fun v306 w307 => opI IntKind.i64 v306 fun x308 => Bd (IntKind.wrap IntKind.u8 x308) fun x309 => RunU Try.prog [n237, n3, n2, n1]
  (Instr.mapUpdate (274 : Nat) (Value.map (some n5)) (Value.agg #[Value.int IntKind.u8 x291, Value.bool b289]) (Value.int IntKind.u8 x309)) (fun w310 => J304 [Value.int
  IntKind.u8 x309] [] w310) w307) w294) (J304 [Value.int IntKind.u8 x296] [] w294))) w292) w238) (RunW Try.prog [n3, n2, n1] (Builtin.len_ #[(274 : Nat)] (3 : Nat)
  #[Value.map (some n5)]) (fun v311 w312 => opI IntKind.i64 v311 fun x313 => LeC (257 : Nat) (Array.size cs12) (List.length (wrL (Array.toList cs12) (256 : Nat)
  [Value.int IntKind.i64 x313]) = (257 : Nat) ∧ OkC (Array.toList (List.toArray (wrL (Array.toList cs12) (256 : Nat) [Value.int IntKind.i64 x313]))) (257 : Nat) (Up [n3,
  n1] [n3, n2, n1] w312 fun w314 => Array.size (List.toArray (wrL (Array.toList cs12) (256 : Nat) [Value.int IntKind.i64 x313])) = (257 : Nat) ∧ R (Value.agg
  (List.toArray (wrL (Array.toList cs12) (256 : Nat) [Value.int IntKind.i64 x313]))) w314))) w10)) [Value.int IntKind.i64 (0 : Int)] [Value.agg p0] w6
theorem f146_eq (p0 : Array Value) (p1_0 : Int) (p1_1 : Int) (p1_2 : Int) (p1_3 : Int) (R : Value → World → Prop) (w : World) : fnW Try.prog [2, 3, 4, 7] Try.f146
  [Value.agg p0, Value.agg #[Value.int IntKind.u64 p1_0, Value.int IntKind.u64 p1_1, Value.int IntKind.u64 p1_2, Value.int IntKind.u64 p1_3]] R w = f146_vc p0 p1_0 p1_1
  p1_2 p1_3 R w := by kernel_rfl
theorem f146_in (p0 : Array Value) (p1_0 : Int) (p1_1 : Int) (p1_2 : Int) (p1_3 : Int) (R : Value → World → Prop) (w : World) (h : f146_vc p0 p1_0 p1_1 p1_2 p1_3 R w) :
  Ct Try.prog 146 #[Value.agg p0, Value.agg #[Value.int IntKind.u64 p1_0, Value.int IntKind.u64 p1_1, Value.int IntKind.u64 p1_2, Value.int IntKind.u64 p1_3]] w R := by
  refine Ct_of (rk := [2, 3, 4, 7]) (fn := Try.f146) (args := [Value.agg p0, Value.agg #[Value.int IntKind.u64 p1_0, Value.int IntKind.u64 p1_1, Value.int IntKind.u64 p1_2, Value.int IntKind.u64 p1_3]]) mixedT Try.func146 (by kernel_rfl) ?_
  rw [f146_eq]
  exact h
def f214_vc (p0_0 : Int) (p0_1 : Int) (p0_2 : Int) (p0_3 : Int) (p1 : Int) (R : Value → World → Prop) (w : World) : Prop := Rg w fun n1 => Bd (IntKind.wrap IntKind.i64
  (Int.tdiv p1 (64 : Int))) fun x2 => ((0 : Int) ≤ x2 ∧ x2 < ↑(4 : Nat)) ∧ BdO (nthV [Value.int IntKind.u64 p0_0, Value.int IntKind.u64 p0_1, Value.int IntKind.u64 p0_2,
  Value.int IntKind.u64 p0_3] ((0 : Nat) + Int.toNat x2 * (1 : Nat))) fun v3 => opI IntKind.u64 v3 fun x4 => Bd (Int.tmod p1 (64 : Int)) fun x5 => (0 : Int) ≤ x5 ∧ Bd
  (Int.fdiv x4 ((2 : Int) ^ min (Int.toNat x5) (64 : Nat))) fun x6 => Bd (IntKind.wrap IntKind.u64 ↑(BitVec.toNat (BitVec.ofInt (64 : Nat) x6 &&& BitVec.ofInt (64 : Nat)
  (1 : Int)))) fun x7 => Bd (x7 == (1 : Int)) fun b8 => Up [] [n1] w fun w9 => R (Value.bool b8) w9
theorem f214_eq (p0_0 : Int) (p0_1 : Int) (p0_2 : Int) (p0_3 : Int) (p1 : Int) (R : Value → World → Prop) (w : World) : fnW Try.prog [2] Try.f214 [Value.agg #[Value.int
  IntKind.u64 p0_0, Value.int IntKind.u64 p0_1, Value.int IntKind.u64 p0_2, Value.int IntKind.u64 p0_3], Value.int IntKind.i64 p1] R w = f214_vc p0_0 p0_1 p0_2 p0_3 p1 R
  w := by kernel_rfl
theorem f214_in (p0_0 : Int) (p0_1 : Int) (p0_2 : Int) (p0_3 : Int) (p1 : Int) (R : Value → World → Prop) (w : World) (h : f214_vc p0_0 p0_1 p0_2 p0_3 p1 R w) : Ct
  Try.prog 214 #[Value.agg #[Value.int IntKind.u64 p0_0, Value.int IntKind.u64 p0_1, Value.int IntKind.u64 p0_2, Value.int IntKind.u64 p0_3], Value.int IntKind.i64 p1] w
  R := by
  refine Ct_of (rk := [2]) (fn := Try.f214) (args := [Value.agg #[Value.int IntKind.u64 p0_0, Value.int IntKind.u64 p0_1, Value.int IntKind.u64 p0_2, Value.int IntKind.u64 p0_3], Value.int IntKind.i64 p1]) mixedT Try.func214 (by kernel_rfl) ?_
  rw [f214_eq]
  exact h
def f41_vc (p0a : Option Addr) (p0n : Nat) (p0c : Nat) (R : Value → World → Prop) (w : World) : Prop := Rg w fun n1 => Up [] [n1] w fun w2 => LoopP (fun l3 l4 J5 w6 =>
  opI IntKind.i64 (nthD l3 (0 : Nat)) fun x7 => opL (nthD l3 (1 : Nat)) fun a8 n9 n10 => opI IntKind.i64 (nthD l3 (2 : Nat)) fun x11 => opBig (nthD l4 (0 : Nat)) fun cs12
  => Bd ↑p0n fun x13 => Bd (decide (x11 < x13)) fun b14 => If b14 (IxOk x11 p0n p0a ∧ Ld w6 (Addr.add (adAt p0a x11 (6 : Nat)) (0 : Nat)) fun v15 => Ld w6 (Addr.add (adAt
  p0a x11 (6 : Nat)) (1 : Nat)) fun v16 => Ld w6 (Addr.add (adAt p0a x11 (6 : Nat)) (2 : Nat)) fun v17 => Ld w6 (Addr.add (adAt p0a x11 (6 : Nat)) (3 : Nat)) fun v18 =>
  Ld w6 (Addr.add (adAt p0a x11 (6 : Nat)) (4 : Nat)) fun v19 => Ld w6 (Addr.add (adAt p0a x11 (6 : Nat)) (5 : Nat)) fun v20 => opI IntKind.u8 v15 fun x21 => opI
  IntKind.u64 v16 fun x22 => opI IntKind.u64 v17 fun x23 => opI IntKind.u64 v18 fun x24 => opI IntKind.u64 v19 fun x25 => opL v20 fun a26 n27 n28 => CallW Try.prog [n1]
  (147 : Nat) #[Value.agg #[Value.int IntKind.u8 x21, Value.int IntKind.u64 x22, Value.int IntKind.u64 x23, Value.int IntKind.u64 x24, Value.int IntKind.u64 x25,
  Value.slice a26 n27 n28]] (fun v29 w30 => opB v29 fun b31 => Bd (!b31) fun b32 => If b32 (RunW Try.prog [n1] (Instr.build (25 : Nat) #[]) (fun v33 w34 => opBig v33 fun
  cs35 => Array.size cs35 = (257 : Nat) ∧ OkC (Array.toList cs35) (257 : Nat) (SzIs (Array.size cs12) (257 : Nat) (Up [n1] [n1] w34 fun w36 => Array.size cs35 = (257 :
  Nat) ∧ R (Value.tuple #[Value.agg cs35, Value.int IntKind.i64 (2 : Int)]) w36))) w30) (IxOk x11 p0n p0a ∧ Ld w30 (Addr.add (adAt p0a x11 (6 : Nat)) (0 : Nat)) fun v37
  => Ld w30 (Addr.add (adAt p0a x11 (6 : Nat)) (1 : Nat)) fun v38 => Ld w30 (Addr.add (adAt p0a x11 (6 : Nat)) (2 : Nat)) fun v39 => Ld w30 (Addr.add (adAt p0a x11 (6 :
  Nat)) (3 : Nat)) fun v40 => Ld w30 (Addr.add (adAt p0a x11 (6 : Nat)) (4 : Nat)) fun v41 => Ld w30 (Addr.add (adAt p0a x11 (6 : Nat)) (5 : Nat)) fun v42 => opI
  IntKind.u8 v37 fun x43 => opI IntKind.u64 v38 fun x44 => opI IntKind.u64 v39 fun x45 => opI IntKind.u64 v40 fun x46 => opI IntKind.u64 v41 fun x47 => opL v42 fun a48
  n49 n50 => CallW Try.prog [n1] (148 : Nat) #[Value.agg #[Value.int IntKind.u8 x43, Value.int IntKind.u64 x44, Value.int IntKind.u64 x45, Value.int IntKind.u64 x46,
  Value.int IntKind.u64 x47, Value.slice a48 n49 n50]] (fun v51 w52 => opL v51 fun a53 n54 n55 => RunW Try.prog [n1] (Builtin.append_ #[(43 : Nat), (43 : Nat)] (43 : Nat)
  #[Value.slice a8 n9 n10, Value.slice a53 n54 n55]) (fun v56 w57 => opL v56 fun a58 n59 n60 => Bd (IntKind.wrap IntKind.i64 (x11 + (1 : Int))) fun x61 => J5 [Value.int
  IntKind.i64 x7, Value.slice a58 n59 n60, Value.int IntKind.i64 x61] [Value.agg cs12] w57) w52) w30)) w6) (Rg w6 fun n62 => Up [] [n62, n1] w6 fun w63 => LoopP (fun l64
  l65 J66 w67 => opL (nthD l64 (0 : Nat)) fun a68 n69 n70 => opI IntKind.i64 (nthD l64 (1 : Nat)) fun x71 => opBig (nthD l65 (0 : Nat)) fun cs72 => Bd (decide (x71 < (256
  : Int))) fun b73 => If b73 (LoopP (fun l74 l75 J76 w77 => opI IntKind.i64 (nthD l74 (0 : Nat)) fun x78 => Bd ↑n69 fun x79 => Bd (decide (x78 < x79)) fun b80 => (b80 =
  true → IxOk x78 n69 a68) ∧ Gd b80 (0 : Int) (fun J82 => Ld w77 (adAt a68 x78 (1 : Nat)) fun v83 => opI IntKind.i64 v83 fun x84 => J82 x84 w77) (fun x85 w86 => Gd b80
  false (fun J87 => CallW Try.prog [n62, n1] (149 : Nat) #[Value.slice a8 n9 n10, Value.int IntKind.i64 x85, Value.int IntKind.i64 x71] (fun v88 w89 => opB v88 fun b90 =>
  J87 b90 w89) w86) (fun b91 w92 => Bd (bif b80 then b91 else false) fun b93 => If b93 (Bd (IntKind.wrap IntKind.i64 (x78 + (1 : Int))) fun x94 => J76 [Value.int
  IntKind.i64 x94] [] w92) (Jn (fun l95 l96 w97 => opL (nthD l95 (0 : Nat)) fun a98 n99 n100 => Bd (IntKind.wrap IntKind.u8 x78) fun x101 => ((0 : Int) ≤ x71 ∧ x71 <
  ↑(256 : Nat)) ∧ LeC ((0 : Nat) + Int.toNat x71 * (1 : Nat) + (1 : Nat)) (Array.size cs72) (Bd (IntKind.wrap IntKind.i64 (x71 + (1 : Int))) fun x102 => Up [n62] [n62,
  n1] w97 fun w103 => J66 [Value.slice a98 n99 n100, Value.int IntKind.i64 x102] [Value.agg (List.toArray (wrL (Array.toList cs72) ((0 : Nat) + Int.toNat x71 * (1 : Nat))
  [Value.int IntKind.u8 x101]))] w103)) fun J104 => Bd ↑n69 fun x105 => Bd (x78 == x105) fun b106 => If b106 (Nw (Obj.cells #[Value.int IntKind.i64 x71] (3 : Nat)) w92
  fun n107 w108 => RunW Try.prog [n62, n1] (Builtin.append_ #[(52 : Nat), (52 : Nat)] (52 : Nat) #[Value.slice a68 n69 n70, Value.slice (some { block := n107, off := (0 :
  Nat) }) (1 : Nat) (1 : Nat)]) (fun v109 w110 => opL v109 fun a111 n112 n113 => J104 [Value.slice a111 n112 n113] [] w110) w108) (J104 [Value.slice a68 n69 n70] []
  w92))) w86) w77) [Value.int IntKind.i64 (0 : Int)] [] w67) (Bd ↑n69 fun x114 => LeC (257 : Nat) (Array.size cs72) (List.length (wrL (Array.toList cs72) (256 : Nat)
  [Value.int IntKind.i64 x114]) = (257 : Nat) ∧ OkC (Array.toList (List.toArray (wrL (Array.toList cs72) (256 : Nat) [Value.int IntKind.i64 x114]))) (257 : Nat) (SzIs
  (Array.size cs12) (257 : Nat) (Up [n1, n62] [n62, n1] w67 fun w115 => Array.size (List.toArray (wrL (Array.toList cs72) (256 : Nat) [Value.int IntKind.i64 x114])) =
  (257 : Nat) ∧ R (Value.tuple #[Value.agg (List.toArray (wrL (Array.toList cs72) (256 : Nat) [Value.int IntKind.i64 x114])), Value.int IntKind.i64 (0 : Int)]) w115)))))
  [Value.slice none (0 : Nat) (0 : Nat), Value.int IntKind.i64 (0 : Int)] [Value.agg (List.toArray (zeroL Try.prog (25 : Nat)))] w63)) [Value.int IntKind.i64 (0 : Int),
  Value.slice none (0 : Nat) (0 : Nat), Value.int IntKind.i64 (0 : Int)] [Value.agg (List.toArray (zeroL Try.prog (25 : Nat)))] w2
theorem f41_eq (p0a : Option Addr) (p0n : Nat) (p0c : Nat) (R : Value → World → Prop) (w : World) : fnW Try.prog [2, 6] Try.f41 [Value.slice p0a p0n p0c] R w = f41_vc p0a
  p0n p0c R w := by kernel_rfl
theorem f41_in (p0a : Option Addr) (p0n : Nat) (p0c : Nat) (R : Value → World → Prop) (w : World) (h : f41_vc p0a p0n p0c R w) : Ct Try.prog 41 #[Value.slice p0a p0n p0c]
  w R := by
  refine Ct_of (rk := [2, 6]) (fn := Try.f41) (args := [Value.slice p0a p0n p0c]) mixedT Try.func41 (by kernel_rfl) ?_
  rw [f41_eq]
  exact h
def f148_vc (p0_0 : Int) (p0_1 : Int) (p0_2 : Int) (p0_3 : Int) (p0_4 : Int) (p0_5a : Option Addr) (p0_5n : Nat) (p0_5c : Nat) (R : Value → World → Prop) (w : World) :
  Prop := Rg w fun n1 => Jn (fun l2 l3 w4 => opL (nthD l2 (0 : Nat)) fun a5 n6 n7 => LoopP (fun l8 l9 J10 w11 => opL (nthD l8 (0 : Nat)) fun a12 n13 n14 => opI
  IntKind.i64 (nthD l8 (1 : Nat)) fun x15 => Bd ↑p0_5n fun x16 => Bd (decide (x15 < x16)) fun b17 => If b17 (IxOk x15 p0_5n p0_5a ∧ Ld w11 (Addr.add (adAt p0_5a x15 (6 :
  Nat)) (0 : Nat)) fun v18 => Ld w11 (Addr.add (adAt p0_5a x15 (6 : Nat)) (1 : Nat)) fun v19 => Ld w11 (Addr.add (adAt p0_5a x15 (6 : Nat)) (2 : Nat)) fun v20 => Ld w11
  (Addr.add (adAt p0_5a x15 (6 : Nat)) (3 : Nat)) fun v21 => Ld w11 (Addr.add (adAt p0_5a x15 (6 : Nat)) (4 : Nat)) fun v22 => Ld w11 (Addr.add (adAt p0_5a x15 (6 : Nat))
  (5 : Nat)) fun v23 => opI IntKind.u8 v18 fun x24 => opI IntKind.u64 v19 fun x25 => opI IntKind.u64 v20 fun x26 => opI IntKind.u64 v21 fun x27 => opI IntKind.u64 v22 fun
  x28 => opL v23 fun a29 n30 n31 => CallW Try.prog [n1] (148 : Nat) #[Value.agg #[Value.int IntKind.u8 x24, Value.int IntKind.u64 x25, Value.int IntKind.u64 x26,
  Value.int IntKind.u64 x27, Value.int IntKind.u64 x28, Value.slice a29 n30 n31]] (fun v32 w33 => opL v32 fun a34 n35 n36 => RunW Try.prog [n1] (Builtin.append_ #[(43 :
  Nat), (43 : Nat)] (43 : Nat) #[Value.slice a12 n13 n14, Value.slice a34 n35 n36]) (fun v37 w38 => opL v37 fun a39 n40 n41 => Bd (IntKind.wrap IntKind.i64 (x15 + (1 :
  Int))) fun x42 => J10 [Value.slice a39 n40 n41, Value.int IntKind.i64 x42] [] w38) w33) w11) (R (Value.slice a12 n13 n14) w11)) [Value.slice a5 n6 n7, Value.int
  IntKind.i64 (0 : Int)] [] w4) fun J43 => Bd (p0_0 == (1 : Int)) fun b44 => If b44 (Up [] [n1] w fun w45 => Nw (Obj.cells #[Value.int IntKind.u64 p0_1, Value.int
  IntKind.u64 p0_2, Value.int IntKind.u64 p0_3, Value.int IntKind.u64 p0_4] (28 : Nat)) w45 fun n46 w47 => RunW Try.prog [n1] (Builtin.append_ #[(43 : Nat), (43 : Nat)]
  (43 : Nat) #[Value.slice none (0 : Nat) (0 : Nat), Value.slice (some { block := n46, off := (0 : Nat) }) (1 : Nat) (1 : Nat)]) (fun v48 w49 => opL v48 fun a50 n51 n52
  => J43 [Value.slice a50 n51 n52] [] w49) w47) (Up [] [n1] w fun w53 => J43 [Value.slice none (0 : Nat) (0 : Nat)] [] w53)
theorem f148_eq (p0_0 : Int) (p0_1 : Int) (p0_2 : Int) (p0_3 : Int) (p0_4 : Int) (p0_5a : Option Addr) (p0_5n : Nat) (p0_5c : Nat) (R : Value → World → Prop) (w : World)
  : fnW Try.prog [1] Try.f148 [Value.agg #[Value.int IntKind.u8 p0_0, Value.int IntKind.u64 p0_1, Value.int IntKind.u64 p0_2, Value.int IntKind.u64 p0_3, Value.int
  IntKind.u64 p0_4, Value.slice p0_5a p0_5n p0_5c]] R w = f148_vc p0_0 p0_1 p0_2 p0_3 p0_4 p0_5a p0_5n p0_5c R w := by kernel_rfl
theorem f148_in (p0_0 : Int) (p0_1 : Int) (p0_2 : Int) (p0_3 : Int) (p0_4 : Int) (p0_5a : Option Addr) (p0_5n : Nat) (p0_5c : Nat) (R : Value → World → Prop) (w : World)
  (h : f148_vc p0_0 p0_1 p0_2 p0_3 p0_4 p0_5a p0_5n p0_5c R w) : Ct Try.prog 148 #[Value.agg #[Value.int IntKind.u8 p0_0, Value.int IntKind.u64 p0_1, Value.int
  IntKind.u64 p0_2, Value.int IntKind.u64 p0_3, Value.int IntKind.u64 p0_4, Value.slice p0_5a p0_5n p0_5c]] w R := by
  refine Ct_of (rk := [1]) (fn := Try.f148) (args := [Value.agg #[Value.int IntKind.u8 p0_0, Value.int IntKind.u64 p0_1, Value.int IntKind.u64 p0_2, Value.int IntKind.u64 p0_3, Value.int IntKind.u64 p0_4, Value.slice p0_5a p0_5n p0_5c]]) mixedT Try.func148 (by kernel_rfl) ?_
  rw [f148_eq]
  exact h
def f149_vc (p0a : Option Addr) (p0n : Nat) (p0c : Nat) (p1 : Int) (p2 : Int) (R : Value → World → Prop) (w : World) : Prop := LoopP (fun l1 l2 J3 w4 => opB (nthD l1 (0 :
  Nat)) fun b5 => opI IntKind.i64 (nthD l1 (1 : Nat)) fun x6 => Bd ↑p0n fun x7 => Bd (decide (x6 < x7)) fun b8 => If b8 (Jn (fun l9 l10 w11 => opB (nthD l9 (0 : Nat)) fun
  b12 => If b12 (R (Value.bool true) w11) (Bd (IntKind.wrap IntKind.i64 (x6 + (1 : Int))) fun x13 => J3 [Value.bool b5, Value.int IntKind.i64 x13] [] w11)) fun J14 => Dr
  (World.drew w4) fun J15 => IxOk x6 p0n p0a ∧ ∃ v16, (∀ (w17 : World), J15 w17 → Ld w17 (Addr.add (adAt p0a x6 (4 : Nat)) (0 : Nat)) fun v19 => Ld w17 (Addr.add (adAt
  p0a x6 (4 : Nat)) (1 : Nat)) fun v20 => Ld w17 (Addr.add (adAt p0a x6 (4 : Nat)) (2 : Nat)) fun v21 => Ld w17 (Addr.add (adAt p0a x6 (4 : Nat)) (3 : Nat)) fun v22 =>
  Value.agg #[v19, v20, v21, v22] = v16) ∧ opAg v16 fun cs23 => opI IntKind.u64 (nthD (Array.toList cs23) (0 : Nat)) fun x24 => opI IntKind.u64 (nthD (Array.toList cs23)
  (1 : Nat)) fun x25 => opI IntKind.u64 (nthD (Array.toList cs23) (2 : Nat)) fun x26 => opI IntKind.u64 (nthD (Array.toList cs23) (3 : Nat)) fun x27 => SzIs (Array.size
  cs23) (4 : Nat) (IxOk x6 p0n p0a ∧ ∃ v28, (∀ (w29 : World), J15 w29 → Ld w29 (Addr.add (adAt p0a x6 (4 : Nat)) (0 : Nat)) fun v31 => Ld w29 (Addr.add (adAt p0a x6 (4 :
  Nat)) (1 : Nat)) fun v32 => Ld w29 (Addr.add (adAt p0a x6 (4 : Nat)) (2 : Nat)) fun v33 => Ld w29 (Addr.add (adAt p0a x6 (4 : Nat)) (3 : Nat)) fun v34 => Value.agg
  #[v31, v32, v33, v34] = v28) ∧ opAg v28 fun cs35 => opI IntKind.u64 (nthD (Array.toList cs35) (0 : Nat)) fun x36 => opI IntKind.u64 (nthD (Array.toList cs35) (1 : Nat))
  fun x37 => opI IntKind.u64 (nthD (Array.toList cs35) (2 : Nat)) fun x38 => opI IntKind.u64 (nthD (Array.toList cs35) (3 : Nat)) fun x39 => SzIs (Array.size cs35) (4 :
  Nat) (CallW Try.prog [] (151 : Nat) #[Value.agg #[Value.int IntKind.u64 x24, Value.int IntKind.u64 x25, Value.int IntKind.u64 x26, Value.int IntKind.u64 x27], Value.int
  IntKind.i64 p1] (fun v40 w41 => opB v40 fun b42 => J15 w41 ∧ CallW Try.prog [] (151 : Nat) #[Value.agg #[Value.int IntKind.u64 x36, Value.int IntKind.u64 x37, Value.int
  IntKind.u64 x38, Value.int IntKind.u64 x39], Value.int IntKind.i64 p2] (fun v43 w44 => opB v43 fun b45 => J15 w44 ∧ Bd (!b42 == b45) fun b46 => J14 [Value.bool b46] []
  w44) w41) (World.drew w4)))) (R (Value.bool false) w4)) [Value.bool false, Value.int IntKind.i64 (0 : Int)] [] w
theorem f149_eq (p0a : Option Addr) (p0n : Nat) (p0c : Nat) (p1 : Int) (p2 : Int) (R : Value → World → Prop) (w : World) : fnW Try.prog [] Try.f149 [Value.slice p0a p0n
  p0c, Value.int IntKind.i64 p1, Value.int IntKind.i64 p2] R w = f149_vc p0a p0n p0c p1 p2 R w := by kernel_rfl
theorem f149_in (p0a : Option Addr) (p0n : Nat) (p0c : Nat) (p1 : Int) (p2 : Int) (R : Value → World → Prop) (w : World) (h : f149_vc p0a p0n p0c p1 p2 R w) : Ct Try.prog
  149 #[Value.slice p0a p0n p0c, Value.int IntKind.i64 p1, Value.int IntKind.i64 p2] w R := by
  refine Ct_of (rk := []) (fn := Try.f149) (args := [Value.slice p0a p0n p0c, Value.int IntKind.i64 p1, Value.int IntKind.i64 p2]) mixedT Try.func149 (by kernel_rfl) ?_
  rw [f149_eq]
  exact h
def f150_vc (p0 : Array Value) (p1 : Int) (R : Value → World → Prop) (w : World) : Prop := Rg w fun n1 => Up [] [n1] w fun w2 => LoopP (fun l3 l4 J5 w6 => opI IntKind.i64
  (nthD l3 (0 : Nat)) fun x7 => Bd (decide (x7 < (256 : Int))) fun b8 => (b8 = true → (0 : Int) ≤ x7 ∧ x7 < ↑(256 : Nat)) ∧ (b8 = true → isI IntKind.u8 (Array.toList p0)
  ((0 : Nat) + Int.toNat x7 * (1 : Nat))) ∧ Bd (rdI (Array.toList p0) ((0 : Nat) + Int.toNat x7 * (1 : Nat))) fun x11 => Bd (IntKind.wrap IntKind.i64 x11) fun x12 => Bd
  (x12 != p1) fun b13 => Bd (bif b8 then b13 else false) fun b14 => If b14 (Bd (IntKind.wrap IntKind.i64 (x7 + (1 : Int))) fun x15 => J5 [Value.int IntKind.i64 x15] []
  w6) (R (Value.int IntKind.i64 x7) w6)) [Value.int IntKind.i64 (0 : Int)] [] w2
theorem f150_eq (p0 : Array Value) (p1 : Int) (R : Value → World → Prop) (w : World) : fnW Try.prog [2] Try.f150 [Value.agg p0, Value.int IntKind.i64 p1] R w = f150_vc p0
  p1 R w := by kernel_rfl
theorem f150_in (p0 : Array Value) (p1 : Int) (R : Value → World → Prop) (w : World) (h : f150_vc p0 p1 R w) : Ct Try.prog 150 #[Value.agg p0, Value.int IntKind.i64 p1] w
  R := by
  refine Ct_of (rk := [2]) (fn := Try.f150) (args := [Value.agg p0, Value.int IntKind.i64 p1]) mixedT Try.func150 (by kernel_rfl) ?_
  rw [f150_eq]
  exact h
def f151_vc (p0_0 : Int) (p0_1 : Int) (p0_2 : Int) (p0_3 : Int) (p1 : Int) (R : Value → World → Prop) (w : World) : Prop := Rg w fun n1 => Up [] [n1] w fun w2 => Bd
  (IntKind.wrap IntKind.i64 (Int.tdiv p1 (64 : Int))) fun x3 => ((0 : Int) ≤ x3 ∧ x3 < ↑(4 : Nat)) ∧ BdO (nthV [Value.int IntKind.u64 p0_0, Value.int IntKind.u64 p0_1,
  Value.int IntKind.u64 p0_2, Value.int IntKind.u64 p0_3] ((0 : Nat) + Int.toNat x3 * (1 : Nat))) fun v4 => opI IntKind.u64 v4 fun x5 => Bd (Int.tmod p1 (64 : Int)) fun
  x6 => (0 : Int) ≤ x6 ∧ Bd (IntKind.wrap IntKind.u64 ((1 : Int) * (2 : Int) ^ min (Int.toNat x6) (64 : Nat))) fun x7 => Bd (IntKind.wrap IntKind.u64 ↑(BitVec.toNat
  (BitVec.ofInt (64 : Nat) x5 &&& BitVec.ofInt (64 : Nat) x7))) fun x8 => Bd (x8 != (0 : Int)) fun b9 => R (Value.bool b9) (World.drew w2)
theorem f151_eq (p0_0 : Int) (p0_1 : Int) (p0_2 : Int) (p0_3 : Int) (p1 : Int) (R : Value → World → Prop) (w : World) : fnW Try.prog [2] Try.f151 [Value.agg #[Value.int
  IntKind.u64 p0_0, Value.int IntKind.u64 p0_1, Value.int IntKind.u64 p0_2, Value.int IntKind.u64 p0_3], Value.int IntKind.i64 p1] R w = f151_vc p0_0 p0_1 p0_2 p0_3 p1 R
  w := by kernel_rfl
theorem f151_in (p0_0 : Int) (p0_1 : Int) (p0_2 : Int) (p0_3 : Int) (p1 : Int) (R : Value → World → Prop) (w : World) (h : f151_vc p0_0 p0_1 p0_2 p0_3 p1 R w) : Ct
  Try.prog 151 #[Value.agg #[Value.int IntKind.u64 p0_0, Value.int IntKind.u64 p0_1, Value.int IntKind.u64 p0_2, Value.int IntKind.u64 p0_3], Value.int IntKind.i64 p1] w
  R := by
  refine Ct_of (rk := [2]) (fn := Try.f151) (args := [Value.agg #[Value.int IntKind.u64 p0_0, Value.int IntKind.u64 p0_1, Value.int IntKind.u64 p0_2, Value.int IntKind.u64 p0_3], Value.int IntKind.i64 p1]) mixedT Try.func151 (by kernel_rfl) ?_
  rw [f151_eq]
  exact h
def f42_vc (p0 : Array Value) (p1 : Int) (R : Value → World → Prop) (w : World) : Prop := Rg w fun n1 => Array.size p0 = (257 : Nat) ∧ Up [] [n1] w fun w2 => CallW
  Try.prog [n1] (44 : Nat) #[Value.agg p0] (fun v3 w4 => opB v3 fun b5 => Bd (!b5) fun b6 => Bd (decide (p1 < (0 : Int))) fun b7 => Bd (bif b6 then true else b7) fun b8
  => ((!b8) = true → isI IntKind.i64 (Array.toList p0) (256 : Nat)) ∧ Bd (rdI (Array.toList p0) (256 : Nat)) fun x10 => Bd (decide (p1 ≥ x10)) fun b11 => Bd (bif b8 then
  true else b11) fun b12 => If b12 (R (Value.tuple #[Value.int IntKind.u8 (0 : Int), Value.bool false]) w4) (LoopP (fun l13 l14 J15 w16 => opI IntKind.u8 (nthD l13 (0 :
  Nat)) fun x17 => opB (nthD l13 (1 : Nat)) fun b18 => opI IntKind.i64 (nthD l13 (2 : Nat)) fun x19 => Bd (decide (x19 < (256 : Int))) fun b20 => If b20 (((0 : Int) ≤ x19
  ∧ x19 < ↑(256 : Nat)) ∧ BdO (nthV (Array.toList p0) ((0 : Nat) + Int.toNat x19 * (1 : Nat))) fun v21 => opI IntKind.u8 v21 fun x22 => Bd (IntKind.wrap IntKind.i64 x22)
  fun x23 => Bd (x23 == p1) fun b24 => If b24 (Bd (IntKind.wrap IntKind.u8 x19) fun x25 => R (Value.tuple #[Value.int IntKind.u8 x25, Value.bool true]) w16) (Bd
  (IntKind.wrap IntKind.i64 (x19 + (1 : Int))) fun x26 => J15 [Value.int IntKind.u8 x17, Value.bool b18, Value.int IntKind.i64 x26] [] w16)) (R (Value.tuple #[Value.int
  IntKind.u8 (0 : Int), Value.bool false]) w16)) [Value.int IntKind.u8 (0 : Int), Value.bool false, Value.int IntKind.i64 (0 : Int)] [] w4)) w2
theorem f42_eq (p0 : Array Value) (p1 : Int) (R : Value → World → Prop) (w : World) : fnW Try.prog [2] Try.f42 [Value.agg p0, Value.int IntKind.i64 p1] R w = f42_vc p0 p1
  R w := by kernel_rfl
theorem f42_in (p0 : Array Value) (p1 : Int) (R : Value → World → Prop) (w : World) (h : f42_vc p0 p1 R w) : Ct Try.prog 42 #[Value.agg p0, Value.int IntKind.i64 p1] w R
  := by
  refine Ct_of (rk := [2]) (fn := Try.f42) (args := [Value.agg p0, Value.int IntKind.i64 p1]) mixedT Try.func42 (by kernel_rfl) ?_
  rw [f42_eq]
  exact h
def f43_vc (p0 : Array Value) (p1 : Int) (R : Value → World → Prop) (w : World) : Prop := Rg w fun n1 => Array.size p0 = (257 : Nat) ∧ Up [] [n1] w fun w2 => CallW
  Try.prog [n1] (45 : Nat) #[Value.agg p0] (fun v3 w4 => opB v3 fun b5 => Bd (!b5) fun b6 => Bd (decide (p1 < (0 : Int))) fun b7 => Bd (bif b6 then true else b7) fun b8
  => ((!b8) = true → isI IntKind.i64 (Array.toList p0) (256 : Nat)) ∧ Bd (rdI (Array.toList p0) (256 : Nat)) fun x10 => Bd (decide (p1 ≥ x10)) fun b11 => Bd (bif b8 then
  true else b11) fun b12 => If b12 (R (Value.tuple #[Value.int IntKind.u8 (0 : Int), Value.bool false]) w4) (Array.size p0 = (257 : Nat) ∧ CallW Try.prog [n1] (150 : Nat)
  #[Value.agg p0, Value.int IntKind.i64 p1] (fun v13 w14 => opI IntKind.i64 v13 fun x15 => Bd (IntKind.wrap IntKind.u8 x15) fun x16 => R (Value.tuple #[Value.int
  IntKind.u8 x16, Value.bool true]) w14) w4)) w2
theorem f43_eq (p0 : Array Value) (p1 : Int) (R : Value → World → Prop) (w : World) : fnW Try.prog [2] Try.f43 [Value.agg p0, Value.int IntKind.i64 p1] R w = f43_vc p0 p1
  R w := by kernel_rfl
theorem f43_in (p0 : Array Value) (p1 : Int) (R : Value → World → Prop) (w : World) (h : f43_vc p0 p1 R w) : Ct Try.prog 43 #[Value.agg p0, Value.int IntKind.i64 p1] w R
  := by
  refine Ct_of (rk := [2]) (fn := Try.f43) (args := [Value.agg p0, Value.int IntKind.i64 p1]) mixedT Try.func43 (by kernel_rfl) ?_
  rw [f43_eq]
  exact h
def f44_vc (p0 : Array Value) (R : Value → World → Prop) (w : World) : Prop := Rg w fun n1 => Up [] [n1] w fun w2 => LoopP (fun l3 l4 J5 w6 => opB (nthD l3 (0 : Nat)) fun
  b7 => opI IntKind.i64 (nthD l3 (1 : Nat)) fun x8 => opI IntKind.i64 (nthD l3 (2 : Nat)) fun x9 => Bd (decide (x9 < (256 : Int))) fun b10 => If b10 (Jn (fun l11 l12 w13
  => opB (nthD l11 (0 : Nat)) fun b14 => opI IntKind.i64 (nthD l11 (1 : Nat)) fun x15 => opI IntKind.i64 (nthD l11 (2 : Nat)) fun x16 => opI IntKind.i64 (nthD l11 (3 :
  Nat)) fun x17 => Bd (IntKind.wrap IntKind.i64 (x9 + (1 : Int))) fun x18 => J5 [Value.bool b14, Value.int IntKind.i64 x15, Value.int IntKind.i64 x18] [] w13) fun J19 =>
  ((0 : Int) ≤ x9 ∧ x9 < ↑(256 : Nat)) ∧ BdO (nthV (Array.toList p0) ((0 : Nat) + Int.toNat x9 * (1 : Nat))) fun v20 => opI IntKind.u8 v20 fun x21 => Bd (IntKind.wrap
  IntKind.i64 x21) fun x22 => Bd (decide (x22 > x8)) fun b23 => If b23 (R (Value.bool false) w6) (Bd (x22 == x8) fun b24 => If b24 (Bd (IntKind.wrap IntKind.i64 (x8 + (1
  : Int))) fun x25 => J19 [Value.bool b7, Value.int IntKind.i64 x25, Value.int IntKind.i64 x9, Value.int IntKind.i64 x22] [] w6) (J19 [Value.bool b7, Value.int
  IntKind.i64 x8, Value.int IntKind.i64 x9, Value.int IntKind.i64 x22] [] w6))) (BdO (nthV (Array.toList p0) (256 : Nat)) fun v26 => opI IntKind.i64 v26 fun x27 => Bd (x8
  == x27) fun b28 => R (Value.bool b28) w6)) [Value.bool false, Value.int IntKind.i64 (0 : Int), Value.int IntKind.i64 (0 : Int)] [] w2
theorem f44_eq (p0 : Array Value) (R : Value → World → Prop) (w : World) : fnW Try.prog [1] Try.f44 [Value.agg p0] R w = f44_vc p0 R w := by kernel_rfl
theorem f44_in (p0 : Array Value) (R : Value → World → Prop) (w : World) (h : f44_vc p0 R w) : Ct Try.prog 44 #[Value.agg p0] w R := by
  refine Ct_of (rk := [1]) (fn := Try.f44) (args := [Value.agg p0]) mixedT Try.func44 (by kernel_rfl) ?_
  rw [f44_eq]
  exact h
def f45_vc (p0 : Array Value) (R : Value → World → Prop) (w : World) : Prop := Rg w fun n1 => BdO (nthV (Array.toList p0) (256 : Nat)) fun v2 => opI IntKind.i64 v2 fun x3
  => Bd (decide (x3 < (1 : Int))) fun b4 => ((!b4) = true → isI IntKind.i64 (Array.toList p0) (256 : Nat)) ∧ Bd (rdI (Array.toList p0) (256 : Nat)) fun x6 => Bd (decide
  (x6 > (256 : Int))) fun b7 => Bd (bif b4 then true else b7) fun b8 => If b8 (Up [] [n1] w fun w9 => R (Value.bool false) w9) (Up [] [n1] w fun w10 => LoopP (fun l11 l12
  J13 w14 => opB (nthD l11 (0 : Nat)) fun b15 => opI IntKind.i64 (nthD l11 (1 : Nat)) fun x16 => Bd (decide (x16 < (256 : Int))) fun b17 => If b17 (((0 : Int) ≤ x16 ∧ x16
  < ↑(256 : Nat)) ∧ BdO (nthV (Array.toList p0) ((0 : Nat) + Int.toNat x16 * (1 : Nat))) fun v18 => opI IntKind.u8 v18 fun x19 => Bd (IntKind.wrap IntKind.i64 x19) fun
  x20 => BdO (nthV (Array.toList p0) (256 : Nat)) fun v21 => opI IntKind.i64 v21 fun x22 => Bd (decide (x20 ≥ x22)) fun b23 => If b23 (R (Value.bool false) (World.drew
  w14)) (Bd (IntKind.wrap IntKind.i64 (x16 + (1 : Int))) fun x24 => J13 [Value.bool b15, Value.int IntKind.i64 x24] [] (World.drew w14))) (LoopP (fun l25 l26 J27 w28 =>
  opB (nthD l25 (0 : Nat)) fun b29 => opI IntKind.i64 (nthD l25 (1 : Nat)) fun x30 => BdO (nthV (Array.toList p0) (256 : Nat)) fun v31 => opI IntKind.i64 v31 fun x32 =>
  Bd (decide (x30 < x32)) fun b33 => If b33 (Jn (fun l34 l35 w36 => opB (nthD l34 (0 : Nat)) fun b37 => If b37 (R (Value.bool false) w36) (Bd (IntKind.wrap IntKind.i64
  (x30 + (1 : Int))) fun x38 => J27 [Value.bool b29, Value.int IntKind.i64 x38] [] w36)) fun J39 => Array.size p0 = (257 : Nat) ∧ CallW Try.prog [n1] (150 : Nat)
  #[Value.agg p0, Value.int IntKind.i64 x30] (fun v40 w41 => opI IntKind.i64 v40 fun x42 => Bd (x42 == (256 : Int)) fun b43 => Bd (decide (x30 > (0 : Int))) fun b44 =>
  ((!b43 && b44) = true → Array.size p0 = (257 : Nat)) ∧ ((!b43 && b44) = true → Array.size p0 = (257 : Nat)) ∧ Bd (IntKind.wrap IntKind.i64 (x30 - (1 : Int))) fun x47 =>
  Gd (!b43 && b44) (0 : Int) (fun J48 => CallW Try.prog [n1] (150 : Nat) #[Value.agg p0, Value.int IntKind.i64 x30] (fun v49 w50 => opI IntKind.i64 v49 fun x51 => J48 x51
  w50) w41) (fun x52 w53 => Gd (!b43 && b44) (0 : Int) (fun J54 => CallW Try.prog [n1] (150 : Nat) #[Value.agg p0, Value.int IntKind.i64 x47] (fun v55 w56 => opI
  IntKind.i64 v55 fun x57 => J54 x57 w56) w53) (fun x58 w59 => Bd (decide (x52 < x58)) fun b60 => Bd (bif b44 then b60 else false) fun b61 => Bd (bif b43 then true else
  b61) fun b62 => J39 [Value.bool b62] [] w59) w53) w41) (World.drew w28)) (R (Value.bool true) w28)) [Value.bool b15, Value.int IntKind.i64 (0 : Int)] [] w14))
  [Value.bool false, Value.int IntKind.i64 (0 : Int)] [] w10)
theorem f45_eq (p0 : Array Value) (R : Value → World → Prop) (w : World) : fnW Try.prog [1] Try.f45 [Value.agg p0] R w = f45_vc p0 R w := by kernel_rfl
theorem f45_in (p0 : Array Value) (R : Value → World → Prop) (w : World) (h : f45_vc p0 R w) : Ct Try.prog 45 #[Value.agg p0] w R := by
  refine Ct_of (rk := [1]) (fn := Try.f45) (args := [Value.agg p0]) mixedT Try.func45 (by kernel_rfl) ?_
  rw [f45_eq]
  exact h
def f46_vc (p0 : Array Value) (p1_0 : Int) (p1_1 : Int) (p1_2 : Int) (p1_3 : Int) (R : Value → World → Prop) (w : World) : Prop := Rg w fun n1 => Rg w fun n2 => Jn (fun
  l3 l4 w5 => opB (nthD l3 (0 : Nat)) fun b6 => R (Value.bool b6) w5) fun J7 => Up [] [n2, n1] w fun w8 => Array.size p0 = (257 : Nat) ∧ CallW Try.prog [n2, n1] (44 :
  Nat) #[Value.agg p0] (fun v9 w10 => opB v9 fun b11 => (b11 = true → Array.size p0 = (257 : Nat)) ∧ (b11 = true → isI IntKind.i64 (Array.toList p0) (256 : Nat)) ∧ Bd
  (rdI (Array.toList p0) (256 : Nat)) fun x14 => Gd b11 #[] (fun J15 => CallW Try.prog [n2, n1] (146 : Nat) #[Value.agg p0, Value.agg #[Value.int IntKind.u64 p1_0,
  Value.int IntKind.u64 p1_1, Value.int IntKind.u64 p1_2, Value.int IntKind.u64 p1_3]] (fun v16 w17 => opBig v16 fun cs18 => Array.size cs18 = (257 : Nat) ∧ J15 cs18 w17)
  w10) (fun cs19 w20 => (b11 = true → isI IntKind.i64 (Array.toList cs19) (256 : Nat)) ∧ Bd (rdI (Array.toList cs19) (256 : Nat)) fun x22 => Bd (x22 == x14) fun b23 => Bd
  (bif b11 then b23 else false) fun b24 => J7 [Value.bool b24] [] w20) w10) (World.drew w8)
theorem f46_eq (p0 : Array Value) (p1_0 : Int) (p1_1 : Int) (p1_2 : Int) (p1_3 : Int) (R : Value → World → Prop) (w : World) : fnW Try.prog [2, 3] Try.f46 [Value.agg p0,
  Value.agg #[Value.int IntKind.u64 p1_0, Value.int IntKind.u64 p1_1, Value.int IntKind.u64 p1_2, Value.int IntKind.u64 p1_3]] R w = f46_vc p0 p1_0 p1_1 p1_2 p1_3 R w :=
  by kernel_rfl
theorem f46_in (p0 : Array Value) (p1_0 : Int) (p1_1 : Int) (p1_2 : Int) (p1_3 : Int) (R : Value → World → Prop) (w : World) (h : f46_vc p0 p1_0 p1_1 p1_2 p1_3 R w) : Ct
  Try.prog 46 #[Value.agg p0, Value.agg #[Value.int IntKind.u64 p1_0, Value.int IntKind.u64 p1_1, Value.int IntKind.u64 p1_2, Value.int IntKind.u64 p1_3]] w R := by
  refine Ct_of (rk := [2, 3]) (fn := Try.f46) (args := [Value.agg p0, Value.agg #[Value.int IntKind.u64 p1_0, Value.int IntKind.u64 p1_1, Value.int IntKind.u64 p1_2, Value.int IntKind.u64 p1_3]]) mixedT Try.func46 (by kernel_rfl) ?_
  rw [f46_eq]
  exact h
def f47_vc (p0 : Array Value) (p1_0 : Int) (p1_1 : Int) (p1_2 : Int) (p1_3 : Int) (R : Value → World → Prop) (w : World) : Prop := Rg w fun n1 => Rg w fun n2 =>
  Array.size p0 = (257 : Nat) ∧ Up [] [n2, n1] w fun w3 => CallW Try.prog [n2, n1] (45 : Nat) #[Value.agg p0] (fun v4 w5 => opB v4 fun b6 => Bd (!b6) fun b7 => If b7 (R
  (Value.bool false) w5) (LoopP (fun l8 l9 J10 w11 => opB (nthD l8 (0 : Nat)) fun b12 => opI IntKind.i64 (nthD l8 (1 : Nat)) fun x13 => Bd (decide (x13 < (256 : Int)))
  fun b14 => If b14 (Jn (fun l15 l16 w17 => opB (nthD l15 (0 : Nat)) fun b18 => If b18 (R (Value.bool false) w17) (Bd (IntKind.wrap IntKind.i64 (x13 + (1 : Int))) fun x19
  => J10 [Value.bool b12, Value.int IntKind.i64 x19] [] w17)) fun J20 => Array.size p0 = (257 : Nat) ∧ ((0 : Int) ≤ x13 ∧ x13 < ↑(256 : Nat)) ∧ BdO (nthV (Array.toList
  p0) ((0 : Nat) + Int.toNat x13 * (1 : Nat))) fun v21 => opI IntKind.u8 v21 fun x22 => Bd (IntKind.wrap IntKind.i64 x22) fun x23 => CallW Try.prog [n2, n1] (151 : Nat)
  #[Value.agg #[Value.int IntKind.u64 p1_0, Value.int IntKind.u64 p1_1, Value.int IntKind.u64 p1_2, Value.int IntKind.u64 p1_3], Value.int IntKind.i64 x13] (fun v24 w25
  => opB v24 fun b26 => CallW Try.prog [n2, n1] (150 : Nat) #[Value.agg p0, Value.int IntKind.i64 x23] (fun v27 w28 => opI IntKind.i64 v27 fun x29 => CallW Try.prog [n2,
  n1] (151 : Nat) #[Value.agg #[Value.int IntKind.u64 p1_0, Value.int IntKind.u64 p1_1, Value.int IntKind.u64 p1_2, Value.int IntKind.u64 p1_3], Value.int IntKind.i64
  x29] (fun v30 w31 => opB v30 fun b32 => Bd (!b26 == b32) fun b33 => J20 [Value.bool b33] [] w31) w28) w25) (World.drew w11)) (R (Value.bool true) w11)) [Value.bool
  false, Value.int IntKind.i64 (0 : Int)] [] w5)) w3
theorem f47_eq (p0 : Array Value) (p1_0 : Int) (p1_1 : Int) (p1_2 : Int) (p1_3 : Int) (R : Value → World → Prop) (w : World) : fnW Try.prog [2, 3] Try.f47 [Value.agg p0,
  Value.agg #[Value.int IntKind.u64 p1_0, Value.int IntKind.u64 p1_1, Value.int IntKind.u64 p1_2, Value.int IntKind.u64 p1_3]] R w = f47_vc p0 p1_0 p1_1 p1_2 p1_3 R w :=
  by kernel_rfl
theorem f47_in (p0 : Array Value) (p1_0 : Int) (p1_1 : Int) (p1_2 : Int) (p1_3 : Int) (R : Value → World → Prop) (w : World) (h : f47_vc p0 p1_0 p1_1 p1_2 p1_3 R w) : Ct
  Try.prog 47 #[Value.agg p0, Value.agg #[Value.int IntKind.u64 p1_0, Value.int IntKind.u64 p1_1, Value.int IntKind.u64 p1_2, Value.int IntKind.u64 p1_3]] w R := by
  refine Ct_of (rk := [2, 3]) (fn := Try.f47) (args := [Value.agg p0, Value.agg #[Value.int IntKind.u64 p1_0, Value.int IntKind.u64 p1_1, Value.int IntKind.u64 p1_2, Value.int IntKind.u64 p1_3]]) mixedT Try.func47 (by kernel_rfl) ?_
  rw [f47_eq]
  exact h
def f48_vc (p0a : Option Addr) (p0n : Nat) (p0c : Nat) (R : Value → World → Prop) (w : World) : Prop := Bd ↑p0n fun x1 => LoopP (fun l2 l3 J4 w5 => opL (nthD l2 (0 :
  Nat)) fun a6 n7 n8 => opI IntKind.i64 (nthD l2 (1 : Nat)) fun x9 => Bd (decide (x9 < x1)) fun b10 => If b10 (Jn (fun l11 l12 w13 => opL (nthD l11 (0 : Nat)) fun a14 n15
  n16 => Bd (IntKind.wrap IntKind.i64 (x9 + (1 : Int))) fun x17 => J4 [Value.slice a14 n15 n16, Value.int IntKind.i64 x17] [] w13) fun J18 => IxOk x9 p0n p0a ∧ Ld w5
  (Addr.add (adAt p0a x9 (6 : Nat)) (0 : Nat)) fun v19 => Ld w5 (Addr.add (adAt p0a x9 (6 : Nat)) (1 : Nat)) fun v20 => Ld w5 (Addr.add (adAt p0a x9 (6 : Nat)) (2 : Nat))
  fun v21 => Ld w5 (Addr.add (adAt p0a x9 (6 : Nat)) (3 : Nat)) fun v22 => Ld w5 (Addr.add (adAt p0a x9 (6 : Nat)) (4 : Nat)) fun v23 => Ld w5 (Addr.add (adAt p0a x9 (6 :
  Nat)) (5 : Nat)) fun v24 => opI IntKind.u8 v19 fun x25 => opI IntKind.u64 v20 fun x26 => opI IntKind.u64 v21 fun x27 => opI IntKind.u64 v22 fun x28 => opI IntKind.u64
  v23 fun x29 => opL v24 fun a30 n31 n32 => Rg w5 fun n33 => Up [n33] [n33] w5 fun w34 => CallW Try.prog [n33] (144 : Nat) #[Value.agg #[Value.int IntKind.u8 x25,
  Value.int IntKind.u64 x26, Value.int IntKind.u64 x27, Value.int IntKind.u64 x28, Value.int IntKind.u64 x29, Value.slice a30 n31 n32]] (fun v35 w36 => opB v35 fun b37 =>
  If b37 (Nw (Obj.cells #[Value.int IntKind.u8 x25, Value.int IntKind.u64 x26, Value.int IntKind.u64 x27, Value.int IntKind.u64 x28, Value.int IntKind.u64 x29,
  Value.slice a30 n31 n32] (42 : Nat)) w36 fun n38 w39 => RunW Try.prog [n33] (Builtin.append_ #[(22 : Nat), (22 : Nat)] (22 : Nat) #[Value.slice a6 n7 n8, Value.slice
  (some { block := n38, off := (0 : Nat) }) (1 : Nat) (1 : Nat)]) (fun v40 w41 => opL v40 fun a42 n43 n44 => J18 [Value.slice a42 n43 n44] [] w41) w39) (J18 [Value.slice
  a6 n7 n8] [] w36)) w34) (R (Value.slice a6 n7 n8) w5)) [Value.slice none (0 : Nat) (0 : Nat), Value.int IntKind.i64 (0 : Int)] [] w
theorem f48_eq (p0a : Option Addr) (p0n : Nat) (p0c : Nat) (R : Value → World → Prop) (w : World) : fnW Try.prog [5] Try.f48 [Value.slice p0a p0n p0c] R w = f48_vc p0a
  p0n p0c R w := by kernel_rfl
theorem f48_in (p0a : Option Addr) (p0n : Nat) (p0c : Nat) (R : Value → World → Prop) (w : World) (h : f48_vc p0a p0n p0c R w) : Ct Try.prog 48 #[Value.slice p0a p0n p0c]
  w R := by
  refine Ct_of (rk := [5]) (fn := Try.f48) (args := [Value.slice p0a p0n p0c]) mixedT Try.func48 (by kernel_rfl) ?_
  rw [f48_eq]
  exact h
def f49_vc (p0_0 : Int) (p0_1 : Int) (p0_2 : Int) (p0_3 : Int) (p0_4 : Int) (p0_5a : Option Addr) (p0_5n : Nat) (p0_5c : Nat) (p1a : Option Addr) (p1n : Nat) (p1c : Nat)
  (R : Value → World → Prop) (w : World) : Prop := Rg w fun n1 => Jn (fun l2 l3 w4 => opL (nthD l2 (0 : Nat)) fun a5 n6 n7 => Bd ↑p0_5n fun x8 => LoopP (fun l9 l10 J11
  w12 => opL (nthD l9 (0 : Nat)) fun a13 n14 n15 => opI IntKind.i64 (nthD l9 (1 : Nat)) fun x16 => Bd (decide (x16 < x8)) fun b17 => If b17 (IxOk x16 p0_5n p0_5a ∧ Ld w12
  (Addr.add (adAt p0_5a x16 (6 : Nat)) (0 : Nat)) fun v18 => Ld w12 (Addr.add (adAt p0_5a x16 (6 : Nat)) (1 : Nat)) fun v19 => Ld w12 (Addr.add (adAt p0_5a x16 (6 : Nat))
  (2 : Nat)) fun v20 => Ld w12 (Addr.add (adAt p0_5a x16 (6 : Nat)) (3 : Nat)) fun v21 => Ld w12 (Addr.add (adAt p0_5a x16 (6 : Nat)) (4 : Nat)) fun v22 => Ld w12
  (Addr.add (adAt p0_5a x16 (6 : Nat)) (5 : Nat)) fun v23 => opI IntKind.u8 v18 fun x24 => opI IntKind.u64 v19 fun x25 => opI IntKind.u64 v20 fun x26 => opI IntKind.u64
  v21 fun x27 => opI IntKind.u64 v22 fun x28 => opL v23 fun a29 n30 n31 => Rg w12 fun n32 => Up [n32] [n32, n1] w12 fun w33 => CallW Try.prog [n32, n1] (49 : Nat)
  #[Value.agg #[Value.int IntKind.u8 x24, Value.int IntKind.u64 x25, Value.int IntKind.u64 x26, Value.int IntKind.u64 x27, Value.int IntKind.u64 x28, Value.slice a29 n30
  n31], Value.slice a13 n14 n15] (fun v34 w35 => opL v34 fun a36 n37 n38 => Bd (IntKind.wrap IntKind.i64 (x16 + (1 : Int))) fun x39 => J11 [Value.slice a36 n37 n38,
  Value.int IntKind.i64 x39] [] w35) w33) (R (Value.slice a13 n14 n15) w12)) [Value.slice a5 n6 n7, Value.int IntKind.i64 (0 : Int)] [] w4) fun J40 => Bd (p0_0 == (1 :
  Int)) fun b41 => If b41 (Up [] [n1] w fun w42 => Nw (Obj.cells #[Value.int IntKind.u64 p0_1, Value.int IntKind.u64 p0_2, Value.int IntKind.u64 p0_3, Value.int
  IntKind.u64 p0_4] (28 : Nat)) w42 fun n43 w44 => RunW Try.prog [n1] (Builtin.append_ #[(43 : Nat), (43 : Nat)] (43 : Nat) #[Value.slice p1a p1n p1c, Value.slice (some {
  block := n43, off := (0 : Nat) }) (1 : Nat) (1 : Nat)]) (fun v45 w46 => opL v45 fun a47 n48 n49 => J40 [Value.slice a47 n48 n49] [] w46) w44) (Up [] [n1] w fun w50 =>
  J40 [Value.slice p1a p1n p1c] [] w50)
theorem f49_eq (p0_0 : Int) (p0_1 : Int) (p0_2 : Int) (p0_3 : Int) (p0_4 : Int) (p0_5a : Option Addr) (p0_5n : Nat) (p0_5c : Nat) (p1a : Option Addr) (p1n : Nat) (p1c :
  Nat) (R : Value → World → Prop) (w : World) : fnW Try.prog [2, 6] Try.f49 [Value.agg #[Value.int IntKind.u8 p0_0, Value.int IntKind.u64 p0_1, Value.int IntKind.u64
  p0_2, Value.int IntKind.u64 p0_3, Value.int IntKind.u64 p0_4, Value.slice p0_5a p0_5n p0_5c], Value.slice p1a p1n p1c] R w = f49_vc p0_0 p0_1 p0_2 p0_3 p0_4 p0_5a p0_5n
  p0_5c p1a p1n p1c R w := by kernel_rfl
theorem f49_in (p0_0 : Int) (p0_1 : Int) (p0_2 : Int) (p0_3 : Int) (p0_4 : Int) (p0_5a : Option Addr) (p0_5n : Nat) (p0_5c : Nat) (p1a : Option Addr) (p1n : Nat) (p1c :
  Nat) (R : Value → World → Prop) (w : World) (h : f49_vc p0_0 p0_1 p0_2 p0_3 p0_4 p0_5a p0_5n p0_5c p1a p1n p1c R w) : Ct Try.prog 49 #[Value.agg #[Value.int IntKind.u8
  p0_0, Value.int IntKind.u64 p0_1, Value.int IntKind.u64 p0_2, Value.int IntKind.u64 p0_3, Value.int IntKind.u64 p0_4, Value.slice p0_5a p0_5n p0_5c], Value.slice p1a
  p1n p1c] w R := by
  refine Ct_of (rk := [2, 6]) (fn := Try.f49) (args := [Value.agg #[Value.int IntKind.u8 p0_0, Value.int IntKind.u64 p0_1, Value.int IntKind.u64 p0_2, Value.int IntKind.u64 p0_3, Value.int IntKind.u64 p0_4, Value.slice p0_5a p0_5n p0_5c], Value.slice p1a p1n p1c]) mixedT Try.func49 (by kernel_rfl) ?_
  rw [f49_eq]
  exact h
def f50_vc (p0_0 : Int) (p0_1 : Int) (p0_2 : Int) (p0_3 : Int) (p1 : Int) (R : Value → World → Prop) (w : World) : Prop := Rg w fun n1 => Bd (IntKind.wrap IntKind.u8
  (Int.tdiv p1 (64 : Int))) fun x2 => ((0 : Int) ≤ x2 ∧ x2 < ↑(4 : Nat)) ∧ BdO (nthV [Value.int IntKind.u64 p0_0, Value.int IntKind.u64 p0_1, Value.int IntKind.u64 p0_2,
  Value.int IntKind.u64 p0_3] ((0 : Nat) + Int.toNat x2 * (1 : Nat))) fun v3 => opI IntKind.u64 v3 fun x4 => Bd (Int.tmod p1 (64 : Int)) fun x5 => (0 : Int) ≤ x5 ∧ Bd
  (Int.fdiv x4 ((2 : Int) ^ min (Int.toNat x5) (64 : Nat))) fun x6 => Bd (IntKind.wrap IntKind.u64 ↑(BitVec.toNat (BitVec.ofInt (64 : Nat) x6 &&& BitVec.ofInt (64 : Nat)
  (1 : Int)))) fun x7 => Bd (x7 == (1 : Int)) fun b8 => Up [] [n1] w fun w9 => R (Value.bool b8) w9
theorem f50_eq (p0_0 : Int) (p0_1 : Int) (p0_2 : Int) (p0_3 : Int) (p1 : Int) (R : Value → World → Prop) (w : World) : fnW Try.prog [2] Try.f50 [Value.agg #[Value.int
  IntKind.u64 p0_0, Value.int IntKind.u64 p0_1, Value.int IntKind.u64 p0_2, Value.int IntKind.u64 p0_3], Value.int IntKind.u8 p1] R w = f50_vc p0_0 p0_1 p0_2 p0_3 p1 R w
  := by kernel_rfl
theorem f50_in (p0_0 : Int) (p0_1 : Int) (p0_2 : Int) (p0_3 : Int) (p1 : Int) (R : Value → World → Prop) (w : World) (h : f50_vc p0_0 p0_1 p0_2 p0_3 p1 R w) : Ct Try.prog
  50 #[Value.agg #[Value.int IntKind.u64 p0_0, Value.int IntKind.u64 p0_1, Value.int IntKind.u64 p0_2, Value.int IntKind.u64 p0_3], Value.int IntKind.u8 p1] w R := by
  refine Ct_of (rk := [2]) (fn := Try.f50) (args := [Value.agg #[Value.int IntKind.u64 p0_0, Value.int IntKind.u64 p0_1, Value.int IntKind.u64 p0_2, Value.int IntKind.u64 p0_3], Value.int IntKind.u8 p1]) mixedT Try.func50 (by kernel_rfl) ?_
  rw [f50_eq]
  exact h
def f51_vc (p0_0 : Int) (p0_1 : Int) (p0_2 : Int) (p0_3 : Int) (R : Value → World → Prop) (w : World) : Prop := Rg w fun n1 => Rg w fun n2 => Up [n2] [n2, n1] w fun w3 =>
  R (Value.agg #[Value.int IntKind.u8 (1 : Int), Value.int IntKind.u64 p0_0, Value.int IntKind.u64 p0_1, Value.int IntKind.u64 p0_2, Value.int IntKind.u64 p0_3,
  Value.slice none (0 : Nat) (0 : Nat)]) w3
theorem f51_eq (p0_0 : Int) (p0_1 : Int) (p0_2 : Int) (p0_3 : Int) (R : Value → World → Prop) (w : World) : fnW Try.prog [1, 2] Try.f51 [Value.agg #[Value.int IntKind.u64
  p0_0, Value.int IntKind.u64 p0_1, Value.int IntKind.u64 p0_2, Value.int IntKind.u64 p0_3]] R w = f51_vc p0_0 p0_1 p0_2 p0_3 R w := by kernel_rfl
theorem f51_in (p0_0 : Int) (p0_1 : Int) (p0_2 : Int) (p0_3 : Int) (R : Value → World → Prop) (w : World) (h : f51_vc p0_0 p0_1 p0_2 p0_3 R w) : Ct Try.prog 51
  #[Value.agg #[Value.int IntKind.u64 p0_0, Value.int IntKind.u64 p0_1, Value.int IntKind.u64 p0_2, Value.int IntKind.u64 p0_3]] w R := by
  refine Ct_of (rk := [1, 2]) (fn := Try.f51) (args := [Value.agg #[Value.int IntKind.u64 p0_0, Value.int IntKind.u64 p0_1, Value.int IntKind.u64 p0_2, Value.int IntKind.u64 p0_3]]) mixedT Try.func51 (by kernel_rfl) ?_
  rw [f51_eq]
  exact h
def f52_vc (p0 : ByteArray) (R : Value → World → Prop) (w : World) : Prop := Rg w fun n1 => Rg w fun n2 => Bd ↑(ByteArray.size p0) fun x3 => Up [] [n2, n1] w fun w4 =>
  LoopP (fun l5 l6 J7 w8 => opI IntKind.i64 (nthD l5 (0 : Nat)) fun x9 => opAg (nthD l6 (0 : Nat)) fun cs10 => opI IntKind.u64 (nthD (Array.toList cs10) (0 : Nat)) fun
  x11 => opI IntKind.u64 (nthD (Array.toList cs10) (1 : Nat)) fun x12 => opI IntKind.u64 (nthD (Array.toList cs10) (2 : Nat)) fun x13 => opI IntKind.u64 (nthD
  (Array.toList cs10) (3 : Nat)) fun x14 => SzIs (Array.size cs10) (4 : Nat) (Bd (decide (x9 < x3)) fun b15 => If b15 (((0 : Int) ≤ x9 ∧ x9 < ↑(ByteArray.size p0)) ∧ Bd
  (byteAt p0 x9) fun x16 => Bd (IntKind.wrap IntKind.u8 (Int.tdiv x16 (64 : Int))) fun x17 => ((0 : Int) ≤ x17 ∧ x17 < ↑(4 : Nat)) ∧ ((0 : Int) ≤ x9 ∧ x9 <
  ↑(ByteArray.size p0)) ∧ Bd (byteAt p0 x9) fun x18 => Bd (Int.tmod x18 (64 : Int)) fun x19 => (0 : Int) ≤ x19 ∧ Bd (IntKind.wrap IntKind.u64 ((1 : Int) * (2 : Int) ^ min
  (Int.toNat x19) (64 : Nat))) fun x20 => BdO (nthV [Value.int IntKind.u64 x11, Value.int IntKind.u64 x12, Value.int IntKind.u64 x13, Value.int IntKind.u64 x14] ((0 :
  Nat) + Int.toNat x17 * (1 : Nat))) fun v21 => opI IntKind.u64 v21 fun x22 => Bd (IntKind.wrap IntKind.u64 ↑(BitVec.toNat (BitVec.ofInt (64 : Nat) x22 ||| BitVec.ofInt
  (64 : Nat) x20))) fun x23 => ((0 : Int) ≤ x17 ∧ x17 < ↑(4 : Nat)) ∧ LeC ((0 : Nat) + Int.toNat x17 * (1 : Nat) + (1 : Nat)) (List.length [Value.int IntKind.u64 x11,
  Value.int IntKind.u64 x12, Value.int IntKind.u64 x13, Value.int IntKind.u64 x14]) (Up [n2] [n2, n1] (World.drew w8) fun w24 => Bd (IntKind.wrap IntKind.i64 (x9 + (1 :
  Int))) fun x25 => J7 [Value.int IntKind.i64 x25] [Value.agg (List.toArray (wrL [Value.int IntKind.u64 x11, Value.int IntKind.u64 x12, Value.int IntKind.u64 x13,
  Value.int IntKind.u64 x14] ((0 : Nat) + Int.toNat x17 * (1 : Nat)) [Value.int IntKind.u64 x23]))] w24)) (Up [n1] [n2, n1] w8 fun w26 => R (Value.agg #[Value.int
  IntKind.u64 x11, Value.int IntKind.u64 x12, Value.int IntKind.u64 x13, Value.int IntKind.u64 x14]) w26))) [Value.int IntKind.i64 (0 : Int)] [Value.agg #[Value.int
  IntKind.u64 (0 : Int), Value.int IntKind.u64 (0 : Int), Value.int IntKind.u64 (0 : Int), Value.int IntKind.u64 (0 : Int)]] w4
theorem f52_eq (p0 : ByteArray) (R : Value → World → Prop) (w : World) : fnW Try.prog [2, 3] Try.f52 [Value.string p0] R w = f52_vc p0 R w := by kernel_rfl
theorem f52_in (p0 : ByteArray) (R : Value → World → Prop) (w : World) (h : f52_vc p0 R w) : Ct Try.prog 52 #[Value.string p0] w R := by
  refine Ct_of (rk := [2, 3]) (fn := Try.f52) (args := [Value.string p0]) mixedT Try.func52 (by kernel_rfl) ?_
  rw [f52_eq]
  exact h
end Fk
