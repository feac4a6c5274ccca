/- First machines: several texts, joined. -/
import Derived.Test.YtpgjpgecgibklaaTT
/- Conditions of functions, as the generator works them out; each one is checked by the kernel. -/
set_option linter.unusedVariables false
set_option maxRecDepth 1000000
set_option maxHeartbeats 4000000
namespace Fk
open Go Go.Proofs Go.RowKit
def f76_vc (p0_0 : Int) (p0_1a : Option Addr) (p0_1n : Nat) (p0_1c : Nat) (R : Value → World → Prop) (w : World) : Prop := Rg w fun n1 => Bd ((p0_1n : Nat) : Int) fun x2
  => Bd (decide (x2 ≤ (300 : Int))) fun b3 => Up [] [n1] w fun w4 => R (Value.bool b3) w4
theorem f76_eq (p0_0 : Int) (p0_1a : Option Addr) (p0_1n : Nat) (p0_1c : Nat) (R : Value → World → Prop) (w : World) : fnW Try.prog [1] Try.f76 [Value.agg #[Value.int
  IntKind.i64 p0_0, Value.slice p0_1a p0_1n p0_1c]] R w = f76_vc p0_0 p0_1a p0_1n p0_1c R w := by kernel_rfl
theorem f76_in (p0_0 : Int) (p0_1a : Option Addr) (p0_1n : Nat) (p0_1c : Nat) (R : Value → World → Prop) (w : World) (h : f76_vc p0_0 p0_1a p0_1n p0_1c R w) : Ct Try.prog
  76 #[Value.agg #[Value.int IntKind.i64 p0_0, Value.slice p0_1a p0_1n p0_1c]] w R := by
  refine Ct_of (rk := [1]) (fn := Try.f76) (args := [Value.agg #[Value.int IntKind.i64 p0_0, Value.slice p0_1a p0_1n p0_1c]]) mixedT Try.func76 (by kernel_rfl) ?_
  rw [f76_eq]
  exact h
def f79_vc (p0_0 : Int) (p0_1a : Option Addr) (p0_1n : Nat) (p0_1c : Nat) (p1_0 : Int) (p1_1a : Option Addr) (p1_1n : Nat) (p1_1c : Nat) (R : Value → World → Prop) (w :
  World) : Prop := Rg w fun n1 => Rg w fun n2 => Bd (p0_0 != p1_0) fun b3 => Bd ((p0_1n : Nat) : Int) fun x4 => Bd ((p1_1n : Nat) : Int) fun x5 => Bd (x4 != x5) fun b6 =>
  Bd (bif b3 then true else b6) fun b7 => If b7 (Up [] [n2, n1] w fun w8 => R (Value.bool false) w8) (Bd ((p0_1n : Nat) : Int) fun x9 => Up [] [n2, n1] w fun w10 => LoopP
  (fun l11 l12 J13 w14 => opB (nthD l11 (0 : Nat)) fun b15 => opI IntKind.i64 (nthD l11 (1 : Nat)) fun x16 => Bd (decide (x16 < x9)) fun b17 => If b17 (Dr (World.drew
  w14) fun J18 => IxOk x16 p0_1n p0_1a ∧ ∃ v19, (∀ (w20 : World), J18 w20 → Ld w20 (Addr.add (adAt p0_1a x16 (8 : Nat)) (0 : Nat)) fun v22 => Ld w20 (Addr.add (adAt p0_1a
  x16 (8 : Nat)) (1 : Nat)) fun v23 => Ld w20 (Addr.add (adAt p0_1a x16 (8 : Nat)) (2 : Nat)) fun v24 => Ld w20 (Addr.add (adAt p0_1a x16 (8 : Nat)) (3 : Nat)) fun v25 =>
  Ld w20 (Addr.add (adAt p0_1a x16 (8 : Nat)) (4 : Nat)) fun v26 => Ld w20 (Addr.add (adAt p0_1a x16 (8 : Nat)) (5 : Nat)) fun v27 => Ld w20 (Addr.add (adAt p0_1a x16 (8
  : Nat)) (6 : Nat)) fun v28 => Ld w20 (Addr.add (adAt p0_1a x16 (8 : Nat)) (7 : Nat)) fun v29 => Value.agg #[v22, v23, v24, v25, v26, v27, v28, v29] = v19) ∧ opAg v19
  fun cs30 => opI IntKind.u8 (nthD (Array.toList cs30) (0 : Nat)) fun x31 => opI IntKind.u64 (nthD (Array.toList cs30) (1 : Nat)) fun x32 => opI IntKind.u64 (nthD
  (Array.toList cs30) (2 : Nat)) fun x33 => opI IntKind.u64 (nthD (Array.toList cs30) (3 : Nat)) fun x34 => opI IntKind.u64 (nthD (Array.toList cs30) (4 : Nat)) fun x35
  => opI IntKind.i64 (nthD (Array.toList cs30) (5 : Nat)) fun x36 => opI IntKind.i64 (nthD (Array.toList cs30) (6 : Nat)) fun x37 => opI IntKind.i64 (nthD (Array.toList
  cs30) (7 : Nat)) fun x38 => SzIs (Array.size cs30) (8 : Nat) (IxOk x16 p1_1n p1_1a ∧ ∃ v39, (∀ (w40 : World), J18 w40 → Ld w40 (Addr.add (adAt p1_1a x16 (8 : Nat)) (0 :
  Nat)) fun v42 => Ld w40 (Addr.add (adAt p1_1a x16 (8 : Nat)) (1 : Nat)) fun v43 => Ld w40 (Addr.add (adAt p1_1a x16 (8 : Nat)) (2 : Nat)) fun v44 => Ld w40 (Addr.add
  (adAt p1_1a x16 (8 : Nat)) (3 : Nat)) fun v45 => Ld w40 (Addr.add (adAt p1_1a x16 (8 : Nat)) (4 : Nat)) fun v46 => Ld w40 (Addr.add (adAt p1_1a x16 (8 : Nat)) (5 :
  Nat)) fun v47 => Ld w40 (Addr.add (adAt p1_1a x16 (8 : Nat)) (6 : Nat)) fun v48 => Ld w40 (Addr.add (adAt p1_1a x16 (8 : Nat)) (7 : Nat)) fun v49 => Value.agg #[v42,
  v43, v44, v45, v46, v47, v48, v49] = v39) ∧ opAg v39 fun cs50 => opI IntKind.u8 (nthD (Array.toList cs50) (0 : Nat)) fun x51 => opI IntKind.u64 (nthD (Array.toList
  cs50) (1 : Nat)) fun x52 => opI IntKind.u64 (nthD (Array.toList cs50) (2 : Nat)) fun x53 => opI IntKind.u64 (nthD (Array.toList cs50) (3 : Nat)) fun x54 => opI
  IntKind.u64 (nthD (Array.toList cs50) (4 : Nat)) fun x55 => opI IntKind.i64 (nthD (Array.toList cs50) (5 : Nat)) fun x56 => opI IntKind.i64 (nthD (Array.toList cs50) (6
  : Nat)) fun x57 => opI IntKind.i64 (nthD (Array.toList cs50) (7 : Nat)) fun x58 => SzIs (Array.size cs50) (8 : Nat) (∃ v59, (∀ (w60 : World), J18 w60 → RunV Try.prog
  (eqS BinOp.neq (103 : Nat) (Operand.tmp (30 : Nat)) (Operand.tmp (35 : Nat)) (Value.agg #[Value.int IntKind.u8 x31, Value.int IntKind.u64 x32, Value.int IntKind.u64
  x33, Value.int IntKind.u64 x34, Value.int IntKind.u64 x35, Value.int IntKind.i64 x36, Value.int IntKind.i64 x37, Value.int IntKind.i64 x38]) (Value.agg #[Value.int
  IntKind.u8 x51, Value.int IntKind.u64 x52, Value.int IntKind.u64 x53, Value.int IntKind.u64 x54, Value.int IntKind.u64 x55, Value.int IntKind.i64 x56, Value.int
  IntKind.i64 x57, Value.int IntKind.i64 x58])) v59 w60) ∧ opB v59 fun b62 => If b62 (R (Value.bool false) (World.drew w14)) (Bd (IntKind.wrap IntKind.i64 (x16 + (1 :
  Int))) fun x63 => J13 [Value.bool b15, Value.int IntKind.i64 x63] [] (World.drew w14))))) (R (Value.bool true) w14)) [Value.bool false, Value.int IntKind.i64 (0 : Int)]
  [] w10)
theorem f79_eq (p0_0 : Int) (p0_1a : Option Addr) (p0_1n : Nat) (p0_1c : Nat) (p1_0 : Int) (p1_1a : Option Addr) (p1_1n : Nat) (p1_1c : Nat) (R : Value → World → Prop) (w
  : World) : fnW Try.prog [2, 3, 100006] Try.f79 [Value.agg #[Value.int IntKind.i64 p0_0, Value.slice p0_1a p0_1n p0_1c], Value.agg #[Value.int IntKind.i64 p1_0,
  Value.slice p1_1a p1_1n p1_1c]] R w = f79_vc p0_0 p0_1a p0_1n p0_1c p1_0 p1_1a p1_1n p1_1c R w := by kernel_rfl
theorem f79_in (p0_0 : Int) (p0_1a : Option Addr) (p0_1n : Nat) (p0_1c : Nat) (p1_0 : Int) (p1_1a : Option Addr) (p1_1n : Nat) (p1_1c : Nat) (R : Value → World → Prop) (w
  : World) (h : f79_vc p0_0 p0_1a p0_1n p0_1c p1_0 p1_1a p1_1n p1_1c R w) : Ct Try.prog 79 #[Value.agg #[Value.int IntKind.i64 p0_0, Value.slice p0_1a p0_1n p0_1c],
  Value.agg #[Value.int IntKind.i64 p1_0, Value.slice p1_1a p1_1n p1_1c]] w R := by
  refine Ct_of (rk := [2, 3, 100006]) (fn := Try.f79) (args := [Value.agg #[Value.int IntKind.i64 p0_0, Value.slice p0_1a p0_1n p0_1c], Value.agg #[Value.int IntKind.i64 p1_0, Value.slice p1_1a p1_1n p1_1c]]) mixedT Try.func79 (by kernel_rfl) ?_
  rw [f79_eq]
  exact h
def f81_vc (p0_0 : Int) (p0_1a : Option Addr) (p0_1n : Nat) (p0_1c : Nat) (R : Value → World → Prop) (w : World) : Prop := Nw (Obj.cells #[Value.int IntKind.i64 p0_0,
  Value.slice p0_1a p0_1n p0_1c] (71 : Nat)) w fun n1 w2 => Ld w2 (Addr.add (Addr.mk n1 (0 : Nat) none) (0 : Nat)) fun v3 => opI IntKind.i64 v3 fun x4 => CallW Try.prog
  [] (186 : Nat) #[Value.int IntKind.i64 x4, Value.pointer (some (Addr.mk n1 (0 : Nat) none))] (fun v5 w6 => opB v5 fun b7 => Bd (!b7) fun b8 => Gd (!b8) (none, (0 :
  Nat), (0 : Nat)) (fun J9 => Ld w6 (Addr.add (Addr.mk n1 (0 : Nat) none) (1 : Nat)) fun v10 => opL v10 fun a11 n12 n13 => J9 (a11, n12, n13) w6) (fun u14 w15 => Bd
  ↑(Prod.fst (Prod.snd u14)) fun x16 => Bd (decide (x16 > (20000 : Int))) fun b17 => Bd (bif b8 then true else b17) fun b18 => If b18 (R (Value.bool false) w15) (Ld w15
  (Addr.add (Addr.mk n1 (0 : Nat) none) (1 : Nat)) fun v19 => opL v19 fun a20 n21 n22 => Bd ((n21 : Nat) : Int) fun x23 => LoopP (fun l24 l25 J26 w27 => opB (nthD l24 (0
  : Nat)) fun b28 => opI IntKind.i64 (nthD l24 (1 : Nat)) fun x29 => Bd (decide (x29 < x23)) fun b30 => If b30 (IxOk x29 n21 a20 ∧ Ld w27 (Addr.add (adAt a20 x29 (8 :
  Nat)) (0 : Nat)) fun v31 => Ld w27 (Addr.add (adAt a20 x29 (8 : Nat)) (1 : Nat)) fun v32 => Ld w27 (Addr.add (adAt a20 x29 (8 : Nat)) (2 : Nat)) fun v33 => Ld w27
  (Addr.add (adAt a20 x29 (8 : Nat)) (3 : Nat)) fun v34 => Ld w27 (Addr.add (adAt a20 x29 (8 : Nat)) (4 : Nat)) fun v35 => Ld w27 (Addr.add (adAt a20 x29 (8 : Nat)) (5 :
  Nat)) fun v36 => Ld w27 (Addr.add (adAt a20 x29 (8 : Nat)) (6 : Nat)) fun v37 => Ld w27 (Addr.add (adAt a20 x29 (8 : Nat)) (7 : Nat)) fun v38 => opI IntKind.u8 v31 fun
  x39 => opI IntKind.u64 v32 fun x40 => opI IntKind.u64 v33 fun x41 => opI IntKind.u64 v34 fun x42 => opI IntKind.u64 v35 fun x43 => opI IntKind.i64 v36 fun x44 => opI
  IntKind.i64 v37 fun x45 => opI IntKind.i64 v38 fun x46 => Rg w27 fun n47 => Rg w27 fun n48 => Jn (fun l49 l50 w51 => opB (nthD l49 (0 : Nat)) fun b52 => opB (nthD l49
  (1 : Nat)) fun b53 => opAg (nthD l50 (0 : Nat)) fun cs54 => opI IntKind.u8 (nthD (Array.toList cs54) (0 : Nat)) fun x55 => opI IntKind.u64 (nthD (Array.toList cs54) (1
  : Nat)) fun x56 => opI IntKind.u64 (nthD (Array.toList cs54) (2 : Nat)) fun x57 => opI IntKind.u64 (nthD (Array.toList cs54) (3 : Nat)) fun x58 => opI IntKind.u64 (nthD
  (Array.toList cs54) (4 : Nat)) fun x59 => opI IntKind.i64 (nthD (Array.toList cs54) (5 : Nat)) fun x60 => opI IntKind.i64 (nthD (Array.toList cs54) (6 : Nat)) fun x61
  => opI IntKind.i64 (nthD (Array.toList cs54) (7 : Nat)) fun x62 => SzIs (Array.size cs54) (8 : Nat) (Bd (!b52) fun b63 => Gd (!b63) false (fun J64 => RunW Try.prog
  [n48, n47] (eqS BinOp.neq (103 : Nat) (Operand.tmp (84 : Nat)) (Operand.tmp (85 : Nat)) (Value.agg #[Value.int IntKind.u8 x39, Value.int IntKind.u64 x40, Value.int
  IntKind.u64 x41, Value.int IntKind.u64 x42, Value.int IntKind.u64 x43, Value.int IntKind.i64 x44, Value.int IntKind.i64 x45, Value.int IntKind.i64 x46]) (Value.agg
  #[Value.int IntKind.u8 x55, Value.int IntKind.u64 x56, Value.int IntKind.u64 x57, Value.int IntKind.u64 x58, Value.int IntKind.u64 x59, Value.int IntKind.i64 x60,
  Value.int IntKind.i64 x61, Value.int IntKind.i64 x62])) (fun v65 w66 => opB v65 fun b67 => J64 b67 w66) w51) (fun b68 w69 => Bd (bif b63 then true else b68) fun b70 =>
  If b70 (R (Value.bool false) w69) (Bd (IntKind.wrap IntKind.i64 (x29 + (1 : Int))) fun x71 => J26 [Value.bool b28, Value.int IntKind.i64 x71] [] w69)) w51)) fun J72 =>
  Bd (x39 == (0 : Int)) fun b73 => If b73 (Bd (decide (x46 ≥ (0 : Int))) fun b74 => Bd (decide (x46 < (200 : Int))) fun b75 => Bd (bif b74 then b75 else false) fun b76 =>
  Up [n48, n48, n47] [n48, n47] w27 fun w77 => J72 [Value.bool b76, Value.bool b73] [Value.agg #[Value.int IntKind.u8 x39, Value.int IntKind.u64 (0 : Int), Value.int
  IntKind.u64 (0 : Int), Value.int IntKind.u64 (0 : Int), Value.int IntKind.u64 (0 : Int), Value.int IntKind.i64 (0 : Int), Value.int IntKind.i64 (0 : Int), Value.int
  IntKind.i64 x46]] w77) (Bd (x39 == (1 : Int)) fun b78 => If b78 (Jn (fun l79 l80 w81 => opAg (nthD l80 (0 : Nat)) fun cs82 => opI IntKind.u8 (nthD (Array.toList cs82)
  (0 : Nat)) fun x83 => opI IntKind.u64 (nthD (Array.toList cs82) (1 : Nat)) fun x84 => opI IntKind.u64 (nthD (Array.toList cs82) (2 : Nat)) fun x85 => opI IntKind.u64
  (nthD (Array.toList cs82) (3 : Nat)) fun x86 => opI IntKind.u64 (nthD (Array.toList cs82) (4 : Nat)) fun x87 => opI IntKind.i64 (nthD (Array.toList cs82) (5 : Nat)) fun
  x88 => opI IntKind.i64 (nthD (Array.toList cs82) (6 : Nat)) fun x89 => opI IntKind.i64 (nthD (Array.toList cs82) (7 : Nat)) fun x90 => SzIs (Array.size cs82) (8 : Nat)
  (RunW Try.prog [n48, n47] (eqS BinOp.neq (28 : Nat) (Operand.tmp (54 : Nat)) (Operand.tmp (55 : Nat)) (Value.agg #[Value.int IntKind.u64 x40, Value.int IntKind.u64 x41,
  Value.int IntKind.u64 x42, Value.int IntKind.u64 x43]) (Value.agg #[Value.int IntKind.u64 (0 : Int), Value.int IntKind.u64 (0 : Int), Value.int IntKind.u64 (0 : Int),
  Value.int IntKind.u64 (0 : Int)])) (fun v91 w92 => opB v91 fun b93 => Gd b93 false (fun J94 => CallW Try.prog [n48, n47] (186 : Nat) #[Value.int IntKind.i64 x44,
  Value.pointer (some (Addr.mk n1 (0 : Nat) none))] (fun v95 w96 => opB v95 fun b97 => J94 b97 w96) w92) (fun b98 w99 => Bd (bif b93 then b98 else false) fun b100 => J72
  [Value.bool b100, Value.bool b73] [Value.agg #[Value.int IntKind.u8 x83, Value.int IntKind.u64 x84, Value.int IntKind.u64 x85, Value.int IntKind.u64 x86, Value.int
  IntKind.u64 x87, Value.int IntKind.i64 x88, Value.int IntKind.i64 x89, Value.int IntKind.i64 x90]] w99) w92) w81)) fun J101 => Up [n48, n47] [n48, n47] w27 fun w102 =>
  Up [n48] [n48, n47] (World.drew w102) fun w103 => Up [n48] [n48, n47] w103 fun w104 => J101 [] [Value.agg #[Value.int IntKind.u8 x39, Value.int IntKind.u64 x40,
  Value.int IntKind.u64 x41, Value.int IntKind.u64 x42, Value.int IntKind.u64 x43, Value.int IntKind.i64 x44, Value.int IntKind.i64 (0 : Int), Value.int IntKind.i64 (0 :
  Int)]] w104) (Bd (x39 == (2 : Int)) fun b105 => If b105 (Jn (fun l106 l107 w108 => opAg (nthD l107 (0 : Nat)) fun cs109 => opI IntKind.u8 (nthD (Array.toList cs109) (0
  : Nat)) fun x110 => opI IntKind.u64 (nthD (Array.toList cs109) (1 : Nat)) fun x111 => opI IntKind.u64 (nthD (Array.toList cs109) (2 : Nat)) fun x112 => opI IntKind.u64
  (nthD (Array.toList cs109) (3 : Nat)) fun x113 => opI IntKind.u64 (nthD (Array.toList cs109) (4 : Nat)) fun x114 => opI IntKind.i64 (nthD (Array.toList cs109) (5 :
  Nat)) fun x115 => opI IntKind.i64 (nthD (Array.toList cs109) (6 : Nat)) fun x116 => opI IntKind.i64 (nthD (Array.toList cs109) (7 : Nat)) fun x117 => SzIs (Array.size
  cs109) (8 : Nat) (CallW Try.prog [n48, n47] (186 : Nat) #[Value.int IntKind.i64 x44, Value.pointer (some (Addr.mk n1 (0 : Nat) none))] (fun v118 w119 => opB v118 fun
  b120 => Gd b120 false (fun J121 => CallW Try.prog [n48, n47] (186 : Nat) #[Value.int IntKind.i64 x45, Value.pointer (some (Addr.mk n1 (0 : Nat) none))] (fun v122 w123
  => opB v122 fun b124 => J121 b124 w123) w119) (fun b125 w126 => Bd (bif b120 then b125 else false) fun b127 => J72 [Value.bool b127, Value.bool b73] [Value.agg
  #[Value.int IntKind.u8 x110, Value.int IntKind.u64 x111, Value.int IntKind.u64 x112, Value.int IntKind.u64 x113, Value.int IntKind.u64 x114, Value.int IntKind.i64 x115,
  Value.int IntKind.i64 x116, Value.int IntKind.i64 x117]] w126) w119) w108)) fun J128 => Up [n48, n47] [n48, n47] w27 fun w129 => Up [n48] [n48, n47] (World.drew w129)
  fun w130 => Up [n48] [n48, n47] w130 fun w131 => J128 [] [Value.agg #[Value.int IntKind.u8 x39, Value.int IntKind.u64 (0 : Int), Value.int IntKind.u64 (0 : Int),
  Value.int IntKind.u64 (0 : Int), Value.int IntKind.u64 (0 : Int), Value.int IntKind.i64 x44, Value.int IntKind.i64 x45, Value.int IntKind.i64 (0 : Int)]] w131) (Up
  [n48, n47] [n48, n47] w27 fun w132 => J72 [Value.bool false, Value.bool b73] [Value.agg #[Value.int IntKind.u8 x39, Value.int IntKind.u64 (0 : Int), Value.int
  IntKind.u64 (0 : Int), Value.int IntKind.u64 (0 : Int), Value.int IntKind.u64 (0 : Int), Value.int IntKind.i64 (0 : Int), Value.int IntKind.i64 (0 : Int), Value.int
  IntKind.i64 (0 : Int)]] w132)))) (R (Value.bool true) w27)) [Value.bool false, Value.int IntKind.i64 (0 : Int)] [] w15)) w6) w2
theorem f81_eq (p0_0 : Int) (p0_1a : Option Addr) (p0_1n : Nat) (p0_1c : Nat) (R : Value → World → Prop) (w : World) : fnW Try.prog [5, 6, 400013, 400016] Try.f81
  [Value.agg #[Value.int IntKind.i64 p0_0, Value.slice p0_1a p0_1n p0_1c]] R w = f81_vc p0_0 p0_1a p0_1n p0_1c R w := by kernel_rfl
theorem f81_in (p0_0 : Int) (p0_1a : Option Addr) (p0_1n : Nat) (p0_1c : Nat) (R : Value → World → Prop) (w : World) (h : f81_vc p0_0 p0_1a p0_1n p0_1c R w) : Ct Try.prog
  81 #[Value.agg #[Value.int IntKind.i64 p0_0, Value.slice p0_1a p0_1n p0_1c]] w R := by
  refine Ct_of (rk := [5, 6, 400013, 400016]) (fn := Try.f81) (args := [Value.agg #[Value.int IntKind.i64 p0_0, Value.slice p0_1a p0_1n p0_1c]]) mixedT Try.func81 (by kernel_rfl) ?_
  rw [f81_eq]
  exact h
def f82_vc (p0_0 : Int) (p0_1a : Option Addr) (p0_1n : Nat) (p0_1c : Nat) (R : Value → World → Prop) (w : World) : Prop := Rg w fun n1 => Bd ((p0_1n : Nat) : Int) fun x2
  => Bd (decide (x2 < (1 : Int))) fun b3 => Bd (decide (x2 > (20000 : Int))) fun b4 => Bd (bif b3 then true else b4) fun b5 => Bd (decide (p0_0 < (0 : Int))) fun b6 => Bd
  (bif b5 then true else b6) fun b7 => Bd (decide (p0_0 ≥ x2)) fun b8 => Bd (bif b7 then true else b8) fun b9 => If b9 (Up [] [n1] w fun w10 => R (Value.bool false) w10)
  (Rg w fun n11 => Up [] [n11, n1] w fun w12 => LoopP (fun l13 l14 J15 w16 => opB (nthD l13 (0 : Nat)) fun b17 => opI IntKind.i64 (nthD l13 (1 : Nat)) fun x18 => Bd
  (decide (x18 < x2)) fun b19 => If b19 (IxOk x18 p0_1n p0_1a ∧ Ld w16 (Addr.add (adAt p0_1a x18 (8 : Nat)) (0 : Nat)) fun v20 => Ld w16 (Addr.add (adAt p0_1a x18 (8 :
  Nat)) (1 : Nat)) fun v21 => Ld w16 (Addr.add (adAt p0_1a x18 (8 : Nat)) (2 : Nat)) fun v22 => Ld w16 (Addr.add (adAt p0_1a x18 (8 : Nat)) (3 : Nat)) fun v23 => Ld w16
  (Addr.add (adAt p0_1a x18 (8 : Nat)) (4 : Nat)) fun v24 => Ld w16 (Addr.add (adAt p0_1a x18 (8 : Nat)) (5 : Nat)) fun v25 => Ld w16 (Addr.add (adAt p0_1a x18 (8 : Nat))
  (6 : Nat)) fun v26 => Ld w16 (Addr.add (adAt p0_1a x18 (8 : Nat)) (7 : Nat)) fun v27 => opI IntKind.u8 v20 fun x28 => opI IntKind.u64 v21 fun x29 => opI IntKind.u64 v22
  fun x30 => opI IntKind.u64 v23 fun x31 => opI IntKind.u64 v24 fun x32 => opI IntKind.i64 v25 fun x33 => opI IntKind.i64 v26 fun x34 => opI IntKind.i64 v27 fun x35 => Rg
  w16 fun n36 => Bd (decide (x28 > (2 : Int))) fun b37 => Bd (decide (x33 < (0 : Int))) fun b38 => Bd (bif b37 then true else b38) fun b39 => Bd (decide (x33 ≥ x2)) fun
  b40 => Bd (bif b39 then true else b40) fun b41 => Bd (decide (x34 < (0 : Int))) fun b42 => Bd (bif b41 then true else b42) fun b43 => Bd (decide (x34 ≥ x2)) fun b44 =>
  Bd (bif b43 then true else b44) fun b45 => If b45 (Up [n36] [n36, n11, n1] w16 fun w46 => R (Value.bool false) w46) (Bd (x28 == (0 : Int)) fun b47 => Up [n36] [n36,
  n11, n1] w16 fun w48 => Gd b47 false (fun J49 => RunW Try.prog [n36, n11, n1] (eqS BinOp.neq (28 : Nat) (Operand.tmp (67 : Nat)) (Operand.tmp (68 : Nat)) (Value.agg
  #[Value.int IntKind.u64 x29, Value.int IntKind.u64 x30, Value.int IntKind.u64 x31, Value.int IntKind.u64 x32]) (Value.agg #[Value.int IntKind.u64 (0 : Int), Value.int
  IntKind.u64 (0 : Int), Value.int IntKind.u64 (0 : Int), Value.int IntKind.u64 (0 : Int)])) (fun v50 w51 => opB v50 fun b52 => J49 b52 w51) w48) (fun b53 w54 => Bd (x33
  != (0 : Int)) fun b55 => Bd (bif b53 then true else b55) fun b56 => Bd (x34 != (0 : Int)) fun b57 => Bd (bif b56 then true else b57) fun b58 => Bd (decide (x35 < (0 :
  Int))) fun b59 => Bd (bif b58 then true else b59) fun b60 => Bd (decide (x35 > (199 : Int))) fun b61 => Bd (bif b60 then true else b61) fun b62 => Bd (bif b47 then b62
  else false) fun b63 => If b63 (R (Value.bool false) w54) (Bd (x28 == (1 : Int)) fun b64 => Gd b64 false (fun J65 => RunW Try.prog [n36, n11, n1] (eqS BinOp.eql (28 :
  Nat) (Operand.tmp (96 : Nat)) (Operand.tmp (97 : Nat)) (Value.agg #[Value.int IntKind.u64 x29, Value.int IntKind.u64 x30, Value.int IntKind.u64 x31, Value.int
  IntKind.u64 x32]) (Value.agg #[Value.int IntKind.u64 (0 : Int), Value.int IntKind.u64 (0 : Int), Value.int IntKind.u64 (0 : Int), Value.int IntKind.u64 (0 : Int)]))
  (fun v66 w67 => opB v66 fun b68 => J65 b68 w67) w54) (fun b69 w70 => Bd (x34 != (0 : Int)) fun b71 => Bd (bif b69 then true else b71) fun b72 => Bd (x35 != (0 : Int))
  fun b73 => Bd (bif b72 then true else b73) fun b74 => Bd (bif b64 then b74 else false) fun b75 => If b75 (R (Value.bool false) w70) (Bd (x28 == (2 : Int)) fun b76 => Gd
  b76 false (fun J77 => RunW Try.prog [n36, n11, n1] (eqS BinOp.neq (28 : Nat) (Operand.tmp (115 : Nat)) (Operand.tmp (116 : Nat)) (Value.agg #[Value.int IntKind.u64 x29,
  Value.int IntKind.u64 x30, Value.int IntKind.u64 x31, Value.int IntKind.u64 x32]) (Value.agg #[Value.int IntKind.u64 (0 : Int), Value.int IntKind.u64 (0 : Int),
  Value.int IntKind.u64 (0 : Int), Value.int IntKind.u64 (0 : Int)])) (fun v78 w79 => opB v78 fun b80 => J77 b80 w79) w70) (fun b81 w82 => Bd (x35 != (0 : Int)) fun b83
  => Bd (bif b81 then true else b83) fun b84 => Bd (bif b76 then b84 else false) fun b85 => If b85 (R (Value.bool false) w82) (Bd (IntKind.wrap IntKind.i64 (x18 + (1 :
  Int))) fun x86 => J15 [Value.bool b17, Value.int IntKind.i64 x86] [] w82)) w70)) w54)) w48)) (R (Value.bool true) w16)) [Value.bool false, Value.int IntKind.i64 (0 :
  Int)] [] w12)
theorem f82_eq (p0_0 : Int) (p0_1a : Option Addr) (p0_1n : Nat) (p0_1c : Nat) (R : Value → World → Prop) (w : World) : fnW Try.prog [1, 4, 6] Try.f82 [Value.agg
  #[Value.int IntKind.i64 p0_0, Value.slice p0_1a p0_1n p0_1c]] R w = f82_vc p0_0 p0_1a p0_1n p0_1c R w := by kernel_rfl
theorem f82_in (p0_0 : Int) (p0_1a : Option Addr) (p0_1n : Nat) (p0_1c : Nat) (R : Value → World → Prop) (w : World) (h : f82_vc p0_0 p0_1a p0_1n p0_1c R w) : Ct Try.prog
  82 #[Value.agg #[Value.int IntKind.i64 p0_0, Value.slice p0_1a p0_1n p0_1c]] w R := by
  refine Ct_of (rk := [1, 4, 6]) (fn := Try.f82) (args := [Value.agg #[Value.int IntKind.i64 p0_0, Value.slice p0_1a p0_1n p0_1c]]) mixedT Try.func82 (by kernel_rfl) ?_
  rw [f82_eq]
  exact h
def f186_vc (p0 : Int) (q0 : Addr) (R : Value → World → Prop) (w : World) : Prop := Bd (decide (p0 ≥ (0 : Int))) fun b1 => Gd b1 (none, (0 : Nat), (0 : Nat)) (fun J2 =>
  Ld w (Addr.add q0 (1 : Nat)) fun v3 => opL v3 fun a4 n5 n6 => J2 (a4, n5, n6) w) (fun u7 w8 => Bd ↑(Prod.fst (Prod.snd u7)) fun x9 => Bd (decide (p0 < x9)) fun b10 =>
  Bd (bif b1 then b10 else false) fun b11 => R (Value.bool b11) w8) w
theorem f186_eq (p0 : Int) (q0 : Addr) (R : Value → World → Prop) (w : World) : fnW Try.prog [] Try.f186 [Value.int IntKind.i64 p0, Value.pointer (some q0)] R w = f186_vc
  p0 q0 R w := by kernel_rfl
theorem f186_in (p0 : Int) (q0 : Addr) (R : Value → World → Prop) (w : World) (h : f186_vc p0 q0 R w) : Ct Try.prog 186 #[Value.int IntKind.i64 p0, Value.pointer (some
  q0)] w R := by
  refine Ct_of (rk := []) (fn := Try.f186) (args := [Value.int IntKind.i64 p0, Value.pointer (some q0)]) mixedT Try.func186 (by kernel_rfl) ?_
  rw [f186_eq]
  exact h
end Fk

/- Conditions of functions, as the generator works them out; each one is checked by the kernel. -/
set_option linter.unusedVariables false
set_option maxRecDepth 1000000
set_option maxHeartbeats 4000000
namespace Fk
open Go Go.Proofs Go.RowKit
def f165_vc (p0 : Option Addr) (R : Value → World → Prop) (w : World) : Prop := Dr (World.drew w) fun J1 => NN p0 fun A2 => ∃ v3, (∀ (w4 : World), J1 w4 → Ld w4 (Addr.add
  A2 (0 : Nat)) fun v6 => v6 = v3) ∧ opL v3 fun a7 n8 n9 => Bd ((n8 : Nat) : Int) fun x10 => NN p0 fun A11 => ∃ v12, (∀ (w13 : World), J1 w13 → Ld w13 (Addr.add A11 (1 :
  Nat)) fun v15 => v15 = v12) ∧ opI IntKind.i64 v12 fun x16 => Bd (decide (x10 > x16)) fun b17 => R (Value.bool b17) (World.drew w)
theorem f165_eq (p0 : Option Addr) (R : Value → World → Prop) (w : World) : fnW Try.prog [100001] Try.f165 [Value.pointer p0] R w = f165_vc p0 R w := by kernel_rfl
theorem f165_in (p0 : Option Addr) (R : Value → World → Prop) (w : World) (h : f165_vc p0 R w) : Ct Try.prog 165 #[Value.pointer p0] w R := by
  refine Ct_of (rk := [100001]) (fn := Try.f165) (args := [Value.pointer p0]) mixedT Try.func165 (by kernel_rfl) ?_
  rw [f165_eq]
  exact h
def f164_vc (p0 : Option Addr) (p1_0 : Int) (p1_1 : Int) (p1_2 : Int) (p1_3 : Int) (p1_4 : Int) (p1_5 : Int) (p1_6 : Int) (p1_7 : Int) (R : Value → World → Prop) (w :
  World) : Prop := Rg w fun n1 => Jn (fun l2 l3 w4 => NN p0 fun A5 => Ld w4 (Addr.add A5 (0 : Nat)) fun v6 => opL v6 fun a7 n8 n9 => Bd ((n8 : Nat) : Int) fun x10 => Bd
  (IntKind.wrap IntKind.i64 (x10 - (1 : Int))) fun x11 => R (Value.int IntKind.i64 x11) w4) fun J12 => Up [] [n1] w fun w13 => Dr (World.drew w13) fun J14 => NN p0 fun
  A15 => ∃ v16, (∀ (w17 : World), J14 w17 → Ld w17 (Addr.add A15 (0 : Nat)) fun v19 => v19 = v16) ∧ opL v16 fun a20 n21 n22 => Bd ((n21 : Nat) : Int) fun x23 => NN p0 fun
  A24 => ∃ v25, (∀ (w26 : World), J14 w26 → Ld w26 (Addr.add A24 (1 : Nat)) fun v28 => v28 = v25) ∧ opI IntKind.i64 v25 fun x29 => Bd (decide (x23 ≤ x29)) fun b30 => If
  b30 (NN p0 fun A31 => (Ld (World.drew (World.drew w13)) (Addr.add A31 (0 : Nat)) fun v32 => opL v32 fun a33 n34 n35 => Nw (Obj.cells #[Value.int IntKind.u8 p1_0,
  Value.int IntKind.u64 p1_1, Value.int IntKind.u64 p1_2, Value.int IntKind.u64 p1_3, Value.int IntKind.u64 p1_4, Value.int IntKind.i64 p1_5, Value.int IntKind.i64 p1_6,
  Value.int IntKind.i64 p1_7] (103 : Nat)) (World.drew (World.drew w13)) fun n36 w37 => RunW Try.prog [n1] (Builtin.append_ #[(69 : Nat), (69 : Nat)] (69 : Nat)
  #[Value.slice a33 n34 n35, Value.slice (some (Addr.mk n36 (0 : Nat) none)) (1 : Nat) (1 : Nat)]) (fun v38 w39 => opL v38 fun a40 n41 n42 => NN p0 fun A43 => ¬Addr.block
  (Addr.add A43 (0 : Nat)) ∈ [n1] ∧ Wr w39 (Addr.add A43 (0 : Nat)) (1 : Nat) ∧ J12 [] [] (setCells w39 (Addr.add A43 (0 : Nat)) (0 : Nat) [Value.slice a40 n41 n42]))
  w37) ∧ Nw (Obj.cells #[Value.int IntKind.u8 p1_0, Value.int IntKind.u64 p1_1, Value.int IntKind.u64 p1_2, Value.int IntKind.u64 p1_3, Value.int IntKind.u64 p1_4,
  Value.int IntKind.i64 p1_5, Value.int IntKind.i64 p1_6, Value.int IntKind.i64 p1_7] (103 : Nat)) (World.drew (World.drew w13)) fun n44 w45 => Ld w45 (Addr.add A31 (0 :
  Nat)) fun v46 => opL v46 fun a47 n48 n49 => RunW Try.prog [n1] (Builtin.append_ #[(69 : Nat), (69 : Nat)] (69 : Nat) #[Value.slice a47 n48 n49, Value.slice (some
  (Addr.mk n44 (0 : Nat) none)) (1 : Nat) (1 : Nat)]) (fun v50 w51 => opL v50 fun a52 n53 n54 => NN p0 fun A55 => ¬Addr.block (Addr.add A55 (0 : Nat)) ∈ [n1] ∧ Wr w51
  (Addr.add A55 (0 : Nat)) (1 : Nat) ∧ J12 [] [] (setCells w51 (Addr.add A55 (0 : Nat)) (0 : Nat) [Value.slice a52 n53 n54])) w45) (J12 [] [] (World.drew w13))
theorem f164_eq (p0 : Option Addr) (p1_0 : Int) (p1_1 : Int) (p1_2 : Int) (p1_3 : Int) (p1_4 : Int) (p1_5 : Int) (p1_6 : Int) (p1_7 : Int) (R : Value → World → Prop) (w :
  World) : fnW Try.prog [3, 100001, 400002] Try.f164 [Value.pointer p0, Value.agg #[Value.int IntKind.u8 p1_0, Value.int IntKind.u64 p1_1, Value.int IntKind.u64 p1_2,
  Value.int IntKind.u64 p1_3, Value.int IntKind.u64 p1_4, Value.int IntKind.i64 p1_5, Value.int IntKind.i64 p1_6, Value.int IntKind.i64 p1_7]] R w = f164_vc p0 p1_0 p1_1
  p1_2 p1_3 p1_4 p1_5 p1_6 p1_7 R w := by kernel_rfl
theorem f164_in (p0 : Option Addr) (p1_0 : Int) (p1_1 : Int) (p1_2 : Int) (p1_3 : Int) (p1_4 : Int) (p1_5 : Int) (p1_6 : Int) (p1_7 : Int) (R : Value → World → Prop) (w :
  World) (h : f164_vc p0 p1_0 p1_1 p1_2 p1_3 p1_4 p1_5 p1_6 p1_7 R w) : Ct Try.prog 164 #[Value.pointer p0, Value.agg #[Value.int IntKind.u8 p1_0, Value.int IntKind.u64
  p1_1, Value.int IntKind.u64 p1_2, Value.int IntKind.u64 p1_3, Value.int IntKind.u64 p1_4, Value.int IntKind.i64 p1_5, Value.int IntKind.i64 p1_6, Value.int IntKind.i64
  p1_7]] w R := by
  refine Ct_of (rk := [3, 100001, 400002]) (fn := Try.f164) (args := [Value.pointer p0, Value.agg #[Value.int IntKind.u8 p1_0, Value.int IntKind.u64 p1_1, Value.int IntKind.u64 p1_2, Value.int IntKind.u64 p1_3, Value.int IntKind.u64 p1_4, Value.int IntKind.i64 p1_5, Value.int IntKind.i64 p1_6, Value.int IntKind.i64 p1_7]]) mixedT Try.func164 (by kernel_rfl) ?_
  rw [f164_eq]
  exact h
def f163_vc (p0 : Option Addr) (p1_0 : Int) (p1_1 : Int) (p1_2 : Int) (p1_3 : Int) (p1_4 : Int) (p1_5a : Option Addr) (p1_5n : Nat) (p1_5c : Nat) (p2 : Int) (R : Value →
  World → Prop) (w : World) : Prop := Rg w fun n1 => Up [] [n1] w fun w2 => CallW Try.prog [n1] (165 : Nat) #[Value.pointer p0] (fun v3 w4 => opB v3 fun b5 => If b5 (R
  (Value.int IntKind.i64 p2) w4) (Bd ((p1_5n : Nat) : Int) fun x6 => Bd (IntKind.wrap IntKind.i64 (x6 - (1 : Int))) fun x7 => Jn (fun l8 l9 w10 => opI IntKind.i64 (nthD
  l8 (0 : Nat)) fun x11 => opI IntKind.i64 (nthD l8 (1 : Nat)) fun x12 => opB (nthD l8 (2 : Nat)) fun b13 => opB (nthD l8 (3 : Nat)) fun b14 => R (Value.int IntKind.i64
  x11) w10) fun J15 => Bd (p1_0 == (1 : Int)) fun b16 => If b16 (CallW Try.prog [n1] (164 : Nat) #[Value.pointer p0, Value.agg #[Value.int IntKind.u8 (1 : Int), Value.int
  IntKind.u64 p1_1, Value.int IntKind.u64 p1_2, Value.int IntKind.u64 p1_3, Value.int IntKind.u64 p1_4, Value.int IntKind.i64 p2, Value.int IntKind.i64 (0 : Int),
  Value.int IntKind.i64 (0 : Int)]] (fun v17 w18 => opI IntKind.i64 v17 fun x19 => R (Value.int IntKind.i64 x19) w18) w4) (Bd (p1_0 == (2 : Int)) fun b20 => If b20 (LoopP
  (fun l21 l22 J23 w24 => opI IntKind.i64 (nthD l21 (0 : Nat)) fun x25 => opI IntKind.i64 (nthD l21 (1 : Nat)) fun x26 => Bd (decide (x26 ≥ (0 : Int))) fun b27 => If b27
  (IxOk x26 p1_5n p1_5a ∧ Ld w24 (Addr.add (adAt p1_5a x26 (6 : Nat)) (0 : Nat)) fun v28 => Ld w24 (Addr.add (adAt p1_5a x26 (6 : Nat)) (1 : Nat)) fun v29 => Ld w24
  (Addr.add (adAt p1_5a x26 (6 : Nat)) (2 : Nat)) fun v30 => Ld w24 (Addr.add (adAt p1_5a x26 (6 : Nat)) (3 : Nat)) fun v31 => Ld w24 (Addr.add (adAt p1_5a x26 (6 : Nat))
  (4 : Nat)) fun v32 => Ld w24 (Addr.add (adAt p1_5a x26 (6 : Nat)) (5 : Nat)) fun v33 => opI IntKind.u8 v28 fun x34 => opI IntKind.u64 v29 fun x35 => opI IntKind.u64 v30
  fun x36 => opI IntKind.u64 v31 fun x37 => opI IntKind.u64 v32 fun x38 => opL v33 fun a39 n40 n41 => CallW Try.prog [n1] (163 : Nat) #[Value.pointer p0, Value.agg
  #[Value.int IntKind.u8 x34, Value.int IntKind.u64 x35, Value.int IntKind.u64 x36, Value.int IntKind.u64 x37, Value.int IntKind.u64 x38, Value.slice a39 n40 n41],
  Value.int IntKind.i64 x25] (fun v42 w43 => opI IntKind.i64 v42 fun x44 => Bd (IntKind.wrap IntKind.i64 (x26 - (1 : Int))) fun x45 => J23 [Value.int IntKind.i64 x44,
  Value.int IntKind.i64 x45] [] w43) w24) (J15 [Value.int IntKind.i64 x25, Value.int IntKind.i64 (0 : Int), Value.bool b16, Value.bool b20] [] w24)) [Value.int
  IntKind.i64 p2, Value.int IntKind.i64 x7] [] w4) (Bd (p1_0 == (3 : Int)) fun b46 => If b46 (IxOk x7 p1_5n p1_5a ∧ Ld w4 (Addr.add (adAt p1_5a x7 (6 : Nat)) (0 : Nat))
  fun v47 => Ld w4 (Addr.add (adAt p1_5a x7 (6 : Nat)) (1 : Nat)) fun v48 => Ld w4 (Addr.add (adAt p1_5a x7 (6 : Nat)) (2 : Nat)) fun v49 => Ld w4 (Addr.add (adAt p1_5a
  x7 (6 : Nat)) (3 : Nat)) fun v50 => Ld w4 (Addr.add (adAt p1_5a x7 (6 : Nat)) (4 : Nat)) fun v51 => Ld w4 (Addr.add (adAt p1_5a x7 (6 : Nat)) (5 : Nat)) fun v52 => opI
  IntKind.u8 v47 fun x53 => opI IntKind.u64 v48 fun x54 => opI IntKind.u64 v49 fun x55 => opI IntKind.u64 v50 fun x56 => opI IntKind.u64 v51 fun x57 => opL v52 fun a58
  n59 n60 => CallW Try.prog [n1] (163 : Nat) #[Value.pointer p0, Value.agg #[Value.int IntKind.u8 x53, Value.int IntKind.u64 x54, Value.int IntKind.u64 x55, Value.int
  IntKind.u64 x56, Value.int IntKind.u64 x57, Value.slice a58 n59 n60], Value.int IntKind.i64 p2] (fun v61 w62 => opI IntKind.i64 v61 fun x63 => Bd (IntKind.wrap
  IntKind.i64 (x7 - (1 : Int))) fun x64 => LoopP (fun l65 l66 J67 w68 => opI IntKind.i64 (nthD l65 (0 : Nat)) fun x69 => opI IntKind.i64 (nthD l65 (1 : Nat)) fun x70 =>
  Bd (decide (x70 ≥ (0 : Int))) fun b71 => If b71 (IxOk x70 p1_5n p1_5a ∧ Ld w68 (Addr.add (adAt p1_5a x70 (6 : Nat)) (0 : Nat)) fun v72 => Ld w68 (Addr.add (adAt p1_5a
  x70 (6 : Nat)) (1 : Nat)) fun v73 => Ld w68 (Addr.add (adAt p1_5a x70 (6 : Nat)) (2 : Nat)) fun v74 => Ld w68 (Addr.add (adAt p1_5a x70 (6 : Nat)) (3 : Nat)) fun v75 =>
  Ld w68 (Addr.add (adAt p1_5a x70 (6 : Nat)) (4 : Nat)) fun v76 => Ld w68 (Addr.add (adAt p1_5a x70 (6 : Nat)) (5 : Nat)) fun v77 => opI IntKind.u8 v72 fun x78 => opI
  IntKind.u64 v73 fun x79 => opI IntKind.u64 v74 fun x80 => opI IntKind.u64 v75 fun x81 => opI IntKind.u64 v76 fun x82 => opL v77 fun a83 n84 n85 => CallW Try.prog [n1]
  (163 : Nat) #[Value.pointer p0, Value.agg #[Value.int IntKind.u8 x78, Value.int IntKind.u64 x79, Value.int IntKind.u64 x80, Value.int IntKind.u64 x81, Value.int
  IntKind.u64 x82, Value.slice a83 n84 n85], Value.int IntKind.i64 p2] (fun v86 w87 => opI IntKind.i64 v86 fun x88 => CallW Try.prog [n1] (164 : Nat) #[Value.pointer p0,
  Value.agg #[Value.int IntKind.u8 (2 : Int), Value.int IntKind.u64 (0 : Int), Value.int IntKind.u64 (0 : Int), Value.int IntKind.u64 (0 : Int), Value.int IntKind.u64 (0
  : Int), Value.int IntKind.i64 x88, Value.int IntKind.i64 x69, Value.int IntKind.i64 (0 : Int)]] (fun v89 w90 => opI IntKind.i64 v89 fun x91 => Bd (IntKind.wrap
  IntKind.i64 (x70 - (1 : Int))) fun x92 => J67 [Value.int IntKind.i64 x91, Value.int IntKind.i64 x92] [] w90) w87) w68) (R (Value.int IntKind.i64 x69) w68)) [Value.int
  IntKind.i64 x63, Value.int IntKind.i64 x64] [] w62) w4) (Bd (p1_0 == (4 : Int)) fun b93 => If b93 (CallW Try.prog [n1] (164 : Nat) #[Value.pointer p0, Value.agg
  #[Value.int IntKind.u8 (2 : Int), Value.int IntKind.u64 (0 : Int), Value.int IntKind.u64 (0 : Int), Value.int IntKind.u64 (0 : Int), Value.int IntKind.u64 (0 : Int),
  Value.int IntKind.i64 (0 : Int), Value.int IntKind.i64 p2, Value.int IntKind.i64 (0 : Int)]] (fun v94 w95 => opI IntKind.i64 v94 fun x96 => IxOk (0 : Int) p1_5n p1_5a ∧
  Ld w95 (Addr.add (adAt p1_5a (0 : Int) (6 : Nat)) (0 : Nat)) fun v97 => Ld w95 (Addr.add (adAt p1_5a (0 : Int) (6 : Nat)) (1 : Nat)) fun v98 => Ld w95 (Addr.add (adAt
  p1_5a (0 : Int) (6 : Nat)) (2 : Nat)) fun v99 => Ld w95 (Addr.add (adAt p1_5a (0 : Int) (6 : Nat)) (3 : Nat)) fun v100 => Ld w95 (Addr.add (adAt p1_5a (0 : Int) (6 :
  Nat)) (4 : Nat)) fun v101 => Ld w95 (Addr.add (adAt p1_5a (0 : Int) (6 : Nat)) (5 : Nat)) fun v102 => opI IntKind.u8 v97 fun x103 => opI IntKind.u64 v98 fun x104 => opI
  IntKind.u64 v99 fun x105 => opI IntKind.u64 v100 fun x106 => opI IntKind.u64 v101 fun x107 => opL v102 fun a108 n109 n110 => CallW Try.prog [n1] (163 : Nat)
  #[Value.pointer p0, Value.agg #[Value.int IntKind.u8 x103, Value.int IntKind.u64 x104, Value.int IntKind.u64 x105, Value.int IntKind.u64 x106, Value.int IntKind.u64
  x107, Value.slice a108 n109 n110], Value.int IntKind.i64 x96] (fun v111 w112 => opI IntKind.i64 v111 fun x113 => NN p0 fun A114 => Ld w112 (Addr.add A114 (0 : Nat)) fun
  v115 => opL v115 fun a116 n117 n118 => IxOk x96 n117 a116 ∧ ¬Addr.block (adAt a116 x96 (8 : Nat)) ∈ [n1] ∧ Wr w112 (Addr.add (adAt a116 x96 (8 : Nat)) (5 : Nat)) (1 :
  Nat) ∧ R (Value.int IntKind.i64 x96) (setCells w112 (Addr.add (adAt a116 x96 (8 : Nat)) (5 : Nat)) (0 : Nat) [Value.int IntKind.i64 x113])) w95) w4) (J15 [Value.int
  IntKind.i64 p2, Value.int IntKind.i64 (0 : Int), Value.bool b16, Value.bool b20] [] w4)))))) w2
theorem f163_eq (p0 : Option Addr) (p1_0 : Int) (p1_1 : Int) (p1_2 : Int) (p1_3 : Int) (p1_4 : Int) (p1_5a : Option Addr) (p1_5n : Nat) (p1_5c : Nat) (p2 : Int) (R :
  Value → World → Prop) (w : World) : fnW Try.prog [4] Try.f163 [Value.pointer p0, Value.agg #[Value.int IntKind.u8 p1_0, Value.int IntKind.u64 p1_1, Value.int
  IntKind.u64 p1_2, Value.int IntKind.u64 p1_3, Value.int IntKind.u64 p1_4, Value.slice p1_5a p1_5n p1_5c], Value.int IntKind.i64 p2] R w = f163_vc p0 p1_0 p1_1 p1_2 p1_3
  p1_4 p1_5a p1_5n p1_5c p2 R w := by kernel_rfl
theorem f163_in (p0 : Option Addr) (p1_0 : Int) (p1_1 : Int) (p1_2 : Int) (p1_3 : Int) (p1_4 : Int) (p1_5a : Option Addr) (p1_5n : Nat) (p1_5c : Nat) (p2 : Int) (R :
  Value → World → Prop) (w : World) (h : f163_vc p0 p1_0 p1_1 p1_2 p1_3 p1_4 p1_5a p1_5n p1_5c p2 R w) : Ct Try.prog 163 #[Value.pointer p0, Value.agg #[Value.int
  IntKind.u8 p1_0, Value.int IntKind.u64 p1_1, Value.int IntKind.u64 p1_2, Value.int IntKind.u64 p1_3, Value.int IntKind.u64 p1_4, Value.slice p1_5a p1_5n p1_5c],
  Value.int IntKind.i64 p2] w R := by
  refine Ct_of (rk := [4]) (fn := Try.f163) (args := [Value.pointer p0, Value.agg #[Value.int IntKind.u8 p1_0, Value.int IntKind.u64 p1_1, Value.int IntKind.u64 p1_2, Value.int IntKind.u64 p1_3, Value.int IntKind.u64 p1_4, Value.slice p1_5a p1_5n p1_5c], Value.int IntKind.i64 p2]) mixedT Try.func163 (by kernel_rfl) ?_
  rw [f163_eq]
  exact h
def f66_vc (p0a : Option Addr) (p0n : Nat) (p0c : Nat) (p1 : Int) (R : Value → World → Prop) (w : World) : Prop := Rg w fun n1 => Bd ((p0n : Nat) : Int) fun x2 => Bd
  (decide (x2 ≥ (1 : Int))) fun b3 => Bd ((p0n : Nat) : Int) fun x4 => Bd (decide (x4 ≤ (200 : Int))) fun b5 => Bd (bif b3 then b5 else false) fun b6 => Bd (decide (p1 ≥
  (1 : Int))) fun b7 => Bd (bif b6 then b7 else false) fun b8 => Bd (decide (p1 ≤ (20000 : Int))) fun b9 => Bd (bif b8 then b9 else false) fun b10 => Up [] [n1] w fun w11
  => LoopP (fun l12 l13 J14 w15 => opB (nthD l12 (0 : Nat)) fun b16 => opI IntKind.i64 (nthD l12 (1 : Nat)) fun x17 => Bd ((p0n : Nat) : Int) fun x18 => Bd (decide (x17 <
  x18)) fun b19 => Bd (bif b19 then b16 else false) fun b20 => If b20 (IxOk x17 p0n p0a ∧ Ld w15 (Addr.add (adAt p0a x17 (6 : Nat)) (0 : Nat)) fun v21 => Ld w15 (Addr.add
  (adAt p0a x17 (6 : Nat)) (1 : Nat)) fun v22 => Ld w15 (Addr.add (adAt p0a x17 (6 : Nat)) (2 : Nat)) fun v23 => Ld w15 (Addr.add (adAt p0a x17 (6 : Nat)) (3 : Nat)) fun
  v24 => Ld w15 (Addr.add (adAt p0a x17 (6 : Nat)) (4 : Nat)) fun v25 => Ld w15 (Addr.add (adAt p0a x17 (6 : Nat)) (5 : Nat)) fun v26 => opI IntKind.u8 v21 fun x27 => opI
  IntKind.u64 v22 fun x28 => opI IntKind.u64 v23 fun x29 => opI IntKind.u64 v24 fun x30 => opI IntKind.u64 v25 fun x31 => opL v26 fun a32 n33 n34 => CallW Try.prog [n1]
  (144 : Nat) #[Value.agg #[Value.int IntKind.u8 x27, Value.int IntKind.u64 x28, Value.int IntKind.u64 x29, Value.int IntKind.u64 x30, Value.int IntKind.u64 x31,
  Value.slice a32 n33 n34]] (fun v35 w36 => opB v35 fun b37 => Bd (IntKind.wrap IntKind.i64 (x17 + (1 : Int))) fun x38 => J14 [Value.bool b37, Value.int IntKind.i64 x38]
  [] w36) w15) (Bd (!b16) fun b39 => If b39 (Up [n1] [n1] w15 fun w40 => R (Value.tuple #[Value.agg #[Value.int IntKind.i64 (0 : Int), Value.slice none (0 : Nat) (0 :
  Nat)], Value.int IntKind.i64 (2 : Int)]) w40) (Nw (Obj.cells #[Value.slice none (0 : Nat) (0 : Nat), Value.int IntKind.i64 p1] (214 : Nat)) w15 fun n41 w42 => Bd ((p0n
  : Nat) : Int) fun x43 => LoopP (fun l44 l45 J46 w47 => opL (nthD l44 (0 : Nat)) fun a48 n49 n50 => opI IntKind.i64 (nthD l44 (1 : Nat)) fun x51 => Bd (decide (x51 <
  x43)) fun b52 => If b52 (IxOk x51 p0n p0a ∧ Ld w47 (Addr.add (adAt p0a x51 (6 : Nat)) (0 : Nat)) fun v53 => Ld w47 (Addr.add (adAt p0a x51 (6 : Nat)) (1 : Nat)) fun v54
  => Ld w47 (Addr.add (adAt p0a x51 (6 : Nat)) (2 : Nat)) fun v55 => Ld w47 (Addr.add (adAt p0a x51 (6 : Nat)) (3 : Nat)) fun v56 => Ld w47 (Addr.add (adAt p0a x51 (6 :
  Nat)) (4 : Nat)) fun v57 => Ld w47 (Addr.add (adAt p0a x51 (6 : Nat)) (5 : Nat)) fun v58 => opI IntKind.u8 v53 fun x59 => opI IntKind.u64 v54 fun x60 => opI IntKind.u64
  v55 fun x61 => opI IntKind.u64 v56 fun x62 => opI IntKind.u64 v57 fun x63 => opL v58 fun a64 n65 n66 => Rg w47 fun n67 => Up [n67] [n67, n1] w47 fun w68 => Dr
  (World.drew w68) fun J69 => CallW Try.prog [n67, n1] (164 : Nat) #[Value.pointer (some (Addr.mk n41 (0 : Nat) none)), Value.agg #[Value.int IntKind.u8 (0 : Int),
  Value.int IntKind.u64 (0 : Int), Value.int IntKind.u64 (0 : Int), Value.int IntKind.u64 (0 : Int), Value.int IntKind.u64 (0 : Int), Value.int IntKind.i64 (0 : Int),
  Value.int IntKind.i64 (0 : Int), Value.int IntKind.i64 x51]] (fun v70 w71 => opI IntKind.i64 v70 fun x72 => J69 w71 ∧ CallW Try.prog [n67, n1] (163 : Nat)
  #[Value.pointer (some (Addr.mk n41 (0 : Nat) none)), Value.agg #[Value.int IntKind.u8 x59, Value.int IntKind.u64 x60, Value.int IntKind.u64 x61, Value.int IntKind.u64
  x62, Value.int IntKind.u64 x63, Value.slice a64 n65 n66], Value.int IntKind.i64 x72] (fun v73 w74 => opI IntKind.i64 v73 fun x75 => J69 w74 ∧ Nw (Obj.cells #[Value.int
  IntKind.i64 x75] (3 : Nat)) w74 fun n76 w77 => J69 w77 ∧ RunW Try.prog [n67, n1] (Builtin.append_ #[(52 : Nat), (52 : Nat)] (52 : Nat) #[Value.slice a48 n49 n50,
  Value.slice (some (Addr.mk n76 (0 : Nat) none)) (1 : Nat) (1 : Nat)]) (fun v78 w79 => opL v78 fun a80 n81 n82 => J69 w79 ∧ Bd (IntKind.wrap IntKind.i64 (x51 + (1 :
  Int))) fun x83 => J46 [Value.slice a80 n81 n82, Value.int IntKind.i64 x83] [] w79) w77) w71) (World.drew w68)) (Bd ((p0n : Nat) : Int) fun x84 => Bd (IntKind.wrap
  IntKind.i64 (x84 - (1 : Int))) fun x85 => IxOk x85 n49 a48 ∧ Ld w47 (adAt a48 x85 (1 : Nat)) fun v86 => opI IntKind.i64 v86 fun x87 => Bd ((p0n : Nat) : Int) fun x88 =>
  Bd (IntKind.wrap IntKind.i64 (x88 - (2 : Int))) fun x89 => LoopP (fun l90 l91 J92 w93 => opI IntKind.i64 (nthD l90 (0 : Nat)) fun x94 => opI IntKind.i64 (nthD l90 (1 :
  Nat)) fun x95 => Bd (decide (x95 ≥ (0 : Int))) fun b96 => If b96 (IxOk x95 n49 a48 ∧ Ld w93 (adAt a48 x95 (1 : Nat)) fun v97 => opI IntKind.i64 v97 fun x98 => CallW
  Try.prog [n1] (164 : Nat) #[Value.pointer (some (Addr.mk n41 (0 : Nat) none)), Value.agg #[Value.int IntKind.u8 (2 : Int), Value.int IntKind.u64 (0 : Int), Value.int
  IntKind.u64 (0 : Int), Value.int IntKind.u64 (0 : Int), Value.int IntKind.u64 (0 : Int), Value.int IntKind.i64 x98, Value.int IntKind.i64 x94, Value.int IntKind.i64 (0
  : Int)]] (fun v99 w100 => opI IntKind.i64 v99 fun x101 => Bd (IntKind.wrap IntKind.i64 (x95 - (1 : Int))) fun x102 => J92 [Value.int IntKind.i64 x101, Value.int
  IntKind.i64 x102] [] w100) w93) (CallW Try.prog [n1] (165 : Nat) #[Value.pointer (some (Addr.mk n41 (0 : Nat) none))] (fun v103 w104 => opB v103 fun b105 => If b105 (Up
  [n1] [n1] w104 fun w106 => R (Value.tuple #[Value.agg #[Value.int IntKind.i64 (0 : Int), Value.slice none (0 : Nat) (0 : Nat)], Value.int IntKind.i64 (40 : Int)]) w106)
  (NN (some (Addr.mk n41 (0 : Nat) none)) fun A107 => Ld w104 (Addr.add A107 (0 : Nat)) fun v108 => opL v108 fun a109 n110 n111 => Up [n1] [n1] w104 fun w112 => R
  (Value.tuple #[Value.agg #[Value.int IntKind.i64 x94, Value.slice a109 n110 n111], Value.int IntKind.i64 (0 : Int)]) w112)) w93)) [Value.int IntKind.i64 x87, Value.int
  IntKind.i64 x89] [] w47)) [Value.slice none (0 : Nat) (0 : Nat), Value.int IntKind.i64 (0 : Int)] [] w42))) [Value.bool b10, Value.int IntKind.i64 (0 : Int)] [] w11
theorem f66_eq (p0a : Option Addr) (p0n : Nat) (p0c : Nat) (p1 : Int) (R : Value → World → Prop) (w : World) : fnW Try.prog [4, 11, 100013] Try.f66 [Value.slice p0a p0n
  p0c, Value.int IntKind.i64 p1] R w = f66_vc p0a p0n p0c p1 R w := by kernel_rfl
theorem f66_in (p0a : Option Addr) (p0n : Nat) (p0c : Nat) (p1 : Int) (R : Value → World → Prop) (w : World) (h : f66_vc p0a p0n p0c p1 R w) : Ct Try.prog 66
  #[Value.slice p0a p0n p0c, Value.int IntKind.i64 p1] w R := by
  refine Ct_of (rk := [4, 11, 100013]) (fn := Try.f66) (args := [Value.slice p0a p0n p0c, Value.int IntKind.i64 p1]) mixedT Try.func66 (by kernel_rfl) ?_
  rw [f66_eq]
  exact h
def f68_vc (p0 : ByteArray) (p1 : Int) (R : Value → World → Prop) (w : World) : Prop := Bd (((ByteArray.size p0) : Nat) : Int) fun x1 => Bd (if p1 < x1 then p1 else x1)
  fun x2 => RunW Try.prog [] (Instr.sliceAt (9 : Nat) (Value.string p0) none (some (Value.int IntKind.i64 x2)) none) (fun v3 w4 => opStr v3 fun s5 => R (Value.string s5)
  w4) w
theorem f68_eq (p0 : ByteArray) (p1 : Int) (R : Value → World → Prop) (w : World) : fnW Try.prog [] Try.f68 [Value.string p0, Value.int IntKind.i64 p1] R w = f68_vc p0 p1
  R w := by kernel_rfl
theorem f68_in (p0 : ByteArray) (p1 : Int) (R : Value → World → Prop) (w : World) (h : f68_vc p0 p1 R w) : Ct Try.prog 68 #[Value.string p0, Value.int IntKind.i64 p1] w R
  := by
  refine Ct_of (rk := []) (fn := Try.f68) (args := [Value.string p0, Value.int IntKind.i64 p1]) mixedT Try.func68 (by kernel_rfl) ?_
  rw [f68_eq]
  exact h
end Fk

