/- Conditions of functions, as the generator works them out; each one is checked by the kernel. -/
import Derived.Test.YtpgjpgecgibklaaGK2
set_option linter.unusedVariables false
set_option maxRecDepth 1000000
set_option maxHeartbeats 4000000
namespace Fk
open Go Go.Proofs Go.RowKit
def f81_vc (p0_0 : Int) (p0_1a : Option Addr) (p0_1n : Nat) (p0_1c : Nat) (R : Value → World → Prop) (w : World) : Prop := Nw (Obj.cells #[Value.int IntKind.i64 p0_0,
  Value.slice p0_1a p0_1n p0_1c] (71 : Nat)) w fun n1 w2 => Ld w2 (Addr.add (Addr.mk n1 (0 : Nat) none) (0 : Nat)) fun v3 => opI IntKind.i64 v3 fun x4 => CallW Try.prog
  [] (186 : Nat) #[Value.int IntKind.i64 x4, Value.pointer (some (Addr.mk n1 (0 : Nat) none))] (fun v5 w6 => opB v5 fun b7 => Bd (!b7) fun b8 => Gd (!b8) (none, (0 :
  Nat), (0 : Nat)) (fun J9 => Ld w6 (Addr.add (Addr.mk n1 (0 : Nat) none) (1 : Nat)) fun v10 => opL v10 fun a11 n12 n13 => J9 (a11, n12, n13) w6) (fun u14 w15 => Bd
  ↑(Prod.fst (Prod.snd u14)) fun x16 => Bd (decide (x16 > (20000 : Int))) fun b17 => Bd (bif b8 then true else b17) fun b18 => If b18 (R (Value.bool false) w15) (Ld w15
  (Addr.add (Addr.mk n1 (0 : Nat) none) (1 : Nat)) fun v19 => opL v19 fun a20 n21 n22 => Bd ((n21 : Nat) : Int) fun x23 => LoopP (fun l24 l25 J26 w27 => opB (nthD l24 (0
  : Nat)) fun b28 => opI IntKind.i64 (nthD l24 (1 : Nat)) fun x29 => Bd (decide (x29 < x23)) fun b30 => If b30 (IxOk x29 n21 a20 ∧ Ld w27 (Addr.add (adAt a20 x29 (8 :
  Nat)) (0 : Nat)) fun v31 => Ld w27 (Addr.add (adAt a20 x29 (8 : Nat)) (1 : Nat)) fun v32 => Ld w27 (Addr.add (adAt a20 x29 (8 : Nat)) (2 : Nat)) fun v33 => Ld w27
  (Addr.add (adAt a20 x29 (8 : Nat)) (3 : Nat)) fun v34 => Ld w27 (Addr.add (adAt a20 x29 (8 : Nat)) (4 : Nat)) fun v35 => Ld w27 (Addr.add (adAt a20 x29 (8 : Nat)) (5 :
  Nat)) fun v36 => Ld w27 (Addr.add (adAt a20 x29 (8 : Nat)) (6 : Nat)) fun v37 => Ld w27 (Addr.add (adAt a20 x29 (8 : Nat)) (7 : Nat)) fun v38 => opI IntKind.u8 v31 fun
  x39 => opI IntKind.u64 v32 fun x40 => opI IntKind.u64 v33 fun x41 => opI IntKind.u64 v34 fun x42 => opI IntKind.u64 v35 fun x43 => opI IntKind.i64 v36 fun x44 => opI
  IntKind.i64 v37 fun x45 => opI IntKind.i64 v38 fun x46 => Rg w27 fun n47 => Rg w27 fun n48 => Jn (fun l49 l50 w51 => opB (nthD l49 (0 : Nat)) fun b52 => opB (nthD l49
  (1 : Nat)) fun b53 => opAg (nthD l50 (0 : Nat)) fun cs54 => opI IntKind.u8 (nthD (Array.toList cs54) (0 : Nat)) fun x55 => opI IntKind.u64 (nthD (Array.toList cs54) (1
  : Nat)) fun x56 => opI IntKind.u64 (nthD (Array.toList cs54) (2 : Nat)) fun x57 => opI IntKind.u64 (nthD (Array.toList cs54) (3 : Nat)) fun x58 => opI IntKind.u64 (nthD
  (Array.toList cs54) (4 : Nat)) fun x59 => opI IntKind.i64 (nthD (Array.toList cs54) (5 : Nat)) fun x60 => opI IntKind.i64 (nthD (Array.toList cs54) (6 : Nat)) fun x61
  => opI IntKind.i64 (nthD (Array.toList cs54) (7 : Nat)) fun x62 => SzIs (Array.size cs54) (8 : Nat) (Bd (!b52) fun b63 => Gd (!b63) false (fun J64 => RunW Try.prog
  [n48, n47] (eqS BinOp.neq (103 : Nat) (Operand.tmp (84 : Nat)) (Operand.tmp (85 : Nat)) (Value.agg #[Value.int IntKind.u8 x39, Value.int IntKind.u64 x40, Value.int
  IntKind.u64 x41, Value.int IntKind.u64 x42, Value.int IntKind.u64 x43, Value.int IntKind.i64 x44, Value.int IntKind.i64 x45, Value.int IntKind.i64 x46]) (Value.agg
  #[Value.int IntKind.u8 x55, Value.int IntKind.u64 x56, Value.int IntKind.u64 x57, Value.int IntKind.u64 x58, Value.int IntKind.u64 x59, Value.int IntKind.i64 x60,
  Value.int IntKind.i64 x61, Value.int IntKind.i64 x62])) (fun v65 w66 => opB v65 fun b67 => J64 b67 w66) w51) (fun b68 w69 => Bd (bif b63 then true else b68) fun b70 =>
  If b70 (R (Value.bool false) w69) (Bd (IntKind.wrap IntKind.i64 (x29 + (1 : Int))) fun x71 => J26 [Value.bool b28, Value.int IntKind.i64 x71] [] w69)) w51)) fun J72 =>
  Bd (x39 == (0 : Int)) fun b73 => If b73 (Bd (decide (x46 ≥ (0 : Int))) fun b74 => Bd (decide (x46 < (200 : Int))) fun b75 => Bd (bif b74 then b75 else false) fun b76 =>
  Up [n48, n48, n47] [n48, n47] w27 fun w77 => J72 [Value.bool b76, Value.bool b73] [Value.agg #[Value.int IntKind.u8 x39, Value.int IntKind.u64 (0 : Int), Value.int
  IntKind.u64 (0 : Int), Value.int IntKind.u64 (0 : Int), Value.int IntKind.u64 (0 : Int), Value.int IntKind.i64 (0 : Int), Value.int IntKind.i64 (0 : Int), Value.int
  IntKind.i64 x46]] w77) (Bd (x39 == (1 : Int)) fun b78 => If b78 (Jn (fun l79 l80 w81 => opAg (nthD l80 (0 : Nat)) fun cs82 => opI IntKind.u8 (nthD (Array.toList cs82)
  (0 : Nat)) fun x83 => opI IntKind.u64 (nthD (Array.toList cs82) (1 : Nat)) fun x84 => opI IntKind.u64 (nthD (Array.toList cs82) (2 : Nat)) fun x85 => opI IntKind.u64
  (nthD (Array.toList cs82) (3 : Nat)) fun x86 => opI IntKind.u64 (nthD (Array.toList cs82) (4 : Nat)) fun x87 => opI IntKind.i64 (nthD (Array.toList cs82) (5 : Nat)) fun
  x88 => opI IntKind.i64 (nthD (Array.toList cs82) (6 : Nat)) fun x89 => opI IntKind.i64 (nthD (Array.toList cs82) (7 : Nat)) fun x90 => SzIs (Array.size cs82) (8 : Nat)
  (RunW Try.prog [n48, n47] (eqS BinOp.neq (28 : Nat) (Operand.tmp (54 : Nat)) (Operand.tmp (55 : Nat)) (Value.agg #[Value.int IntKind.u64 x40, Value.int IntKind.u64 x41,
  Value.int IntKind.u64 x42, Value.int IntKind.u64 x43]) (Value.agg #[Value.int IntKind.u64 (0 : Int), Value.int IntKind.u64 (0 : Int), Value.int IntKind.u64 (0 : Int),
  Value.int IntKind.u64 (0 : Int)])) (fun v91 w92 => opB v91 fun b93 => Gd b93 false (fun J94 => CallW Try.prog [n48, n47] (186 : Nat) #[Value.int IntKind.i64 x44,
  Value.pointer (some (Addr.mk n1 (0 : Nat) none))] (fun v95 w96 => opB v95 fun b97 => J94 b97 w96) w92) (fun b98 w99 => Bd (bif b93 then b98 else false) fun b100 => J72
  [Value.bool b100, Value.bool b73] [Value.agg #[Value.int IntKind.u8 x83, Value.int IntKind.u64 x84, Value.int IntKind.u64 x85, Value.int IntKind.u64 x86, Value.int
  IntKind.u64 x87, Value.int IntKind.i64 x88, Value.int IntKind.i64 x89, Value.int IntKind.i64 x90]] w99) w92) w81)) fun J101 => Up [n48, n47] [n48, n47] w27 fun w102 =>
  Up [n48] [n48, n47] (World.drew w102) fun w103 => Up [n48] [n48, n47] w103 fun w104 => J101 [] [Value.agg #[Value.int IntKind.u8 x39, Value.int IntKind.u64 x40,
  Value.int IntKind.u64 x41, Value.int IntKind.u64 x42, Value.int IntKind.u64 x43, Value.int IntKind.i64 x44, Value.int IntKind.i64 (0 : Int), Value.int IntKind.i64 (0 :
  Int)]] w104) (Bd (x39 == (2 : Int)) fun b105 => If b105 (Jn (fun l106 l107 w108 => opAg (nthD l107 (0 : Nat)) fun cs109 => opI IntKind.u8 (nthD (Array.toList cs109) (0
  : Nat)) fun x110 => opI IntKind.u64 (nthD (Array.toList cs109) (1 : Nat)) fun x111 => opI IntKind.u64 (nthD (Array.toList cs109) (2 : Nat)) fun x112 => opI IntKind.u64
  (nthD (Array.toList cs109) (3 : Nat)) fun x113 => opI IntKind.u64 (nthD (Array.toList cs109) (4 : Nat)) fun x114 => opI IntKind.i64 (nthD (Array.toList cs109) (5 :
  Nat)) fun x115 => opI IntKind.i64 (nthD (Array.toList cs109) (6 : Nat)) fun x116 => opI IntKind.i64 (nthD (Array.toList cs109) (7 : Nat)) fun x117 => SzIs (Array.size
  cs109) (8 : Nat) (CallW Try.prog [n48, n47] (186 : Nat) #[Value.int IntKind.i64 x44, Value.pointer (some (Addr.mk n1 (0 : Nat) none))] (fun v118 w119 => opB v118 fun
  b120 => Gd b120 false (fun J121 => CallW Try.prog [n48, n47] (186 : Nat) #[Value.int IntKind.i64 x45, Value.pointer (some (Addr.mk n1 (0 : Nat) none))] (fun v122 w123
  => opB v122 fun b124 => J121 b124 w123) w119) (fun b125 w126 => Bd (bif b120 then b125 else false) fun b127 => J72 [Value.bool b127, Value.bool b73] [Value.agg
  #[Value.int IntKind.u8 x110, Value.int IntKind.u64 x111, Value.int IntKind.u64 x112, Value.int IntKind.u64 x113, Value.int IntKind.u64 x114, Value.int IntKind.i64 x115,
  Value.int IntKind.i64 x116, Value.int IntKind.i64 x117]] w126) w119) w108)) fun J128 => Up [n48, n47] [n48, n47] w27 fun w129 => Up [n48] [n48, n47] (World.drew w129)
  fun w130 => Up [n48] [n48, n47] w130 fun w131 => J128 [] [Value.agg #[Value.int IntKind.u8 x39, Value.int IntKind.u64 (0 : Int), Value.int IntKind.u64 (0 : Int),
  Value.int IntKind.u64 (0 : Int), Value.int IntKind.u64 (0 : Int), Value.int IntKind.i64 x44, Value.int IntKind.i64 x45, Value.int IntKind.i64 (0 : Int)]] w131) (Up
  [n48, n47] [n48, n47] w27 fun w132 => J72 [Value.bool false, Value.bool b73] [Value.agg #[Value.int IntKind.u8 x39, Value.int IntKind.u64 (0 : Int), Value.int
  IntKind.u64 (0 : Int), Value.int IntKind.u64 (0 : Int), Value.int IntKind.u64 (0 : Int), Value.int IntKind.i64 (0 : Int), Value.int IntKind.i64 (0 : Int), Value.int
  IntKind.i64 (0 : Int)]] w132)))) (R (Value.bool true) w27)) [Value.bool false, Value.int IntKind.i64 (0 : Int)] [] w15)) w6) w2
theorem f81_eq (p0_0 : Int) (p0_1a : Option Addr) (p0_1n : Nat) (p0_1c : Nat) (R : Value → World → Prop) (w : World) : fnW Try.prog [5, 6, 400013, 400016] Try.f81
  [Value.agg #[Value.int IntKind.i64 p0_0, Value.slice p0_1a p0_1n p0_1c]] R w = f81_vc p0_0 p0_1a p0_1n p0_1c R w := by kernel_rfl
theorem f81_in (p0_0 : Int) (p0_1a : Option Addr) (p0_1n : Nat) (p0_1c : Nat) (R : Value → World → Prop) (w : World) (h : f81_vc p0_0 p0_1a p0_1n p0_1c R w) : Ct Try.prog
  81 #[Value.agg #[Value.int IntKind.i64 p0_0, Value.slice p0_1a p0_1n p0_1c]] w R := by
  refine Ct_of (rk := [5, 6, 400013, 400016]) (fn := Try.f81) (args := [Value.agg #[Value.int IntKind.i64 p0_0, Value.slice p0_1a p0_1n p0_1c]]) mixedT Try.func81 (by kernel_rfl) ?_
  rw [f81_eq]
  exact h
def f186_vc (p0 : Int) (q0 : Addr) (R : Value → World → Prop) (w : World) : Prop := Bd (decide (p0 ≥ (0 : Int))) fun b1 => Gd b1 (none, (0 : Nat), (0 : Nat)) (fun J2 =>
  Ld w (Addr.add q0 (1 : Nat)) fun v3 => opL v3 fun a4 n5 n6 => J2 (a4, n5, n6) w) (fun u7 w8 => Bd ↑(Prod.fst (Prod.snd u7)) fun x9 => Bd (decide (p0 < x9)) fun b10 =>
  Bd (bif b1 then b10 else false) fun b11 => R (Value.bool b11) w8) w
theorem f186_eq (p0 : Int) (q0 : Addr) (R : Value → World → Prop) (w : World) : fnW Try.prog [] Try.f186 [Value.int IntKind.i64 p0, Value.pointer (some q0)] R w = f186_vc
  p0 q0 R w := by kernel_rfl
theorem f186_in (p0 : Int) (q0 : Addr) (R : Value → World → Prop) (w : World) (h : f186_vc p0 q0 R w) : Ct Try.prog 186 #[Value.int IntKind.i64 p0, Value.pointer (some
  q0)] w R := by
  refine Ct_of (rk := []) (fn := Try.f186) (args := [Value.int IntKind.i64 p0, Value.pointer (some q0)]) mixedT Try.func186 (by kernel_rfl) ?_
  rw [f186_eq]
  exact h
end Fk
set_option linter.unusedVariables false
set_option maxRecDepth 1000000
set_option maxHeartbeats 4000000
namespace Fk
open Go Go.Proofs Go.RowKit
def f165_vc (p0 : Option Addr) (R : Value → World → Prop) (w : World) : Prop := Dr (World.drew w) fun J1 => NN p0 fun A2 => ∃ v3, (∀ (w4 : World), J1 w4 → Ld w4 (Addr.add
  A2 (0 : Nat)) fun v6 => v6 = v3) ∧ opL v3 fun a7 n8 n9 => Bd ((n8 : Nat) : Int) fun x10 => NN p0 fun A11 => ∃ v12, (∀ (w13 : World), J1 w13 → Ld w13 (Addr.add A11 (1 :
  Nat)) fun v15 => v15 = v12) ∧ opI IntKind.i64 v12 fun x16 => Bd (decide (x10 > x16)) fun b17 => R (Value.bool b17) (World.drew w)
theorem f165_eq (p0 : Option Addr) (R : Value → World → Prop) (w : World) : fnW Try.prog [100001] Try.f165 [Value.pointer p0] R w = f165_vc p0 R w := by kernel_rfl
theorem f165_in (p0 : Option Addr) (R : Value → World → Prop) (w : World) (h : f165_vc p0 R w) : Ct Try.prog 165 #[Value.pointer p0] w R := by
  refine Ct_of (rk := [100001]) (fn := Try.f165) (args := [Value.pointer p0]) mixedT Try.func165 (by kernel_rfl) ?_
  rw [f165_eq]
  exact h
def f164_vc (p0 : Option Addr) (p1_0 : Int) (p1_1 : Int) (p1_2 : Int) (p1_3 : Int) (p1_4 : Int) (p1_5 : Int) (p1_6 : Int) (p1_7 : Int) (R : Value → World → Prop) (w :
  World) : Prop := Rg w fun n1 => Jn (fun l2 l3 w4 => NN p0 fun A5 => Ld w4 (Addr.add A5 (0 : Nat)) fun v6 => opL v6 fun a7 n8 n9 => Bd ((n8 : Nat) : Int) fun x10 => Bd
  (IntKind.wrap IntKind.i64 (x10 - (1 : Int))) fun x11 => R (Value.int IntKind.i64 x11) w4) fun J12 => Up [] [n1] w fun w13 => Dr (World.drew w13) fun J14 => NN p0 fun
  A15 => ∃ v16, (∀ (w17 : World), J14 w17 → Ld w17 (Addr.add A15 (0 : Nat)) fun v19 => v19 = v16) ∧ opL v16 fun a20 n21 n22 => Bd ((n21 : Nat) : Int) fun x23 => NN p0 fun
  A24 => ∃ v25, (∀ (w26 : World), J14 w26 → Ld w26 (Addr.add A24 (1 : Nat)) fun v28 => v28 = v25) ∧ opI IntKind.i64 v25 fun x29 => Bd (decide (x23 ≤ x29)) fun b30 => If
  b30 (NN p0 fun A31 => (Ld (World.drew (World.drew w13)) (Addr.add A31 (0 : Nat)) fun v32 => opL v32 fun a33 n34 n35 => Nw (Obj.cells #[Value.int IntKind.u8 p1_0,
  Value.int IntKind.u64 p1_1, Value.int IntKind.u64 p1_2, Value.int IntKind.u64 p1_3, Value.int IntKind.u64 p1_4, Value.int IntKind.i64 p1_5, Value.int IntKind.i64 p1_6,
  Value.int IntKind.i64 p1_7] (103 : Nat)) (World.drew (World.drew w13)) fun n36 w37 => RunW Try.prog [n1] (Builtin.append_ #[(69 : Nat), (69 : Nat)] (69 : Nat)
  #[Value.slice a33 n34 n35, Value.slice (some (Addr.mk n36 (0 : Nat) none)) (1 : Nat) (1 : Nat)]) (fun v38 w39 => opL v38 fun a40 n41 n42 => NN p0 fun A43 => ¬Addr.block
  (Addr.add A43 (0 : Nat)) ∈ [n1] ∧ Wr w39 (Addr.add A43 (0 : Nat)) (1 : Nat) ∧ J12 [] [] (setCells w39 (Addr.add A43 (0 : Nat)) (0 : Nat) [Value.slice a40 n41 n42]))
  w37) ∧ Nw (Obj.cells #[Value.int IntKind.u8 p1_0, Value.int IntKind.u64 p1_1, Value.int IntKind.u64 p1_2, Value.int IntKind.u64 p1_3, Value.int IntKind.u64 p1_4,
  Value.int IntKind.i64 p1_5, Value.int IntKind.i64 p1_6, Value.int IntKind.i64 p1_7] (103 : Nat)) (World.drew (World.drew w13)) fun n44 w45 => Ld w45 (Addr.add A31 (0 :
  Nat)) fun v46 => opL v46 fun a47 n48 n49 => RunW Try.prog [n1] (Builtin.append_ #[(69 : Nat), (69 : Nat)] (69 : Nat) #[Value.slice a47 n48 n49, Value.slice (some
  (Addr.mk n44 (0 : Nat) none)) (1 : Nat) (1 : Nat)]) (fun v50 w51 => opL v50 fun a52 n53 n54 => NN p0 fun A55 => ¬Addr.block (Addr.add A55 (0 : Nat)) ∈ [n1] ∧ Wr w51
  (Addr.add A55 (0 : Nat)) (1 : Nat) ∧ J12 [] [] (setCells w51 (Addr.add A55 (0 : Nat)) (0 : Nat) [Value.slice a52 n53 n54])) w45) (J12 [] [] (World.drew w13))
theorem f164_eq (p0 : Option Addr) (p1_0 : Int) (p1_1 : Int) (p1_2 : Int) (p1_3 : Int) (p1_4 : Int) (p1_5 : Int) (p1_6 : Int) (p1_7 : Int) (R : Value → World → Prop) (w :
  World) : fnW Try.prog [3, 100001, 400002] Try.f164 [Value.pointer p0, Value.agg #[Value.int IntKind.u8 p1_0, Value.int IntKind.u64 p1_1, Value.int IntKind.u64 p1_2,
  Value.int IntKind.u64 p1_3, Value.int IntKind.u64 p1_4, Value.int IntKind.i64 p1_5, Value.int IntKind.i64 p1_6, Value.int IntKind.i64 p1_7]] R w = f164_vc p0 p1_0 p1_1
  p1_2 p1_3 p1_4 p1_5 p1_6 p1_7 R w := by kernel_rfl
theorem f164_in (p0 : Option Addr) (p1_0 : Int) (p1_1 : Int) (p1_2 : Int) (p1_3 : Int) (p1_4 : Int) (p1_5 : Int) (p1_6 : Int) (p1_7 : Int) (R : Value → World → Prop) (w :
  World) (h : f164_vc p0 p1_0 p1_1 p1_2 p1_3 p1_4 p1_5 p1_6 p1_7 R w) : Ct Try.prog 164 #[Value.pointer p0, Value.agg #[Value.int IntKind.u8 p1_0, Value.int IntKind.u64
  p1_1, Value.int IntKind.u64 p1_2, Value.int IntKind.u64 p1_3, Value.int IntKind.u64 p1_4, Value.int IntKind.i64 p1_5, Value.int IntKind.i64 p1_6, Value.int IntKind.i64
  p1_7]] w R := by
  refine Ct_of (rk := [3, 100001, 400002]) (fn := Try.f164) (args := [Value.pointer p0, Value.agg #[Value.int IntKind.u8 p1_0, Value.int IntKind.u64 p1_1, Value.int IntKind.u64 p1_2, Value.int IntKind.u64 p1_3, Value.int IntKind.u64 p1_4, Value.int IntKind.i64 p1_5, Value.int IntKind.i64 p1_6, Value.int IntKind.i64 p1_7]]) mixedT Try.func164 (by kernel_rfl) ?_
  rw [f164_eq]
  exact h
def f163_vc (p0 : Option Addr) (p1_0 : Int) (p1_1 : Int) (p1_2 : Int) (p1_3 : Int) (p1_4 : Int) (p1_5a : Option Addr) (p1_5n : Nat) (p1_5c : Nat) (p2 : Int) (R : Value →
  World → Prop) (w : World) : Prop := Rg w fun n1 => Up [] [n1] w fun w2 => CallW Try.prog [n1] (165 : Nat) #[Value.pointer p0] (fun v3 w4 => opB v3 fun b5 => If b5 (R
  (Value.int IntKind.i64 p2) w4) (Bd ((p1_5n : Nat) : Int) fun x6 => Bd (IntKind.wrap IntKind.i64 (x6 - (1 : Int))) fun x7 => Jn (fun l8 l9 w10 => opI IntKind.i64 (nthD
  l8 (0 : Nat)) fun x11 => opI IntKind.i64 (nthD l8 (1 : Nat)) fun x12 => opB (nthD l8 (2 : Nat)) fun b13 => opB (nthD l8 (3 : Nat)) fun b14 => R (Value.int IntKind.i64
  x11) w10) fun J15 => Bd (p1_0 == (1 : Int)) fun b16 => If b16 (CallW Try.prog [n1] (164 : Nat) #[Value.pointer p0, Value.agg #[Value.int IntKind.u8 (1 : Int), Value.int
  IntKind.u64 p1_1, Value.int IntKind.u64 p1_2, Value.int IntKind.u64 p1_3, Value.int IntKind.u64 p1_4, Value.int IntKind.i64 p2, Value.int IntKind.i64 (0 : Int),
  Value.int IntKind.i64 (0 : Int)]] (fun v17 w18 => opI IntKind.i64 v17 fun x19 => R (Value.int IntKind.i64 x19) w18) w4) (Bd (p1_0 == (2 : Int)) fun b20 => If b20 (LoopP
  (fun l21 l22 J23 w24 => opI IntKind.i64 (nthD l21 (0 : Nat)) fun x25 => opI IntKind.i64 (nthD l21 (1 : Nat)) fun x26 => Bd (decide (x26 ≥ (0 : Int))) fun b27 => If b27
  (IxOk x26 p1_5n p1_5a ∧ Ld w24 (Addr.add (adAt p1_5a x26 (6 : Nat)) (0 : Nat)) fun v28 => Ld w24 (Addr.add (adAt p1_5a x26 (6 : Nat)) (1 : Nat)) fun v29 => Ld w24
  (Addr.add (adAt p1_5a x26 (6 : Nat)) (2 : Nat)) fun v30 => Ld w24 (Addr.add (adAt p1_5a x26 (6 : Nat)) (3 : Nat)) fun v31 => Ld w24 (Addr.add (adAt p1_5a x26 (6 : Nat))
  (4 : Nat)) fun v32 => Ld w24 (Addr.add (adAt p1_5a x26 (6 : Nat)) (5 : Nat)) fun v33 => opI IntKind.u8 v28 fun x34 => opI IntKind.u64 v29 fun x35 => opI IntKind.u64 v30
  fun x36 => opI IntKind.u64 v31 fun x37 => opI IntKind.u64 v32 fun x38 => opL v33 fun a39 n40 n41 => CallW Try.prog [n1] (163 : Nat) #[Value.pointer p0, Value.agg
  #[Value.int IntKind.u8 x34, Value.int IntKind.u64 x35, Value.int IntKind.u64 x36, Value.int IntKind.u64 x37, Value.int IntKind.u64 x38, Value.slice a39 n40 n41],
  Value.int IntKind.i64 x25] (fun v42 w43 => opI IntKind.i64 v42 fun x44 => Bd (IntKind.wrap IntKind.i64 (x26 - (1 : Int))) fun x45 => J23 [Value.int IntKind.i64 x44,
  Value.int IntKind.i64 x45] [] w43) w24) (J15 [Value.int IntKind.i64 x25, Value.int IntKind.i64 (0 : Int), Value.bool b16, Value.bool b20] [] w24)) [Value.int
  IntKind.i64 p2, Value.int IntKind.i64 x7] [] w4) (Bd (p1_0 == (3 : Int)) fun b46 => If b46 (IxOk x7 p1_5n p1_5a ∧ Ld w4 (Addr.add (adAt p1_5a x7 (6 : Nat)) (0 : Nat))
  fun v47 => Ld w4 (Addr.add (adAt p1_5a x7 (6 : Nat)) (1 : Nat)) fun v48 => Ld w4 (Addr.add (adAt p1_5a x7 (6 : Nat)) (2 : Nat)) fun v49 => Ld w4 (Addr.add (adAt p1_5a
  x7 (6 : Nat)) (3 : Nat)) fun v50 => Ld w4 (Addr.add (adAt p1_5a x7 (6 : Nat)) (4 : Nat)) fun v51 => Ld w4 (Addr.add (adAt p1_5a x7 (6 : Nat)) (5 : Nat)) fun v52 => opI
  IntKind.u8 v47 fun x53 => opI IntKind.u64 v48 fun x54 => opI IntKind.u64 v49 fun x55 => opI IntKind.u64 v50 fun x56 => opI IntKind.u64 v51 fun x57 => opL v52 fun a58
  n59 n60 => CallW Try.prog [n1] (163 : Nat) #[Value.pointer p0, Value.agg #[Value.int IntKind.u8 x53, Value.int IntKind.u64 x54, Value.int IntKind.u64 x55, Value.int
  IntKind.u64 x56, Value.int IntKind.u64 x57, Value.slice a58 n59 n60], Value.int IntKind.i64 p2] (fun v61 w62 => opI IntKind.i64 v61 fun x63 => Bd (IntKind.wrap
  IntKind.i64 (x7 - (1 : Int))) fun x64 => LoopP (fun l65 l66 J67 w68 => opI IntKind.i64 (nthD l65 (0 : Nat)) fun x69 => opI IntKind.i64 (nthD l65 (1 : Nat)) fun x70 =>
  Bd (decide (x70 ≥ (0 : Int))) fun b71 => If b71 (IxOk x70 p1_5n p1_5a ∧ Ld w68 (Addr.add (adAt p1_5a x70 (6 : Nat)) (0 : Nat)) fun v72 => Ld w68 (Addr.add (adAt p1_5a
  x70 (6 : Nat)) (1 : Nat)) fun v73 => Ld w68 (Addr.add (adAt p1_5a x70 (6 : Nat)) (2 : Nat)) fun v74 => Ld w68 (Addr.add (adAt p1_5a x70 (6 : Nat)) (3 : Nat)) fun v75 =>
  Ld w68 (Addr.add (adAt p1_5a x70 (6 : Nat)) (4 : Nat)) fun v76 => Ld w68 (Addr.add (adAt p1_5a x70 (6 : Nat)) (5 : Nat)) fun v77 => opI IntKind.u8 v72 fun x78 => opI
  IntKind.u64 v73 fun x79 => opI IntKind.u64 v74 fun x80 => opI IntKind.u64 v75 fun x81 => opI IntKind.u64 v76 fun x82 => opL v77 fun a83 n84 n85 => CallW Try.prog [n1]
  (163 : Nat) #[Value.pointer p0, Value.agg #[Value.int IntKind.u8 x78, Value.int IntKind.u64 x79, Value.int IntKind.u64 x80, Value.int IntKind.u64 x81, Value.int
  IntKind.u64 x82, Value.slice a83 n84 n85], Value.int IntKind.i64 p2] (fun v86 w87 => opI IntKind.i64 v86 fun x88 => CallW Try.prog [n1] (164 : Nat) #[Value.pointer p0,
  Value.agg #[Value.int IntKind.u8 (2 : Int), Value.int IntKind.u64 (0 : Int), Value.int IntKind.u64 (0 : Int), Value.int IntKind.u64 (0 : Int), Value.int IntKind.u64 (0
  : Int), Value.int IntKind.i64 x88, Value.int IntKind.i64 x69, Value.int IntKind.i64 (0 : Int)]] (fun v89 w90 => opI IntKind.i64 v89 fun x91 => Bd (IntKind.wrap
  IntKind.i64 (x70 - (1 : Int))) fun x92 => J67 [Value.int IntKind.i64 x91, Value.int IntKind.i64 x92] [] w90) w87) w68) (R (Value.int IntKind.i64 x69) w68)) [Value.int
  IntKind.i64 x63, Value.int IntKind.i64 x64] [] w62) w4) (Bd (p1_0 == (4 : Int)) fun b93 => If b93 (CallW Try.prog [n1] (164 : Nat) #[Value.pointer p0, Value.agg
  #[Value.int IntKind.u8 (2 : Int), Value.int IntKind.u64 (0 : Int), Value.int IntKind.u64 (0 : Int), Value.int IntKind.u64 (0 : Int), Value.int IntKind.u64 (0 : Int),
  Value.int IntKind.i64 (0 : Int), Value.int IntKind.i64 p2, Value.int IntKind.i64 (0 : Int)]] (fun v94 w95 => opI IntKind.i64 v94 fun x96 => IxOk (0 : Int) p1_5n p1_5a ∧
  Ld w95 (Addr.add (adAt p1_5a (0 : Int) (6 : Nat)) (0 : Nat)) fun v97 => Ld w95 (Addr.add (adAt p1_5a (0 : Int) (6 : Nat)) (1 : Nat)) fun v98 => Ld w95 (Addr.add (adAt
  p1_5a (0 : Int) (6 : Nat)) (2 : Nat)) fun v99 => Ld w95 (Addr.add (adAt p1_5a (0 : Int) (6 : Nat)) (3 : Nat)) fun v100 => Ld w95 (Addr.add (adAt p1_5a (0 : Int) (6 :
  Nat)) (4 : Nat)) fun v101 => Ld w95 (Addr.add (adAt p1_5a (0 : Int) (6 : Nat)) (5 : Nat)) fun v102 => opI IntKind.u8 v97 fun x103 => opI IntKind.u64 v98 fun x104 => opI
  IntKind.u64 v99 fun x105 => opI IntKind.u64 v100 fun x106 => opI IntKind.u64 v101 fun x107 => opL v102 fun a108 n109 n110 => CallW Try.prog [n1] (163 : Nat)
  #[Value.pointer p0, Value.agg #[Value.int IntKind.u8 x103, Value.int IntKind.u64 x104, Value.int IntKind.u64 x105, Value.int IntKind.u64 x106, Value.int IntKind.u64
  x107, Value.slice a108 n109 n110], Value.int IntKind.i64 x96] (fun v111 w112 => opI IntKind.i64 v111 fun x113 => NN p0 fun A114 => Ld w112 (Addr.add A114 (0 : Nat)) fun
  v115 => opL v115 fun a116 n117 n118 => IxOk x96 n117 a116 ∧ ¬Addr.block (adAt a116 x96 (8 : Nat)) ∈ [n1] ∧ Wr w112 (Addr.add (adAt a116 x96 (8 : Nat)) (5 : Nat)) (1 :
  Nat) ∧ R (Value.int IntKind.i64 x96) (setCells w112 (Addr.add (adAt a116 x96 (8 : Nat)) (5 : Nat)) (0 : Nat) [Value.int IntKind.i64 x113])) w95) w4) (J15 [Value.int
  IntKind.i64 p2, Value.int IntKind.i64 (0 : Int), Value.bool b16, Value.bool b20] [] w4)))))) w2
theorem f163_eq (p0 : Option Addr) (p1_0 : Int) (p1_1 : Int) (p1_2 : Int) (p1_3 : Int) (p1_4 : Int) (p1_5a : Option Addr) (p1_5n : Nat) (p1_5c : Nat) (p2 : Int) (R :
  Value → World → Prop) (w : World) : fnW Try.prog [4] Try.f163 [Value.pointer p0, Value.agg #[Value.int IntKind.u8 p1_0, Value.int IntKind.u64 p1_1, Value.int
  IntKind.u64 p1_2, Value.int IntKind.u64 p1_3, Value.int IntKind.u64 p1_4, Value.slice p1_5a p1_5n p1_5c], Value.int IntKind.i64 p2] R w = f163_vc p0 p1_0 p1_1 p1_2 p1_3
  p1_4 p1_5a p1_5n p1_5c p2 R w := by kernel_rfl
theorem f163_in (p0 : Option Addr) (p1_0 : Int) (p1_1 : Int) (p1_2 : Int) (p1_3 : Int) (p1_4 : Int) (p1_5a : Option Addr) (p1_5n : Nat) (p1_5c : Nat) (p2 : Int) (R :
  Value → World → Prop) (w : World) (h : f163_vc p0 p1_0 p1_1 p1_2 p1_3 p1_4 p1_5a p1_5n p1_5c p2 R w) : Ct Try.prog 163 #[Value.pointer p0, Value.agg #[Value.int
  IntKind.u8 p1_0, Value.int IntKind.u64 p1_1, Value.int IntKind.u64 p1_2, Value.int IntKind.u64 p1_3, Value.int IntKind.u64 p1_4, Value.slice p1_5a p1_5n p1_5c],
  Value.int IntKind.i64 p2] w R := by
  refine Ct_of (rk := [4]) (fn := Try.f163) (args := [Value.pointer p0, Value.agg #[Value.int IntKind.u8 p1_0, Value.int IntKind.u64 p1_1, Value.int IntKind.u64 p1_2, Value.int IntKind.u64 p1_3, Value.int IntKind.u64 p1_4, Value.slice p1_5a p1_5n p1_5c], Value.int IntKind.i64 p2]) mixedT Try.func163 (by kernel_rfl) ?_
  rw [f163_eq]
  exact h
def f66_vc (p0a : Option Addr) (p0n : Nat) (p0c : Nat) (p1 : Int) (R : Value → World → Prop) (w : World) : Prop := Rg w fun n1 => Bd ((p0n : Nat) : Int) fun x2 => Bd
  (decide (x2 ≥ (1 : Int))) fun b3 => Bd ((p0n : Nat) : Int) fun x4 => Bd (decide (x4 ≤ (200 : Int))) fun b5 => Bd (bif b3 then b5 else false) fun b6 => Bd (decide (p1 ≥
  (1 : Int))) fun b7 => Bd (bif b6 then b7 else false) fun b8 => Bd (decide (p1 ≤ (20000 : Int))) fun b9 => Bd (bif b8 then b9 else false) fun b10 => Up [] [n1] w fun w11
  => LoopP (fun l12 l13 J14 w15 => opB (nthD l12 (0 : Nat)) fun b16 => opI IntKind.i64 (nthD l12 (1 : Nat)) fun x17 => Bd ((p0n : Nat) : Int) fun x18 => Bd (decide (x17 <
  x18)) fun b19 => Bd (bif b19 then b16 else false) fun b20 => If b20 (IxOk x17 p0n p0a ∧ Ld w15 (Addr.add (adAt p0a x17 (6 : Nat)) (0 : Nat)) fun v21 => Ld w15 (Addr.add
  (adAt p0a x17 (6 : Nat)) (1 : Nat)) fun v22 => Ld w15 (Addr.add (adAt p0a x17 (6 : Nat)) (2 : Nat)) fun v23 => Ld w15 (Addr.add (adAt p0a x17 (6 : Nat)) (3 : Nat)) fun
  v24 => Ld w15 (Addr.add (adAt p0a x17 (6 : Nat)) (4 : Nat)) fun v25 => Ld w15 (Addr.add (adAt p0a x17 (6 : Nat)) (5 : Nat)) fun v26 => opI IntKind.u8 v21 fun x27 => opI
  IntKind.u64 v22 fun x28 => opI IntKind.u64 v23 fun x29 => opI IntKind.u64 v24 fun x30 => opI IntKind.u64 v25 fun x31 => opL v26 fun a32 n33 n34 => CallW Try.prog [n1]
  (144 : Nat) #[Value.agg #[Value.int IntKind.u8 x27, Value.int IntKind.u64 x28, Value.int IntKind.u64 x29, Value.int IntKind.u64 x30, Value.int IntKind.u64 x31,
  Value.slice a32 n33 n34]] (fun v35 w36 => opB v35 fun b37 => Bd (IntKind.wrap IntKind.i64 (x17 + (1 : Int))) fun x38 => J14 [Value.bool b37, Value.int IntKind.i64 x38]
  [] w36) w15) (Bd (!b16) fun b39 => If b39 (Up [n1] [n1] w15 fun w40 => R (Value.tuple #[Value.agg #[Value.int IntKind.i64 (0 : Int), Value.slice none (0 : Nat) (0 :
  Nat)], Value.int IntKind.i64 (2 : Int)]) w40) (Nw (Obj.cells #[Value.slice none (0 : Nat) (0 : Nat), Value.int IntKind.i64 p1] (214 : Nat)) w15 fun n41 w42 => Bd ((p0n
  : Nat) : Int) fun x43 => LoopP (fun l44 l45 J46 w47 => opL (nthD l44 (0 : Nat)) fun a48 n49 n50 => opI IntKind.i64 (nthD l44 (1 : Nat)) fun x51 => Bd (decide (x51 <
  x43)) fun b52 => If b52 (IxOk x51 p0n p0a ∧ Ld w47 (Addr.add (adAt p0a x51 (6 : Nat)) (0 : Nat)) fun v53 => Ld w47 (Addr.add (adAt p0a x51 (6 : Nat)) (1 : Nat)) fun v54
  => Ld w47 (Addr.add (adAt p0a x51 (6 : Nat)) (2 : Nat)) fun v55 => Ld w47 (Addr.add (adAt p0a x51 (6 : Nat)) (3 : Nat)) fun v56 => Ld w47 (Addr.add (adAt p0a x51 (6 :
  Nat)) (4 : Nat)) fun v57 => Ld w47 (Addr.add (adAt p0a x51 (6 : Nat)) (5 : Nat)) fun v58 => opI IntKind.u8 v53 fun x59 => opI IntKind.u64 v54 fun x60 => opI IntKind.u64
  v55 fun x61 => opI IntKind.u64 v56 fun x62 => opI IntKind.u64 v57 fun x63 => opL v58 fun a64 n65 n66 => Rg w47 fun n67 => Up [n67] [n67, n1] w47 fun w68 => Dr
  (World.drew w68) fun J69 => CallW Try.prog [n67, n1] (164 : Nat) #[Value.pointer (some (Addr.mk n41 (0 : Nat) none)), Value.agg #[Value.int IntKind.u8 (0 : Int),
  Value.int IntKind.u64 (0 : Int), Value.int IntKind.u64 (0 : Int), Value.int IntKind.u64 (0 : Int), Value.int IntKind.u64 (0 : Int), Value.int IntKind.i64 (0 : Int),
  Value.int IntKind.i64 (0 : Int), Value.int IntKind.i64 x51]] (fun v70 w71 => opI IntKind.i64 v70 fun x72 => J69 w71 ∧ CallW Try.prog [n67, n1] (163 : Nat)
  #[Value.pointer (some (Addr.mk n41 (0 : Nat) none)), Value.agg #[Value.int IntKind.u8 x59, Value.int IntKind.u64 x60, Value.int IntKind.u64 x61, Value.int IntKind.u64
  x62, Value.int IntKind.u64 x63, Value.slice a64 n65 n66], Value.int IntKind.i64 x72] (fun v73 w74 => opI IntKind.i64 v73 fun x75 => J69 w74 ∧ Nw (Obj.cells #[Value.int
  IntKind.i64 x75] (3 : Nat)) w74 fun n76 w77 => J69 w77 ∧ RunW Try.prog [n67, n1] (Builtin.append_ #[(52 : Nat), (52 : Nat)] (52 : Nat) #[Value.slice a48 n49 n50,
  Value.slice (some (Addr.mk n76 (0 : Nat) none)) (1 : Nat) (1 : Nat)]) (fun v78 w79 => opL v78 fun a80 n81 n82 => J69 w79 ∧ Bd (IntKind.wrap IntKind.i64 (x51 + (1 :
  Int))) fun x83 => J46 [Value.slice a80 n81 n82, Value.int IntKind.i64 x83] [] w79) w77) w71) (World.drew w68)) (Bd ((p0n : Nat) : Int) fun x84 => Bd (IntKind.wrap
  IntKind.i64 (x84 - (1 : Int))) fun x85 => IxOk x85 n49 a48 ∧ Ld w47 (adAt a48 x85 (1 : Nat)) fun v86 => opI IntKind.i64 v86 fun x87 => Bd ((p0n : Nat) : Int) fun x88 =>
  Bd (IntKind.wrap IntKind.i64 (x88 - (2 : Int))) fun x89 => LoopP (fun l90 l91 J92 w93 => opI IntKind.i64 (nthD l90 (0 : Nat)) fun x94 => opI IntKind.i64 (nthD l90 (1 :
  Nat)) fun x95 => Bd (decide (x95 ≥ (0 : Int))) fun b96 => If b96 (IxOk x95 n49 a48 ∧ Ld w93 (adAt a48 x95 (1 : Nat)) fun v97 => opI IntKind.i64 v97 fun x98 => CallW
  Try.prog [n1] (164 : Nat) #[Value.pointer (some (Addr.mk n41 (0 : Nat) none)), Value.agg #[Value.int IntKind.u8 (2 : Int), Value.int IntKind.u64 (0 : Int), Value.int
  IntKind.u64 (0 : Int), Value.int IntKind.u64 (0 : Int), Value.int IntKind.u64 (0 : Int), Value.int IntKind.i64 x98, Value.int IntKind.i64 x94, Value.int IntKind.i64 (0
  : Int)]] (fun v99 w100 => opI IntKind.i64 v99 fun x101 => Bd (IntKind.wrap IntKind.i64 (x95 - (1 : Int))) fun x102 => J92 [Value.int IntKind.i64 x101, Value.int
  IntKind.i64 x102] [] w100) w93) (CallW Try.prog [n1] (165 : Nat) #[Value.pointer (some (Addr.mk n41 (0 : Nat) none))] (fun v103 w104 => opB v103 fun b105 => If b105 (Up
  [n1] [n1] w104 fun w106 => R (Value.tuple #[Value.agg #[Value.int IntKind.i64 (0 : Int), Value.slice none (0 : Nat) (0 : Nat)], Value.int IntKind.i64 (40 : Int)]) w106)
  (NN (some (Addr.mk n41 (0 : Nat) none)) fun A107 => Ld w104 (Addr.add A107 (0 : Nat)) fun v108 => opL v108 fun a109 n110 n111 => Up [n1] [n1] w104 fun w112 => R
  (Value.tuple #[Value.agg #[Value.int IntKind.i64 x94, Value.slice a109 n110 n111], Value.int IntKind.i64 (0 : Int)]) w112)) w93)) [Value.int IntKind.i64 x87, Value.int
  IntKind.i64 x89] [] w47)) [Value.slice none (0 : Nat) (0 : Nat), Value.int IntKind.i64 (0 : Int)] [] w42))) [Value.bool b10, Value.int IntKind.i64 (0 : Int)] [] w11
theorem f66_eq (p0a : Option Addr) (p0n : Nat) (p0c : Nat) (p1 : Int) (R : Value → World → Prop) (w : World) : fnW Try.prog [4, 11, 100013] Try.f66 [Value.slice p0a p0n
  p0c, Value.int IntKind.i64 p1] R w = f66_vc p0a p0n p0c p1 R w := by kernel_rfl
theorem f66_in (p0a : Option Addr) (p0n : Nat) (p0c : Nat) (p1 : Int) (R : Value → World → Prop) (w : World) (h : f66_vc p0a p0n p0c p1 R w) : Ct Try.prog 66
  #[Value.slice p0a p0n p0c, Value.int IntKind.i64 p1] w R := by
  refine Ct_of (rk := [4, 11, 100013]) (fn := Try.f66) (args := [Value.slice p0a p0n p0c, Value.int IntKind.i64 p1]) mixedT Try.func66 (by kernel_rfl) ?_
  rw [f66_eq]
  exact h
end Fk
set_option linter.unusedVariables false
set_option maxRecDepth 1000000
set_option maxHeartbeats 4000000
namespace Fk
open Go Go.Proofs Go.RowKit
def f167_vc (p0_0 : Int) (p0_1a : Option Addr) (p0_1n : Nat) (p0_1c : Nat) (p1a : Option Addr) (p1n : Nat) (p1c : Nat) (R : Value → World → Prop) (w : World) : Prop := Rg
  w fun n1 => Bd ((p0_1n : Nat) : Int) fun x2 => Up [] [n1] w fun w3 => RunW Try.prog [n1] (Instr.makeSlice (222 : Nat) (Value.int IntKind.i64 x2) (Value.int IntKind.i64
  x2)) (fun v4 w5 => opL v4 fun a6 n7 n8 => Nw (Obj.cells #[] (3 : Nat)) w5 fun n9 w10 => RunW Try.prog [n1] (Builtin.append_ #[(52 : Nat), (52 : Nat)] (52 : Nat)
  #[Value.slice (some (Addr.mk n9 (0 : Nat) none)) (0 : Nat) (0 : Nat), Value.slice p1a p1n p1c]) (fun v11 w12 => opL v11 fun a13 n14 n15 => LoopP (fun l16 l17 J18 w19 =>
  opL (nthD l16 (0 : Nat)) fun a20 n21 n22 => Bd ((n21 : Nat) : Int) fun x23 => Bd (decide (x23 > (0 : Int))) fun b24 => If b24 (Bd ((n21 : Nat) : Int) fun x25 => Bd
  (IntKind.wrap IntKind.i64 (x25 - (1 : Int))) fun x26 => IxOk x26 n21 a20 ∧ Ld w19 (adAt a20 x26 (1 : Nat)) fun v27 => opI IntKind.i64 v27 fun x28 => Bd ((n21 : Nat) :
  Int) fun x29 => Bd (IntKind.wrap IntKind.i64 (x29 - (1 : Int))) fun x30 => RunW Try.prog [n1] (Instr.sliceAt (52 : Nat) (Value.slice a20 n21 n22) none (some (Value.int
  IntKind.i64 x30)) none) (fun v31 w32 => opL v31 fun a33 n34 n35 => IxOk x28 n7 a6 ∧ Ld w32 (adAt a6 x28 (1 : Nat)) fun v36 => opB v36 fun b37 => If b37 (J18
  [Value.slice a33 n34 n35] [] w32) (IxOk x28 n7 a6 ∧ ¬Addr.block (adAt a6 x28 (1 : Nat)) ∈ [n1] ∧ Wr w32 (adAt a6 x28 (1 : Nat)) (1 : Nat) ∧ IxOk x28 p0_1n p0_1a ∧ Ld
  (setCells w32 (adAt a6 x28 (1 : Nat)) (0 : Nat) [Value.bool true]) (Addr.add (adAt p0_1a x28 (8 : Nat)) (0 : Nat)) fun v38 => Ld (setCells w32 (adAt a6 x28 (1 : Nat))
  (0 : Nat) [Value.bool true]) (Addr.add (adAt p0_1a x28 (8 : Nat)) (1 : Nat)) fun v39 => Ld (setCells w32 (adAt a6 x28 (1 : Nat)) (0 : Nat) [Value.bool true]) (Addr.add
  (adAt p0_1a x28 (8 : Nat)) (2 : Nat)) fun v40 => Ld (setCells w32 (adAt a6 x28 (1 : Nat)) (0 : Nat) [Value.bool true]) (Addr.add (adAt p0_1a x28 (8 : Nat)) (3 : Nat))
  fun v41 => Ld (setCells w32 (adAt a6 x28 (1 : Nat)) (0 : Nat) [Value.bool true]) (Addr.add (adAt p0_1a x28 (8 : Nat)) (4 : Nat)) fun v42 => Ld (setCells w32 (adAt a6
  x28 (1 : Nat)) (0 : Nat) [Value.bool true]) (Addr.add (adAt p0_1a x28 (8 : Nat)) (5 : Nat)) fun v43 => Ld (setCells w32 (adAt a6 x28 (1 : Nat)) (0 : Nat) [Value.bool
  true]) (Addr.add (adAt p0_1a x28 (8 : Nat)) (6 : Nat)) fun v44 => Ld (setCells w32 (adAt a6 x28 (1 : Nat)) (0 : Nat) [Value.bool true]) (Addr.add (adAt p0_1a x28 (8 :
  Nat)) (7 : Nat)) fun v45 => opI IntKind.u8 v38 fun x46 => opI IntKind.u64 v39 fun x47 => opI IntKind.u64 v40 fun x48 => opI IntKind.u64 v41 fun x49 => opI IntKind.u64
  v42 fun x50 => opI IntKind.i64 v43 fun x51 => opI IntKind.i64 v44 fun x52 => opI IntKind.i64 v45 fun x53 => Rg (setCells w32 (adAt a6 x28 (1 : Nat)) (0 : Nat)
  [Value.bool true]) fun n54 => Bd (x46 == (2 : Int)) fun b55 => If b55 (Up [n54] [n54, n1] (setCells w32 (adAt a6 x28 (1 : Nat)) (0 : Nat) [Value.bool true]) fun w56 =>
  Nw (Obj.cells #[Value.int IntKind.i64 x51, Value.int IntKind.i64 x52] (3 : Nat)) w56 fun n57 w58 => RunW Try.prog [n54, n1] (Builtin.append_ #[(52 : Nat), (52 : Nat)]
  (52 : Nat) #[Value.slice a33 n34 n35, Value.slice (some (Addr.mk n57 (0 : Nat) none)) (2 : Nat) (2 : Nat)]) (fun v59 w60 => opL v59 fun a61 n62 n63 => J18 [Value.slice
  a61 n62 n63] [] w60) w58) (Up [n54] [n54, n1] (setCells w32 (adAt a6 x28 (1 : Nat)) (0 : Nat) [Value.bool true]) fun w64 => J18 [Value.slice a33 n34 n35] [] w64))) w19)
  (R (Value.slice a6 n7 n8) w19)) [Value.slice a13 n14 n15] [] w12) w10) w3
theorem f167_eq (p0_0 : Int) (p0_1a : Option Addr) (p0_1n : Nat) (p0_1c : Nat) (p1a : Option Addr) (p1n : Nat) (p1c : Nat) (R : Value → World → Prop) (w : World) : fnW
  Try.prog [2, 8] Try.f167 [Value.agg #[Value.int IntKind.i64 p0_0, Value.slice p0_1a p0_1n p0_1c], Value.slice p1a p1n p1c] R w = f167_vc p0_0 p0_1a p0_1n p0_1c p1a p1n
  p1c R w := by kernel_rfl
theorem f167_in (p0_0 : Int) (p0_1a : Option Addr) (p0_1n : Nat) (p0_1c : Nat) (p1a : Option Addr) (p1n : Nat) (p1c : Nat) (R : Value → World → Prop) (w : World) (h :
  f167_vc p0_0 p0_1a p0_1n p0_1c p1a p1n p1c R w) : Ct Try.prog 167 #[Value.agg #[Value.int IntKind.i64 p0_0, Value.slice p0_1a p0_1n p0_1c], Value.slice p1a p1n p1c] w R
  := by
  refine Ct_of (rk := [2, 8]) (fn := Try.f167) (args := [Value.agg #[Value.int IntKind.i64 p0_0, Value.slice p0_1a p0_1n p0_1c], Value.slice p1a p1n p1c]) mixedT Try.func167 (by kernel_rfl) ?_
  rw [f167_eq]
  exact h
def f170_vc (p0_0 : Int) (p0_1a : Option Addr) (p0_1n : Nat) (p0_1c : Nat) (p1a : Option Addr) (p1n : Nat) (p1c : Nat) (R : Value → World → Prop) (w : World) : Prop := Rg
  w fun n1 => Bd ((p1n : Nat) : Int) fun x2 => Up [] [n1] w fun w3 => LoopP (fun l4 l5 J6 w7 => opI IntKind.i64 (nthD l4 (0 : Nat)) fun x8 => opI IntKind.i64 (nthD l4 (1
  : Nat)) fun x9 => Bd (decide (x9 < x2)) fun b10 => If b10 (Jn (fun l11 l12 w13 => opI IntKind.i64 (nthD l11 (0 : Nat)) fun x14 => opI IntKind.i64 (nthD l11 (1 : Nat))
  fun x15 => opB (nthD l11 (2 : Nat)) fun b16 => Bd (IntKind.wrap IntKind.i64 (x9 + (1 : Int))) fun x17 => J6 [Value.int IntKind.i64 x14, Value.int IntKind.i64 x17] []
  w13) fun J18 => IxOk x9 p1n p1a ∧ Ld w7 (adAt p1a x9 (1 : Nat)) fun v19 => opB v19 fun b20 => IxOk x9 p0_1n p0_1a ∧ Ld w7 (Addr.add (adAt p0_1a x9 (8 : Nat)) (0 : Nat))
  fun v21 => Ld w7 (Addr.add (adAt p0_1a x9 (8 : Nat)) (1 : Nat)) fun v22 => Ld w7 (Addr.add (adAt p0_1a x9 (8 : Nat)) (2 : Nat)) fun v23 => Ld w7 (Addr.add (adAt p0_1a
  x9 (8 : Nat)) (3 : Nat)) fun v24 => Ld w7 (Addr.add (adAt p0_1a x9 (8 : Nat)) (4 : Nat)) fun v25 => Ld w7 (Addr.add (adAt p0_1a x9 (8 : Nat)) (5 : Nat)) fun v26 => Ld
  w7 (Addr.add (adAt p0_1a x9 (8 : Nat)) (6 : Nat)) fun v27 => Ld w7 (Addr.add (adAt p0_1a x9 (8 : Nat)) (7 : Nat)) fun v28 => opI IntKind.u8 v21 fun x29 => opI
  IntKind.u64 v22 fun x30 => opI IntKind.u64 v23 fun x31 => opI IntKind.u64 v24 fun x32 => opI IntKind.u64 v25 fun x33 => opI IntKind.i64 v26 fun x34 => opI IntKind.i64
  v27 fun x35 => opI IntKind.i64 v28 fun x36 => Rg w7 fun n37 => Bd (x29 == (0 : Int)) fun b38 => Bd (bif b20 then b38 else false) fun b39 => Bd (decide (x8 < (0 : Int)))
  fun b40 => Bd (decide (x36 < x8)) fun b41 => Bd (bif b40 then true else b41) fun b42 => Bd (bif b39 then b42 else false) fun b43 => If b43 (Up [n37] [n37, n1] w7 fun
  w44 => J18 [Value.int IntKind.i64 x36, Value.int IntKind.i64 x9, Value.bool b20] [] w44) (Up [n37] [n37, n1] w7 fun w45 => J18 [Value.int IntKind.i64 x8, Value.int
  IntKind.i64 x9, Value.bool b20] [] w45)) (R (Value.int IntKind.i64 x8) w7)) [Value.int IntKind.i64 (-1 : Int), Value.int IntKind.i64 (0 : Int)] [] w3
theorem f170_eq (p0_0 : Int) (p0_1a : Option Addr) (p0_1n : Nat) (p0_1c : Nat) (p1a : Option Addr) (p1n : Nat) (p1c : Nat) (R : Value → World → Prop) (w : World) : fnW
  Try.prog [2, 8] Try.f170 [Value.agg #[Value.int IntKind.i64 p0_0, Value.slice p0_1a p0_1n p0_1c], Value.slice p1a p1n p1c] R w = f170_vc p0_0 p0_1a p0_1n p0_1c p1a p1n
  p1c R w := by kernel_rfl
theorem f170_in (p0_0 : Int) (p0_1a : Option Addr) (p0_1n : Nat) (p0_1c : Nat) (p1a : Option Addr) (p1n : Nat) (p1c : Nat) (R : Value → World → Prop) (w : World) (h :
  f170_vc p0_0 p0_1a p0_1n p0_1c p1a p1n p1c R w) : Ct Try.prog 170 #[Value.agg #[Value.int IntKind.i64 p0_0, Value.slice p0_1a p0_1n p0_1c], Value.slice p1a p1n p1c] w R
  := by
  refine Ct_of (rk := [2, 8]) (fn := Try.f170) (args := [Value.agg #[Value.int IntKind.i64 p0_0, Value.slice p0_1a p0_1n p0_1c], Value.slice p1a p1n p1c]) mixedT Try.func170 (by kernel_rfl) ?_
  rw [f170_eq]
  exact h
def f171_vc (p0_0 : Int) (p0_1a : Option Addr) (p0_1n : Nat) (p0_1c : Nat) (p1a : Option Addr) (p1n : Nat) (p1c : Nat) (p2 : Int) (R : Value → World → Prop) (w : World) :
  Prop := Rg w fun n1 => Bd ((p1n : Nat) : Int) fun x2 => Up [] [n1] w fun w3 => LoopP (fun l4 l5 J6 w7 => opL (nthD l4 (0 : Nat)) fun a8 n9 n10 => opI IntKind.i64 (nthD
  l4 (1 : Nat)) fun x11 => Bd (decide (x11 < x2)) fun b12 => If b12 (Jn (fun l13 l14 w15 => opL (nthD l13 (0 : Nat)) fun a16 n17 n18 => opI IntKind.i64 (nthD l13 (1 :
  Nat)) fun x19 => opB (nthD l13 (2 : Nat)) fun b20 => Bd (IntKind.wrap IntKind.i64 (x11 + (1 : Int))) fun x21 => J6 [Value.slice a16 n17 n18, Value.int IntKind.i64 x21]
  [] w15) fun J22 => IxOk x11 p1n p1a ∧ Ld w7 (adAt p1a x11 (1 : Nat)) fun v23 => opB v23 fun b24 => IxOk x11 p0_1n p0_1a ∧ Ld w7 (Addr.add (adAt p0_1a x11 (8 : Nat)) (0
  : Nat)) fun v25 => Ld w7 (Addr.add (adAt p0_1a x11 (8 : Nat)) (1 : Nat)) fun v26 => Ld w7 (Addr.add (adAt p0_1a x11 (8 : Nat)) (2 : Nat)) fun v27 => Ld w7 (Addr.add
  (adAt p0_1a x11 (8 : Nat)) (3 : Nat)) fun v28 => Ld w7 (Addr.add (adAt p0_1a x11 (8 : Nat)) (4 : Nat)) fun v29 => Ld w7 (Addr.add (adAt p0_1a x11 (8 : Nat)) (5 : Nat))
  fun v30 => Ld w7 (Addr.add (adAt p0_1a x11 (8 : Nat)) (6 : Nat)) fun v31 => Ld w7 (Addr.add (adAt p0_1a x11 (8 : Nat)) (7 : Nat)) fun v32 => opI IntKind.u8 v25 fun x33
  => opI IntKind.u64 v26 fun x34 => opI IntKind.u64 v27 fun x35 => opI IntKind.u64 v28 fun x36 => opI IntKind.u64 v29 fun x37 => opI IntKind.i64 v30 fun x38 => opI
  IntKind.i64 v31 fun x39 => opI IntKind.i64 v32 fun x40 => Rg w7 fun n41 => Bd (x33 == (1 : Int)) fun b42 => Bd (bif b24 then b42 else false) fun b43 => Bd (IntKind.wrap
  IntKind.u8 (Int.tdiv p2 (64 : Int))) fun x44 => (b43 = true → (0 : Int) ≤ x44 ∧ x44 < ↑(4 : Nat)) ∧ BdO (nthV [Value.int IntKind.u8 x33, Value.int IntKind.u64 x34,
  Value.int IntKind.u64 x35, Value.int IntKind.u64 x36, Value.int IntKind.u64 x37, Value.int IntKind.i64 x38, Value.int IntKind.i64 x39, Value.int IntKind.i64 x40] ((1 :
  Nat) + Int.toNat x44 * (1 : Nat))) fun v46 => opI IntKind.u64 v46 fun x47 => Bd (Int.tmod p2 (64 : Int)) fun x48 => (b43 = true → (0 : Int) ≤ x48) ∧ Bd (Int.fdiv x47
  ((2 : Int) ^ min (Int.toNat x48) (64 : Nat))) fun x50 => Bd (IntKind.wrap IntKind.u64 ↑(BitVec.toNat (BitVec.ofInt (64 : Nat) x50 &&& BitVec.ofInt (64 : Nat) (1 :
  Int)))) fun x51 => Bd (x51 == (1 : Int)) fun b52 => Bd (bif b43 then b52 else false) fun b53 => If b53 (Up [n41] [n41, n1] w7 fun w54 => Nw (Obj.cells #[Value.int
  IntKind.i64 x38] (3 : Nat)) w54 fun n55 w56 => RunW Try.prog [n41, n1] (Builtin.append_ #[(52 : Nat), (52 : Nat)] (52 : Nat) #[Value.slice a8 n9 n10, Value.slice (some
  (Addr.mk n55 (0 : Nat) none)) (1 : Nat) (1 : Nat)]) (fun v57 w58 => opL v57 fun a59 n60 n61 => J22 [Value.slice a59 n60 n61, Value.int IntKind.i64 x11, Value.bool b24]
  [] w58) w56) (Up [n41] [n41, n1] w7 fun w62 => J22 [Value.slice a8 n9 n10, Value.int IntKind.i64 x11, Value.bool b24] [] w62)) (R (Value.slice a8 n9 n10) w7))
  [Value.slice none (0 : Nat) (0 : Nat), Value.int IntKind.i64 (0 : Int)] [] w3
theorem f171_eq (p0_0 : Int) (p0_1a : Option Addr) (p0_1n : Nat) (p0_1c : Nat) (p1a : Option Addr) (p1n : Nat) (p1c : Nat) (p2 : Int) (R : Value → World → Prop) (w :
  World) : fnW Try.prog [3, 10] Try.f171 [Value.agg #[Value.int IntKind.i64 p0_0, Value.slice p0_1a p0_1n p0_1c], Value.slice p1a p1n p1c, Value.int IntKind.u8 p2] R w =
  f171_vc p0_0 p0_1a p0_1n p0_1c p1a p1n p1c p2 R w := by kernel_rfl
theorem f171_in (p0_0 : Int) (p0_1a : Option Addr) (p0_1n : Nat) (p0_1c : Nat) (p1a : Option Addr) (p1n : Nat) (p1c : Nat) (p2 : Int) (R : Value → World → Prop) (w :
  World) (h : f171_vc p0_0 p0_1a p0_1n p0_1c p1a p1n p1c p2 R w) : Ct Try.prog 171 #[Value.agg #[Value.int IntKind.i64 p0_0, Value.slice p0_1a p0_1n p0_1c], Value.slice
  p1a p1n p1c, Value.int IntKind.u8 p2] w R := by
  refine Ct_of (rk := [3, 10]) (fn := Try.f171) (args := [Value.agg #[Value.int IntKind.i64 p0_0, Value.slice p0_1a p0_1n p0_1c], Value.slice p1a p1n p1c, Value.int IntKind.u8 p2]) mixedT Try.func171 (by kernel_rfl) ?_
  rw [f171_eq]
  exact h
def f168_vc (p0 : Option Addr) (p1 : ByteArray) (p2a : Option Addr) (p2n : Nat) (p2c : Nat) (R : Value → World → Prop) (w : World) : Prop := NN p0 fun A1 => Ld w
  (Addr.add A1 (0 : Nat)) fun v2 => opM v2 fun a3 => RunW Try.prog [] (Instr.lookup (218 : Nat) (Value.map a3) (Value.string p1) true) (fun v4 w5 => opTu v4 fun cs6 =>
  opI IntKind.i64 (nthD (Array.toList cs6) (0 : Nat)) fun x7 => opB (nthD (Array.toList cs6) (1 : Nat)) fun b8 => SzIs (Array.size cs6) (2 : Nat) (Jn (fun l9 l10 w11 =>
  opI IntKind.i64 (nthD l9 (0 : Nat)) fun x12 => Bd (!b8) fun b13 => R (Value.tuple #[Value.int IntKind.i64 x12, Value.bool b13]) w11) fun J14 => Bd (!b8) fun b15 => If
  b15 (NN p0 fun A16 => Ld w5 (Addr.add A16 (1 : Nat)) fun v17 => opL v17 fun a18 n19 n20 => Bd ((n19 : Nat) : Int) fun x21 => NN p0 fun A22 => Ld w5 (Addr.add A22 (0 :
  Nat)) fun v23 => opM v23 fun a24 => RunU Try.prog [] (Instr.mapUpdate (218 : Nat) (Value.map a24) (Value.string p1) (Value.int IntKind.i64 x21)) (fun w25 => NN p0 fun
  A26 => Ld w25 (Addr.add A26 (1 : Nat)) fun v27 => opL v27 fun a28 n29 n30 => Nw (Obj.cells #[Value.slice p2a p2n p2c] (222 : Nat)) w25 fun n31 w32 => RunW Try.prog []
  (Builtin.append_ #[(219 : Nat), (219 : Nat)] (219 : Nat) #[Value.slice a28 n29 n30, Value.slice (some (Addr.mk n31 (0 : Nat) none)) (1 : Nat) (1 : Nat)]) (fun v33 w34
  => opL v33 fun a35 n36 n37 => NN p0 fun A38 => ¬Addr.block A38 ∈ [] ∧ Wr w34 (Addr.add A38 (1 : Nat)) (1 : Nat) ∧ J14 [Value.int IntKind.i64 x21] [] (setCells w34
  (Addr.add A38 (1 : Nat)) (0 : Nat) [Value.slice a35 n36 n37])) w32) w5) (J14 [Value.int IntKind.i64 x7] [] w5))) w
theorem f168_eq (p0 : Option Addr) (p1 : ByteArray) (p2a : Option Addr) (p2n : Nat) (p2c : Nat) (R : Value → World → Prop) (w : World) : fnW Try.prog [] Try.f168
  [Value.pointer p0, Value.string p1, Value.slice p2a p2n p2c] R w = f168_vc p0 p1 p2a p2n p2c R w := by kernel_rfl
theorem f168_in (p0 : Option Addr) (p1 : ByteArray) (p2a : Option Addr) (p2n : Nat) (p2c : Nat) (R : Value → World → Prop) (w : World) (h : f168_vc p0 p1 p2a p2n p2c R w)
  : Ct Try.prog 168 #[Value.pointer p0, Value.string p1, Value.slice p2a p2n p2c] w R := by
  refine Ct_of (rk := []) (fn := Try.f168) (args := [Value.pointer p0, Value.string p1, Value.slice p2a p2n p2c]) mixedT Try.func168 (by kernel_rfl) ?_
  rw [f168_eq]
  exact h
end Fk
set_option linter.unusedVariables false
set_option maxRecDepth 1000000
set_option maxHeartbeats 4000000
namespace Fk
open Go Go.Proofs Go.RowKit
def f169_vc (p0a : Option Addr) (p0n : Nat) (p0c : Nat) (R : Value → World → Prop) (w : World) : Prop := Nw (Obj.cells #[Value.pointer none, Value.slice none (0 : Nat) (0
  : Nat)] (285 : Nat)) w fun n1 w2 => LoopP (fun l3 l4 J5 w6 => opI IntKind.i64 (nthD l3 (0 : Nat)) fun x7 => Bd ((p0n : Nat) : Int) fun x8 => Bd (decide (x7 < x8)) fun
  b9 => If b9 (Bd (IntKind.wrap IntKind.i64 (x7 + (8 : Int))) fun x10 => Bd ((p0n : Nat) : Int) fun x11 => Bd (if x11 < x10 then x11 else x10) fun x12 => RunW Try.prog []
  (Instr.sliceAt (222 : Nat) (Value.slice p0a p0n p0c) (some (Value.int IntKind.i64 x7)) (some (Value.int IntKind.i64 x12)) none) (fun v13 w14 => opL v13 fun a15 n16 n17
  => Bd ((n16 : Nat) : Int) fun x18 => LoopP (fun l19 l20 J21 w22 => opI IntKind.u8 (nthD l19 (0 : Nat)) fun x23 => opI IntKind.i64 (nthD l19 (1 : Nat)) fun x24 => Bd
  (decide (x24 < x18)) fun b25 => If b25 (Jn (fun l26 l27 w28 => opI IntKind.u8 (nthD l26 (0 : Nat)) fun x29 => opI IntKind.i64 (nthD l26 (1 : Nat)) fun x30 => opB (nthD
  l26 (2 : Nat)) fun b31 => Bd (IntKind.wrap IntKind.i64 (x24 + (1 : Int))) fun x32 => J21 [Value.int IntKind.u8 x29, Value.int IntKind.i64 x32] [] w28) fun J33 => IxOk
  x24 n16 a15 ∧ Ld w22 (adAt a15 x24 (1 : Nat)) fun v34 => opB v34 fun b35 => If b35 ((0 : Int) ≤ x24 ∧ Bd (IntKind.wrap IntKind.u8 ((1 : Int) * (2 : Int) ^ min
  (Int.toNat x24) (8 : Nat))) fun x36 => Bd (IntKind.wrap IntKind.u8 ↑(BitVec.toNat (BitVec.ofInt (8 : Nat) x23 ||| BitVec.ofInt (8 : Nat) x36))) fun x37 => J33
  [Value.int IntKind.u8 x37, Value.int IntKind.i64 x24, Value.bool b35] [] w22) (J33 [Value.int IntKind.u8 x23, Value.int IntKind.i64 x24, Value.bool b35] [] w22)) (CallW
  Try.prog [] (218 : Nat) #[Value.pointer (some (Addr.mk n1 (0 : Nat) none)), Value.int IntKind.u8 x23] (fun v38 w39 => Bd (IntKind.wrap IntKind.i64 (x7 + (8 : Int))) fun
  x40 => J5 [Value.int IntKind.i64 x40] [] w39) w22)) [Value.int IntKind.u8 (0 : Int), Value.int IntKind.i64 (0 : Int)] [] w14) w6) (CallW Try.prog [] (219 : Nat)
  #[Value.pointer (some (Addr.mk n1 (0 : Nat) none))] (fun v41 w42 => opStr v41 fun s43 => R (Value.string s43) w42) w6)) [Value.int IntKind.i64 (0 : Int)] [] w2
theorem f169_eq (p0a : Option Addr) (p0n : Nat) (p0c : Nat) (R : Value → World → Prop) (w : World) : fnW Try.prog [] Try.f169 [Value.slice p0a p0n p0c] R w = f169_vc p0a
  p0n p0c R w := by kernel_rfl
theorem f169_in (p0a : Option Addr) (p0n : Nat) (p0c : Nat) (R : Value → World → Prop) (w : World) (h : f169_vc p0a p0n p0c R w) : Ct Try.prog 169 #[Value.slice p0a p0n
  p0c] w R := by
  refine Ct_of (rk := []) (fn := Try.f169) (args := [Value.slice p0a p0n p0c]) mixedT Try.func169 (by kernel_rfl) ?_
  rw [f169_eq]
  exact h
def f218_vc (p0 : Option Addr) (p1 : Int) (R : Value → World → Prop) (w : World) : Prop := CallW Try.prog [] (229 : Nat) #[Value.pointer p0] (fun v1 w2 => opTu v1 fun cs3
  => SzIs (Array.size cs3) (0 : Nat) (NN p0 fun A4 => Ld w2 (Addr.add A4 (1 : Nat)) fun v5 => opL v5 fun a6 n7 n8 => Nw (Obj.cells #[Value.int IntKind.u8 p1] (5 : Nat))
  w2 fun n9 w10 => RunW Try.prog [] (Builtin.append_ #[(51 : Nat), (51 : Nat)] (51 : Nat) #[Value.slice a6 n7 n8, Value.slice (some (Addr.mk n9 (0 : Nat) none)) (1 : Nat)
  (1 : Nat)]) (fun v11 w12 => opL v11 fun a13 n14 n15 => NN p0 fun A16 => ¬Addr.block A16 ∈ [] ∧ Wr w12 (Addr.add A16 (1 : Nat)) (1 : Nat) ∧ R Value.nilIface (setCells
  w12 (Addr.add A16 (1 : Nat)) (0 : Nat) [Value.slice a13 n14 n15])) w10)) w
theorem f218_eq (p0 : Option Addr) (p1 : Int) (R : Value → World → Prop) (w : World) : fnW Try.prog [] Try.f218 [Value.pointer p0, Value.int IntKind.u8 p1] R w = f218_vc
  p0 p1 R w := by kernel_rfl
theorem f218_in (p0 : Option Addr) (p1 : Int) (R : Value → World → Prop) (w : World) (h : f218_vc p0 p1 R w) : Ct Try.prog 218 #[Value.pointer p0, Value.int IntKind.u8
  p1] w R := by
  refine Ct_of (rk := []) (fn := Try.f218) (args := [Value.pointer p0, Value.int IntKind.u8 p1]) mixedT Try.func218 (by kernel_rfl) ?_
  rw [f218_eq]
  exact h
def f219_vc (p0 : Option Addr) (R : Value → World → Prop) (w : World) : Prop := Dr (World.drew w) fun J1 => NN p0 fun A2 => ∃ v3, (∀ (w4 : World), J1 w4 → Ld w4 (Addr.add
  A2 (1 : Nat)) fun v6 => v6 = v3) ∧ opL v3 fun a7 n8 n9 => NN p0 fun A10 => ∃ v11, (∀ (w12 : World), J1 w12 → Ld w12 (Addr.add A10 (1 : Nat)) fun v14 => v14 = v11) ∧ opL
  v11 fun a15 n16 n17 => Bd ((n16 : Nat) : Int) fun x18 => RunW Try.prog [] (Builtin.unsafeSliceData_ #[(51 : Nat)] (296 : Nat) #[Value.slice a7 n8 n9]) (fun v19 w20 =>
  opP v19 fun a21 => J1 w20 ∧ RunW Try.prog [] (Builtin.unsafeString_ #[(296 : Nat), (3 : Nat)] (9 : Nat) #[Value.pointer a21, Value.int IntKind.i64 x18]) (fun v22 w23 =>
  opStr v22 fun s24 => J1 w23 ∧ R (Value.string s24) w23) w20) (World.drew w)
theorem f219_eq (p0 : Option Addr) (R : Value → World → Prop) (w : World) : fnW Try.prog [100001] Try.f219 [Value.pointer p0] R w = f219_vc p0 R w := by kernel_rfl
theorem f219_in (p0 : Option Addr) (R : Value → World → Prop) (w : World) (h : f219_vc p0 R w) : Ct Try.prog 219 #[Value.pointer p0] w R := by
  refine Ct_of (rk := [100001]) (fn := Try.f219) (args := [Value.pointer p0]) mixedT Try.func219 (by kernel_rfl) ?_
  rw [f219_eq]
  exact h
def f229_vc (p0 : Option Addr) (R : Value → World → Prop) (w : World) : Prop := NN p0 fun A1 => Ld w (Addr.add A1 (0 : Nat)) fun v2 => opP v2 fun a3 => RunW Try.prog []
  (eqS BinOp.eql (283 : Nat) (Operand.tmp (5 : Nat)) (Operand.const (Value.pointer none)) (Value.pointer a3) (Value.pointer none)) (fun v4 w5 => opB v4 fun b6 => If b6
  (RunW Try.prog [] (convert (283 : Nat) (303 : Nat) (Value.pointer p0)) (fun v7 w8 => CallW Try.prog [] (234 : Nat) #[v7] (fun v9 w10 => RunW Try.prog [] (convert (303 :
  Nat) (283 : Nat) v9) (fun v11 w12 => opP v11 fun a13 => NN p0 fun A14 => ¬Addr.block (Addr.add A14 (0 : Nat)) ∈ [] ∧ Wr w12 (Addr.add A14 (0 : Nat)) (1 : Nat) ∧ R
  (Value.tuple #[]) (setCells w12 (Addr.add A14 (0 : Nat)) (0 : Nat) [Value.pointer a13])) w10) w8) w5) (NN p0 fun A15 => Ld w5 (Addr.add A15 (0 : Nat)) fun v16 => opP
  v16 fun a17 => RunW Try.prog [] (eqS BinOp.neq (283 : Nat) (Operand.tmp (17 : Nat)) (Operand.tmp (18 : Nat)) (Value.pointer a17) (Value.pointer p0)) (fun v18 w19 => opB
  v18 fun b20 => If b20 False (R (Value.tuple #[]) w19)) w5)) w
theorem f229_eq (p0 : Option Addr) (R : Value → World → Prop) (w : World) : fnW Try.prog [] Try.f229 [Value.pointer p0] R w = f229_vc p0 R w := by kernel_rfl
theorem f229_in (p0 : Option Addr) (R : Value → World → Prop) (w : World) (h : f229_vc p0 R w) : Ct Try.prog 229 #[Value.pointer p0] w R := by
  refine Ct_of (rk := []) (fn := Try.f229) (args := [Value.pointer p0]) mixedT Try.func229 (by kernel_rfl) ?_
  rw [f229_eq]
  exact h
end Fk
set_option linter.unusedVariables false
set_option maxRecDepth 1000000
set_option maxHeartbeats 4000000
namespace Fk
open Go Go.Proofs Go.RowKit
def f59_vc (p0 : Array Value) (R : Value → World → Prop) (w : World) : Prop := Nw (Obj.cells p0 (57 : Nat)) w fun n1 w2 => LdN w2 (Addr.mk n1 (0 : Nat) none) (261 : Nat)
  fun l3 => Bd (List.toArray l3) fun cs4 => Array.size cs4 = (261 : Nat) ∧ CallW Try.prog [] (55 : Nat) #[Value.agg cs4] (fun v5 w6 => opB v5 fun b7 => Bd (!b7) fun b8 =>
  If b8 (R (Value.tuple #[Value.slice none (0 : Nat) (0 : Nat), Value.int IntKind.i64 (100 : Int)]) w6) (Ld w6 (Addr.add (Addr.add (Addr.mk n1 (0 : Nat) none) (257 :
  Nat)) (0 : Nat)) fun v9 => opI IntKind.i64 v9 fun x10 => Bd (IntKind.wrap IntKind.i64 (x10 - (1 : Int))) fun x11 => Bd (IntKind.wrap IntKind.u8 x11) fun x12 => Nw
  (Obj.cells #[Value.int IntKind.u8 (70 : Int), Value.int IntKind.u8 (84 : Int), Value.int IntKind.u8 (1 : Int), Value.int IntKind.u8 x12] (5 : Nat)) w6 fun n13 w14 => Jn
  (fun l15 l16 w17 => opL (nthD l15 (0 : Nat)) fun a18 n19 n20 => Ld w17 (Addr.add (Addr.mk n1 (0 : Nat) none) (260 : Nat)) fun v21 => opL v21 fun a22 n23 n24 => Bd ((n23
  : Nat) : Int) fun x25 => LoopP (fun l26 l27 J28 w29 => opL (nthD l26 (0 : Nat)) fun a30 n31 n32 => opI IntKind.i64 (nthD l26 (1 : Nat)) fun x33 => Bd (decide (x33 <
  x25)) fun b34 => If b34 (IxOk x33 n23 a22 ∧ Ld w29 (adAt a22 x33 (1 : Nat)) fun v35 => opStr v35 fun s36 => Bd (((ByteArray.size s36) : Nat) : Int) fun x37 => Bd
  (IntKind.wrap IntKind.u8 x37) fun x38 => Nw (Obj.cells #[Value.int IntKind.u8 x38] (5 : Nat)) w29 fun n39 w40 => RunW Try.prog [] (Builtin.append_ #[(51 : Nat), (51 :
  Nat)] (51 : Nat) #[Value.slice a30 n31 n32, Value.slice (some (Addr.mk n39 (0 : Nat) none)) (1 : Nat) (1 : Nat)]) (fun v41 w42 => opL v41 fun a43 n44 n45 => RunW
  Try.prog [] (Builtin.append_ #[(51 : Nat), (9 : Nat)] (51 : Nat) #[Value.slice a43 n44 n45, Value.string s36]) (fun v46 w47 => opL v46 fun a48 n49 n50 => Bd
  (IntKind.wrap IntKind.i64 (x33 + (1 : Int))) fun x51 => J28 [Value.slice a48 n49 n50, Value.int IntKind.i64 x51] [] w47) w42) w40) (RunW Try.prog [] (Instr.sliceAt (23
  : Nat) (Value.pointer (some (Addr.add (Addr.add (Addr.mk n1 (0 : Nat) none) (0 : Nat)) (0 : Nat)))) none none none) (fun v52 w53 => opL v52 fun a54 n55 n56 => RunW
  Try.prog [] (Builtin.append_ #[(51 : Nat), (51 : Nat)] (51 : Nat) #[Value.slice a30 n31 n32, Value.slice a54 n55 n56]) (fun v57 w58 => opL v57 fun a59 n60 n61 => Ld w58
  (Addr.add (Addr.add (Addr.mk n1 (0 : Nat) none) (257 : Nat)) (2 : Nat)) fun v62 => opL v62 fun a63 n64 n65 => Bd ((n64 : Nat) : Int) fun x66 => LoopP (fun l67 l68 J69
  w70 => opL (nthD l67 (0 : Nat)) fun a71 n72 n73 => opI IntKind.i64 (nthD l67 (1 : Nat)) fun x74 => Bd (decide (x74 < x66)) fun b75 => If b75 (IxOk x74 n64 a63 ∧ Ld w70
  (adAt a63 x74 (1 : Nat)) fun v76 => opI IntKind.i64 v76 fun x77 => Bd (IntKind.wrap IntKind.i64 (x77 + (1 : Int))) fun x78 => Bd (IntKind.wrap IntKind.u8 x78) fun x79
  => Nw (Obj.cells #[Value.int IntKind.u8 x79] (5 : Nat)) w70 fun n80 w81 => RunW Try.prog [] (Builtin.append_ #[(51 : Nat), (51 : Nat)] (51 : Nat) #[Value.slice a71 n72
  n73, Value.slice (some (Addr.mk n80 (0 : Nat) none)) (1 : Nat) (1 : Nat)]) (fun v82 w83 => opL v82 fun a84 n85 n86 => Bd (IntKind.wrap IntKind.i64 (x74 + (1 : Int)))
  fun x87 => J69 [Value.slice a84 n85 n86, Value.int IntKind.i64 x87] [] w83) w81) (Ld w70 (Addr.add (Addr.add (Addr.mk n1 (0 : Nat) none) (257 : Nat)) (1 : Nat)) fun v88
  => opL v88 fun a89 n90 n91 => Bd ((n90 : Nat) : Int) fun x92 => LoopP (fun l93 l94 J95 w96 => opL (nthD l93 (0 : Nat)) fun a97 n98 n99 => opI IntKind.i64 (nthD l93 (1 :
  Nat)) fun x100 => Bd (decide (x100 < x92)) fun b101 => If b101 (IxOk x100 n90 a89 ∧ Ld w96 (adAt a89 x100 (1 : Nat)) fun v102 => opI IntKind.i64 v102 fun x103 => Bd
  (IntKind.wrap IntKind.i64 (x103 + (1 : Int))) fun x104 => CallW Try.prog [] (156 : Nat) #[Value.slice a97 n98 n99, Value.int IntKind.i64 x104] (fun v105 w106 => opL
  v105 fun a107 n108 n109 => Bd (IntKind.wrap IntKind.i64 (x100 + (1 : Int))) fun x110 => J95 [Value.slice a107 n108 n109, Value.int IntKind.i64 x110] [] w106) w96) (R
  (Value.tuple #[Value.slice a97 n98 n99, Value.int IntKind.i64 (0 : Int)]) w96)) [Value.slice a71 n72 n73, Value.int IntKind.i64 (0 : Int)] [] w70)) [Value.slice a59 n60
  n61, Value.int IntKind.i64 (0 : Int)] [] w58) w53) w29)) [Value.slice a18 n19 n20, Value.int IntKind.i64 (0 : Int)] [] w17) fun J111 => Dr (World.drew w14) fun J112 =>
  ∃ v113, (∀ (w114 : World), J112 w114 → Ld w114 (Addr.add (Addr.add (Addr.mk n1 (0 : Nat) none) (257 : Nat)) (2 : Nat)) fun v116 => v116 = v113) ∧ opL v113 fun a117 n118
  n119 => Bd ((n118 : Nat) : Int) fun x120 => ∃ v121, (∀ (w122 : World), J112 w122 → Ld w122 (Addr.add (Addr.mk n1 (0 : Nat) none) (260 : Nat)) fun v124 => v124 = v121) ∧
  opL v121 fun a125 n126 n127 => Bd ((n126 : Nat) : Int) fun x128 => Bd (IntKind.wrap IntKind.u8 x128) fun x129 => CallW Try.prog [] (156 : Nat) #[Value.slice (some
  (Addr.mk n13 (0 : Nat) none)) (4 : Nat) (4 : Nat), Value.int IntKind.i64 x120] (fun v130 w131 => opL v130 fun a132 n133 n134 => J112 w131 ∧ Nw (Obj.cells #[Value.int
  IntKind.u8 x129] (5 : Nat)) w131 fun n135 w136 => J112 w136 ∧ RunW Try.prog [] (Builtin.append_ #[(51 : Nat), (51 : Nat)] (51 : Nat) #[Value.slice a132 n133 n134,
  Value.slice (some (Addr.mk n135 (0 : Nat) none)) (1 : Nat) (1 : Nat)]) (fun v137 w138 => opL v137 fun a139 n140 n141 => J112 w138 ∧ J111 [Value.slice a139 n140 n141] []
  w138) w136) (World.drew w14) ∧ Nw (Obj.cells #[Value.int IntKind.u8 x129] (5 : Nat)) (World.drew w14) fun n142 w143 => J112 w143 ∧ CallW Try.prog [] (156 : Nat)
  #[Value.slice (some (Addr.mk n13 (0 : Nat) none)) (4 : Nat) (4 : Nat), Value.int IntKind.i64 x120] (fun v144 w145 => opL v144 fun a146 n147 n148 => J112 w145 ∧ RunW
  Try.prog [] (Builtin.append_ #[(51 : Nat), (51 : Nat)] (51 : Nat) #[Value.slice a146 n147 n148, Value.slice (some (Addr.mk n142 (0 : Nat) none)) (1 : Nat) (1 : Nat)])
  (fun v149 w150 => opL v149 fun a151 n152 n153 => J112 w150 ∧ J111 [Value.slice a151 n152 n153] [] w150) w145) w143)) w2
theorem f59_eq (p0 : Array Value) (R : Value → World → Prop) (w : World) : fnW Try.prog [] Try.f59 [Value.agg p0] R w = f59_vc p0 R w := by kernel_rfl
theorem f59_in (p0 : Array Value) (R : Value → World → Prop) (w : World) (h : f59_vc p0 R w) : Ct Try.prog 59 #[Value.agg p0] w R := by
  refine Ct_of (rk := []) (fn := Try.f59) (args := [Value.agg p0]) mixedT Try.func59 (by kernel_rfl) ?_
  rw [f59_eq]
  exact h
end Fk
set_option linter.unusedVariables false
set_option maxRecDepth 1000000
set_option maxHeartbeats 4000000
namespace Fk
open Go Go.Proofs Go.RowKit
def f166_vc (p0_0 : Int) (p0_1a : Option Addr) (p0_1n : Nat) (p0_1c : Nat) (p1 : Array Value) (R : Value → World → Prop) (w : World) : Prop := Rg w fun n1 => Rg w fun n2
  => Up [] [n2, n1] w fun w3 => Nw (Obj.map #[] (0 : Nat)) w3 fun n4 w5 => Bd ((p0_1n : Nat) : Int) fun x6 => LoopP (fun l7 l8 J9 w10 => opB (nthD l7 (0 : Nat)) fun b11
  => opI IntKind.i64 (nthD l7 (1 : Nat)) fun x12 => Bd (decide (x12 < x6)) fun b13 => If b13 (Jn (fun l14 l15 w16 => opB (nthD l14 (0 : Nat)) fun b17 => Bd (IntKind.wrap
  IntKind.i64 (x12 + (1 : Int))) fun x18 => J9 [Value.bool b17, Value.int IntKind.i64 x18] [] w16) fun J19 => IxOk x12 p0_1n p0_1a ∧ Ld w10 (Addr.add (adAt p0_1a x12 (8 :
  Nat)) (0 : Nat)) fun v20 => Ld w10 (Addr.add (adAt p0_1a x12 (8 : Nat)) (1 : Nat)) fun v21 => Ld w10 (Addr.add (adAt p0_1a x12 (8 : Nat)) (2 : Nat)) fun v22 => Ld w10
  (Addr.add (adAt p0_1a x12 (8 : Nat)) (3 : Nat)) fun v23 => Ld w10 (Addr.add (adAt p0_1a x12 (8 : Nat)) (4 : Nat)) fun v24 => Ld w10 (Addr.add (adAt p0_1a x12 (8 : Nat))
  (5 : Nat)) fun v25 => Ld w10 (Addr.add (adAt p0_1a x12 (8 : Nat)) (6 : Nat)) fun v26 => Ld w10 (Addr.add (adAt p0_1a x12 (8 : Nat)) (7 : Nat)) fun v27 => opI IntKind.u8
  v20 fun x28 => opI IntKind.u64 v21 fun x29 => opI IntKind.u64 v22 fun x30 => opI IntKind.u64 v23 fun x31 => opI IntKind.u64 v24 fun x32 => opI IntKind.i64 v25 fun x33
  => opI IntKind.i64 v26 fun x34 => opI IntKind.i64 v27 fun x35 => Rg w10 fun n36 => Bd (x28 == (1 : Int)) fun b37 => Up [n36] [n36, n2, n1] w10 fun w38 => Gd b37 (0 :
  Int) (fun J39 => RunW Try.prog [n36, n2, n1] (Instr.lookup (282 : Nat) (Value.map (some n4)) (Value.agg #[Value.int IntKind.u64 x29, Value.int IntKind.u64 x30,
  Value.int IntKind.u64 x31, Value.int IntKind.u64 x32]) false) (fun v40 w41 => opI IntKind.i64 v40 fun x42 => J39 x42 w41) w38) (fun x43 w44 => Bd (x43 == (0 : Int)) fun
  b45 => Bd (bif b37 then b45 else false) fun b46 => If b46 (Array.size p1 = (257 : Nat) ∧ CallW Try.prog [n36, n2, n1] (46 : Nat) #[Value.agg p1, Value.agg #[Value.int
  IntKind.u64 x29, Value.int IntKind.u64 x30, Value.int IntKind.u64 x31, Value.int IntKind.u64 x32]] (fun v47 w48 => opB v47 fun b49 => Bd (!b49) fun b50 => If b50 (R
  (Value.bool false) w48) (RunU Try.prog [n36, n2, n1] (Instr.mapUpdate (282 : Nat) (Value.map (some n4)) (Value.agg #[Value.int IntKind.u64 x29, Value.int IntKind.u64
  x30, Value.int IntKind.u64 x31, Value.int IntKind.u64 x32]) (Value.int IntKind.i64 (1 : Int))) (fun w51 => J19 [Value.bool b11] [] w51) w48)) w44) (J19 [Value.bool b11]
  [] w44)) w38) (Array.size p1 = (257 : Nat) ∧ CallW Try.prog [n2, n1] (44 : Nat) #[Value.agg p1] (fun v52 w53 => opB v52 fun b54 => R (Value.bool b54) w53) w10))
  [Value.bool false, Value.int IntKind.i64 (0 : Int)] [] w5
theorem f166_eq (p0_0 : Int) (p0_1a : Option Addr) (p0_1n : Nat) (p0_1c : Nat) (p1 : Array Value) (R : Value → World → Prop) (w : World) : fnW Try.prog [2, 3, 7] Try.f166
  [Value.agg #[Value.int IntKind.i64 p0_0, Value.slice p0_1a p0_1n p0_1c], Value.agg p1] R w = f166_vc p0_0 p0_1a p0_1n p0_1c p1 R w := by kernel_rfl
theorem f166_in (p0_0 : Int) (p0_1a : Option Addr) (p0_1n : Nat) (p0_1c : Nat) (p1 : Array Value) (R : Value → World → Prop) (w : World) (h : f166_vc p0_0 p0_1a p0_1n
  p0_1c p1 R w) : Ct Try.prog 166 #[Value.agg #[Value.int IntKind.i64 p0_0, Value.slice p0_1a p0_1n p0_1c], Value.agg p1] w R := by
  refine Ct_of (rk := [2, 3, 7]) (fn := Try.f166) (args := [Value.agg #[Value.int IntKind.i64 p0_0, Value.slice p0_1a p0_1n p0_1c], Value.agg p1]) mixedT Try.func166 (by kernel_rfl) ?_
  rw [f166_eq]
  exact h
end Fk
set_option linter.unusedVariables false
set_option maxRecDepth 1000000
set_option maxHeartbeats 4000000
namespace Fk
open Go Go.Proofs Go.RowKit
def f67_vc (p0_0 : Int) (p0_1a : Option Addr) (p0_1n : Nat) (p0_1c : Nat) (p1 : Array Value) (p2 : Int) (R : Value → World → Prop) (w : World) : Prop := Rg w fun n1 => Rg
  w fun n2 => Rg w fun n3 => Up [] [n3, n2, n1] w fun w4 => CallW Try.prog [n3, n2, n1] (81 : Nat) #[Value.agg #[Value.int IntKind.i64 p0_0, Value.slice p0_1a p0_1n
  p0_1c]] (fun v5 w6 => opB v5 fun b7 => Bd (!b7) fun b8 => ((!b8) = true → Array.size p1 = (257 : Nat)) ∧ Gd (!b8) false (fun J10 => CallW Try.prog [n3, n2, n1] (166 :
  Nat) #[Value.agg #[Value.int IntKind.i64 p0_0, Value.slice p0_1a p0_1n p0_1c], Value.agg p1] (fun v11 w12 => opB v11 fun b13 => J10 b13 w12) w6) (fun b14 w15 => Bd
  (!b14) fun b16 => Bd (bif b8 then true else b16) fun b17 => Bd (decide (p2 < (1 : Int))) fun b18 => Bd (bif b17 then true else b18) fun b19 => Bd (decide (p2 > (5000 :
  Int))) fun b20 => Bd (bif b19 then true else b20) fun b21 => If b21 (Up [n3] [n3, n2, n1] w15 fun w22 => R (Value.tuple #[Value.agg #[Value.int IntKind.i64 (0 : Int),
  Value.slice none (0 : Nat) (0 : Nat), Value.slice none (0 : Nat) (0 : Nat)], Value.int IntKind.i64 (2 : Int)]) w22) (BdO (nthV (Array.toList p1) (256 : Nat)) fun v23 =>
  opI IntKind.i64 v23 fun x24 => RunW Try.prog [n3, n2, n1] (Instr.makeSlice (51 : Nat) (Value.int IntKind.i64 x24) (Value.int IntKind.i64 x24)) (fun v25 w26 => opL v25
  fun a27 n28 n29 => Bd ((n28 : Nat) : Int) fun x30 => LoopP (fun l31 l32 J33 w34 => opI IntKind.i64 (nthD l31 (0 : Nat)) fun x35 => Bd (decide (x35 < x30)) fun b36 => If
  b36 (Array.size p1 = (257 : Nat) ∧ CallW Try.prog [n3, n2, n1] (42 : Nat) #[Value.agg p1, Value.int IntKind.i64 x35] (fun v37 w38 => opTu v37 fun cs39 => opI IntKind.u8
  (nthD (Array.toList cs39) (0 : Nat)) fun x40 => opB (nthD (Array.toList cs39) (1 : Nat)) fun b41 => SzIs (Array.size cs39) (2 : Nat) (IxOk x35 n28 a27 ∧ ¬Addr.block
  (adAt a27 x35 (1 : Nat)) ∈ [n3, n2, n1] ∧ Wr w38 (adAt a27 x35 (1 : Nat)) (1 : Nat) ∧ Bd (IntKind.wrap IntKind.i64 (x35 + (1 : Int))) fun x42 => J33 [Value.int
  IntKind.i64 x42] [] (setCells w38 (adAt a27 x35 (1 : Nat)) (0 : Nat) [Value.int IntKind.u8 x40]))) w34) (Nw (Obj.map #[] (0 : Nat)) w34 fun n43 w44 => Nw (Obj.cells
  #[Value.map (some n43), Value.slice none (0 : Nat) (0 : Nat)] (221 : Nat)) w44 fun n45 w46 => Nw (Obj.cells #[Value.int IntKind.i64 p0_0] (3 : Nat)) w46 fun n47 w48 =>
  CallW Try.prog [n3, n2, n1] (167 : Nat) #[Value.agg #[Value.int IntKind.i64 p0_0, Value.slice p0_1a p0_1n p0_1c], Value.slice (some (Addr.mk n47 (0 : Nat) none)) (1 :
  Nat) (1 : Nat)] (fun v49 w50 => opL v49 fun a51 n52 n53 => CallW Try.prog [n3, n2, n1] (169 : Nat) #[Value.slice a51 n52 n53] (fun v54 w55 => opStr v54 fun s56 => CallW
  Try.prog [n3, n2, n1] (168 : Nat) #[Value.pointer (some (Addr.mk n45 (0 : Nat) none)), Value.string s56, Value.slice a51 n52 n53] (fun v57 w58 => opTu v57 fun cs59 =>
  opI IntKind.i64 (nthD (Array.toList cs59) (0 : Nat)) fun x60 => opB (nthD (Array.toList cs59) (1 : Nat)) fun b61 => SzIs (Array.size cs59) (2 : Nat) (BdO (nthV
  (Array.toList p1) (256 : Nat)) fun v62 => opI IntKind.i64 v62 fun x63 => CallW Try.prog [n3, n2, n1] (170 : Nat) #[Value.agg #[Value.int IntKind.i64 p0_0, Value.slice
  p0_1a p0_1n p0_1c], Value.slice a51 n52 n53] (fun v64 w65 => opI IntKind.i64 v64 fun x66 => (Nw (Obj.cells #[Value.int IntKind.i64 x66] (3 : Nat)) w65 fun n67 w68 => Rg
  w68 fun n69 => Up [] [n69, n3, n2, n1] w68 fun w70 => Up [n69] [n69, n3, n2, n1] w70 fun w71 => LoopP (fun l72 l73 J74 w75 => opI IntKind.i64 (nthD l72 (0 : Nat)) fun
  x76 => opI IntKind.i64 (nthD l72 (1 : Nat)) fun x77 => opAg (nthD l73 (0 : Nat)) fun cs78 => opI IntKind.i64 (nthD (Array.toList cs78) (0 : Nat)) fun x79 => opL (nthD
  (Array.toList cs78) (1 : Nat)) fun a80 n81 n82 => opL (nthD (Array.toList cs78) (2 : Nat)) fun a83 n84 n85 => SzIs (Array.size cs78) (3 : Nat) (opAg (nthD l73 (1 :
  Nat)) fun cs86 => opI IntKind.i64 (nthD (Array.toList cs86) (0 : Nat)) fun x87 => opL (nthD (Array.toList cs86) (1 : Nat)) fun a88 n89 n90 => opL (nthD (Array.toList
  cs86) (2 : Nat)) fun a91 n92 n93 => SzIs (Array.size cs86) (3 : Nat) (NN (some (Addr.mk n45 (0 : Nat) none)) fun A94 => Ld w75 (Addr.add A94 (1 : Nat)) fun v95 => opL
  v95 fun a96 n97 n98 => Bd ((n97 : Nat) : Int) fun x99 => Bd (decide (x77 < x99)) fun b100 => If b100 (Bd ((n28 : Nat) : Int) fun x101 => LoopP (fun l102 l103 J104 w105
  => opI IntKind.i64 (nthD l102 (0 : Nat)) fun x106 => opI IntKind.i64 (nthD l102 (1 : Nat)) fun x107 => opAg (nthD l103 (0 : Nat)) fun cs108 => opI IntKind.i64 (nthD
  (Array.toList cs108) (0 : Nat)) fun x109 => opL (nthD (Array.toList cs108) (1 : Nat)) fun a110 n111 n112 => opL (nthD (Array.toList cs108) (2 : Nat)) fun a113 n114 n115
  => SzIs (Array.size cs108) (3 : Nat) (opAg (nthD l103 (1 : Nat)) fun cs116 => opI IntKind.i64 (nthD (Array.toList cs116) (0 : Nat)) fun x117 => opL (nthD (Array.toList
  cs116) (1 : Nat)) fun a118 n119 n120 => opL (nthD (Array.toList cs116) (2 : Nat)) fun a121 n122 n123 => SzIs (Array.size cs116) (3 : Nat) (Bd (decide (x107 < x101)) fun
  b124 => If b124 (Jn (fun l125 l126 w127 => opI IntKind.i64 (nthD l125 (0 : Nat)) fun x128 => opAg (nthD l126 (0 : Nat)) fun cs129 => opI IntKind.i64 (nthD (Array.toList
  cs129) (0 : Nat)) fun x130 => opL (nthD (Array.toList cs129) (1 : Nat)) fun a131 n132 n133 => opL (nthD (Array.toList cs129) (2 : Nat)) fun a134 n135 n136 => SzIs
  (Array.size cs129) (3 : Nat) (opAg (nthD l126 (1 : Nat)) fun cs137 => opI IntKind.i64 (nthD (Array.toList cs137) (0 : Nat)) fun x138 => opL (nthD (Array.toList cs137)
  (1 : Nat)) fun a139 n140 n141 => opL (nthD (Array.toList cs137) (2 : Nat)) fun a142 n143 n144 => SzIs (Array.size cs137) (3 : Nat) (Bd (IntKind.wrap IntKind.i64 (x107 +
  (1 : Int))) fun x145 => J104 [Value.int IntKind.i64 x128, Value.int IntKind.i64 x145] [Value.agg #[Value.int IntKind.i64 x130, Value.slice a131 n132 n133, Value.slice
  a134 n135 n136], Value.agg #[Value.int IntKind.i64 x138, Value.slice a139 n140 n141, Value.slice a142 n143 n144]] w127))) fun J146 => IxOk x107 n28 a27 ∧ Ld w105 (adAt
  a27 x107 (1 : Nat)) fun v147 => opI IntKind.u8 v147 fun x148 => Dr (World.drew w105) fun J149 => NN (some (Addr.mk n45 (0 : Nat) none)) fun A150 => ∃ v151, (∀ (w152 :
  World), J149 w152 → Ld w152 (Addr.add A150 (1 : Nat)) fun v154 => v154 = v151) ∧ opL v151 fun a155 n156 n157 => IxOk x77 n156 a155 ∧ ∃ v158, (∀ (w159 : World), J149
  w159 → Ld w159 (adAt a155 x77 (1 : Nat)) fun v161 => v161 = v158) ∧ opL v158 fun a162 n163 n164 => CallW Try.prog [n69, n3, n2, n1] (171 : Nat) #[Value.agg #[Value.int
  IntKind.i64 p0_0, Value.slice p0_1a p0_1n p0_1c], Value.slice a162 n163 n164, Value.int IntKind.u8 x148] (fun v165 w166 => opL v165 fun a167 n168 n169 => J149 w166 ∧ Bd
  ((n168 : Nat) : Int) fun x170 => Bd (x170 == (0 : Int)) fun b171 => If b171 (Nw (Obj.cells #[Value.int IntKind.i64 (-1 : Int)] (3 : Nat)) w166 fun n172 w173 => RunW
  Try.prog [n69, n3, n2, n1] (Builtin.append_ #[(52 : Nat), (52 : Nat)] (52 : Nat) #[Value.slice a118 n119 n120, Value.slice (some (Addr.mk n172 (0 : Nat) none)) (1 :
  Nat) (1 : Nat)]) (fun v174 w175 => opL v174 fun a176 n177 n178 => Up [n69] [n69, n3, n2, n1] w175 fun w179 => J146 [Value.int IntKind.i64 x106] [Value.agg #[Value.int
  IntKind.i64 x109, Value.slice a110 n111 n112, Value.slice a113 n114 n115], Value.agg #[Value.int IntKind.i64 x117, Value.slice a176 n177 n178, Value.slice a121 n122
  n123]] w179) w173) (CallW Try.prog [n69, n3, n2, n1] (167 : Nat) #[Value.agg #[Value.int IntKind.i64 p0_0, Value.slice p0_1a p0_1n p0_1c], Value.slice a167 n168 n169]
  (fun v180 w181 => opL v180 fun a182 n183 n184 => CallW Try.prog [n69, n3, n2, n1] (169 : Nat) #[Value.slice a182 n183 n184] (fun v185 w186 => opStr v185 fun s187 =>
  CallW Try.prog [n69, n3, n2, n1] (168 : Nat) #[Value.pointer (some (Addr.mk n45 (0 : Nat) none)), Value.string s187, Value.slice a182 n183 n184] (fun v188 w189 => opTu
  v188 fun cs190 => opI IntKind.i64 (nthD (Array.toList cs190) (0 : Nat)) fun x191 => opB (nthD (Array.toList cs190) (1 : Nat)) fun b192 => SzIs (Array.size cs190) (2 :
  Nat) (Jn (fun l193 l194 w195 => opAg (nthD l194 (0 : Nat)) fun cs196 => opI IntKind.i64 (nthD (Array.toList cs196) (0 : Nat)) fun x197 => opL (nthD (Array.toList cs196)
  (1 : Nat)) fun a198 n199 n200 => opL (nthD (Array.toList cs196) (2 : Nat)) fun a201 n202 n203 => SzIs (Array.size cs196) (3 : Nat) (NN (some (Addr.mk n45 (0 : Nat)
  none)) fun A204 => Ld w195 (Addr.add A204 (1 : Nat)) fun v205 => opL v205 fun a206 n207 n208 => Bd ((n207 : Nat) : Int) fun x209 => Bd (decide (x209 > p2)) fun b210 =>
  If b210 (Up [n3] [n69, n3, n2, n1] w195 fun w211 => R (Value.tuple #[Value.agg #[Value.int IntKind.i64 (0 : Int), Value.slice none (0 : Nat) (0 : Nat), Value.slice none
  (0 : Nat) (0 : Nat)], Value.int IntKind.i64 (40 : Int)]) w211) (Nw (Obj.cells #[Value.int IntKind.i64 x191] (3 : Nat)) w195 fun n212 w213 => RunW Try.prog [n69, n3, n2,
  n1] (Builtin.append_ #[(52 : Nat), (52 : Nat)] (52 : Nat) #[Value.slice a198 n199 n200, Value.slice (some (Addr.mk n212 (0 : Nat) none)) (1 : Nat) (1 : Nat)]) (fun v214
  w215 => opL v214 fun a216 n217 n218 => Up [n69] [n69, n3, n2, n1] w215 fun w219 => J146 [Value.int IntKind.i64 x106] [Value.agg #[Value.int IntKind.i64 x109,
  Value.slice a110 n111 n112, Value.slice a113 n114 n115], Value.agg #[Value.int IntKind.i64 x197, Value.slice a216 n217 n218, Value.slice a201 n202 n203]] w219) w213)))
  fun J220 => If b192 (CallW Try.prog [n69, n3, n2, n1] (170 : Nat) #[Value.agg #[Value.int IntKind.i64 p0_0, Value.slice p0_1a p0_1n p0_1c], Value.slice a182 n183 n184]
  (fun v221 w222 => opI IntKind.i64 v221 fun x223 => Nw (Obj.cells #[Value.int IntKind.i64 x223] (3 : Nat)) w222 fun n224 w225 => RunW Try.prog [n69, n3, n2, n1]
  (Builtin.append_ #[(52 : Nat), (52 : Nat)] (52 : Nat) #[Value.slice a121 n122 n123, Value.slice (some (Addr.mk n224 (0 : Nat) none)) (1 : Nat) (1 : Nat)]) (fun v226
  w227 => opL v226 fun a228 n229 n230 => Up [n69] [n69, n3, n2, n1] w227 fun w231 => J220 [] [Value.agg #[Value.int IntKind.i64 x117, Value.slice a118 n119 n120,
  Value.slice a228 n229 n230]] w231) w225) (World.drew w189) ∧ CallW Try.prog [n69, n3, n2, n1] (170 : Nat) #[Value.agg #[Value.int IntKind.i64 p0_0, Value.slice p0_1a
  p0_1n p0_1c], Value.slice a182 n183 n184] (fun v232 w233 => opI IntKind.i64 v232 fun x234 => (Nw (Obj.cells #[Value.int IntKind.i64 x234] (3 : Nat)) w233 fun n235 w236
  => RunW Try.prog [n69, n3, n2, n1] (Builtin.append_ #[(52 : Nat), (52 : Nat)] (52 : Nat) #[Value.slice a121 n122 n123, Value.slice (some (Addr.mk n235 (0 : Nat) none))
  (1 : Nat) (1 : Nat)]) (fun v237 w238 => opL v237 fun a239 n240 n241 => Up [n69] [n69, n3, n2, n1] w238 fun w242 => J220 [] [Value.agg #[Value.int IntKind.i64 x117,
  Value.slice a118 n119 n120, Value.slice a239 n240 n241]] w242) w236) ∧ Nw (Obj.cells #[Value.int IntKind.i64 x234] (3 : Nat)) w233 fun n243 w244 => RunW Try.prog [n69,
  n3, n2, n1] (Builtin.append_ #[(52 : Nat), (52 : Nat)] (52 : Nat) #[Value.slice a121 n122 n123, Value.slice (some (Addr.mk n243 (0 : Nat) none)) (1 : Nat) (1 : Nat)])
  (fun v245 w246 => opL v245 fun a247 n248 n249 => Up [n69] [n69, n3, n2, n1] w246 fun w250 => J220 [] [Value.agg #[Value.int IntKind.i64 x117, Value.slice a118 n119
  n120, Value.slice a247 n248 n249]] w250) w244) (World.drew w189)) (J220 [] [Value.agg #[Value.int IntKind.i64 x117, Value.slice a118 n119 n120, Value.slice a121 n122
  n123]] w189))) w186) w181) w166)) (World.drew w105)) (Bd (IntKind.wrap IntKind.i64 (x77 + (1 : Int))) fun x251 => J74 [Value.int IntKind.i64 x106, Value.int IntKind.i64
  x251] [Value.agg #[Value.int IntKind.i64 x109, Value.slice a110 n111 n112, Value.slice a113 n114 n115], Value.agg #[Value.int IntKind.i64 x117, Value.slice a118 n119
  n120, Value.slice a121 n122 n123]] w105)))) [Value.int IntKind.i64 x76, Value.int IntKind.i64 (0 : Int)] [Value.agg #[Value.int IntKind.i64 x79, Value.slice a80 n81
  n82, Value.slice a83 n84 n85], Value.agg #[Value.int IntKind.i64 x87, Value.slice a88 n89 n90, Value.slice a91 n92 n93]] w75) (Up [n3] [n69, n3, n2, n1] w75 fun w252 =>
  R (Value.tuple #[Value.agg #[Value.int IntKind.i64 x87, Value.slice a88 n89 n90, Value.slice a91 n92 n93], Value.int IntKind.i64 (0 : Int)]) w252)))) [Value.int
  IntKind.i64 (0 : Int), Value.int IntKind.i64 (0 : Int)] [Value.agg #[Value.int IntKind.i64 (0 : Int), Value.slice none (0 : Nat) (0 : Nat), Value.slice none (0 : Nat)
  (0 : Nat)], Value.agg #[Value.int IntKind.i64 x63, Value.slice none (0 : Nat) (0 : Nat), Value.slice (some (Addr.mk n67 (0 : Nat) none)) (1 : Nat) (1 : Nat)]] w71) ∧ Rg
  w65 fun n253 => Up [] [n253, n3, n2, n1] w65 fun w254 => Nw (Obj.cells #[Value.int IntKind.i64 x66] (3 : Nat)) w254 fun n255 w256 => Up [n253] [n253, n3, n2, n1] w256
  fun w257 => LoopP (fun l258 l259 J260 w261 => opI IntKind.i64 (nthD l258 (0 : Nat)) fun x262 => opI IntKind.i64 (nthD l258 (1 : Nat)) fun x263 => opAg (nthD l259 (0 :
  Nat)) fun cs264 => opI IntKind.i64 (nthD (Array.toList cs264) (0 : Nat)) fun x265 => opL (nthD (Array.toList cs264) (1 : Nat)) fun a266 n267 n268 => opL (nthD
  (Array.toList cs264) (2 : Nat)) fun a269 n270 n271 => SzIs (Array.size cs264) (3 : Nat) (opAg (nthD l259 (1 : Nat)) fun cs272 => opI IntKind.i64 (nthD (Array.toList
  cs272) (0 : Nat)) fun x273 => opL (nthD (Array.toList cs272) (1 : Nat)) fun a274 n275 n276 => opL (nthD (Array.toList cs272) (2 : Nat)) fun a277 n278 n279 => SzIs
  (Array.size cs272) (3 : Nat) (NN (some (Addr.mk n45 (0 : Nat) none)) fun A280 => Ld w261 (Addr.add A280 (1 : Nat)) fun v281 => opL v281 fun a282 n283 n284 => Bd ((n283
  : Nat) : Int) fun x285 => Bd (decide (x263 < x285)) fun b286 => If b286 (Bd ((n28 : Nat) : Int) fun x287 => LoopP (fun l288 l289 J290 w291 => opI IntKind.i64 (nthD l288
  (0 : Nat)) fun x292 => opI IntKind.i64 (nthD l288 (1 : Nat)) fun x293 => opAg (nthD l289 (0 : Nat)) fun cs294 => opI IntKind.i64 (nthD (Array.toList cs294) (0 : Nat))
  fun x295 => opL (nthD (Array.toList cs294) (1 : Nat)) fun a296 n297 n298 => opL (nthD (Array.toList cs294) (2 : Nat)) fun a299 n300 n301 => SzIs (Array.size cs294) (3 :
  Nat) (opAg (nthD l289 (1 : Nat)) fun cs302 => opI IntKind.i64 (nthD (Array.toList cs302) (0 : Nat)) fun x303 => opL (nthD (Array.toList cs302) (1 : Nat)) fun a304 n305
  n306 => opL (nthD (Array.toList cs302) (2 : Nat)) fun a307 n308 n309 => SzIs (Array.size cs302) (3 : Nat) (Bd (decide (x293 < x287)) fun b310 => If b310 (Jn (fun l311
  l312 w313 => opI IntKind.i64 (nthD l311 (0 : Nat)) fun x314 => opAg (nthD l312 (0 : Nat)) fun cs315 => opI IntKind.i64 (nthD (Array.toList cs315) (0 : Nat)) fun x316 =>
  opL (nthD (Array.toList cs315) (1 : Nat)) fun a317 n318 n319 => opL (nthD (Array.toList cs315) (2 : Nat)) fun a320 n321 n322 => SzIs (Array.size cs315) (3 : Nat) (opAg
  (nthD l312 (1 : Nat)) fun cs323 => opI IntKind.i64 (nthD (Array.toList cs323) (0 : Nat)) fun x324 => opL (nthD (Array.toList cs323) (1 : Nat)) fun a325 n326 n327 => opL
  (nthD (Array.toList cs323) (2 : Nat)) fun a328 n329 n330 => SzIs (Array.size cs323) (3 : Nat) (Bd (IntKind.wrap IntKind.i64 (x293 + (1 : Int))) fun x331 => J290
  [Value.int IntKind.i64 x314, Value.int IntKind.i64 x331] [Value.agg #[Value.int IntKind.i64 x316, Value.slice a317 n318 n319, Value.slice a320 n321 n322], Value.agg
  #[Value.int IntKind.i64 x324, Value.slice a325 n326 n327, Value.slice a328 n329 n330]] w313))) fun J332 => IxOk x293 n28 a27 ∧ Ld w291 (adAt a27 x293 (1 : Nat)) fun
  v333 => opI IntKind.u8 v333 fun x334 => Dr (World.drew w291) fun J335 => NN (some (Addr.mk n45 (0 : Nat) none)) fun A336 => ∃ v337, (∀ (w338 : World), J335 w338 → Ld
  w338 (Addr.add A336 (1 : Nat)) fun v340 => v340 = v337) ∧ opL v337 fun a341 n342 n343 => IxOk x263 n342 a341 ∧ ∃ v344, (∀ (w345 : World), J335 w345 → Ld w345 (adAt a341
  x263 (1 : Nat)) fun v347 => v347 = v344) ∧ opL v344 fun a348 n349 n350 => CallW Try.prog [n253, n3, n2, n1] (171 : Nat) #[Value.agg #[Value.int IntKind.i64 p0_0,
  Value.slice p0_1a p0_1n p0_1c], Value.slice a348 n349 n350, Value.int IntKind.u8 x334] (fun v351 w352 => opL v351 fun a353 n354 n355 => J335 w352 ∧ Bd ((n354 : Nat) :
  Int) fun x356 => Bd (x356 == (0 : Int)) fun b357 => If b357 (Nw (Obj.cells #[Value.int IntKind.i64 (-1 : Int)] (3 : Nat)) w352 fun n358 w359 => RunW Try.prog [n253, n3,
  n2, n1] (Builtin.append_ #[(52 : Nat), (52 : Nat)] (52 : Nat) #[Value.slice a304 n305 n306, Value.slice (some (Addr.mk n358 (0 : Nat) none)) (1 : Nat) (1 : Nat)]) (fun
  v360 w361 => opL v360 fun a362 n363 n364 => Up [n253] [n253, n3, n2, n1] w361 fun w365 => J332 [Value.int IntKind.i64 x292] [Value.agg #[Value.int IntKind.i64 x295,
  Value.slice a296 n297 n298, Value.slice a299 n300 n301], Value.agg #[Value.int IntKind.i64 x303, Value.slice a362 n363 n364, Value.slice a307 n308 n309]] w365) w359)
  (CallW Try.prog [n253, n3, n2, n1] (167 : Nat) #[Value.agg #[Value.int IntKind.i64 p0_0, Value.slice p0_1a p0_1n p0_1c], Value.slice a353 n354 n355] (fun v366 w367 =>
  opL v366 fun a368 n369 n370 => CallW Try.prog [n253, n3, n2, n1] (169 : Nat) #[Value.slice a368 n369 n370] (fun v371 w372 => opStr v371 fun s373 => CallW Try.prog
  [n253, n3, n2, n1] (168 : Nat) #[Value.pointer (some (Addr.mk n45 (0 : Nat) none)), Value.string s373, Value.slice a368 n369 n370] (fun v374 w375 => opTu v374 fun cs376
  => opI IntKind.i64 (nthD (Array.toList cs376) (0 : Nat)) fun x377 => opB (nthD (Array.toList cs376) (1 : Nat)) fun b378 => SzIs (Array.size cs376) (2 : Nat) (Jn (fun
  l379 l380 w381 => opAg (nthD l380 (0 : Nat)) fun cs382 => opI IntKind.i64 (nthD (Array.toList cs382) (0 : Nat)) fun x383 => opL (nthD (Array.toList cs382) (1 : Nat))
  fun a384 n385 n386 => opL (nthD (Array.toList cs382) (2 : Nat)) fun a387 n388 n389 => SzIs (Array.size cs382) (3 : Nat) (NN (some (Addr.mk n45 (0 : Nat) none)) fun A390
  => Ld w381 (Addr.add A390 (1 : Nat)) fun v391 => opL v391 fun a392 n393 n394 => Bd ((n393 : Nat) : Int) fun x395 => Bd (decide (x395 > p2)) fun b396 => If b396 (Up [n3]
  [n253, n3, n2, n1] w381 fun w397 => R (Value.tuple #[Value.agg #[Value.int IntKind.i64 (0 : Int), Value.slice none (0 : Nat) (0 : Nat), Value.slice none (0 : Nat) (0 :
  Nat)], Value.int IntKind.i64 (40 : Int)]) w397) (Nw (Obj.cells #[Value.int IntKind.i64 x377] (3 : Nat)) w381 fun n398 w399 => RunW Try.prog [n253, n3, n2, n1]
  (Builtin.append_ #[(52 : Nat), (52 : Nat)] (52 : Nat) #[Value.slice a384 n385 n386, Value.slice (some (Addr.mk n398 (0 : Nat) none)) (1 : Nat) (1 : Nat)]) (fun v400
  w401 => opL v400 fun a402 n403 n404 => Up [n253] [n253, n3, n2, n1] w401 fun w405 => J332 [Value.int IntKind.i64 x292] [Value.agg #[Value.int IntKind.i64 x295,
  Value.slice a296 n297 n298, Value.slice a299 n300 n301], Value.agg #[Value.int IntKind.i64 x383, Value.slice a402 n403 n404, Value.slice a387 n388 n389]] w405) w399)))
  fun J406 => If b378 (CallW Try.prog [n253, n3, n2, n1] (170 : Nat) #[Value.agg #[Value.int IntKind.i64 p0_0, Value.slice p0_1a p0_1n p0_1c], Value.slice a368 n369 n370]
  (fun v407 w408 => opI IntKind.i64 v407 fun x409 => Nw (Obj.cells #[Value.int IntKind.i64 x409] (3 : Nat)) w408 fun n410 w411 => RunW Try.prog [n253, n3, n2, n1]
  (Builtin.append_ #[(52 : Nat), (52 : Nat)] (52 : Nat) #[Value.slice a307 n308 n309, Value.slice (some (Addr.mk n410 (0 : Nat) none)) (1 : Nat) (1 : Nat)]) (fun v412
  w413 => opL v412 fun a414 n415 n416 => Up [n253] [n253, n3, n2, n1] w413 fun w417 => J406 [] [Value.agg #[Value.int IntKind.i64 x303, Value.slice a304 n305 n306,
  Value.slice a414 n415 n416]] w417) w411) (World.drew w375) ∧ CallW Try.prog [n253, n3, n2, n1] (170 : Nat) #[Value.agg #[Value.int IntKind.i64 p0_0, Value.slice p0_1a
  p0_1n p0_1c], Value.slice a368 n369 n370] (fun v418 w419 => opI IntKind.i64 v418 fun x420 => (Nw (Obj.cells #[Value.int IntKind.i64 x420] (3 : Nat)) w419 fun n421 w422
  => RunW Try.prog [n253, n3, n2, n1] (Builtin.append_ #[(52 : Nat), (52 : Nat)] (52 : Nat) #[Value.slice a307 n308 n309, Value.slice (some (Addr.mk n421 (0 : Nat) none))
  (1 : Nat) (1 : Nat)]) (fun v423 w424 => opL v423 fun a425 n426 n427 => Up [n253] [n253, n3, n2, n1] w424 fun w428 => J406 [] [Value.agg #[Value.int IntKind.i64 x303,
  Value.slice a304 n305 n306, Value.slice a425 n426 n427]] w428) w422) ∧ Nw (Obj.cells #[Value.int IntKind.i64 x420] (3 : Nat)) w419 fun n429 w430 => RunW Try.prog [n253,
  n3, n2, n1] (Builtin.append_ #[(52 : Nat), (52 : Nat)] (52 : Nat) #[Value.slice a307 n308 n309, Value.slice (some (Addr.mk n429 (0 : Nat) none)) (1 : Nat) (1 : Nat)])
  (fun v431 w432 => opL v431 fun a433 n434 n435 => Up [n253] [n253, n3, n2, n1] w432 fun w436 => J406 [] [Value.agg #[Value.int IntKind.i64 x303, Value.slice a304 n305
  n306, Value.slice a433 n434 n435]] w436) w430) (World.drew w375)) (J406 [] [Value.agg #[Value.int IntKind.i64 x303, Value.slice a304 n305 n306, Value.slice a307 n308
  n309]] w375))) w372) w367) w352)) (World.drew w291)) (Bd (IntKind.wrap IntKind.i64 (x263 + (1 : Int))) fun x437 => J260 [Value.int IntKind.i64 x292, Value.int
  IntKind.i64 x437] [Value.agg #[Value.int IntKind.i64 x295, Value.slice a296 n297 n298, Value.slice a299 n300 n301], Value.agg #[Value.int IntKind.i64 x303, Value.slice
  a304 n305 n306, Value.slice a307 n308 n309]] w291)))) [Value.int IntKind.i64 x262, Value.int IntKind.i64 (0 : Int)] [Value.agg #[Value.int IntKind.i64 x265, Value.slice
  a266 n267 n268, Value.slice a269 n270 n271], Value.agg #[Value.int IntKind.i64 x273, Value.slice a274 n275 n276, Value.slice a277 n278 n279]] w261) (Up [n3] [n253, n3,
  n2, n1] w261 fun w438 => R (Value.tuple #[Value.agg #[Value.int IntKind.i64 x273, Value.slice a274 n275 n276, Value.slice a277 n278 n279], Value.int IntKind.i64 (0 :
  Int)]) w438)))) [Value.int IntKind.i64 (0 : Int), Value.int IntKind.i64 (0 : Int)] [Value.agg #[Value.int IntKind.i64 (0 : Int), Value.slice none (0 : Nat) (0 : Nat),
  Value.slice none (0 : Nat) (0 : Nat)], Value.agg #[Value.int IntKind.i64 x63, Value.slice none (0 : Nat) (0 : Nat), Value.slice (some (Addr.mk n255 (0 : Nat) none)) (1
  : Nat) (1 : Nat)]] w257) (World.drew w58) ∧ Rg (World.drew w58) fun n439 => Up [] [n439, n3, n2, n1] (World.drew w58) fun w440 => CallW Try.prog [n439, n3, n2, n1] (170
  : Nat) #[Value.agg #[Value.int IntKind.i64 p0_0, Value.slice p0_1a p0_1n p0_1c], Value.slice a51 n52 n53] (fun v441 w442 => opI IntKind.i64 v441 fun x443 => Nw
  (Obj.cells #[Value.int IntKind.i64 x443] (3 : Nat)) w442 fun n444 w445 => Up [n439] [n439, n3, n2, n1] w445 fun w446 => LoopP (fun l447 l448 J449 w450 => opI
  IntKind.i64 (nthD l447 (0 : Nat)) fun x451 => opI IntKind.i64 (nthD l447 (1 : Nat)) fun x452 => opAg (nthD l448 (0 : Nat)) fun cs453 => opI IntKind.i64 (nthD
  (Array.toList cs453) (0 : Nat)) fun x454 => opL (nthD (Array.toList cs453) (1 : Nat)) fun a455 n456 n457 => opL (nthD (Array.toList cs453) (2 : Nat)) fun a458 n459 n460
  => SzIs (Array.size cs453) (3 : Nat) (opAg (nthD l448 (1 : Nat)) fun cs461 => opI IntKind.i64 (nthD (Array.toList cs461) (0 : Nat)) fun x462 => opL (nthD (Array.toList
  cs461) (1 : Nat)) fun a463 n464 n465 => opL (nthD (Array.toList cs461) (2 : Nat)) fun a466 n467 n468 => SzIs (Array.size cs461) (3 : Nat) (NN (some (Addr.mk n45 (0 :
  Nat) none)) fun A469 => Ld w450 (Addr.add A469 (1 : Nat)) fun v470 => opL v470 fun a471 n472 n473 => Bd ((n472 : Nat) : Int) fun x474 => Bd (decide (x452 < x474)) fun
  b475 => If b475 (Bd ((n28 : Nat) : Int) fun x476 => LoopP (fun l477 l478 J479 w480 => opI IntKind.i64 (nthD l477 (0 : Nat)) fun x481 => opI IntKind.i64 (nthD l477 (1 :
  Nat)) fun x482 => opAg (nthD l478 (0 : Nat)) fun cs483 => opI IntKind.i64 (nthD (Array.toList cs483) (0 : Nat)) fun x484 => opL (nthD (Array.toList cs483) (1 : Nat))
  fun a485 n486 n487 => opL (nthD (Array.toList cs483) (2 : Nat)) fun a488 n489 n490 => SzIs (Array.size cs483) (3 : Nat) (opAg (nthD l478 (1 : Nat)) fun cs491 => opI
  IntKind.i64 (nthD (Array.toList cs491) (0 : Nat)) fun x492 => opL (nthD (Array.toList cs491) (1 : Nat)) fun a493 n494 n495 => opL (nthD (Array.toList cs491) (2 : Nat))
  fun a496 n497 n498 => SzIs (Array.size cs491) (3 : Nat) (Bd (decide (x482 < x476)) fun b499 => If b499 (Jn (fun l500 l501 w502 => opI IntKind.i64 (nthD l500 (0 : Nat))
  fun x503 => opAg (nthD l501 (0 : Nat)) fun cs504 => opI IntKind.i64 (nthD (Array.toList cs504) (0 : Nat)) fun x505 => opL (nthD (Array.toList cs504) (1 : Nat)) fun a506
  n507 n508 => opL (nthD (Array.toList cs504) (2 : Nat)) fun a509 n510 n511 => SzIs (Array.size cs504) (3 : Nat) (opAg (nthD l501 (1 : Nat)) fun cs512 => opI IntKind.i64
  (nthD (Array.toList cs512) (0 : Nat)) fun x513 => opL (nthD (Array.toList cs512) (1 : Nat)) fun a514 n515 n516 => opL (nthD (Array.toList cs512) (2 : Nat)) fun a517
  n518 n519 => SzIs (Array.size cs512) (3 : Nat) (Bd (IntKind.wrap IntKind.i64 (x482 + (1 : Int))) fun x520 => J479 [Value.int IntKind.i64 x503, Value.int IntKind.i64
  x520] [Value.agg #[Value.int IntKind.i64 x505, Value.slice a506 n507 n508, Value.slice a509 n510 n511], Value.agg #[Value.int IntKind.i64 x513, Value.slice a514 n515
  n516, Value.slice a517 n518 n519]] w502))) fun J521 => IxOk x482 n28 a27 ∧ Ld w480 (adAt a27 x482 (1 : Nat)) fun v522 => opI IntKind.u8 v522 fun x523 => Dr (World.drew
  w480) fun J524 => NN (some (Addr.mk n45 (0 : Nat) none)) fun A525 => ∃ v526, (∀ (w527 : World), J524 w527 → Ld w527 (Addr.add A525 (1 : Nat)) fun v529 => v529 = v526) ∧
  opL v526 fun a530 n531 n532 => IxOk x452 n531 a530 ∧ ∃ v533, (∀ (w534 : World), J524 w534 → Ld w534 (adAt a530 x452 (1 : Nat)) fun v536 => v536 = v533) ∧ opL v533 fun
  a537 n538 n539 => CallW Try.prog [n439, n3, n2, n1] (171 : Nat) #[Value.agg #[Value.int IntKind.i64 p0_0, Value.slice p0_1a p0_1n p0_1c], Value.slice a537 n538 n539,
  Value.int IntKind.u8 x523] (fun v540 w541 => opL v540 fun a542 n543 n544 => J524 w541 ∧ Bd ((n543 : Nat) : Int) fun x545 => Bd (x545 == (0 : Int)) fun b546 => If b546
  (Nw (Obj.cells #[Value.int IntKind.i64 (-1 : Int)] (3 : Nat)) w541 fun n547 w548 => RunW Try.prog [n439, n3, n2, n1] (Builtin.append_ #[(52 : Nat), (52 : Nat)] (52 :
  Nat) #[Value.slice a493 n494 n495, Value.slice (some (Addr.mk n547 (0 : Nat) none)) (1 : Nat) (1 : Nat)]) (fun v549 w550 => opL v549 fun a551 n552 n553 => Up [n439]
  [n439, n3, n2, n1] w550 fun w554 => J521 [Value.int IntKind.i64 x481] [Value.agg #[Value.int IntKind.i64 x484, Value.slice a485 n486 n487, Value.slice a488 n489 n490],
  Value.agg #[Value.int IntKind.i64 x492, Value.slice a551 n552 n553, Value.slice a496 n497 n498]] w554) w548) (CallW Try.prog [n439, n3, n2, n1] (167 : Nat) #[Value.agg
  #[Value.int IntKind.i64 p0_0, Value.slice p0_1a p0_1n p0_1c], Value.slice a542 n543 n544] (fun v555 w556 => opL v555 fun a557 n558 n559 => CallW Try.prog [n439, n3, n2,
  n1] (169 : Nat) #[Value.slice a557 n558 n559] (fun v560 w561 => opStr v560 fun s562 => CallW Try.prog [n439, n3, n2, n1] (168 : Nat) #[Value.pointer (some (Addr.mk n45
  (0 : Nat) none)), Value.string s562, Value.slice a557 n558 n559] (fun v563 w564 => opTu v563 fun cs565 => opI IntKind.i64 (nthD (Array.toList cs565) (0 : Nat)) fun x566
  => opB (nthD (Array.toList cs565) (1 : Nat)) fun b567 => SzIs (Array.size cs565) (2 : Nat) (Jn (fun l568 l569 w570 => opAg (nthD l569 (0 : Nat)) fun cs571 => opI
  IntKind.i64 (nthD (Array.toList cs571) (0 : Nat)) fun x572 => opL (nthD (Array.toList cs571) (1 : Nat)) fun a573 n574 n575 => opL (nthD (Array.toList cs571) (2 : Nat))
  fun a576 n577 n578 => SzIs (Array.size cs571) (3 : Nat) (NN (some (Addr.mk n45 (0 : Nat) none)) fun A579 => Ld w570 (Addr.add A579 (1 : Nat)) fun v580 => opL v580 fun
  a581 n582 n583 => Bd ((n582 : Nat) : Int) fun x584 => Bd (decide (x584 > p2)) fun b585 => If b585 (Up [n3] [n439, n3, n2, n1] w570 fun w586 => R (Value.tuple
  #[Value.agg #[Value.int IntKind.i64 (0 : Int), Value.slice none (0 : Nat) (0 : Nat), Value.slice none (0 : Nat) (0 : Nat)], Value.int IntKind.i64 (40 : Int)]) w586) (Nw
  (Obj.cells #[Value.int IntKind.i64 x566] (3 : Nat)) w570 fun n587 w588 => RunW Try.prog [n439, n3, n2, n1] (Builtin.append_ #[(52 : Nat), (52 : Nat)] (52 : Nat)
  #[Value.slice a573 n574 n575, Value.slice (some (Addr.mk n587 (0 : Nat) none)) (1 : Nat) (1 : Nat)]) (fun v589 w590 => opL v589 fun a591 n592 n593 => Up [n439] [n439,
  n3, n2, n1] w590 fun w594 => J521 [Value.int IntKind.i64 x481] [Value.agg #[Value.int IntKind.i64 x484, Value.slice a485 n486 n487, Value.slice a488 n489 n490],
  Value.agg #[Value.int IntKind.i64 x572, Value.slice a591 n592 n593, Value.slice a576 n577 n578]] w594) w588))) fun J595 => If b567 (CallW Try.prog [n439, n3, n2, n1]
  (170 : Nat) #[Value.agg #[Value.int IntKind.i64 p0_0, Value.slice p0_1a p0_1n p0_1c], Value.slice a557 n558 n559] (fun v596 w597 => opI IntKind.i64 v596 fun x598 => Nw
  (Obj.cells #[Value.int IntKind.i64 x598] (3 : Nat)) w597 fun n599 w600 => RunW Try.prog [n439, n3, n2, n1] (Builtin.append_ #[(52 : Nat), (52 : Nat)] (52 : Nat)
  #[Value.slice a496 n497 n498, Value.slice (some (Addr.mk n599 (0 : Nat) none)) (1 : Nat) (1 : Nat)]) (fun v601 w602 => opL v601 fun a603 n604 n605 => Up [n439] [n439,
  n3, n2, n1] w602 fun w606 => J595 [] [Value.agg #[Value.int IntKind.i64 x492, Value.slice a493 n494 n495, Value.slice a603 n604 n605]] w606) w600) (World.drew w564) ∧
  CallW Try.prog [n439, n3, n2, n1] (170 : Nat) #[Value.agg #[Value.int IntKind.i64 p0_0, Value.slice p0_1a p0_1n p0_1c], Value.slice a557 n558 n559] (fun v607 w608 =>
  opI IntKind.i64 v607 fun x609 => (Nw (Obj.cells #[Value.int IntKind.i64 x609] (3 : Nat)) w608 fun n610 w611 => RunW Try.prog [n439, n3, n2, n1] (Builtin.append_ #[(52 :
  Nat), (52 : Nat)] (52 : Nat) #[Value.slice a496 n497 n498, Value.slice (some (Addr.mk n610 (0 : Nat) none)) (1 : Nat) (1 : Nat)]) (fun v612 w613 => opL v612 fun a614
  n615 n616 => Up [n439] [n439, n3, n2, n1] w613 fun w617 => J595 [] [Value.agg #[Value.int IntKind.i64 x492, Value.slice a493 n494 n495, Value.slice a614 n615 n616]]
  w617) w611) ∧ Nw (Obj.cells #[Value.int IntKind.i64 x609] (3 : Nat)) w608 fun n618 w619 => RunW Try.prog [n439, n3, n2, n1] (Builtin.append_ #[(52 : Nat), (52 : Nat)]
  (52 : Nat) #[Value.slice a496 n497 n498, Value.slice (some (Addr.mk n618 (0 : Nat) none)) (1 : Nat) (1 : Nat)]) (fun v620 w621 => opL v620 fun a622 n623 n624 => Up
  [n439] [n439, n3, n2, n1] w621 fun w625 => J595 [] [Value.agg #[Value.int IntKind.i64 x492, Value.slice a493 n494 n495, Value.slice a622 n623 n624]] w625) w619)
  (World.drew w564)) (J595 [] [Value.agg #[Value.int IntKind.i64 x492, Value.slice a493 n494 n495, Value.slice a496 n497 n498]] w564))) w561) w556) w541)) (World.drew
  w480)) (Bd (IntKind.wrap IntKind.i64 (x452 + (1 : Int))) fun x626 => J449 [Value.int IntKind.i64 x481, Value.int IntKind.i64 x626] [Value.agg #[Value.int IntKind.i64
  x484, Value.slice a485 n486 n487, Value.slice a488 n489 n490], Value.agg #[Value.int IntKind.i64 x492, Value.slice a493 n494 n495, Value.slice a496 n497 n498]] w480))))
  [Value.int IntKind.i64 x451, Value.int IntKind.i64 (0 : Int)] [Value.agg #[Value.int IntKind.i64 x454, Value.slice a455 n456 n457, Value.slice a458 n459 n460],
  Value.agg #[Value.int IntKind.i64 x462, Value.slice a463 n464 n465, Value.slice a466 n467 n468]] w450) (Up [n3] [n439, n3, n2, n1] w450 fun w627 => R (Value.tuple
  #[Value.agg #[Value.int IntKind.i64 x462, Value.slice a463 n464 n465, Value.slice a466 n467 n468], Value.int IntKind.i64 (0 : Int)]) w627)))) [Value.int IntKind.i64 (0
  : Int), Value.int IntKind.i64 (0 : Int)] [Value.agg #[Value.int IntKind.i64 (0 : Int), Value.slice none (0 : Nat) (0 : Nat), Value.slice none (0 : Nat) (0 : Nat)],
  Value.agg #[Value.int IntKind.i64 x63, Value.slice none (0 : Nat) (0 : Nat), Value.slice (some (Addr.mk n444 (0 : Nat) none)) (1 : Nat) (1 : Nat)]] w446) w440)) w55)
  w50) w48)) [Value.int IntKind.i64 (0 : Int)] [] w26) w15)) w6) w4
theorem f67_eq (p0_0 : Int) (p0_1a : Option Addr) (p0_1n : Nat) (p0_1c : Nat) (p1 : Array Value) (p2 : Int) (R : Value → World → Prop) (w : World) : fnW Try.prog [3, 4,
  6, 12, 400012, 100019, 400025] Try.f67 [Value.agg #[Value.int IntKind.i64 p0_0, Value.slice p0_1a p0_1n p0_1c], Value.agg p1, Value.int IntKind.i64 p2] R w = f67_vc
  p0_0 p0_1a p0_1n p0_1c p1 p2 R w := by kernel_rfl
theorem f67_in (p0_0 : Int) (p0_1a : Option Addr) (p0_1n : Nat) (p0_1c : Nat) (p1 : Array Value) (p2 : Int) (R : Value → World → Prop) (w : World) (h : f67_vc p0_0 p0_1a
  p0_1n p0_1c p1 p2 R w) : Ct Try.prog 67 #[Value.agg #[Value.int IntKind.i64 p0_0, Value.slice p0_1a p0_1n p0_1c], Value.agg p1, Value.int IntKind.i64 p2] w R := by
  refine Ct_of (rk := [3, 4, 6, 12, 400012, 100019, 400025]) (fn := Try.f67) (args := [Value.agg #[Value.int IntKind.i64 p0_0, Value.slice p0_1a p0_1n p0_1c], Value.agg p1, Value.int IntKind.i64 p2]) mixedT Try.func67 (by kernel_rfl) ?_
  rw [f67_eq]
  exact h
end Fk
set_option linter.unusedVariables false
set_option maxRecDepth 1000000
set_option maxHeartbeats 4000000
namespace Fk
open Go Go.Proofs Go.RowKit
def f85_vc (p0a : Option Addr) (p0n : Nat) (p0c : Nat) (p1 : Int) (R : Value → World → Prop) (w : World) : Prop := Rg w fun n1 => Rg w fun n2 => Rg w fun n3 => Up [] [n3,
  n2, n1] w fun w4 => CallW Try.prog [n3, n2, n1] (66 : Nat) #[Value.slice p0a p0n p0c, Value.int IntKind.i64 (20000 : Int)] (fun v5 w6 => opTu v5 fun cs7 => opAg (nthD
  (Array.toList cs7) (0 : Nat)) fun cs8 => opI IntKind.i64 (nthD (Array.toList cs8) (0 : Nat)) fun x9 => opL (nthD (Array.toList cs8) (1 : Nat)) fun a10 n11 n12 => SzIs
  (Array.size cs8) (2 : Nat) (opI IntKind.i64 (nthD (Array.toList cs7) (1 : Nat)) fun x13 => SzIs (Array.size cs7) (2 : Nat) (Rg w6 fun n14 => Up [n14] [n14, n3, n2, n1]
  w6 fun w15 => CallW Try.prog [n14, n3, n2, n1] (40 : Nat) #[Value.slice p0a p0n p0c] (fun v16 w17 => opTu v16 fun cs18 => opBig (nthD (Array.toList cs18) (0 : Nat)) fun
  cs19 => Array.size cs19 = (257 : Nat) ∧ opI IntKind.i64 (nthD (Array.toList cs18) (1 : Nat)) fun x20 => SzIs (Array.size cs18) (2 : Nat) (Array.size cs19 = (257 : Nat)
  ∧ Rg w17 fun n21 => OkC (Array.toList cs19) (257 : Nat) (Array.size cs19 = (257 : Nat) ∧ Up [n21] [n21, n14, n3, n2, n1] w17 fun w22 => CallW Try.prog [n21, n14, n3,
  n2, n1] (67 : Nat) #[Value.agg #[Value.int IntKind.i64 x9, Value.slice a10 n11 n12], Value.agg cs19, Value.int IntKind.i64 p1] (fun v23 w24 => opTu v23 fun cs25 => opAg
  (nthD (Array.toList cs25) (0 : Nat)) fun cs26 => opI IntKind.i64 (nthD (Array.toList cs26) (0 : Nat)) fun x27 => opL (nthD (Array.toList cs26) (1 : Nat)) fun a28 n29
  n30 => opL (nthD (Array.toList cs26) (2 : Nat)) fun a31 n32 n33 => SzIs (Array.size cs26) (3 : Nat) (opI IntKind.i64 (nthD (Array.toList cs25) (1 : Nat)) fun x34 =>
  SzIs (Array.size cs25) (2 : Nat) (Rg w24 fun n35 => Jn (fun l36 l37 w38 => opB (nthD l36 (0 : Nat)) fun b39 => opAg (nthD l37 (0 : Nat)) fun cs40 => opI IntKind.i64
  (nthD (Array.toList cs40) (0 : Nat)) fun x41 => opL (nthD (Array.toList cs40) (1 : Nat)) fun a42 n43 n44 => opL (nthD (Array.toList cs40) (2 : Nat)) fun a45 n46 n47 =>
  SzIs (Array.size cs40) (3 : Nat) (opBig (nthD l37 (1 : Nat)) fun cs48 => opAg (nthD l37 (2 : Nat)) fun cs49 => opI IntKind.i64 (nthD (Array.toList cs49) (0 : Nat)) fun
  x50 => opL (nthD (Array.toList cs49) (1 : Nat)) fun a51 n52 n53 => SzIs (Array.size cs49) (2 : Nat) (Array.size cs48 = (257 : Nat) ∧ R (Value.tuple #[Value.agg
  #[Value.int IntKind.i64 x50, Value.slice a51 n52 n53], Value.agg cs48, Value.agg #[Value.int IntKind.i64 x41, Value.slice a42 n43 n44, Value.slice a45 n46 n47],
  Value.bool b39]) w38))) fun J54 => Up [n35] [n35, n21, n14, n3, n2, n1] w24 fun w55 => Array.size cs19 = (257 : Nat) ∧ Bd (x13 == (0 : Int)) fun b56 => Bd (x20 == (0 :
  Int)) fun b57 => Bd (bif b56 then b57 else false) fun b58 => Bd (x34 == (0 : Int)) fun b59 => Bd (bif b58 then b59 else false) fun b60 => Up [n1] [n35, n21, n14, n3,
  n2, n1] (World.drew w55) fun w61 => OkC (Array.toList cs19) (257 : Nat) (Up [n2] [n35, n21, n14, n3, n2, n1] w61 fun w62 => Up [n3] [n35, n21, n14, n3, n2, n1] w62 fun
  w63 => J54 [Value.bool b60] [Value.agg #[Value.int IntKind.i64 x27, Value.slice a28 n29 n30, Value.slice a31 n32 n33], Value.agg cs19, Value.agg #[Value.int IntKind.i64
  x9, Value.slice a10 n11 n12]] w63)))) w22))) w15))) w4
theorem f85_eq (p0a : Option Addr) (p0n : Nat) (p0c : Nat) (p1 : Int) (R : Value → World → Prop) (w : World) : fnW Try.prog [4, 5, 6, 8, 10, 12, 400004] Try.f85
  [Value.slice p0a p0n p0c, Value.int IntKind.i64 p1] R w = f85_vc p0a p0n p0c p1 R w := by kernel_rfl
theorem f85_in (p0a : Option Addr) (p0n : Nat) (p0c : Nat) (p1 : Int) (R : Value → World → Prop) (w : World) (h : f85_vc p0a p0n p0c p1 R w) : Ct Try.prog 85
  #[Value.slice p0a p0n p0c, Value.int IntKind.i64 p1] w R := by
  refine Ct_of (rk := [4, 5, 6, 8, 10, 12, 400004]) (fn := Try.f85) (args := [Value.slice p0a p0n p0c, Value.int IntKind.i64 p1]) mixedT Try.func85 (by kernel_rfl) ?_
  rw [f85_eq]
  exact h
end Fk
set_option linter.unusedVariables false
set_option maxRecDepth 1000000
set_option maxHeartbeats 4000000
namespace Fk
open Go Go.Proofs Go.RowKit
def f86_vc (R : Value → World → Prop) (w : World) : Prop := Nw (Obj.cells #[Value.string (ByteArray.mk #[(97 : UInt8)]), Value.string (ByteArray.mk #[(98 : UInt8)]),
  Value.string (ByteArray.mk #[(99 : UInt8), (50 : UInt8)]), Value.string (ByteArray.mk #[(100 : UInt8), (45 : UInt8), (101 : UInt8)]), Value.string (ByteArray.mk #[(102
  : UInt8)]), Value.string (ByteArray.mk #[(103 : UInt8)]), Value.string (ByteArray.mk #[(104 : UInt8)]), Value.string (ByteArray.mk #[(105 : UInt8)])] (9 : Nat)) w fun
  n1 w2 => R (Value.slice (some (Addr.mk n1 (0 : Nat) none)) (8 : Nat) (8 : Nat)) w2
theorem f86_eq (R : Value → World → Prop) (w : World) : fnW Try.prog [] Try.f86 [] R w = f86_vc R w := by kernel_rfl
theorem f86_in (R : Value → World → Prop) (w : World) (h : f86_vc R w) : Ct Try.prog 86 #[] w R := by
  refine Ct_of (rk := []) (fn := Try.f86) (args := []) mixedT Try.func86 (by kernel_rfl) ?_
  rw [f86_eq]
  exact h
def f87_vc (p0 : ByteArray) (R : Value → World → Prop) (w : World) : Prop := Bd (((ByteArray.size p0) : Nat) : Int) fun x1 => LoopP (fun l2 l3 J4 w5 => opB (nthD l2 (0 :
  Nat)) fun b6 => opI IntKind.i64 (nthD l2 (1 : Nat)) fun x7 => Bd (decide (x7 < x1)) fun b8 => If b8 (Bd (decide (x7 > (0 : Int))) fun b9 => (b9 = true → (0 : Int) ≤ x7
  ∧ x7 < ↑(ByteArray.size p0)) ∧ Bd (byteAt p0 x7) fun x11 => Bd (x11 == (45 : Int)) fun b12 => ((b9 && !b12) = true → (0 : Int) ≤ x7 ∧ x7 < ↑(ByteArray.size p0)) ∧ Bd
  (byteAt p0 x7) fun x14 => Bd (decide (x14 ≥ (48 : Int))) fun b15 => ((b9 && !b12 && b15) = true → (0 : Int) ≤ x7 ∧ x7 < ↑(ByteArray.size p0)) ∧ Bd (byteAt p0 x7) fun
  x17 => Bd (decide (x17 ≤ (57 : Int))) fun b18 => Bd (bif b15 then b18 else false) fun b19 => Bd (bif b12 then true else b19) fun b20 => Bd (bif b9 then b20 else false)
  fun b21 => Bd (!b21) fun b22 => (b22 = true → (0 : Int) ≤ x7 ∧ x7 < ↑(ByteArray.size p0)) ∧ Bd (byteAt p0 x7) fun x24 => Bd (decide (x24 < (97 : Int))) fun b25 => ((b22
  && !b25) = true → (0 : Int) ≤ x7 ∧ x7 < ↑(ByteArray.size p0)) ∧ Bd (byteAt p0 x7) fun x27 => Bd (decide (x27 > (122 : Int))) fun b28 => Bd (bif b25 then true else b28)
  fun b29 => Bd (bif b22 then b29 else false) fun b30 => If b30 (R (Value.bool false) w5) (Bd (IntKind.wrap IntKind.i64 (x7 + (1 : Int))) fun x31 => J4 [Value.bool b6,
  Value.int IntKind.i64 x31] [] w5)) (Bd (((ByteArray.size p0) : Nat) : Int) fun x32 => Bd (decide (x32 ≥ (1 : Int))) fun b33 => Bd (((ByteArray.size p0) : Nat) : Int)
  fun x34 => Bd (decide (x34 ≤ (64 : Int))) fun b35 => Bd (bif b33 then b35 else false) fun b36 => R (Value.bool b36) w5)) [Value.bool false, Value.int IntKind.i64 (0 :
  Int)] [] w
theorem f87_eq (p0 : ByteArray) (R : Value → World → Prop) (w : World) : fnW Try.prog [] Try.f87 [Value.string p0] R w = f87_vc p0 R w := by kernel_rfl
theorem f87_in (p0 : ByteArray) (R : Value → World → Prop) (w : World) (h : f87_vc p0 R w) : Ct Try.prog 87 #[Value.string p0] w R := by
  refine Ct_of (rk := []) (fn := Try.f87) (args := [Value.string p0]) mixedT Try.func87 (by kernel_rfl) ?_
  rw [f87_eq]
  exact h
end Fk
