/- Conditions of functions, as the generator works them out; each one is checked by the kernel. -/
import Derived.Test.YtpgjpgecgibklaaGK2
set_option linter.unusedVariables false
set_option maxRecDepth 1000000
set_option maxHeartbeats 4000000
namespace Fk
open Go Go.Proofs Go.RowKit
def f70_vc (p0_0 : Int) (p0_1a : Option Addr) (p0_1n : Nat) (p0_1c : Nat) (p0_2a : Option Addr) (p0_2n : Nat) (p0_2c : Nat) (p1a : Option Addr) (p1n : Nat) (p1c : Nat) (R
  : Value → World → Prop) (w : World) : Prop := Rg w fun n1 => Up [] [n1] w fun w2 => CallW Try.prog [n1] (72 : Nat) #[Value.agg #[Value.int IntKind.i64 p0_0, Value.slice
  p0_1a p0_1n p0_1c, Value.slice p0_2a p0_2n p0_2c]] (fun v3 w4 => opB v3 fun b5 => LoopP (fun l6 l7 J8 w9 => opB (nthD l6 (0 : Nat)) fun b10 => opI IntKind.i64 (nthD l6
  (1 : Nat)) fun x11 => Bd ((p1n : Nat) : Int) fun x12 => Bd (decide (x11 < x12)) fun b13 => Bd (bif b13 then b10 else false) fun b14 => If b14 (Dr (World.drew w9) fun
  J15 => IxOk x11 p1n p1a ∧ ∃ v16, (∀ (w17 : World), J15 w17 → Ld w17 (adAt p1a x11 (1 : Nat)) fun v19 => v19 = v16) ∧ opI IntKind.i64 v16 fun x20 => Bd (decide (x20 ≥ (0
  : Int))) fun b21 => (b21 = true → IxOk x11 p1n p1a) ∧ ∃ x23, (b21 = true → ∀ (w25 : World), J15 w25 → Ld w25 (adAt p1a x11 (1 : Nat)) fun v27 => v27 = Value.int
  IntKind.i64 x23) ∧ Bd (decide (x23 < p0_0)) fun b28 => Bd (bif b21 then b28 else false) fun b29 => Bd (IntKind.wrap IntKind.i64 (x11 + (1 : Int))) fun x30 => J8
  [Value.bool b29, Value.int IntKind.i64 x30] [] (World.drew w9)) (Bd (!b10) fun b31 => If b31 (R (Value.tuple #[Value.slice none (0 : Nat) (0 : Nat), Value.int
  IntKind.i64 (2 : Int)]) w9) (Dr (World.drew w9) fun J32 => IxOk (0 : Int) p0_2n p0_2a ∧ ∃ v33, (∀ (w34 : World), J32 w34 → Ld w34 (adAt p0_2a (0 : Int) (1 : Nat)) fun
  v36 => v36 = v33) ∧ opI IntKind.i64 v33 fun x37 => Nw (Obj.cells #[Value.int IntKind.i64 x37] (3 : Nat)) (World.drew w9) fun n38 w39 => J32 w39 ∧ Bd ((p1n : Nat) : Int)
  fun x40 => LoopP (fun l41 l42 J43 w44 => opI IntKind.i64 (nthD l41 (0 : Nat)) fun x45 => opL (nthD l41 (1 : Nat)) fun a46 n47 n48 => opI IntKind.i64 (nthD l41 (2 :
  Nat)) fun x49 => Bd (decide (x49 < x40)) fun b50 => If b50 (IxOk x49 p1n p1a ∧ Ld w44 (adAt p1a x49 (1 : Nat)) fun v51 => opI IntKind.i64 v51 fun x52 => Jn (fun l53 l54
  w55 => opI IntKind.i64 (nthD l53 (0 : Nat)) fun x56 => Jn (fun l57 l58 w59 => opI IntKind.i64 (nthD l57 (0 : Nat)) fun x60 => Nw (Obj.cells #[Value.int IntKind.i64 x60]
  (3 : Nat)) w59 fun n61 w62 => RunW Try.prog [n1] (Builtin.append_ #[(52 : Nat), (52 : Nat)] (52 : Nat) #[Value.slice a46 n47 n48, Value.slice (some (Addr.mk n61 (0 :
  Nat) none)) (1 : Nat) (1 : Nat)]) (fun v63 w64 => opL v63 fun a65 n66 n67 => Bd (IntKind.wrap IntKind.i64 (x49 + (1 : Int))) fun x68 => J43 [Value.int IntKind.i64 x56,
  Value.slice a65 n66 n67, Value.int IntKind.i64 x68] [] w64) w62) fun J69 => Bd (decide (x56 ≥ (0 : Int))) fun b70 => If b70 (IxOk x56 p0_2n p0_2a ∧ Ld w55 (adAt p0_2a
  x56 (1 : Nat)) fun v71 => opI IntKind.i64 v71 fun x72 => J69 [Value.int IntKind.i64 x72] [] w55) (J69 [Value.int IntKind.i64 (-1 : Int)] [] w55)) fun J73 => Bd (decide
  (x45 ≥ (0 : Int))) fun b74 => If b74 (Bd (IntKind.wrap IntKind.i64 (x45 * p0_0)) fun x75 => Bd (IntKind.wrap IntKind.i64 (x75 + x52)) fun x76 => IxOk x76 p0_1n p0_1a ∧
  Ld w44 (adAt p0_1a x76 (1 : Nat)) fun v77 => opI IntKind.i64 v77 fun x78 => J73 [Value.int IntKind.i64 x78] [] w44) (J73 [Value.int IntKind.i64 x45] [] w44)) (R
  (Value.tuple #[Value.slice a46 n47 n48, Value.int IntKind.i64 (0 : Int)]) w44)) [Value.int IntKind.i64 (0 : Int), Value.slice (some (Addr.mk n38 (0 : Nat) none)) (1 :
  Nat) (1 : Nat), Value.int IntKind.i64 (0 : Int)] [] w39))) [Value.bool b5, Value.int IntKind.i64 (0 : Int)] [] w4) w2
theorem f70_eq (p0_0 : Int) (p0_1a : Option Addr) (p0_1n : Nat) (p0_1c : Nat) (p0_2a : Option Addr) (p0_2n : Nat) (p0_2c : Nat) (p1a : Option Addr) (p1n : Nat) (p1c :
  Nat) (R : Value → World → Prop) (w : World) : fnW Try.prog [2, 100005, 100008] Try.f70 [Value.agg #[Value.int IntKind.i64 p0_0, Value.slice p0_1a p0_1n p0_1c,
  Value.slice p0_2a p0_2n p0_2c], Value.slice p1a p1n p1c] R w = f70_vc p0_0 p0_1a p0_1n p0_1c p0_2a p0_2n p0_2c p1a p1n p1c R w := by kernel_rfl
theorem f70_in (p0_0 : Int) (p0_1a : Option Addr) (p0_1n : Nat) (p0_1c : Nat) (p0_2a : Option Addr) (p0_2n : Nat) (p0_2c : Nat) (p1a : Option Addr) (p1n : Nat) (p1c :
  Nat) (R : Value → World → Prop) (w : World) (h : f70_vc p0_0 p0_1a p0_1n p0_1c p0_2a p0_2n p0_2c p1a p1n p1c R w) : Ct Try.prog 70 #[Value.agg #[Value.int IntKind.i64
  p0_0, Value.slice p0_1a p0_1n p0_1c, Value.slice p0_2a p0_2n p0_2c], Value.slice p1a p1n p1c] w R := by
  refine Ct_of (rk := [2, 100005, 100008]) (fn := Try.f70) (args := [Value.agg #[Value.int IntKind.i64 p0_0, Value.slice p0_1a p0_1n p0_1c, Value.slice p0_2a p0_2n p0_2c], Value.slice p1a p1n p1c]) mixedT Try.func70 (by kernel_rfl) ?_
  rw [f70_eq]
  exact h
def f166_vc (p0_0 : Int) (p0_1a : Option Addr) (p0_1n : Nat) (p0_1c : Nat) (p1 : Array Value) (R : Value → World → Prop) (w : World) : Prop := Rg w fun n1 => Rg w fun n2
  => Up [] [n2, n1] w fun w3 => Nw (Obj.map #[] (0 : Nat)) w3 fun n4 w5 => Bd ((p0_1n : Nat) : Int) fun x6 => LoopP (fun l7 l8 J9 w10 => opB (nthD l7 (0 : Nat)) fun b11
  => opI IntKind.i64 (nthD l7 (1 : Nat)) fun x12 => Bd (decide (x12 < x6)) fun b13 => If b13 (Jn (fun l14 l15 w16 => opB (nthD l14 (0 : Nat)) fun b17 => Bd (IntKind.wrap
  IntKind.i64 (x12 + (1 : Int))) fun x18 => J9 [Value.bool b17, Value.int IntKind.i64 x18] [] w16) fun J19 => IxOk x12 p0_1n p0_1a ∧ Ld w10 (Addr.add (adAt p0_1a x12 (8 :
  Nat)) (0 : Nat)) fun v20 => Ld w10 (Addr.add (adAt p0_1a x12 (8 : Nat)) (1 : Nat)) fun v21 => Ld w10 (Addr.add (adAt p0_1a x12 (8 : Nat)) (2 : Nat)) fun v22 => Ld w10
  (Addr.add (adAt p0_1a x12 (8 : Nat)) (3 : Nat)) fun v23 => Ld w10 (Addr.add (adAt p0_1a x12 (8 : Nat)) (4 : Nat)) fun v24 => Ld w10 (Addr.add (adAt p0_1a x12 (8 : Nat))
  (5 : Nat)) fun v25 => Ld w10 (Addr.add (adAt p0_1a x12 (8 : Nat)) (6 : Nat)) fun v26 => Ld w10 (Addr.add (adAt p0_1a x12 (8 : Nat)) (7 : Nat)) fun v27 => opI IntKind.u8
  v20 fun x28 => opI IntKind.u64 v21 fun x29 => opI IntKind.u64 v22 fun x30 => opI IntKind.u64 v23 fun x31 => opI IntKind.u64 v24 fun x32 => opI IntKind.i64 v25 fun x33
  => opI IntKind.i64 v26 fun x34 => opI IntKind.i64 v27 fun x35 => Rg w10 fun n36 => Bd (x28 == (1 : Int)) fun b37 => Up [n36] [n36, n2, n1] w10 fun w38 => Gd b37 (0 :
  Int) (fun J39 => RunW Try.prog [n36, n2, n1] (Instr.lookup (282 : Nat) (Value.map (some n4)) (Value.agg #[Value.int IntKind.u64 x29, Value.int IntKind.u64 x30,
  Value.int IntKind.u64 x31, Value.int IntKind.u64 x32]) false) (fun v40 w41 => opI IntKind.i64 v40 fun x42 => J39 x42 w41) w38) (fun x43 w44 => Bd (x43 == (0 : Int)) fun
  b45 => Bd (bif b37 then b45 else false) fun b46 => If b46 (Array.size p1 = (257 : Nat) ∧ CallW Try.prog [n36, n2, n1] (46 : Nat) #[Value.agg p1, Value.agg #[Value.int
  IntKind.u64 x29, Value.int IntKind.u64 x30, Value.int IntKind.u64 x31, Value.int IntKind.u64 x32]] (fun v47 w48 => opB v47 fun b49 => Bd (!b49) fun b50 => If b50 (R
  (Value.bool false) w48) (RunU Try.prog [n36, n2, n1] (Instr.mapUpdate (282 : Nat) (Value.map (some n4)) (Value.agg #[Value.int IntKind.u64 x29, Value.int IntKind.u64
  x30, Value.int IntKind.u64 x31, Value.int IntKind.u64 x32]) (Value.int IntKind.i64 (1 : Int))) (fun w51 => J19 [Value.bool b11] [] w51) w48)) w44) (J19 [Value.bool b11]
  [] w44)) w38) (Array.size p1 = (257 : Nat) ∧ CallW Try.prog [n2, n1] (44 : Nat) #[Value.agg p1] (fun v52 w53 => opB v52 fun b54 => R (Value.bool b54) w53) w10))
  [Value.bool false, Value.int IntKind.i64 (0 : Int)] [] w5
theorem f166_eq (p0_0 : Int) (p0_1a : Option Addr) (p0_1n : Nat) (p0_1c : Nat) (p1 : Array Value) (R : Value → World → Prop) (w : World) : fnW Try.prog [2, 3, 7] Try.f166
  [Value.agg #[Value.int IntKind.i64 p0_0, Value.slice p0_1a p0_1n p0_1c], Value.agg p1] R w = f166_vc p0_0 p0_1a p0_1n p0_1c p1 R w := by kernel_rfl
theorem f166_in (p0_0 : Int) (p0_1a : Option Addr) (p0_1n : Nat) (p0_1c : Nat) (p1 : Array Value) (R : Value → World → Prop) (w : World) (h : f166_vc p0_0 p0_1a p0_1n
  p0_1c p1 R w) : Ct Try.prog 166 #[Value.agg #[Value.int IntKind.i64 p0_0, Value.slice p0_1a p0_1n p0_1c], Value.agg p1] w R := by
  refine Ct_of (rk := [2, 3, 7]) (fn := Try.f166) (args := [Value.agg #[Value.int IntKind.i64 p0_0, Value.slice p0_1a p0_1n p0_1c], Value.agg p1]) mixedT Try.func166 (by kernel_rfl) ?_
  rw [f166_eq]
  exact h
end Fk
set_option linter.unusedVariables false
set_option maxRecDepth 1000000
set_option maxHeartbeats 4000000
namespace Fk
open Go Go.Proofs Go.RowKit
def f67_vc (p0_0 : Int) (p0_1a : Option Addr) (p0_1n : Nat) (p0_1c : Nat) (p1 : Array Value) (p2 : Int) (R : Value → World → Prop) (w : World) : Prop := Rg w fun n1 => Rg
  w fun n2 => Rg w fun n3 => Up [] [n3, n2, n1] w fun w4 => CallW Try.prog [n3, n2, n1] (81 : Nat) #[Value.agg #[Value.int IntKind.i64 p0_0, Value.slice p0_1a p0_1n
  p0_1c]] (fun v5 w6 => opB v5 fun b7 => Bd (!b7) fun b8 => ((!b8) = true → Array.size p1 = (257 : Nat)) ∧ Gd (!b8) false (fun J10 => CallW Try.prog [n3, n2, n1] (166 :
  Nat) #[Value.agg #[Value.int IntKind.i64 p0_0, Value.slice p0_1a p0_1n p0_1c], Value.agg p1] (fun v11 w12 => opB v11 fun b13 => J10 b13 w12) w6) (fun b14 w15 => Bd
  (!b14) fun b16 => Bd (bif b8 then true else b16) fun b17 => Bd (decide (p2 < (1 : Int))) fun b18 => Bd (bif b17 then true else b18) fun b19 => Bd (decide (p2 > (5000 :
  Int))) fun b20 => Bd (bif b19 then true else b20) fun b21 => If b21 (Up [n3] [n3, n2, n1] w15 fun w22 => R (Value.tuple #[Value.agg #[Value.int IntKind.i64 (0 : Int),
  Value.slice none (0 : Nat) (0 : Nat), Value.slice none (0 : Nat) (0 : Nat)], Value.int IntKind.i64 (2 : Int)]) w22) (BdO (nthV (Array.toList p1) (256 : Nat)) fun v23 =>
  opI IntKind.i64 v23 fun x24 => RunW Try.prog [n3, n2, n1] (Instr.makeSlice (51 : Nat) (Value.int IntKind.i64 x24) (Value.int IntKind.i64 x24)) (fun v25 w26 => opL v25
  fun a27 n28 n29 => Bd ((n28 : Nat) : Int) fun x30 => LoopP (fun l31 l32 J33 w34 => opI IntKind.i64 (nthD l31 (0 : Nat)) fun x35 => Bd (decide (x35 < x30)) fun b36 => If
  b36 (Array.size p1 = (257 : Nat) ∧ CallW Try.prog [n3, n2, n1] (42 : Nat) #[Value.agg p1, Value.int IntKind.i64 x35] (fun v37 w38 => opTu v37 fun cs39 => opI IntKind.u8
  (nthD (Array.toList cs39) (0 : Nat)) fun x40 => opB (nthD (Array.toList cs39) (1 : Nat)) fun b41 => SzIs (Array.size cs39) (2 : Nat) (IxOk x35 n28 a27 ∧ ¬Addr.block
  (adAt a27 x35 (1 : Nat)) ∈ [n3, n2, n1] ∧ Wr w38 (adAt a27 x35 (1 : Nat)) (1 : Nat) ∧ Bd (IntKind.wrap IntKind.i64 (x35 + (1 : Int))) fun x42 => J33 [Value.int
  IntKind.i64 x42] [] (setCells w38 (adAt a27 x35 (1 : Nat)) (0 : Nat) [Value.int IntKind.u8 x40]))) w34) (Nw (Obj.map #[] (0 : Nat)) w34 fun n43 w44 => Nw (Obj.cells
  #[Value.map (some n43), Value.slice none (0 : Nat) (0 : Nat)] (221 : Nat)) w44 fun n45 w46 => Nw (Obj.cells #[Value.int IntKind.i64 p0_0] (3 : Nat)) w46 fun n47 w48 =>
  CallW Try.prog [n3, n2, n1] (167 : Nat) #[Value.agg #[Value.int IntKind.i64 p0_0, Value.slice p0_1a p0_1n p0_1c], Value.slice (some (Addr.mk n47 (0 : Nat) none)) (1 :
  Nat) (1 : Nat)] (fun v49 w50 => opL v49 fun a51 n52 n53 => CallW Try.prog [n3, n2, n1] (169 : Nat) #[Value.slice a51 n52 n53] (fun v54 w55 => opStr v54 fun s56 => CallW
  Try.prog [n3, n2, n1] (168 : Nat) #[Value.pointer (some (Addr.mk n45 (0 : Nat) none)), Value.string s56, Value.slice a51 n52 n53] (fun v57 w58 => opTu v57 fun cs59 =>
  opI IntKind.i64 (nthD (Array.toList cs59) (0 : Nat)) fun x60 => opB (nthD (Array.toList cs59) (1 : Nat)) fun b61 => SzIs (Array.size cs59) (2 : Nat) (BdO (nthV
  (Array.toList p1) (256 : Nat)) fun v62 => opI IntKind.i64 v62 fun x63 => CallW Try.prog [n3, n2, n1] (170 : Nat) #[Value.agg #[Value.int IntKind.i64 p0_0, Value.slice
  p0_1a p0_1n p0_1c], Value.slice a51 n52 n53] (fun v64 w65 => opI IntKind.i64 v64 fun x66 => (Nw (Obj.cells #[Value.int IntKind.i64 x66] (3 : Nat)) w65 fun n67 w68 => Rg
  w68 fun n69 => Up [] [n69, n3, n2, n1] w68 fun w70 => Up [n69] [n69, n3, n2, n1] w70 fun w71 => LoopP (fun l72 l73 J74 w75 => opI IntKind.i64 (nthD l72 (0 : Nat)) fun
  x76 => opI IntKind.i64 (nthD l72 (1 : Nat)) fun x77 => opAg (nthD l73 (0 : Nat)) fun cs78 => opI IntKind.i64 (nthD (Array.toList cs78) (0 : Nat)) fun x79 => opL (nthD
  (Array.toList cs78) (1 : Nat)) fun a80 n81 n82 => opL (nthD (Array.toList cs78) (2 : Nat)) fun a83 n84 n85 => SzIs (Array.size cs78) (3 : Nat) (opAg (nthD l73 (1 :
  Nat)) fun cs86 => opI IntKind.i64 (nthD (Array.toList cs86) (0 : Nat)) fun x87 => opL (nthD (Array.toList cs86) (1 : Nat)) fun a88 n89 n90 => opL (nthD (Array.toList
  cs86) (2 : Nat)) fun a91 n92 n93 => SzIs (Array.size cs86) (3 : Nat) (NN (some (Addr.mk n45 (0 : Nat) none)) fun A94 => Ld w75 (Addr.add A94 (1 : Nat)) fun v95 => opL
  v95 fun a96 n97 n98 => Bd ((n97 : Nat) : Int) fun x99 => Bd (decide (x77 < x99)) fun b100 => If b100 (Bd ((n28 : Nat) : Int) fun x101 => LoopP (fun l102 l103 J104 w105
  => opI IntKind.i64 (nthD l102 (0 : Nat)) fun x106 => opI IntKind.i64 (nthD l102 (1 : Nat)) fun x107 => opAg (nthD l103 (0 : Nat)) fun cs108 => opI IntKind.i64 (nthD
  (Array.toList cs108) (0 : Nat)) fun x109 => opL (nthD (Array.toList cs108) (1 : Nat)) fun a110 n111 n112 => opL (nthD (Array.toList cs108) (2 : Nat)) fun a113 n114 n115
  => SzIs (Array.size cs108) (3 : Nat) (opAg (nthD l103 (1 : Nat)) fun cs116 => opI IntKind.i64 (nthD (Array.toList cs116) (0 : Nat)) fun x117 => opL (nthD (Array.toList
  cs116) (1 : Nat)) fun a118 n119 n120 => opL (nthD (Array.toList cs116) (2 : Nat)) fun a121 n122 n123 => SzIs (Array.size cs116) (3 : Nat) (Bd (decide (x107 < x101)) fun
  b124 => If b124 (Jn (fun l125 l126 w127 => opI IntKind.i64 (nthD l125 (0 : Nat)) fun x128 => opAg (nthD l126 (0 : Nat)) fun cs129 => opI IntKind.i64 (nthD (Array.toList
  cs129) (0 : Nat)) fun x130 => opL (nthD (Array.toList cs129) (1 : Nat)) fun a131 n132 n133 => opL (nthD (Array.toList cs129) (2 : Nat)) fun a134 n135 n136 => SzIs
  (Array.size cs129) (3 : Nat) (opAg (nthD l126 (1 : Nat)) fun cs137 => opI IntKind.i64 (nthD (Array.toList cs137) (0 : Nat)) fun x138 => opL (nthD (Array.toList cs137)
  (1 : Nat)) fun a139 n140 n141 => opL (nthD (Array.toList cs137) (2 : Nat)) fun a142 n143 n144 => SzIs (Array.size cs137) (3 : Nat) (Bd (IntKind.wrap IntKind.i64 (x107 +
  (1 : Int))) fun x145 => J104 [Value.int IntKind.i64 x128, Value.int IntKind.i64 x145] [Value.agg #[Value.int IntKind.i64 x130, Value.slice a131 n132 n133, Value.slice
  a134 n135 n136], Value.agg #[Value.int IntKind.i64 x138, Value.slice a139 n140 n141, Value.slice a142 n143 n144]] w127))) fun J146 => IxOk x107 n28 a27 ∧ Ld w105 (adAt
  a27 x107 (1 : Nat)) fun v147 => opI IntKind.u8 v147 fun x148 => Dr (World.drew w105) fun J149 => NN (some (Addr.mk n45 (0 : Nat) none)) fun A150 => ∃ v151, (∀ (w152 :
  World), J149 w152 → Ld w152 (Addr.add A150 (1 : Nat)) fun v154 => v154 = v151) ∧ opL v151 fun a155 n156 n157 => IxOk x77 n156 a155 ∧ ∃ v158, (∀ (w159 : World), J149
  w159 → Ld w159 (adAt a155 x77 (1 : Nat)) fun v161 => v161 = v158) ∧ opL v158 fun a162 n163 n164 => CallW Try.prog [n69, n3, n2, n1] (171 : Nat) #[Value.agg #[Value.int
  IntKind.i64 p0_0, Value.slice p0_1a p0_1n p0_1c], Value.slice a162 n163 n164, Value.int IntKind.u8 x148] (fun v165 w166 => opL v165 fun a167 n168 n169 => J149 w166 ∧ Bd
  ((n168 : Nat) : Int) fun x170 => Bd (x170 == (0 : Int)) fun b171 => If b171 (Nw (Obj.cells #[Value.int IntKind.i64 (-1 : Int)] (3 : Nat)) w166 fun n172 w173 => RunW
  Try.prog [n69, n3, n2, n1] (Builtin.append_ #[(52 : Nat), (52 : Nat)] (52 : Nat) #[Value.slice a118 n119 n120, Value.slice (some (Addr.mk n172 (0 : Nat) none)) (1 :
  Nat) (1 : Nat)]) (fun v174 w175 => opL v174 fun a176 n177 n178 => Up [n69] [n69, n3, n2, n1] w175 fun w179 => J146 [Value.int IntKind.i64 x106] [Value.agg #[Value.int
  IntKind.i64 x109, Value.slice a110 n111 n112, Value.slice a113 n114 n115], Value.agg #[Value.int IntKind.i64 x117, Value.slice a176 n177 n178, Value.slice a121 n122
  n123]] w179) w173) (CallW Try.prog [n69, n3, n2, n1] (167 : Nat) #[Value.agg #[Value.int IntKind.i64 p0_0, Value.slice p0_1a p0_1n p0_1c], Value.slice a167 n168 n169]
  (fun v180 w181 => opL v180 fun a182 n183 n184 => CallW Try.prog [n69, n3, n2, n1] (169 : Nat) #[Value.slice a182 n183 n184] (fun v185 w186 => opStr v185 fun s187 =>
  CallW Try.prog [n69, n3, n2, n1] (168 : Nat) #[Value.pointer (some (Addr.mk n45 (0 : Nat) none)), Value.string s187, Value.slice a182 n183 n184] (fun v188 w189 => opTu
  v188 fun cs190 => opI IntKind.i64 (nthD (Array.toList cs190) (0 : Nat)) fun x191 => opB (nthD (Array.toList cs190) (1 : Nat)) fun b192 => SzIs (Array.size cs190) (2 :
  Nat) (Jn (fun l193 l194 w195 => opAg (nthD l194 (0 : Nat)) fun cs196 => opI IntKind.i64 (nthD (Array.toList cs196) (0 : Nat)) fun x197 => opL (nthD (Array.toList cs196)
  (1 : Nat)) fun a198 n199 n200 => opL (nthD (Array.toList cs196) (2 : Nat)) fun a201 n202 n203 => SzIs (Array.size cs196) (3 : Nat) (NN (some (Addr.mk n45 (0 : Nat)
  none)) fun A204 => Ld w195 (Addr.add A204 (1 : Nat)) fun v205 => opL v205 fun a206 n207 n208 => Bd ((n207 : Nat) : Int) fun x209 => Bd (decide (x209 > p2)) fun b210 =>
  If b210 (Up [n3] [n69, n3, n2, n1] w195 fun w211 => R (Value.tuple #[Value.agg #[Value.int IntKind.i64 (0 : Int), Value.slice none (0 : Nat) (0 : Nat), Value.slice none
  (0 : Nat) (0 : Nat)], Value.int IntKind.i64 (40 : Int)]) w211) (Nw (Obj.cells #[Value.int IntKind.i64 x191] (3 : Nat)) w195 fun n212 w213 => RunW Try.prog [n69, n3, n2,
  n1] (Builtin.append_ #[(52 : Nat), (52 : Nat)] (52 : Nat) #[Value.slice a198 n199 n200, Value.slice (some (Addr.mk n212 (0 : Nat) none)) (1 : Nat) (1 : Nat)]) (fun v214
  w215 => opL v214 fun a216 n217 n218 => Up [n69] [n69, n3, n2, n1] w215 fun w219 => J146 [Value.int IntKind.i64 x106] [Value.agg #[Value.int IntKind.i64 x109,
  Value.slice a110 n111 n112, Value.slice a113 n114 n115], Value.agg #[Value.int IntKind.i64 x197, Value.slice a216 n217 n218, Value.slice a201 n202 n203]] w219) w213)))
  fun J220 => If b192 (CallW Try.prog [n69, n3, n2, n1] (170 : Nat) #[Value.agg #[Value.int IntKind.i64 p0_0, Value.slice p0_1a p0_1n p0_1c], Value.slice a182 n183 n184]
  (fun v221 w222 => opI IntKind.i64 v221 fun x223 => Nw (Obj.cells #[Value.int IntKind.i64 x223] (3 : Nat)) w222 fun n224 w225 => RunW Try.prog [n69, n3, n2, n1]
  (Builtin.append_ #[(52 : Nat), (52 : Nat)] (52 : Nat) #[Value.slice a121 n122 n123, Value.slice (some (Addr.mk n224 (0 : Nat) none)) (1 : Nat) (1 : Nat)]) (fun v226
  w227 => opL v226 fun a228 n229 n230 => Up [n69] [n69, n3, n2, n1] w227 fun w231 => J220 [] [Value.agg #[Value.int IntKind.i64 x117, Value.slice a118 n119 n120,
  Value.slice a228 n229 n230]] w231) w225) (World.drew w189) ∧ CallW Try.prog [n69, n3, n2, n1] (170 : Nat) #[Value.agg #[Value.int IntKind.i64 p0_0, Value.slice p0_1a
  p0_1n p0_1c], Value.slice a182 n183 n184] (fun v232 w233 => opI IntKind.i64 v232 fun x234 => (Nw (Obj.cells #[Value.int IntKind.i64 x234] (3 : Nat)) w233 fun n235 w236
  => RunW Try.prog [n69, n3, n2, n1] (Builtin.append_ #[(52 : Nat), (52 : Nat)] (52 : Nat) #[Value.slice a121 n122 n123, Value.slice (some (Addr.mk n235 (0 : Nat) none))
  (1 : Nat) (1 : Nat)]) (fun v237 w238 => opL v237 fun a239 n240 n241 => Up [n69] [n69, n3, n2, n1] w238 fun w242 => J220 [] [Value.agg #[Value.int IntKind.i64 x117,
  Value.slice a118 n119 n120, Value.slice a239 n240 n241]] w242) w236) ∧ Nw (Obj.cells #[Value.int IntKind.i64 x234] (3 : Nat)) w233 fun n243 w244 => RunW Try.prog [n69,
  n3, n2, n1] (Builtin.append_ #[(52 : Nat), (52 : Nat)] (52 : Nat) #[Value.slice a121 n122 n123, Value.slice (some (Addr.mk n243 (0 : Nat) none)) (1 : Nat) (1 : Nat)])
  (fun v245 w246 => opL v245 fun a247 n248 n249 => Up [n69] [n69, n3, n2, n1] w246 fun w250 => J220 [] [Value.agg #[Value.int IntKind.i64 x117, Value.slice a118 n119
  n120, Value.slice a247 n248 n249]] w250) w244) (World.drew w189)) (J220 [] [Value.agg #[Value.int IntKind.i64 x117, Value.slice a118 n119 n120, Value.slice a121 n122
  n123]] w189))) w186) w181) w166)) (World.drew w105)) (Bd (IntKind.wrap IntKind.i64 (x77 + (1 : Int))) fun x251 => J74 [Value.int IntKind.i64 x106, Value.int IntKind.i64
  x251] [Value.agg #[Value.int IntKind.i64 x109, Value.slice a110 n111 n112, Value.slice a113 n114 n115], Value.agg #[Value.int IntKind.i64 x117, Value.slice a118 n119
  n120, Value.slice a121 n122 n123]] w105)))) [Value.int IntKind.i64 x76, Value.int IntKind.i64 (0 : Int)] [Value.agg #[Value.int IntKind.i64 x79, Value.slice a80 n81
  n82, Value.slice a83 n84 n85], Value.agg #[Value.int IntKind.i64 x87, Value.slice a88 n89 n90, Value.slice a91 n92 n93]] w75) (Up [n3] [n69, n3, n2, n1] w75 fun w252 =>
  R (Value.tuple #[Value.agg #[Value.int IntKind.i64 x87, Value.slice a88 n89 n90, Value.slice a91 n92 n93], Value.int IntKind.i64 (0 : Int)]) w252)))) [Value.int
  IntKind.i64 (0 : Int), Value.int IntKind.i64 (0 : Int)] [Value.agg #[Value.int IntKind.i64 (0 : Int), Value.slice none (0 : Nat) (0 : Nat), Value.slice none (0 : Nat)
  (0 : Nat)], Value.agg #[Value.int IntKind.i64 x63, Value.slice none (0 : Nat) (0 : Nat), Value.slice (some (Addr.mk n67 (0 : Nat) none)) (1 : Nat) (1 : Nat)]] w71) ∧ Rg
  w65 fun n253 => Up [] [n253, n3, n2, n1] w65 fun w254 => Nw (Obj.cells #[Value.int IntKind.i64 x66] (3 : Nat)) w254 fun n255 w256 => Up [n253] [n253, n3, n2, n1] w256
  fun w257 => LoopP (fun l258 l259 J260 w261 => opI IntKind.i64 (nthD l258 (0 : Nat)) fun x262 => opI IntKind.i64 (nthD l258 (1 : Nat)) fun x263 => opAg (nthD l259 (0 :
  Nat)) fun cs264 => opI IntKind.i64 (nthD (Array.toList cs264) (0 : Nat)) fun x265 => opL (nthD (Array.toList cs264) (1 : Nat)) fun a266 n267 n268 => opL (nthD
  (Array.toList cs264) (2 : Nat)) fun a269 n270 n271 => SzIs (Array.size cs264) (3 : Nat) (opAg (nthD l259 (1 : Nat)) fun cs272 => opI IntKind.i64 (nthD (Array.toList
  cs272) (0 : Nat)) fun x273 => opL (nthD (Array.toList cs272) (1 : Nat)) fun a274 n275 n276 => opL (nthD (Array.toList cs272) (2 : Nat)) fun a277 n278 n279 => SzIs
  (Array.size cs272) (3 : Nat) (NN (some (Addr.mk n45 (0 : Nat) none)) fun A280 => Ld w261 (Addr.add A280 (1 : Nat)) fun v281 => opL v281 fun a282 n283 n284 => Bd ((n283
  : Nat) : Int) fun x285 => Bd (decide (x263 < x285)) fun b286 => If b286 (Bd ((n28 : Nat) : Int) fun x287 => LoopP (fun l288 l289 J290 w291 => opI IntKind.i64 (nthD l288
  (0 : Nat)) fun x292 => opI IntKind.i64 (nthD l288 (1 : Nat)) fun x293 => opAg (nthD l289 (0 : Nat)) fun cs294 => opI IntKind.i64 (nthD (Array.toList cs294) (0 : Nat))
  fun x295 => opL (nthD (Array.toList cs294) (1 : Nat)) fun a296 n297 n298 => opL (nthD (Array.toList cs294) (2 : Nat)) fun a299 n300 n301 => SzIs (Array.size cs294) (3 :
  Nat) (opAg (nthD l289 (1 : Nat)) fun cs302 => opI IntKind.i64 (nthD (Array.toList cs302) (0 : Nat)) fun x303 => opL (nthD (Array.toList cs302) (1 : Nat)) fun a304 n305
  n306 => opL (nthD (Array.toList cs302) (2 : Nat)) fun a307 n308 n309 => SzIs (Array.size cs302) (3 : Nat) (Bd (decide (x293 < x287)) fun b310 => If b310 (Jn (fun l311
  l312 w313 => opI IntKind.i64 (nthD l311 (0 : Nat)) fun x314 => opAg (nthD l312 (0 : Nat)) fun cs315 => opI IntKind.i64 (nthD (Array.toList cs315) (0 : Nat)) fun x316 =>
  opL (nthD (Array.toList cs315) (1 : Nat)) fun a317 n318 n319 => opL (nthD (Array.toList cs315) (2 : Nat)) fun a320 n321 n322 => SzIs (Array.size cs315) (3 : Nat) (opAg
  (nthD l312 (1 : Nat)) fun cs323 => opI IntKind.i64 (nthD (Array.toList cs323) (0 : Nat)) fun x324 => opL (nthD (Array.toList cs323) (1 : Nat)) fun a325 n326 n327 => opL
  (nthD (Array.toList cs323) (2 : Nat)) fun a328 n329 n330 => SzIs (Array.size cs323) (3 : Nat) (Bd (IntKind.wrap IntKind.i64 (x293 + (1 : Int))) fun x331 => J290
  [Value.int IntKind.i64 x314, Value.int IntKind.i64 x331] [Value.agg #[Value.int IntKind.i64 x316, Value.slice a317 n318 n319, Value.slice a320 n321 n322], Value.agg
  #[Value.int IntKind.i64 x324, Value.slice a325 n326 n327, Value.slice a328 n329 n330]] w313))) fun J332 => IxOk x293 n28 a27 ∧ Ld w291 (adAt a27 x293 (1 : Nat)) fun
  v333 => opI IntKind.u8 v333 fun x334 => Dr (World.drew w291) fun J335 => NN (some (Addr.mk n45 (0 : Nat) none)) fun A336 => ∃ v337, (∀ (w338 : World), J335 w338 → Ld
  w338 (Addr.add A336 (1 : Nat)) fun v340 => v340 = v337) ∧ opL v337 fun a341 n342 n343 => IxOk x263 n342 a341 ∧ ∃ v344, (∀ (w345 : World), J335 w345 → Ld w345 (adAt a341
  x263 (1 : Nat)) fun v347 => v347 = v344) ∧ opL v344 fun a348 n349 n350 => CallW Try.prog [n253, n3, n2, n1] (171 : Nat) #[Value.agg #[Value.int IntKind.i64 p0_0,
  Value.slice p0_1a p0_1n p0_1c], Value.slice a348 n349 n350, Value.int IntKind.u8 x334] (fun v351 w352 => opL v351 fun a353 n354 n355 => J335 w352 ∧ Bd ((n354 : Nat) :
  Int) fun x356 => Bd (x356 == (0 : Int)) fun b357 => If b357 (Nw (Obj.cells #[Value.int IntKind.i64 (-1 : Int)] (3 : Nat)) w352 fun n358 w359 => RunW Try.prog [n253, n3,
  n2, n1] (Builtin.append_ #[(52 : Nat), (52 : Nat)] (52 : Nat) #[Value.slice a304 n305 n306, Value.slice (some (Addr.mk n358 (0 : Nat) none)) (1 : Nat) (1 : Nat)]) (fun
  v360 w361 => opL v360 fun a362 n363 n364 => Up [n253] [n253, n3, n2, n1] w361 fun w365 => J332 [Value.int IntKind.i64 x292] [Value.agg #[Value.int IntKind.i64 x295,
  Value.slice a296 n297 n298, Value.slice a299 n300 n301], Value.agg #[Value.int IntKind.i64 x303, Value.slice a362 n363 n364, Value.slice a307 n308 n309]] w365) w359)
  (CallW Try.prog [n253, n3, n2, n1] (167 : Nat) #[Value.agg #[Value.int IntKind.i64 p0_0, Value.slice p0_1a p0_1n p0_1c], Value.slice a353 n354 n355] (fun v366 w367 =>
  opL v366 fun a368 n369 n370 => CallW Try.prog [n253, n3, n2, n1] (169 : Nat) #[Value.slice a368 n369 n370] (fun v371 w372 => opStr v371 fun s373 => CallW Try.prog
  [n253, n3, n2, n1] (168 : Nat) #[Value.pointer (some (Addr.mk n45 (0 : Nat) none)), Value.string s373, Value.slice a368 n369 n370] (fun v374 w375 => opTu v374 fun cs376
  => opI IntKind.i64 (nthD (Array.toList cs376) (0 : Nat)) fun x377 => opB (nthD (Array.toList cs376) (1 : Nat)) fun b378 => SzIs (Array.size cs376) (2 : Nat) (Jn (fun
  l379 l380 w381 => opAg (nthD l380 (0 : Nat)) fun cs382 => opI IntKind.i64 (nthD (Array.toList cs382) (0 : Nat)) fun x383 => opL (nthD (Array.toList cs382) (1 : Nat))
  fun a384 n385 n386 => opL (nthD (Array.toList cs382) (2 : Nat)) fun a387 n388 n389 => SzIs (Array.size cs382) (3 : Nat) (NN (some (Addr.mk n45 (0 : Nat) none)) fun A390
  => Ld w381 (Addr.add A390 (1 : Nat)) fun v391 => opL v391 fun a392 n393 n394 => Bd ((n393 : Nat) : Int) fun x395 => Bd (decide (x395 > p2)) fun b396 => If b396 (Up [n3]
  [n253, n3, n2, n1] w381 fun w397 => R (Value.tuple #[Value.agg #[Value.int IntKind.i64 (0 : Int), Value.slice none (0 : Nat) (0 : Nat), Value.slice none (0 : Nat) (0 :
  Nat)], Value.int IntKind.i64 (40 : Int)]) w397) (Nw (Obj.cells #[Value.int IntKind.i64 x377] (3 : Nat)) w381 fun n398 w399 => RunW Try.prog [n253, n3, n2, n1]
  (Builtin.append_ #[(52 : Nat), (52 : Nat)] (52 : Nat) #[Value.slice a384 n385 n386, Value.slice (some (Addr.mk n398 (0 : Nat) none)) (1 : Nat) (1 : Nat)]) (fun v400
  w401 => opL v400 fun a402 n403 n404 => Up [n253] [n253, n3, n2, n1] w401 fun w405 => J332 [Value.int IntKind.i64 x292] [Value.agg #[Value.int IntKind.i64 x295,
  Value.slice a296 n297 n298, Value.slice a299 n300 n301], Value.agg #[Value.int IntKind.i64 x383, Value.slice a402 n403 n404, Value.slice a387 n388 n389]] w405) w399)))
  fun J406 => If b378 (CallW Try.prog [n253, n3, n2, n1] (170 : Nat) #[Value.agg #[Value.int IntKind.i64 p0_0, Value.slice p0_1a p0_1n p0_1c], Value.slice a368 n369 n370]
  (fun v407 w408 => opI IntKind.i64 v407 fun x409 => Nw (Obj.cells #[Value.int IntKind.i64 x409] (3 : Nat)) w408 fun n410 w411 => RunW Try.prog [n253, n3, n2, n1]
  (Builtin.append_ #[(52 : Nat), (52 : Nat)] (52 : Nat) #[Value.slice a307 n308 n309, Value.slice (some (Addr.mk n410 (0 : Nat) none)) (1 : Nat) (1 : Nat)]) (fun v412
  w413 => opL v412 fun a414 n415 n416 => Up [n253] [n253, n3, n2, n1] w413 fun w417 => J406 [] [Value.agg #[Value.int IntKind.i64 x303, Value.slice a304 n305 n306,
  Value.slice a414 n415 n416]] w417) w411) (World.drew w375) ∧ CallW Try.prog [n253, n3, n2, n1] (170 : Nat) #[Value.agg #[Value.int IntKind.i64 p0_0, Value.slice p0_1a
  p0_1n p0_1c], Value.slice a368 n369 n370] (fun v418 w419 => opI IntKind.i64 v418 fun x420 => (Nw (Obj.cells #[Value.int IntKind.i64 x420] (3 : Nat)) w419 fun n421 w422
  => RunW Try.prog [n253, n3, n2, n1] (Builtin.append_ #[(52 : Nat), (52 : Nat)] (52 : Nat) #[Value.slice a307 n308 n309, Value.slice (some (Addr.mk n421 (0 : Nat) none))
  (1 : Nat) (1 : Nat)]) (fun v423 w424 => opL v423 fun a425 n426 n427 => Up [n253] [n253, n3, n2, n1] w424 fun w428 => J406 [] [Value.agg #[Value.int IntKind.i64 x303,
  Value.slice a304 n305 n306, Value.slice a425 n426 n427]] w428) w422) ∧ Nw (Obj.cells #[Value.int IntKind.i64 x420] (3 : Nat)) w419 fun n429 w430 => RunW Try.prog [n253,
  n3, n2, n1] (Builtin.append_ #[(52 : Nat), (52 : Nat)] (52 : Nat) #[Value.slice a307 n308 n309, Value.slice (some (Addr.mk n429 (0 : Nat) none)) (1 : Nat) (1 : Nat)])
  (fun v431 w432 => opL v431 fun a433 n434 n435 => Up [n253] [n253, n3, n2, n1] w432 fun w436 => J406 [] [Value.agg #[Value.int IntKind.i64 x303, Value.slice a304 n305
  n306, Value.slice a433 n434 n435]] w436) w430) (World.drew w375)) (J406 [] [Value.agg #[Value.int IntKind.i64 x303, Value.slice a304 n305 n306, Value.slice a307 n308
  n309]] w375))) w372) w367) w352)) (World.drew w291)) (Bd (IntKind.wrap IntKind.i64 (x263 + (1 : Int))) fun x437 => J260 [Value.int IntKind.i64 x292, Value.int
  IntKind.i64 x437] [Value.agg #[Value.int IntKind.i64 x295, Value.slice a296 n297 n298, Value.slice a299 n300 n301], Value.agg #[Value.int IntKind.i64 x303, Value.slice
  a304 n305 n306, Value.slice a307 n308 n309]] w291)))) [Value.int IntKind.i64 x262, Value.int IntKind.i64 (0 : Int)] [Value.agg #[Value.int IntKind.i64 x265, Value.slice
  a266 n267 n268, Value.slice a269 n270 n271], Value.agg #[Value.int IntKind.i64 x273, Value.slice a274 n275 n276, Value.slice a277 n278 n279]] w261) (Up [n3] [n253, n3,
  n2, n1] w261 fun w438 => R (Value.tuple #[Value.agg #[Value.int IntKind.i64 x273, Value.slice a274 n275 n276, Value.slice a277 n278 n279], Value.int IntKind.i64 (0 :
  Int)]) w438)))) [Value.int IntKind.i64 (0 : Int), Value.int IntKind.i64 (0 : Int)] [Value.agg #[Value.int IntKind.i64 (0 : Int), Value.slice none (0 : Nat) (0 : Nat),
  Value.slice none (0 : Nat) (0 : Nat)], Value.agg #[Value.int IntKind.i64 x63, Value.slice none (0 : Nat) (0 : Nat), Value.slice (some (Addr.mk n255 (0 : Nat) none)) (1
  : Nat) (1 : Nat)]] w257) (World.drew w58) ∧ Rg (World.drew w58) fun n439 => Up [] [n439, n3, n2, n1] (World.drew w58) fun w440 => CallW Try.prog [n439, n3, n2, n1] (170
  : Nat) #[Value.agg #[Value.int IntKind.i64 p0_0, Value.slice p0_1a p0_1n p0_1c], Value.slice a51 n52 n53] (fun v441 w442 => opI IntKind.i64 v441 fun x443 => Nw
  (Obj.cells #[Value.int IntKind.i64 x443] (3 : Nat)) w442 fun n444 w445 => Up [n439] [n439, n3, n2, n1] w445 fun w446 => LoopP (fun l447 l448 J449 w450 => opI
  IntKind.i64 (nthD l447 (0 : Nat)) fun x451 => opI IntKind.i64 (nthD l447 (1 : Nat)) fun x452 => opAg (nthD l448 (0 : Nat)) fun cs453 => opI IntKind.i64 (nthD
  (Array.toList cs453) (0 : Nat)) fun x454 => opL (nthD (Array.toList cs453) (1 : Nat)) fun a455 n456 n457 => opL (nthD (Array.toList cs453) (2 : Nat)) fun a458 n459 n460
  => SzIs (Array.size cs453) (3 : Nat) (opAg (nthD l448 (1 : Nat)) fun cs461 => opI IntKind.i64 (nthD (Array.toList cs461) (0 : Nat)) fun x462 => opL (nthD (Array.toList
  cs461) (1 : Nat)) fun a463 n464 n465 => opL (nthD (Array.toList cs461) (2 : Nat)) fun a466 n467 n468 => SzIs (Array.size cs461) (3 : Nat) (NN (some (Addr.mk n45 (0 :
  Nat) none)) fun A469 => Ld w450 (Addr.add A469 (1 : Nat)) fun v470 => opL v470 fun a471 n472 n473 => Bd ((n472 : Nat) : Int) fun x474 => Bd (decide (x452 < x474)) fun
  b475 => If b475 (Bd ((n28 : Nat) : Int) fun x476 => LoopP (fun l477 l478 J479 w480 => opI IntKind.i64 (nthD l477 (0 : Nat)) fun x481 => opI IntKind.i64 (nthD l477 (1 :
  Nat)) fun x482 => opAg (nthD l478 (0 : Nat)) fun cs483 => opI IntKind.i64 (nthD (Array.toList cs483) (0 : Nat)) fun x484 => opL (nthD (Array.toList cs483) (1 : Nat))
  fun a485 n486 n487 => opL (nthD (Array.toList cs483) (2 : Nat)) fun a488 n489 n490 => SzIs (Array.size cs483) (3 : Nat) (opAg (nthD l478 (1 : Nat)) fun cs491 => opI
  IntKind.i64 (nthD (Array.toList cs491) (0 : Nat)) fun x492 => opL (nthD (Array.toList cs491) (1 : Nat)) fun a493 n494 n495 => opL (nthD (Array.toList cs491) (2 : Nat))
  fun a496 n497 n498 => SzIs (Array.size cs491) (3 : Nat) (Bd (decide (x482 < x476)) fun b499 => If b499 (Jn (fun l500 l501 w502 => opI IntKind.i64 (nthD l500 (0 : Nat))
  fun x503 => opAg (nthD l501 (0 : Nat)) fun cs504 => opI IntKind.i64 (nthD (Array.toList cs504) (0 : Nat)) fun x505 => opL (nthD (Array.toList cs504) (1 : Nat)) fun a506
  n507 n508 => opL (nthD (Array.toList cs504) (2 : Nat)) fun a509 n510 n511 => SzIs (Array.size cs504) (3 : Nat) (opAg (nthD l501 (1 : Nat)) fun cs512 => opI IntKind.i64
  (nthD (Array.toList cs512) (0 : Nat)) fun x513 => opL (nthD (Array.toList cs512) (1 : Nat)) fun a514 n515 n516 => opL (nthD (Array.toList cs512) (2 : Nat)) fun a517
  n518 n519 => SzIs (Array.size cs512) (3 : Nat) (Bd (IntKind.wrap IntKind.i64 (x482 + (1 : Int))) fun x520 => J479 [Value.int IntKind.i64 x503, Value.int IntKind.i64
  x520] [Value.agg #[Value.int IntKind.i64 x505, Value.slice a506 n507 n508, Value.slice a509 n510 n511], Value.agg #[Value.int IntKind.i64 x513, Value.slice a514 n515
  n516, Value.slice a517 n518 n519]] w502))) fun J521 => IxOk x482 n28 a27 ∧ Ld w480 (adAt a27 x482 (1 : Nat)) fun v522 => opI IntKind.u8 v522 fun x523 => Dr (World.drew
  w480) fun J524 => NN (some (Addr.mk n45 (0 : Nat) none)) fun A525 => ∃ v526, (∀ (w527 : World), J524 w527 → Ld w527 (Addr.add A525 (1 : Nat)) fun v529 => v529 = v526) ∧
  opL v526 fun a530 n531 n532 => IxOk x452 n531 a530 ∧ ∃ v533, (∀ (w534 : World), J524 w534 → Ld w534 (adAt a530 x452 (1 : Nat)) fun v536 => v536 = v533) ∧ opL v533 fun
  a537 n538 n539 => CallW Try.prog [n439, n3, n2, n1] (171 : Nat) #[Value.agg #[Value.int IntKind.i64 p0_0, Value.slice p0_1a p0_1n p0_1c], Value.slice a537 n538 n539,
  Value.int IntKind.u8 x523] (fun v540 w541 => opL v540 fun a542 n543 n544 => J524 w541 ∧ Bd ((n543 : Nat) : Int) fun x545 => Bd (x545 == (0 : Int)) fun b546 => If b546
  (Nw (Obj.cells #[Value.int IntKind.i64 (-1 : Int)] (3 : Nat)) w541 fun n547 w548 => RunW Try.prog [n439, n3, n2, n1] (Builtin.append_ #[(52 : Nat), (52 : Nat)] (52 :
  Nat) #[Value.slice a493 n494 n495, Value.slice (some (Addr.mk n547 (0 : Nat) none)) (1 : Nat) (1 : Nat)]) (fun v549 w550 => opL v549 fun a551 n552 n553 => Up [n439]
  [n439, n3, n2, n1] w550 fun w554 => J521 [Value.int IntKind.i64 x481] [Value.agg #[Value.int IntKind.i64 x484, Value.slice a485 n486 n487, Value.slice a488 n489 n490],
  Value.agg #[Value.int IntKind.i64 x492, Value.slice a551 n552 n553, Value.slice a496 n497 n498]] w554) w548) (CallW Try.prog [n439, n3, n2, n1] (167 : Nat) #[Value.agg
  #[Value.int IntKind.i64 p0_0, Value.slice p0_1a p0_1n p0_1c], Value.slice a542 n543 n544] (fun v555 w556 => opL v555 fun a557 n558 n559 => CallW Try.prog [n439, n3, n2,
  n1] (169 : Nat) #[Value.slice a557 n558 n559] (fun v560 w561 => opStr v560 fun s562 => CallW Try.prog [n439, n3, n2, n1] (168 : Nat) #[Value.pointer (some (Addr.mk n45
  (0 : Nat) none)), Value.string s562, Value.slice a557 n558 n559] (fun v563 w564 => opTu v563 fun cs565 => opI IntKind.i64 (nthD (Array.toList cs565) (0 : Nat)) fun x566
  => opB (nthD (Array.toList cs565) (1 : Nat)) fun b567 => SzIs (Array.size cs565) (2 : Nat) (Jn (fun l568 l569 w570 => opAg (nthD l569 (0 : Nat)) fun cs571 => opI
  IntKind.i64 (nthD (Array.toList cs571) (0 : Nat)) fun x572 => opL (nthD (Array.toList cs571) (1 : Nat)) fun a573 n574 n575 => opL (nthD (Array.toList cs571) (2 : Nat))
  fun a576 n577 n578 => SzIs (Array.size cs571) (3 : Nat) (NN (some (Addr.mk n45 (0 : Nat) none)) fun A579 => Ld w570 (Addr.add A579 (1 : Nat)) fun v580 => opL v580 fun
  a581 n582 n583 => Bd ((n582 : Nat) : Int) fun x584 => Bd (decide (x584 > p2)) fun b585 => If b585 (Up [n3] [n439, n3, n2, n1] w570 fun w586 => R (Value.tuple
  #[Value.agg #[Value.int IntKind.i64 (0 : Int), Value.slice none (0 : Nat) (0 : Nat), Value.slice none (0 : Nat) (0 : Nat)], Value.int IntKind.i64 (40 : Int)]) w586) (Nw
  (Obj.cells #[Value.int IntKind.i64 x566] (3 : Nat)) w570 fun n587 w588 => RunW Try.prog [n439, n3, n2, n1] (Builtin.append_ #[(52 : Nat), (52 : Nat)] (52 : Nat)
  #[Value.slice a573 n574 n575, Value.slice (some (Addr.mk n587 (0 : Nat) none)) (1 : Nat) (1 : Nat)]) (fun v589 w590 => opL v589 fun a591 n592 n593 => Up [n439] [n439,
  n3, n2, n1] w590 fun w594 => J521 [Value.int IntKind.i64 x481] [Value.agg #[Value.int IntKind.i64 x484, Value.slice a485 n486 n487, Value.slice a488 n489 n490],
  Value.agg #[Value.int IntKind.i64 x572, Value.slice a591 n592 n593, Value.slice a576 n577 n578]] w594) w588))) fun J595 => If b567 (CallW Try.prog [n439, n3, n2, n1]
  (170 : Nat) #[Value.agg #[Value.int IntKind.i64 p0_0, Value.slice p0_1a p0_1n p0_1c], Value.slice a557 n558 n559] (fun v596 w597 => opI IntKind.i64 v596 fun x598 => Nw
  (Obj.cells #[Value.int IntKind.i64 x598] (3 : Nat)) w597 fun n599 w600 => RunW Try.prog [n439, n3, n2, n1] (Builtin.append_ #[(52 : Nat), (52 : Nat)] (52 : Nat)
  #[Value.slice a496 n497 n498, Value.slice (some (Addr.mk n599 (0 : Nat) none)) (1 : Nat) (1 : Nat)]) (fun v601 w602 => opL v601 fun a603 n604 n605 => Up [n439] [n439,
  n3, n2, n1] w602 fun w606 => J595 [] [Value.agg #[Value.int IntKind.i64 x492, Value.slice a493 n494 n495, Value.slice a603 n604 n605]] w606) w600) (World.drew w564) ∧
  CallW Try.prog [n439, n3, n2, n1] (170 : Nat) #[Value.agg #[Value.int IntKind.i64 p0_0, Value.slice p0_1a p0_1n p0_1c], Value.slice a557 n558 n559] (fun v607 w608 =>
  opI IntKind.i64 v607 fun x609 => (Nw (Obj.cells #[Value.int IntKind.i64 x609] (3 : Nat)) w608 fun n610 w611 => RunW Try.prog [n439, n3, n2, n1] (Builtin.append_ #[(52 :
  Nat), (52 : Nat)] (52 : Nat) #[Value.slice a496 n497 n498, Value.slice (some (Addr.mk n610 (0 : Nat) none)) (1 : Nat) (1 : Nat)]) (fun v612 w613 => opL v612 fun a614
  n615 n616 => Up [n439] [n439, n3, n2, n1] w613 fun w617 => J595 [] [Value.agg #[Value.int IntKind.i64 x492, Value.slice a493 n494 n495, Value.slice a614 n615 n616]]
  w617) w611) ∧ Nw (Obj.cells #[Value.int IntKind.i64 x609] (3 : Nat)) w608 fun n618 w619 => RunW Try.prog [n439, n3, n2, n1] (Builtin.append_ #[(52 : Nat), (52 : Nat)]
  (52 : Nat) #[Value.slice a496 n497 n498, Value.slice (some (Addr.mk n618 (0 : Nat) none)) (1 : Nat) (1 : Nat)]) (fun v620 w621 => opL v620 fun a622 n623 n624 => Up
  [n439] [n439, n3, n2, n1] w621 fun w625 => J595 [] [Value.agg #[Value.int IntKind.i64 x492, Value.slice a493 n494 n495, Value.slice a622 n623 n624]] w625) w619)
  (World.drew w564)) (J595 [] [Value.agg #[Value.int IntKind.i64 x492, Value.slice a493 n494 n495, Value.slice a496 n497 n498]] w564))) w561) w556) w541)) (World.drew
  w480)) (Bd (IntKind.wrap IntKind.i64 (x452 + (1 : Int))) fun x626 => J449 [Value.int IntKind.i64 x481, Value.int IntKind.i64 x626] [Value.agg #[Value.int IntKind.i64
  x484, Value.slice a485 n486 n487, Value.slice a488 n489 n490], Value.agg #[Value.int IntKind.i64 x492, Value.slice a493 n494 n495, Value.slice a496 n497 n498]] w480))))
  [Value.int IntKind.i64 x451, Value.int IntKind.i64 (0 : Int)] [Value.agg #[Value.int IntKind.i64 x454, Value.slice a455 n456 n457, Value.slice a458 n459 n460],
  Value.agg #[Value.int IntKind.i64 x462, Value.slice a463 n464 n465, Value.slice a466 n467 n468]] w450) (Up [n3] [n439, n3, n2, n1] w450 fun w627 => R (Value.tuple
  #[Value.agg #[Value.int IntKind.i64 x462, Value.slice a463 n464 n465, Value.slice a466 n467 n468], Value.int IntKind.i64 (0 : Int)]) w627)))) [Value.int IntKind.i64 (0
  : Int), Value.int IntKind.i64 (0 : Int)] [Value.agg #[Value.int IntKind.i64 (0 : Int), Value.slice none (0 : Nat) (0 : Nat), Value.slice none (0 : Nat) (0 : Nat)],
  Value.agg #[Value.int IntKind.i64 x63, Value.slice none (0 : Nat) (0 : Nat), Value.slice (some (Addr.mk n444 (0 : Nat) none)) (1 : Nat) (1 : Nat)]] w446) w440)) w55)
  w50) w48)) [Value.int IntKind.i64 (0 : Int)] [] w26) w15)) w6) w4
theorem f67_eq (p0_0 : Int) (p0_1a : Option Addr) (p0_1n : Nat) (p0_1c : Nat) (p1 : Array Value) (p2 : Int) (R : Value → World → Prop) (w : World) : fnW Try.prog [3, 4,
  6, 12, 400012, 100019, 400025] Try.f67 [Value.agg #[Value.int IntKind.i64 p0_0, Value.slice p0_1a p0_1n p0_1c], Value.agg p1, Value.int IntKind.i64 p2] R w = f67_vc
  p0_0 p0_1a p0_1n p0_1c p1 p2 R w := by kernel_rfl
theorem f67_in (p0_0 : Int) (p0_1a : Option Addr) (p0_1n : Nat) (p0_1c : Nat) (p1 : Array Value) (p2 : Int) (R : Value → World → Prop) (w : World) (h : f67_vc p0_0 p0_1a
  p0_1n p0_1c p1 p2 R w) : Ct Try.prog 67 #[Value.agg #[Value.int IntKind.i64 p0_0, Value.slice p0_1a p0_1n p0_1c], Value.agg p1, Value.int IntKind.i64 p2] w R := by
  refine Ct_of (rk := [3, 4, 6, 12, 400012, 100019, 400025]) (fn := Try.f67) (args := [Value.agg #[Value.int IntKind.i64 p0_0, Value.slice p0_1a p0_1n p0_1c], Value.agg p1, Value.int IntKind.i64 p2]) mixedT Try.func67 (by kernel_rfl) ?_
  rw [f67_eq]
  exact h
end Fk
set_option linter.unusedVariables false
set_option maxRecDepth 1000000
set_option maxHeartbeats 4000000
namespace Fk
open Go Go.Proofs Go.RowKit
def f64_vc (p0a : Option Addr) (p0n : Nat) (p0c : Nat) (R : Value → World → Prop) (w : World) : Prop := Bd ((p0n : Nat) : Int) fun x1 => LoopP (fun l2 l3 J4 w5 => opL
  (nthD l2 (0 : Nat)) fun a6 n7 n8 => opI IntKind.i64 (nthD l2 (1 : Nat)) fun x9 => Bd (decide (x9 < x1)) fun b10 => If b10 (Jn (fun l11 l12 w13 => opL (nthD l11 (0 :
  Nat)) fun a14 n15 n16 => Bd (IntKind.wrap IntKind.i64 (x9 + (1 : Int))) fun x17 => J4 [Value.slice a14 n15 n16, Value.int IntKind.i64 x17] [] w13) fun J18 => IxOk x9
  p0n p0a ∧ Ld w5 (Addr.add (adAt p0a x9 (6 : Nat)) (0 : Nat)) fun v19 => Ld w5 (Addr.add (adAt p0a x9 (6 : Nat)) (1 : Nat)) fun v20 => Ld w5 (Addr.add (adAt p0a x9 (6 :
  Nat)) (2 : Nat)) fun v21 => Ld w5 (Addr.add (adAt p0a x9 (6 : Nat)) (3 : Nat)) fun v22 => Ld w5 (Addr.add (adAt p0a x9 (6 : Nat)) (4 : Nat)) fun v23 => Ld w5 (Addr.add
  (adAt p0a x9 (6 : Nat)) (5 : Nat)) fun v24 => opI IntKind.u8 v19 fun x25 => opI IntKind.u64 v20 fun x26 => opI IntKind.u64 v21 fun x27 => opI IntKind.u64 v22 fun x28 =>
  opI IntKind.u64 v23 fun x29 => opL v24 fun a30 n31 n32 => Rg w5 fun n33 => Up [n33] [n33] w5 fun w34 => CallW Try.prog [n33] (144 : Nat) #[Value.agg #[Value.int
  IntKind.u8 x25, Value.int IntKind.u64 x26, Value.int IntKind.u64 x27, Value.int IntKind.u64 x28, Value.int IntKind.u64 x29, Value.slice a30 n31 n32]] (fun v35 w36 =>
  opB v35 fun b37 => If b37 (Nw (Obj.cells #[Value.int IntKind.u8 x25, Value.int IntKind.u64 x26, Value.int IntKind.u64 x27, Value.int IntKind.u64 x28, Value.int
  IntKind.u64 x29, Value.slice a30 n31 n32] (42 : Nat)) w36 fun n38 w39 => RunW Try.prog [n33] (Builtin.append_ #[(22 : Nat), (22 : Nat)] (22 : Nat) #[Value.slice a6 n7
  n8, Value.slice (some (Addr.mk n38 (0 : Nat) none)) (1 : Nat) (1 : Nat)]) (fun v40 w41 => opL v40 fun a42 n43 n44 => J18 [Value.slice a42 n43 n44] [] w41) w39) (J18
  [Value.slice a6 n7 n8] [] w36)) w34) (R (Value.slice a6 n7 n8) w5)) [Value.slice none (0 : Nat) (0 : Nat), Value.int IntKind.i64 (0 : Int)] [] w
theorem f64_eq (p0a : Option Addr) (p0n : Nat) (p0c : Nat) (R : Value → World → Prop) (w : World) : fnW Try.prog [5] Try.f64 [Value.slice p0a p0n p0c] R w = f64_vc p0a
  p0n p0c R w := by kernel_rfl
theorem f64_in (p0a : Option Addr) (p0n : Nat) (p0c : Nat) (R : Value → World → Prop) (w : World) (h : f64_vc p0a p0n p0c R w) : Ct Try.prog 64 #[Value.slice p0a p0n p0c]
  w R := by
  refine Ct_of (rk := [5]) (fn := Try.f64) (args := [Value.slice p0a p0n p0c]) mixedT Try.func64 (by kernel_rfl) ?_
  rw [f64_eq]
  exact h
def f65_vc (R : Value → World → Prop) (w : World) : Prop := CallW Try.prog [] (161 : Nat) #[Value.int IntKind.u8 (98 : Int)] (fun v1 w2 => opAg v1 fun cs3 => opI
  IntKind.u8 (nthD (Array.toList cs3) (0 : Nat)) fun x4 => opI IntKind.u64 (nthD (Array.toList cs3) (1 : Nat)) fun x5 => opI IntKind.u64 (nthD (Array.toList cs3) (2 :
  Nat)) fun x6 => opI IntKind.u64 (nthD (Array.toList cs3) (3 : Nat)) fun x7 => opI IntKind.u64 (nthD (Array.toList cs3) (4 : Nat)) fun x8 => opL (nthD (Array.toList cs3)
  (5 : Nat)) fun a9 n10 n11 => SzIs (Array.size cs3) (6 : Nat) (CallW Try.prog [] (161 : Nat) #[Value.int IntKind.u8 (97 : Int)] (fun v12 w13 => opAg v12 fun cs14 => opI
  IntKind.u8 (nthD (Array.toList cs14) (0 : Nat)) fun x15 => opI IntKind.u64 (nthD (Array.toList cs14) (1 : Nat)) fun x16 => opI IntKind.u64 (nthD (Array.toList cs14) (2
  : Nat)) fun x17 => opI IntKind.u64 (nthD (Array.toList cs14) (3 : Nat)) fun x18 => opI IntKind.u64 (nthD (Array.toList cs14) (4 : Nat)) fun x19 => opL (nthD
  (Array.toList cs14) (5 : Nat)) fun a20 n21 n22 => SzIs (Array.size cs14) (6 : Nat) (Nw (Obj.cells #[Value.int IntKind.u8 x15, Value.int IntKind.u64 x16, Value.int
  IntKind.u64 x17, Value.int IntKind.u64 x18, Value.int IntKind.u64 x19, Value.slice a20 n21 n22] (42 : Nat)) w13 fun n23 w24 => Nw (Obj.cells #[Value.int IntKind.u8 x4,
  Value.int IntKind.u64 x5, Value.int IntKind.u64 x6, Value.int IntKind.u64 x7, Value.int IntKind.u64 x8, Value.slice a9 n10 n11, Value.int IntKind.u8 (4 : Int),
  Value.int IntKind.u64 (0 : Int), Value.int IntKind.u64 (0 : Int), Value.int IntKind.u64 (0 : Int), Value.int IntKind.u64 (0 : Int), Value.slice (some (Addr.mk n23 (0 :
  Nat) none)) (1 : Nat) (1 : Nat)] (42 : Nat)) w24 fun n25 w26 => CallW Try.prog [] (85 : Nat) #[Value.slice (some (Addr.mk n25 (0 : Nat) none)) (2 : Nat) (2 : Nat),
  Value.int IntKind.i64 (3 : Int)] (fun v27 w28 => opTu v27 fun cs29 => opAg (nthD (Array.toList cs29) (0 : Nat)) fun cs30 => opI IntKind.i64 (nthD (Array.toList cs30) (0
  : Nat)) fun x31 => opL (nthD (Array.toList cs30) (1 : Nat)) fun a32 n33 n34 => SzIs (Array.size cs30) (2 : Nat) (opBig (nthD (Array.toList cs29) (1 : Nat)) fun cs35 =>
  Array.size cs35 = (257 : Nat) ∧ opAg (nthD (Array.toList cs29) (2 : Nat)) fun cs36 => opI IntKind.i64 (nthD (Array.toList cs36) (0 : Nat)) fun x37 => opL (nthD
  (Array.toList cs36) (1 : Nat)) fun a38 n39 n40 => opL (nthD (Array.toList cs36) (2 : Nat)) fun a41 n42 n43 => SzIs (Array.size cs36) (3 : Nat) (opB (nthD (Array.toList
  cs29) (3 : Nat)) fun b44 => SzIs (Array.size cs29) (4 : Nat) (Array.size cs35 = (257 : Nat) ∧ Rg w28 fun n45 => Rg w28 fun n46 => Rg w28 fun n47 => OkC (Array.toList
  cs35) (257 : Nat) (Array.size cs35 = (257 : Nat) ∧ Up [n47, n46, n45] [n47, n46, n45] w28 fun w48 => CallW Try.prog [n47, n46, n45] (67 : Nat) #[Value.agg #[Value.int
  IntKind.i64 x31, Value.slice a32 n33 n34], Value.agg cs35, Value.int IntKind.i64 (2 : Int)] (fun v49 w50 => opTu v49 fun cs51 => opAg (nthD (Array.toList cs51) (0 :
  Nat)) fun cs52 => opI IntKind.i64 (nthD (Array.toList cs52) (0 : Nat)) fun x53 => opL (nthD (Array.toList cs52) (1 : Nat)) fun a54 n55 n56 => opL (nthD (Array.toList
  cs52) (2 : Nat)) fun a57 n58 n59 => SzIs (Array.size cs52) (3 : Nat) (opI IntKind.i64 (nthD (Array.toList cs51) (1 : Nat)) fun x60 => SzIs (Array.size cs51) (2 : Nat)
  (Rg w50 fun n61 => Up [n61] [n61, n47, n46, n45] w50 fun w62 => Nw (Obj.cells #[Value.int IntKind.i64 (3 : Int)] (3 : Nat)) w62 fun n63 w64 => CallW Try.prog [n61, n47,
  n46, n45] (70 : Nat) #[Value.agg #[Value.int IntKind.i64 x37, Value.slice a38 n39 n40, Value.slice a41 n42 n43], Value.slice (some (Addr.mk n63 (0 : Nat) none)) (1 :
  Nat) (1 : Nat)] (fun v65 w66 => opTu v65 fun cs67 => opL (nthD (Array.toList cs67) (0 : Nat)) fun a68 n69 n70 => opI IntKind.i64 (nthD (Array.toList cs67) (1 : Nat))
  fun x71 => SzIs (Array.size cs67) (2 : Nat) (Bd (x60 == (40 : Int)) fun b72 => Bd (bif b44 then b72 else false) fun b73 => Bd (x71 == (2 : Int)) fun b74 => Bd (bif b73
  then b74 else false) fun b75 => (b75 = true → isI IntKind.i64 (Array.toList cs35) (256 : Nat)) ∧ Bd (rdI (Array.toList cs35) (256 : Nat)) fun x77 => Bd (x77 == (3 :
  Int)) fun b78 => Bd (bif b75 then b78 else false) fun b79 => Gd b79 (none, (0 : Nat), (0 : Nat)) (fun J80 => Nw (Obj.cells #[Value.int IntKind.i64 (-1 : Int), Value.int
  IntKind.i64 (1 : Int), Value.int IntKind.i64 (2 : Int), Value.int IntKind.i64 (-1 : Int), Value.int IntKind.i64 (1 : Int), Value.int IntKind.i64 (-1 : Int), Value.int
  IntKind.i64 (-1 : Int), Value.int IntKind.i64 (-1 : Int), Value.int IntKind.i64 (-1 : Int)] (3 : Nat)) w66 fun n81 w82 => J80 (some (Addr.mk n81 (0 : Nat) none), (9 :
  Nat), (9 : Nat)) w82) (fun u83 w84 => Gd b79 (none, (0 : Nat), (0 : Nat)) (fun J85 => Nw (Obj.cells #[Value.int IntKind.i64 (1 : Int), Value.int IntKind.i64 (1 : Int),
  Value.int IntKind.i64 (0 : Int)] (3 : Nat)) w84 fun n86 w87 => J85 (some (Addr.mk n86 (0 : Nat) none), (3 : Nat), (3 : Nat)) w87) (fun u88 w89 => Gd b79 false (fun J90
  => CallW Try.prog [n61, n47, n46, n45] (96 : Nat) #[Value.agg #[Value.int IntKind.i64 x37, Value.slice a38 n39 n40, Value.slice a41 n42 n43], Value.agg #[Value.int
  IntKind.i64 (3 : Int), Value.slice (Prod.fst u83) (Prod.fst (Prod.snd u83)) (Prod.snd (Prod.snd u83)), Value.slice (Prod.fst u88) (Prod.fst (Prod.snd u88)) (Prod.snd
  (Prod.snd u88))]] (fun v91 w92 => opB v91 fun b93 => J90 b93 w92) w89) (fun b94 w95 => Bd (bif b79 then b94 else false) fun b96 => Gd b96 (none, (0 : Nat), (0 : Nat))
  (fun J97 => Nw (Obj.cells #[Value.int IntKind.i64 (1 : Int), Value.int IntKind.i64 (1 : Int)] (3 : Nat)) w95 fun n98 w99 => J97 (some (Addr.mk n98 (0 : Nat) none), (2 :
  Nat), (2 : Nat)) w99) (fun u100 w101 => Gd b96 (none, (0 : Nat), (0 : Nat)) (fun J102 => Nw (Obj.cells #[Value.int IntKind.i64 (1 : Int), Value.int IntKind.i64 (1 :
  Int), Value.int IntKind.i64 (1 : Int)] (3 : Nat)) w101 fun n103 w104 => J102 (some (Addr.mk n103 (0 : Nat) none), (3 : Nat), (3 : Nat)) w104) (fun u105 w106 => Gd b96
  false (fun J107 => CallW Try.prog [n61, n47, n46, n45] (162 : Nat) #[Value.agg #[Value.int IntKind.i64 x37, Value.slice a38 n39 n40, Value.slice a41 n42 n43],
  Value.slice (Prod.fst u100) (Prod.fst (Prod.snd u100)) (Prod.snd (Prod.snd u100)), Value.slice (Prod.fst u105) (Prod.fst (Prod.snd u105)) (Prod.snd (Prod.snd u105))]
  (fun v108 w109 => opB v108 fun b110 => J107 b110 w109) w106) (fun b111 w112 => Bd (bif b96 then b111 else false) fun b113 => Gd b113 (none, (0 : Nat), (0 : Nat)) (fun
  J114 => Nw (Obj.cells #[Value.int IntKind.i64 (2 : Int), Value.int IntKind.i64 (1 : Int)] (3 : Nat)) w112 fun n115 w116 => J114 (some (Addr.mk n115 (0 : Nat) none), (2
  : Nat), (2 : Nat)) w116) (fun u117 w118 => Gd b113 (none, (0 : Nat), (0 : Nat)) (fun J119 => Nw (Obj.cells #[Value.int IntKind.i64 (1 : Int), Value.int IntKind.i64 (0 :
  Int), Value.int IntKind.i64 (-1 : Int)] (3 : Nat)) w118 fun n120 w121 => J119 (some (Addr.mk n120 (0 : Nat) none), (3 : Nat), (3 : Nat)) w121) (fun u122 w123 => Gd b113
  false (fun J124 => CallW Try.prog [n61, n47, n46, n45] (162 : Nat) #[Value.agg #[Value.int IntKind.i64 x37, Value.slice a38 n39 n40, Value.slice a41 n42 n43],
  Value.slice (Prod.fst u117) (Prod.fst (Prod.snd u117)) (Prod.snd (Prod.snd u117)), Value.slice (Prod.fst u122) (Prod.fst (Prod.snd u122)) (Prod.snd (Prod.snd u122))]
  (fun v125 w126 => opB v125 fun b127 => J124 b127 w126) w123) (fun b128 w129 => Bd (bif b113 then b128 else false) fun b130 => R (Value.bool b130) w129) w123) w118)
  w112) w106) w101) w95) w89) w84) w66)) w64))) w48))))) w26)) w2)) w
theorem f65_eq (R : Value → World → Prop) (w : World) : fnW Try.prog [2, 3, 4, 6] Try.f65 [] R w = f65_vc R w := by kernel_rfl
theorem f65_in (R : Value → World → Prop) (w : World) (h : f65_vc R w) : Ct Try.prog 65 #[] w R := by
  refine Ct_of (rk := [2, 3, 4, 6]) (fn := Try.f65) (args := []) mixedT Try.func65 (by kernel_rfl) ?_
  rw [f65_eq]
  exact h
def f85_vc (p0a : Option Addr) (p0n : Nat) (p0c : Nat) (p1 : Int) (R : Value → World → Prop) (w : World) : Prop := Rg w fun n1 => Rg w fun n2 => Rg w fun n3 => Up [] [n3,
  n2, n1] w fun w4 => CallW Try.prog [n3, n2, n1] (66 : Nat) #[Value.slice p0a p0n p0c, Value.int IntKind.i64 (20000 : Int)] (fun v5 w6 => opTu v5 fun cs7 => opAg (nthD
  (Array.toList cs7) (0 : Nat)) fun cs8 => opI IntKind.i64 (nthD (Array.toList cs8) (0 : Nat)) fun x9 => opL (nthD (Array.toList cs8) (1 : Nat)) fun a10 n11 n12 => SzIs
  (Array.size cs8) (2 : Nat) (opI IntKind.i64 (nthD (Array.toList cs7) (1 : Nat)) fun x13 => SzIs (Array.size cs7) (2 : Nat) (Rg w6 fun n14 => Up [n14] [n14, n3, n2, n1]
  w6 fun w15 => CallW Try.prog [n14, n3, n2, n1] (40 : Nat) #[Value.slice p0a p0n p0c] (fun v16 w17 => opTu v16 fun cs18 => opBig (nthD (Array.toList cs18) (0 : Nat)) fun
  cs19 => Array.size cs19 = (257 : Nat) ∧ opI IntKind.i64 (nthD (Array.toList cs18) (1 : Nat)) fun x20 => SzIs (Array.size cs18) (2 : Nat) (Array.size cs19 = (257 : Nat)
  ∧ Rg w17 fun n21 => OkC (Array.toList cs19) (257 : Nat) (Array.size cs19 = (257 : Nat) ∧ Up [n21] [n21, n14, n3, n2, n1] w17 fun w22 => CallW Try.prog [n21, n14, n3,
  n2, n1] (67 : Nat) #[Value.agg #[Value.int IntKind.i64 x9, Value.slice a10 n11 n12], Value.agg cs19, Value.int IntKind.i64 p1] (fun v23 w24 => opTu v23 fun cs25 => opAg
  (nthD (Array.toList cs25) (0 : Nat)) fun cs26 => opI IntKind.i64 (nthD (Array.toList cs26) (0 : Nat)) fun x27 => opL (nthD (Array.toList cs26) (1 : Nat)) fun a28 n29
  n30 => opL (nthD (Array.toList cs26) (2 : Nat)) fun a31 n32 n33 => SzIs (Array.size cs26) (3 : Nat) (opI IntKind.i64 (nthD (Array.toList cs25) (1 : Nat)) fun x34 =>
  SzIs (Array.size cs25) (2 : Nat) (Rg w24 fun n35 => Jn (fun l36 l37 w38 => opB (nthD l36 (0 : Nat)) fun b39 => opAg (nthD l37 (0 : Nat)) fun cs40 => opI IntKind.i64
  (nthD (Array.toList cs40) (0 : Nat)) fun x41 => opL (nthD (Array.toList cs40) (1 : Nat)) fun a42 n43 n44 => opL (nthD (Array.toList cs40) (2 : Nat)) fun a45 n46 n47 =>
  SzIs (Array.size cs40) (3 : Nat) (opBig (nthD l37 (1 : Nat)) fun cs48 => opAg (nthD l37 (2 : Nat)) fun cs49 => opI IntKind.i64 (nthD (Array.toList cs49) (0 : Nat)) fun
  x50 => opL (nthD (Array.toList cs49) (1 : Nat)) fun a51 n52 n53 => SzIs (Array.size cs49) (2 : Nat) (Array.size cs48 = (257 : Nat) ∧ R (Value.tuple #[Value.agg
  #[Value.int IntKind.i64 x50, Value.slice a51 n52 n53], Value.agg cs48, Value.agg #[Value.int IntKind.i64 x41, Value.slice a42 n43 n44, Value.slice a45 n46 n47],
  Value.bool b39]) w38))) fun J54 => Up [n35] [n35, n21, n14, n3, n2, n1] w24 fun w55 => Array.size cs19 = (257 : Nat) ∧ Bd (x13 == (0 : Int)) fun b56 => Bd (x20 == (0 :
  Int)) fun b57 => Bd (bif b56 then b57 else false) fun b58 => Bd (x34 == (0 : Int)) fun b59 => Bd (bif b58 then b59 else false) fun b60 => Up [n1] [n35, n21, n14, n3,
  n2, n1] (World.drew w55) fun w61 => OkC (Array.toList cs19) (257 : Nat) (Up [n2] [n35, n21, n14, n3, n2, n1] w61 fun w62 => Up [n3] [n35, n21, n14, n3, n2, n1] w62 fun
  w63 => J54 [Value.bool b60] [Value.agg #[Value.int IntKind.i64 x27, Value.slice a28 n29 n30, Value.slice a31 n32 n33], Value.agg cs19, Value.agg #[Value.int IntKind.i64
  x9, Value.slice a10 n11 n12]] w63)))) w22))) w15))) w4
theorem f85_eq (p0a : Option Addr) (p0n : Nat) (p0c : Nat) (p1 : Int) (R : Value → World → Prop) (w : World) : fnW Try.prog [4, 5, 6, 8, 10, 12, 400004] Try.f85
  [Value.slice p0a p0n p0c, Value.int IntKind.i64 p1] R w = f85_vc p0a p0n p0c p1 R w := by kernel_rfl
theorem f85_in (p0a : Option Addr) (p0n : Nat) (p0c : Nat) (p1 : Int) (R : Value → World → Prop) (w : World) (h : f85_vc p0a p0n p0c p1 R w) : Ct Try.prog 85
  #[Value.slice p0a p0n p0c, Value.int IntKind.i64 p1] w R := by
  refine Ct_of (rk := [4, 5, 6, 8, 10, 12, 400004]) (fn := Try.f85) (args := [Value.slice p0a p0n p0c, Value.int IntKind.i64 p1]) mixedT Try.func85 (by kernel_rfl) ?_
  rw [f85_eq]
  exact h
def f161_vc (p0 : Int) (R : Value → World → Prop) (w : World) : Prop := Rg w fun n1 => Up [] [n1] w fun w2 => Nw (Obj.cells #[Value.int IntKind.u8 (0 : Int), Value.int
  IntKind.u64 (0 : Int), Value.int IntKind.u64 (0 : Int), Value.int IntKind.u64 (0 : Int), Value.int IntKind.u64 (0 : Int), Value.slice none (0 : Nat) (0 : Nat)] (42 :
  Nat)) w2 fun n3 w4 => ¬n3 ∈ [n1] ∧ Wr w4 (Addr.mk n3 (0 : Nat) none) (6 : Nat) ∧ Bd (IntKind.wrap IntKind.u8 (Int.tdiv p0 (64 : Int))) fun x5 => Bd (Int.tmod p0 (64 :
  Int)) fun x6 => (0 : Int) ≤ x6 ∧ Bd (IntKind.wrap IntKind.u64 ((1 : Int) * (2 : Int) ^ min (Int.toNat x6) (64 : Nat))) fun x7 => ((0 : Int) ≤ x5 ∧ x5 < ↑(4 : Nat)) ∧
  ¬Addr.block (Addr.add (Addr.add (Addr.mk n3 (0 : Nat) none) (1 : Nat)) (Int.toNat x5 * (1 : Nat))) ∈ [n1] ∧ Wr (setCells w4 (Addr.mk n3 (0 : Nat) none) (0 : Nat)
  [Value.int IntKind.u8 (1 : Int), Value.int IntKind.u64 (0 : Int), Value.int IntKind.u64 (0 : Int), Value.int IntKind.u64 (0 : Int), Value.int IntKind.u64 (0 : Int),
  Value.slice none (0 : Nat) (0 : Nat)]) (Addr.add (Addr.add (Addr.mk n3 (0 : Nat) none) (1 : Nat)) (Int.toNat x5 * (1 : Nat))) (1 : Nat) ∧ Ld (setCells (setCells w4
  (Addr.mk n3 (0 : Nat) none) (0 : Nat) [Value.int IntKind.u8 (1 : Int), Value.int IntKind.u64 (0 : Int), Value.int IntKind.u64 (0 : Int), Value.int IntKind.u64 (0 :
  Int), Value.int IntKind.u64 (0 : Int), Value.slice none (0 : Nat) (0 : Nat)]) (Addr.add (Addr.add (Addr.mk n3 (0 : Nat) none) (1 : Nat)) (Int.toNat x5 * (1 : Nat))) (0
  : Nat) [Value.int IntKind.u64 x7]) (Addr.add (Addr.mk n3 (0 : Nat) none) (0 : Nat)) fun v8 => Ld (setCells (setCells w4 (Addr.mk n3 (0 : Nat) none) (0 : Nat) [Value.int
  IntKind.u8 (1 : Int), Value.int IntKind.u64 (0 : Int), Value.int IntKind.u64 (0 : Int), Value.int IntKind.u64 (0 : Int), Value.int IntKind.u64 (0 : Int), Value.slice
  none (0 : Nat) (0 : Nat)]) (Addr.add (Addr.add (Addr.mk n3 (0 : Nat) none) (1 : Nat)) (Int.toNat x5 * (1 : Nat))) (0 : Nat) [Value.int IntKind.u64 x7]) (Addr.add
  (Addr.mk n3 (0 : Nat) none) (1 : Nat)) fun v9 => Ld (setCells (setCells w4 (Addr.mk n3 (0 : Nat) none) (0 : Nat) [Value.int IntKind.u8 (1 : Int), Value.int IntKind.u64
  (0 : Int), Value.int IntKind.u64 (0 : Int), Value.int IntKind.u64 (0 : Int), Value.int IntKind.u64 (0 : Int), Value.slice none (0 : Nat) (0 : Nat)]) (Addr.add (Addr.add
  (Addr.mk n3 (0 : Nat) none) (1 : Nat)) (Int.toNat x5 * (1 : Nat))) (0 : Nat) [Value.int IntKind.u64 x7]) (Addr.add (Addr.mk n3 (0 : Nat) none) (2 : Nat)) fun v10 => Ld
  (setCells (setCells w4 (Addr.mk n3 (0 : Nat) none) (0 : Nat) [Value.int IntKind.u8 (1 : Int), Value.int IntKind.u64 (0 : Int), Value.int IntKind.u64 (0 : Int),
  Value.int IntKind.u64 (0 : Int), Value.int IntKind.u64 (0 : Int), Value.slice none (0 : Nat) (0 : Nat)]) (Addr.add (Addr.add (Addr.mk n3 (0 : Nat) none) (1 : Nat))
  (Int.toNat x5 * (1 : Nat))) (0 : Nat) [Value.int IntKind.u64 x7]) (Addr.add (Addr.mk n3 (0 : Nat) none) (3 : Nat)) fun v11 => Ld (setCells (setCells w4 (Addr.mk n3 (0 :
  Nat) none) (0 : Nat) [Value.int IntKind.u8 (1 : Int), Value.int IntKind.u64 (0 : Int), Value.int IntKind.u64 (0 : Int), Value.int IntKind.u64 (0 : Int), Value.int
  IntKind.u64 (0 : Int), Value.slice none (0 : Nat) (0 : Nat)]) (Addr.add (Addr.add (Addr.mk n3 (0 : Nat) none) (1 : Nat)) (Int.toNat x5 * (1 : Nat))) (0 : Nat)
  [Value.int IntKind.u64 x7]) (Addr.add (Addr.mk n3 (0 : Nat) none) (4 : Nat)) fun v12 => Ld (setCells (setCells w4 (Addr.mk n3 (0 : Nat) none) (0 : Nat) [Value.int
  IntKind.u8 (1 : Int), Value.int IntKind.u64 (0 : Int), Value.int IntKind.u64 (0 : Int), Value.int IntKind.u64 (0 : Int), Value.int IntKind.u64 (0 : Int), Value.slice
  none (0 : Nat) (0 : Nat)]) (Addr.add (Addr.add (Addr.mk n3 (0 : Nat) none) (1 : Nat)) (Int.toNat x5 * (1 : Nat))) (0 : Nat) [Value.int IntKind.u64 x7]) (Addr.add
  (Addr.mk n3 (0 : Nat) none) (5 : Nat)) fun v13 => opI IntKind.u8 v8 fun x14 => opI IntKind.u64 v9 fun x15 => opI IntKind.u64 v10 fun x16 => opI IntKind.u64 v11 fun x17
  => opI IntKind.u64 v12 fun x18 => opL v13 fun a19 n20 n21 => Up [n1] [n1] (setCells (setCells w4 (Addr.mk n3 (0 : Nat) none) (0 : Nat) [Value.int IntKind.u8 (1 : Int),
  Value.int IntKind.u64 (0 : Int), Value.int IntKind.u64 (0 : Int), Value.int IntKind.u64 (0 : Int), Value.int IntKind.u64 (0 : Int), Value.slice none (0 : Nat) (0 :
  Nat)]) (Addr.add (Addr.add (Addr.mk n3 (0 : Nat) none) (1 : Nat)) (Int.toNat x5 * (1 : Nat))) (0 : Nat) [Value.int IntKind.u64 x7]) fun w22 => R (Value.agg #[Value.int
  IntKind.u8 x14, Value.int IntKind.u64 x15, Value.int IntKind.u64 x16, Value.int IntKind.u64 x17, Value.int IntKind.u64 x18, Value.slice a19 n20 n21]) w22
theorem f161_eq (p0 : Int) (R : Value → World → Prop) (w : World) : fnW Try.prog [2] Try.f161 [Value.int IntKind.u8 p0] R w = f161_vc p0 R w := by kernel_rfl
theorem f161_in (p0 : Int) (R : Value → World → Prop) (w : World) (h : f161_vc p0 R w) : Ct Try.prog 161 #[Value.int IntKind.u8 p0] w R := by
  refine Ct_of (rk := [2]) (fn := Try.f161) (args := [Value.int IntKind.u8 p0]) mixedT Try.func161 (by kernel_rfl) ?_
  rw [f161_eq]
  exact h
def f162_vc (p0_0 : Int) (p0_1a : Option Addr) (p0_1n : Nat) (p0_1c : Nat) (p0_2a : Option Addr) (p0_2n : Nat) (p0_2c : Nat) (p1a : Option Addr) (p1n : Nat) (p1c : Nat)
  (p2a : Option Addr) (p2n : Nat) (p2c : Nat) (R : Value → World → Prop) (w : World) : Prop := Rg w fun n1 => Up [] [n1] w fun w2 => CallW Try.prog [n1] (70 : Nat)
  #[Value.agg #[Value.int IntKind.i64 p0_0, Value.slice p0_1a p0_1n p0_1c, Value.slice p0_2a p0_2n p0_2c], Value.slice p1a p1n p1c] (fun v3 w4 => opTu v3 fun cs5 => opL
  (nthD (Array.toList cs5) (0 : Nat)) fun a6 n7 n8 => opI IntKind.i64 (nthD (Array.toList cs5) (1 : Nat)) fun x9 => SzIs (Array.size cs5) (2 : Nat) (Bd (x9 == (0 : Int))
  fun b10 => Gd b10 false (fun J11 => CallW Try.prog [n1] (73 : Nat) #[Value.slice a6 n7 n8, Value.slice p2a p2n p2c] (fun v12 w13 => opB v12 fun b14 => J11 b14 w13) w4)
  (fun b15 w16 => Bd (bif b10 then b15 else false) fun b17 => R (Value.bool b17) w16) w4)) w2
theorem f162_eq (p0_0 : Int) (p0_1a : Option Addr) (p0_1n : Nat) (p0_1c : Nat) (p0_2a : Option Addr) (p0_2n : Nat) (p0_2c : Nat) (p1a : Option Addr) (p1n : Nat) (p1c :
  Nat) (p2a : Option Addr) (p2n : Nat) (p2c : Nat) (R : Value → World → Prop) (w : World) : fnW Try.prog [3] Try.f162 [Value.agg #[Value.int IntKind.i64 p0_0, Value.slice
  p0_1a p0_1n p0_1c, Value.slice p0_2a p0_2n p0_2c], Value.slice p1a p1n p1c, Value.slice p2a p2n p2c] R w = f162_vc p0_0 p0_1a p0_1n p0_1c p0_2a p0_2n p0_2c p1a p1n p1c
  p2a p2n p2c R w := by kernel_rfl
theorem f162_in (p0_0 : Int) (p0_1a : Option Addr) (p0_1n : Nat) (p0_1c : Nat) (p0_2a : Option Addr) (p0_2n : Nat) (p0_2c : Nat) (p1a : Option Addr) (p1n : Nat) (p1c :
  Nat) (p2a : Option Addr) (p2n : Nat) (p2c : Nat) (R : Value → World → Prop) (w : World) (h : f162_vc p0_0 p0_1a p0_1n p0_1c p0_2a p0_2n p0_2c p1a p1n p1c p2a p2n p2c R
  w) : Ct Try.prog 162 #[Value.agg #[Value.int IntKind.i64 p0_0, Value.slice p0_1a p0_1n p0_1c, Value.slice p0_2a p0_2n p0_2c], Value.slice p1a p1n p1c, Value.slice p2a
  p2n p2c] w R := by
  refine Ct_of (rk := [3]) (fn := Try.f162) (args := [Value.agg #[Value.int IntKind.i64 p0_0, Value.slice p0_1a p0_1n p0_1c, Value.slice p0_2a p0_2n p0_2c], Value.slice p1a p1n p1c, Value.slice p2a p2n p2c]) mixedT Try.func162 (by kernel_rfl) ?_
  rw [f162_eq]
  exact h
end Fk
set_option linter.unusedVariables false
set_option maxRecDepth 1000000
set_option maxHeartbeats 4000000
namespace Fk
open Go Go.Proofs Go.RowKit
def f33_vc (p0a : Option Addr) (p0n : Nat) (p0c : Nat) (p1_0 : Int) (p1_1a : Option Addr) (p1_1n : Nat) (p1_1c : Nat) (R : Value → World → Prop) (w : World) : Prop := Rg
  w fun n1 => Up [] [n1] w fun w2 => CallW Try.prog [n1] (64 : Nat) #[Value.slice p0a p0n p0c] (fun v3 w4 => opL v3 fun a5 n6 n7 => CallW Try.prog [n1] (38 : Nat)
  #[Value.slice a5 n6 n7] (fun v8 w9 => opB v8 fun b10 => Bd (!b10) fun b11 => Gd (!b11) false (fun J12 => CallW Try.prog [n1] (76 : Nat) #[Value.agg #[Value.int
  IntKind.i64 p1_0, Value.slice p1_1a p1_1n p1_1c]] (fun v13 w14 => opB v13 fun b15 => J12 b15 w14) w9) (fun b16 w17 => Bd (!b16) fun b18 => Bd (bif b11 then true else
  b18) fun b19 => If b19 (CallW Try.prog [n1] (65 : Nat) #[] (fun v20 w21 => opB v20 fun b22 => R (Value.bool b22) w21) w17) (Bd ((p1_1n : Nat) : Int) fun x23 => LoopP
  (fun l24 l25 J26 w27 => opL (nthD l24 (0 : Nat)) fun a28 n29 n30 => opI IntKind.i64 (nthD l24 (1 : Nat)) fun x31 => Bd (decide (x31 < x23)) fun b32 => If b32 (Jn (fun
  l33 l34 w35 => opL (nthD l33 (0 : Nat)) fun a36 n37 n38 => Bd (IntKind.wrap IntKind.i64 (x31 + (1 : Int))) fun x39 => J26 [Value.slice a36 n37 n38, Value.int
  IntKind.i64 x39] [] w35) fun J40 => IxOk x31 p1_1n p1_1a ∧ Ld w27 (Addr.add (adAt p1_1a x31 (8 : Nat)) (0 : Nat)) fun v41 => Ld w27 (Addr.add (adAt p1_1a x31 (8 : Nat))
  (1 : Nat)) fun v42 => Ld w27 (Addr.add (adAt p1_1a x31 (8 : Nat)) (2 : Nat)) fun v43 => Ld w27 (Addr.add (adAt p1_1a x31 (8 : Nat)) (3 : Nat)) fun v44 => Ld w27
  (Addr.add (adAt p1_1a x31 (8 : Nat)) (4 : Nat)) fun v45 => Ld w27 (Addr.add (adAt p1_1a x31 (8 : Nat)) (5 : Nat)) fun v46 => Ld w27 (Addr.add (adAt p1_1a x31 (8 : Nat))
  (6 : Nat)) fun v47 => Ld w27 (Addr.add (adAt p1_1a x31 (8 : Nat)) (7 : Nat)) fun v48 => opI IntKind.u8 v41 fun x49 => opI IntKind.u64 v42 fun x50 => opI IntKind.u64 v43
  fun x51 => opI IntKind.u64 v44 fun x52 => opI IntKind.u64 v45 fun x53 => opI IntKind.i64 v46 fun x54 => opI IntKind.i64 v47 fun x55 => opI IntKind.i64 v48 fun x56 => Rg
  w27 fun n57 => Bd (x49 == (1 : Int)) fun b58 => Up [n57] [n57, n1] w27 fun w59 => Gd b58 false (fun J60 => RunW Try.prog [n57, n1] (eqS BinOp.neq (28 : Nat)
  (Operand.tmp (45 : Nat)) (Operand.tmp (46 : Nat)) (Value.agg #[Value.int IntKind.u64 x50, Value.int IntKind.u64 x51, Value.int IntKind.u64 x52, Value.int IntKind.u64
  x53]) (Value.agg #[Value.int IntKind.u64 (0 : Int), Value.int IntKind.u64 (0 : Int), Value.int IntKind.u64 (0 : Int), Value.int IntKind.u64 (0 : Int)])) (fun v61 w62 =>
  opB v61 fun b63 => J60 b63 w62) w59) (fun b64 w65 => Bd (bif b58 then b64 else false) fun b66 => If b66 (Nw (Obj.cells #[Value.int IntKind.u8 (1 : Int), Value.int
  IntKind.u64 x50, Value.int IntKind.u64 x51, Value.int IntKind.u64 x52, Value.int IntKind.u64 x53, Value.slice none (0 : Nat) (0 : Nat)] (42 : Nat)) w65 fun n67 w68 =>
  RunW Try.prog [n57, n1] (Builtin.append_ #[(22 : Nat), (22 : Nat)] (22 : Nat) #[Value.slice a28 n29 n30, Value.slice (some (Addr.mk n67 (0 : Nat) none)) (1 : Nat) (1 :
  Nat)]) (fun v69 w70 => opL v69 fun a71 n72 n73 => J40 [Value.slice a71 n72 n73] [] w70) w68) (J40 [Value.slice a28 n29 n30] [] w65)) w59) (CallW Try.prog [n1] (40 :
  Nat) #[Value.slice a28 n29 n30] (fun v74 w75 => opTu v74 fun cs76 => opBig (nthD (Array.toList cs76) (0 : Nat)) fun cs77 => Array.size cs77 = (257 : Nat) ∧ opI
  IntKind.i64 (nthD (Array.toList cs76) (1 : Nat)) fun x78 => SzIs (Array.size cs76) (2 : Nat) (Array.size cs77 = (257 : Nat) ∧ Rg w75 fun n79 => OkC (Array.toList cs77)
  (257 : Nat) (Up [n79] [n79, n1] w75 fun w80 => CallW Try.prog [n79, n1] (66 : Nat) #[Value.slice a5 n6 n7, Value.int IntKind.i64 (20000 : Int)] (fun v81 w82 => opTu v81
  fun cs83 => opAg (nthD (Array.toList cs83) (0 : Nat)) fun cs84 => opI IntKind.i64 (nthD (Array.toList cs84) (0 : Nat)) fun x85 => opL (nthD (Array.toList cs84) (1 :
  Nat)) fun a86 n87 n88 => SzIs (Array.size cs84) (2 : Nat) (opI IntKind.i64 (nthD (Array.toList cs83) (1 : Nat)) fun x89 => SzIs (Array.size cs83) (2 : Nat) (Rg w82 fun
  n90 => Up [n90] [n90, n79, n1] w82 fun w91 => CallW Try.prog [n90, n79, n1] (40 : Nat) #[Value.slice a5 n6 n7] (fun v92 w93 => opTu v92 fun cs94 => opBig (nthD
  (Array.toList cs94) (0 : Nat)) fun cs95 => Array.size cs95 = (257 : Nat) ∧ opI IntKind.i64 (nthD (Array.toList cs94) (1 : Nat)) fun x96 => SzIs (Array.size cs94) (2 :
  Nat) (Array.size cs95 = (257 : Nat) ∧ Rg w93 fun n97 => OkC (Array.toList cs95) (257 : Nat) (Bd (x78 != (0 : Int)) fun b98 => Bd (x96 != (0 : Int)) fun b99 => Bd (bif
  b98 then true else b99) fun b100 => If b100 (Up [n97] [n97, n90, n79, n1] w93 fun w101 => R (Value.bool false) w101) (Array.size cs77 = (257 : Nat) ∧ Up [n97] [n97,
  n90, n79, n1] w93 fun w102 => RunW Try.prog [n97, n90, n79, n1] (Instr.build (174 : Nat) #[((0 : Nat), Value.agg #[Value.int IntKind.i64 p1_0, Value.slice p1_1a p1_1n
  p1_1c]), ((1 : Nat), Value.agg cs77)]) (fun v103 w104 => opBig v103 fun cs105 => Array.size cs105 = (259 : Nat) ∧ Array.size cs95 = (257 : Nat) ∧ RunW Try.prog [n97,
  n90, n79, n1] (Instr.build (174 : Nat) #[((0 : Nat), Value.agg #[Value.int IntKind.i64 x85, Value.slice a86 n87 n88]), ((1 : Nat), Value.agg cs95)]) (fun v106 w107 =>
  opBig v106 fun cs108 => Array.size cs108 = (259 : Nat) ∧ SzIs (Array.size cs105) (259 : Nat) (SzIs (Array.size cs108) (259 : Nat) (Nw (Obj.cells (List.toArray (flat
  [((0 : Nat), Value.agg cs105), ((1 : Nat), Value.agg cs108)])) (174 : Nat)) w107 fun n109 w110 => Bd (((2 : Nat) : Nat) : Int) fun x111 => LoopP (fun l112 l113 J114
  w115 => opB (nthD l112 (0 : Nat)) fun b116 => opI IntKind.i64 (nthD l112 (1 : Nat)) fun x117 => Bd (decide (x117 < x111)) fun b118 => If b118 (Jn (fun l119 l120 w121 =>
  opB (nthD l119 (0 : Nat)) fun b122 => Bd (IntKind.wrap IntKind.i64 (x117 + (1 : Int))) fun x123 => J114 [Value.bool b122, Value.int IntKind.i64 x123] [] w121) fun J124
  => IxOk x117 (2 : Nat) (some (Addr.mk n109 (0 : Nat) none)) ∧ LdN w115 (adAt (some (Addr.mk n109 (0 : Nat) none)) x117 (259 : Nat)) (259 : Nat) fun l125 => Bd
  (List.toArray l125) fun cs126 => Array.size cs126 = (259 : Nat) ∧ Rg w115 fun n127 => OkC (Array.toList cs126) (259 : Nat) ((2 : Nat) ≤ Array.size cs126 ∧ Bd
  (List.toArray (List.take (2 : Nat) (List.drop (0 : Nat) (Array.toList cs126)))) fun cs128 => opI IntKind.i64 (nthD (Array.toList cs128) (0 : Nat)) fun x129 => opL (nthD
  (Array.toList cs128) (1 : Nat)) fun a130 n131 n132 => SzIs (Array.size cs128) (2 : Nat) ((259 : Nat) ≤ Array.size cs126 ∧ Bd (List.toArray (List.take (257 : Nat)
  (List.drop (2 : Nat) (Array.toList cs126)))) fun cs133 => Array.size cs133 = (257 : Nat) ∧ Up [n127] [n127, n97, n90, n79, n1] w115 fun w134 => CallW Try.prog [n127,
  n97, n90, n79, n1] (67 : Nat) #[Value.agg #[Value.int IntKind.i64 x129, Value.slice a130 n131 n132], Value.agg cs133, Value.int IntKind.i64 (200 : Int)] (fun v135 w136
  => opTu v135 fun cs137 => opAg (nthD (Array.toList cs137) (0 : Nat)) fun cs138 => opI IntKind.i64 (nthD (Array.toList cs138) (0 : Nat)) fun x139 => opL (nthD
  (Array.toList cs138) (1 : Nat)) fun a140 n141 n142 => opL (nthD (Array.toList cs138) (2 : Nat)) fun a143 n144 n145 => SzIs (Array.size cs138) (3 : Nat) (opI IntKind.i64
  (nthD (Array.toList cs137) (1 : Nat)) fun x146 => SzIs (Array.size cs137) (2 : Nat) (Rg w136 fun n147 => (2 : Nat) ≤ Array.size cs126 ∧ Bd (List.toArray (List.take (2 :
  Nat) (List.drop (0 : Nat) (Array.toList cs126)))) fun cs148 => opI IntKind.i64 (nthD (Array.toList cs148) (0 : Nat)) fun x149 => opL (nthD (Array.toList cs148) (1 :
  Nat)) fun a150 n151 n152 => SzIs (Array.size cs148) (2 : Nat) (Up [n147] [n147, n127, n97, n90, n79, n1] w136 fun w153 => CallW Try.prog [n147, n127, n97, n90, n79, n1]
  (81 : Nat) #[Value.agg #[Value.int IntKind.i64 x149, Value.slice a150 n151 n152]] (fun v154 w155 => opB v154 fun b156 => Bd (!b156) fun b157 => If b157 (Bd (x146 != (2
  : Int)) fun b158 => If b158 (R (Value.bool false) w155) (J124 [Value.bool b116] [] w155)) (Bd (x146 == (40 : Int)) fun b159 => If b159 (J124 [Value.bool b116] [] w155)
  (Bd (x146 != (0 : Int)) fun b160 => Gd (!b160) false (fun J161 => CallW Try.prog [n147, n127, n97, n90, n79, n1] (72 : Nat) #[Value.agg #[Value.int IntKind.i64 x139,
  Value.slice a140 n141 n142, Value.slice a143 n144 n145]] (fun v162 w163 => opB v162 fun b164 => J161 b164 w163) w155) (fun b165 w166 => Bd (!b165) fun b167 => Bd (bif
  b160 then true else b167) fun b168 => ((!b168) = true → isI IntKind.i64 (Array.toList cs126) (258 : Nat)) ∧ Bd (rdI (Array.toList cs126) (258 : Nat)) fun x170 => Bd
  (x139 != x170) fun b171 => Bd (bif b168 then true else b171) fun b172 => If b172 (R (Value.bool false) w166) (Bd ((n144 : Nat) : Int) fun x173 => LoopP (fun l174 l175
  J176 w177 => opB (nthD l174 (0 : Nat)) fun b178 => opI IntKind.i64 (nthD l174 (1 : Nat)) fun x179 => opI IntKind.i64 (nthD l174 (2 : Nat)) fun x180 => Bd (decide (x180
  < x173)) fun b181 => If b181 (Bd (decide (x180 > x179)) fun b182 => If b182 (R (Value.bool false) w177) (LoopP (fun l183 l184 J185 w186 => opB (nthD l183 (0 : Nat)) fun
  b187 => opI IntKind.i64 (nthD l183 (1 : Nat)) fun x188 => opI IntKind.i64 (nthD l183 (2 : Nat)) fun x189 => Bd (decide (x189 < x139)) fun b190 => If b190 (Bd
  (IntKind.wrap IntKind.i64 (x180 * x139)) fun x191 => Bd (IntKind.wrap IntKind.i64 (x191 + x189)) fun x192 => IxOk x192 n141 a140 ∧ Ld w186 (adAt a140 x192 (1 : Nat))
  fun v193 => opI IntKind.i64 v193 fun x194 => Bd (IntKind.wrap IntKind.i64 (x188 + (1 : Int))) fun x195 => Bd (decide (x194 > x195)) fun b196 => If b196 (R (Value.bool
  false) w186) (Bd (if x194 > x188 then x194 else x188) fun x197 => Bd (IntKind.wrap IntKind.i64 (x189 + (1 : Int))) fun x198 => J185 [Value.bool b187, Value.int
  IntKind.i64 x197, Value.int IntKind.i64 x198] [] w186)) (Bd (IntKind.wrap IntKind.i64 (x180 + (1 : Int))) fun x199 => J176 [Value.bool b187, Value.int IntKind.i64 x188,
  Value.int IntKind.i64 x199] [] w186)) [Value.bool b178, Value.int IntKind.i64 x179, Value.int IntKind.i64 (0 : Int)] [] w177)) (Bd ((n144 : Nat) : Int) fun x200 => Bd
  (IntKind.wrap IntKind.i64 (x200 - (1 : Int))) fun x201 => Bd (x179 != x201) fun b202 => If b202 (R (Value.bool false) w177) (J124 [Value.bool b178] [] w177)))
  [Value.bool b116, Value.int IntKind.i64 (0 : Int), Value.int IntKind.i64 (0 : Int)] [] w166)) w155))) w153)))) w134))) (CallW Try.prog [n97, n90, n79, n1] (65 : Nat)
  #[] (fun v203 w204 => opB v203 fun b205 => R (Value.bool b205) w204) w115)) [Value.bool false, Value.int IntKind.i64 (0 : Int)] [] w110))) w104) w102)))) w91))) w80)))
  w27)) [Value.slice none (0 : Nat) (0 : Nat), Value.int IntKind.i64 (0 : Int)] [] w17)) w9) w4) w2
theorem f33_eq (p0a : Option Addr) (p0n : Nat) (p0c : Nat) (p1_0 : Int) (p1_1a : Option Addr) (p1_1n : Nat) (p1_1c : Nat) (R : Value → World → Prop) (w : World) : fnW
  Try.prog [3, 7, 8, 10, 12, 15, 16] Try.f33 [Value.slice p0a p0n p0c, Value.agg #[Value.int IntKind.i64 p1_0, Value.slice p1_1a p1_1n p1_1c]] R w = f33_vc p0a p0n p0c
  p1_0 p1_1a p1_1n p1_1c R w := by kernel_rfl
theorem f33_in (p0a : Option Addr) (p0n : Nat) (p0c : Nat) (p1_0 : Int) (p1_1a : Option Addr) (p1_1n : Nat) (p1_1c : Nat) (R : Value → World → Prop) (w : World) (h :
  f33_vc p0a p0n p0c p1_0 p1_1a p1_1n p1_1c R w) : Ct Try.prog 33 #[Value.slice p0a p0n p0c, Value.agg #[Value.int IntKind.i64 p1_0, Value.slice p1_1a p1_1n p1_1c]] w R
  := by
  refine Ct_of (rk := [3, 7, 8, 10, 12, 15, 16]) (fn := Try.f33) (args := [Value.slice p0a p0n p0c, Value.agg #[Value.int IntKind.i64 p1_0, Value.slice p1_1a p1_1n p1_1c]]) mixedT Try.func33 (by kernel_rfl) ?_
  rw [f33_eq]
  exact h
end Fk
