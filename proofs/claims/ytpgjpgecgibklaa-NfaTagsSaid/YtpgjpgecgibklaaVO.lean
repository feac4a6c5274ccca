/- First machines: several texts, joined. -/
import Derived.Test.YtpgjpgecgibklaaTT
/- Conditions of functions, as the generator works them out; each one is checked by the kernel. -/
set_option linter.unusedVariables false
set_option maxRecDepth 1000000
set_option maxHeartbeats 4000000
namespace Fk
open Go Go.Proofs Go.RowKit
def f172_vc (p0 : Option Addr) (p1 : Int) (R : Value → World → Prop) (w : World) : Prop := Nw (Obj.cells #[Value.int IntKind.i64 p1] (3 : Nat)) w fun n1 w2 => LoopP (fun
  l3 l4 J5 w6 => opI IntKind.i64 (nthD l3 (0 : Nat)) fun x7 => opL (nthD l3 (1 : Nat)) fun a8 n9 n10 => Bd ((n9 : Nat) : Int) fun x11 => Bd (decide (x11 > (0 : Int))) fun
  b12 => If b12 (Bd ((n9 : Nat) : Int) fun x13 => Bd (IntKind.wrap IntKind.i64 (x13 - (1 : Int))) fun x14 => IxOk x14 n9 a8 ∧ Ld w6 (adAt a8 x14 (1 : Nat)) fun v15 => opI
  IntKind.i64 v15 fun x16 => Bd ((n9 : Nat) : Int) fun x17 => Bd (IntKind.wrap IntKind.i64 (x17 - (1 : Int))) fun x18 => RunW Try.prog [] (Instr.sliceAt (52 : Nat)
  (Value.slice a8 n9 n10) none (some (Value.int IntKind.i64 x18)) none) (fun v19 w20 => opL v19 fun a21 n22 n23 => NN p0 fun A24 => Ld w20 (Addr.add A24 (3 : Nat)) fun
  v25 => opL v25 fun a26 n27 n28 => IxOk x16 n27 a26 ∧ Ld w20 (adAt a26 x16 (1 : Nat)) fun v29 => opB v29 fun b30 => If b30 (J5 [Value.int IntKind.i64 x16, Value.slice
  a21 n22 n23] [] w20) (NN p0 fun A31 => Ld w20 (Addr.add A31 (3 : Nat)) fun v32 => opL v32 fun a33 n34 n35 => IxOk x16 n34 a33 ∧ ¬Addr.block (adAt a33 x16 (1 : Nat)) ∈
  [] ∧ Wr w20 (adAt a33 x16 (1 : Nat)) (1 : Nat) ∧ NN p0 fun A36 => Ld (setCells w20 (adAt a33 x16 (1 : Nat)) (0 : Nat) [Value.bool true]) (Addr.add (Addr.add A36 (0 :
  Nat)) (1 : Nat)) fun v37 => opL v37 fun a38 n39 n40 => IxOk x16 n39 a38 ∧ Ld (setCells w20 (adAt a33 x16 (1 : Nat)) (0 : Nat) [Value.bool true]) (Addr.add (adAt a38 x16
  (8 : Nat)) (0 : Nat)) fun v41 => Ld (setCells w20 (adAt a33 x16 (1 : Nat)) (0 : Nat) [Value.bool true]) (Addr.add (adAt a38 x16 (8 : Nat)) (1 : Nat)) fun v42 => Ld
  (setCells w20 (adAt a33 x16 (1 : Nat)) (0 : Nat) [Value.bool true]) (Addr.add (adAt a38 x16 (8 : Nat)) (2 : Nat)) fun v43 => Ld (setCells w20 (adAt a33 x16 (1 : Nat))
  (0 : Nat) [Value.bool true]) (Addr.add (adAt a38 x16 (8 : Nat)) (3 : Nat)) fun v44 => Ld (setCells w20 (adAt a33 x16 (1 : Nat)) (0 : Nat) [Value.bool true]) (Addr.add
  (adAt a38 x16 (8 : Nat)) (4 : Nat)) fun v45 => Ld (setCells w20 (adAt a33 x16 (1 : Nat)) (0 : Nat) [Value.bool true]) (Addr.add (adAt a38 x16 (8 : Nat)) (5 : Nat)) fun
  v46 => Ld (setCells w20 (adAt a33 x16 (1 : Nat)) (0 : Nat) [Value.bool true]) (Addr.add (adAt a38 x16 (8 : Nat)) (6 : Nat)) fun v47 => Ld (setCells w20 (adAt a33 x16 (1
  : Nat)) (0 : Nat) [Value.bool true]) (Addr.add (adAt a38 x16 (8 : Nat)) (7 : Nat)) fun v48 => opI IntKind.u8 v41 fun x49 => opI IntKind.u64 v42 fun x50 => opI
  IntKind.u64 v43 fun x51 => opI IntKind.u64 v44 fun x52 => opI IntKind.u64 v45 fun x53 => opI IntKind.i64 v46 fun x54 => opI IntKind.i64 v47 fun x55 => opI IntKind.i64
  v48 fun x56 => Rg (setCells w20 (adAt a33 x16 (1 : Nat)) (0 : Nat) [Value.bool true]) fun n57 => Bd (x49 == (2 : Int)) fun b58 => If b58 (Up [n57] [n57] (setCells w20
  (adAt a33 x16 (1 : Nat)) (0 : Nat) [Value.bool true]) fun w59 => Nw (Obj.cells #[Value.int IntKind.i64 x54, Value.int IntKind.i64 x55] (3 : Nat)) w59 fun n60 w61 =>
  RunW Try.prog [n57] (Builtin.append_ #[(52 : Nat), (52 : Nat)] (52 : Nat) #[Value.slice a21 n22 n23, Value.slice (some (Addr.mk n60 (0 : Nat) none)) (2 : Nat) (2 :
  Nat)]) (fun v62 w63 => opL v62 fun a64 n65 n66 => J5 [Value.int IntKind.i64 x16, Value.slice a64 n65 n66] [] w63) w61) (Up [n57] [n57] (setCells w20 (adAt a33 x16 (1 :
  Nat)) (0 : Nat) [Value.bool true]) fun w67 => J5 [Value.int IntKind.i64 x16, Value.slice a21 n22 n23] [] w67))) w6) (R (Value.tuple #[]) w6)) [Value.int IntKind.i64 p1,
  Value.slice (some (Addr.mk n1 (0 : Nat) none)) (1 : Nat) (1 : Nat)] [] w2
theorem f172_eq (p0 : Option Addr) (p1 : Int) (R : Value → World → Prop) (w : World) : fnW Try.prog [5] Try.f172 [Value.pointer p0, Value.int IntKind.i64 p1] R w =
  f172_vc p0 p1 R w := by kernel_rfl
theorem f172_in (p0 : Option Addr) (p1 : Int) (R : Value → World → Prop) (w : World) (h : f172_vc p0 p1 R w) : Ct Try.prog 172 #[Value.pointer p0, Value.int IntKind.i64
  p1] w R := by
  refine Ct_of (rk := [5]) (fn := Try.f172) (args := [Value.pointer p0, Value.int IntKind.i64 p1]) mixedT Try.func172 (by kernel_rfl) ?_
  rw [f172_eq]
  exact h
def f173_vc (p0 : Option Addr) (R : Value → World → Prop) (w : World) : Prop := Dr (World.drew w) fun J1 => NN p0 fun A2 => ∃ v3, (∀ (w4 : World), J1 w4 → Ld w4 (Addr.add
  A2 (2 : Nat)) fun v6 => v6 = v3) ∧ opL v3 fun a7 n8 n9 => NN p0 fun A10 => ∃ v11, (∀ (w12 : World), J1 w12 → Ld w12 (Addr.add A10 (3 : Nat)) fun v14 => v14 = v11) ∧ opL
  v11 fun a15 n16 n17 => RunW Try.prog [] (Builtin.copy_ #[(222 : Nat), (222 : Nat)] (3 : Nat) #[Value.slice a7 n8 n9, Value.slice a15 n16 n17]) (fun v18 w19 => opI
  IntKind.i64 v18 fun x20 => J1 w19 ∧ NN p0 fun A21 => Ld w19 (Addr.add A21 (3 : Nat)) fun v22 => opL v22 fun a23 n24 n25 => RunW Try.prog [] (Builtin.clear_ #[(222 :
  Nat)] (0 : Nat) #[Value.slice a23 n24 n25]) (fun v26 w27 => opTu v26 fun cs28 => SzIs (Array.size cs28) (0 : Nat) (NN p0 fun A29 => Ld w27 (Addr.add A29 (2 : Nat)) fun
  v30 => opL v30 fun a31 n32 n33 => Bd ((n32 : Nat) : Int) fun x34 => LoopP (fun l35 l36 J37 w38 => opI IntKind.i64 (nthD l35 (0 : Nat)) fun x39 => opI IntKind.i64 (nthD
  l35 (1 : Nat)) fun x40 => Bd (decide (x40 < x34)) fun b41 => If b41 (Jn (fun l42 l43 w44 => opI IntKind.i64 (nthD l42 (0 : Nat)) fun x45 => opI IntKind.i64 (nthD l42 (1
  : Nat)) fun x46 => opB (nthD l42 (2 : Nat)) fun b47 => Bd (IntKind.wrap IntKind.i64 (x40 + (1 : Int))) fun x48 => J37 [Value.int IntKind.i64 x45, Value.int IntKind.i64
  x48] [] w44) fun J49 => IxOk x40 n32 a31 ∧ Ld w38 (adAt a31 x40 (1 : Nat)) fun v50 => opB v50 fun b51 => NN p0 fun A52 => Ld w38 (Addr.add (Addr.add A52 (0 : Nat)) (1 :
  Nat)) fun v53 => opL v53 fun a54 n55 n56 => IxOk x40 n55 a54 ∧ Ld w38 (Addr.add (adAt a54 x40 (8 : Nat)) (0 : Nat)) fun v57 => Ld w38 (Addr.add (adAt a54 x40 (8 : Nat))
  (1 : Nat)) fun v58 => Ld w38 (Addr.add (adAt a54 x40 (8 : Nat)) (2 : Nat)) fun v59 => Ld w38 (Addr.add (adAt a54 x40 (8 : Nat)) (3 : Nat)) fun v60 => Ld w38 (Addr.add
  (adAt a54 x40 (8 : Nat)) (4 : Nat)) fun v61 => Ld w38 (Addr.add (adAt a54 x40 (8 : Nat)) (5 : Nat)) fun v62 => Ld w38 (Addr.add (adAt a54 x40 (8 : Nat)) (6 : Nat)) fun
  v63 => Ld w38 (Addr.add (adAt a54 x40 (8 : Nat)) (7 : Nat)) fun v64 => opI IntKind.u8 v57 fun x65 => opI IntKind.u64 v58 fun x66 => opI IntKind.u64 v59 fun x67 => opI
  IntKind.u64 v60 fun x68 => opI IntKind.u64 v61 fun x69 => opI IntKind.i64 v62 fun x70 => opI IntKind.i64 v63 fun x71 => opI IntKind.i64 v64 fun x72 => Rg w38 fun n73 =>
  Bd (x65 == (0 : Int)) fun b74 => Bd (bif b51 then b74 else false) fun b75 => Bd (decide (x39 < (0 : Int))) fun b76 => Bd (decide (x72 < x39)) fun b77 => Bd (bif b76
  then true else b77) fun b78 => Bd (bif b75 then b78 else false) fun b79 => If b79 (Up [n73] [n73] w38 fun w80 => J49 [Value.int IntKind.i64 x72, Value.int IntKind.i64
  x40, Value.bool b51] [] w80) (Up [n73] [n73] w38 fun w81 => J49 [Value.int IntKind.i64 x39, Value.int IntKind.i64 x40, Value.bool b51] [] w81)) (R (Value.int
  IntKind.i64 x39) w38)) [Value.int IntKind.i64 (-1 : Int), Value.int IntKind.i64 (0 : Int)] [] w27)) w19) (World.drew w)
theorem f173_eq (p0 : Option Addr) (R : Value → World → Prop) (w : World) : fnW Try.prog [6, 100001] Try.f173 [Value.pointer p0] R w = f173_vc p0 R w := by kernel_rfl
theorem f173_in (p0 : Option Addr) (R : Value → World → Prop) (w : World) (h : f173_vc p0 R w) : Ct Try.prog 173 #[Value.pointer p0] w R := by
  refine Ct_of (rk := [6, 100001]) (fn := Try.f173) (args := [Value.pointer p0]) mixedT Try.func173 (by kernel_rfl) ?_
  rw [f173_eq]
  exact h
def f69_vc (p0_0 : Int) (p0_1a : Option Addr) (p0_1n : Nat) (p0_1c : Nat) (p1 : ByteArray) (R : Value → World → Prop) (w : World) : Prop := Rg w fun n1 => Up [] [n1] w
  fun w2 => CallW Try.prog [n1] (81 : Nat) #[Value.agg #[Value.int IntKind.i64 p0_0, Value.slice p0_1a p0_1n p0_1c]] (fun v3 w4 => opB v3 fun b5 => Bd (!b5) fun b6 => If
  b6 (R (Value.tuple #[Value.slice none (0 : Nat) (0 : Nat), Value.int IntKind.i64 (2 : Int)]) w4) (Jn (fun l7 l8 w9 => opP (nthD l7 (0 : Nat)) fun a10 => CallW Try.prog
  [n1] (172 : Nat) #[Value.pointer a10, Value.int IntKind.i64 p0_0] (fun v11 w12 => opTu v11 fun cs13 => SzIs (Array.size cs13) (0 : Nat) (CallW Try.prog [n1] (173 : Nat)
  #[Value.pointer a10] (fun v14 w15 => opI IntKind.i64 v14 fun x16 => Nw (Obj.cells #[Value.int IntKind.i64 x16] (3 : Nat)) w15 fun n17 w18 => Bd (((ByteArray.size p1) :
  Nat) : Int) fun x19 => LoopP (fun l20 l21 J22 w23 => opL (nthD l20 (0 : Nat)) fun a24 n25 n26 => opI IntKind.i64 (nthD l20 (1 : Nat)) fun x27 => Bd (decide (x27 < x19))
  fun b28 => If b28 (((0 : Int) ≤ x27 ∧ x27 < ↑(ByteArray.size p1)) ∧ Bd (byteAt p1 x27) fun x29 => NN a10 fun A30 => Ld w23 (Addr.add A30 (2 : Nat)) fun v31 => opL v31
  fun a32 n33 n34 => Bd ((n33 : Nat) : Int) fun x35 => LoopP (fun l36 l37 J38 w39 => opI IntKind.i64 (nthD l36 (0 : Nat)) fun x40 => Bd (decide (x40 < x35)) fun b41 => If
  b41 (Jn (fun l42 l43 w44 => opI IntKind.i64 (nthD l42 (0 : Nat)) fun x45 => opB (nthD l42 (1 : Nat)) fun b46 => Bd (IntKind.wrap IntKind.i64 (x40 + (1 : Int))) fun x47
  => J38 [Value.int IntKind.i64 x47] [] w44) fun J48 => IxOk x40 n33 a32 ∧ Ld w39 (adAt a32 x40 (1 : Nat)) fun v49 => opB v49 fun b50 => IxOk x40 p0_1n p0_1a ∧ Ld w39
  (Addr.add (adAt p0_1a x40 (8 : Nat)) (0 : Nat)) fun v51 => Ld w39 (Addr.add (adAt p0_1a x40 (8 : Nat)) (1 : Nat)) fun v52 => Ld w39 (Addr.add (adAt p0_1a x40 (8 : Nat))
  (2 : Nat)) fun v53 => Ld w39 (Addr.add (adAt p0_1a x40 (8 : Nat)) (3 : Nat)) fun v54 => Ld w39 (Addr.add (adAt p0_1a x40 (8 : Nat)) (4 : Nat)) fun v55 => Ld w39
  (Addr.add (adAt p0_1a x40 (8 : Nat)) (5 : Nat)) fun v56 => Ld w39 (Addr.add (adAt p0_1a x40 (8 : Nat)) (6 : Nat)) fun v57 => Ld w39 (Addr.add (adAt p0_1a x40 (8 : Nat))
  (7 : Nat)) fun v58 => opI IntKind.u8 v51 fun x59 => opI IntKind.u64 v52 fun x60 => opI IntKind.u64 v53 fun x61 => opI IntKind.u64 v54 fun x62 => opI IntKind.u64 v55 fun
  x63 => opI IntKind.i64 v56 fun x64 => opI IntKind.i64 v57 fun x65 => opI IntKind.i64 v58 fun x66 => Rg w39 fun n67 => Bd (x59 == (1 : Int)) fun b68 => Bd (bif b50 then
  b68 else false) fun b69 => Bd (IntKind.wrap IntKind.u8 (Int.tdiv x29 (64 : Int))) fun x70 => (b69 = true → (0 : Int) ≤ x70 ∧ x70 < ↑(4 : Nat)) ∧ BdO (nthV [Value.int
  IntKind.u8 x59, Value.int IntKind.u64 x60, Value.int IntKind.u64 x61, Value.int IntKind.u64 x62, Value.int IntKind.u64 x63, Value.int IntKind.i64 x64, Value.int
  IntKind.i64 x65, Value.int IntKind.i64 x66] ((1 : Nat) + Int.toNat x70 * (1 : Nat))) fun v72 => opI IntKind.u64 v72 fun x73 => Bd (Int.tmod x29 (64 : Int)) fun x74 =>
  (b69 = true → (0 : Int) ≤ x74) ∧ Bd (Int.fdiv x73 ((2 : Int) ^ min (Int.toNat x74) (64 : Nat))) fun x76 => Bd (IntKind.wrap IntKind.u64 ↑(BitVec.toNat (BitVec.ofInt (64
  : Nat) x76 &&& BitVec.ofInt (64 : Nat) (1 : Int)))) fun x77 => Bd (x77 == (1 : Int)) fun b78 => Bd (bif b69 then b78 else false) fun b79 => If b79 (Up [n67] [n67, n1]
  w39 fun w80 => CallW Try.prog [n67, n1] (172 : Nat) #[Value.pointer a10, Value.int IntKind.i64 x64] (fun v81 w82 => opTu v81 fun cs83 => SzIs (Array.size cs83) (0 :
  Nat) (J48 [Value.int IntKind.i64 x40, Value.bool b50] [] w82)) w80) (Up [n67] [n67, n1] w39 fun w84 => J48 [Value.int IntKind.i64 x40, Value.bool b50] [] w84)) (CallW
  Try.prog [n1] (173 : Nat) #[Value.pointer a10] (fun v85 w86 => opI IntKind.i64 v85 fun x87 => Nw (Obj.cells #[Value.int IntKind.i64 x87] (3 : Nat)) w86 fun n88 w89 =>
  RunW Try.prog [n1] (Builtin.append_ #[(52 : Nat), (52 : Nat)] (52 : Nat) #[Value.slice a24 n25 n26, Value.slice (some (Addr.mk n88 (0 : Nat) none)) (1 : Nat) (1 :
  Nat)]) (fun v90 w91 => opL v90 fun a92 n93 n94 => Bd (IntKind.wrap IntKind.i64 (x27 + (1 : Int))) fun x95 => J22 [Value.slice a92 n93 n94, Value.int IntKind.i64 x95] []
  w91) w89) w39)) [Value.int IntKind.i64 (0 : Int)] [] w23) (R (Value.tuple #[Value.slice a24 n25 n26, Value.int IntKind.i64 (0 : Int)]) w23)) [Value.slice (some (Addr.mk
  n17 (0 : Nat) none)) (1 : Nat) (1 : Nat), Value.int IntKind.i64 (0 : Int)] [] w18) w12)) w9) fun J96 => Dr (World.drew w4) fun J97 => Bd ((p0_1n : Nat) : Int) fun x98
  => Bd ((p0_1n : Nat) : Int) fun x99 => RunW Try.prog [n1] (Instr.makeSlice (222 : Nat) (Value.int IntKind.i64 x98) (Value.int IntKind.i64 x98)) (fun v100 w101 => opL
  v100 fun a102 n103 n104 => J97 w101 ∧ RunW Try.prog [n1] (Instr.makeSlice (222 : Nat) (Value.int IntKind.i64 x99) (Value.int IntKind.i64 x99)) (fun v105 w106 => opL
  v105 fun a107 n108 n109 => J97 w106 ∧ Nw (Obj.cells #[Value.int IntKind.i64 p0_0, Value.slice p0_1a p0_1n p0_1c, Value.slice a102 n103 n104, Value.slice a107 n108 n109]
  (231 : Nat)) w106 fun n110 w111 => J97 w111 ∧ J96 [Value.pointer (some (Addr.mk n110 (0 : Nat) none))] [] w111) w101) (World.drew w4) ∧ RunW Try.prog [n1]
  (Instr.makeSlice (222 : Nat) (Value.int IntKind.i64 x99) (Value.int IntKind.i64 x99)) (fun v112 w113 => opL v112 fun a114 n115 n116 => J97 w113 ∧ RunW Try.prog [n1]
  (Instr.makeSlice (222 : Nat) (Value.int IntKind.i64 x98) (Value.int IntKind.i64 x98)) (fun v117 w118 => opL v117 fun a119 n120 n121 => J97 w118 ∧ Nw (Obj.cells
  #[Value.int IntKind.i64 p0_0, Value.slice p0_1a p0_1n p0_1c, Value.slice a119 n120 n121, Value.slice a114 n115 n116] (231 : Nat)) w118 fun n122 w123 => J97 w123 ∧ J96
  [Value.pointer (some (Addr.mk n122 (0 : Nat) none))] [] w123) w113) (World.drew w4))) w2
theorem f69_eq (p0_0 : Int) (p0_1a : Option Addr) (p0_1n : Nat) (p0_1c : Nat) (p1 : ByteArray) (R : Value → World → Prop) (w : World) : fnW Try.prog [2, 12, 100003]
  Try.f69 [Value.agg #[Value.int IntKind.i64 p0_0, Value.slice p0_1a p0_1n p0_1c], Value.string p1] R w = f69_vc p0_0 p0_1a p0_1n p0_1c p1 R w := by kernel_rfl
theorem f69_in (p0_0 : Int) (p0_1a : Option Addr) (p0_1n : Nat) (p0_1c : Nat) (p1 : ByteArray) (R : Value → World → Prop) (w : World) (h : f69_vc p0_0 p0_1a p0_1n p0_1c
  p1 R w) : Ct Try.prog 69 #[Value.agg #[Value.int IntKind.i64 p0_0, Value.slice p0_1a p0_1n p0_1c], Value.string p1] w R := by
  refine Ct_of (rk := [2, 12, 100003]) (fn := Try.f69) (args := [Value.agg #[Value.int IntKind.i64 p0_0, Value.slice p0_1a p0_1n p0_1c], Value.string p1]) mixedT Try.func69 (by kernel_rfl) ?_
  rw [f69_eq]
  exact h
def f184_vc (p0_0 : Int) (p0_1a : Option Addr) (p0_1n : Nat) (p0_1c : Nat) (p1a : Option Addr) (p1n : Nat) (p1c : Nat) (R : Value → World → Prop) (w : World) : Prop := Rg
  w fun n1 => Up [] [n1] w fun w2 => LoopP (fun l3 l4 J5 w6 => opI IntKind.i64 (nthD l3 (0 : Nat)) fun x7 => opI IntKind.i64 (nthD l3 (1 : Nat)) fun x8 => Bd ((p1n : Nat)
  : Int) fun x9 => Bd (decide (x8 < x9)) fun b10 => If b10 (Jn (fun l11 l12 w13 => opI IntKind.i64 (nthD l11 (0 : Nat)) fun x14 => Bd (IntKind.wrap IntKind.i64 (x8 + (1 :
  Int))) fun x15 => J5 [Value.int IntKind.i64 x14, Value.int IntKind.i64 x15] [] w13) fun J16 => IxOk x8 p0_1n p0_1a ∧ Ld w6 (Addr.add (adAt p0_1a x8 (8 : Nat)) (0 :
  Nat)) fun v17 => Ld w6 (Addr.add (adAt p0_1a x8 (8 : Nat)) (1 : Nat)) fun v18 => Ld w6 (Addr.add (adAt p0_1a x8 (8 : Nat)) (2 : Nat)) fun v19 => Ld w6 (Addr.add (adAt
  p0_1a x8 (8 : Nat)) (3 : Nat)) fun v20 => Ld w6 (Addr.add (adAt p0_1a x8 (8 : Nat)) (4 : Nat)) fun v21 => Ld w6 (Addr.add (adAt p0_1a x8 (8 : Nat)) (5 : Nat)) fun v22
  => Ld w6 (Addr.add (adAt p0_1a x8 (8 : Nat)) (6 : Nat)) fun v23 => Ld w6 (Addr.add (adAt p0_1a x8 (8 : Nat)) (7 : Nat)) fun v24 => opI IntKind.u8 v17 fun x25 => opI
  IntKind.u64 v18 fun x26 => opI IntKind.u64 v19 fun x27 => opI IntKind.u64 v20 fun x28 => opI IntKind.u64 v21 fun x29 => opI IntKind.i64 v22 fun x30 => opI IntKind.i64
  v23 fun x31 => opI IntKind.i64 v24 fun x32 => Rg w6 fun n33 => IxOk x8 p1n p1a ∧ Up [n33] [n33, n1] w6 fun w34 => Ld w34 (adAt p1a x8 (1 : Nat)) fun v35 => opB v35 fun
  b36 => Bd (x25 == (0 : Int)) fun b37 => Bd (bif b36 then b37 else false) fun b38 => Bd (x7 == (-1 : Int)) fun b39 => Bd (decide (x32 < x7)) fun b40 => Bd (bif b39 then
  true else b40) fun b41 => Bd (bif b38 then b41 else false) fun b42 => If b42 (J16 [Value.int IntKind.i64 x32] [] w34) (J16 [Value.int IntKind.i64 x7] [] w34)) (R
  (Value.int IntKind.i64 x7) w6)) [Value.int IntKind.i64 (-1 : Int), Value.int IntKind.i64 (0 : Int)] [] w2
theorem f184_eq (p0_0 : Int) (p0_1a : Option Addr) (p0_1n : Nat) (p0_1c : Nat) (p1a : Option Addr) (p1n : Nat) (p1c : Nat) (R : Value → World → Prop) (w : World) : fnW
  Try.prog [2, 7] Try.f184 [Value.agg #[Value.int IntKind.i64 p0_0, Value.slice p0_1a p0_1n p0_1c], Value.slice p1a p1n p1c] R w = f184_vc p0_0 p0_1a p0_1n p0_1c p1a p1n
  p1c R w := by kernel_rfl
theorem f184_in (p0_0 : Int) (p0_1a : Option Addr) (p0_1n : Nat) (p0_1c : Nat) (p1a : Option Addr) (p1n : Nat) (p1c : Nat) (R : Value → World → Prop) (w : World) (h :
  f184_vc p0_0 p0_1a p0_1n p0_1c p1a p1n p1c R w) : Ct Try.prog 184 #[Value.agg #[Value.int IntKind.i64 p0_0, Value.slice p0_1a p0_1n p0_1c], Value.slice p1a p1n p1c] w R
  := by
  refine Ct_of (rk := [2, 7]) (fn := Try.f184) (args := [Value.agg #[Value.int IntKind.i64 p0_0, Value.slice p0_1a p0_1n p0_1c], Value.slice p1a p1n p1c]) mixedT Try.func184 (by kernel_rfl) ?_
  rw [f184_eq]
  exact h
end Fk

/- Conditions of functions, as the generator works them out; each one is checked by the kernel. -/
set_option linter.unusedVariables false
set_option maxRecDepth 1000000
set_option maxHeartbeats 4000000
namespace Fk
open Go Go.Proofs Go.RowKit
def f220_vc (p0_0 : Int) (p0_1a : Option Addr) (p0_1n : Nat) (p0_1c : Nat) (p1a : Option Addr) (p1n : Nat) (p1c : Nat) (R : Value → World → Prop) (w : World) : Prop := Rg
  w fun n1 => Up [] [n1] w fun w2 => Nw (Obj.cells #[] (4 : Nat)) w2 fun n3 w4 => RunW Try.prog [n1] (Builtin.append_ #[(222 : Nat), (222 : Nat)] (222 : Nat)
  #[Value.slice (some (Addr.mk n3 (0 : Nat) none)) (0 : Nat) (0 : Nat), Value.slice p1a p1n p1c]) (fun v5 w6 => opL v5 fun a7 n8 n9 => LoopP (fun l10 l11 J12 w13 => opB
  (nthD l10 (0 : Nat)) fun b14 => If b14 (LoopP (fun l15 l16 J17 w18 => opB (nthD l15 (0 : Nat)) fun b19 => opI IntKind.i64 (nthD l15 (1 : Nat)) fun x20 => Bd ((n8 : Nat)
  : Int) fun x21 => Bd (decide (x20 < x21)) fun b22 => If b22 (Jn (fun l23 l24 w25 => opB (nthD l23 (0 : Nat)) fun b26 => Bd (IntKind.wrap IntKind.i64 (x20 + (1 : Int)))
  fun x27 => J17 [Value.bool b26, Value.int IntKind.i64 x27] [] w25) fun J28 => IxOk x20 p0_1n p0_1a ∧ Ld w18 (Addr.add (adAt p0_1a x20 (8 : Nat)) (0 : Nat)) fun v29 =>
  Ld w18 (Addr.add (adAt p0_1a x20 (8 : Nat)) (1 : Nat)) fun v30 => Ld w18 (Addr.add (adAt p0_1a x20 (8 : Nat)) (2 : Nat)) fun v31 => Ld w18 (Addr.add (adAt p0_1a x20 (8
  : Nat)) (3 : Nat)) fun v32 => Ld w18 (Addr.add (adAt p0_1a x20 (8 : Nat)) (4 : Nat)) fun v33 => Ld w18 (Addr.add (adAt p0_1a x20 (8 : Nat)) (5 : Nat)) fun v34 => Ld w18
  (Addr.add (adAt p0_1a x20 (8 : Nat)) (6 : Nat)) fun v35 => Ld w18 (Addr.add (adAt p0_1a x20 (8 : Nat)) (7 : Nat)) fun v36 => opI IntKind.u8 v29 fun x37 => opI
  IntKind.u64 v30 fun x38 => opI IntKind.u64 v31 fun x39 => opI IntKind.u64 v32 fun x40 => opI IntKind.u64 v33 fun x41 => opI IntKind.i64 v34 fun x42 => opI IntKind.i64
  v35 fun x43 => opI IntKind.i64 v36 fun x44 => Rg w18 fun n45 => IxOk x20 n8 a7 ∧ Up [n45] [n45, n1] w18 fun w46 => Ld w46 (adAt a7 x20 (1 : Nat)) fun v47 => opB v47 fun
  b48 => Bd (x37 == (2 : Int)) fun b49 => Bd (bif b48 then b49 else false) fun b50 => (b50 = true → IxOk x42 n8 a7) ∧ Gd b50 false (fun J52 => Ld w46 (adAt a7 x42 (1 :
  Nat)) fun v53 => opB v53 fun b54 => J52 b54 w46) (fun b55 w56 => Bd (!b55) fun b57 => ((b50 && !b57) = true → IxOk x43 n8 a7) ∧ Gd (b50 && !b57) false (fun J59 => Ld
  w56 (adAt a7 x43 (1 : Nat)) fun v60 => opB v60 fun b61 => J59 b61 w56) (fun b62 w63 => Bd (!b62) fun b64 => Bd (bif b57 then true else b64) fun b65 => Bd (bif b50 then
  b65 else false) fun b66 => If b66 (IxOk x42 n8 a7 ∧ ¬Addr.block (adAt a7 x42 (1 : Nat)) ∈ [n45, n1] ∧ Wr w63 (adAt a7 x42 (1 : Nat)) (1 : Nat) ∧ IxOk x43 n8 a7 ∧
  ¬Addr.block (adAt a7 x43 (1 : Nat)) ∈ [n45, n1] ∧ Wr (setCells w63 (adAt a7 x42 (1 : Nat)) (0 : Nat) [Value.bool true]) (adAt a7 x43 (1 : Nat)) (1 : Nat) ∧ J28
  [Value.bool true] [] (setCells (setCells w63 (adAt a7 x42 (1 : Nat)) (0 : Nat) [Value.bool true]) (adAt a7 x43 (1 : Nat)) (0 : Nat) [Value.bool true])) (J28 [Value.bool
  b19] [] w63)) w56) w46) (J12 [Value.bool b19] [] w18)) [Value.bool false, Value.int IntKind.i64 (0 : Int)] [] w13) (R (Value.slice a7 n8 n9) w13)) [Value.bool true] []
  w6) w4
theorem f220_eq (p0_0 : Int) (p0_1a : Option Addr) (p0_1n : Nat) (p0_1c : Nat) (p1a : Option Addr) (p1n : Nat) (p1c : Nat) (R : Value → World → Prop) (w : World) : fnW
  Try.prog [2, 8] Try.f220 [Value.agg #[Value.int IntKind.i64 p0_0, Value.slice p0_1a p0_1n p0_1c], Value.slice p1a p1n p1c] R w = f220_vc p0_0 p0_1a p0_1n p0_1c p1a p1n
  p1c R w := by kernel_rfl
theorem f220_in (p0_0 : Int) (p0_1a : Option Addr) (p0_1n : Nat) (p0_1c : Nat) (p1a : Option Addr) (p1n : Nat) (p1c : Nat) (R : Value → World → Prop) (w : World) (h :
  f220_vc p0_0 p0_1a p0_1n p0_1c p1a p1n p1c R w) : Ct Try.prog 220 #[Value.agg #[Value.int IntKind.i64 p0_0, Value.slice p0_1a p0_1n p0_1c], Value.slice p1a p1n p1c] w R
  := by
  refine Ct_of (rk := [2, 8]) (fn := Try.f220) (args := [Value.agg #[Value.int IntKind.i64 p0_0, Value.slice p0_1a p0_1n p0_1c], Value.slice p1a p1n p1c]) mixedT Try.func220 (by kernel_rfl) ?_
  rw [f220_eq]
  exact h
def f183_vc (p0_0 : Int) (p0_1a : Option Addr) (p0_1n : Nat) (p0_1c : Nat) (R : Value → World → Prop) (w : World) : Prop := Rg w fun n1 => Bd ((p0_1n : Nat) : Int) fun x2
  => Up [] [n1] w fun w3 => RunW Try.prog [n1] (Instr.makeSlice (222 : Nat) (Value.int IntKind.i64 x2) (Value.int IntKind.i64 x2)) (fun v4 w5 => opL v4 fun a6 n7 n8 =>
  IxOk p0_0 n7 a6 ∧ ¬Addr.block (adAt a6 p0_0 (1 : Nat)) ∈ [n1] ∧ Wr w5 (adAt a6 p0_0 (1 : Nat)) (1 : Nat) ∧ CallW Try.prog [n1] (220 : Nat) #[Value.agg #[Value.int
  IntKind.i64 p0_0, Value.slice p0_1a p0_1n p0_1c], Value.slice a6 n7 n8] (fun v9 w10 => opL v9 fun a11 n12 n13 => R (Value.slice a11 n12 n13) w10) (setCells w5 (adAt a6
  p0_0 (1 : Nat)) (0 : Nat) [Value.bool true])) w3
theorem f183_eq (p0_0 : Int) (p0_1a : Option Addr) (p0_1n : Nat) (p0_1c : Nat) (R : Value → World → Prop) (w : World) : fnW Try.prog [1] Try.f183 [Value.agg #[Value.int
  IntKind.i64 p0_0, Value.slice p0_1a p0_1n p0_1c]] R w = f183_vc p0_0 p0_1a p0_1n p0_1c R w := by kernel_rfl
theorem f183_in (p0_0 : Int) (p0_1a : Option Addr) (p0_1n : Nat) (p0_1c : Nat) (R : Value → World → Prop) (w : World) (h : f183_vc p0_0 p0_1a p0_1n p0_1c R w) : Ct
  Try.prog 183 #[Value.agg #[Value.int IntKind.i64 p0_0, Value.slice p0_1a p0_1n p0_1c]] w R := by
  refine Ct_of (rk := [1]) (fn := Try.f183) (args := [Value.agg #[Value.int IntKind.i64 p0_0, Value.slice p0_1a p0_1n p0_1c]]) mixedT Try.func183 (by kernel_rfl) ?_
  rw [f183_eq]
  exact h
def f185_vc (p0_0 : Int) (p0_1a : Option Addr) (p0_1n : Nat) (p0_1c : Nat) (p1a : Option Addr) (p1n : Nat) (p1c : Nat) (p2 : Int) (R : Value → World → Prop) (w : World) :
  Prop := Rg w fun n1 => Bd ((p1n : Nat) : Int) fun x2 => Up [] [n1] w fun w3 => RunW Try.prog [n1] (Instr.makeSlice (222 : Nat) (Value.int IntKind.i64 x2) (Value.int
  IntKind.i64 x2)) (fun v4 w5 => opL v4 fun a6 n7 n8 => LoopP (fun l9 l10 J11 w12 => opI IntKind.i64 (nthD l9 (0 : Nat)) fun x13 => Bd ((p1n : Nat) : Int) fun x14 => Bd
  (decide (x13 < x14)) fun b15 => If b15 (Jn (fun l16 l17 w18 => Bd (IntKind.wrap IntKind.i64 (x13 + (1 : Int))) fun x19 => J11 [Value.int IntKind.i64 x19] [] w18) fun
  J20 => IxOk x13 p0_1n p0_1a ∧ Ld w12 (Addr.add (adAt p0_1a x13 (8 : Nat)) (0 : Nat)) fun v21 => Ld w12 (Addr.add (adAt p0_1a x13 (8 : Nat)) (1 : Nat)) fun v22 => Ld w12
  (Addr.add (adAt p0_1a x13 (8 : Nat)) (2 : Nat)) fun v23 => Ld w12 (Addr.add (adAt p0_1a x13 (8 : Nat)) (3 : Nat)) fun v24 => Ld w12 (Addr.add (adAt p0_1a x13 (8 : Nat))
  (4 : Nat)) fun v25 => Ld w12 (Addr.add (adAt p0_1a x13 (8 : Nat)) (5 : Nat)) fun v26 => Ld w12 (Addr.add (adAt p0_1a x13 (8 : Nat)) (6 : Nat)) fun v27 => Ld w12
  (Addr.add (adAt p0_1a x13 (8 : Nat)) (7 : Nat)) fun v28 => opI IntKind.u8 v21 fun x29 => opI IntKind.u64 v22 fun x30 => opI IntKind.u64 v23 fun x31 => opI IntKind.u64
  v24 fun x32 => opI IntKind.u64 v25 fun x33 => opI IntKind.i64 v26 fun x34 => opI IntKind.i64 v27 fun x35 => opI IntKind.i64 v28 fun x36 => Rg w12 fun n37 => IxOk x13
  p1n p1a ∧ Up [n37] [n37, n1] w12 fun w38 => Ld w38 (adAt p1a x13 (1 : Nat)) fun v39 => opB v39 fun b40 => Bd (x29 == (1 : Int)) fun b41 => Bd (bif b40 then b41 else
  false) fun b42 => Bd (IntKind.wrap IntKind.i64 p2) fun x43 => Gd b42 false (fun J44 => CallW Try.prog [n37, n1] (151 : Nat) #[Value.agg #[Value.int IntKind.u64 x30,
  Value.int IntKind.u64 x31, Value.int IntKind.u64 x32, Value.int IntKind.u64 x33], Value.int IntKind.i64 x43] (fun v45 w46 => opB v45 fun b47 => J44 b47 w46) w38) (fun
  b48 w49 => Bd (bif b42 then b48 else false) fun b50 => If b50 (IxOk x34 n7 a6 ∧ ¬Addr.block (adAt a6 x34 (1 : Nat)) ∈ [n37, n1] ∧ Wr w49 (adAt a6 x34 (1 : Nat)) (1 :
  Nat) ∧ J20 [] [] (setCells w49 (adAt a6 x34 (1 : Nat)) (0 : Nat) [Value.bool true])) (J20 [] [] w49)) w38) (CallW Try.prog [n1] (220 : Nat) #[Value.agg #[Value.int
  IntKind.i64 p0_0, Value.slice p0_1a p0_1n p0_1c], Value.slice a6 n7 n8] (fun v51 w52 => opL v51 fun a53 n54 n55 => R (Value.slice a53 n54 n55) w52) w12)) [Value.int
  IntKind.i64 (0 : Int)] [] w5) w3
theorem f185_eq (p0_0 : Int) (p0_1a : Option Addr) (p0_1n : Nat) (p0_1c : Nat) (p1a : Option Addr) (p1n : Nat) (p1c : Nat) (p2 : Int) (R : Value → World → Prop) (w :
  World) : fnW Try.prog [3, 9] Try.f185 [Value.agg #[Value.int IntKind.i64 p0_0, Value.slice p0_1a p0_1n p0_1c], Value.slice p1a p1n p1c, Value.int IntKind.u8 p2] R w =
  f185_vc p0_0 p0_1a p0_1n p0_1c p1a p1n p1c p2 R w := by kernel_rfl
theorem f185_in (p0_0 : Int) (p0_1a : Option Addr) (p0_1n : Nat) (p0_1c : Nat) (p1a : Option Addr) (p1n : Nat) (p1c : Nat) (p2 : Int) (R : Value → World → Prop) (w :
  World) (h : f185_vc p0_0 p0_1a p0_1n p0_1c p1a p1n p1c p2 R w) : Ct Try.prog 185 #[Value.agg #[Value.int IntKind.i64 p0_0, Value.slice p0_1a p0_1n p0_1c], Value.slice
  p1a p1n p1c, Value.int IntKind.u8 p2] w R := by
  refine Ct_of (rk := [3, 9]) (fn := Try.f185) (args := [Value.agg #[Value.int IntKind.i64 p0_0, Value.slice p0_1a p0_1n p0_1c], Value.slice p1a p1n p1c, Value.int IntKind.u8 p2]) mixedT Try.func185 (by kernel_rfl) ?_
  rw [f185_eq]
  exact h
def f80_vc (p0_0 : Int) (p0_1a : Option Addr) (p0_1n : Nat) (p0_1c : Nat) (p1 : ByteArray) (R : Value → World → Prop) (w : World) : Prop := Rg w fun n1 => Up [] [n1] w
  fun w2 => CallW Try.prog [n1] (82 : Nat) #[Value.agg #[Value.int IntKind.i64 p0_0, Value.slice p0_1a p0_1n p0_1c]] (fun v3 w4 => opB v3 fun b5 => Bd (!b5) fun b6 => If
  b6 (R (Value.tuple #[Value.slice none (0 : Nat) (0 : Nat), Value.int IntKind.i64 (2 : Int)]) w4) (CallW Try.prog [n1] (183 : Nat) #[Value.agg #[Value.int IntKind.i64
  p0_0, Value.slice p0_1a p0_1n p0_1c]] (fun v7 w8 => opL v7 fun a9 n10 n11 => CallW Try.prog [n1] (184 : Nat) #[Value.agg #[Value.int IntKind.i64 p0_0, Value.slice p0_1a
  p0_1n p0_1c], Value.slice a9 n10 n11] (fun v12 w13 => opI IntKind.i64 v12 fun x14 => Nw (Obj.cells #[Value.int IntKind.i64 x14] (3 : Nat)) w13 fun n15 w16 => LoopP (fun
  l17 l18 J19 w20 => opL (nthD l17 (0 : Nat)) fun a21 n22 n23 => opL (nthD l17 (1 : Nat)) fun a24 n25 n26 => opI IntKind.i64 (nthD l17 (2 : Nat)) fun x27 => Bd
  (((ByteArray.size p1) : Nat) : Int) fun x28 => Bd (decide (x27 < x28)) fun b29 => If b29 (Dr (World.drew w20) fun J30 => ((0 : Int) ≤ x27 ∧ x27 < ↑(ByteArray.size p1))
  ∧ Bd (byteAt p1 x27) fun x31 => CallW Try.prog [n1] (185 : Nat) #[Value.agg #[Value.int IntKind.i64 p0_0, Value.slice p0_1a p0_1n p0_1c], Value.slice a21 n22 n23,
  Value.int IntKind.u8 x31] (fun v32 w33 => opL v32 fun a34 n35 n36 => J30 w33 ∧ CallW Try.prog [n1] (184 : Nat) #[Value.agg #[Value.int IntKind.i64 p0_0, Value.slice
  p0_1a p0_1n p0_1c], Value.slice a34 n35 n36] (fun v37 w38 => opI IntKind.i64 v37 fun x39 => Nw (Obj.cells #[Value.int IntKind.i64 x39] (3 : Nat)) w38 fun n40 w41 =>
  RunW Try.prog [n1] (Builtin.append_ #[(52 : Nat), (52 : Nat)] (52 : Nat) #[Value.slice a24 n25 n26, Value.slice (some (Addr.mk n40 (0 : Nat) none)) (1 : Nat) (1 :
  Nat)]) (fun v42 w43 => opL v42 fun a44 n45 n46 => Bd (IntKind.wrap IntKind.i64 (x27 + (1 : Int))) fun x47 => J19 [Value.slice a34 n35 n36, Value.slice a44 n45 n46,
  Value.int IntKind.i64 x47] [] w43) w41) w33) (World.drew w20)) (R (Value.tuple #[Value.slice a24 n25 n26, Value.int IntKind.i64 (0 : Int)]) w20)) [Value.slice a9 n10
  n11, Value.slice (some (Addr.mk n15 (0 : Nat) none)) (1 : Nat) (1 : Nat), Value.int IntKind.i64 (0 : Int)] [] w16) w8) w4)) w2
theorem f80_eq (p0_0 : Int) (p0_1a : Option Addr) (p0_1n : Nat) (p0_1c : Nat) (p1 : ByteArray) (R : Value → World → Prop) (w : World) : fnW Try.prog [2, 100008] Try.f80
  [Value.agg #[Value.int IntKind.i64 p0_0, Value.slice p0_1a p0_1n p0_1c], Value.string p1] R w = f80_vc p0_0 p0_1a p0_1n p0_1c p1 R w := by kernel_rfl
theorem f80_in (p0_0 : Int) (p0_1a : Option Addr) (p0_1n : Nat) (p0_1c : Nat) (p1 : ByteArray) (R : Value → World → Prop) (w : World) (h : f80_vc p0_0 p0_1a p0_1n p0_1c
  p1 R w) : Ct Try.prog 80 #[Value.agg #[Value.int IntKind.i64 p0_0, Value.slice p0_1a p0_1n p0_1c], Value.string p1] w R := by
  refine Ct_of (rk := [2, 100008]) (fn := Try.f80) (args := [Value.agg #[Value.int IntKind.i64 p0_0, Value.slice p0_1a p0_1n p0_1c], Value.string p1]) mixedT Try.func80 (by kernel_rfl) ?_
  rw [f80_eq]
  exact h
end Fk

/- Conditions of functions, as the generator works them out; each one is checked by the kernel. -/
set_option linter.unusedVariables false
set_option maxRecDepth 1000000
set_option maxHeartbeats 4000000
namespace Fk
open Go Go.Proofs Go.RowKit
def f77_vc (R : Value → World → Prop) (w : World) : Prop := CallW Try.prog [] (179 : Nat) #[Value.int IntKind.u8 (97 : Int)] (fun v1 w2 => opAg v1 fun cs3 => opI
  IntKind.u8 (nthD (Array.toList cs3) (0 : Nat)) fun x4 => opI IntKind.u64 (nthD (Array.toList cs3) (1 : Nat)) fun x5 => opI IntKind.u64 (nthD (Array.toList cs3) (2 :
  Nat)) fun x6 => opI IntKind.u64 (nthD (Array.toList cs3) (3 : Nat)) fun x7 => opI IntKind.u64 (nthD (Array.toList cs3) (4 : Nat)) fun x8 => opL (nthD (Array.toList cs3)
  (5 : Nat)) fun a9 n10 n11 => SzIs (Array.size cs3) (6 : Nat) (CallW Try.prog [] (179 : Nat) #[Value.int IntKind.u8 (98 : Int)] (fun v12 w13 => opAg v12 fun cs14 => opI
  IntKind.u8 (nthD (Array.toList cs14) (0 : Nat)) fun x15 => opI IntKind.u64 (nthD (Array.toList cs14) (1 : Nat)) fun x16 => opI IntKind.u64 (nthD (Array.toList cs14) (2
  : Nat)) fun x17 => opI IntKind.u64 (nthD (Array.toList cs14) (3 : Nat)) fun x18 => opI IntKind.u64 (nthD (Array.toList cs14) (4 : Nat)) fun x19 => opL (nthD
  (Array.toList cs14) (5 : Nat)) fun a20 n21 n22 => SzIs (Array.size cs14) (6 : Nat) (Rg w13 fun n23 => Rg w13 fun n24 => Up [n24, n23] [n24, n23] w13 fun w25 => Nw
  (Obj.cells #[Value.int IntKind.u8 x4, Value.int IntKind.u64 x5, Value.int IntKind.u64 x6, Value.int IntKind.u64 x7, Value.int IntKind.u64 x8, Value.slice a9 n10 n11]
  (42 : Nat)) w25 fun n26 w27 => Nw (Obj.cells #[Value.int IntKind.u8 x15, Value.int IntKind.u64 x16, Value.int IntKind.u64 x17, Value.int IntKind.u64 x18, Value.int
  IntKind.u64 x19, Value.slice a20 n21 n22, Value.int IntKind.u8 (4 : Int), Value.int IntKind.u64 (0 : Int), Value.int IntKind.u64 (0 : Int), Value.int IntKind.u64 (0 :
  Int), Value.int IntKind.u64 (0 : Int), Value.slice (some (Addr.mk n26 (0 : Nat) none)) (1 : Nat) (1 : Nat)] (42 : Nat)) w27 fun n28 w29 => CallW Try.prog [n24, n23] (66
  : Nat) #[Value.slice (some (Addr.mk n28 (0 : Nat) none)) (2 : Nat) (2 : Nat), Value.int IntKind.i64 (6 : Int)] (fun v30 w31 => opTu v30 fun cs32 => opAg (nthD
  (Array.toList cs32) (0 : Nat)) fun cs33 => opI IntKind.i64 (nthD (Array.toList cs33) (0 : Nat)) fun x34 => opL (nthD (Array.toList cs33) (1 : Nat)) fun a35 n36 n37 =>
  SzIs (Array.size cs33) (2 : Nat) (opI IntKind.i64 (nthD (Array.toList cs32) (1 : Nat)) fun x38 => SzIs (Array.size cs32) (2 : Nat) (Rg w31 fun n39 => Up [n39] [n39,
  n24, n23] w31 fun w40 => Nw (Obj.cells #[Value.int IntKind.u8 x4, Value.int IntKind.u64 x5, Value.int IntKind.u64 x6, Value.int IntKind.u64 x7, Value.int IntKind.u64
  x8, Value.slice a9 n10 n11] (42 : Nat)) w40 fun n41 w42 => Nw (Obj.cells #[Value.int IntKind.u8 x15, Value.int IntKind.u64 x16, Value.int IntKind.u64 x17, Value.int
  IntKind.u64 x18, Value.int IntKind.u64 x19, Value.slice a20 n21 n22, Value.int IntKind.u8 (4 : Int), Value.int IntKind.u64 (0 : Int), Value.int IntKind.u64 (0 : Int),
  Value.int IntKind.u64 (0 : Int), Value.int IntKind.u64 (0 : Int), Value.slice (some (Addr.mk n41 (0 : Nat) none)) (1 : Nat) (1 : Nat)] (42 : Nat)) w42 fun n43 w44 =>
  CallW Try.prog [n39, n24, n23] (66 : Nat) #[Value.slice (some (Addr.mk n43 (0 : Nat) none)) (2 : Nat) (2 : Nat), Value.int IntKind.i64 (5 : Int)] (fun v45 w46 => opTu
  v45 fun cs47 => opAg (nthD (Array.toList cs47) (0 : Nat)) fun cs48 => opI IntKind.i64 (nthD (Array.toList cs48) (0 : Nat)) fun x49 => opL (nthD (Array.toList cs48) (1 :
  Nat)) fun a50 n51 n52 => SzIs (Array.size cs48) (2 : Nat) (opI IntKind.i64 (nthD (Array.toList cs47) (1 : Nat)) fun x53 => SzIs (Array.size cs47) (2 : Nat) (Rg w46 fun
  n54 => Up [n54] [n54, n39, n24, n23] w46 fun w55 => Nw (Obj.cells (List.toArray (flat [((0 : Nat), Value.agg #[Value.int IntKind.u8 (0 : Int), Value.int IntKind.u64 (0
  : Int), Value.int IntKind.u64 (0 : Int), Value.int IntKind.u64 (0 : Int), Value.int IntKind.u64 (0 : Int), Value.int IntKind.i64 (0 : Int), Value.int IntKind.i64 (0 :
  Int), Value.int IntKind.i64 (0 : Int)]), ((1 : Nat), Value.agg #[Value.int IntKind.u8 (1 : Int), Value.int IntKind.u64 x16, Value.int IntKind.u64 x17, Value.int
  IntKind.u64 x18, Value.int IntKind.u64 x19, Value.int IntKind.i64 (0 : Int), Value.int IntKind.i64 (0 : Int), Value.int IntKind.i64 (0 : Int)]), ((2 : Nat), Value.agg
  #[Value.int IntKind.u8 (0 : Int), Value.int IntKind.u64 (0 : Int), Value.int IntKind.u64 (0 : Int), Value.int IntKind.u64 (0 : Int), Value.int IntKind.u64 (0 : Int),
  Value.int IntKind.i64 (0 : Int), Value.int IntKind.i64 (0 : Int), Value.int IntKind.i64 (1 : Int)]), ((3 : Nat), Value.agg #[Value.int IntKind.u8 (2 : Int), Value.int
  IntKind.u64 (0 : Int), Value.int IntKind.u64 (0 : Int), Value.int IntKind.u64 (0 : Int), Value.int IntKind.u64 (0 : Int), Value.int IntKind.i64 (4 : Int), Value.int
  IntKind.i64 (2 : Int), Value.int IntKind.i64 (0 : Int)]), ((4 : Nat), Value.agg #[Value.int IntKind.u8 (1 : Int), Value.int IntKind.u64 x5, Value.int IntKind.u64 x6,
  Value.int IntKind.u64 x7, Value.int IntKind.u64 x8, Value.int IntKind.i64 (3 : Int), Value.int IntKind.i64 (0 : Int), Value.int IntKind.i64 (0 : Int)]), ((5 : Nat),
  Value.agg #[Value.int IntKind.u8 (2 : Int), Value.int IntKind.u64 (0 : Int), Value.int IntKind.u64 (0 : Int), Value.int IntKind.u64 (0 : Int), Value.int IntKind.u64 (0
  : Int), Value.int IntKind.i64 (1 : Int), Value.int IntKind.i64 (3 : Int), Value.int IntKind.i64 (0 : Int)])])) (103 : Nat)) w55 fun n56 w57 => Rg w57 fun n58 => Bd (x38
  == (0 : Int)) fun b59 => Bd (x53 == (40 : Int)) fun b60 => Bd (bif b59 then b60 else false) fun b61 => Up [n58] [n58, n54, n39, n24, n23] w57 fun w62 => Gd b61 false
  (fun J63 => CallW Try.prog [n58, n54, n39, n24, n23] (79 : Nat) #[Value.agg #[Value.int IntKind.i64 x34, Value.slice a35 n36 n37], Value.agg #[Value.int IntKind.i64 (5
  : Int), Value.slice (some (Addr.mk n56 (0 : Nat) none)) (6 : Nat) (6 : Nat)]] (fun v64 w65 => opB v64 fun b66 => J63 b66 w65) w62) (fun b67 w68 => Bd (bif b61 then b67
  else false) fun b69 => Gd b69 (none, (0 : Nat), (0 : Nat)) (fun J70 => Nw (Obj.cells #[Value.int IntKind.i64 (1 : Int), Value.int IntKind.i64 (0 : Int)] (3 : Nat)) w68
  fun n71 w72 => J70 (some (Addr.mk n71 (0 : Nat) none), (2 : Nat), (2 : Nat)) w72) (fun u73 w74 => Gd b69 false (fun J75 => CallW Try.prog [n58, n54, n39, n24, n23] (180
  : Nat) #[Value.agg #[Value.int IntKind.i64 x34, Value.slice a35 n36 n37], Value.string (ByteArray.mk #[(98 : UInt8)]), Value.slice (Prod.fst u73) (Prod.fst (Prod.snd
  u73)) (Prod.snd (Prod.snd u73))] (fun v76 w77 => opB v76 fun b78 => J75 b78 w77) w74) (fun b79 w80 => Bd (bif b69 then b79 else false) fun b81 => Gd b81 (none, (0 :
  Nat), (0 : Nat)) (fun J82 => Nw (Obj.cells #[Value.int IntKind.i64 (1 : Int), Value.int IntKind.i64 (1 : Int), Value.int IntKind.i64 (1 : Int), Value.int IntKind.i64
  (-1 : Int)] (3 : Nat)) w80 fun n83 w84 => J82 (some (Addr.mk n83 (0 : Nat) none), (4 : Nat), (4 : Nat)) w84) (fun u85 w86 => Gd b81 false (fun J87 => CallW Try.prog
  [n58, n54, n39, n24, n23] (180 : Nat) #[Value.agg #[Value.int IntKind.i64 x34, Value.slice a35 n36 n37], Value.string (ByteArray.mk #[(97 : UInt8), (97 : UInt8), (98 :
  UInt8)]), Value.slice (Prod.fst u85) (Prod.fst (Prod.snd u85)) (Prod.snd (Prod.snd u85))] (fun v88 w89 => opB v88 fun b90 => J87 b90 w89) w86) (fun b91 w92 => Bd (bif
  b81 then b91 else false) fun b93 => Gd b93 (none, (0 : Nat), (0 : Nat)) (fun J94 => Nw (Obj.cells #[Value.int IntKind.i64 (1 : Int)] (3 : Nat)) w92 fun n95 w96 => J94
  (some (Addr.mk n95 (0 : Nat) none), (1 : Nat), (1 : Nat)) w96) (fun u97 w98 => Gd b93 false (fun J99 => CallW Try.prog [n58, n54, n39, n24, n23] (180 : Nat) #[Value.agg
  #[Value.int IntKind.i64 x34, Value.slice a35 n36 n37], Value.string (ByteArray.mk #[]), Value.slice (Prod.fst u97) (Prod.fst (Prod.snd u97)) (Prod.snd (Prod.snd u97))]
  (fun v100 w101 => opB v100 fun b102 => J99 b102 w101) w98) (fun b103 w104 => Bd (bif b93 then b103 else false) fun b105 => R (Value.bool b105) w104) w98) w92) w86) w80)
  w74) w68) w62))) w44))) w29)) w2)) w
theorem f77_eq (R : Value → World → Prop) (w : World) : fnW Try.prog [1, 2, 3, 5, 7] Try.f77 [] R w = f77_vc R w := by kernel_rfl
theorem f77_in (R : Value → World → Prop) (w : World) (h : f77_vc R w) : Ct Try.prog 77 #[] w R := by
  refine Ct_of (rk := [1, 2, 3, 5, 7]) (fn := Try.f77) (args := []) mixedT Try.func77 (by kernel_rfl) ?_
  rw [f77_eq]
  exact h
def f179_vc (p0 : Int) (R : Value → World → Prop) (w : World) : Prop := Rg w fun n1 => Up [] [n1] w fun w2 => Nw (Obj.cells #[Value.int IntKind.u8 (0 : Int), Value.int
  IntKind.u64 (0 : Int), Value.int IntKind.u64 (0 : Int), Value.int IntKind.u64 (0 : Int), Value.int IntKind.u64 (0 : Int), Value.slice none (0 : Nat) (0 : Nat)] (42 :
  Nat)) w2 fun n3 w4 => ¬n3 ∈ [n1] ∧ Wr w4 (Addr.mk n3 (0 : Nat) none) (6 : Nat) ∧ Bd (IntKind.wrap IntKind.u8 (Int.tdiv p0 (64 : Int))) fun x5 => Bd (Int.tmod p0 (64 :
  Int)) fun x6 => (0 : Int) ≤ x6 ∧ Bd (IntKind.wrap IntKind.u64 ((1 : Int) * (2 : Int) ^ min (Int.toNat x6) (64 : Nat))) fun x7 => ((0 : Int) ≤ x5 ∧ x5 < ↑(4 : Nat)) ∧
  ¬Addr.block (Addr.add (Addr.add (Addr.mk n3 (0 : Nat) none) (1 : Nat)) (Int.toNat x5 * (1 : Nat))) ∈ [n1] ∧ Wr (setCells w4 (Addr.mk n3 (0 : Nat) none) (0 : Nat)
  [Value.int IntKind.u8 (1 : Int), Value.int IntKind.u64 (0 : Int), Value.int IntKind.u64 (0 : Int), Value.int IntKind.u64 (0 : Int), Value.int IntKind.u64 (0 : Int),
  Value.slice none (0 : Nat) (0 : Nat)]) (Addr.add (Addr.add (Addr.mk n3 (0 : Nat) none) (1 : Nat)) (Int.toNat x5 * (1 : Nat))) (1 : Nat) ∧ Ld (setCells (setCells w4
  (Addr.mk n3 (0 : Nat) none) (0 : Nat) [Value.int IntKind.u8 (1 : Int), Value.int IntKind.u64 (0 : Int), Value.int IntKind.u64 (0 : Int), Value.int IntKind.u64 (0 :
  Int), Value.int IntKind.u64 (0 : Int), Value.slice none (0 : Nat) (0 : Nat)]) (Addr.add (Addr.add (Addr.mk n3 (0 : Nat) none) (1 : Nat)) (Int.toNat x5 * (1 : Nat))) (0
  : Nat) [Value.int IntKind.u64 x7]) (Addr.add (Addr.mk n3 (0 : Nat) none) (0 : Nat)) fun v8 => Ld (setCells (setCells w4 (Addr.mk n3 (0 : Nat) none) (0 : Nat) [Value.int
  IntKind.u8 (1 : Int), Value.int IntKind.u64 (0 : Int), Value.int IntKind.u64 (0 : Int), Value.int IntKind.u64 (0 : Int), Value.int IntKind.u64 (0 : Int), Value.slice
  none (0 : Nat) (0 : Nat)]) (Addr.add (Addr.add (Addr.mk n3 (0 : Nat) none) (1 : Nat)) (Int.toNat x5 * (1 : Nat))) (0 : Nat) [Value.int IntKind.u64 x7]) (Addr.add
  (Addr.mk n3 (0 : Nat) none) (1 : Nat)) fun v9 => Ld (setCells (setCells w4 (Addr.mk n3 (0 : Nat) none) (0 : Nat) [Value.int IntKind.u8 (1 : Int), Value.int IntKind.u64
  (0 : Int), Value.int IntKind.u64 (0 : Int), Value.int IntKind.u64 (0 : Int), Value.int IntKind.u64 (0 : Int), Value.slice none (0 : Nat) (0 : Nat)]) (Addr.add (Addr.add
  (Addr.mk n3 (0 : Nat) none) (1 : Nat)) (Int.toNat x5 * (1 : Nat))) (0 : Nat) [Value.int IntKind.u64 x7]) (Addr.add (Addr.mk n3 (0 : Nat) none) (2 : Nat)) fun v10 => Ld
  (setCells (setCells w4 (Addr.mk n3 (0 : Nat) none) (0 : Nat) [Value.int IntKind.u8 (1 : Int), Value.int IntKind.u64 (0 : Int), Value.int IntKind.u64 (0 : Int),
  Value.int IntKind.u64 (0 : Int), Value.int IntKind.u64 (0 : Int), Value.slice none (0 : Nat) (0 : Nat)]) (Addr.add (Addr.add (Addr.mk n3 (0 : Nat) none) (1 : Nat))
  (Int.toNat x5 * (1 : Nat))) (0 : Nat) [Value.int IntKind.u64 x7]) (Addr.add (Addr.mk n3 (0 : Nat) none) (3 : Nat)) fun v11 => Ld (setCells (setCells w4 (Addr.mk n3 (0 :
  Nat) none) (0 : Nat) [Value.int IntKind.u8 (1 : Int), Value.int IntKind.u64 (0 : Int), Value.int IntKind.u64 (0 : Int), Value.int IntKind.u64 (0 : Int), Value.int
  IntKind.u64 (0 : Int), Value.slice none (0 : Nat) (0 : Nat)]) (Addr.add (Addr.add (Addr.mk n3 (0 : Nat) none) (1 : Nat)) (Int.toNat x5 * (1 : Nat))) (0 : Nat)
  [Value.int IntKind.u64 x7]) (Addr.add (Addr.mk n3 (0 : Nat) none) (4 : Nat)) fun v12 => Ld (setCells (setCells w4 (Addr.mk n3 (0 : Nat) none) (0 : Nat) [Value.int
  IntKind.u8 (1 : Int), Value.int IntKind.u64 (0 : Int), Value.int IntKind.u64 (0 : Int), Value.int IntKind.u64 (0 : Int), Value.int IntKind.u64 (0 : Int), Value.slice
  none (0 : Nat) (0 : Nat)]) (Addr.add (Addr.add (Addr.mk n3 (0 : Nat) none) (1 : Nat)) (Int.toNat x5 * (1 : Nat))) (0 : Nat) [Value.int IntKind.u64 x7]) (Addr.add
  (Addr.mk n3 (0 : Nat) none) (5 : Nat)) fun v13 => opI IntKind.u8 v8 fun x14 => opI IntKind.u64 v9 fun x15 => opI IntKind.u64 v10 fun x16 => opI IntKind.u64 v11 fun x17
  => opI IntKind.u64 v12 fun x18 => opL v13 fun a19 n20 n21 => Up [n1] [n1] (setCells (setCells w4 (Addr.mk n3 (0 : Nat) none) (0 : Nat) [Value.int IntKind.u8 (1 : Int),
  Value.int IntKind.u64 (0 : Int), Value.int IntKind.u64 (0 : Int), Value.int IntKind.u64 (0 : Int), Value.int IntKind.u64 (0 : Int), Value.slice none (0 : Nat) (0 :
  Nat)]) (Addr.add (Addr.add (Addr.mk n3 (0 : Nat) none) (1 : Nat)) (Int.toNat x5 * (1 : Nat))) (0 : Nat) [Value.int IntKind.u64 x7]) fun w22 => R (Value.agg #[Value.int
  IntKind.u8 x14, Value.int IntKind.u64 x15, Value.int IntKind.u64 x16, Value.int IntKind.u64 x17, Value.int IntKind.u64 x18, Value.slice a19 n20 n21]) w22
theorem f179_eq (p0 : Int) (R : Value → World → Prop) (w : World) : fnW Try.prog [2] Try.f179 [Value.int IntKind.u8 p0] R w = f179_vc p0 R w := by kernel_rfl
theorem f179_in (p0 : Int) (R : Value → World → Prop) (w : World) (h : f179_vc p0 R w) : Ct Try.prog 179 #[Value.int IntKind.u8 p0] w R := by
  refine Ct_of (rk := [2]) (fn := Try.f179) (args := [Value.int IntKind.u8 p0]) mixedT Try.func179 (by kernel_rfl) ?_
  rw [f179_eq]
  exact h
def f180_vc (p0_0 : Int) (p0_1a : Option Addr) (p0_1n : Nat) (p0_1c : Nat) (p1 : ByteArray) (p2a : Option Addr) (p2n : Nat) (p2c : Nat) (R : Value → World → Prop) (w :
  World) : Prop := Rg w fun n1 => Up [] [n1] w fun w2 => CallW Try.prog [n1] (69 : Nat) #[Value.agg #[Value.int IntKind.i64 p0_0, Value.slice p0_1a p0_1n p0_1c],
  Value.string p1] (fun v3 w4 => opTu v3 fun cs5 => opL (nthD (Array.toList cs5) (0 : Nat)) fun a6 n7 n8 => opI IntKind.i64 (nthD (Array.toList cs5) (1 : Nat)) fun x9 =>
  SzIs (Array.size cs5) (2 : Nat) (Bd (x9 == (0 : Int)) fun b10 => Gd b10 false (fun J11 => CallW Try.prog [n1] (73 : Nat) #[Value.slice a6 n7 n8, Value.slice p2a p2n
  p2c] (fun v12 w13 => opB v12 fun b14 => J11 b14 w13) w4) (fun b15 w16 => Bd (bif b10 then b15 else false) fun b17 => R (Value.bool b17) w16) w4)) w2
theorem f180_eq (p0_0 : Int) (p0_1a : Option Addr) (p0_1n : Nat) (p0_1c : Nat) (p1 : ByteArray) (p2a : Option Addr) (p2n : Nat) (p2c : Nat) (R : Value → World → Prop) (w
  : World) : fnW Try.prog [3] Try.f180 [Value.agg #[Value.int IntKind.i64 p0_0, Value.slice p0_1a p0_1n p0_1c], Value.string p1, Value.slice p2a p2n p2c] R w = f180_vc
  p0_0 p0_1a p0_1n p0_1c p1 p2a p2n p2c R w := by kernel_rfl
theorem f180_in (p0_0 : Int) (p0_1a : Option Addr) (p0_1n : Nat) (p0_1c : Nat) (p1 : ByteArray) (p2a : Option Addr) (p2n : Nat) (p2c : Nat) (R : Value → World → Prop) (w
  : World) (h : f180_vc p0_0 p0_1a p0_1n p0_1c p1 p2a p2n p2c R w) : Ct Try.prog 180 #[Value.agg #[Value.int IntKind.i64 p0_0, Value.slice p0_1a p0_1n p0_1c],
  Value.string p1, Value.slice p2a p2n p2c] w R := by
  refine Ct_of (rk := [3]) (fn := Try.f180) (args := [Value.agg #[Value.int IntKind.i64 p0_0, Value.slice p0_1a p0_1n p0_1c], Value.string p1, Value.slice p2a p2n p2c]) mixedT Try.func180 (by kernel_rfl) ?_
  rw [f180_eq]
  exact h
def f181_vc (p0_0 : Int) (p0_1 : Int) (p0_2 : Int) (p0_3 : Int) (p0_4 : Int) (p0_5a : Option Addr) (p0_5n : Nat) (p0_5c : Nat) (R : Value → World → Prop) (w : World) :
  Prop := Rg w fun n1 => Jn (fun l2 l3 w4 => opI IntKind.i64 (nthD l2 (0 : Nat)) fun x5 => Jn (fun l6 l7 w8 => opI IntKind.i64 (nthD l6 (0 : Nat)) fun x9 => LoopP (fun
  l10 l11 J12 w13 => opI IntKind.i64 (nthD l10 (0 : Nat)) fun x14 => opI IntKind.i64 (nthD l10 (1 : Nat)) fun x15 => opI IntKind.i64 (nthD l10 (2 : Nat)) fun x16 => Bd
  ((p0_5n : Nat) : Int) fun x17 => Bd (decide (x16 < x17)) fun b18 => If b18 (IxOk x16 p0_5n p0_5a ∧ Ld w13 (Addr.add (adAt p0_5a x16 (6 : Nat)) (0 : Nat)) fun v19 => Ld
  w13 (Addr.add (adAt p0_5a x16 (6 : Nat)) (1 : Nat)) fun v20 => Ld w13 (Addr.add (adAt p0_5a x16 (6 : Nat)) (2 : Nat)) fun v21 => Ld w13 (Addr.add (adAt p0_5a x16 (6 :
  Nat)) (3 : Nat)) fun v22 => Ld w13 (Addr.add (adAt p0_5a x16 (6 : Nat)) (4 : Nat)) fun v23 => Ld w13 (Addr.add (adAt p0_5a x16 (6 : Nat)) (5 : Nat)) fun v24 => opI
  IntKind.u8 v19 fun x25 => opI IntKind.u64 v20 fun x26 => opI IntKind.u64 v21 fun x27 => opI IntKind.u64 v22 fun x28 => opI IntKind.u64 v23 fun x29 => opL v24 fun a30
  n31 n32 => CallW Try.prog [n1] (181 : Nat) #[Value.agg #[Value.int IntKind.u8 x25, Value.int IntKind.u64 x26, Value.int IntKind.u64 x27, Value.int IntKind.u64 x28,
  Value.int IntKind.u64 x29, Value.slice a30 n31 n32]] (fun v33 w34 => opI IntKind.i64 v33 fun x35 => Bd (IntKind.wrap IntKind.i64 (x14 + x35)) fun x36 => Bd (decide (x36
  > (30000 : Int))) fun b37 => If b37 (R (Value.int IntKind.i64 x36) w34) (Bd (IntKind.wrap IntKind.i64 (x16 + (1 : Int))) fun x38 => J12 [Value.int IntKind.i64 x36,
  Value.int IntKind.i64 x15, Value.int IntKind.i64 x38] [] w34)) w13) (R (Value.int IntKind.i64 x14) w13)) [Value.int IntKind.i64 x9, Value.int IntKind.i64 (0 : Int),
  Value.int IntKind.i64 (0 : Int)] [] w8) fun J39 => Bd (p0_0 == (3 : Int)) fun b40 => If b40 (Bd ((p0_5n : Nat) : Int) fun x41 => Bd (IntKind.wrap IntKind.i64 (x41 - (1
  : Int))) fun x42 => J39 [Value.int IntKind.i64 x42] [] w4) (J39 [Value.int IntKind.i64 x5] [] w4)) fun J43 => Bd (p0_0 == (1 : Int)) fun b44 => Bd (p0_0 == (4 : Int))
  fun b45 => Bd (bif b44 then true else b45) fun b46 => If b46 (Up [] [n1] w fun w47 => J43 [Value.int IntKind.i64 (1 : Int)] [] w47) (Up [] [n1] w fun w48 => J43
  [Value.int IntKind.i64 (0 : Int)] [] w48)
theorem f181_eq (p0_0 : Int) (p0_1 : Int) (p0_2 : Int) (p0_3 : Int) (p0_4 : Int) (p0_5a : Option Addr) (p0_5n : Nat) (p0_5c : Nat) (R : Value → World → Prop) (w : World)
  : fnW Try.prog [1] Try.f181 [Value.agg #[Value.int IntKind.u8 p0_0, Value.int IntKind.u64 p0_1, Value.int IntKind.u64 p0_2, Value.int IntKind.u64 p0_3, Value.int
  IntKind.u64 p0_4, Value.slice p0_5a p0_5n p0_5c]] R w = f181_vc p0_0 p0_1 p0_2 p0_3 p0_4 p0_5a p0_5n p0_5c R w := by kernel_rfl
theorem f181_in (p0_0 : Int) (p0_1 : Int) (p0_2 : Int) (p0_3 : Int) (p0_4 : Int) (p0_5a : Option Addr) (p0_5n : Nat) (p0_5c : Nat) (R : Value → World → Prop) (w : World)
  (h : f181_vc p0_0 p0_1 p0_2 p0_3 p0_4 p0_5a p0_5n p0_5c R w) : Ct Try.prog 181 #[Value.agg #[Value.int IntKind.u8 p0_0, Value.int IntKind.u64 p0_1, Value.int
  IntKind.u64 p0_2, Value.int IntKind.u64 p0_3, Value.int IntKind.u64 p0_4, Value.slice p0_5a p0_5n p0_5c]] w R := by
  refine Ct_of (rk := [1]) (fn := Try.f181) (args := [Value.agg #[Value.int IntKind.u8 p0_0, Value.int IntKind.u64 p0_1, Value.int IntKind.u64 p0_2, Value.int IntKind.u64 p0_3, Value.int IntKind.u64 p0_4, Value.slice p0_5a p0_5n p0_5c]]) mixedT Try.func181 (by kernel_rfl) ?_
  rw [f181_eq]
  exact h
end Fk

/- Conditions of functions, as the generator works them out; each one is checked by the kernel. -/
set_option linter.unusedVariables false
set_option maxRecDepth 1000000
set_option maxHeartbeats 4000000
namespace Fk
open Go Go.Proofs Go.RowKit
def f182_vc (p0a : Option Addr) (p0n : Nat) (p0c : Nat) (p1_0 : Int) (p1_1 : Int) (p1_2 : Int) (p1_3 : Int) (p1_4 : Int) (p1_5a : Option Addr) (p1_5n : Nat) (p1_5c : Nat)
  (p2 : Int) (R : Value → World → Prop) (w : World) : Prop := Rg w fun n1 => Jn (fun l2 l3 w4 => opI IntKind.i64 (nthD l2 (0 : Nat)) fun x5 => opL (nthD l2 (1 : Nat)) fun
  a6 n7 n8 => opL (nthD l2 (2 : Nat)) fun a9 n10 n11 => opI IntKind.i64 (nthD l2 (3 : Nat)) fun x12 => opB (nthD l2 (4 : Nat)) fun b13 => opB (nthD l2 (5 : Nat)) fun b14
  => R (Value.tuple #[Value.slice a6 n7 n8, Value.int IntKind.i64 x5]) w4) fun J15 => Bd (p1_0 == (1 : Int)) fun b16 => If b16 (Up [] [n1] w fun w17 => Nw (Obj.cells
  #[Value.int IntKind.u8 (1 : Int), Value.int IntKind.u64 p1_1, Value.int IntKind.u64 p1_2, Value.int IntKind.u64 p1_3, Value.int IntKind.u64 p1_4, Value.int IntKind.i64
  p2, Value.int IntKind.i64 (0 : Int), Value.int IntKind.i64 (0 : Int)] (103 : Nat)) w17 fun n18 w19 => RunW Try.prog [n1] (Builtin.append_ #[(69 : Nat), (69 : Nat)] (69
  : Nat) #[Value.slice p0a p0n p0c, Value.slice (some (Addr.mk n18 (0 : Nat) none)) (1 : Nat) (1 : Nat)]) (fun v20 w21 => opL v20 fun a22 n23 n24 => Bd ((p0n : Nat) :
  Int) fun x25 => R (Value.tuple #[Value.slice a22 n23 n24, Value.int IntKind.i64 x25]) w21) w19) (Bd (p1_0 == (2 : Int)) fun b26 => If b26 (Bd ((p1_5n : Nat) : Int) fun
  x27 => Bd (IntKind.wrap IntKind.i64 (x27 - (1 : Int))) fun x28 => Up [] [n1] w fun w29 => LoopP (fun l30 l31 J32 w33 => opL (nthD l30 (0 : Nat)) fun a34 n35 n36 => opI
  IntKind.i64 (nthD l30 (1 : Nat)) fun x37 => opI IntKind.i64 (nthD l30 (2 : Nat)) fun x38 => Bd (decide (x38 ≥ (0 : Int))) fun b39 => If b39 (IxOk x38 p1_5n p1_5a ∧ Ld
  w33 (Addr.add (adAt p1_5a x38 (6 : Nat)) (0 : Nat)) fun v40 => Ld w33 (Addr.add (adAt p1_5a x38 (6 : Nat)) (1 : Nat)) fun v41 => Ld w33 (Addr.add (adAt p1_5a x38 (6 :
  Nat)) (2 : Nat)) fun v42 => Ld w33 (Addr.add (adAt p1_5a x38 (6 : Nat)) (3 : Nat)) fun v43 => Ld w33 (Addr.add (adAt p1_5a x38 (6 : Nat)) (4 : Nat)) fun v44 => Ld w33
  (Addr.add (adAt p1_5a x38 (6 : Nat)) (5 : Nat)) fun v45 => opI IntKind.u8 v40 fun x46 => opI IntKind.u64 v41 fun x47 => opI IntKind.u64 v42 fun x48 => opI IntKind.u64
  v43 fun x49 => opI IntKind.u64 v44 fun x50 => opL v45 fun a51 n52 n53 => CallW Try.prog [n1] (182 : Nat) #[Value.slice a34 n35 n36, Value.agg #[Value.int IntKind.u8
  x46, Value.int IntKind.u64 x47, Value.int IntKind.u64 x48, Value.int IntKind.u64 x49, Value.int IntKind.u64 x50, Value.slice a51 n52 n53], Value.int IntKind.i64 x37]
  (fun v54 w55 => opTu v54 fun cs56 => opL (nthD (Array.toList cs56) (0 : Nat)) fun a57 n58 n59 => opI IntKind.i64 (nthD (Array.toList cs56) (1 : Nat)) fun x60 => SzIs
  (Array.size cs56) (2 : Nat) (Bd (IntKind.wrap IntKind.i64 (x38 - (1 : Int))) fun x61 => J32 [Value.slice a57 n58 n59, Value.int IntKind.i64 x60, Value.int IntKind.i64
  x61] [] w55)) w33) (J15 [Value.int IntKind.i64 x37, Value.slice a34 n35 n36, Value.slice none (0 : Nat) (0 : Nat), Value.int IntKind.i64 (0 : Int), Value.bool b16,
  Value.bool b26] [] w33)) [Value.slice p0a p0n p0c, Value.int IntKind.i64 p2, Value.int IntKind.i64 x28] [] w29) (Bd (p1_0 == (3 : Int)) fun b62 => If b62 (Bd ((p1_5n :
  Nat) : Int) fun x63 => Bd (IntKind.wrap IntKind.i64 (x63 - (1 : Int))) fun x64 => Up [] [n1] w fun w65 => LoopP (fun l66 l67 J68 w69 => opL (nthD l66 (0 : Nat)) fun a70
  n71 n72 => opI IntKind.i64 (nthD l66 (1 : Nat)) fun x73 => opI IntKind.i64 (nthD l66 (2 : Nat)) fun x74 => Bd (decide (x74 ≥ (0 : Int))) fun b75 => If b75 (IxOk x74
  p1_5n p1_5a ∧ Ld w69 (Addr.add (adAt p1_5a x74 (6 : Nat)) (0 : Nat)) fun v76 => Ld w69 (Addr.add (adAt p1_5a x74 (6 : Nat)) (1 : Nat)) fun v77 => Ld w69 (Addr.add (adAt
  p1_5a x74 (6 : Nat)) (2 : Nat)) fun v78 => Ld w69 (Addr.add (adAt p1_5a x74 (6 : Nat)) (3 : Nat)) fun v79 => Ld w69 (Addr.add (adAt p1_5a x74 (6 : Nat)) (4 : Nat)) fun
  v80 => Ld w69 (Addr.add (adAt p1_5a x74 (6 : Nat)) (5 : Nat)) fun v81 => opI IntKind.u8 v76 fun x82 => opI IntKind.u64 v77 fun x83 => opI IntKind.u64 v78 fun x84 => opI
  IntKind.u64 v79 fun x85 => opI IntKind.u64 v80 fun x86 => opL v81 fun a87 n88 n89 => CallW Try.prog [n1] (182 : Nat) #[Value.slice a70 n71 n72, Value.agg #[Value.int
  IntKind.u8 x82, Value.int IntKind.u64 x83, Value.int IntKind.u64 x84, Value.int IntKind.u64 x85, Value.int IntKind.u64 x86, Value.slice a87 n88 n89], Value.int
  IntKind.i64 p2] (fun v90 w91 => opTu v90 fun cs92 => opL (nthD (Array.toList cs92) (0 : Nat)) fun a93 n94 n95 => opI IntKind.i64 (nthD (Array.toList cs92) (1 : Nat))
  fun x96 => SzIs (Array.size cs92) (2 : Nat) (Jn (fun l97 l98 w99 => opL (nthD l97 (0 : Nat)) fun a100 n101 n102 => opI IntKind.i64 (nthD l97 (1 : Nat)) fun x103 => Bd
  (IntKind.wrap IntKind.i64 (x74 - (1 : Int))) fun x104 => J68 [Value.slice a100 n101 n102, Value.int IntKind.i64 x103, Value.int IntKind.i64 x104] [] w99) fun J105 => Bd
  ((p1_5n : Nat) : Int) fun x106 => Bd (IntKind.wrap IntKind.i64 (x106 - (1 : Int))) fun x107 => Bd (decide (x74 < x107)) fun b108 => If b108 (Nw (Obj.cells #[Value.int
  IntKind.u8 (2 : Int), Value.int IntKind.u64 (0 : Int), Value.int IntKind.u64 (0 : Int), Value.int IntKind.u64 (0 : Int), Value.int IntKind.u64 (0 : Int), Value.int
  IntKind.i64 x96, Value.int IntKind.i64 x73, Value.int IntKind.i64 (0 : Int)] (103 : Nat)) w91 fun n109 w110 => RunW Try.prog [n1] (Builtin.append_ #[(69 : Nat), (69 :
  Nat)] (69 : Nat) #[Value.slice a93 n94 n95, Value.slice (some (Addr.mk n109 (0 : Nat) none)) (1 : Nat) (1 : Nat)]) (fun v111 w112 => opL v111 fun a113 n114 n115 => Bd
  ((n114 : Nat) : Int) fun x116 => Bd (IntKind.wrap IntKind.i64 (x116 - (1 : Int))) fun x117 => J105 [Value.slice a113 n114 n115, Value.int IntKind.i64 x117] [] w112)
  w110) (J105 [Value.slice a93 n94 n95, Value.int IntKind.i64 x96] [] w91))) w69) (R (Value.tuple #[Value.slice a70 n71 n72, Value.int IntKind.i64 x73]) w69))
  [Value.slice p0a p0n p0c, Value.int IntKind.i64 (0 : Int), Value.int IntKind.i64 x64] [] w65) (Bd (p1_0 == (4 : Int)) fun b118 => If b118 (Bd ((p0n : Nat) : Int) fun
  x119 => Up [] [n1] w fun w120 => Nw (Obj.cells #[Value.int IntKind.u8 (2 : Int), Value.int IntKind.u64 (0 : Int), Value.int IntKind.u64 (0 : Int), Value.int IntKind.u64
  (0 : Int), Value.int IntKind.u64 (0 : Int), Value.int IntKind.i64 (0 : Int), Value.int IntKind.i64 p2, Value.int IntKind.i64 (0 : Int)] (103 : Nat)) w120 fun n121 w122
  => RunW Try.prog [n1] (Builtin.append_ #[(69 : Nat), (69 : Nat)] (69 : Nat) #[Value.slice p0a p0n p0c, Value.slice (some (Addr.mk n121 (0 : Nat) none)) (1 : Nat) (1 :
  Nat)]) (fun v123 w124 => opL v123 fun a125 n126 n127 => IxOk (0 : Int) p1_5n p1_5a ∧ Ld w124 (Addr.add (adAt p1_5a (0 : Int) (6 : Nat)) (0 : Nat)) fun v128 => Ld w124
  (Addr.add (adAt p1_5a (0 : Int) (6 : Nat)) (1 : Nat)) fun v129 => Ld w124 (Addr.add (adAt p1_5a (0 : Int) (6 : Nat)) (2 : Nat)) fun v130 => Ld w124 (Addr.add (adAt
  p1_5a (0 : Int) (6 : Nat)) (3 : Nat)) fun v131 => Ld w124 (Addr.add (adAt p1_5a (0 : Int) (6 : Nat)) (4 : Nat)) fun v132 => Ld w124 (Addr.add (adAt p1_5a (0 : Int) (6 :
  Nat)) (5 : Nat)) fun v133 => opI IntKind.u8 v128 fun x134 => opI IntKind.u64 v129 fun x135 => opI IntKind.u64 v130 fun x136 => opI IntKind.u64 v131 fun x137 => opI
  IntKind.u64 v132 fun x138 => opL v133 fun a139 n140 n141 => CallW Try.prog [n1] (182 : Nat) #[Value.slice a125 n126 n127, Value.agg #[Value.int IntKind.u8 x134,
  Value.int IntKind.u64 x135, Value.int IntKind.u64 x136, Value.int IntKind.u64 x137, Value.int IntKind.u64 x138, Value.slice a139 n140 n141], Value.int IntKind.i64 x119]
  (fun v142 w143 => opTu v142 fun cs144 => opL (nthD (Array.toList cs144) (0 : Nat)) fun a145 n146 n147 => opI IntKind.i64 (nthD (Array.toList cs144) (1 : Nat)) fun x148
  => SzIs (Array.size cs144) (2 : Nat) (IxOk x119 n146 a145 ∧ ¬Addr.block (adAt a145 x119 (8 : Nat)) ∈ [n1] ∧ Wr w143 (Addr.add (adAt a145 x119 (8 : Nat)) (5 : Nat)) (1 :
  Nat) ∧ R (Value.tuple #[Value.slice a145 n146 n147, Value.int IntKind.i64 x119]) (setCells w143 (Addr.add (adAt a145 x119 (8 : Nat)) (5 : Nat)) (0 : Nat) [Value.int
  IntKind.i64 x148]))) w124) w122) (Up [] [n1] w fun w149 => J15 [Value.int IntKind.i64 p2, Value.slice p0a p0n p0c, Value.slice none (0 : Nat) (0 : Nat), Value.int
  IntKind.i64 (0 : Int), Value.bool b16, Value.bool b26] [] w149))))
theorem f182_eq (p0a : Option Addr) (p0n : Nat) (p0c : Nat) (p1_0 : Int) (p1_1 : Int) (p1_2 : Int) (p1_3 : Int) (p1_4 : Int) (p1_5a : Option Addr) (p1_5n : Nat) (p1_5c :
  Nat) (p2 : Int) (R : Value → World → Prop) (w : World) : fnW Try.prog [4] Try.f182 [Value.slice p0a p0n p0c, Value.agg #[Value.int IntKind.u8 p1_0, Value.int
  IntKind.u64 p1_1, Value.int IntKind.u64 p1_2, Value.int IntKind.u64 p1_3, Value.int IntKind.u64 p1_4, Value.slice p1_5a p1_5n p1_5c], Value.int IntKind.i64 p2] R w =
  f182_vc p0a p0n p0c p1_0 p1_1 p1_2 p1_3 p1_4 p1_5a p1_5n p1_5c p2 R w := by kernel_rfl
theorem f182_in (p0a : Option Addr) (p0n : Nat) (p0c : Nat) (p1_0 : Int) (p1_1 : Int) (p1_2 : Int) (p1_3 : Int) (p1_4 : Int) (p1_5a : Option Addr) (p1_5n : Nat) (p1_5c :
  Nat) (p2 : Int) (R : Value → World → Prop) (w : World) (h : f182_vc p0a p0n p0c p1_0 p1_1 p1_2 p1_3 p1_4 p1_5a p1_5n p1_5c p2 R w) : Ct Try.prog 182 #[Value.slice p0a
  p0n p0c, Value.agg #[Value.int IntKind.u8 p1_0, Value.int IntKind.u64 p1_1, Value.int IntKind.u64 p1_2, Value.int IntKind.u64 p1_3, Value.int IntKind.u64 p1_4,
  Value.slice p1_5a p1_5n p1_5c], Value.int IntKind.i64 p2] w R := by
  refine Ct_of (rk := [4]) (fn := Try.f182) (args := [Value.slice p0a p0n p0c, Value.agg #[Value.int IntKind.u8 p1_0, Value.int IntKind.u64 p1_1, Value.int IntKind.u64 p1_2, Value.int IntKind.u64 p1_3, Value.int IntKind.u64 p1_4, Value.slice p1_5a p1_5n p1_5c], Value.int IntKind.i64 p2]) mixedT Try.func182 (by kernel_rfl) ?_
  rw [f182_eq]
  exact h
def f78_vc (p0a : Option Addr) (p0n : Nat) (p0c : Nat) (p1 : Int) (R : Value → World → Prop) (w : World) : Prop := Rg w fun n1 => Bd ((p0n : Nat) : Int) fun x2 => Bd
  (decide (x2 < (1 : Int))) fun b3 => Bd ((p0n : Nat) : Int) fun x4 => Bd (decide (x4 > (200 : Int))) fun b5 => Bd (bif b3 then true else b5) fun b6 => Bd (decide (p1 <
  (1 : Int))) fun b7 => Bd (bif b6 then true else b7) fun b8 => Bd (decide (p1 > (20000 : Int))) fun b9 => Bd (bif b8 then true else b9) fun b10 => If b10 (Up [n1] [n1] w
  fun w11 => R (Value.tuple #[Value.agg #[Value.int IntKind.i64 (0 : Int), Value.slice none (0 : Nat) (0 : Nat)], Value.int IntKind.i64 (2 : Int)]) w11) (Bd ((p0n : Nat)
  : Int) fun x12 => Bd (IntKind.wrap IntKind.i64 ((2 : Int) * x12)) fun x13 => Bd (IntKind.wrap IntKind.i64 (x13 - (1 : Int))) fun x14 => Up [] [n1] w fun w15 => LoopP
  (fun l16 l17 J18 w19 => opI IntKind.i64 (nthD l16 (0 : Nat)) fun x20 => opI IntKind.i64 (nthD l16 (1 : Nat)) fun x21 => opI IntKind.i64 (nthD l16 (2 : Nat)) fun x22 =>
  opAg (nthD l17 (0 : Nat)) fun cs23 => opI IntKind.i64 (nthD (Array.toList cs23) (0 : Nat)) fun x24 => opL (nthD (Array.toList cs23) (1 : Nat)) fun a25 n26 n27 => SzIs
  (Array.size cs23) (2 : Nat) (Bd ((p0n : Nat) : Int) fun x28 => Bd (decide (x22 < x28)) fun b29 => If b29 (IxOk x22 p0n p0a ∧ Ld w19 (Addr.add (adAt p0a x22 (6 : Nat))
  (0 : Nat)) fun v30 => Ld w19 (Addr.add (adAt p0a x22 (6 : Nat)) (1 : Nat)) fun v31 => Ld w19 (Addr.add (adAt p0a x22 (6 : Nat)) (2 : Nat)) fun v32 => Ld w19 (Addr.add
  (adAt p0a x22 (6 : Nat)) (3 : Nat)) fun v33 => Ld w19 (Addr.add (adAt p0a x22 (6 : Nat)) (4 : Nat)) fun v34 => Ld w19 (Addr.add (adAt p0a x22 (6 : Nat)) (5 : Nat)) fun
  v35 => opI IntKind.u8 v30 fun x36 => opI IntKind.u64 v31 fun x37 => opI IntKind.u64 v32 fun x38 => opI IntKind.u64 v33 fun x39 => opI IntKind.u64 v34 fun x40 => opL v35
  fun a41 n42 n43 => CallW Try.prog [n1] (147 : Nat) #[Value.agg #[Value.int IntKind.u8 x36, Value.int IntKind.u64 x37, Value.int IntKind.u64 x38, Value.int IntKind.u64
  x39, Value.int IntKind.u64 x40, Value.slice a41 n42 n43]] (fun v44 w45 => opB v44 fun b46 => Bd (!b46) fun b47 => If b47 (Up [n1] [n1] w45 fun w48 => R (Value.tuple
  #[Value.agg #[Value.int IntKind.i64 (0 : Int), Value.slice none (0 : Nat) (0 : Nat)], Value.int IntKind.i64 (2 : Int)]) w48) (IxOk x22 p0n p0a ∧ Ld w45 (Addr.add (adAt
  p0a x22 (6 : Nat)) (0 : Nat)) fun v49 => Ld w45 (Addr.add (adAt p0a x22 (6 : Nat)) (1 : Nat)) fun v50 => Ld w45 (Addr.add (adAt p0a x22 (6 : Nat)) (2 : Nat)) fun v51 =>
  Ld w45 (Addr.add (adAt p0a x22 (6 : Nat)) (3 : Nat)) fun v52 => Ld w45 (Addr.add (adAt p0a x22 (6 : Nat)) (4 : Nat)) fun v53 => Ld w45 (Addr.add (adAt p0a x22 (6 :
  Nat)) (5 : Nat)) fun v54 => opI IntKind.u8 v49 fun x55 => opI IntKind.u64 v50 fun x56 => opI IntKind.u64 v51 fun x57 => opI IntKind.u64 v52 fun x58 => opI IntKind.u64
  v53 fun x59 => opL v54 fun a60 n61 n62 => CallW Try.prog [n1] (181 : Nat) #[Value.agg #[Value.int IntKind.u8 x55, Value.int IntKind.u64 x56, Value.int IntKind.u64 x57,
  Value.int IntKind.u64 x58, Value.int IntKind.u64 x59, Value.slice a60 n61 n62]] (fun v63 w64 => opI IntKind.i64 v63 fun x65 => Bd (IntKind.wrap IntKind.i64 (x21 + x65))
  fun x66 => Bd (IntKind.wrap IntKind.i64 (x22 + (1 : Int))) fun x67 => J18 [Value.int IntKind.i64 x20, Value.int IntKind.i64 x66, Value.int IntKind.i64 x67] [Value.agg
  #[Value.int IntKind.i64 x24, Value.slice a25 n26 n27]] w64) w45)) w19) (Bd (decide (x21 > p1)) fun b68 => If b68 (Up [n1] [n1] w19 fun w69 => R (Value.tuple #[Value.agg
  #[Value.int IntKind.i64 (0 : Int), Value.slice none (0 : Nat) (0 : Nat)], Value.int IntKind.i64 (40 : Int)]) w69) (LoopP (fun l70 l71 J72 w73 => opL (nthD l70 (0 :
  Nat)) fun a74 n75 n76 => opL (nthD l70 (1 : Nat)) fun a77 n78 n79 => opI IntKind.i64 (nthD l70 (2 : Nat)) fun x80 => Bd ((p0n : Nat) : Int) fun x81 => Bd (decide (x80 <
  x81)) fun b82 => If b82 (Nw (Obj.cells #[Value.int IntKind.u8 (0 : Int), Value.int IntKind.u64 (0 : Int), Value.int IntKind.u64 (0 : Int), Value.int IntKind.u64 (0 :
  Int), Value.int IntKind.u64 (0 : Int), Value.int IntKind.i64 (0 : Int), Value.int IntKind.i64 (0 : Int), Value.int IntKind.i64 x80] (103 : Nat)) w73 fun n83 w84 => RunW
  Try.prog [n1] (Builtin.append_ #[(69 : Nat), (69 : Nat)] (69 : Nat) #[Value.slice a74 n75 n76, Value.slice (some (Addr.mk n83 (0 : Nat) none)) (1 : Nat) (1 : Nat)])
  (fun v85 w86 => opL v85 fun a87 n88 n89 => IxOk x80 p0n p0a ∧ Ld w86 (Addr.add (adAt p0a x80 (6 : Nat)) (0 : Nat)) fun v90 => Ld w86 (Addr.add (adAt p0a x80 (6 : Nat))
  (1 : Nat)) fun v91 => Ld w86 (Addr.add (adAt p0a x80 (6 : Nat)) (2 : Nat)) fun v92 => Ld w86 (Addr.add (adAt p0a x80 (6 : Nat)) (3 : Nat)) fun v93 => Ld w86 (Addr.add
  (adAt p0a x80 (6 : Nat)) (4 : Nat)) fun v94 => Ld w86 (Addr.add (adAt p0a x80 (6 : Nat)) (5 : Nat)) fun v95 => opI IntKind.u8 v90 fun x96 => opI IntKind.u64 v91 fun x97
  => opI IntKind.u64 v92 fun x98 => opI IntKind.u64 v93 fun x99 => opI IntKind.u64 v94 fun x100 => opL v95 fun a101 n102 n103 => Bd ((n88 : Nat) : Int) fun x104 => Bd
  (IntKind.wrap IntKind.i64 (x104 - (1 : Int))) fun x105 => CallW Try.prog [n1] (182 : Nat) #[Value.slice a87 n88 n89, Value.agg #[Value.int IntKind.u8 x96, Value.int
  IntKind.u64 x97, Value.int IntKind.u64 x98, Value.int IntKind.u64 x99, Value.int IntKind.u64 x100, Value.slice a101 n102 n103], Value.int IntKind.i64 x105] (fun v106
  w107 => opTu v106 fun cs108 => opL (nthD (Array.toList cs108) (0 : Nat)) fun a109 n110 n111 => opI IntKind.i64 (nthD (Array.toList cs108) (1 : Nat)) fun x112 => SzIs
  (Array.size cs108) (2 : Nat) (Nw (Obj.cells #[Value.int IntKind.i64 x112] (3 : Nat)) w107 fun n113 w114 => RunW Try.prog [n1] (Builtin.append_ #[(52 : Nat), (52 : Nat)]
  (52 : Nat) #[Value.slice a77 n78 n79, Value.slice (some (Addr.mk n113 (0 : Nat) none)) (1 : Nat) (1 : Nat)]) (fun v115 w116 => opL v115 fun a117 n118 n119 => Bd
  (IntKind.wrap IntKind.i64 (x80 + (1 : Int))) fun x120 => J72 [Value.slice a109 n110 n111, Value.slice a117 n118 n119, Value.int IntKind.i64 x120] [] w116) w114)) w86)
  w84) (Bd ((p0n : Nat) : Int) fun x121 => Bd (IntKind.wrap IntKind.i64 (x121 - (1 : Int))) fun x122 => IxOk x122 n78 a77 ∧ Ld w73 (adAt a77 x122 (1 : Nat)) fun v123 =>
  opI IntKind.i64 v123 fun x124 => Bd ((p0n : Nat) : Int) fun x125 => Bd (IntKind.wrap IntKind.i64 (x125 - (2 : Int))) fun x126 => LoopP (fun l127 l128 J129 w130 => opL
  (nthD l127 (0 : Nat)) fun a131 n132 n133 => opI IntKind.i64 (nthD l127 (1 : Nat)) fun x134 => opI IntKind.i64 (nthD l127 (2 : Nat)) fun x135 => Bd (decide (x135 ≥ (0 :
  Int))) fun b136 => If b136 (IxOk x135 n78 a77 ∧ Ld w130 (adAt a77 x135 (1 : Nat)) fun v137 => opI IntKind.i64 v137 fun x138 => Nw (Obj.cells #[Value.int IntKind.u8 (2 :
  Int), Value.int IntKind.u64 (0 : Int), Value.int IntKind.u64 (0 : Int), Value.int IntKind.u64 (0 : Int), Value.int IntKind.u64 (0 : Int), Value.int IntKind.i64 x138,
  Value.int IntKind.i64 x134, Value.int IntKind.i64 (0 : Int)] (103 : Nat)) w130 fun n139 w140 => RunW Try.prog [n1] (Builtin.append_ #[(69 : Nat), (69 : Nat)] (69 : Nat)
  #[Value.slice a131 n132 n133, Value.slice (some (Addr.mk n139 (0 : Nat) none)) (1 : Nat) (1 : Nat)]) (fun v141 w142 => opL v141 fun a143 n144 n145 => Bd ((n144 : Nat) :
  Int) fun x146 => Bd (IntKind.wrap IntKind.i64 (x146 - (1 : Int))) fun x147 => Bd (IntKind.wrap IntKind.i64 (x135 - (1 : Int))) fun x148 => J129 [Value.slice a143 n144
  n145, Value.int IntKind.i64 x147, Value.int IntKind.i64 x148] [] w142) w140) (Up [n1] [n1] w130 fun w149 => R (Value.tuple #[Value.agg #[Value.int IntKind.i64 x134,
  Value.slice a131 n132 n133], Value.int IntKind.i64 (0 : Int)]) w149)) [Value.slice a74 n75 n76, Value.int IntKind.i64 x124, Value.int IntKind.i64 x126] [] w73))
  [Value.slice none (0 : Nat) (0 : Nat), Value.slice none (0 : Nat) (0 : Nat), Value.int IntKind.i64 (0 : Int)] [] w19)))) [Value.int IntKind.i64 (0 : Int), Value.int
  IntKind.i64 x14, Value.int IntKind.i64 (0 : Int)] [Value.agg #[Value.int IntKind.i64 (0 : Int), Value.slice none (0 : Nat) (0 : Nat)]] w15)
theorem f78_eq (p0a : Option Addr) (p0n : Nat) (p0c : Nat) (p1 : Int) (R : Value → World → Prop) (w : World) : fnW Try.prog [4] Try.f78 [Value.slice p0a p0n p0c,
  Value.int IntKind.i64 p1] R w = f78_vc p0a p0n p0c p1 R w := by kernel_rfl
theorem f78_in (p0a : Option Addr) (p0n : Nat) (p0c : Nat) (p1 : Int) (R : Value → World → Prop) (w : World) (h : f78_vc p0a p0n p0c p1 R w) : Ct Try.prog 78
  #[Value.slice p0a p0n p0c, Value.int IntKind.i64 p1] w R := by
  refine Ct_of (rk := [4]) (fn := Try.f78) (args := [Value.slice p0a p0n p0c, Value.int IntKind.i64 p1]) mixedT Try.func78 (by kernel_rfl) ?_
  rw [f78_eq]
  exact h
def f13_vc (p0a : Option Addr) (p0n : Nat) (p0c : Nat) (p1 : Int) (p2_0 : Int) (p2_1a : Option Addr) (p2_1n : Nat) (p2_1c : Nat) (p3 : ByteArray) (R : Value → World →
  Prop) (w : World) : Prop := Rg w fun n1 => Up [] [n1] w fun w2 => CallW Try.prog [n1] (38 : Nat) #[Value.slice p0a p0n p0c] (fun v3 w4 => opB v3 fun b5 => Bd (!b5) fun
  b6 => Gd (!b6) false (fun J7 => CallW Try.prog [n1] (76 : Nat) #[Value.agg #[Value.int IntKind.i64 p2_0, Value.slice p2_1a p2_1n p2_1c]] (fun v8 w9 => opB v8 fun b10 =>
  J7 b10 w9) w4) (fun b11 w12 => Bd (!b11) fun b13 => Bd (bif b6 then true else b13) fun b14 => If b14 (CallW Try.prog [n1] (77 : Nat) #[] (fun v15 w16 => opB v15 fun b17
  => R (Value.bool b17) w16) w12) (CallW Try.prog [n1] (68 : Nat) #[Value.string p3, Value.int IntKind.i64 (20 : Int)] (fun v18 w19 => opStr v18 fun s20 => CallW Try.prog
  [n1] (66 : Nat) #[Value.slice p0a p0n p0c, Value.int IntKind.i64 p1] (fun v21 w22 => opTu v21 fun cs23 => opAg (nthD (Array.toList cs23) (0 : Nat)) fun cs24 => opI
  IntKind.i64 (nthD (Array.toList cs24) (0 : Nat)) fun x25 => opL (nthD (Array.toList cs24) (1 : Nat)) fun a26 n27 n28 => SzIs (Array.size cs24) (2 : Nat) (opI
  IntKind.i64 (nthD (Array.toList cs23) (1 : Nat)) fun x29 => SzIs (Array.size cs23) (2 : Nat) (Rg w22 fun n30 => Up [n30] [n30, n1] w22 fun w31 => CallW Try.prog [n30,
  n1] (78 : Nat) #[Value.slice p0a p0n p0c, Value.int IntKind.i64 p1] (fun v32 w33 => opTu v32 fun cs34 => opAg (nthD (Array.toList cs34) (0 : Nat)) fun cs35 => opI
  IntKind.i64 (nthD (Array.toList cs35) (0 : Nat)) fun x36 => opL (nthD (Array.toList cs35) (1 : Nat)) fun a37 n38 n39 => SzIs (Array.size cs35) (2 : Nat) (opI
  IntKind.i64 (nthD (Array.toList cs34) (1 : Nat)) fun x40 => SzIs (Array.size cs34) (2 : Nat) (Rg w33 fun n41 => Up [n41] [n41, n30, n1] w33 fun w42 => CallW Try.prog
  [n41, n30, n1] (79 : Nat) #[Value.agg #[Value.int IntKind.i64 x25, Value.slice a26 n27 n28], Value.agg #[Value.int IntKind.i64 x36, Value.slice a37 n38 n39]] (fun v43
  w44 => opB v43 fun b45 => Bd (!b45) fun b46 => Bd (x29 != x40) fun b47 => Bd (bif b46 then true else b47) fun b48 => If b48 (R (Value.bool false) w44) (Nw (Obj.cells
  #[Value.int IntKind.i64 p2_0, Value.slice p2_1a p2_1n p2_1c, Value.int IntKind.i64 x36, Value.slice a37 n38 n39] (71 : Nat)) w44 fun n49 w50 => Bd (((2 : Nat) : Nat) :
  Int) fun x51 => LoopP (fun l52 l53 J54 w55 => opB (nthD l52 (0 : Nat)) fun b56 => opI IntKind.i64 (nthD l52 (1 : Nat)) fun x57 => Bd (decide (x57 < x51)) fun b58 => If
  b58 (IxOk x57 (2 : Nat) (some (Addr.mk n49 (0 : Nat) none)) ∧ Ld w55 (Addr.add (adAt (some (Addr.mk n49 (0 : Nat) none)) x57 (2 : Nat)) (0 : Nat)) fun v59 => Ld w55
  (Addr.add (adAt (some (Addr.mk n49 (0 : Nat) none)) x57 (2 : Nat)) (1 : Nat)) fun v60 => opI IntKind.i64 v59 fun x61 => opL v60 fun a62 n63 n64 => Rg w55 fun n65 => Up
  [n65] [n65, n41, n30, n1] w55 fun w66 => CallW Try.prog [n65, n41, n30, n1] (69 : Nat) #[Value.agg #[Value.int IntKind.i64 x61, Value.slice a62 n63 n64], Value.string
  s20] (fun v67 w68 => opTu v67 fun cs69 => opL (nthD (Array.toList cs69) (0 : Nat)) fun a70 n71 n72 => opI IntKind.i64 (nthD (Array.toList cs69) (1 : Nat)) fun x73 =>
  SzIs (Array.size cs69) (2 : Nat) (CallW Try.prog [n65, n41, n30, n1] (80 : Nat) #[Value.agg #[Value.int IntKind.i64 x61, Value.slice a62 n63 n64], Value.string s20]
  (fun v74 w75 => opTu v74 fun cs76 => opL (nthD (Array.toList cs76) (0 : Nat)) fun a77 n78 n79 => opI IntKind.i64 (nthD (Array.toList cs76) (1 : Nat)) fun x80 => SzIs
  (Array.size cs76) (2 : Nat) (Jn (fun l81 l82 w83 => opB (nthD l81 (0 : Nat)) fun b84 => If b84 (R (Value.bool false) w83) (Bd (IntKind.wrap IntKind.i64 (x57 + (1 :
  Int))) fun x85 => J54 [Value.bool b56, Value.int IntKind.i64 x85] [] w83)) fun J86 => Dr (World.drew w75) fun J87 => CallW Try.prog [n65, n41, n30, n1] (81 : Nat)
  #[Value.agg #[Value.int IntKind.i64 x61, Value.slice a62 n63 n64]] (fun v88 w89 => opB v88 fun b90 => J87 w89 ∧ CallW Try.prog [n65, n41, n30, n1] (82 : Nat)
  #[Value.agg #[Value.int IntKind.i64 x61, Value.slice a62 n63 n64]] (fun v91 w92 => opB v91 fun b93 => J87 w92 ∧ Bd (!b90 == b93) fun b94 => Gd (!b94) false (fun J95 =>
  CallW Try.prog [n65, n41, n30, n1] (73 : Nat) #[Value.slice a70 n71 n72, Value.slice a77 n78 n79] (fun v96 w97 => opB v96 fun b98 => J95 b98 w97) w92) (fun b99 w100 =>
  J87 w100 ∧ Bd (!b99) fun b101 => Bd (bif b94 then true else b101) fun b102 => Bd (x73 != x80) fun b103 => Bd (bif b102 then true else b103) fun b104 => J86 [Value.bool
  b104] [] w100) w92) w89) (World.drew w75))) w68)) w66) (CallW Try.prog [n41, n30, n1] (77 : Nat) #[] (fun v105 w106 => opB v105 fun b107 => R (Value.bool b107) w106)
  w55)) [Value.bool false, Value.int IntKind.i64 (0 : Int)] [] w50)) w42))) w31))) w19) w12)) w4) w2
theorem f13_eq (p0a : Option Addr) (p0n : Nat) (p0c : Nat) (p1 : Int) (p2_0 : Int) (p2_1a : Option Addr) (p2_1n : Nat) (p2_1c : Nat) (p3 : ByteArray) (R : Value → World →
  Prop) (w : World) : fnW Try.prog [6, 9, 11, 14, 100013] Try.f13 [Value.slice p0a p0n p0c, Value.int IntKind.i64 p1, Value.agg #[Value.int IntKind.i64 p2_0, Value.slice
  p2_1a p2_1n p2_1c], Value.string p3] R w = f13_vc p0a p0n p0c p1 p2_0 p2_1a p2_1n p2_1c p3 R w := by kernel_rfl
theorem f13_in (p0a : Option Addr) (p0n : Nat) (p0c : Nat) (p1 : Int) (p2_0 : Int) (p2_1a : Option Addr) (p2_1n : Nat) (p2_1c : Nat) (p3 : ByteArray) (R : Value → World →
  Prop) (w : World) (h : f13_vc p0a p0n p0c p1 p2_0 p2_1a p2_1n p2_1c p3 R w) : Ct Try.prog 13 #[Value.slice p0a p0n p0c, Value.int IntKind.i64 p1, Value.agg #[Value.int
  IntKind.i64 p2_0, Value.slice p2_1a p2_1n p2_1c], Value.string p3] w R := by
  refine Ct_of (rk := [6, 9, 11, 14, 100013]) (fn := Try.f13) (args := [Value.slice p0a p0n p0c, Value.int IntKind.i64 p1, Value.agg #[Value.int IntKind.i64 p2_0, Value.slice p2_1a p2_1n p2_1c], Value.string p3]) mixedT Try.func13 (by kernel_rfl) ?_
  rw [f13_eq]
  exact h
end Fk

