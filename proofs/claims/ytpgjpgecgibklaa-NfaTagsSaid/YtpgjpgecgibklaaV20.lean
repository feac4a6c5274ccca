/- Conditions of functions, as the generator works them out; each one is checked by the kernel. -/
import Derived.Test.YtpgjpgecgibklaaTT
set_option linter.unusedVariables false
set_option maxRecDepth 1000000
set_option maxHeartbeats 4000000
namespace Fk
open Go Go.Proofs Go.RowKit
def f74_vc (p0_0 : Int) (p0_1 : Int) (p0_2 : Int) (p0_3 : Int) (p0_4 : Int) (p0_5a : Option Addr) (p0_5n : Nat) (p0_5c : Nat) (p1 : ByteArray) (R : Value → World → Prop)
  (w : World) : Prop := Rg w fun n1 => Bd (((ByteArray.size p1) : Nat) : Int) fun x2 => Up [] [n1] w fun w3 => CallW Try.prog [n1] (174 : Nat) #[Value.int IntKind.i64 x2]
  (fun v4 w5 => opL v4 fun a6 n7 n8 => Jn (fun l9 l10 w11 => opL (nthD l9 (0 : Nat)) fun a12 n13 n14 => opL (nthD l9 (1 : Nat)) fun a15 n16 n17 => opB (nthD l9 (2 : Nat))
  fun b18 => opB (nthD l9 (3 : Nat)) fun b19 => R (Value.slice a12 n13 n14) w11) fun J20 => Bd (p0_0 == (0 : Int)) fun b21 => If b21 (Bd (((ByteArray.size p1) : Nat) :
  Int) fun x22 => CallW Try.prog [n1] (175 : Nat) #[Value.int IntKind.i64 x22] (fun v23 w24 => opL v23 fun a25 n26 n27 => R (Value.slice a25 n26 n27) w24) w5) (Bd (p0_0
  == (1 : Int)) fun b28 => If b28 (Bd (((ByteArray.size p1) : Nat) : Int) fun x29 => LoopP (fun l30 l31 J32 w33 => opI IntKind.i64 (nthD l30 (0 : Nat)) fun x34 => Bd
  (decide (x34 < x29)) fun b35 => If b35 (Jn (fun l36 l37 w38 => opI IntKind.i64 (nthD l36 (0 : Nat)) fun x39 => Bd (IntKind.wrap IntKind.i64 (x34 + (1 : Int))) fun x40
  => J32 [Value.int IntKind.i64 x40] [] w38) fun J41 => Dr (World.drew w33) fun J42 => ((0 : Int) ≤ x34 ∧ x34 < ↑(ByteArray.size p1)) ∧ Bd (byteAt p1 x34) fun x43 =>
  CallW Try.prog [n1] (50 : Nat) #[Value.agg #[Value.int IntKind.u64 p0_1, Value.int IntKind.u64 p0_2, Value.int IntKind.u64 p0_3, Value.int IntKind.u64 p0_4], Value.int
  IntKind.u8 x43] (fun v44 w45 => opB v44 fun b46 => J42 w45 ∧ If b46 (Bd (IntKind.wrap IntKind.i64 (x34 + (1 : Int))) fun x47 => (0 : Int) ≤ x47 ∧ Bd (IntKind.wrap
  IntKind.u64 ((1 : Int) * (2 : Int) ^ min (Int.toNat x47) (64 : Nat))) fun x48 => IxOk x34 n7 a6 ∧ ¬Addr.block (adAt a6 x34 (1 : Nat)) ∈ [n1] ∧ Wr w45 (adAt a6 x34 (1 :
  Nat)) (1 : Nat) ∧ J41 [Value.int IntKind.i64 x34] [] (setCells w45 (adAt a6 x34 (1 : Nat)) (0 : Nat) [Value.int IntKind.u64 x48])) (J41 [Value.int IntKind.i64 x34] []
  w45)) (World.drew w33)) (J20 [Value.slice a6 n7 n8, Value.slice none (0 : Nat) (0 : Nat), Value.bool b21, Value.bool b28] [] w33)) [Value.int IntKind.i64 (0 : Int)] []
  w5) (Bd (p0_0 == (2 : Int)) fun b49 => If b49 (Bd (((ByteArray.size p1) : Nat) : Int) fun x50 => CallW Try.prog [n1] (175 : Nat) #[Value.int IntKind.i64 x50] (fun v51
  w52 => opL v51 fun a53 n54 n55 => Bd ((p0_5n : Nat) : Int) fun x56 => LoopP (fun l57 l58 J59 w60 => opL (nthD l57 (0 : Nat)) fun a61 n62 n63 => opI IntKind.i64 (nthD
  l57 (1 : Nat)) fun x64 => Bd (decide (x64 < x56)) fun b65 => If b65 (IxOk x64 p0_5n p0_5a ∧ Ld w60 (Addr.add (adAt p0_5a x64 (6 : Nat)) (0 : Nat)) fun v66 => Ld w60
  (Addr.add (adAt p0_5a x64 (6 : Nat)) (1 : Nat)) fun v67 => Ld w60 (Addr.add (adAt p0_5a x64 (6 : Nat)) (2 : Nat)) fun v68 => Ld w60 (Addr.add (adAt p0_5a x64 (6 : Nat))
  (3 : Nat)) fun v69 => Ld w60 (Addr.add (adAt p0_5a x64 (6 : Nat)) (4 : Nat)) fun v70 => Ld w60 (Addr.add (adAt p0_5a x64 (6 : Nat)) (5 : Nat)) fun v71 => opI IntKind.u8
  v66 fun x72 => opI IntKind.u64 v67 fun x73 => opI IntKind.u64 v68 fun x74 => opI IntKind.u64 v69 fun x75 => opI IntKind.u64 v70 fun x76 => opL v71 fun a77 n78 n79 => Rg
  w60 fun n80 => Up [n80] [n80, n1] w60 fun w81 => CallW Try.prog [n80, n1] (74 : Nat) #[Value.agg #[Value.int IntKind.u8 x72, Value.int IntKind.u64 x73, Value.int
  IntKind.u64 x74, Value.int IntKind.u64 x75, Value.int IntKind.u64 x76, Value.slice a77 n78 n79], Value.string p1] (fun v82 w83 => opL v82 fun a84 n85 n86 => CallW
  Try.prog [n80, n1] (176 : Nat) #[Value.slice a61 n62 n63, Value.slice a84 n85 n86] (fun v87 w88 => opL v87 fun a89 n90 n91 => Bd (IntKind.wrap IntKind.i64 (x64 + (1 :
  Int))) fun x92 => J59 [Value.slice a89 n90 n91, Value.int IntKind.i64 x92] [] w88) w83) w81) (J20 [Value.slice a61 n62 n63, Value.slice none (0 : Nat) (0 : Nat),
  Value.bool b21, Value.bool b28] [] w60)) [Value.slice a53 n54 n55, Value.int IntKind.i64 (0 : Int)] [] w52) w5) (Bd (p0_0 == (3 : Int)) fun b93 => If b93 (Bd ((p0_5n :
  Nat) : Int) fun x94 => LoopP (fun l95 l96 J97 w98 => opL (nthD l95 (0 : Nat)) fun a99 n100 n101 => opI IntKind.i64 (nthD l95 (1 : Nat)) fun x102 => Bd (decide (x102 <
  x94)) fun b103 => If b103 (IxOk x102 p0_5n p0_5a ∧ Ld w98 (Addr.add (adAt p0_5a x102 (6 : Nat)) (0 : Nat)) fun v104 => Ld w98 (Addr.add (adAt p0_5a x102 (6 : Nat)) (1 :
  Nat)) fun v105 => Ld w98 (Addr.add (adAt p0_5a x102 (6 : Nat)) (2 : Nat)) fun v106 => Ld w98 (Addr.add (adAt p0_5a x102 (6 : Nat)) (3 : Nat)) fun v107 => Ld w98
  (Addr.add (adAt p0_5a x102 (6 : Nat)) (4 : Nat)) fun v108 => Ld w98 (Addr.add (adAt p0_5a x102 (6 : Nat)) (5 : Nat)) fun v109 => opI IntKind.u8 v104 fun x110 => opI
  IntKind.u64 v105 fun x111 => opI IntKind.u64 v106 fun x112 => opI IntKind.u64 v107 fun x113 => opI IntKind.u64 v108 fun x114 => opL v109 fun a115 n116 n117 => Rg w98
  fun n118 => Up [n118] [n118, n1] w98 fun w119 => CallW Try.prog [n118, n1] (74 : Nat) #[Value.agg #[Value.int IntKind.u8 x110, Value.int IntKind.u64 x111, Value.int
  IntKind.u64 x112, Value.int IntKind.u64 x113, Value.int IntKind.u64 x114, Value.slice a115 n116 n117], Value.string p1] (fun v120 w121 => opL v120 fun a122 n123 n124 =>
  CallW Try.prog [n118, n1] (177 : Nat) #[Value.slice a99 n100 n101, Value.slice a122 n123 n124] (fun v125 w126 => opL v125 fun a127 n128 n129 => Bd (IntKind.wrap
  IntKind.i64 (x102 + (1 : Int))) fun x130 => J97 [Value.slice a127 n128 n129, Value.int IntKind.i64 x130] [] w126) w121) w119) (J20 [Value.slice a99 n100 n101,
  Value.slice none (0 : Nat) (0 : Nat), Value.bool b21, Value.bool b28] [] w98)) [Value.slice a6 n7 n8, Value.int IntKind.i64 (0 : Int)] [] w5) (Bd (p0_0 == (4 : Int))
  fun b131 => If b131 (Bd ((p0_5n : Nat) : Int) fun x132 => Bd (x132 == (1 : Int)) fun b133 => If b133 (IxOk (0 : Int) p0_5n p0_5a ∧ Ld w5 (Addr.add (adAt p0_5a (0 : Int)
  (6 : Nat)) (0 : Nat)) fun v134 => Ld w5 (Addr.add (adAt p0_5a (0 : Int) (6 : Nat)) (1 : Nat)) fun v135 => Ld w5 (Addr.add (adAt p0_5a (0 : Int) (6 : Nat)) (2 : Nat))
  fun v136 => Ld w5 (Addr.add (adAt p0_5a (0 : Int) (6 : Nat)) (3 : Nat)) fun v137 => Ld w5 (Addr.add (adAt p0_5a (0 : Int) (6 : Nat)) (4 : Nat)) fun v138 => Ld w5
  (Addr.add (adAt p0_5a (0 : Int) (6 : Nat)) (5 : Nat)) fun v139 => opI IntKind.u8 v134 fun x140 => opI IntKind.u64 v135 fun x141 => opI IntKind.u64 v136 fun x142 => opI
  IntKind.u64 v137 fun x143 => opI IntKind.u64 v138 fun x144 => opL v139 fun a145 n146 n147 => CallW Try.prog [n1] (74 : Nat) #[Value.agg #[Value.int IntKind.u8 x140,
  Value.int IntKind.u64 x141, Value.int IntKind.u64 x142, Value.int IntKind.u64 x143, Value.int IntKind.u64 x144, Value.slice a145 n146 n147], Value.string p1] (fun v148
  w149 => opL v148 fun a150 n151 n152 => Bd (((ByteArray.size p1) : Nat) : Int) fun x153 => CallW Try.prog [n1] (175 : Nat) #[Value.int IntKind.i64 x153] (fun v154 w155
  => opL v154 fun a156 n157 n158 => CallW Try.prog [n1] (177 : Nat) #[Value.slice a150 n151 n152, Value.slice a156 n157 n158] (fun v159 w160 => opL v159 fun a161 n162
  n163 => Bd (((ByteArray.size p1) : Nat) : Int) fun x164 => Bd (IntKind.wrap IntKind.i64 (x164 + (1 : Int))) fun x165 => CallW Try.prog [n1] (178 : Nat) #[Value.slice
  a161 n162 n163, Value.int IntKind.i64 x165] (fun v166 w167 => opL v166 fun a168 n169 n170 => R (Value.slice a168 n169 n170) w167) w160) w155) w149) w5) (J20
  [Value.slice a6 n7 n8, Value.slice none (0 : Nat) (0 : Nat), Value.bool b21, Value.bool b28] [] w5)) (J20 [Value.slice a6 n7 n8, Value.slice none (0 : Nat) (0 : Nat),
  Value.bool b21, Value.bool b28] [] w5)))))) w3
theorem f74_eq (p0_0 : Int) (p0_1 : Int) (p0_2 : Int) (p0_3 : Int) (p0_4 : Int) (p0_5a : Option Addr) (p0_5n : Nat) (p0_5c : Nat) (p1 : ByteArray) (R : Value → World →
  Prop) (w : World) : fnW Try.prog [2, 8, 10, 100009] Try.f74 [Value.agg #[Value.int IntKind.u8 p0_0, Value.int IntKind.u64 p0_1, Value.int IntKind.u64 p0_2, Value.int
  IntKind.u64 p0_3, Value.int IntKind.u64 p0_4, Value.slice p0_5a p0_5n p0_5c], Value.string p1] R w = f74_vc p0_0 p0_1 p0_2 p0_3 p0_4 p0_5a p0_5n p0_5c p1 R w := by
  kernel_rfl
theorem f74_in (p0_0 : Int) (p0_1 : Int) (p0_2 : Int) (p0_3 : Int) (p0_4 : Int) (p0_5a : Option Addr) (p0_5n : Nat) (p0_5c : Nat) (p1 : ByteArray) (R : Value → World →
  Prop) (w : World) (h : f74_vc p0_0 p0_1 p0_2 p0_3 p0_4 p0_5a p0_5n p0_5c p1 R w) : Ct Try.prog 74 #[Value.agg #[Value.int IntKind.u8 p0_0, Value.int IntKind.u64 p0_1,
  Value.int IntKind.u64 p0_2, Value.int IntKind.u64 p0_3, Value.int IntKind.u64 p0_4, Value.slice p0_5a p0_5n p0_5c], Value.string p1] w R := by
  refine Ct_of (rk := [2, 8, 10, 100009]) (fn := Try.f74) (args := [Value.agg #[Value.int IntKind.u8 p0_0, Value.int IntKind.u64 p0_1, Value.int IntKind.u64 p0_2, Value.int IntKind.u64 p0_3, Value.int IntKind.u64 p0_4, Value.slice p0_5a p0_5n p0_5c], Value.string p1]) mixedT Try.func74 (by kernel_rfl) ?_
  rw [f74_eq]
  exact h
def f75_vc (p0a : Option Addr) (p0n : Nat) (p0c : Nat) (p1 : Int) (p2 : Int) (R : Value → World → Prop) (w : World) : Prop := IxOk p1 p0n p0a ∧ Ld w (adAt p0a p1 (1 :
  Nat)) fun v1 => opI IntKind.u64 v1 fun x2 => (0 : Int) ≤ p2 ∧ Bd (Int.fdiv x2 ((2 : Int) ^ min (Int.toNat p2) (64 : Nat))) fun x3 => Bd (IntKind.wrap IntKind.u64
  ↑(BitVec.toNat (BitVec.ofInt (64 : Nat) x3 &&& BitVec.ofInt (64 : Nat) (1 : Int)))) fun x4 => Bd (x4 == (1 : Int)) fun b5 => R (Value.bool b5) w
theorem f75_eq (p0a : Option Addr) (p0n : Nat) (p0c : Nat) (p1 : Int) (p2 : Int) (R : Value → World → Prop) (w : World) : fnW Try.prog [] Try.f75 [Value.slice p0a p0n
  p0c, Value.int IntKind.i64 p1, Value.int IntKind.i64 p2] R w = f75_vc p0a p0n p0c p1 p2 R w := by kernel_rfl
theorem f75_in (p0a : Option Addr) (p0n : Nat) (p0c : Nat) (p1 : Int) (p2 : Int) (R : Value → World → Prop) (w : World) (h : f75_vc p0a p0n p0c p1 p2 R w) : Ct Try.prog
  75 #[Value.slice p0a p0n p0c, Value.int IntKind.i64 p1, Value.int IntKind.i64 p2] w R := by
  refine Ct_of (rk := []) (fn := Try.f75) (args := [Value.slice p0a p0n p0c, Value.int IntKind.i64 p1, Value.int IntKind.i64 p2]) mixedT Try.func75 (by kernel_rfl) ?_
  rw [f75_eq]
  exact h
def f174_vc (p0 : Int) (R : Value → World → Prop) (w : World) : Prop := Bd (IntKind.wrap IntKind.i64 (p0 + (1 : Int))) fun x1 => RunW Try.prog [] (Instr.makeSlice (84 :
  Nat) (Value.int IntKind.i64 x1) (Value.int IntKind.i64 x1)) (fun v2 w3 => opL v2 fun a4 n5 n6 => R (Value.slice a4 n5 n6) w3) w
theorem f174_eq (p0 : Int) (R : Value → World → Prop) (w : World) : fnW Try.prog [] Try.f174 [Value.int IntKind.i64 p0] R w = f174_vc p0 R w := by kernel_rfl
theorem f174_in (p0 : Int) (R : Value → World → Prop) (w : World) (h : f174_vc p0 R w) : Ct Try.prog 174 #[Value.int IntKind.i64 p0] w R := by
  refine Ct_of (rk := []) (fn := Try.f174) (args := [Value.int IntKind.i64 p0]) mixedT Try.func174 (by kernel_rfl) ?_
  rw [f174_eq]
  exact h
def f175_vc (p0 : Int) (R : Value → World → Prop) (w : World) : Prop := CallW Try.prog [] (174 : Nat) #[Value.int IntKind.i64 p0] (fun v1 w2 => opL v1 fun a3 n4 n5 => Bd
  ((n4 : Nat) : Int) fun x6 => LoopP (fun l7 l8 J9 w10 => opI IntKind.i64 (nthD l7 (0 : Nat)) fun x11 => Bd (decide (x11 < x6)) fun b12 => If b12 ((0 : Int) ≤ x11 ∧ Bd
  (IntKind.wrap IntKind.u64 ((1 : Int) * (2 : Int) ^ min (Int.toNat x11) (64 : Nat))) fun x13 => IxOk x11 n4 a3 ∧ ¬Addr.block (adAt a3 x11 (1 : Nat)) ∈ [] ∧ Wr w10 (adAt
  a3 x11 (1 : Nat)) (1 : Nat) ∧ Bd (IntKind.wrap IntKind.i64 (x11 + (1 : Int))) fun x14 => J9 [Value.int IntKind.i64 x14] [] (setCells w10 (adAt a3 x11 (1 : Nat)) (0 :
  Nat) [Value.int IntKind.u64 x13])) (R (Value.slice a3 n4 n5) w10)) [Value.int IntKind.i64 (0 : Int)] [] w2) w
theorem f175_eq (p0 : Int) (R : Value → World → Prop) (w : World) : fnW Try.prog [] Try.f175 [Value.int IntKind.i64 p0] R w = f175_vc p0 R w := by kernel_rfl
theorem f175_in (p0 : Int) (R : Value → World → Prop) (w : World) (h : f175_vc p0 R w) : Ct Try.prog 175 #[Value.int IntKind.i64 p0] w R := by
  refine Ct_of (rk := []) (fn := Try.f175) (args := [Value.int IntKind.i64 p0]) mixedT Try.func175 (by kernel_rfl) ?_
  rw [f175_eq]
  exact h
def f176_vc (p0a : Option Addr) (p0n : Nat) (p0c : Nat) (p1a : Option Addr) (p1n : Nat) (p1c : Nat) (R : Value → World → Prop) (w : World) : Prop := Bd ((p0n : Nat) :
  Int) fun x1 => RunW Try.prog [] (Instr.makeSlice (84 : Nat) (Value.int IntKind.i64 x1) (Value.int IntKind.i64 x1)) (fun v2 w3 => opL v2 fun a4 n5 n6 => Bd ((p0n : Nat)
  : Int) fun x7 => LoopP (fun l8 l9 J10 w11 => opI IntKind.i64 (nthD l8 (0 : Nat)) fun x12 => Bd (decide (x12 < x7)) fun b13 => If b13 (IxOk x12 p0n p0a ∧ Ld w11 (adAt
  p0a x12 (1 : Nat)) fun v14 => opI IntKind.u64 v14 fun x15 => Bd ((p1n : Nat) : Int) fun x16 => LoopP (fun l17 l18 J19 w20 => opI IntKind.i64 (nthD l17 (0 : Nat)) fun
  x21 => Bd (decide (x21 < x16)) fun b22 => If b22 (Jn (fun l23 l24 w25 => opI IntKind.i64 (nthD l23 (0 : Nat)) fun x26 => opI IntKind.u64 (nthD l23 (1 : Nat)) fun x27 =>
  Bd (IntKind.wrap IntKind.i64 (x21 + (1 : Int))) fun x28 => J19 [Value.int IntKind.i64 x28] [] w25) fun J29 => IxOk x21 p1n p1a ∧ Ld w20 (adAt p1a x21 (1 : Nat)) fun v30
  => opI IntKind.u64 v30 fun x31 => (0 : Int) ≤ x21 ∧ Bd (Int.fdiv x15 ((2 : Int) ^ min (Int.toNat x21) (64 : Nat))) fun x32 => Bd (IntKind.wrap IntKind.u64
  ↑(BitVec.toNat (BitVec.ofInt (64 : Nat) x32 &&& BitVec.ofInt (64 : Nat) (1 : Int)))) fun x33 => Bd (x33 == (1 : Int)) fun b34 => If b34 (IxOk x12 n5 a4 ∧ Ld w20 (adAt
  a4 x12 (1 : Nat)) fun v35 => opI IntKind.u64 v35 fun x36 => Bd (IntKind.wrap IntKind.u64 ↑(BitVec.toNat (BitVec.ofInt (64 : Nat) x36 ||| BitVec.ofInt (64 : Nat) x31)))
  fun x37 => IxOk x12 n5 a4 ∧ ¬Addr.block (adAt a4 x12 (1 : Nat)) ∈ [] ∧ Wr w20 (adAt a4 x12 (1 : Nat)) (1 : Nat) ∧ J29 [Value.int IntKind.i64 x21, Value.int IntKind.u64
  x31] [] (setCells w20 (adAt a4 x12 (1 : Nat)) (0 : Nat) [Value.int IntKind.u64 x37])) (J29 [Value.int IntKind.i64 x21, Value.int IntKind.u64 x31] [] w20)) (Bd
  (IntKind.wrap IntKind.i64 (x12 + (1 : Int))) fun x38 => J10 [Value.int IntKind.i64 x38] [] w20)) [Value.int IntKind.i64 (0 : Int)] [] w11) (R (Value.slice a4 n5 n6)
  w11)) [Value.int IntKind.i64 (0 : Int)] [] w3) w
theorem f176_eq (p0a : Option Addr) (p0n : Nat) (p0c : Nat) (p1a : Option Addr) (p1n : Nat) (p1c : Nat) (R : Value → World → Prop) (w : World) : fnW Try.prog [] Try.f176
  [Value.slice p0a p0n p0c, Value.slice p1a p1n p1c] R w = f176_vc p0a p0n p0c p1a p1n p1c R w := by kernel_rfl
theorem f176_in (p0a : Option Addr) (p0n : Nat) (p0c : Nat) (p1a : Option Addr) (p1n : Nat) (p1c : Nat) (R : Value → World → Prop) (w : World) (h : f176_vc p0a p0n p0c
  p1a p1n p1c R w) : Ct Try.prog 176 #[Value.slice p0a p0n p0c, Value.slice p1a p1n p1c] w R := by
  refine Ct_of (rk := []) (fn := Try.f176) (args := [Value.slice p0a p0n p0c, Value.slice p1a p1n p1c]) mixedT Try.func176 (by kernel_rfl) ?_
  rw [f176_eq]
  exact h
def f177_vc (p0a : Option Addr) (p0n : Nat) (p0c : Nat) (p1a : Option Addr) (p1n : Nat) (p1c : Nat) (R : Value → World → Prop) (w : World) : Prop := Bd ((p0n : Nat) :
  Int) fun x1 => RunW Try.prog [] (Instr.makeSlice (84 : Nat) (Value.int IntKind.i64 x1) (Value.int IntKind.i64 x1)) (fun v2 w3 => opL v2 fun a4 n5 n6 => Bd ((p0n : Nat)
  : Int) fun x7 => LoopP (fun l8 l9 J10 w11 => opI IntKind.i64 (nthD l8 (0 : Nat)) fun x12 => Bd (decide (x12 < x7)) fun b13 => If b13 (IxOk x12 p0n p0a ∧ IxOk x12 p1n
  p1a ∧ (Ld (World.drew w11) (adAt p0a x12 (1 : Nat)) fun v14 => opI IntKind.u64 v14 fun x15 => Ld (World.drew w11) (adAt p1a x12 (1 : Nat)) fun v16 => opI IntKind.u64
  v16 fun x17 => Bd (IntKind.wrap IntKind.u64 ↑(BitVec.toNat (BitVec.ofInt (64 : Nat) x15 ||| BitVec.ofInt (64 : Nat) x17))) fun x18 => IxOk x12 n5 a4 ∧ ¬Addr.block (adAt
  a4 x12 (1 : Nat)) ∈ [] ∧ Wr (World.drew w11) (adAt a4 x12 (1 : Nat)) (1 : Nat) ∧ Bd (IntKind.wrap IntKind.i64 (x12 + (1 : Int))) fun x19 => J10 [Value.int IntKind.i64
  x19] [] (setCells (World.drew w11) (adAt a4 x12 (1 : Nat)) (0 : Nat) [Value.int IntKind.u64 x18])) ∧ Ld (World.drew w11) (adAt p1a x12 (1 : Nat)) fun v20 => opI
  IntKind.u64 v20 fun x21 => Ld (World.drew w11) (adAt p0a x12 (1 : Nat)) fun v22 => opI IntKind.u64 v22 fun x23 => Bd (IntKind.wrap IntKind.u64 ↑(BitVec.toNat
  (BitVec.ofInt (64 : Nat) x23 ||| BitVec.ofInt (64 : Nat) x21))) fun x24 => IxOk x12 n5 a4 ∧ ¬Addr.block (adAt a4 x12 (1 : Nat)) ∈ [] ∧ Wr (World.drew w11) (adAt a4 x12
  (1 : Nat)) (1 : Nat) ∧ Bd (IntKind.wrap IntKind.i64 (x12 + (1 : Int))) fun x25 => J10 [Value.int IntKind.i64 x25] [] (setCells (World.drew w11) (adAt a4 x12 (1 : Nat))
  (0 : Nat) [Value.int IntKind.u64 x24])) (R (Value.slice a4 n5 n6) w11)) [Value.int IntKind.i64 (0 : Int)] [] w3) w
theorem f177_eq (p0a : Option Addr) (p0n : Nat) (p0c : Nat) (p1a : Option Addr) (p1n : Nat) (p1c : Nat) (R : Value → World → Prop) (w : World) : fnW Try.prog [400005]
  Try.f177 [Value.slice p0a p0n p0c, Value.slice p1a p1n p1c] R w = f177_vc p0a p0n p0c p1a p1n p1c R w := by kernel_rfl
theorem f177_in (p0a : Option Addr) (p0n : Nat) (p0c : Nat) (p1a : Option Addr) (p1n : Nat) (p1c : Nat) (R : Value → World → Prop) (w : World) (h : f177_vc p0a p0n p0c
  p1a p1n p1c R w) : Ct Try.prog 177 #[Value.slice p0a p0n p0c, Value.slice p1a p1n p1c] w R := by
  refine Ct_of (rk := [400005]) (fn := Try.f177) (args := [Value.slice p0a p0n p0c, Value.slice p1a p1n p1c]) mixedT Try.func177 (by kernel_rfl) ?_
  rw [f177_eq]
  exact h
def f178_vc (p0a : Option Addr) (p0n : Nat) (p0c : Nat) (p1 : Int) (R : Value → World → Prop) (w : World) : Prop := Bd ((p0n : Nat) : Int) fun x1 => Bd (IntKind.wrap
  IntKind.i64 (x1 - (1 : Int))) fun x2 => CallW Try.prog [] (175 : Nat) #[Value.int IntKind.i64 x2] (fun v3 w4 => opL v3 fun a5 n6 n7 => Bd ((p0n : Nat) : Int) fun x8 =>
  Bd (IntKind.wrap IntKind.i64 (x8 + (1 : Int))) fun x9 => Bd (if x9 < p1 then x9 else p1) fun x10 => LoopP (fun l11 l12 J13 w14 => opL (nthD l11 (0 : Nat)) fun a15 n16
  n17 => opI IntKind.i64 (nthD l11 (1 : Nat)) fun x18 => Bd (decide (x18 < x10)) fun b19 => If b19 (CallW Try.prog [] (176 : Nat) #[Value.slice a15 n16 n17, Value.slice
  p0a p0n p0c] (fun v20 w21 => opL v20 fun a22 n23 n24 => Bd (IntKind.wrap IntKind.i64 (x18 + (1 : Int))) fun x25 => J13 [Value.slice a22 n23 n24, Value.int IntKind.i64
  x25] [] w21) w14) (R (Value.slice a15 n16 n17) w14)) [Value.slice a5 n6 n7, Value.int IntKind.i64 (0 : Int)] [] w4) w
theorem f178_eq (p0a : Option Addr) (p0n : Nat) (p0c : Nat) (p1 : Int) (R : Value → World → Prop) (w : World) : fnW Try.prog [] Try.f178 [Value.slice p0a p0n p0c,
  Value.int IntKind.i64 p1] R w = f178_vc p0a p0n p0c p1 R w := by kernel_rfl
theorem f178_in (p0a : Option Addr) (p0n : Nat) (p0c : Nat) (p1 : Int) (R : Value → World → Prop) (w : World) (h : f178_vc p0a p0n p0c p1 R w) : Ct Try.prog 178
  #[Value.slice p0a p0n p0c, Value.int IntKind.i64 p1] w R := by
  refine Ct_of (rk := []) (fn := Try.f178) (args := [Value.slice p0a p0n p0c, Value.int IntKind.i64 p1]) mixedT Try.func178 (by kernel_rfl) ?_
  rw [f178_eq]
  exact h
end Fk
