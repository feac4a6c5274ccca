/- Conditions of functions, as the generator works them out; each one is checked by the kernel. -/
import Derived.Test.YtpgjpgecgibklaaTT
set_option linter.unusedVariables false
set_option maxRecDepth 100000
set_option maxHeartbeats 4000000
namespace Fk
open Go Go.Proofs Go.RowKit
def f39_vc (R : Value → World → Prop) (w : World) : Prop := CallW Try.prog [] (40 : Nat) #[Value.slice none (0 : Nat) (0 : Nat)] (fun v1 w2 => opTu v1 fun cs3 => opBig
  (nthD (Array.toList cs3) (0 : Nat)) fun cs4 => Array.size cs4 = (257 : Nat) ∧ opI IntKind.i64 (nthD (Array.toList cs3) (1 : Nat)) fun x5 => SzIs (Array.size cs3) (2 :
  Nat) (Array.size cs4 = (257 : Nat) ∧ Rg w2 fun n6 => OkC (Array.toList cs4) (257 : Nat) (Up [n6] [n6] w2 fun w7 => CallW Try.prog [n6] (52 : Nat) #[Value.string { data
  := #[(98 : UInt8)] }] (fun v8 w9 => opAg v8 fun cs10 => opI IntKind.u64 (nthD (Array.toList cs10) (0 : Nat)) fun x11 => opI IntKind.u64 (nthD (Array.toList cs10) (1 :
  Nat)) fun x12 => opI IntKind.u64 (nthD (Array.toList cs10) (2 : Nat)) fun x13 => opI IntKind.u64 (nthD (Array.toList cs10) (3 : Nat)) fun x14 => SzIs (Array.size cs10)
  (4 : Nat) (CallW Try.prog [n6] (51 : Nat) #[Value.agg #[Value.int IntKind.u64 x11, Value.int IntKind.u64 x12, Value.int IntKind.u64 x13, Value.int IntKind.u64 x14]]
  (fun v15 w16 => opAg v15 fun cs17 => opI IntKind.u8 (nthD (Array.toList cs17) (0 : Nat)) fun x18 => opI IntKind.u64 (nthD (Array.toList cs17) (1 : Nat)) fun x19 => opI
  IntKind.u64 (nthD (Array.toList cs17) (2 : Nat)) fun x20 => opI IntKind.u64 (nthD (Array.toList cs17) (3 : Nat)) fun x21 => opI IntKind.u64 (nthD (Array.toList cs17) (4
  : Nat)) fun x22 => opL (nthD (Array.toList cs17) (5 : Nat)) fun a23 n24 n25 => SzIs (Array.size cs17) (6 : Nat) (CallW Try.prog [n6] (52 : Nat) #[Value.string { data :=
  #[(97 : UInt8), (98 : UInt8)] }] (fun v26 w27 => opAg v26 fun cs28 => opI IntKind.u64 (nthD (Array.toList cs28) (0 : Nat)) fun x29 => opI IntKind.u64 (nthD
  (Array.toList cs28) (1 : Nat)) fun x30 => opI IntKind.u64 (nthD (Array.toList cs28) (2 : Nat)) fun x31 => opI IntKind.u64 (nthD (Array.toList cs28) (3 : Nat)) fun x32
  => SzIs (Array.size cs28) (4 : Nat) (CallW Try.prog [n6] (51 : Nat) #[Value.agg #[Value.int IntKind.u64 x29, Value.int IntKind.u64 x30, Value.int IntKind.u64 x31,
  Value.int IntKind.u64 x32]] (fun v33 w34 => opAg v33 fun cs35 => opI IntKind.u8 (nthD (Array.toList cs35) (0 : Nat)) fun x36 => opI IntKind.u64 (nthD (Array.toList
  cs35) (1 : Nat)) fun x37 => opI IntKind.u64 (nthD (Array.toList cs35) (2 : Nat)) fun x38 => opI IntKind.u64 (nthD (Array.toList cs35) (3 : Nat)) fun x39 => opI
  IntKind.u64 (nthD (Array.toList cs35) (4 : Nat)) fun x40 => opL (nthD (Array.toList cs35) (5 : Nat)) fun a41 n42 n43 => SzIs (Array.size cs35) (6 : Nat) (Nw (Obj.cells
  #[Value.int IntKind.u8 x18, Value.int IntKind.u64 x19, Value.int IntKind.u64 x20, Value.int IntKind.u64 x21, Value.int IntKind.u64 x22, Value.slice a23 n24 n25,
  Value.int IntKind.u8 x36, Value.int IntKind.u64 x37, Value.int IntKind.u64 x38, Value.int IntKind.u64 x39, Value.int IntKind.u64 x40, Value.slice a41 n42 n43] (42 :
  Nat)) w34 fun n44 w45 => CallW Try.prog [n6] (40 : Nat) #[Value.slice (some { block := n44, off := (0 : Nat) }) (2 : Nat) (2 : Nat)] (fun v46 w47 => opTu v46 fun cs48
  => opBig (nthD (Array.toList cs48) (0 : Nat)) fun cs49 => Array.size cs49 = (257 : Nat) ∧ opI IntKind.i64 (nthD (Array.toList cs48) (1 : Nat)) fun x50 => SzIs
  (Array.size cs48) (2 : Nat) (Array.size cs49 = (257 : Nat) ∧ Rg w47 fun n51 => OkC (Array.toList cs49) (257 : Nat) (Array.size cs49 = (257 : Nat) ∧ Up [n51] [n51, n6]
  w47 fun w52 => CallW Try.prog [n51, n6] (42 : Nat) #[Value.agg cs49, Value.int IntKind.i64 (2 : Int)] (fun v53 w54 => opTu v53 fun cs55 => opI IntKind.u8 (nthD
  (Array.toList cs55) (0 : Nat)) fun x56 => opB (nthD (Array.toList cs55) (1 : Nat)) fun b57 => SzIs (Array.size cs55) (2 : Nat) (Array.size cs4 = (257 : Nat) ∧ CallW
  Try.prog [n51, n6] (42 : Nat) #[Value.agg cs4, Value.int IntKind.i64 (0 : Int)] (fun v58 w59 => opTu v58 fun cs60 => opI IntKind.u8 (nthD (Array.toList cs60) (0 : Nat))
  fun x61 => opB (nthD (Array.toList cs60) (1 : Nat)) fun b62 => SzIs (Array.size cs60) (2 : Nat) (CallW Try.prog [n51, n6] (52 : Nat) #[Value.string { data := #[] }]
  (fun v63 w64 => opAg v63 fun cs65 => opI IntKind.u64 (nthD (Array.toList cs65) (0 : Nat)) fun x66 => opI IntKind.u64 (nthD (Array.toList cs65) (1 : Nat)) fun x67 => opI
  IntKind.u64 (nthD (Array.toList cs65) (2 : Nat)) fun x68 => opI IntKind.u64 (nthD (Array.toList cs65) (3 : Nat)) fun x69 => SzIs (Array.size cs65) (4 : Nat) (CallW
  Try.prog [n51, n6] (51 : Nat) #[Value.agg #[Value.int IntKind.u64 x66, Value.int IntKind.u64 x67, Value.int IntKind.u64 x68, Value.int IntKind.u64 x69]] (fun v70 w71 =>
  opAg v70 fun cs72 => opI IntKind.u8 (nthD (Array.toList cs72) (0 : Nat)) fun x73 => opI IntKind.u64 (nthD (Array.toList cs72) (1 : Nat)) fun x74 => opI IntKind.u64
  (nthD (Array.toList cs72) (2 : Nat)) fun x75 => opI IntKind.u64 (nthD (Array.toList cs72) (3 : Nat)) fun x76 => opI IntKind.u64 (nthD (Array.toList cs72) (4 : Nat)) fun
  x77 => opL (nthD (Array.toList cs72) (5 : Nat)) fun a78 n79 n80 => SzIs (Array.size cs72) (6 : Nat) (Nw (Obj.cells #[Value.int IntKind.u8 x73, Value.int IntKind.u64
  x74, Value.int IntKind.u64 x75, Value.int IntKind.u64 x76, Value.int IntKind.u64 x77, Value.slice a78 n79 n80] (42 : Nat)) w71 fun n81 w82 => CallW Try.prog [n51, n6]
  (40 : Nat) #[Value.slice (some { block := n81, off := (0 : Nat) }) (1 : Nat) (1 : Nat)] (fun v83 w84 => opTu v83 fun cs85 => opBig (nthD (Array.toList cs85) (0 : Nat))
  fun cs86 => Array.size cs86 = (257 : Nat) ∧ opI IntKind.i64 (nthD (Array.toList cs85) (1 : Nat)) fun x87 => SzIs (Array.size cs85) (2 : Nat) (Array.size cs86 = (257 :
  Nat) ∧ Rg w84 fun n88 => OkC (Array.toList cs86) (257 : Nat) (Jn (fun l89 l90 w91 => opB (nthD l89 (0 : Nat)) fun b92 => R (Value.bool b92) w91) fun J93 => Up [n88]
  [n88, n51, n6] w84 fun w94 => Bd (IntKind.wrap IntKind.i64 (x5 + x50)) fun x95 => Bd (x95 == (0 : Int)) fun b96 => Bd (x87 == (2 : Int)) fun b97 => Bd (bif b96 then b97
  else false) fun b98 => (b98 = true → isI IntKind.i64 (Array.toList cs4) (256 : Nat)) ∧ Bd (rdI (Array.toList cs4) (256 : Nat)) fun x100 => Bd (x100 == (1 : Int)) fun
  b101 => Bd (bif b98 then b101 else false) fun b102 => Bd (x61 == (0 : Int)) fun b103 => Bd (bif b102 then b103 else false) fun b104 => Bd (bif b104 then b62 else false)
  fun b105 => (b105 = true → isI IntKind.i64 (Array.toList cs49) (256 : Nat)) ∧ Bd (rdI (Array.toList cs49) (256 : Nat)) fun x107 => Bd (x107 == (3 : Int)) fun b108 => Bd
  (bif b105 then b108 else false) fun b109 => (b109 = true → isI IntKind.u8 (Array.toList cs49) (97 : Nat)) ∧ Bd (rdI (Array.toList cs49) (97 : Nat)) fun x111 => Bd (x111
  == (1 : Int)) fun b112 => Bd (bif b109 then b112 else false) fun b113 => (b113 = true → isI IntKind.u8 (Array.toList cs49) (98 : Nat)) ∧ Bd (rdI (Array.toList cs49) (98
  : Nat)) fun x115 => Bd (x115 == (2 : Int)) fun b116 => Bd (bif b113 then b116 else false) fun b117 => (b117 = true → isI IntKind.u8 (Array.toList cs49) (99 : Nat)) ∧ Bd
  (rdI (Array.toList cs49) (99 : Nat)) fun x119 => Bd (x119 == (0 : Int)) fun b120 => Bd (bif b117 then b120 else false) fun b121 => (b121 = true → isI IntKind.u8
  (Array.toList cs49) (0 : Nat)) ∧ Bd (rdI (Array.toList cs49) (0 : Nat)) fun x123 => Bd (x123 == (0 : Int)) fun b124 => Bd (bif b121 then b124 else false) fun b125 => Bd
  (bif b125 then b57 else false) fun b126 => Bd (x56 == (98 : Int)) fun b127 => Bd (bif b126 then b127 else false) fun b128 => (b128 = true → Array.size cs49 = (257 :
  Nat)) ∧ Gd b128 [Value.int IntKind.u64 (0 : Int), Value.int IntKind.u64 (0 : Int), Value.int IntKind.u64 (0 : Int), Value.int IntKind.u64 (0 : Int)] (fun J130 => CallW
  Try.prog [n88, n51, n6] (52 : Nat) #[Value.string { data := #[(97 : UInt8), (98 : UInt8)] }] (fun v131 w132 => opAg v131 fun cs133 => opI IntKind.u64 (nthD
  (Array.toList cs133) (0 : Nat)) fun x134 => opI IntKind.u64 (nthD (Array.toList cs133) (1 : Nat)) fun x135 => opI IntKind.u64 (nthD (Array.toList cs133) (2 : Nat)) fun
  x136 => opI IntKind.u64 (nthD (Array.toList cs133) (3 : Nat)) fun x137 => SzIs (Array.size cs133) (4 : Nat) (J130 [Value.int IntKind.u64 x134, Value.int IntKind.u64
  x135, Value.int IntKind.u64 x136, Value.int IntKind.u64 x137] w132)) (World.drew w94)) (fun l138 w139 => opI IntKind.u64 (nthD l138 (0 : Nat)) fun x140 => opI
  IntKind.u64 (nthD l138 (1 : Nat)) fun x141 => opI IntKind.u64 (nthD l138 (2 : Nat)) fun x142 => opI IntKind.u64 (nthD l138 (3 : Nat)) fun x143 => SzIs (List.length
  l138) (4 : Nat) (Gd b128 false (fun J144 => CallW Try.prog [n88, n51, n6] (46 : Nat) #[Value.agg cs49, Value.agg #[Value.int IntKind.u64 x140, Value.int IntKind.u64
  x141, Value.int IntKind.u64 x142, Value.int IntKind.u64 x143]] (fun v145 w146 => opB v145 fun b147 => J144 b147 w146) w139) (fun b148 w149 => Bd (bif b128 then b148
  else false) fun b150 => (b150 = true → Array.size cs49 = (257 : Nat)) ∧ Gd b150 [Value.int IntKind.u64 (0 : Int), Value.int IntKind.u64 (0 : Int), Value.int IntKind.u64
  (0 : Int), Value.int IntKind.u64 (0 : Int)] (fun J152 => CallW Try.prog [n88, n51, n6] (52 : Nat) #[Value.string { data := #[(98 : UInt8), (99 : UInt8)] }] (fun v153
  w154 => opAg v153 fun cs155 => opI IntKind.u64 (nthD (Array.toList cs155) (0 : Nat)) fun x156 => opI IntKind.u64 (nthD (Array.toList cs155) (1 : Nat)) fun x157 => opI
  IntKind.u64 (nthD (Array.toList cs155) (2 : Nat)) fun x158 => opI IntKind.u64 (nthD (Array.toList cs155) (3 : Nat)) fun x159 => SzIs (Array.size cs155) (4 : Nat) (J152
  [Value.int IntKind.u64 x156, Value.int IntKind.u64 x157, Value.int IntKind.u64 x158, Value.int IntKind.u64 x159] w154)) w149) (fun l160 w161 => opI IntKind.u64 (nthD
  l160 (0 : Nat)) fun x162 => opI IntKind.u64 (nthD l160 (1 : Nat)) fun x163 => opI IntKind.u64 (nthD l160 (2 : Nat)) fun x164 => opI IntKind.u64 (nthD l160 (3 : Nat))
  fun x165 => SzIs (List.length l160) (4 : Nat) (Gd b150 false (fun J166 => CallW Try.prog [n88, n51, n6] (46 : Nat) #[Value.agg cs49, Value.agg #[Value.int IntKind.u64
  x162, Value.int IntKind.u64 x163, Value.int IntKind.u64 x164, Value.int IntKind.u64 x165]] (fun v167 w168 => opB v167 fun b169 => J166 b169 w168) w161) (fun b170 w171
  => Bd (!b170) fun b172 => Bd (bif b150 then b172 else false) fun b173 => J93 [Value.bool b173] [] w171) w161)) w149) w139)) (World.drew w94)))) w82)) w64)) w59)) w54))
  w52))) w45)) w27)) w16)) w9)) w7))) w
theorem f39_eq (R : Value → World → Prop) (w : World) : fnW Try.prog [1, 3, 9] Try.f39 [] R w = f39_vc R w := by kernel_rfl
theorem f39_in (R : Value → World → Prop) (w : World) (h : f39_vc R w) : Ct Try.prog 39 #[] w R := by
  refine Ct_of (rk := [1, 3, 9]) (fn := Try.f39) (args := []) mixedT Try.func39 (by kernel_rfl) ?_
  rw [f39_eq]
  exact h
def f3_vc (p0a : Option Addr) (p0n : Nat) (p0c : Nat) (p1 : Array Value) (p2 : Int) (p3_0 : Int) (p3_1 : Int) (p3_2 : Int) (p3_3 : Int) (R : Value → World → Prop) (w :
  World) : Prop := Rg w fun n1 => Rg w fun n2 => Up [] [n2, n1] w fun w3 => CallW Try.prog [n2, n1] (38 : Nat) #[Value.slice p0a p0n p0c] (fun v4 w5 => opB v4 fun b6 =>
  Bd (!b6) fun b7 => If b7 (CallW Try.prog [n2, n1] (39 : Nat) #[] (fun v8 w9 => opB v8 fun b10 => R (Value.bool b10) w9) w5) (CallW Try.prog [n2, n1] (40 : Nat)
  #[Value.slice p0a p0n p0c] (fun v11 w12 => opTu v11 fun cs13 => opBig (nthD (Array.toList cs13) (0 : Nat)) fun cs14 => Array.size cs14 = (257 : Nat) ∧ opI IntKind.i64
  (nthD (Array.toList cs13) (1 : Nat)) fun x15 => SzIs (Array.size cs13) (2 : Nat) (Array.size cs14 = (257 : Nat) ∧ Rg w12 fun n16 => OkC (Array.toList cs14) (257 : Nat)
  (Up [n16] [n16, n2, n1] w12 fun w17 => CallW Try.prog [n16, n2, n1] (41 : Nat) #[Value.slice p0a p0n p0c] (fun v18 w19 => opTu v18 fun cs20 => opBig (nthD (Array.toList
  cs20) (0 : Nat)) fun cs21 => Array.size cs21 = (257 : Nat) ∧ opI IntKind.i64 (nthD (Array.toList cs20) (1 : Nat)) fun x22 => SzIs (Array.size cs20) (2 : Nat)
  (Array.size cs21 = (257 : Nat) ∧ Rg w19 fun n23 => OkC (Array.toList cs21) (257 : Nat) (Array.size cs14 = (257 : Nat) ∧ Array.size cs21 = (257 : Nat) ∧ Up [n23] [n23,
  n16, n2, n1] w19 fun w24 => RunW Try.prog [n23, n16, n2, n1] (eqS BinOp.neq (25 : Nat) (Operand.tmp (33 : Nat)) (Operand.tmp (34 : Nat)) (Value.agg cs14) (Value.agg
  cs21)) (fun v25 w26 => opB v25 fun b27 => Bd (x15 != x22) fun b28 => Bd (bif b27 then true else b28) fun b29 => If b29 (R (Value.bool false) w26) (Array.size p1 = (257
  : Nat) ∧ Array.size cs21 = (257 : Nat) ∧ SzIs (Array.size p1) (257 : Nat) (SzIs (Array.size cs21) (257 : Nat) (Nw (Obj.cells (List.toArray (flat [((0 : Nat), Value.agg
  p1), ((1 : Nat), Value.agg cs21)])) (25 : Nat)) w26 fun n30 w31 => Bd ↑(2 : Nat) fun x32 => LoopP (fun l33 l34 J35 w36 => opB (nthD l33 (0 : Nat)) fun b37 => opI
  IntKind.i64 (nthD l33 (1 : Nat)) fun x38 => Bd (decide (x38 < x32)) fun b39 => If b39 (IxOk x38 (2 : Nat) (some { block := n30, off := (0 : Nat) }) ∧ LdN w36 (adAt
  (some { block := n30, off := (0 : Nat) }) x38 (257 : Nat)) (257 : Nat) fun l40 => Bd (List.toArray l40) fun cs41 => Array.size cs41 = (257 : Nat) ∧ Rg w36 fun n42 =>
  OkC (Array.toList cs41) (257 : Nat) (Array.size cs41 = (257 : Nat) ∧ Up [n42] [n42, n23, n16, n2, n1] w36 fun w43 => CallW Try.prog [n42, n23, n16, n2, n1] (42 : Nat)
  #[Value.agg cs41, Value.int IntKind.i64 p2] (fun v44 w45 => opTu v44 fun cs46 => opI IntKind.u8 (nthD (Array.toList cs46) (0 : Nat)) fun x47 => opB (nthD (Array.toList
  cs46) (1 : Nat)) fun b48 => SzIs (Array.size cs46) (2 : Nat) (Array.size cs41 = (257 : Nat) ∧ CallW Try.prog [n42, n23, n16, n2, n1] (43 : Nat) #[Value.agg cs41,
  Value.int IntKind.i64 p2] (fun v49 w50 => opTu v49 fun cs51 => opI IntKind.u8 (nthD (Array.toList cs51) (0 : Nat)) fun x52 => opB (nthD (Array.toList cs51) (1 : Nat))
  fun b53 => SzIs (Array.size cs51) (2 : Nat) (Jn (fun l54 l55 w56 => opB (nthD l54 (0 : Nat)) fun b57 => If b57 (R (Value.bool false) w56) (Bd (IntKind.wrap IntKind.i64
  (x38 + (1 : Int))) fun x58 => J35 [Value.bool b37, Value.int IntKind.i64 x58] [] w56)) fun J59 => Array.size cs41 = (257 : Nat) ∧ Array.size cs41 = (257 : Nat) ∧ CallW
  Try.prog [n42, n23, n16, n2, n1] (44 : Nat) #[Value.agg cs41] (fun v60 w61 => opB v60 fun b62 => CallW Try.prog [n42, n23, n16, n2, n1] (45 : Nat) #[Value.agg cs41]
  (fun v63 w64 => opB v63 fun b65 => Bd (!b62 == b65) fun b66 => Bd (x47 != x52) fun b67 => Bd (bif b66 then true else b67) fun b68 => Bd (!b48 == b53) fun b69 => Bd (bif
  b68 then true else b69) fun b70 => ((!b70) = true → Array.size cs41 = (257 : Nat)) ∧ ((!b70) = true → Array.size cs41 = (257 : Nat)) ∧ Gd (!b70) false (fun J73 => CallW
  Try.prog [n42, n23, n16, n2, n1] (46 : Nat) #[Value.agg cs41, Value.agg #[Value.int IntKind.u64 p3_0, Value.int IntKind.u64 p3_1, Value.int IntKind.u64 p3_2, Value.int
  IntKind.u64 p3_3]] (fun v74 w75 => opB v74 fun b76 => J73 b76 w75) w64) (fun b77 w78 => Gd (!b70) false (fun J79 => CallW Try.prog [n42, n23, n16, n2, n1] (47 : Nat)
  #[Value.agg cs41, Value.agg #[Value.int IntKind.u64 p3_0, Value.int IntKind.u64 p3_1, Value.int IntKind.u64 p3_2, Value.int IntKind.u64 p3_3]] (fun v80 w81 => opB v80
  fun b82 => J79 b82 w81) w78) (fun b83 w84 => Bd (!b77 == b83) fun b85 => Bd (bif b70 then true else b85) fun b86 => J59 [Value.bool b86] [] w84) w78) w64) w61)
  (World.drew w50))) w45)) w43)) (CallW Try.prog [n23, n16, n2, n1] (39 : Nat) #[] (fun v87 w88 => opB v87 fun b89 => R (Value.bool b89) w88) w36)) [Value.bool false,
  Value.int IntKind.i64 (0 : Int)] [] w31)))) w24))) w17))) w5)) w3
theorem f3_eq (p0a : Option Addr) (p0n : Nat) (p0c : Nat) (p1 : Array Value) (p2 : Int) (p3_0 : Int) (p3_1 : Int) (p3_2 : Int) (p3_3 : Int) (R : Value → World → Prop) (w
  : World) : fnW Try.prog [5, 7, 9, 11, 14] Try.f3 [Value.slice p0a p0n p0c, Value.agg p1, Value.int IntKind.i64 p2, Value.agg #[Value.int IntKind.u64 p3_0, Value.int
  IntKind.u64 p3_1, Value.int IntKind.u64 p3_2, Value.int IntKind.u64 p3_3]] R w = f3_vc p0a p0n p0c p1 p2 p3_0 p3_1 p3_2 p3_3 R w := by kernel_rfl
theorem f3_in (p0a : Option Addr) (p0n : Nat) (p0c : Nat) (p1 : Array Value) (p2 : Int) (p3_0 : Int) (p3_1 : Int) (p3_2 : Int) (p3_3 : Int) (R : Value → World → Prop) (w
  : World) (h : f3_vc p0a p0n p0c p1 p2 p3_0 p3_1 p3_2 p3_3 R w) : Ct Try.prog 3 #[Value.slice p0a p0n p0c, Value.agg p1, Value.int IntKind.i64 p2, Value.agg #[Value.int
  IntKind.u64 p3_0, Value.int IntKind.u64 p3_1, Value.int IntKind.u64 p3_2, Value.int IntKind.u64 p3_3]] w R := by
  refine Ct_of (rk := [5, 7, 9, 11, 14]) (fn := Try.f3) (args := [Value.slice p0a p0n p0c, Value.agg p1, Value.int IntKind.i64 p2, Value.agg #[Value.int IntKind.u64 p3_0, Value.int IntKind.u64 p3_1, Value.int IntKind.u64 p3_2, Value.int IntKind.u64 p3_3]]) mixedT Try.func3 (by kernel_rfl) ?_
  rw [f3_eq]
  exact h
def f4_vc (p0a : Option Addr) (p0n : Nat) (p0c : Nat) (p1 : Int) (p2 : Int) (R : Value → World → Prop) (w : World) : Prop := CallW Try.prog [] (38 : Nat) #[Value.slice
  p0a p0n p0c] (fun v1 w2 => opB v1 fun b3 => Bd (!b3) fun b4 => If b4 (CallW Try.prog [] (39 : Nat) #[] (fun v5 w6 => opB v5 fun b7 => R (Value.bool b7) w6) w2) (CallW
  Try.prog [] (48 : Nat) #[Value.slice p0a p0n p0c] (fun v8 w9 => opL v8 fun a10 n11 n12 => CallW Try.prog [] (40 : Nat) #[Value.slice a10 n11 n12] (fun v13 w14 => opTu
  v13 fun cs15 => opBig (nthD (Array.toList cs15) (0 : Nat)) fun cs16 => Array.size cs16 = (257 : Nat) ∧ opI IntKind.i64 (nthD (Array.toList cs15) (1 : Nat)) fun x17 =>
  SzIs (Array.size cs15) (2 : Nat) (Array.size cs16 = (257 : Nat) ∧ Rg w14 fun n18 => OkC (Array.toList cs16) (257 : Nat) (Bd (x17 != (0 : Int)) fun b19 => ((!b19) = true
  → Array.size cs16 = (257 : Nat)) ∧ Up [n18] [n18] w14 fun w21 => Gd (!b19) false (fun J22 => CallW Try.prog [n18] (44 : Nat) #[Value.agg cs16] (fun v23 w24 => opB v23
  fun b25 => J22 b25 w24) w21) (fun b26 w27 => Bd (!b26) fun b28 => Bd (bif b19 then true else b28) fun b29 => If b29 (R (Value.bool false) w27) (Bd ↑n11 fun x30 => LoopP
  (fun l31 l32 J33 w34 => opB (nthD l31 (0 : Nat)) fun b35 => opB (nthD l31 (1 : Nat)) fun b36 => opI IntKind.i64 (nthD l31 (2 : Nat)) fun x37 => Bd (decide (x37 < x30))
  fun b38 => If b38 (IxOk x37 n11 a10 ∧ Ld w34 (Addr.add (adAt a10 x37 (6 : Nat)) (0 : Nat)) fun v39 => Ld w34 (Addr.add (adAt a10 x37 (6 : Nat)) (1 : Nat)) fun v40 => Ld
  w34 (Addr.add (adAt a10 x37 (6 : Nat)) (2 : Nat)) fun v41 => Ld w34 (Addr.add (adAt a10 x37 (6 : Nat)) (3 : Nat)) fun v42 => Ld w34 (Addr.add (adAt a10 x37 (6 : Nat))
  (4 : Nat)) fun v43 => Ld w34 (Addr.add (adAt a10 x37 (6 : Nat)) (5 : Nat)) fun v44 => opI IntKind.u8 v39 fun x45 => opI IntKind.u64 v40 fun x46 => opI IntKind.u64 v41
  fun x47 => opI IntKind.u64 v42 fun x48 => opI IntKind.u64 v43 fun x49 => opL v44 fun a50 n51 n52 => Rg w34 fun n53 => Up [n53] [n53, n18] w34 fun w54 => CallW Try.prog
  [n53, n18] (49 : Nat) #[Value.agg #[Value.int IntKind.u8 x45, Value.int IntKind.u64 x46, Value.int IntKind.u64 x47, Value.int IntKind.u64 x48, Value.int IntKind.u64
  x49, Value.slice a50 n51 n52], Value.slice none (0 : Nat) (0 : Nat)] (fun v55 w56 => opL v55 fun a57 n58 n59 => Bd ↑n58 fun x60 => LoopP (fun l61 l62 J63 w64 => opB
  (nthD l61 (0 : Nat)) fun b65 => opB (nthD l61 (1 : Nat)) fun b66 => opI IntKind.i64 (nthD l61 (2 : Nat)) fun x67 => Bd (decide (x67 < x60)) fun b68 => If b68 (IxOk x67
  n58 a57 ∧ Ld w64 (Addr.add (adAt a57 x67 (4 : Nat)) (0 : Nat)) fun v69 => Ld w64 (Addr.add (adAt a57 x67 (4 : Nat)) (1 : Nat)) fun v70 => Ld w64 (Addr.add (adAt a57 x67
  (4 : Nat)) (2 : Nat)) fun v71 => Ld w64 (Addr.add (adAt a57 x67 (4 : Nat)) (3 : Nat)) fun v72 => opI IntKind.u64 v69 fun x73 => opI IntKind.u64 v70 fun x74 => opI
  IntKind.u64 v71 fun x75 => opI IntKind.u64 v72 fun x76 => Rg w64 fun n77 => Jn (fun l78 l79 w80 => opB (nthD l78 (0 : Nat)) fun b81 => Array.size cs16 = (257 : Nat) ∧
  CallW Try.prog [n77, n53, n18] (46 : Nat) #[Value.agg cs16, Value.agg #[Value.int IntKind.u64 x73, Value.int IntKind.u64 x74, Value.int IntKind.u64 x75, Value.int
  IntKind.u64 x76]] (fun v82 w83 => opB v82 fun b84 => Bd (!b84) fun b85 => If b85 (R (Value.bool false) w83) (Bd (IntKind.wrap IntKind.i64 (x67 + (1 : Int))) fun x86 =>
  J63 [Value.bool b81, Value.bool b66, Value.int IntKind.i64 x86] [] w83)) w80) fun J87 => Up [n77] [n77, n53, n18] w64 fun w88 => Gd b65 false (fun J89 => CallW Try.prog
  [n77, n53, n18] (50 : Nat) #[Value.agg #[Value.int IntKind.u64 x73, Value.int IntKind.u64 x74, Value.int IntKind.u64 x75, Value.int IntKind.u64 x76], Value.int
  IntKind.u8 p1] (fun v90 w91 => opB v90 fun b92 => J89 b92 w91) (World.drew w88)) (fun b93 w94 => Gd b65 false (fun J95 => CallW Try.prog [n77, n53, n18] (50 : Nat)
  #[Value.agg #[Value.int IntKind.u64 x73, Value.int IntKind.u64 x74, Value.int IntKind.u64 x75, Value.int IntKind.u64 x76], Value.int IntKind.u8 p2] (fun v96 w97 => opB
  v96 fun b98 => J95 b98 w97) w94) (fun b99 w100 => Bd (b93 == b99) fun b101 => Bd (bif b65 then b101 else false) fun b102 => J87 [Value.bool b102] [] w100) w94)
  (World.drew w88)) (Bd (IntKind.wrap IntKind.i64 (x37 + (1 : Int))) fun x103 => J33 [Value.bool b65, Value.bool b66, Value.int IntKind.i64 x103] [] w64)) [Value.bool
  b35, Value.bool b36, Value.int IntKind.i64 (0 : Int)] [] w56) w54) (((0 : Int) ≤ p1 ∧ p1 < ↑(256 : Nat)) ∧ BdO (nthV (Array.toList cs16) ((0 : Nat) + Int.toNat p1 * (1
  : Nat))) fun v104 => opI IntKind.u8 v104 fun x105 => ((0 : Int) ≤ p2 ∧ p2 < ↑(256 : Nat)) ∧ BdO (nthV (Array.toList cs16) ((0 : Nat) + Int.toNat p2 * (1 : Nat))) fun
  v106 => opI IntKind.u8 v106 fun x107 => Bd (x105 == x107) fun b108 => Bd (b108 == b35) fun b109 => Gd b109 false (fun J110 => CallW Try.prog [n18] (39 : Nat) #[] (fun
  v111 w112 => opB v111 fun b113 => J110 b113 w112) (World.drew w34)) (fun b114 w115 => Bd (bif b109 then b114 else false) fun b116 => R (Value.bool b116) w115)
  (World.drew w34))) [Value.bool true, Value.bool false, Value.int IntKind.i64 (0 : Int)] [] w27)) w21))) w9) w2)) w
theorem f4_eq (p0a : Option Addr) (p0n : Nat) (p0c : Nat) (p1 : Int) (p2 : Int) (R : Value → World → Prop) (w : World) : fnW Try.prog [7, 11, 13] Try.f4 [Value.slice p0a
  p0n p0c, Value.int IntKind.u8 p1, Value.int IntKind.u8 p2] R w = f4_vc p0a p0n p0c p1 p2 R w := by kernel_rfl
theorem f4_in (p0a : Option Addr) (p0n : Nat) (p0c : Nat) (p1 : Int) (p2 : Int) (R : Value → World → Prop) (w : World) (h : f4_vc p0a p0n p0c p1 p2 R w) : Ct Try.prog 4
  #[Value.slice p0a p0n p0c, Value.int IntKind.u8 p1, Value.int IntKind.u8 p2] w R := by
  refine Ct_of (rk := [7, 11, 13]) (fn := Try.f4) (args := [Value.slice p0a p0n p0c, Value.int IntKind.u8 p1, Value.int IntKind.u8 p2]) mixedT Try.func4 (by kernel_rfl) ?_
  rw [f4_eq]
  exact h
def f5_vc (p0a : Option Addr) (p0n : Nat) (p0c : Nat) (p1 : Int) (p2 : Int) (p3 : Int) (R : Value → World → Prop) (w : World) : Prop := CallW Try.prog [] (38 : Nat)
  #[Value.slice p0a p0n p0c] (fun v1 w2 => opB v1 fun b3 => Bd (!b3) fun b4 => If b4 (CallW Try.prog [] (39 : Nat) #[] (fun v5 w6 => opB v5 fun b7 => R (Value.bool b7)
  w6) w2) (CallW Try.prog [] (48 : Nat) #[Value.slice p0a p0n p0c] (fun v8 w9 => opL v8 fun a10 n11 n12 => Jn (fun l13 l14 w15 => opI IntKind.i64 (nthD l13 (0 : Nat)) fun
  x16 => RunW Try.prog [] (Instr.sliceAt (22 : Nat) (Value.slice a10 n11 n12) none (some (Value.int IntKind.i64 x16)) none) (fun v17 w18 => opL v17 fun a19 n20 n21 =>
  CallW Try.prog [] (40 : Nat) #[Value.slice a19 n20 n21] (fun v22 w23 => opTu v22 fun cs24 => opBig (nthD (Array.toList cs24) (0 : Nat)) fun cs25 => Array.size cs25 =
  (257 : Nat) ∧ opI IntKind.i64 (nthD (Array.toList cs24) (1 : Nat)) fun x26 => SzIs (Array.size cs24) (2 : Nat) (Array.size cs25 = (257 : Nat) ∧ Rg w23 fun n27 => OkC
  (Array.toList cs25) (257 : Nat) (Up [n27] [n27] w23 fun w28 => CallW Try.prog [n27] (40 : Nat) #[Value.slice a10 n11 n12] (fun v29 w30 => opTu v29 fun cs31 => opBig
  (nthD (Array.toList cs31) (0 : Nat)) fun cs32 => Array.size cs32 = (257 : Nat) ∧ opI IntKind.i64 (nthD (Array.toList cs31) (1 : Nat)) fun x33 => SzIs (Array.size cs31)
  (2 : Nat) (Array.size cs32 = (257 : Nat) ∧ Rg w30 fun n34 => OkC (Array.toList cs32) (257 : Nat) (Up [n34] [n34, n27] w30 fun w35 => Bd (x26 != (0 : Int)) fun b36 => Bd
  (x33 != (0 : Int)) fun b37 => Bd (bif b36 then true else b37) fun b38 => ((!b38) = true → isI IntKind.i64 (Array.toList cs32) (256 : Nat)) ∧ Bd (rdI (Array.toList cs32)
  (256 : Nat)) fun x40 => Bd (decide (x40 < (1 : Int))) fun b41 => Bd (bif b38 then true else b41) fun b42 => ((!b42) = true → isI IntKind.i64 (Array.toList cs32) (256 :
  Nat)) ∧ Bd (rdI (Array.toList cs32) (256 : Nat)) fun x44 => ((!b42) = true → isI IntKind.i64 (Array.toList cs25) (256 : Nat)) ∧ Bd (rdI (Array.toList cs25) (256 : Nat))
  fun x46 => Bd (decide (x44 < x46)) fun b47 => Bd (bif b42 then true else b47) fun b48 => ((!b48) = true → (0 : Int) ≤ p2 ∧ p2 < ↑(256 : Nat)) ∧ ((!b48) = true → isI
  IntKind.u8 (Array.toList cs25) ((0 : Nat) + Int.toNat p2 * (1 : Nat))) ∧ Bd (rdI (Array.toList cs25) ((0 : Nat) + Int.toNat p2 * (1 : Nat))) fun x51 => ((!b48) = true →
  (0 : Int) ≤ p3 ∧ p3 < ↑(256 : Nat)) ∧ ((!b48) = true → isI IntKind.u8 (Array.toList cs25) ((0 : Nat) + Int.toNat p3 * (1 : Nat))) ∧ Bd (rdI (Array.toList cs25) ((0 :
  Nat) + Int.toNat p3 * (1 : Nat))) fun x54 => Bd (x51 != x54) fun b55 => ((!b48 && b55) = true → (0 : Int) ≤ p2 ∧ p2 < ↑(256 : Nat)) ∧ ((!b48 && b55) = true → isI
  IntKind.u8 (Array.toList cs32) ((0 : Nat) + Int.toNat p2 * (1 : Nat))) ∧ Bd (rdI (Array.toList cs32) ((0 : Nat) + Int.toNat p2 * (1 : Nat))) fun x58 => ((!b48 && b55) =
  true → (0 : Int) ≤ p3 ∧ p3 < ↑(256 : Nat)) ∧ ((!b48 && b55) = true → isI IntKind.u8 (Array.toList cs32) ((0 : Nat) + Int.toNat p3 * (1 : Nat))) ∧ Bd (rdI (Array.toList
  cs32) ((0 : Nat) + Int.toNat p3 * (1 : Nat))) fun x61 => Bd (x58 == x61) fun b62 => Bd (bif b55 then b62 else false) fun b63 => Bd (bif b48 then true else b63) fun b64
  => If b64 (R (Value.bool false) (World.drew w35)) (Bd (IntKind.wrap IntKind.i64 p2) fun x65 => BdO (nthV (Array.toList cs32) (256 : Nat)) fun v66 => opI IntKind.i64 v66
  fun x67 => x67 ≠ (0 : Int) ∧ Bd (Int.tmod x65 x67) fun x68 => Array.size cs32 = (257 : Nat) ∧ CallW Try.prog [n34, n27] (42 : Nat) #[Value.agg cs32, Value.int
  IntKind.i64 x68] (fun v69 w70 => opTu v69 fun cs71 => opI IntKind.u8 (nthD (Array.toList cs71) (0 : Nat)) fun x72 => opB (nthD (Array.toList cs71) (1 : Nat)) fun b73 =>
  SzIs (Array.size cs71) (2 : Nat) (Bd (!b73) fun b74 => ((!b74) = true → (0 : Int) ≤ x72 ∧ x72 < ↑(256 : Nat)) ∧ ((!b74) = true → isI IntKind.u8 (Array.toList cs32) ((0
  : Nat) + Int.toNat x72 * (1 : Nat))) ∧ Bd (rdI (Array.toList cs32) ((0 : Nat) + Int.toNat x72 * (1 : Nat))) fun x77 => Bd (IntKind.wrap IntKind.i64 x77) fun x78 => Bd
  (x78 != x68) fun b79 => Bd (bif b74 then true else b79) fun b80 => Bd (IntKind.wrap IntKind.i64 p3) fun x81 => Bd (IntKind.wrap IntKind.i64 x72) fun x82 => Bd (decide
  (x81 < x82)) fun b83 => ((!b80 && b83) = true → (0 : Int) ≤ p3 ∧ p3 < ↑(256 : Nat)) ∧ ((!b80 && b83) = true → isI IntKind.u8 (Array.toList cs32) ((0 : Nat) + Int.toNat
  p3 * (1 : Nat))) ∧ Bd (rdI (Array.toList cs32) ((0 : Nat) + Int.toNat p3 * (1 : Nat))) fun x86 => Bd (IntKind.wrap IntKind.i64 x86) fun x87 => Bd (decide (x87 ≥ x68))
  fun b88 => Bd (bif b83 then b88 else false) fun b89 => Bd (bif b80 then true else b89) fun b90 => If b90 (R (Value.bool false) w70) (Array.size cs32 = (257 : Nat) ∧ BdO
  (nthV (Array.toList cs32) (256 : Nat)) fun v91 => opI IntKind.i64 v91 fun x92 => CallW Try.prog [n34, n27] (42 : Nat) #[Value.agg cs32, Value.int IntKind.i64 x92] (fun
  v93 w94 => opTu v93 fun cs95 => opI IntKind.u8 (nthD (Array.toList cs95) (0 : Nat)) fun x96 => opB (nthD (Array.toList cs95) (1 : Nat)) fun b97 => SzIs (Array.size
  cs95) (2 : Nat) (Array.size cs32 = (257 : Nat) ∧ CallW Try.prog [n34, n27] (42 : Nat) #[Value.agg cs32, Value.int IntKind.i64 (-1 : Int)] (fun v98 w99 => opTu v98 fun
  cs100 => opI IntKind.u8 (nthD (Array.toList cs100) (0 : Nat)) fun x101 => opB (nthD (Array.toList cs100) (1 : Nat)) fun b102 => SzIs (Array.size cs100) (2 : Nat) (Bd
  (!b97) fun b103 => Bd (!b102) fun b104 => Bd (bif b103 then b104 else false) fun b105 => Gd b105 false (fun J106 => CallW Try.prog [n34, n27] (39 : Nat) #[] (fun v107
  w108 => opB v107 fun b109 => J106 b109 w108) w99) (fun b110 w111 => Bd (bif b105 then b110 else false) fun b112 => R (Value.bool b112) w111) w99)) w94)) w70)))
  (World.drew w35))))) w28))) w18) w15) fun J113 => Bd ↑n11 fun x114 => Bd (decide (x114 > (0 : Int))) fun b115 => If b115 (Bd (IntKind.wrap IntKind.i64 p1) fun x116 =>
  Bd ↑n11 fun x117 => Bd (IntKind.wrap IntKind.i64 (x117 + (1 : Int))) fun x118 => x118 ≠ (0 : Int) ∧ Bd (Int.tmod x116 x118) fun x119 => J113 [Value.int IntKind.i64
  x119] [] w9) (J113 [Value.int IntKind.i64 (0 : Int)] [] w9)) w2)) w
theorem f5_eq (p0a : Option Addr) (p0n : Nat) (p0c : Nat) (p1 : Int) (p2 : Int) (p3 : Int) (R : Value → World → Prop) (w : World) : fnW Try.prog [10, 12] Try.f5
  [Value.slice p0a p0n p0c, Value.int IntKind.u8 p1, Value.int IntKind.u8 p2, Value.int IntKind.u8 p3] R w = f5_vc p0a p0n p0c p1 p2 p3 R w := by kernel_rfl
theorem f5_in (p0a : Option Addr) (p0n : Nat) (p0c : Nat) (p1 : Int) (p2 : Int) (p3 : Int) (R : Value → World → Prop) (w : World) (h : f5_vc p0a p0n p0c p1 p2 p3 R w) :
  Ct Try.prog 5 #[Value.slice p0a p0n p0c, Value.int IntKind.u8 p1, Value.int IntKind.u8 p2, Value.int IntKind.u8 p3] w R := by
  refine Ct_of (rk := [10, 12]) (fn := Try.f5) (args := [Value.slice p0a p0n p0c, Value.int IntKind.u8 p1, Value.int IntKind.u8 p2, Value.int IntKind.u8 p3]) mixedT Try.func5 (by kernel_rfl) ?_
  rw [f5_eq]
  exact h
def f6_vc (p0a : Option Addr) (p0n : Nat) (p0c : Nat) (p1 : Int) (R : Value → World → Prop) (w : World) : Prop := CallW Try.prog [] (38 : Nat) #[Value.slice p0a p0n p0c]
  (fun v1 w2 => opB v1 fun b3 => Bd (!b3) fun b4 => If b4 (CallW Try.prog [] (39 : Nat) #[] (fun v5 w6 => opB v5 fun b7 => R (Value.bool b7) w6) w2) (CallW Try.prog []
  (48 : Nat) #[Value.slice p0a p0n p0c] (fun v8 w9 => opL v8 fun a10 n11 n12 => CallW Try.prog [] (40 : Nat) #[Value.slice a10 n11 n12] (fun v13 w14 => opTu v13 fun cs15
  => opBig (nthD (Array.toList cs15) (0 : Nat)) fun cs16 => Array.size cs16 = (257 : Nat) ∧ opI IntKind.i64 (nthD (Array.toList cs15) (1 : Nat)) fun x17 => SzIs
  (Array.size cs15) (2 : Nat) (Array.size cs16 = (257 : Nat) ∧ Rg w14 fun n18 => OkC (Array.toList cs16) (257 : Nat) (Bd ↑n11 fun x19 => Bd (IntKind.wrap IntKind.i64 ((2
  : Int) * x19)) fun x20 => Up [n18] [n18] w14 fun w21 => LoopP (fun l22 l23 J24 w25 => opL (nthD l22 (0 : Nat)) fun a26 n27 n28 => opI IntKind.i64 (nthD l22 (1 : Nat))
  fun x29 => Bd (decide (x29 < x20)) fun b30 => If b30 (Bd (IntKind.wrap IntKind.i64 p1) fun x31 => Bd (IntKind.wrap IntKind.i64 (x29 + x31)) fun x32 => Bd ↑n11 fun x33
  => x33 ≠ (0 : Int) ∧ Bd (Int.tmod x32 x33) fun x34 => IxOk x34 n11 a10 ∧ Ld w25 (Addr.add (adAt a10 x34 (6 : Nat)) (0 : Nat)) fun v35 => Ld w25 (Addr.add (adAt a10 x34
  (6 : Nat)) (1 : Nat)) fun v36 => Ld w25 (Addr.add (adAt a10 x34 (6 : Nat)) (2 : Nat)) fun v37 => Ld w25 (Addr.add (adAt a10 x34 (6 : Nat)) (3 : Nat)) fun v38 => Ld w25
  (Addr.add (adAt a10 x34 (6 : Nat)) (4 : Nat)) fun v39 => Ld w25 (Addr.add (adAt a10 x34 (6 : Nat)) (5 : Nat)) fun v40 => opI IntKind.u8 v35 fun x41 => opI IntKind.u64
  v36 fun x42 => opI IntKind.u64 v37 fun x43 => opI IntKind.u64 v38 fun x44 => opI IntKind.u64 v39 fun x45 => opL v40 fun a46 n47 n48 => Nw (Obj.cells #[Value.int
  IntKind.u8 x41, Value.int IntKind.u64 x42, Value.int IntKind.u64 x43, Value.int IntKind.u64 x44, Value.int IntKind.u64 x45, Value.slice a46 n47 n48] (42 : Nat)) w25 fun
  n49 w50 => RunW Try.prog [n18] (Builtin.append_ #[(22 : Nat), (22 : Nat)] (22 : Nat) #[Value.slice a26 n27 n28, Value.slice (some { block := n49, off := (0 : Nat) }) (1
  : Nat) (1 : Nat)]) (fun v51 w52 => opL v51 fun a53 n54 n55 => Bd (IntKind.wrap IntKind.i64 (x29 + (1 : Int))) fun x56 => J24 [Value.slice a53 n54 n55, Value.int
  IntKind.i64 x56] [] w52) w50) (Bd ↑n11 fun x57 => LoopP (fun l58 l59 J60 w61 => opL (nthD l58 (0 : Nat)) fun a62 n63 n64 => opI IntKind.i64 (nthD l58 (1 : Nat)) fun x65
  => Bd (decide (x65 < x57)) fun b66 => If b66 (IxOk x65 n11 a10 ∧ Ld w61 (Addr.add (adAt a10 x65 (6 : Nat)) (0 : Nat)) fun v67 => Ld w61 (Addr.add (adAt a10 x65 (6 :
  Nat)) (1 : Nat)) fun v68 => Ld w61 (Addr.add (adAt a10 x65 (6 : Nat)) (2 : Nat)) fun v69 => Ld w61 (Addr.add (adAt a10 x65 (6 : Nat)) (3 : Nat)) fun v70 => Ld w61
  (Addr.add (adAt a10 x65 (6 : Nat)) (4 : Nat)) fun v71 => Ld w61 (Addr.add (adAt a10 x65 (6 : Nat)) (5 : Nat)) fun v72 => opI IntKind.u8 v67 fun x73 => opI IntKind.u64
  v68 fun x74 => opI IntKind.u64 v69 fun x75 => opI IntKind.u64 v70 fun x76 => opI IntKind.u64 v71 fun x77 => opL v72 fun a78 n79 n80 => Rg w61 fun n81 => Up [n81] [n81,
  n18] w61 fun w82 => CallW Try.prog [n81, n18] (49 : Nat) #[Value.agg #[Value.int IntKind.u8 x73, Value.int IntKind.u64 x74, Value.int IntKind.u64 x75, Value.int
  IntKind.u64 x76, Value.int IntKind.u64 x77, Value.slice a78 n79 n80], Value.slice none (0 : Nat) (0 : Nat)] (fun v83 w84 => opL v83 fun a85 n86 n87 => Bd ↑n86 fun x88
  => LoopP (fun l89 l90 J91 w92 => opL (nthD l89 (0 : Nat)) fun a93 n94 n95 => opI IntKind.i64 (nthD l89 (1 : Nat)) fun x96 => Bd (decide (x96 < x88)) fun b97 => If b97
  (IxOk x96 n86 a85 ∧ Ld w92 (Addr.add (adAt a85 x96 (4 : Nat)) (0 : Nat)) fun v98 => Ld w92 (Addr.add (adAt a85 x96 (4 : Nat)) (1 : Nat)) fun v99 => Ld w92 (Addr.add
  (adAt a85 x96 (4 : Nat)) (2 : Nat)) fun v100 => Ld w92 (Addr.add (adAt a85 x96 (4 : Nat)) (3 : Nat)) fun v101 => opI IntKind.u64 v98 fun x102 => opI IntKind.u64 v99 fun
  x103 => opI IntKind.u64 v100 fun x104 => opI IntKind.u64 v101 fun x105 => Rg w92 fun n106 => Up [n106] [n106, n81, n18] w92 fun w107 => CallW Try.prog [n106, n81, n18]
  (51 : Nat) #[Value.agg #[Value.int IntKind.u64 x102, Value.int IntKind.u64 x103, Value.int IntKind.u64 x104, Value.int IntKind.u64 x105]] (fun v108 w109 => opAg v108
  fun cs110 => opI IntKind.u8 (nthD (Array.toList cs110) (0 : Nat)) fun x111 => opI IntKind.u64 (nthD (Array.toList cs110) (1 : Nat)) fun x112 => opI IntKind.u64 (nthD
  (Array.toList cs110) (2 : Nat)) fun x113 => opI IntKind.u64 (nthD (Array.toList cs110) (3 : Nat)) fun x114 => opI IntKind.u64 (nthD (Array.toList cs110) (4 : Nat)) fun
  x115 => opL (nthD (Array.toList cs110) (5 : Nat)) fun a116 n117 n118 => SzIs (Array.size cs110) (6 : Nat) (Nw (Obj.cells #[Value.int IntKind.u8 x111, Value.int
  IntKind.u64 x112, Value.int IntKind.u64 x113, Value.int IntKind.u64 x114, Value.int IntKind.u64 x115, Value.slice a116 n117 n118] (42 : Nat)) w109 fun n119 w120 => RunW
  Try.prog [n106, n81, n18] (Builtin.append_ #[(22 : Nat), (22 : Nat)] (22 : Nat) #[Value.slice a93 n94 n95, Value.slice (some { block := n119, off := (0 : Nat) }) (1 :
  Nat) (1 : Nat)]) (fun v121 w122 => opL v121 fun a123 n124 n125 => Bd (IntKind.wrap IntKind.i64 (x96 + (1 : Int))) fun x126 => J91 [Value.slice a123 n124 n125, Value.int
  IntKind.i64 x126] [] w122) w120)) w107) (Bd (IntKind.wrap IntKind.i64 (x65 + (1 : Int))) fun x127 => J60 [Value.slice a93 n94 n95, Value.int IntKind.i64 x127] [] w92))
  [Value.slice a62 n63 n64, Value.int IntKind.i64 (0 : Int)] [] w84) w82) (CallW Try.prog [n18] (40 : Nat) #[Value.slice a26 n27 n28] (fun v128 w129 => opTu v128 fun
  cs130 => opBig (nthD (Array.toList cs130) (0 : Nat)) fun cs131 => Array.size cs131 = (257 : Nat) ∧ opI IntKind.i64 (nthD (Array.toList cs130) (1 : Nat)) fun x132 =>
  SzIs (Array.size cs130) (2 : Nat) (Array.size cs131 = (257 : Nat) ∧ Rg w129 fun n133 => OkC (Array.toList cs131) (257 : Nat) (Up [n133] [n133, n18] w129 fun w134 =>
  CallW Try.prog [n133, n18] (40 : Nat) #[Value.slice a62 n63 n64] (fun v135 w136 => opTu v135 fun cs137 => opBig (nthD (Array.toList cs137) (0 : Nat)) fun cs138 =>
  Array.size cs138 = (257 : Nat) ∧ opI IntKind.i64 (nthD (Array.toList cs137) (1 : Nat)) fun x139 => SzIs (Array.size cs137) (2 : Nat) (Array.size cs138 = (257 : Nat) ∧
  Rg w136 fun n140 => OkC (Array.toList cs138) (257 : Nat) (Bd (x17 == (0 : Int)) fun b141 => Bd (x132 == (0 : Int)) fun b142 => Bd (bif b141 then b142 else false) fun
  b143 => Bd (x139 == (0 : Int)) fun b144 => Bd (bif b143 then b144 else false) fun b145 => (b145 = true → Array.size cs16 = (257 : Nat)) ∧ (b145 = true → Array.size
  cs131 = (257 : Nat)) ∧ Up [n140] [n140, n133, n18] w136 fun w148 => Gd b145 false (fun J149 => RunW Try.prog [n140, n133, n18] (eqS BinOp.eql (25 : Nat) (Operand.tmp
  (90 : Nat)) (Operand.tmp (91 : Nat)) (Value.agg cs16) (Value.agg cs131)) (fun v150 w151 => opB v150 fun b152 => J149 b152 w151) w148) (fun b153 w154 => Bd (bif b145
  then b153 else false) fun b155 => (b155 = true → Array.size cs16 = (257 : Nat)) ∧ (b155 = true → Array.size cs138 = (257 : Nat)) ∧ Gd b155 false (fun J158 => RunW
  Try.prog [n140, n133, n18] (eqS BinOp.eql (25 : Nat) (Operand.tmp (95 : Nat)) (Operand.tmp (96 : Nat)) (Value.agg cs16) (Value.agg cs138)) (fun v159 w160 => opB v159
  fun b161 => J158 b161 w160) w154) (fun b162 w163 => Bd (bif b155 then b162 else false) fun b164 => Gd b164 false (fun J165 => CallW Try.prog [n140, n133, n18] (39 :
  Nat) #[] (fun v166 w167 => opB v166 fun b168 => J165 b168 w167) w163) (fun b169 w170 => Bd (bif b164 then b169 else false) fun b171 => R (Value.bool b171) w170) w163)
  w154) w148))) w134))) w61)) [Value.slice none (0 : Nat) (0 : Nat), Value.int IntKind.i64 (0 : Int)] [] w25)) [Value.slice none (0 : Nat) (0 : Nat), Value.int
  IntKind.i64 (0 : Int)] [] w21))) w9) w2)) w
theorem f6_eq (p0a : Option Addr) (p0n : Nat) (p0c : Nat) (p1 : Int) (R : Value → World → Prop) (w : World) : fnW Try.prog [5, 11, 13, 14, 16] Try.f6 [Value.slice p0a p0n
  p0c, Value.int IntKind.u8 p1] R w = f6_vc p0a p0n p0c p1 R w := by kernel_rfl
theorem f6_in (p0a : Option Addr) (p0n : Nat) (p0c : Nat) (p1 : Int) (R : Value → World → Prop) (w : World) (h : f6_vc p0a p0n p0c p1 R w) : Ct Try.prog 6 #[Value.slice
  p0a p0n p0c, Value.int IntKind.u8 p1] w R := by
  refine Ct_of (rk := [5, 11, 13, 14, 16]) (fn := Try.f6) (args := [Value.slice p0a p0n p0c, Value.int IntKind.u8 p1]) mixedT Try.func6 (by kernel_rfl) ?_
  rw [f6_eq]
  exact h
def f7_vc (p0_0 : Int) (p0_1 : Int) (p0_2 : Int) (p0_3 : Int) (p1 : Int) (R : Value → World → Prop) (w : World) : Prop := Rg w fun n1 => Up [] [n1] w fun w2 => RunW
  Try.prog [n1] (eqS BinOp.eql (28 : Nat) (Operand.tmp (15 : Nat)) (Operand.tmp (16 : Nat)) (Value.agg #[Value.int IntKind.u64 p0_0, Value.int IntKind.u64 p0_1, Value.int
  IntKind.u64 p0_2, Value.int IntKind.u64 p0_3]) (Value.agg #[Value.int IntKind.u64 (0 : Int), Value.int IntKind.u64 (0 : Int), Value.int IntKind.u64 (0 : Int), Value.int
  IntKind.u64 (0 : Int)])) (fun v3 w4 => opB v3 fun b5 => If b5 (CallW Try.prog [n1] (39 : Nat) #[] (fun v6 w7 => opB v6 fun b8 => R (Value.bool b8) w7) w4) (CallW
  Try.prog [n1] (51 : Nat) #[Value.agg #[Value.int IntKind.u64 p0_0, Value.int IntKind.u64 p0_1, Value.int IntKind.u64 p0_2, Value.int IntKind.u64 p0_3]] (fun v9 w10 =>
  opAg v9 fun cs11 => opI IntKind.u8 (nthD (Array.toList cs11) (0 : Nat)) fun x12 => opI IntKind.u64 (nthD (Array.toList cs11) (1 : Nat)) fun x13 => opI IntKind.u64 (nthD
  (Array.toList cs11) (2 : Nat)) fun x14 => opI IntKind.u64 (nthD (Array.toList cs11) (3 : Nat)) fun x15 => opI IntKind.u64 (nthD (Array.toList cs11) (4 : Nat)) fun x16
  => opL (nthD (Array.toList cs11) (5 : Nat)) fun a17 n18 n19 => SzIs (Array.size cs11) (6 : Nat) (Nw (Obj.cells #[Value.int IntKind.u8 x12, Value.int IntKind.u64 x13,
  Value.int IntKind.u64 x14, Value.int IntKind.u64 x15, Value.int IntKind.u64 x16, Value.slice a17 n18 n19] (42 : Nat)) w10 fun n20 w21 => CallW Try.prog [n1] (40 : Nat)
  #[Value.slice (some { block := n20, off := (0 : Nat) }) (1 : Nat) (1 : Nat)] (fun v22 w23 => opTu v22 fun cs24 => opBig (nthD (Array.toList cs24) (0 : Nat)) fun cs25 =>
  Array.size cs25 = (257 : Nat) ∧ opI IntKind.i64 (nthD (Array.toList cs24) (1 : Nat)) fun x26 => SzIs (Array.size cs24) (2 : Nat) (Array.size cs25 = (257 : Nat) ∧ Rg w23
  fun n27 => OkC (Array.toList cs25) (257 : Nat) (Jn (fun l28 l29 w30 => opI IntKind.i64 (nthD l28 (0 : Nat)) fun x31 => Bd (IntKind.wrap IntKind.i64 p1) fun x32 => LoopP
  (fun l33 l34 J35 w36 => opL (nthD l33 (0 : Nat)) fun a37 n38 n39 => opI IntKind.i64 (nthD l33 (1 : Nat)) fun x40 => Bd (decide (x40 < x32)) fun b41 => If b41 (Bd
  (IntKind.wrap IntKind.u8 x40) fun x42 => Nw (Obj.cells #[Value.int IntKind.u8 x42] (5 : Nat)) w36 fun n43 w44 => RunW Try.prog [n27, n1] (convert (51 : Nat) (9 : Nat)
  (Value.slice (some { block := n43, off := (0 : Nat) }) (1 : Nat) (1 : Nat))) (fun v45 w46 => opStr v45 fun s47 => CallW Try.prog [n27, n1] (52 : Nat) #[Value.string
  s47] (fun v48 w49 => opAg v48 fun cs50 => opI IntKind.u64 (nthD (Array.toList cs50) (0 : Nat)) fun x51 => opI IntKind.u64 (nthD (Array.toList cs50) (1 : Nat)) fun x52
  => opI IntKind.u64 (nthD (Array.toList cs50) (2 : Nat)) fun x53 => opI IntKind.u64 (nthD (Array.toList cs50) (3 : Nat)) fun x54 => SzIs (Array.size cs50) (4 : Nat)
  (CallW Try.prog [n27, n1] (51 : Nat) #[Value.agg #[Value.int IntKind.u64 x51, Value.int IntKind.u64 x52, Value.int IntKind.u64 x53, Value.int IntKind.u64 x54]] (fun v55
  w56 => opAg v55 fun cs57 => opI IntKind.u8 (nthD (Array.toList cs57) (0 : Nat)) fun x58 => opI IntKind.u64 (nthD (Array.toList cs57) (1 : Nat)) fun x59 => opI
  IntKind.u64 (nthD (Array.toList cs57) (2 : Nat)) fun x60 => opI IntKind.u64 (nthD (Array.toList cs57) (3 : Nat)) fun x61 => opI IntKind.u64 (nthD (Array.toList cs57) (4
  : Nat)) fun x62 => opL (nthD (Array.toList cs57) (5 : Nat)) fun a63 n64 n65 => SzIs (Array.size cs57) (6 : Nat) (Nw (Obj.cells #[Value.int IntKind.u8 x58, Value.int
  IntKind.u64 x59, Value.int IntKind.u64 x60, Value.int IntKind.u64 x61, Value.int IntKind.u64 x62, Value.slice a63 n64 n65] (42 : Nat)) w56 fun n66 w67 => RunW Try.prog
  [n27, n1] (Builtin.append_ #[(22 : Nat), (22 : Nat)] (22 : Nat) #[Value.slice a37 n38 n39, Value.slice (some { block := n66, off := (0 : Nat) }) (1 : Nat) (1 : Nat)])
  (fun v68 w69 => opL v68 fun a70 n71 n72 => Bd (IntKind.wrap IntKind.i64 (x40 + (1 : Int))) fun x73 => J35 [Value.slice a70 n71 n72, Value.int IntKind.i64 x73] [] w69)
  w67)) w49)) w46) w44) (CallW Try.prog [n27, n1] (40 : Nat) #[Value.slice a37 n38 n39] (fun v74 w75 => opTu v74 fun cs76 => opBig (nthD (Array.toList cs76) (0 : Nat))
  fun cs77 => Array.size cs77 = (257 : Nat) ∧ opI IntKind.i64 (nthD (Array.toList cs76) (1 : Nat)) fun x78 => SzIs (Array.size cs76) (2 : Nat) (Array.size cs77 = (257 :
  Nat) ∧ Rg w75 fun n79 => OkC (Array.toList cs77) (257 : Nat) (Bd (x26 != (0 : Int)) fun b80 => Bd (x78 != (0 : Int)) fun b81 => Bd (bif b80 then true else b81) fun b82
  => ((!b82) = true → isI IntKind.i64 (Array.toList cs25) (256 : Nat)) ∧ Bd (rdI (Array.toList cs25) (256 : Nat)) fun x84 => Bd (x84 != x31) fun b85 => Bd (bif b82 then
  true else b85) fun b86 => ((!b86) = true → isI IntKind.i64 (Array.toList cs77) (256 : Nat)) ∧ Bd (rdI (Array.toList cs77) (256 : Nat)) fun x88 => Bd (IntKind.wrap
  IntKind.i64 p1) fun x89 => Bd (IntKind.wrap IntKind.i64 (x89 + (1 : Int))) fun x90 => Bd (x88 != x90) fun b91 => Bd (bif b86 then true else b91) fun b92 => If b92 (Up
  [n79] [n79, n27, n1] w75 fun w93 => R (Value.bool false) w93) (Up [n79] [n79, n27, n1] w75 fun w94 => LoopP (fun l95 l96 J97 w98 => opB (nthD l95 (0 : Nat)) fun b99 =>
  opI IntKind.i64 (nthD l95 (1 : Nat)) fun x100 => Bd (decide (x100 < (256 : Int))) fun b101 => If b101 (((0 : Int) ≤ x100 ∧ x100 < ↑(256 : Nat)) ∧ BdO (nthV
  (Array.toList cs77) ((0 : Nat) + Int.toNat x100 * (1 : Nat))) fun v102 => opI IntKind.u8 v102 fun x103 => Bd (IntKind.wrap IntKind.i64 x103) fun x104 => Bd
  (IntKind.wrap IntKind.i64 p1) fun x105 => Bd (if x105 < x100 then x105 else x100) fun x106 => Bd (x104 != x106) fun b107 => If b107 (R (Value.bool false) w98) (Bd
  (IntKind.wrap IntKind.i64 (x100 + (1 : Int))) fun x108 => J97 [Value.bool b99, Value.int IntKind.i64 x108] [] w98)) (CallW Try.prog [n79, n27, n1] (51 : Nat)
  #[Value.agg #[Value.int IntKind.u64 p0_0, Value.int IntKind.u64 p0_1, Value.int IntKind.u64 p0_2, Value.int IntKind.u64 p0_3]] (fun v109 w110 => opAg v109 fun cs111 =>
  opI IntKind.u8 (nthD (Array.toList cs111) (0 : Nat)) fun x112 => opI IntKind.u64 (nthD (Array.toList cs111) (1 : Nat)) fun x113 => opI IntKind.u64 (nthD (Array.toList
  cs111) (2 : Nat)) fun x114 => opI IntKind.u64 (nthD (Array.toList cs111) (3 : Nat)) fun x115 => opI IntKind.u64 (nthD (Array.toList cs111) (4 : Nat)) fun x116 => opL
  (nthD (Array.toList cs111) (5 : Nat)) fun a117 n118 n119 => SzIs (Array.size cs111) (6 : Nat) (Nw (Obj.cells #[Value.int IntKind.u8 x112, Value.int IntKind.u64 x113,
  Value.int IntKind.u64 x114, Value.int IntKind.u64 x115, Value.int IntKind.u64 x116, Value.slice a117 n118 n119] (42 : Nat)) w110 fun n120 w121 => RunW Try.prog [n79,
  n27, n1] (Builtin.append_ #[(22 : Nat), (22 : Nat)] (22 : Nat) #[Value.slice a37 n38 n39, Value.slice (some { block := n120, off := (0 : Nat) }) (1 : Nat) (1 : Nat)])
  (fun v122 w123 => opL v122 fun a124 n125 n126 => CallW Try.prog [n79, n27, n1] (51 : Nat) #[Value.agg #[Value.int IntKind.u64 (0 : Int), Value.int IntKind.u64 (0 :
  Int), Value.int IntKind.u64 (0 : Int), Value.int IntKind.u64 (9223372036854775808 : Int)]] (fun v127 w128 => opAg v127 fun cs129 => opI IntKind.u8 (nthD (Array.toList
  cs129) (0 : Nat)) fun x130 => opI IntKind.u64 (nthD (Array.toList cs129) (1 : Nat)) fun x131 => opI IntKind.u64 (nthD (Array.toList cs129) (2 : Nat)) fun x132 => opI
  IntKind.u64 (nthD (Array.toList cs129) (3 : Nat)) fun x133 => opI IntKind.u64 (nthD (Array.toList cs129) (4 : Nat)) fun x134 => opL (nthD (Array.toList cs129) (5 :
  Nat)) fun a135 n136 n137 => SzIs (Array.size cs129) (6 : Nat) (Nw (Obj.cells #[Value.int IntKind.u8 x130, Value.int IntKind.u64 x131, Value.int IntKind.u64 x132,
  Value.int IntKind.u64 x133, Value.int IntKind.u64 x134, Value.slice a135 n136 n137] (42 : Nat)) w128 fun n138 w139 => RunW Try.prog [n79, n27, n1] (Builtin.append_
  #[(22 : Nat), (22 : Nat)] (22 : Nat) #[Value.slice a124 n125 n126, Value.slice (some { block := n138, off := (0 : Nat) }) (1 : Nat) (1 : Nat)]) (fun v140 w141 => opL
  v140 fun a142 n143 n144 => CallW Try.prog [n79, n27, n1] (40 : Nat) #[Value.slice a142 n143 n144] (fun v145 w146 => opTu v145 fun cs147 => opBig (nthD (Array.toList
  cs147) (0 : Nat)) fun cs148 => Array.size cs148 = (257 : Nat) ∧ opI IntKind.i64 (nthD (Array.toList cs147) (1 : Nat)) fun x149 => SzIs (Array.size cs147) (2 : Nat)
  (Array.size cs148 = (257 : Nat) ∧ Rg w146 fun n150 => OkC (Array.toList cs148) (257 : Nat) (Bd (x149 == (0 : Int)) fun b151 => (b151 = true → Array.size cs148 = (257 :
  Nat)) ∧ Up [n150] [n150, n79, n27, n1] w146 fun w153 => Gd b151 false (fun J154 => CallW Try.prog [n150, n79, n27, n1] (46 : Nat) #[Value.agg cs148, Value.agg
  #[Value.int IntKind.u64 p0_0, Value.int IntKind.u64 p0_1, Value.int IntKind.u64 p0_2, Value.int IntKind.u64 p0_3]] (fun v155 w156 => opB v155 fun b157 => J154 b157
  w156) w153) (fun b158 w159 => Bd (bif b151 then b158 else false) fun b160 => (b160 = true → Array.size cs148 = (257 : Nat)) ∧ Gd b160 false (fun J162 => CallW Try.prog
  [n150, n79, n27, n1] (46 : Nat) #[Value.agg cs148, Value.agg #[Value.int IntKind.u64 (0 : Int), Value.int IntKind.u64 (0 : Int), Value.int IntKind.u64 (0 : Int),
  Value.int IntKind.u64 (0 : Int)]] (fun v163 w164 => opB v163 fun b165 => J162 b165 w164) w159) (fun b166 w167 => Bd (bif b160 then b166 else false) fun b168 => (b168 =
  true → Array.size cs148 = (257 : Nat)) ∧ Gd b168 false (fun J170 => CallW Try.prog [n150, n79, n27, n1] (46 : Nat) #[Value.agg cs148, Value.agg #[Value.int IntKind.u64
  (0 : Int), Value.int IntKind.u64 (0 : Int), Value.int IntKind.u64 (0 : Int), Value.int IntKind.u64 (9223372036854775808 : Int)]] (fun v171 w172 => opB v171 fun b173 =>
  J170 b173 w172) w167) (fun b174 w175 => Bd (bif b168 then b174 else false) fun b176 => (b176 = true → isI IntKind.i64 (Array.toList cs148) (256 : Nat)) ∧ Bd (rdI
  (Array.toList cs148) (256 : Nat)) fun x178 => (b176 = true → isI IntKind.i64 (Array.toList cs77) (256 : Nat)) ∧ Bd (rdI (Array.toList cs77) (256 : Nat)) fun x180 => Bd
  (decide (x178 ≥ x180)) fun b181 => Bd (bif b176 then b181 else false) fun b182 => Gd b182 false (fun J183 => CallW Try.prog [n150, n79, n27, n1] (39 : Nat) #[] (fun
  v184 w185 => opB v184 fun b186 => J183 b186 w185) w175) (fun b187 w188 => Bd (bif b182 then b187 else false) fun b189 => R (Value.bool b189) w188) w175) w167) w159)
  w153))) w141) w139)) w123) w121)) w98)) [Value.bool false, Value.int IntKind.i64 (0 : Int)] [] w94)))) w36)) [Value.slice none (0 : Nat) (0 : Nat), Value.int
  IntKind.i64 (0 : Int)] [] w30) fun J190 => Up [n27] [n27, n1] w23 fun w191 => RunW Try.prog [n27, n1] (eqS BinOp.eql (28 : Nat) (Operand.tmp (26 : Nat)) (Operand.tmp
  (27 : Nat)) (Value.agg #[Value.int IntKind.u64 p0_0, Value.int IntKind.u64 p0_1, Value.int IntKind.u64 p0_2, Value.int IntKind.u64 p0_3]) (Value.agg #[Value.int
  IntKind.u64 (18446744073709551615 : Int), Value.int IntKind.u64 (18446744073709551615 : Int), Value.int IntKind.u64 (18446744073709551615 : Int), Value.int IntKind.u64
  (18446744073709551615 : Int)])) (fun v192 w193 => opB v192 fun b194 => If b194 (J190 [Value.int IntKind.i64 (1 : Int)] [] w193) (J190 [Value.int IntKind.i64 (2 : Int)]
  [] w193)) w191))) w21)) w4)) w2
theorem f7_eq (p0_0 : Int) (p0_1 : Int) (p0_2 : Int) (p0_3 : Int) (p1 : Int) (R : Value → World → Prop) (w : World) : fnW Try.prog [2, 5, 10, 13] Try.f7 [Value.agg
  #[Value.int IntKind.u64 p0_0, Value.int IntKind.u64 p0_1, Value.int IntKind.u64 p0_2, Value.int IntKind.u64 p0_3], Value.int IntKind.u8 p1] R w = f7_vc p0_0 p0_1 p0_2
  p0_3 p1 R w := by kernel_rfl
theorem f7_in (p0_0 : Int) (p0_1 : Int) (p0_2 : Int) (p0_3 : Int) (p1 : Int) (R : Value → World → Prop) (w : World) (h : f7_vc p0_0 p0_1 p0_2 p0_3 p1 R w) : Ct Try.prog 7
  #[Value.agg #[Value.int IntKind.u64 p0_0, Value.int IntKind.u64 p0_1, Value.int IntKind.u64 p0_2, Value.int IntKind.u64 p0_3], Value.int IntKind.u8 p1] w R := by
  refine Ct_of (rk := [2, 5, 10, 13]) (fn := Try.f7) (args := [Value.agg #[Value.int IntKind.u64 p0_0, Value.int IntKind.u64 p0_1, Value.int IntKind.u64 p0_2, Value.int IntKind.u64 p0_3], Value.int IntKind.u8 p1]) mixedT Try.func7 (by kernel_rfl) ?_
  rw [f7_eq]
  exact h
end Fk
