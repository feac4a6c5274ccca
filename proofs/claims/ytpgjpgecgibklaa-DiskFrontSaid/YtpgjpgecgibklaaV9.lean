/- Conditions of functions, as the generator works them out; each one is checked by the kernel. -/
import Derived.Test.YtpgjpgecgibklaaTT
set_option linter.unusedVariables false
set_option maxRecDepth 1000000
set_option maxHeartbeats 4000000
namespace Fk
open Go Go.Proofs Go.RowKit
def f23_vc (p0a : Option Addr) (p0n : Nat) (p0c : Nat) (p1a : Option Addr) (p1n : Nat) (p1c : Nat) (p2 : Int) (p3 : Int) (R : Value → World → Prop) (w : World) : Prop :=
  CallW Try.prog [] (101 : Nat) #[Value.slice p0a p0n p0c] (fun v1 w2 => opP v1 fun a3 => Nw (Obj.cells #[] (9 : Nat)) w2 fun n4 w5 => CallW Try.prog [] (102 : Nat)
  #[Value.pointer a3, Value.int IntKind.i64 (0 : Int)] (fun v6 w7 => opTu v6 fun cs8 => SzIs (Array.size cs8) (0 : Nat) (CallW Try.prog [] (103 : Nat) #[Value.pointer a3]
  (fun v9 w10 => opI IntKind.i64 v9 fun x11 => Bd (x11 != (0 : Int)) fun b12 => If b12 (R (Value.bool false) w10) (CallW Try.prog [] (104 : Nat) #[Value.pointer a3] (fun
  v13 w14 => opL v13 fun a15 n16 n17 => RunW Try.prog [] (convert (51 : Nat) (9 : Nat) (Value.slice a15 n16 n17)) (fun v18 w19 => opStr v18 fun s20 => Nw (Obj.cells
  #[Value.string s20] (9 : Nat)) w19 fun n21 w22 => RunW Try.prog [] (Builtin.append_ #[(55 : Nat), (55 : Nat)] (55 : Nat) #[Value.slice (some (Addr.mk n4 (0 : Nat)
  none)) (0 : Nat) (0 : Nat), Value.slice (some (Addr.mk n21 (0 : Nat) none)) (1 : Nat) (1 : Nat)]) (fun v23 w24 => opL v23 fun a25 n26 n27 => Bd ((p1n : Nat) : Int) fun
  x28 => Bd (if (20 : Int) < x28 then (20 : Int) else x28) fun x29 => RunW Try.prog [] (Instr.sliceAt (118 : Nat) (Value.slice p1a p1n p1c) none (some (Value.int
  IntKind.i64 x29)) none) (fun v30 w31 => opL v30 fun a32 n33 n34 => Bd ((n33 : Nat) : Int) fun x35 => LoopP (fun l36 l37 J38 w39 => opL (nthD l36 (0 : Nat)) fun a40 n41
  n42 => opI IntKind.i64 (nthD l36 (1 : Nat)) fun x43 => Bd (decide (x43 < x35)) fun b44 => If b44 (Jn (fun l45 l46 w47 => opL (nthD l45 (0 : Nat)) fun a48 n49 n50 => Bd
  (IntKind.wrap IntKind.i64 (x43 + (1 : Int))) fun x51 => J38 [Value.slice a48 n49 n50, Value.int IntKind.i64 x51] [] w47) fun J52 => IxOk x43 n33 a32 ∧ Ld w39 (Addr.add
  (adAt a32 x43 (6 : Nat)) (0 : Nat)) fun v53 => Ld w39 (Addr.add (adAt a32 x43 (6 : Nat)) (1 : Nat)) fun v54 => Ld w39 (Addr.add (adAt a32 x43 (6 : Nat)) (2 : Nat)) fun
  v55 => Ld w39 (Addr.add (adAt a32 x43 (6 : Nat)) (3 : Nat)) fun v56 => Ld w39 (Addr.add (adAt a32 x43 (6 : Nat)) (4 : Nat)) fun v57 => Ld w39 (Addr.add (adAt a32 x43 (6
  : Nat)) (5 : Nat)) fun v58 => opI IntKind.u8 v53 fun x59 => opI IntKind.i64 v54 fun x60 => opI IntKind.i64 v55 fun x61 => opI IntKind.u8 v56 fun x62 => opI IntKind.u8
  v57 fun x63 => opB v58 fun b64 => Rg w39 fun n65 => Bd (x59 == (1 : Int)) fun b66 => Up [n65] [n65] w39 fun w67 => Gd b66 (0 : Int) (fun J68 => CallW Try.prog [n65]
  (105 : Nat) #[Value.pointer a3, Value.agg #[Value.int IntKind.u8 x59, Value.int IntKind.i64 x60, Value.int IntKind.i64 x61, Value.int IntKind.u8 x62, Value.int
  IntKind.u8 x63, Value.bool b64]] (fun v69 w70 => opI IntKind.i64 v69 fun x71 => J68 x71 w70) w67) (fun x72 w73 => Bd (x72 == (0 : Int)) fun b74 => Bd (bif b66 then b74
  else false) fun b75 => If b75 (CallW Try.prog [n65] (104 : Nat) #[Value.pointer a3] (fun v76 w77 => opL v76 fun a78 n79 n80 => RunW Try.prog [n65] (convert (51 : Nat)
  (9 : Nat) (Value.slice a78 n79 n80)) (fun v81 w82 => opStr v81 fun s83 => Nw (Obj.cells #[Value.string s83] (9 : Nat)) w82 fun n84 w85 => RunW Try.prog [n65]
  (Builtin.append_ #[(55 : Nat), (55 : Nat)] (55 : Nat) #[Value.slice a40 n41 n42, Value.slice (some (Addr.mk n84 (0 : Nat) none)) (1 : Nat) (1 : Nat)]) (fun v86 w87 =>
  opL v86 fun a88 n89 n90 => J52 [Value.slice a88 n89 n90] [] w87) w85) w77) w73) (J52 [Value.slice a40 n41 n42] [] w73)) w67) (Bd (IntKind.wrap IntKind.i64 p2) fun x91
  => Bd ((n41 : Nat) : Int) fun x92 => Bd (IntKind.wrap IntKind.i64 (x92 - (1 : Int))) fun x93 => Bd (if x93 < x91 then x93 else x91) fun x94 => Bd (IntKind.wrap
  IntKind.i64 p3) fun x95 => Bd (if (64 : Int) < x95 then (64 : Int) else x95) fun x96 => Bd (IntKind.wrap IntKind.i64 p2) fun x97 => Bd (IntKind.wrap IntKind.i64 p3) fun
  x98 => CallW Try.prog [] (106 : Nat) #[Value.pointer a3, Value.int IntKind.i64 x97, Value.int IntKind.i64 x98] (fun v99 w100 => opTu v99 fun cs101 => SzIs (Array.size
  cs101) (0 : Nat) (Jn (fun l102 l103 w104 => opStr (nthD l102 (0 : Nat)) fun s105 => opStr (nthD l102 (1 : Nat)) fun s106 => Bd (IntKind.wrap IntKind.i64 (x94 + (1 :
  Int))) fun x107 => Bd ((n41 : Nat) : Int) fun x108 => Bd (IntKind.wrap IntKind.i64 (x108 - (1 : Int))) fun x109 => Bd (if x109 < x107 then x109 else x107) fun x110 =>
  IxOk x110 n41 a40 ∧ Ld w104 (adAt a40 x110 (1 : Nat)) fun v111 => opStr v111 fun s112 => Bd (((ByteArray.size s105) : Nat) : Int) fun x113 => Bd (x113 != (512 : Int))
  fun b114 => If b114 (R (Value.bool false) w104) (LoopP (fun l115 l116 J117 w118 => opB (nthD l115 (0 : Nat)) fun b119 => opI IntKind.i64 (nthD l115 (1 : Nat)) fun x120
  => Bd (decide (x120 < (8 : Int))) fun b121 => If b121 (Bd (IntKind.wrap IntKind.i64 ((64 : Int) * x120)) fun x122 => Bd (IntKind.wrap IntKind.i64 ((64 : Int) * x120))
  fun x123 => Bd (IntKind.wrap IntKind.i64 (x123 + (64 : Int))) fun x124 => RunW Try.prog [] (Instr.sliceAt (9 : Nat) (Value.string s105) (some (Value.int IntKind.i64
  x122)) (some (Value.int IntKind.i64 x124)) none) (fun v125 w126 => opStr v125 fun s127 => Dr (World.drew w126) fun J128 => ∃ v129, (∀ (w130 : World), J128 w130 → RunV
  Try.prog (Instr.sliceAt (9 : Nat) (Value.string s127) none (some (Value.int IntKind.i64 x96)) none) v129 w130) ∧ opStr v129 fun s132 => Bd (IntKind.wrap IntKind.i64
  ((64 : Int) * x120)) fun x133 => Bd (IntKind.wrap IntKind.i64 ((64 : Int) * x120)) fun x134 => Bd (IntKind.wrap IntKind.i64 (x134 + x96)) fun x135 => ∃ v136, (∀ (w137 :
  World), J128 w137 → RunV Try.prog (Instr.sliceAt (9 : Nat) (Value.string s112) (some (Value.int IntKind.i64 x133)) (some (Value.int IntKind.i64 x135)) none) v136 w137)
  ∧ opStr v136 fun s139 => Bd (!ByteArray.toList s132 == ByteArray.toList s139) fun b140 => ∃ v141, ((!b140) = true → ∀ (w143 : World), J128 w143 → RunV Try.prog
  (Instr.sliceAt (9 : Nat) (Value.string s127) (some (Value.int IntKind.i64 x96)) none none) v141 w143) ∧ opStr v141 fun s145 => Bd (IntKind.wrap IntKind.i64 ((64 : Int)
  * x120)) fun x146 => Bd (IntKind.wrap IntKind.i64 (x146 + x96)) fun x147 => Bd (IntKind.wrap IntKind.i64 ((64 : Int) * x120)) fun x148 => Bd (IntKind.wrap IntKind.i64
  (x148 + (64 : Int))) fun x149 => ∃ v150, ((!b140) = true → ∀ (w152 : World), J128 w152 → RunV Try.prog (Instr.sliceAt (9 : Nat) (Value.string s106) (some (Value.int
  IntKind.i64 x147)) (some (Value.int IntKind.i64 x149)) none) v150 w152) ∧ opStr v150 fun s154 => Bd (!ByteArray.toList s145 == ByteArray.toList s154) fun b155 => Bd
  (bif b140 then true else b155) fun b156 => If b156 (R (Value.bool false) (World.drew w126)) (Bd (IntKind.wrap IntKind.i64 (x120 + (1 : Int))) fun x157 => J117
  [Value.bool b119, Value.int IntKind.i64 x157] [] (World.drew w126))) w118) (CallW Try.prog [] (107 : Nat) #[] (fun v158 w159 => opB v158 fun b160 => R (Value.bool b160)
  w159) w118)) [Value.bool false, Value.int IntKind.i64 (0 : Int)] [] w104)) fun J161 => IxOk x94 n41 a40 ∧ CallW Try.prog [] (104 : Nat) #[Value.pointer a3] (fun v162
  w163 => opL v162 fun a164 n165 n166 => RunW Try.prog [] (convert (51 : Nat) (9 : Nat) (Value.slice a164 n165 n166)) (fun v167 w168 => opStr v167 fun s169 => Ld w168
  (adAt a40 x94 (1 : Nat)) fun v170 => opStr v170 fun s171 => J161 [Value.string s169, Value.string s171] [] w168) w163 ∧ Ld w163 (adAt a40 x94 (1 : Nat)) fun v172 =>
  opStr v172 fun s173 => RunW Try.prog [] (convert (51 : Nat) (9 : Nat) (Value.slice a164 n165 n166)) (fun v174 w175 => opStr v174 fun s176 => J161 [Value.string s176,
  Value.string s173] [] w175) w163) (World.drew w100) ∧ Ld (World.drew w100) (adAt a40 x94 (1 : Nat)) fun v177 => opStr v177 fun s178 => CallW Try.prog [] (104 : Nat)
  #[Value.pointer a3] (fun v179 w180 => opL v179 fun a181 n182 n183 => RunW Try.prog [] (convert (51 : Nat) (9 : Nat) (Value.slice a181 n182 n183)) (fun v184 w185 =>
  opStr v184 fun s186 => J161 [Value.string s186, Value.string s178] [] w185) w180) (World.drew w100))) w39)) [Value.slice a25 n26 n27, Value.int IntKind.i64 (0 : Int)]
  [] w31) w24) w22) w14) w10)) w7)) w5) w
theorem f23_eq (p0a : Option Addr) (p0n : Nat) (p0c : Nat) (p1a : Option Addr) (p1n : Nat) (p1c : Nat) (p2 : Int) (p3 : Int) (R : Value → World → Prop) (w : World) : fnW
  Try.prog [12, 400014, 300014, 100022] Try.f23 [Value.slice p0a p0n p0c, Value.slice p1a p1n p1c, Value.int IntKind.u8 p2, Value.int IntKind.u8 p3] R w = f23_vc p0a p0n
  p0c p1a p1n p1c p2 p3 R w := by kernel_rfl
theorem f23_in (p0a : Option Addr) (p0n : Nat) (p0c : Nat) (p1a : Option Addr) (p1n : Nat) (p1c : Nat) (p2 : Int) (p3 : Int) (R : Value → World → Prop) (w : World) (h :
  f23_vc p0a p0n p0c p1a p1n p1c p2 p3 R w) : Ct Try.prog 23 #[Value.slice p0a p0n p0c, Value.slice p1a p1n p1c, Value.int IntKind.u8 p2, Value.int IntKind.u8 p3] w R :=
  by
  refine Ct_of (rk := [12, 400014, 300014, 100022]) (fn := Try.f23) (args := [Value.slice p0a p0n p0c, Value.slice p1a p1n p1c, Value.int IntKind.u8 p2, Value.int IntKind.u8 p3]) mixedT Try.func23 (by kernel_rfl) ?_
  rw [f23_eq]
  exact h
end Fk
