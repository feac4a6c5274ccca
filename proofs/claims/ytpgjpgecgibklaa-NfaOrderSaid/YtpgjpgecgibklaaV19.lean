/- Conditions of functions, as the generator works them out; each one is checked by the kernel. -/
import Derived.Test.YtpgjpgecgibklaaTT
set_option linter.unusedVariables false
set_option maxRecDepth 1000000
set_option maxHeartbeats 4000000
namespace Fk
open Go Go.Proofs Go.RowKit
def f17_vc (p0_0 : Int) (p0_1a : Option Addr) (p0_1n : Nat) (p0_1c : Nat) (p1a : Option Addr) (p1n : Nat) (p1c : Nat) (p2 : ByteArray) (p3 : Int) (R : Value → World →
  Prop) (w : World) : Prop := Rg w fun n1 => Up [] [n1] w fun w2 => CallW Try.prog [n1] (83 : Nat) #[Value.slice p1a p1n p1c] (fun v3 w4 => opL v3 fun a5 n6 n7 => CallW
  Try.prog [n1] (76 : Nat) #[Value.agg #[Value.int IntKind.i64 p0_0, Value.slice p0_1a p0_1n p0_1c]] (fun v8 w9 => opB v8 fun b10 => Bd (!b10) fun b11 => Gd (!b11) false
  (fun J12 => CallW Try.prog [n1] (38 : Nat) #[Value.slice a5 n6 n7] (fun v13 w14 => opB v13 fun b15 => J12 b15 w14) w9) (fun b16 w17 => Bd (!b16) fun b18 => Bd (bif b11
  then true else b18) fun b19 => If b19 (CallW Try.prog [n1] (77 : Nat) #[] (fun v20 w21 => opB v20 fun b22 => R (Value.bool b22) w21) w17) (CallW Try.prog [n1] (68 :
  Nat) #[Value.string p2, Value.int IntKind.i64 (30 : Int)] (fun v23 w24 => opStr v23 fun s25 => CallW Try.prog [n1] (66 : Nat) #[Value.slice a5 n6 n7, Value.int
  IntKind.i64 (20000 : Int)] (fun v26 w27 => opTu v26 fun cs28 => opAg (nthD (Array.toList cs28) (0 : Nat)) fun cs29 => opI IntKind.i64 (nthD (Array.toList cs29) (0 :
  Nat)) fun x30 => opL (nthD (Array.toList cs29) (1 : Nat)) fun a31 n32 n33 => SzIs (Array.size cs29) (2 : Nat) (opI IntKind.i64 (nthD (Array.toList cs28) (1 : Nat)) fun
  x34 => SzIs (Array.size cs28) (2 : Nat) (Rg w27 fun n35 => Up [n35] [n35, n1] w27 fun w36 => Nw (Obj.cells #[Value.int IntKind.i64 p0_0, Value.slice p0_1a p0_1n p0_1c,
  Value.int IntKind.i64 x30, Value.slice a31 n32 n33] (71 : Nat)) w36 fun n37 w38 => Bd (((2 : Nat) : Nat) : Int) fun x39 => LoopP (fun l40 l41 J42 w43 => opB (nthD l40
  (0 : Nat)) fun b44 => opI IntKind.i64 (nthD l40 (1 : Nat)) fun x45 => Bd (decide (x45 < x39)) fun b46 => If b46 (Jn (fun l47 l48 w49 => opB (nthD l47 (0 : Nat)) fun b50
  => Bd (IntKind.wrap IntKind.i64 (x45 + (1 : Int))) fun x51 => J42 [Value.bool b50, Value.int IntKind.i64 x51] [] w49) fun J52 => IxOk x45 (2 : Nat) (some (Addr.mk n37
  (0 : Nat) none)) ∧ Ld w43 (Addr.add (adAt (some (Addr.mk n37 (0 : Nat) none)) x45 (2 : Nat)) (0 : Nat)) fun v53 => Ld w43 (Addr.add (adAt (some (Addr.mk n37 (0 : Nat)
  none)) x45 (2 : Nat)) (1 : Nat)) fun v54 => opI IntKind.i64 v53 fun x55 => opL v54 fun a56 n57 n58 => Rg w43 fun n59 => Up [n59] [n59, n35, n1] w43 fun w60 => CallW
  Try.prog [n59, n35, n1] (81 : Nat) #[Value.agg #[Value.int IntKind.i64 x55, Value.slice a56 n57 n58]] (fun v61 w62 => opB v61 fun b63 => Bd (!b63) fun b64 => If b64
  (CallW Try.prog [n59, n35, n1] (69 : Nat) #[Value.agg #[Value.int IntKind.i64 x55, Value.slice a56 n57 n58], Value.string s25] (fun v65 w66 => opTu v65 fun cs67 => opL
  (nthD (Array.toList cs67) (0 : Nat)) fun a68 n69 n70 => opI IntKind.i64 (nthD (Array.toList cs67) (1 : Nat)) fun x71 => SzIs (Array.size cs67) (2 : Nat) (Bd (x71 != (2
  : Int)) fun b72 => Bd ((n69 : Nat) : Int) fun x73 => Bd (x73 != (0 : Int)) fun b74 => Bd (bif b72 then true else b74) fun b75 => If b75 (R (Value.bool false) w66) (J52
  [Value.bool b44] [] w66))) w62) (Bd (IntKind.wrap IntKind.i64 p3) fun x76 => Bd (((ByteArray.size s25) : Nat) : Int) fun x77 => Bd (IntKind.wrap IntKind.i64 (x77 + (1 :
  Int))) fun x78 => x78 ≠ (0 : Int) ∧ Bd (Int.tmod x76 x78) fun x79 => CallW Try.prog [n59, n35, n1] (69 : Nat) #[Value.agg #[Value.int IntKind.i64 x55, Value.slice a56
  n57 n58], Value.string s25] (fun v80 w81 => opTu v80 fun cs82 => opL (nthD (Array.toList cs82) (0 : Nat)) fun a83 n84 n85 => opI IntKind.i64 (nthD (Array.toList cs82)
  (1 : Nat)) fun x86 => SzIs (Array.size cs82) (2 : Nat) (Dr (World.drew w81) fun J87 => ∃ v88, (∀ (w89 : World), J87 w89 → RunV Try.prog (Instr.sliceAt (9 : Nat)
  (Value.string s25) none (some (Value.int IntKind.i64 x79)) none) v88 w89) ∧ opStr v88 fun s91 => CallW Try.prog [n59, n35, n1] (69 : Nat) #[Value.agg #[Value.int
  IntKind.i64 x55, Value.slice a56 n57 n58], Value.string s91] (fun v92 w93 => opTu v92 fun cs94 => opL (nthD (Array.toList cs94) (0 : Nat)) fun a95 n96 n97 => opI
  IntKind.i64 (nthD (Array.toList cs94) (1 : Nat)) fun x98 => SzIs (Array.size cs94) (2 : Nat) (J87 w93 ∧ Bd (x86 != (0 : Int)) fun b99 => Bd (x98 != (0 : Int)) fun b100
  => Bd (bif b99 then true else b100) fun b101 => Bd ((n84 : Nat) : Int) fun x102 => Bd (((ByteArray.size s25) : Nat) : Int) fun x103 => Bd (IntKind.wrap IntKind.i64
  (x103 + (1 : Int))) fun x104 => Bd (x102 != x104) fun b105 => Bd (bif b101 then true else b105) fun b106 => Bd (IntKind.wrap IntKind.i64 (x79 + (1 : Int))) fun x107 =>
  Bd ((n84 : Nat) : Int) fun x108 => Bd (if x108 < x107 then x108 else x107) fun x109 => Gd (!b106) (none, (0 : Nat), (0 : Nat)) (fun J110 => RunW Try.prog [n59, n35, n1]
  (Instr.sliceAt (52 : Nat) (Value.slice a83 n84 n85) none (some (Value.int IntKind.i64 x109)) none) (fun v111 w112 => opL v111 fun a113 n114 n115 => J110 (a113, n114,
  n115) w112) w93) (fun u116 w117 => Gd (!b106) false (fun J118 => CallW Try.prog [n59, n35, n1] (73 : Nat) #[Value.slice a95 n96 n97, Value.slice (Prod.fst u116)
  (Prod.fst (Prod.snd u116)) (Prod.snd (Prod.snd u116))] (fun v119 w120 => opB v119 fun b121 => J118 b121 w120) w117) (fun b122 w123 => Bd (!b122) fun b124 => Bd (bif
  b106 then true else b124) fun b125 => If b125 (R (Value.bool false) w123) (Bd (((ByteArray.size s25) : Nat) : Int) fun x126 => LoopP (fun l127 l128 J129 w130 => opB
  (nthD l127 (0 : Nat)) fun b131 => opI IntKind.i64 (nthD l127 (1 : Nat)) fun x132 => Bd (decide (x132 < x126)) fun b133 => If b133 (Bd ((n57 : Nat) : Int) fun x134 =>
  LoopP (fun l135 l136 J137 w138 => opB (nthD l135 (0 : Nat)) fun b139 => opI IntKind.i64 (nthD l135 (1 : Nat)) fun x140 => Bd (decide (x140 < x134)) fun b141 => If b141
  (IxOk x140 n57 a56 ∧ Ld w138 (Addr.add (adAt a56 x140 (8 : Nat)) (0 : Nat)) fun v142 => Ld w138 (Addr.add (adAt a56 x140 (8 : Nat)) (1 : Nat)) fun v143 => Ld w138
  (Addr.add (adAt a56 x140 (8 : Nat)) (2 : Nat)) fun v144 => Ld w138 (Addr.add (adAt a56 x140 (8 : Nat)) (3 : Nat)) fun v145 => Ld w138 (Addr.add (adAt a56 x140 (8 :
  Nat)) (4 : Nat)) fun v146 => Ld w138 (Addr.add (adAt a56 x140 (8 : Nat)) (5 : Nat)) fun v147 => Ld w138 (Addr.add (adAt a56 x140 (8 : Nat)) (6 : Nat)) fun v148 => Ld
  w138 (Addr.add (adAt a56 x140 (8 : Nat)) (7 : Nat)) fun v149 => opI IntKind.u8 v142 fun x150 => opI IntKind.u64 v143 fun x151 => opI IntKind.u64 v144 fun x152 => opI
  IntKind.u64 v145 fun x153 => opI IntKind.u64 v146 fun x154 => opI IntKind.i64 v147 fun x155 => opI IntKind.i64 v148 fun x156 => opI IntKind.i64 v149 fun x157 => Rg w138
  fun n158 => Up [n158] [n158, n59, n35, n1] w138 fun w159 => Dr (World.drew w159) fun J160 => Bd (x150 != (1 : Int)) fun b161 => ((b139 && !b161) = true → (0 : Int) ≤
  x132 ∧ x132 < ↑(ByteArray.size s25)) ∧ Bd (byteAt s25 x132) fun x163 => Gd (b139 && !b161) false (fun J164 => CallW Try.prog [n158, n59, n35, n1] (50 : Nat) #[Value.agg
  #[Value.int IntKind.u64 x151, Value.int IntKind.u64 x152, Value.int IntKind.u64 x153, Value.int IntKind.u64 x154], Value.int IntKind.u8 x163] (fun v165 w166 => opB v165
  fun b167 => J164 b167 w166) (World.drew w159)) (fun b168 w169 => J160 w169 ∧ Bd (!b168) fun b170 => Bd (bif b161 then true else b170) fun b171 => Bd (bif b139 then b171
  else false) fun b172 => Bd (IntKind.wrap IntKind.i64 (x140 + (1 : Int))) fun x173 => J137 [Value.bool b172, Value.int IntKind.i64 x173] [] w169) (World.drew w159)) (Bd
  (IntKind.wrap IntKind.i64 (x132 + (1 : Int))) fun x174 => RunW Try.prog [n59, n35, n1] (Instr.sliceAt (52 : Nat) (Value.slice a83 n84 n85) (some (Value.int IntKind.i64
  x174)) none none) (fun v175 w176 => opL v175 fun a177 n178 n179 => Bd ((n178 : Nat) : Int) fun x180 => LoopP (fun l181 l182 J183 w184 => opB (nthD l181 (0 : Nat)) fun
  b185 => opI IntKind.i64 (nthD l181 (1 : Nat)) fun x186 => Bd (decide (x186 < x180)) fun b187 => If b187 (IxOk x186 n178 a177 ∧ Ld w184 (adAt a177 x186 (1 : Nat)) fun
  v188 => opI IntKind.i64 v188 fun x189 => Bd (decide (x189 ≥ (0 : Int))) fun b190 => Bd (bif b139 then b190 else false) fun b191 => If b191 (R (Value.bool false) w184)
  (Bd (IntKind.wrap IntKind.i64 (x186 + (1 : Int))) fun x192 => J183 [Value.bool b185, Value.int IntKind.i64 x192] [] w184)) (Bd (IntKind.wrap IntKind.i64 (x132 + (1 :
  Int))) fun x193 => J129 [Value.bool b185, Value.int IntKind.i64 x193] [] w184)) [Value.bool b131, Value.int IntKind.i64 (0 : Int)] [] w176) w138)) [Value.bool true,
  Value.int IntKind.i64 (0 : Int)] [] w130) (J52 [Value.bool b131] [] w130)) [Value.bool b44, Value.int IntKind.i64 (0 : Int)] [] w123)) w117) w93)) (World.drew w81)))
  w62)) w60) (CallW Try.prog [n35, n1] (77 : Nat) #[] (fun v194 w195 => opB v194 fun b196 => R (Value.bool b196) w195) w43)) [Value.bool false, Value.int IntKind.i64 (0 :
  Int)] [] w38))) w24) w17)) w9) w4) w2
theorem f17_eq (p0_0 : Int) (p0_1a : Option Addr) (p0_1n : Nat) (p0_1c : Nat) (p1a : Option Addr) (p1n : Nat) (p1c : Nat) (p2 : ByteArray) (p3 : Int) (R : Value → World →
  Prop) (w : World) : fnW Try.prog [4, 9, 12, 23, 100015, 100025] Try.f17 [Value.agg #[Value.int IntKind.i64 p0_0, Value.slice p0_1a p0_1n p0_1c], Value.slice p1a p1n
  p1c, Value.string p2, Value.int IntKind.u8 p3] R w = f17_vc p0_0 p0_1a p0_1n p0_1c p1a p1n p1c p2 p3 R w := by kernel_rfl
theorem f17_in (p0_0 : Int) (p0_1a : Option Addr) (p0_1n : Nat) (p0_1c : Nat) (p1a : Option Addr) (p1n : Nat) (p1c : Nat) (p2 : ByteArray) (p3 : Int) (R : Value → World →
  Prop) (w : World) (h : f17_vc p0_0 p0_1a p0_1n p0_1c p1a p1n p1c p2 p3 R w) : Ct Try.prog 17 #[Value.agg #[Value.int IntKind.i64 p0_0, Value.slice p0_1a p0_1n p0_1c],
  Value.slice p1a p1n p1c, Value.string p2, Value.int IntKind.u8 p3] w R := by
  refine Ct_of (rk := [4, 9, 12, 23, 100015, 100025]) (fn := Try.f17) (args := [Value.agg #[Value.int IntKind.i64 p0_0, Value.slice p0_1a p0_1n p0_1c], Value.slice p1a p1n p1c, Value.string p2, Value.int IntKind.u8 p3]) mixedT Try.func17 (by kernel_rfl) ?_
  rw [f17_eq]
  exact h
def f18_vc (p0a : Option Addr) (p0n : Nat) (p0c : Nat) (p1 : ByteArray) (R : Value → World → Prop) (w : World) : Prop := Nw (Obj.cells #[Value.string p1] (9 : Nat)) w fun
  n1 w2 => CallW Try.prog [] (83 : Nat) #[Value.slice p0a p0n p0c] (fun v3 w4 => opL v3 fun a5 n6 n7 => CallW Try.prog [] (38 : Nat) #[Value.slice a5 n6 n7] (fun v8 w9 =>
  opB v8 fun b10 => Bd (!b10) fun b11 => Bd ((n6 : Nat) : Int) fun x12 => Bd (x12 == (0 : Int)) fun b13 => Bd (bif b11 then true else b13) fun b14 => If b14 (CallW
  Try.prog [] (77 : Nat) #[] (fun v15 w16 => opB v15 fun b17 => R (Value.bool b17) w16) w9) (Ld w9 (Addr.mk n1 (0 : Nat) none) fun v18 => opStr v18 fun s19 => CallW
  Try.prog [] (68 : Nat) #[Value.string s19, Value.int IntKind.i64 (20 : Int)] (fun v20 w21 => opStr v20 fun s22 => ¬n1 ∈ [] ∧ Wr w21 (Addr.mk n1 (0 : Nat) none) (1 :
  Nat) ∧ Bd ((n6 : Nat) : Int) fun x23 => LoopP (fun l24 l25 J26 w27 => opL (nthD l24 (0 : Nat)) fun a28 n29 n30 => opI IntKind.i64 (nthD l24 (1 : Nat)) fun x31 => Bd
  (decide (x31 < x23)) fun b32 => If b32 (Bd ((n6 : Nat) : Int) fun x33 => Bd (IntKind.wrap IntKind.i64 (x33 - (1 : Int))) fun x34 => Bd (IntKind.wrap IntKind.i64 (x34 -
  x31)) fun x35 => IxOk x35 n6 a5 ∧ Ld w27 (Addr.add (adAt a5 x35 (6 : Nat)) (0 : Nat)) fun v36 => Ld w27 (Addr.add (adAt a5 x35 (6 : Nat)) (1 : Nat)) fun v37 => Ld w27
  (Addr.add (adAt a5 x35 (6 : Nat)) (2 : Nat)) fun v38 => Ld w27 (Addr.add (adAt a5 x35 (6 : Nat)) (3 : Nat)) fun v39 => Ld w27 (Addr.add (adAt a5 x35 (6 : Nat)) (4 :
  Nat)) fun v40 => Ld w27 (Addr.add (adAt a5 x35 (6 : Nat)) (5 : Nat)) fun v41 => opI IntKind.u8 v36 fun x42 => opI IntKind.u64 v37 fun x43 => opI IntKind.u64 v38 fun x44
  => opI IntKind.u64 v39 fun x45 => opI IntKind.u64 v40 fun x46 => opL v41 fun a47 n48 n49 => Nw (Obj.cells #[Value.int IntKind.u8 x42, Value.int IntKind.u64 x43,
  Value.int IntKind.u64 x44, Value.int IntKind.u64 x45, Value.int IntKind.u64 x46, Value.slice a47 n48 n49] (42 : Nat)) w27 fun n50 w51 => RunW Try.prog []
  (Builtin.append_ #[(22 : Nat), (22 : Nat)] (22 : Nat) #[Value.slice a28 n29 n30, Value.slice (some (Addr.mk n50 (0 : Nat) none)) (1 : Nat) (1 : Nat)]) (fun v52 w53 =>
  opL v52 fun a54 n55 n56 => Bd (IntKind.wrap IntKind.i64 (x31 + (1 : Int))) fun x57 => J26 [Value.slice a54 n55 n56, Value.int IntKind.i64 x57] [] w53) w51) (CallW
  Try.prog [] (89 : Nat) #[Value.slice a5 n6 n7, Value.pointer (some (Addr.mk n1 (0 : Nat) none))] (fun v58 w59 => opL v58 fun a60 n61 n62 => CallW Try.prog [] (89 : Nat)
  #[Value.slice a28 n29 n30, Value.pointer (some (Addr.mk n1 (0 : Nat) none))] (fun v63 w64 => opL v63 fun a65 n66 n67 => Nw (Obj.cells #[] (42 : Nat)) w64 fun n68 w69 =>
  RunW Try.prog [] (Builtin.append_ #[(22 : Nat), (22 : Nat)] (22 : Nat) #[Value.slice (some (Addr.mk n68 (0 : Nat) none)) (0 : Nat) (0 : Nat), Value.slice a5 n6 n7])
  (fun v70 w71 => opL v70 fun a72 n73 n74 => RunW Try.prog [] (Builtin.append_ #[(22 : Nat), (22 : Nat)] (22 : Nat) #[Value.slice a72 n73 n74, Value.slice a5 n6 n7]) (fun
  v75 w76 => opL v75 fun a77 n78 n79 => CallW Try.prog [] (89 : Nat) #[Value.slice a77 n78 n79, Value.pointer (some (Addr.mk n1 (0 : Nat) none))] (fun v80 w81 => opL v80
  fun a82 n83 n84 => Bd ((n61 : Nat) : Int) fun x85 => LoopP (fun l86 l87 J88 w89 => opB (nthD l86 (0 : Nat)) fun b90 => opI IntKind.i64 (nthD l86 (1 : Nat)) fun x91 =>
  Bd (decide (x91 < x85)) fun b92 => If b92 (Bd ((n6 : Nat) : Int) fun x93 => Bd (IntKind.wrap IntKind.i64 (x93 - (1 : Int))) fun x94 => IxOk x91 n66 a65 ∧ Ld w89 (adAt
  a65 x91 (1 : Nat)) fun v95 => opI IntKind.i64 v95 fun x96 => Bd (IntKind.wrap IntKind.i64 (x94 - x96)) fun x97 => Dr (World.drew w89) fun J98 => IxOk x91 n61 a60 ∧ ∃
  v99, (∀ (w100 : World), J98 w100 → Ld w100 (adAt a60 x91 (1 : Nat)) fun v102 => v102 = v99) ∧ opI IntKind.i64 v99 fun x103 => IxOk x91 n83 a82 ∧ ∃ v104, (∀ (w105 :
  World), J98 w105 → Ld w105 (adAt a82 x91 (1 : Nat)) fun v107 => v107 = v104) ∧ opI IntKind.i64 v104 fun x108 => Bd (x103 != x108) fun b109 => ((!b109) = true → IxOk x91
  n61 a60) ∧ ∃ x111, ((!b109) = true → ∀ (w113 : World), J98 w113 → Ld w113 (adAt a60 x91 (1 : Nat)) fun v115 => v115 = Value.int IntKind.i64 x111) ∧ Bd (decide (x111 <
  (0 : Int))) fun b116 => ((!b109) = true → IxOk x91 n66 a65) ∧ ∃ x118, ((!b109) = true → ∀ (w120 : World), J98 w120 → Ld w120 (adAt a65 x91 (1 : Nat)) fun v122 => v122 =
  Value.int IntKind.i64 x118) ∧ Bd (decide (x118 < (0 : Int))) fun b123 => Bd (!b116 == b123) fun b124 => Bd (bif b109 then true else b124) fun b125 => ((!b125) = true →
  IxOk x91 n61 a60) ∧ ∃ x127, ((!b125) = true → ∀ (w129 : World), J98 w129 → Ld w129 (adAt a60 x91 (1 : Nat)) fun v131 => v131 = Value.int IntKind.i64 x127) ∧ Bd (decide
  (x127 ≥ (0 : Int))) fun b132 => ((!b125 && b132) = true → IxOk x91 n61 a60) ∧ ∃ x134, ((!b125 && b132) = true → ∀ (w136 : World), J98 w136 → Ld w136 (adAt a60 x91 (1 :
  Nat)) fun v138 => v138 = Value.int IntKind.i64 x134) ∧ Bd (decide (x97 < x134)) fun b139 => Bd (bif b132 then b139 else false) fun b140 => Bd (bif b125 then true else
  b140) fun b141 => Bd ((n6 : Nat) : Int) fun x142 => Bd (x142 == (1 : Int)) fun b143 => ((!b141 && b143) = true → IxOk x91 n61 a60) ∧ ∃ x145, ((!b141 && b143) = true → ∀
  (w147 : World), J98 w147 → Ld w147 (adAt a60 x91 (1 : Nat)) fun v149 => v149 = Value.int IntKind.i64 x145) ∧ ((!b141 && b143) = true → IxOk x91 n66 a65) ∧ ∃ x151,
  ((!b141 && b143) = true → ∀ (w153 : World), J98 w153 → Ld w153 (adAt a65 x91 (1 : Nat)) fun v155 => v155 = Value.int IntKind.i64 x151) ∧ Bd (x145 != x151) fun b156 =>
  Bd (bif b143 then b156 else false) fun b157 => Bd (bif b141 then true else b157) fun b158 => If b158 (R (Value.bool false) (World.drew w89)) (Bd (IntKind.wrap
  IntKind.i64 (x91 + (1 : Int))) fun x159 => J88 [Value.bool b90, Value.int IntKind.i64 x159] [] (World.drew w89))) (CallW Try.prog [] (66 : Nat) #[Value.slice none (0 :
  Nat) (0 : Nat), Value.int IntKind.i64 (5 : Int)] (fun v160 w161 => opTu v160 fun cs162 => opAg (nthD (Array.toList cs162) (0 : Nat)) fun cs163 => opI IntKind.i64 (nthD
  (Array.toList cs163) (0 : Nat)) fun x164 => opL (nthD (Array.toList cs163) (1 : Nat)) fun a165 n166 n167 => SzIs (Array.size cs163) (2 : Nat) (opI IntKind.i64 (nthD
  (Array.toList cs162) (1 : Nat)) fun x168 => SzIs (Array.size cs162) (2 : Nat) (Rg w161 fun n169 => Up [n169] [n169] w161 fun w170 => RunW Try.prog [n169]
  (Instr.makeSlice (22 : Nat) (Value.int IntKind.i64 (201 : Int)) (Value.int IntKind.i64 (201 : Int))) (fun v171 w172 => opL v171 fun a173 n174 n175 => CallW Try.prog
  [n169] (66 : Nat) #[Value.slice a173 n174 n175, Value.int IntKind.i64 (20000 : Int)] (fun v176 w177 => opTu v176 fun cs178 => opAg (nthD (Array.toList cs178) (0 : Nat))
  fun cs179 => opI IntKind.i64 (nthD (Array.toList cs179) (0 : Nat)) fun x180 => opL (nthD (Array.toList cs179) (1 : Nat)) fun a181 n182 n183 => SzIs (Array.size cs179)
  (2 : Nat) (opI IntKind.i64 (nthD (Array.toList cs178) (1 : Nat)) fun x184 => SzIs (Array.size cs178) (2 : Nat) (Rg w177 fun n185 => Up [n185] [n185, n169] w177 fun w186
  => CallW Try.prog [n185, n169] (66 : Nat) #[Value.slice a5 n6 n7, Value.int IntKind.i64 (20001 : Int)] (fun v187 w188 => opTu v187 fun cs189 => opAg (nthD (Array.toList
  cs189) (0 : Nat)) fun cs190 => opI IntKind.i64 (nthD (Array.toList cs190) (0 : Nat)) fun x191 => opL (nthD (Array.toList cs190) (1 : Nat)) fun a192 n193 n194 => SzIs
  (Array.size cs190) (2 : Nat) (opI IntKind.i64 (nthD (Array.toList cs189) (1 : Nat)) fun x195 => SzIs (Array.size cs189) (2 : Nat) (Rg w188 fun n196 => Bd (x168 == (2 :
  Int)) fun b197 => Bd (x184 == (2 : Int)) fun b198 => Bd (bif b197 then b198 else false) fun b199 => Bd (x195 == (2 : Int)) fun b200 => Bd (bif b199 then b200 else
  false) fun b201 => Up [n196] [n196, n185, n169] w188 fun w202 => Gd b201 false (fun J203 => CallW Try.prog [n196, n185, n169] (77 : Nat) #[] (fun v204 w205 => opB v204
  fun b206 => J203 b206 w205) w202) (fun b207 w208 => Bd (bif b201 then b207 else false) fun b209 => R (Value.bool b209) w208) w202))) w186))) w172) w170))) w89))
  [Value.bool false, Value.int IntKind.i64 (0 : Int)] [] w81) w76) w71) w69) w59) w27)) [Value.slice none (0 : Nat) (0 : Nat), Value.int IntKind.i64 (0 : Int)] []
  (setCells w21 (Addr.mk n1 (0 : Nat) none) (0 : Nat) [Value.string s22])) w9)) w4) w2
theorem f18_eq (p0a : Option Addr) (p0n : Nat) (p0c : Nat) (p1 : ByteArray) (R : Value → World → Prop) (w : World) : fnW Try.prog [13, 15, 17, 100017] Try.f18
  [Value.slice p0a p0n p0c, Value.string p1] R w = f18_vc p0a p0n p0c p1 R w := by kernel_rfl
theorem f18_in (p0a : Option Addr) (p0n : Nat) (p0c : Nat) (p1 : ByteArray) (R : Value → World → Prop) (w : World) (h : f18_vc p0a p0n p0c p1 R w) : Ct Try.prog 18
  #[Value.slice p0a p0n p0c, Value.string p1] w R := by
  refine Ct_of (rk := [13, 15, 17, 100017]) (fn := Try.f18) (args := [Value.slice p0a p0n p0c, Value.string p1]) mixedT Try.func18 (by kernel_rfl) ?_
  rw [f18_eq]
  exact h
def f89_vc (p0a : Option Addr) (p0n : Nat) (p0c : Nat) (q0 : Addr) (R : Value → World → Prop) (w : World) : Prop := CallW Try.prog [] (66 : Nat) #[Value.slice p0a p0n
  p0c, Value.int IntKind.i64 (20000 : Int)] (fun v1 w2 => opTu v1 fun cs3 => opAg (nthD (Array.toList cs3) (0 : Nat)) fun cs4 => opI IntKind.i64 (nthD (Array.toList cs4)
  (0 : Nat)) fun x5 => opL (nthD (Array.toList cs4) (1 : Nat)) fun a6 n7 n8 => SzIs (Array.size cs4) (2 : Nat) (opI IntKind.i64 (nthD (Array.toList cs3) (1 : Nat)) fun x9
  => SzIs (Array.size cs3) (2 : Nat) (Rg w2 fun n10 => Up [n10] [n10] w2 fun w11 => Ld w11 q0 fun v12 => opStr v12 fun s13 => CallW Try.prog [n10] (69 : Nat) #[Value.agg
  #[Value.int IntKind.i64 x5, Value.slice a6 n7 n8], Value.string s13] (fun v14 w15 => opTu v14 fun cs16 => opL (nthD (Array.toList cs16) (0 : Nat)) fun a17 n18 n19 =>
  opI IntKind.i64 (nthD (Array.toList cs16) (1 : Nat)) fun x20 => SzIs (Array.size cs16) (2 : Nat) (Bd (x9 != (0 : Int)) fun b21 => Bd (x20 != (0 : Int)) fun b22 => Bd
  (bif b21 then true else b22) fun b23 => Bd ((n18 : Nat) : Int) fun x24 => Gd (!b23) ByteArray.empty (fun J25 => Ld w15 q0 fun v26 => opStr v26 fun s27 => J25 s27 w15)
  (fun s28 w29 => Bd (((ByteArray.size s28) : Nat) : Int) fun x30 => Bd (IntKind.wrap IntKind.i64 (x30 + (1 : Int))) fun x31 => Bd (x24 != x31) fun b32 => Bd (bif b23
  then true else b32) fun b33 => If b33 (Ld w29 q0 fun v34 => opStr v34 fun s35 => Bd (((ByteArray.size s35) : Nat) : Int) fun x36 => Bd (IntKind.wrap IntKind.i64 (x36 +
  (1 : Int))) fun x37 => RunW Try.prog [n10] (Instr.makeSlice (52 : Nat) (Value.int IntKind.i64 x37) (Value.int IntKind.i64 x37)) (fun v38 w39 => opL v38 fun a40 n41 n42
  => R (Value.slice a40 n41 n42) w39) w29) (R (Value.slice a17 n18 n19) w29)) w15)) w11))) w
theorem f89_eq (p0a : Option Addr) (p0n : Nat) (p0c : Nat) (q0 : Addr) (R : Value → World → Prop) (w : World) : fnW Try.prog [4] Try.f89 [Value.slice p0a p0n p0c,
  Value.pointer (some q0)] R w = f89_vc p0a p0n p0c q0 R w := by kernel_rfl
theorem f89_in (p0a : Option Addr) (p0n : Nat) (p0c : Nat) (q0 : Addr) (R : Value → World → Prop) (w : World) (h : f89_vc p0a p0n p0c q0 R w) : Ct Try.prog 89
  #[Value.slice p0a p0n p0c, Value.pointer (some q0)] w R := by
  refine Ct_of (rk := [4]) (fn := Try.f89) (args := [Value.slice p0a p0n p0c, Value.pointer (some q0)]) mixedT Try.func89 (by kernel_rfl) ?_
  rw [f89_eq]
  exact h
def f14_vc (p0a : Option Addr) (p0n : Nat) (p0c : Nat) (p1 : ByteArray) (R : Value → World → Prop) (w : World) : Prop := CallW Try.prog [] (83 : Nat) #[Value.slice p0a
  p0n p0c] (fun v1 w2 => opL v1 fun a3 n4 n5 => CallW Try.prog [] (38 : Nat) #[Value.slice a3 n4 n5] (fun v6 w7 => opB v6 fun b8 => Bd (!b8) fun b9 => Bd ((n4 : Nat) :
  Int) fun x10 => Bd (x10 == (0 : Int)) fun b11 => Bd (bif b9 then true else b11) fun b12 => If b12 (CallW Try.prog [] (77 : Nat) #[] (fun v13 w14 => opB v13 fun b15 => R
  (Value.bool b15) w14) w7) (CallW Try.prog [] (68 : Nat) #[Value.string p1, Value.int IntKind.i64 (14 : Int)] (fun v16 w17 => opStr v16 fun s18 => CallW Try.prog [] (66
  : Nat) #[Value.slice a3 n4 n5, Value.int IntKind.i64 (20000 : Int)] (fun v19 w20 => opTu v19 fun cs21 => opAg (nthD (Array.toList cs21) (0 : Nat)) fun cs22 => opI
  IntKind.i64 (nthD (Array.toList cs22) (0 : Nat)) fun x23 => opL (nthD (Array.toList cs22) (1 : Nat)) fun a24 n25 n26 => SzIs (Array.size cs22) (2 : Nat) (opI
  IntKind.i64 (nthD (Array.toList cs21) (1 : Nat)) fun x27 => SzIs (Array.size cs21) (2 : Nat) (Rg w20 fun n28 => Up [n28] [n28] w20 fun w29 => CallW Try.prog [n28] (69 :
  Nat) #[Value.agg #[Value.int IntKind.i64 x23, Value.slice a24 n25 n26], Value.string s18] (fun v30 w31 => opTu v30 fun cs32 => opL (nthD (Array.toList cs32) (0 : Nat))
  fun a33 n34 n35 => opI IntKind.i64 (nthD (Array.toList cs32) (1 : Nat)) fun x36 => SzIs (Array.size cs32) (2 : Nat) (Bd (x27 != (0 : Int)) fun b37 => Bd (x36 != (0 :
  Int)) fun b38 => Bd (bif b37 then true else b38) fun b39 => Gd (!b39) false (fun J40 => CallW Try.prog [n28] (81 : Nat) #[Value.agg #[Value.int IntKind.i64 x23,
  Value.slice a24 n25 n26]] (fun v41 w42 => opB v41 fun b43 => J40 b43 w42) w31) (fun b44 w45 => Bd (!b44) fun b46 => Bd (bif b39 then true else b46) fun b47 => Bd ((n34
  : Nat) : Int) fun x48 => Bd (((ByteArray.size s18) : Nat) : Int) fun x49 => Bd (IntKind.wrap IntKind.i64 (x49 + (1 : Int))) fun x50 => Bd (x48 != x50) fun b51 => Bd
  (bif b47 then true else b51) fun b52 => If b52 (R (Value.bool false) w45) (Bd ((n4 : Nat) : Int) fun x53 => LoopP (fun l54 l55 J56 w57 => opL (nthD l54 (0 : Nat)) fun
  a58 n59 n60 => opI IntKind.i64 (nthD l54 (1 : Nat)) fun x61 => Bd (decide (x61 < x53)) fun b62 => If b62 (IxOk x61 n4 a3 ∧ Ld w57 (Addr.add (adAt a3 x61 (6 : Nat)) (0 :
  Nat)) fun v63 => Ld w57 (Addr.add (adAt a3 x61 (6 : Nat)) (1 : Nat)) fun v64 => Ld w57 (Addr.add (adAt a3 x61 (6 : Nat)) (2 : Nat)) fun v65 => Ld w57 (Addr.add (adAt a3
  x61 (6 : Nat)) (3 : Nat)) fun v66 => Ld w57 (Addr.add (adAt a3 x61 (6 : Nat)) (4 : Nat)) fun v67 => Ld w57 (Addr.add (adAt a3 x61 (6 : Nat)) (5 : Nat)) fun v68 => opI
  IntKind.u8 v63 fun x69 => opI IntKind.u64 v64 fun x70 => opI IntKind.u64 v65 fun x71 => opI IntKind.u64 v66 fun x72 => opI IntKind.u64 v67 fun x73 => opL v68 fun a74
  n75 n76 => Rg w57 fun n77 => Up [n77] [n77, n28] w57 fun w78 => CallW Try.prog [n77, n28] (74 : Nat) #[Value.agg #[Value.int IntKind.u8 x69, Value.int IntKind.u64 x70,
  Value.int IntKind.u64 x71, Value.int IntKind.u64 x72, Value.int IntKind.u64 x73, Value.slice a74 n75 n76], Value.string s18] (fun v79 w80 => opL v79 fun a81 n82 n83 =>
  Nw (Obj.cells #[Value.slice a81 n82 n83] (84 : Nat)) w80 fun n84 w85 => RunW Try.prog [n77, n28] (Builtin.append_ #[(93 : Nat), (93 : Nat)] (93 : Nat) #[Value.slice a58
  n59 n60, Value.slice (some (Addr.mk n84 (0 : Nat) none)) (1 : Nat) (1 : Nat)]) (fun v86 w87 => opL v86 fun a88 n89 n90 => Bd (IntKind.wrap IntKind.i64 (x61 + (1 :
  Int))) fun x91 => J56 [Value.slice a88 n89 n90, Value.int IntKind.i64 x91] [] w87) w85) w78) (Bd ((n34 : Nat) : Int) fun x92 => LoopP (fun l93 l94 J95 w96 => opB (nthD
  l93 (0 : Nat)) fun b97 => opI IntKind.i64 (nthD l93 (1 : Nat)) fun x98 => Bd (decide (x98 < x92)) fun b99 => If b99 (IxOk x98 n34 a33 ∧ Ld w96 (adAt a33 x98 (1 : Nat))
  fun v100 => opI IntKind.i64 v100 fun x101 => Bd ((n59 : Nat) : Int) fun x102 => Bd (IntKind.wrap IntKind.i64 (x102 - (1 : Int))) fun x103 => LoopP (fun l104 l105 J106
  w107 => opI IntKind.i64 (nthD l104 (0 : Nat)) fun x108 => opI IntKind.i64 (nthD l104 (1 : Nat)) fun x109 => Bd (decide (x109 ≥ (0 : Int))) fun b110 => If b110 (Jn (fun
  l111 l112 w113 => opI IntKind.i64 (nthD l111 (0 : Nat)) fun x114 => Bd (IntKind.wrap IntKind.i64 (x109 - (1 : Int))) fun x115 => J106 [Value.int IntKind.i64 x114,
  Value.int IntKind.i64 x115] [] w113) fun J116 => IxOk x109 n59 a58 ∧ Ld w107 (adAt a58 x109 (1 : Nat)) fun v117 => opL v117 fun a118 n119 n120 => CallW Try.prog [n28]
  (75 : Nat) #[Value.slice a118 n119 n120, Value.int IntKind.i64 (0 : Int), Value.int IntKind.i64 x98] (fun v121 w122 => opB v121 fun b123 => If b123 (J116 [Value.int
  IntKind.i64 x109] [] w122) (J116 [Value.int IntKind.i64 x108] [] w122)) w107) (Bd (x101 != x108) fun b124 => If b124 (R (Value.bool false) w107) (Bd (IntKind.wrap
  IntKind.i64 (x98 + (1 : Int))) fun x125 => J95 [Value.bool b97, Value.int IntKind.i64 x125] [] w107))) [Value.int IntKind.i64 (-1 : Int), Value.int IntKind.i64 x103] []
  w96) (CallW Try.prog [n28] (77 : Nat) #[] (fun v126 w127 => opB v126 fun b128 => R (Value.bool b128) w127) w96)) [Value.bool false, Value.int IntKind.i64 (0 : Int)] []
  w57)) [Value.slice none (0 : Nat) (0 : Nat), Value.int IntKind.i64 (0 : Int)] [] w45)) w31)) w29))) w17) w7)) w2) w
theorem f14_eq (p0a : Option Addr) (p0n : Nat) (p0c : Nat) (p1 : ByteArray) (R : Value → World → Prop) (w : World) : fnW Try.prog [5, 11] Try.f14 [Value.slice p0a p0n
  p0c, Value.string p1] R w = f14_vc p0a p0n p0c p1 R w := by kernel_rfl
theorem f14_in (p0a : Option Addr) (p0n : Nat) (p0c : Nat) (p1 : ByteArray) (R : Value → World → Prop) (w : World) (h : f14_vc p0a p0n p0c p1 R w) : Ct Try.prog 14
  #[Value.slice p0a p0n p0c, Value.string p1] w R := by
  refine Ct_of (rk := [5, 11]) (fn := Try.f14) (args := [Value.slice p0a p0n p0c, Value.string p1]) mixedT Try.func14 (by kernel_rfl) ?_
  rw [f14_eq]
  exact h
end Fk
