/- Conditions of functions, as the generator works them out; each one is checked by the kernel. -/
import Derived.Test.YtpgjpgecgibklaaTT
set_option linter.unusedVariables false
set_option maxRecDepth 1000000
set_option maxHeartbeats 4000000
namespace Fk
open Go Go.Proofs Go.RowKit
def f157_vc (p0 : Option Addr) (R : Value → World → Prop) (w : World) : Prop := NN p0 fun A1 => CallW Try.prog [] (158 : Nat) #[Value.pointer (some (Addr.add A1 (0 :
  Nat)))] (fun v2 w3 => opI IntKind.i64 v2 fun x4 => Bd (x4 == (70 : Int)) fun b5 => (b5 = true → Option.isSome p0 = true) ∧ Bd (Option.getD p0 default) fun A7 => Gd b5
  (0 : Int) (fun J8 => CallW Try.prog [] (158 : Nat) #[Value.pointer (some (Addr.add A7 (0 : Nat)))] (fun v9 w10 => opI IntKind.i64 v9 fun x11 => J8 x11 w10) w3) (fun x12
  w13 => Bd (x12 == (84 : Int)) fun b14 => Bd (bif b5 then b14 else false) fun b15 => (b15 = true → Option.isSome p0 = true) ∧ Bd (Option.getD p0 default) fun A17 => Gd
  b15 (0 : Int) (fun J18 => CallW Try.prog [] (158 : Nat) #[Value.pointer (some (Addr.add A17 (0 : Nat)))] (fun v19 w20 => opI IntKind.i64 v19 fun x21 => J18 x21 w20)
  w13) (fun x22 w23 => Bd (x22 == (1 : Int)) fun b24 => Bd (bif b15 then b24 else false) fun b25 => NN p0 fun A26 => Ld w23 (Addr.add (Addr.add A26 (0 : Nat)) (1 : Nat))
  fun v27 => opB v27 fun b28 => Bd (!b25) fun b29 => Bd (bif b28 then true else b29) fun b30 => NN p0 fun A31 => ¬Addr.block (Addr.add A31 (0 : Nat)) ∈ [] ∧ Wr w23
  (Addr.add (Addr.add A31 (0 : Nat)) (1 : Nat)) (1 : Nat) ∧ NN p0 fun A32 => CallW Try.prog [] (158 : Nat) #[Value.pointer (some (Addr.add A32 (0 : Nat)))] (fun v33 w34
  => opI IntKind.i64 v33 fun x35 => Bd (IntKind.wrap IntKind.i64 (x35 + (1 : Int))) fun x36 => NN p0 fun A37 => ¬Addr.block A37 ∈ [] ∧ Wr w34 (Addr.add (Addr.add
  (Addr.add A37 (2 : Nat)) (257 : Nat)) (0 : Nat)) (1 : Nat) ∧ NN p0 fun A38 => CallW Try.prog [] (159 : Nat) #[Value.pointer (some (Addr.add A38 (0 : Nat)))] (fun v39
  w40 => opI IntKind.i64 v39 fun x41 => NN p0 fun A42 => CallW Try.prog [] (158 : Nat) #[Value.pointer (some (Addr.add A42 (0 : Nat)))] (fun v43 w44 => opI IntKind.i64
  v43 fun x45 => LoopP (fun l46 l47 J48 w49 => opI IntKind.i64 (nthD l46 (0 : Nat)) fun x50 => Bd (decide (x50 < x45)) fun b51 => If b51 (NN p0 fun A52 => NN p0 fun A53
  => NN p0 fun A54 => (Ld (World.drew w49) (Addr.add (Addr.add A52 (2 : Nat)) (260 : Nat)) fun v55 => opL v55 fun a56 n57 n58 => CallW Try.prog [] (158 : Nat)
  #[Value.pointer (some (Addr.add A54 (0 : Nat)))] (fun v59 w60 => opI IntKind.i64 v59 fun x61 => CallW Try.prog [] (217 : Nat) #[Value.pointer (some (Addr.add A53 (0 :
  Nat))), Value.int IntKind.i64 x61] (fun v62 w63 => opL v62 fun a64 n65 n66 => RunW Try.prog [] (convert (51 : Nat) (9 : Nat) (Value.slice a64 n65 n66)) (fun v67 w68 =>
  opStr v67 fun s69 => Nw (Obj.cells #[Value.string s69] (9 : Nat)) w68 fun n70 w71 => RunW Try.prog [] (Builtin.append_ #[(55 : Nat), (55 : Nat)] (55 : Nat)
  #[Value.slice a56 n57 n58, Value.slice (some (Addr.mk n70 (0 : Nat) none)) (1 : Nat) (1 : Nat)]) (fun v72 w73 => opL v72 fun a74 n75 n76 => NN p0 fun A77 => ¬Addr.block
  A77 ∈ [] ∧ Wr w73 (Addr.add (Addr.add A77 (2 : Nat)) (260 : Nat)) (1 : Nat) ∧ Bd (IntKind.wrap IntKind.i64 (x50 + (1 : Int))) fun x78 => J48 [Value.int IntKind.i64 x78]
  [] (setCells w73 (Addr.add (Addr.add A77 (2 : Nat)) (260 : Nat)) (0 : Nat) [Value.slice a74 n75 n76])) w71) w63) w60) (World.drew w49)) ∧ CallW Try.prog [] (158 : Nat)
  #[Value.pointer (some (Addr.add A54 (0 : Nat)))] (fun v79 w80 => opI IntKind.i64 v79 fun x81 => (Ld w80 (Addr.add (Addr.add A52 (2 : Nat)) (260 : Nat)) fun v82 => opL
  v82 fun a83 n84 n85 => CallW Try.prog [] (217 : Nat) #[Value.pointer (some (Addr.add A53 (0 : Nat))), Value.int IntKind.i64 x81] (fun v86 w87 => opL v86 fun a88 n89 n90
  => RunW Try.prog [] (convert (51 : Nat) (9 : Nat) (Value.slice a88 n89 n90)) (fun v91 w92 => opStr v91 fun s93 => Nw (Obj.cells #[Value.string s93] (9 : Nat)) w92 fun
  n94 w95 => RunW Try.prog [] (Builtin.append_ #[(55 : Nat), (55 : Nat)] (55 : Nat) #[Value.slice a83 n84 n85, Value.slice (some (Addr.mk n94 (0 : Nat) none)) (1 : Nat)
  (1 : Nat)]) (fun v96 w97 => opL v96 fun a98 n99 n100 => NN p0 fun A101 => ¬Addr.block A101 ∈ [] ∧ Wr w97 (Addr.add (Addr.add A101 (2 : Nat)) (260 : Nat)) (1 : Nat) ∧ Bd
  (IntKind.wrap IntKind.i64 (x50 + (1 : Int))) fun x102 => J48 [Value.int IntKind.i64 x102] [] (setCells w97 (Addr.add (Addr.add A101 (2 : Nat)) (260 : Nat)) (0 : Nat)
  [Value.slice a98 n99 n100])) w95) w87) w80) ∧ CallW Try.prog [] (217 : Nat) #[Value.pointer (some (Addr.add A53 (0 : Nat))), Value.int IntKind.i64 x81] (fun v103 w104
  => opL v103 fun a105 n106 n107 => (Ld w104 (Addr.add (Addr.add A52 (2 : Nat)) (260 : Nat)) fun v108 => opL v108 fun a109 n110 n111 => RunW Try.prog [] (convert (51 :
  Nat) (9 : Nat) (Value.slice a105 n106 n107)) (fun v112 w113 => opStr v112 fun s114 => Nw (Obj.cells #[Value.string s114] (9 : Nat)) w113 fun n115 w116 => RunW Try.prog
  [] (Builtin.append_ #[(55 : Nat), (55 : Nat)] (55 : Nat) #[Value.slice a109 n110 n111, Value.slice (some (Addr.mk n115 (0 : Nat) none)) (1 : Nat) (1 : Nat)]) (fun v117
  w118 => opL v117 fun a119 n120 n121 => NN p0 fun A122 => ¬Addr.block A122 ∈ [] ∧ Wr w118 (Addr.add (Addr.add A122 (2 : Nat)) (260 : Nat)) (1 : Nat) ∧ Bd (IntKind.wrap
  IntKind.i64 (x50 + (1 : Int))) fun x123 => J48 [Value.int IntKind.i64 x123] [] (setCells w118 (Addr.add (Addr.add A122 (2 : Nat)) (260 : Nat)) (0 : Nat) [Value.slice
  a119 n120 n121])) w116) w104) ∧ RunW Try.prog [] (convert (51 : Nat) (9 : Nat) (Value.slice a105 n106 n107)) (fun v124 w125 => opStr v124 fun s126 => (Ld w125 (Addr.add
  (Addr.add A52 (2 : Nat)) (260 : Nat)) fun v127 => opL v127 fun a128 n129 n130 => Nw (Obj.cells #[Value.string s126] (9 : Nat)) w125 fun n131 w132 => RunW Try.prog []
  (Builtin.append_ #[(55 : Nat), (55 : Nat)] (55 : Nat) #[Value.slice a128 n129 n130, Value.slice (some (Addr.mk n131 (0 : Nat) none)) (1 : Nat) (1 : Nat)]) (fun v133
  w134 => opL v133 fun a135 n136 n137 => NN p0 fun A138 => ¬Addr.block A138 ∈ [] ∧ Wr w134 (Addr.add (Addr.add A138 (2 : Nat)) (260 : Nat)) (1 : Nat) ∧ Bd (IntKind.wrap
  IntKind.i64 (x50 + (1 : Int))) fun x139 => J48 [Value.int IntKind.i64 x139] [] (setCells w134 (Addr.add (Addr.add A138 (2 : Nat)) (260 : Nat)) (0 : Nat) [Value.slice
  a135 n136 n137])) w132) ∧ Nw (Obj.cells #[Value.string s126] (9 : Nat)) w125 fun n140 w141 => Ld w141 (Addr.add (Addr.add A52 (2 : Nat)) (260 : Nat)) fun v142 => opL
  v142 fun a143 n144 n145 => RunW Try.prog [] (Builtin.append_ #[(55 : Nat), (55 : Nat)] (55 : Nat) #[Value.slice a143 n144 n145, Value.slice (some (Addr.mk n140 (0 :
  Nat) none)) (1 : Nat) (1 : Nat)]) (fun v146 w147 => opL v146 fun a148 n149 n150 => NN p0 fun A151 => ¬Addr.block A151 ∈ [] ∧ Wr w147 (Addr.add (Addr.add A151 (2 : Nat))
  (260 : Nat)) (1 : Nat) ∧ Bd (IntKind.wrap IntKind.i64 (x50 + (1 : Int))) fun x152 => J48 [Value.int IntKind.i64 x152] [] (setCells w147 (Addr.add (Addr.add A151 (2 :
  Nat)) (260 : Nat)) (0 : Nat) [Value.slice a148 n149 n150])) w141) w104) w80) (World.drew w49)) (NN p0 fun A153 => NN p0 fun A154 => RunW Try.prog [] (Instr.sliceAt (23
  : Nat) (Value.pointer (some (Addr.add (Addr.add (Addr.add A153 (2 : Nat)) (0 : Nat)) (0 : Nat)))) none none none) (fun v155 w156 => opL v155 fun a157 n158 n159 => CallW
  Try.prog [] (217 : Nat) #[Value.pointer (some (Addr.add A154 (0 : Nat))), Value.int IntKind.i64 (256 : Int)] (fun v160 w161 => opL v160 fun a162 n163 n164 => RunW
  Try.prog [] (Builtin.copy_ #[(51 : Nat), (51 : Nat)] (3 : Nat) #[Value.slice a157 n158 n159, Value.slice a162 n163 n164]) (fun v165 w166 => opI IntKind.i64 v165 fun
  x167 => NN p0 fun A168 => Ld w166 (Addr.add (Addr.add (Addr.add A168 (2 : Nat)) (257 : Nat)) (0 : Nat)) fun v169 => opI IntKind.i64 v169 fun x170 => NN p0 fun A171 =>
  ¬Addr.block A171 ∈ [] ∧ Wr w166 (Addr.add (Addr.add (Addr.add A171 (2 : Nat)) (0 : Nat)) (256 : Nat)) (1 : Nat) ∧ R (Value.int IntKind.i64 x41) (setCells w166 (Addr.add
  (Addr.add (Addr.add A171 (2 : Nat)) (0 : Nat)) (256 : Nat)) (0 : Nat) [Value.int IntKind.i64 x170])) w161) w156) (World.drew w49) ∧ CallW Try.prog [] (217 : Nat)
  #[Value.pointer (some (Addr.add A154 (0 : Nat))), Value.int IntKind.i64 (256 : Int)] (fun v172 w173 => opL v172 fun a174 n175 n176 => RunW Try.prog [] (Instr.sliceAt
  (23 : Nat) (Value.pointer (some (Addr.add (Addr.add (Addr.add A153 (2 : Nat)) (0 : Nat)) (0 : Nat)))) none none none) (fun v177 w178 => opL v177 fun a179 n180 n181 =>
  RunW Try.prog [] (Builtin.copy_ #[(51 : Nat), (51 : Nat)] (3 : Nat) #[Value.slice a179 n180 n181, Value.slice a174 n175 n176]) (fun v182 w183 => opI IntKind.i64 v182
  fun x184 => NN p0 fun A185 => Ld w183 (Addr.add (Addr.add (Addr.add A185 (2 : Nat)) (257 : Nat)) (0 : Nat)) fun v186 => opI IntKind.i64 v186 fun x187 => NN p0 fun A188
  => ¬Addr.block A188 ∈ [] ∧ Wr w183 (Addr.add (Addr.add (Addr.add A188 (2 : Nat)) (0 : Nat)) (256 : Nat)) (1 : Nat) ∧ R (Value.int IntKind.i64 x41) (setCells w183
  (Addr.add (Addr.add (Addr.add A188 (2 : Nat)) (0 : Nat)) (256 : Nat)) (0 : Nat) [Value.int IntKind.i64 x187])) w178) w173) (World.drew w49))) [Value.int IntKind.i64 (0
  : Int)] [] w44) w40) (setCells w34 (Addr.add (Addr.add (Addr.add A37 (2 : Nat)) (257 : Nat)) (0 : Nat)) (0 : Nat) [Value.int IntKind.i64 x36])) (setCells w23 (Addr.add
  (Addr.add A31 (0 : Nat)) (1 : Nat)) (0 : Nat) [Value.bool b30])) w13) w3) w
theorem f157_eq (p0 : Option Addr) (R : Value → World → Prop) (w : World) : fnW Try.prog [] Try.f157 [Value.pointer p0] R w = f157_vc p0 R w := by kernel_rfl
theorem f157_in (p0 : Option Addr) (R : Value → World → Prop) (w : World) (h : f157_vc p0 R w) : Ct Try.prog 157 #[Value.pointer p0] w R := by
  refine Ct_of (rk := []) (fn := Try.f157) (args := [Value.pointer p0]) mixedT Try.func157 (by kernel_rfl) ?_
  rw [f157_eq]
  exact h
def f61_vc (p0a : Option Addr) (p0n : Nat) (p0c : Nat) (R : Value → World → Prop) (w : World) : Prop := Rg w fun n1 => Up [] [n1] w fun w2 => RunW Try.prog [n1]
  (Instr.build (209 : Nat) #[((0 : Nat), Value.agg #[Value.slice p0a p0n p0c, Value.bool false])]) (fun v3 w4 => opBig v3 fun cs5 => Array.size cs5 = (263 : Nat) ∧ Nw
  (Obj.cells cs5 (209 : Nat)) w4 fun n6 w7 => CallW Try.prog [n1] (157 : Nat) #[Value.pointer (some (Addr.mk n6 (0 : Nat) none))] (fun v8 w9 => opI IntKind.i64 v8 fun x10
  => Dr (World.drew w9) fun J11 => NN (some (Addr.mk n6 (0 : Nat) none)) fun A12 => ∃ v13, (∀ (w14 : World), J11 w14 → Ld w14 (Addr.add (Addr.add A12 (0 : Nat)) (1 :
  Nat)) fun v16 => v16 = v13) ∧ opB v13 fun b17 => ((!b17) = true → true = true) ∧ ∃ v19, ((!b17) = true → ∀ (w21 : World), J11 w21 → Ld w21 (Addr.add (Addr.add (Addr.mk
  n6 (0 : Nat) none) (0 : Nat)) (0 : Nat)) fun v23 => v23 = v19) ∧ opL v19 fun a24 n25 n26 => Bd ((n25 : Nat) : Int) fun x27 => Bd (IntKind.wrap IntKind.i64 ((2 : Int) *
  x10)) fun x28 => ((!b17) = true → true = true) ∧ ∃ x30, ((!b17) = true → ∀ (w32 : World), J11 w32 → Ld w32 (Addr.add (Addr.add (Addr.add (Addr.mk n6 (0 : Nat) none) (2
  : Nat)) (257 : Nat)) (0 : Nat)) fun v34 => v34 = Value.int IntKind.i64 x30) ∧ Bd (IntKind.wrap IntKind.i64 (x28 * x30)) fun x35 => Bd (IntKind.wrap IntKind.i64 (x10 +
  x35)) fun x36 => Bd (x27 != x36) fun b37 => Bd (bif b17 then true else b37) fun b38 => If b38 (RunW Try.prog [n1] (Instr.build (57 : Nat) #[]) (fun v39 w40 => opBig v39
  fun cs41 => Array.size cs41 = (261 : Nat) ∧ OkC (Array.toList cs41) (261 : Nat) (Up [n1] [n1] w40 fun w42 => Array.size cs41 = (261 : Nat) ∧ R (Value.tuple #[Value.agg
  cs41, Value.int IntKind.i64 (100 : Int)]) w42)) (World.drew w9)) (LoopP (fun l43 l44 J45 w46 => opI IntKind.i64 (nthD l43 (0 : Nat)) fun x47 => Bd (decide (x47 < x10))
  fun b48 => If b48 (NN (some (Addr.mk n6 (0 : Nat) none)) fun A49 => NN (some (Addr.mk n6 (0 : Nat) none)) fun A50 => (Ld (World.drew w46) (Addr.add (Addr.add (Addr.add
  A49 (2 : Nat)) (257 : Nat)) (2 : Nat)) fun v51 => opL v51 fun a52 n53 n54 => CallW Try.prog [n1] (158 : Nat) #[Value.pointer (some (Addr.add A50 (0 : Nat)))] (fun v55
  w56 => opI IntKind.i64 v55 fun x57 => Bd (IntKind.wrap IntKind.i64 (x57 - (1 : Int))) fun x58 => Nw (Obj.cells #[Value.int IntKind.i64 x58] (3 : Nat)) w56 fun n59 w60
  => RunW Try.prog [n1] (Builtin.append_ #[(52 : Nat), (52 : Nat)] (52 : Nat) #[Value.slice a52 n53 n54, Value.slice (some (Addr.mk n59 (0 : Nat) none)) (1 : Nat) (1 :
  Nat)]) (fun v61 w62 => opL v61 fun a63 n64 n65 => NN (some (Addr.mk n6 (0 : Nat) none)) fun A66 => ¬Addr.block A66 ∈ [n1] ∧ Wr w62 (Addr.add (Addr.add (Addr.add A66 (2
  : Nat)) (257 : Nat)) (2 : Nat)) (1 : Nat) ∧ Bd (IntKind.wrap IntKind.i64 (x47 + (1 : Int))) fun x67 => J45 [Value.int IntKind.i64 x67] [] (setCells w62 (Addr.add
  (Addr.add (Addr.add A66 (2 : Nat)) (257 : Nat)) (2 : Nat)) (0 : Nat) [Value.slice a63 n64 n65])) w60) (World.drew w46)) ∧ CallW Try.prog [n1] (158 : Nat)
  #[Value.pointer (some (Addr.add A50 (0 : Nat)))] (fun v68 w69 => opI IntKind.i64 v68 fun x70 => Bd (IntKind.wrap IntKind.i64 (x70 - (1 : Int))) fun x71 => (Ld w69
  (Addr.add (Addr.add (Addr.add A49 (2 : Nat)) (257 : Nat)) (2 : Nat)) fun v72 => opL v72 fun a73 n74 n75 => Nw (Obj.cells #[Value.int IntKind.i64 x71] (3 : Nat)) w69 fun
  n76 w77 => RunW Try.prog [n1] (Builtin.append_ #[(52 : Nat), (52 : Nat)] (52 : Nat) #[Value.slice a73 n74 n75, Value.slice (some (Addr.mk n76 (0 : Nat) none)) (1 : Nat)
  (1 : Nat)]) (fun v78 w79 => opL v78 fun a80 n81 n82 => NN (some (Addr.mk n6 (0 : Nat) none)) fun A83 => ¬Addr.block A83 ∈ [n1] ∧ Wr w79 (Addr.add (Addr.add (Addr.add
  A83 (2 : Nat)) (257 : Nat)) (2 : Nat)) (1 : Nat) ∧ Bd (IntKind.wrap IntKind.i64 (x47 + (1 : Int))) fun x84 => J45 [Value.int IntKind.i64 x84] [] (setCells w79 (Addr.add
  (Addr.add (Addr.add A83 (2 : Nat)) (257 : Nat)) (2 : Nat)) (0 : Nat) [Value.slice a80 n81 n82])) w77) ∧ Nw (Obj.cells #[Value.int IntKind.i64 x71] (3 : Nat)) w69 fun
  n85 w86 => Ld w86 (Addr.add (Addr.add (Addr.add A49 (2 : Nat)) (257 : Nat)) (2 : Nat)) fun v87 => opL v87 fun a88 n89 n90 => RunW Try.prog [n1] (Builtin.append_ #[(52 :
  Nat), (52 : Nat)] (52 : Nat) #[Value.slice a88 n89 n90, Value.slice (some (Addr.mk n85 (0 : Nat) none)) (1 : Nat) (1 : Nat)]) (fun v91 w92 => opL v91 fun a93 n94 n95 =>
  NN (some (Addr.mk n6 (0 : Nat) none)) fun A96 => ¬Addr.block A96 ∈ [n1] ∧ Wr w92 (Addr.add (Addr.add (Addr.add A96 (2 : Nat)) (257 : Nat)) (2 : Nat)) (1 : Nat) ∧ Bd
  (IntKind.wrap IntKind.i64 (x47 + (1 : Int))) fun x97 => J45 [Value.int IntKind.i64 x97] [] (setCells w92 (Addr.add (Addr.add (Addr.add A96 (2 : Nat)) (257 : Nat)) (2 :
  Nat)) (0 : Nat) [Value.slice a93 n94 n95])) w86) (World.drew w46)) (NN (some (Addr.mk n6 (0 : Nat) none)) fun A98 => Ld w46 (Addr.add (Addr.add (Addr.add A98 (2 : Nat))
  (257 : Nat)) (0 : Nat)) fun v99 => opI IntKind.i64 v99 fun x100 => Bd (IntKind.wrap IntKind.i64 (x10 * x100)) fun x101 => LoopP (fun l102 l103 J104 w105 => opI
  IntKind.i64 (nthD l102 (0 : Nat)) fun x106 => Bd (decide (x106 < x101)) fun b107 => If b107 (NN (some (Addr.mk n6 (0 : Nat) none)) fun A108 => NN (some (Addr.mk n6 (0 :
  Nat) none)) fun A109 => (Ld (World.drew w105) (Addr.add (Addr.add (Addr.add A108 (2 : Nat)) (257 : Nat)) (1 : Nat)) fun v110 => opL v110 fun a111 n112 n113 => CallW
  Try.prog [n1] (159 : Nat) #[Value.pointer (some (Addr.add A109 (0 : Nat)))] (fun v114 w115 => opI IntKind.i64 v114 fun x116 => Bd (IntKind.wrap IntKind.i64 (x116 - (1 :
  Int))) fun x117 => Nw (Obj.cells #[Value.int IntKind.i64 x117] (3 : Nat)) w115 fun n118 w119 => RunW Try.prog [n1] (Builtin.append_ #[(52 : Nat), (52 : Nat)] (52 : Nat)
  #[Value.slice a111 n112 n113, Value.slice (some (Addr.mk n118 (0 : Nat) none)) (1 : Nat) (1 : Nat)]) (fun v120 w121 => opL v120 fun a122 n123 n124 => NN (some (Addr.mk
  n6 (0 : Nat) none)) fun A125 => ¬Addr.block A125 ∈ [n1] ∧ Wr w121 (Addr.add (Addr.add (Addr.add A125 (2 : Nat)) (257 : Nat)) (1 : Nat)) (1 : Nat) ∧ Bd (IntKind.wrap
  IntKind.i64 (x106 + (1 : Int))) fun x126 => J104 [Value.int IntKind.i64 x126] [] (setCells w121 (Addr.add (Addr.add (Addr.add A125 (2 : Nat)) (257 : Nat)) (1 : Nat)) (0
  : Nat) [Value.slice a122 n123 n124])) w119) (World.drew w105)) ∧ CallW Try.prog [n1] (159 : Nat) #[Value.pointer (some (Addr.add A109 (0 : Nat)))] (fun v127 w128 => opI
  IntKind.i64 v127 fun x129 => Bd (IntKind.wrap IntKind.i64 (x129 - (1 : Int))) fun x130 => (Ld w128 (Addr.add (Addr.add (Addr.add A108 (2 : Nat)) (257 : Nat)) (1 : Nat))
  fun v131 => opL v131 fun a132 n133 n134 => Nw (Obj.cells #[Value.int IntKind.i64 x130] (3 : Nat)) w128 fun n135 w136 => RunW Try.prog [n1] (Builtin.append_ #[(52 :
  Nat), (52 : Nat)] (52 : Nat) #[Value.slice a132 n133 n134, Value.slice (some (Addr.mk n135 (0 : Nat) none)) (1 : Nat) (1 : Nat)]) (fun v137 w138 => opL v137 fun a139
  n140 n141 => NN (some (Addr.mk n6 (0 : Nat) none)) fun A142 => ¬Addr.block A142 ∈ [n1] ∧ Wr w138 (Addr.add (Addr.add (Addr.add A142 (2 : Nat)) (257 : Nat)) (1 : Nat))
  (1 : Nat) ∧ Bd (IntKind.wrap IntKind.i64 (x106 + (1 : Int))) fun x143 => J104 [Value.int IntKind.i64 x143] [] (setCells w138 (Addr.add (Addr.add (Addr.add A142 (2 :
  Nat)) (257 : Nat)) (1 : Nat)) (0 : Nat) [Value.slice a139 n140 n141])) w136) ∧ Nw (Obj.cells #[Value.int IntKind.i64 x130] (3 : Nat)) w128 fun n144 w145 => Ld w145
  (Addr.add (Addr.add (Addr.add A108 (2 : Nat)) (257 : Nat)) (1 : Nat)) fun v146 => opL v146 fun a147 n148 n149 => RunW Try.prog [n1] (Builtin.append_ #[(52 : Nat), (52 :
  Nat)] (52 : Nat) #[Value.slice a147 n148 n149, Value.slice (some (Addr.mk n144 (0 : Nat) none)) (1 : Nat) (1 : Nat)]) (fun v150 w151 => opL v150 fun a152 n153 n154 =>
  NN (some (Addr.mk n6 (0 : Nat) none)) fun A155 => ¬Addr.block A155 ∈ [n1] ∧ Wr w151 (Addr.add (Addr.add (Addr.add A155 (2 : Nat)) (257 : Nat)) (1 : Nat)) (1 : Nat) ∧ Bd
  (IntKind.wrap IntKind.i64 (x106 + (1 : Int))) fun x156 => J104 [Value.int IntKind.i64 x156] [] (setCells w151 (Addr.add (Addr.add (Addr.add A155 (2 : Nat)) (257 : Nat))
  (1 : Nat)) (0 : Nat) [Value.slice a152 n153 n154])) w145) (World.drew w105)) (NN (some (Addr.mk n6 (0 : Nat) none)) fun A157 => LdN w105 (Addr.add A157 (2 : Nat)) (261
  : Nat) fun l158 => Bd (List.toArray l158) fun cs159 => Array.size cs159 = (261 : Nat) ∧ CallW Try.prog [n1] (55 : Nat) #[Value.agg cs159] (fun v160 w161 => opB v160 fun
  b162 => Bd (!b162) fun b163 => If b163 (RunW Try.prog [n1] (Instr.build (57 : Nat) #[]) (fun v164 w165 => opBig v164 fun cs166 => Array.size cs166 = (261 : Nat) ∧ OkC
  (Array.toList cs166) (261 : Nat) (Up [n1] [n1] w165 fun w167 => Array.size cs166 = (261 : Nat) ∧ R (Value.tuple #[Value.agg cs166, Value.int IntKind.i64 (100 : Int)])
  w167)) w161) (NN (some (Addr.mk n6 (0 : Nat) none)) fun A168 => LdN w161 (Addr.add A168 (2 : Nat)) (261 : Nat) fun l169 => Bd (List.toArray l169) fun cs170 =>
  Array.size cs170 = (261 : Nat) ∧ OkC (Array.toList cs170) (261 : Nat) (Up [n1] [n1] w161 fun w171 => Array.size cs170 = (261 : Nat) ∧ R (Value.tuple #[Value.agg cs170,
  Value.int IntKind.i64 (0 : Int)]) w171))) w105)) [Value.int IntKind.i64 (0 : Int)] [] w46)) [Value.int IntKind.i64 (0 : Int)] [] (World.drew w9))) w7) w2
theorem f61_eq (p0a : Option Addr) (p0n : Nat) (p0c : Nat) (R : Value → World → Prop) (w : World) : fnW Try.prog [2] Try.f61 [Value.slice p0a p0n p0c] R w = f61_vc p0a
  p0n p0c R w := by kernel_rfl
theorem f61_in (p0a : Option Addr) (p0n : Nat) (p0c : Nat) (R : Value → World → Prop) (w : World) (h : f61_vc p0a p0n p0c R w) : Ct Try.prog 61 #[Value.slice p0a p0n p0c]
  w R := by
  refine Ct_of (rk := [2]) (fn := Try.f61) (args := [Value.slice p0a p0n p0c]) mixedT Try.func61 (by kernel_rfl) ?_
  rw [f61_eq]
  exact h
def f60_vc (p0 : Array Value) (R : Value → World → Prop) (w : World) : Prop := Rg w fun n1 => Array.size p0 = (261 : Nat) ∧ Up [] [n1] w fun w2 => CallW Try.prog [n1] (56
  : Nat) #[Value.agg p0] (fun v3 w4 => opB v3 fun b5 => Bd (!b5) fun b6 => If b6 (R (Value.tuple #[Value.slice none (0 : Nat) (0 : Nat), Value.int IntKind.i64 (100 :
  Int)]) w4) (BdO (nthV (Array.toList p0) (256 : Nat)) fun v7 => opI IntKind.i64 v7 fun x8 => Bd (IntKind.wrap IntKind.i64 (x8 - (1 : Int))) fun x9 => Bd (IntKind.wrap
  IntKind.u8 x9) fun x10 => BdO (nthV (Array.toList p0) (259 : Nat)) fun v11 => opL v11 fun a12 n13 n14 => Bd ((n13 : Nat) : Int) fun x15 => Bd (IntKind.wrap IntKind.i64
  (Int.tdiv x15 (256 : Int))) fun x16 => Bd (IntKind.wrap IntKind.u8 x16) fun x17 => BdO (nthV (Array.toList p0) (259 : Nat)) fun v18 => opL v18 fun a19 n20 n21 => Bd
  ((n20 : Nat) : Int) fun x22 => Bd (Int.tmod x22 (256 : Int)) fun x23 => Bd (IntKind.wrap IntKind.u8 x23) fun x24 => BdO (nthV (Array.toList p0) (260 : Nat)) fun v25 =>
  opL v25 fun a26 n27 n28 => Bd ((n27 : Nat) : Int) fun x29 => Bd (IntKind.wrap IntKind.u8 x29) fun x30 => Nw (Obj.cells #[Value.int IntKind.u8 (70 : Int), Value.int
  IntKind.u8 (84 : Int), Value.int IntKind.u8 (1 : Int), Value.int IntKind.u8 x10, Value.int IntKind.u8 x17, Value.int IntKind.u8 x24, Value.int IntKind.u8 x30] (5 :
  Nat)) w4 fun n31 w32 => LoopP (fun l33 l34 J35 w36 => opL (nthD l33 (0 : Nat)) fun a37 n38 n39 => opI IntKind.i64 (nthD l33 (1 : Nat)) fun x40 => BdO (nthV
  (Array.toList p0) (260 : Nat)) fun v41 => opL v41 fun a42 n43 n44 => Bd ((n43 : Nat) : Int) fun x45 => Bd (decide (x40 < x45)) fun b46 => If b46 (BdO (nthV
  (Array.toList p0) (260 : Nat)) fun v47 => opL v47 fun a48 n49 n50 => IxOk x40 n49 a48 ∧ Ld w36 (adAt a48 x40 (1 : Nat)) fun v51 => opStr v51 fun s52 => Bd
  (((ByteArray.size s52) : Nat) : Int) fun x53 => Bd (IntKind.wrap IntKind.u8 x53) fun x54 => Nw (Obj.cells #[Value.int IntKind.u8 x54] (5 : Nat)) w36 fun n55 w56 => RunW
  Try.prog [n1] (Builtin.append_ #[(51 : Nat), (51 : Nat)] (51 : Nat) #[Value.slice a37 n38 n39, Value.slice (some (Addr.mk n55 (0 : Nat) none)) (1 : Nat) (1 : Nat)])
  (fun v57 w58 => opL v57 fun a59 n60 n61 => BdO (nthV (Array.toList p0) (260 : Nat)) fun v62 => opL v62 fun a63 n64 n65 => IxOk x40 n64 a63 ∧ Ld w58 (adAt a63 x40 (1 :
  Nat)) fun v66 => opStr v66 fun s67 => RunW Try.prog [n1] (Builtin.append_ #[(51 : Nat), (9 : Nat)] (51 : Nat) #[Value.slice a59 n60 n61, Value.string s67]) (fun v68 w69
  => opL v68 fun a70 n71 n72 => Bd (IntKind.wrap IntKind.i64 (x40 + (1 : Int))) fun x73 => J35 [Value.slice a70 n71 n72, Value.int IntKind.i64 x73] [] w69) w58) w56)
  (LoopP (fun l74 l75 J76 w77 => opL (nthD l74 (0 : Nat)) fun a78 n79 n80 => opI IntKind.i64 (nthD l74 (1 : Nat)) fun x81 => Bd (decide (x81 < (256 : Int))) fun b82 => If
  b82 (((0 : Int) ≤ x81 ∧ x81 < ↑(256 : Nat)) ∧ BdO (nthV (Array.toList p0) ((0 : Nat) + Int.toNat x81 * (1 : Nat))) fun v83 => opI IntKind.u8 v83 fun x84 => Nw
  (Obj.cells #[Value.int IntKind.u8 x84] (5 : Nat)) w77 fun n85 w86 => RunW Try.prog [n1] (Builtin.append_ #[(51 : Nat), (51 : Nat)] (51 : Nat) #[Value.slice a78 n79 n80,
  Value.slice (some (Addr.mk n85 (0 : Nat) none)) (1 : Nat) (1 : Nat)]) (fun v87 w88 => opL v87 fun a89 n90 n91 => Bd (IntKind.wrap IntKind.i64 (x81 + (1 : Int))) fun x92
  => J76 [Value.slice a89 n90 n91, Value.int IntKind.i64 x92] [] w88) w86) (LoopP (fun l93 l94 J95 w96 => opL (nthD l93 (0 : Nat)) fun a97 n98 n99 => opI IntKind.i64
  (nthD l93 (1 : Nat)) fun x100 => BdO (nthV (Array.toList p0) (259 : Nat)) fun v101 => opL v101 fun a102 n103 n104 => Bd ((n103 : Nat) : Int) fun x105 => Bd (decide
  (x100 < x105)) fun b106 => If b106 (BdO (nthV (Array.toList p0) (259 : Nat)) fun v107 => opL v107 fun a108 n109 n110 => IxOk x100 n109 a108 ∧ Ld w96 (adAt a108 x100 (1
  : Nat)) fun v111 => opI IntKind.i64 v111 fun x112 => Bd (IntKind.wrap IntKind.i64 (x112 + (1 : Int))) fun x113 => Bd (IntKind.wrap IntKind.u8 x113) fun x114 => Nw
  (Obj.cells #[Value.int IntKind.u8 x114] (5 : Nat)) w96 fun n115 w116 => RunW Try.prog [n1] (Builtin.append_ #[(51 : Nat), (51 : Nat)] (51 : Nat) #[Value.slice a97 n98
  n99, Value.slice (some (Addr.mk n115 (0 : Nat) none)) (1 : Nat) (1 : Nat)]) (fun v117 w118 => opL v117 fun a119 n120 n121 => Bd (IntKind.wrap IntKind.i64 (x100 + (1 :
  Int))) fun x122 => J95 [Value.slice a119 n120 n121, Value.int IntKind.i64 x122] [] w118) w116) (LoopP (fun l123 l124 J125 w126 => opL (nthD l123 (0 : Nat)) fun a127
  n128 n129 => opI IntKind.i64 (nthD l123 (1 : Nat)) fun x130 => BdO (nthV (Array.toList p0) (258 : Nat)) fun v131 => opL v131 fun a132 n133 n134 => Bd ((n133 : Nat) :
  Int) fun x135 => Bd (decide (x130 < x135)) fun b136 => If b136 (BdO (nthV (Array.toList p0) (258 : Nat)) fun v137 => opL v137 fun a138 n139 n140 => IxOk x130 n139 a138
  ∧ Ld w126 (adAt a138 x130 (1 : Nat)) fun v141 => opI IntKind.i64 v141 fun x142 => Bd (IntKind.wrap IntKind.i64 (x142 + (1 : Int))) fun x143 => Bd (IntKind.wrap
  IntKind.i64 (Int.tdiv x143 (256 : Int))) fun x144 => Bd (IntKind.wrap IntKind.u8 x144) fun x145 => Bd (Int.tmod x143 (256 : Int)) fun x146 => Bd (IntKind.wrap
  IntKind.u8 x146) fun x147 => Nw (Obj.cells #[Value.int IntKind.u8 x145, Value.int IntKind.u8 x147] (5 : Nat)) w126 fun n148 w149 => RunW Try.prog [n1] (Builtin.append_
  #[(51 : Nat), (51 : Nat)] (51 : Nat) #[Value.slice a127 n128 n129, Value.slice (some (Addr.mk n148 (0 : Nat) none)) (2 : Nat) (2 : Nat)]) (fun v150 w151 => opL v150 fun
  a152 n153 n154 => Bd (IntKind.wrap IntKind.i64 (x130 + (1 : Int))) fun x155 => J125 [Value.slice a152 n153 n154, Value.int IntKind.i64 x155] [] w151) w149) (R
  (Value.tuple #[Value.slice a127 n128 n129, Value.int IntKind.i64 (0 : Int)]) w126)) [Value.slice a97 n98 n99, Value.int IntKind.i64 (0 : Int)] [] w96)) [Value.slice a78
  n79 n80, Value.int IntKind.i64 (0 : Int)] [] w77)) [Value.slice a37 n38 n39, Value.int IntKind.i64 (0 : Int)] [] w36)) [Value.slice (some (Addr.mk n31 (0 : Nat) none))
  (7 : Nat) (7 : Nat), Value.int IntKind.i64 (0 : Int)] [] w32)) w2
theorem f60_eq (p0 : Array Value) (R : Value → World → Prop) (w : World) : fnW Try.prog [1] Try.f60 [Value.agg p0] R w = f60_vc p0 R w := by kernel_rfl
theorem f60_in (p0 : Array Value) (R : Value → World → Prop) (w : World) (h : f60_vc p0 R w) : Ct Try.prog 60 #[Value.agg p0] w R := by
  refine Ct_of (rk := [1]) (fn := Try.f60) (args := [Value.agg p0]) mixedT Try.func60 (by kernel_rfl) ?_
  rw [f60_eq]
  exact h
def f62_vc (p0a : Option Addr) (p0n : Nat) (p0c : Nat) (R : Value → World → Prop) (w : World) : Prop := Rg w fun n1 => Rg w fun n2 => Bd ((p0n : Nat) : Int) fun x3 => Bd
  (decide (x3 < (7 : Int))) fun b4 => If b4 (Up [] [n2, n1] w fun w5 => RunW Try.prog [n2, n1] (Instr.build (57 : Nat) #[]) (fun v6 w7 => opBig v6 fun cs8 => Array.size
  cs8 = (261 : Nat) ∧ OkC (Array.toList cs8) (261 : Nat) (Up [n1] [n2, n1] w7 fun w9 => Array.size cs8 = (261 : Nat) ∧ R (Value.tuple #[Value.agg cs8, Value.int
  IntKind.i64 (100 : Int)]) w9)) w5) (IxOk (3 : Int) p0n p0a ∧ Up [] [n2, n1] w fun w10 => Ld w10 (adAt p0a (3 : Int) (1 : Nat)) fun v11 => opI IntKind.u8 v11 fun x12 =>
  Bd (IntKind.wrap IntKind.i64 x12) fun x13 => Bd (IntKind.wrap IntKind.i64 (x13 + (1 : Int))) fun x14 => Up [n2, n2] [n2, n1] w10 fun w15 => Dr (World.drew w15) fun J16
  => IxOk (4 : Int) p0n p0a ∧ ∃ v17, (∀ (w18 : World), J16 w18 → Ld w18 (adAt p0a (4 : Int) (1 : Nat)) fun v20 => v20 = v17) ∧ opI IntKind.u8 v17 fun x21 => Bd
  (IntKind.wrap IntKind.i64 x21) fun x22 => Bd (IntKind.wrap IntKind.i64 (x22 * (256 : Int))) fun x23 => IxOk (5 : Int) p0n p0a ∧ ∃ v24, (∀ (w25 : World), J16 w25 → Ld
  w25 (adAt p0a (5 : Int) (1 : Nat)) fun v27 => v27 = v24) ∧ opI IntKind.u8 v24 fun x28 => Bd (IntKind.wrap IntKind.i64 x28) fun x29 => Bd (IntKind.wrap IntKind.i64 (x23
  + x29)) fun x30 => LoopP (fun l31 l32 J33 w34 => opI IntKind.i64 (nthD l31 (0 : Nat)) fun x35 => opI IntKind.i64 (nthD l31 (1 : Nat)) fun x36 => opI IntKind.i64 (nthD
  l31 (2 : Nat)) fun x37 => opBig (nthD l32 (0 : Nat)) fun cs38 => opBig (nthD l32 (1 : Nat)) fun cs39 => IxOk (6 : Int) p0n p0a ∧ Ld w34 (adAt p0a (6 : Int) (1 : Nat))
  fun v40 => opI IntKind.u8 v40 fun x41 => Bd (IntKind.wrap IntKind.i64 x41) fun x42 => Bd (decide (x37 < x42)) fun b43 => If b43 (Bd ((p0n : Nat) : Int) fun x44 => Bd
  (decide (x36 ≥ x44)) fun b45 => Bd (IntKind.wrap IntKind.i64 (x36 + (1 : Int))) fun x46 => ((!b45) = true → IxOk x36 p0n p0a) ∧ Gd (!b45) (0 : Int) (fun J48 => Ld w34
  (adAt p0a x36 (1 : Nat)) fun v49 => opI IntKind.u8 v49 fun x50 => J48 x50 w34) (fun x51 w52 => Bd (IntKind.wrap IntKind.i64 x51) fun x53 => Bd (IntKind.wrap IntKind.i64
  (x46 + x53)) fun x54 => Bd ((p0n : Nat) : Int) fun x55 => Bd (decide (x54 > x55)) fun b56 => Bd (bif b45 then true else b56) fun b57 => If b57 (RunW Try.prog [n2, n1]
  (Instr.build (57 : Nat) #[]) (fun v58 w59 => opBig v58 fun cs60 => Array.size cs60 = (261 : Nat) ∧ OkC (Array.toList cs60) (261 : Nat) (SzIs (Array.size cs39) (261 :
  Nat) (Up [n1] [n2, n1] w59 fun w61 => Array.size cs60 = (261 : Nat) ∧ R (Value.tuple #[Value.agg cs60, Value.int IntKind.i64 (100 : Int)]) w61))) w52) (Jn (fun l62 l63
  w64 => opBig (nthD l63 (0 : Nat)) fun cs65 => Bd (IntKind.wrap IntKind.i64 (x36 + (1 : Int))) fun x66 => IxOk x36 p0n p0a ∧ Ld w64 (adAt p0a x36 (1 : Nat)) fun v67 =>
  opI IntKind.u8 v67 fun x68 => Bd (IntKind.wrap IntKind.i64 x68) fun x69 => Bd (IntKind.wrap IntKind.i64 (x66 + x69)) fun x70 => Bd (IntKind.wrap IntKind.i64 (x37 + (1 :
  Int))) fun x71 => J33 [Value.int IntKind.i64 x35, Value.int IntKind.i64 x70, Value.int IntKind.i64 x71] [Value.agg cs65, Value.agg cs39] w64) fun J72 => Bd
  (IntKind.wrap IntKind.i64 (x36 + (1 : Int))) fun x73 => Bd (IntKind.wrap IntKind.i64 (x36 + (1 : Int))) fun x74 => IxOk x36 p0n p0a ∧ (BdO (nthV (Array.toList cs38)
  (260 : Nat)) fun v75 => opL v75 fun a76 n77 n78 => Ld (World.drew w52) (adAt p0a x36 (1 : Nat)) fun v79 => opI IntKind.u8 v79 fun x80 => Bd (IntKind.wrap IntKind.i64
  x80) fun x81 => Bd (IntKind.wrap IntKind.i64 (x74 + x81)) fun x82 => RunW Try.prog [n2, n1] (Instr.sliceAt (51 : Nat) (Value.slice p0a p0n p0c) (some (Value.int
  IntKind.i64 x73)) (some (Value.int IntKind.i64 x82)) none) (fun v83 w84 => opL v83 fun a85 n86 n87 => RunW Try.prog [n2, n1] (convert (51 : Nat) (9 : Nat) (Value.slice
  a85 n86 n87)) (fun v88 w89 => opStr v88 fun s90 => Nw (Obj.cells #[Value.string s90] (9 : Nat)) w89 fun n91 w92 => RunW Try.prog [n2, n1] (Builtin.append_ #[(55 : Nat),
  (55 : Nat)] (55 : Nat) #[Value.slice a76 n77 n78, Value.slice (some (Addr.mk n91 (0 : Nat) none)) (1 : Nat) (1 : Nat)]) (fun v93 w94 => opL v93 fun a95 n96 n97 => LeC
  (261 : Nat) (Array.size cs38) (Up [n2] [n2, n1] w94 fun w98 => J72 [] [Value.agg (List.toArray (wrL (Array.toList cs38) (260 : Nat) [Value.slice a95 n96 n97]))] w98))
  w92) w84) (World.drew w52)) ∧ Ld (World.drew w52) (adAt p0a x36 (1 : Nat)) fun v99 => opI IntKind.u8 v99 fun x100 => Bd (IntKind.wrap IntKind.i64 x100) fun x101 => Bd
  (IntKind.wrap IntKind.i64 (x74 + x101)) fun x102 => (BdO (nthV (Array.toList cs38) (260 : Nat)) fun v103 => opL v103 fun a104 n105 n106 => RunW Try.prog [n2, n1]
  (Instr.sliceAt (51 : Nat) (Value.slice p0a p0n p0c) (some (Value.int IntKind.i64 x73)) (some (Value.int IntKind.i64 x102)) none) (fun v107 w108 => opL v107 fun a109
  n110 n111 => RunW Try.prog [n2, n1] (convert (51 : Nat) (9 : Nat) (Value.slice a109 n110 n111)) (fun v112 w113 => opStr v112 fun s114 => Nw (Obj.cells #[Value.string
  s114] (9 : Nat)) w113 fun n115 w116 => RunW Try.prog [n2, n1] (Builtin.append_ #[(55 : Nat), (55 : Nat)] (55 : Nat) #[Value.slice a104 n105 n106, Value.slice (some
  (Addr.mk n115 (0 : Nat) none)) (1 : Nat) (1 : Nat)]) (fun v117 w118 => opL v117 fun a119 n120 n121 => LeC (261 : Nat) (Array.size cs38) (Up [n2] [n2, n1] w118 fun w122
  => J72 [] [Value.agg (List.toArray (wrL (Array.toList cs38) (260 : Nat) [Value.slice a119 n120 n121]))] w122)) w116) w108) (World.drew w52)) ∧ RunW Try.prog [n2, n1]
  (Instr.sliceAt (51 : Nat) (Value.slice p0a p0n p0c) (some (Value.int IntKind.i64 x73)) (some (Value.int IntKind.i64 x102)) none) (fun v123 w124 => opL v123 fun a125
  n126 n127 => (BdO (nthV (Array.toList cs38) (260 : Nat)) fun v128 => opL v128 fun a129 n130 n131 => RunW Try.prog [n2, n1] (convert (51 : Nat) (9 : Nat) (Value.slice
  a125 n126 n127)) (fun v132 w133 => opStr v132 fun s134 => Nw (Obj.cells #[Value.string s134] (9 : Nat)) w133 fun n135 w136 => RunW Try.prog [n2, n1] (Builtin.append_
  #[(55 : Nat), (55 : Nat)] (55 : Nat) #[Value.slice a129 n130 n131, Value.slice (some (Addr.mk n135 (0 : Nat) none)) (1 : Nat) (1 : Nat)]) (fun v137 w138 => opL v137 fun
  a139 n140 n141 => LeC (261 : Nat) (Array.size cs38) (Up [n2] [n2, n1] w138 fun w142 => J72 [] [Value.agg (List.toArray (wrL (Array.toList cs38) (260 : Nat) [Value.slice
  a139 n140 n141]))] w142)) w136) w124) ∧ RunW Try.prog [n2, n1] (convert (51 : Nat) (9 : Nat) (Value.slice a125 n126 n127)) (fun v143 w144 => opStr v143 fun s145 => (BdO
  (nthV (Array.toList cs38) (260 : Nat)) fun v146 => opL v146 fun a147 n148 n149 => Nw (Obj.cells #[Value.string s145] (9 : Nat)) w144 fun n150 w151 => RunW Try.prog [n2,
  n1] (Builtin.append_ #[(55 : Nat), (55 : Nat)] (55 : Nat) #[Value.slice a147 n148 n149, Value.slice (some (Addr.mk n150 (0 : Nat) none)) (1 : Nat) (1 : Nat)]) (fun v152
  w153 => opL v152 fun a154 n155 n156 => LeC (261 : Nat) (Array.size cs38) (Up [n2] [n2, n1] w153 fun w157 => J72 [] [Value.agg (List.toArray (wrL (Array.toList cs38)
  (260 : Nat) [Value.slice a154 n155 n156]))] w157)) w151) ∧ Nw (Obj.cells #[Value.string s145] (9 : Nat)) w144 fun n158 w159 => BdO (nthV (Array.toList cs38) (260 :
  Nat)) fun v160 => opL v160 fun a161 n162 n163 => RunW Try.prog [n2, n1] (Builtin.append_ #[(55 : Nat), (55 : Nat)] (55 : Nat) #[Value.slice a161 n162 n163, Value.slice
  (some (Addr.mk n158 (0 : Nat) none)) (1 : Nat) (1 : Nat)]) (fun v164 w165 => opL v164 fun a166 n167 n168 => LeC (261 : Nat) (Array.size cs38) (Up [n2] [n2, n1] w165 fun
  w169 => J72 [] [Value.agg (List.toArray (wrL (Array.toList cs38) (260 : Nat) [Value.slice a166 n167 n168]))] w169)) w159) w124) (World.drew w52))) w34) (Bd ((p0n : Nat)
  : Int) fun x170 => Bd (IntKind.wrap IntKind.i64 (x170 - x36)) fun x171 => Bd (IntKind.wrap IntKind.i64 ((256 : Int) + x30)) fun x172 => Bd (IntKind.wrap IntKind.i64 ((2
  : Int) * x30)) fun x173 => BdO (nthV (Array.toList cs38) (256 : Nat)) fun v174 => opI IntKind.i64 v174 fun x175 => Bd (IntKind.wrap IntKind.i64 (x173 * x175)) fun x176
  => Bd (IntKind.wrap IntKind.i64 (x172 + x176)) fun x177 => Bd (x171 != x177) fun b178 => If b178 (RunW Try.prog [n2, n1] (Instr.build (57 : Nat) #[]) (fun v179 w180 =>
  opBig v179 fun cs181 => Array.size cs181 = (261 : Nat) ∧ OkC (Array.toList cs181) (261 : Nat) (SzIs (Array.size cs39) (261 : Nat) (Up [n1] [n2, n1] w180 fun w182 =>
  Array.size cs181 = (261 : Nat) ∧ R (Value.tuple #[Value.agg cs181, Value.int IntKind.i64 (100 : Int)]) w182))) w34) (LoopP (fun l183 l184 J185 w186 => opI IntKind.i64
  (nthD l183 (0 : Nat)) fun x187 => opBig (nthD l184 (0 : Nat)) fun cs188 => Bd (decide (x187 < (256 : Int))) fun b189 => If b189 (Bd (IntKind.wrap IntKind.i64 (x36 +
  x187)) fun x190 => IxOk x190 p0n p0a ∧ Ld w186 (adAt p0a x190 (1 : Nat)) fun v191 => opI IntKind.u8 v191 fun x192 => ((0 : Int) ≤ x187 ∧ x187 < ↑(256 : Nat)) ∧ LeC ((0
  : Nat) + Int.toNat x187 * (1 : Nat) + (1 : Nat)) (Array.size cs188) (Bd (IntKind.wrap IntKind.i64 (x187 + (1 : Int))) fun x193 => Up [n2] [n2, n1] w186 fun w194 => J185
  [Value.int IntKind.i64 x193] [Value.agg (List.toArray (wrL (Array.toList cs188) ((0 : Nat) + Int.toNat x187 * (1 : Nat)) [Value.int IntKind.u8 x192]))] w194)) (Bd
  (IntKind.wrap IntKind.i64 (x36 + (256 : Int))) fun x195 => LoopP (fun l196 l197 J198 w199 => opI IntKind.i64 (nthD l196 (0 : Nat)) fun x200 => opBig (nthD l197 (0 :
  Nat)) fun cs201 => Bd (decide (x200 < x30)) fun b202 => If b202 (Bd (IntKind.wrap IntKind.i64 (x195 + x200)) fun x203 => IxOk x203 p0n p0a ∧ (BdO (nthV (Array.toList
  cs201) (259 : Nat)) fun v204 => opL v204 fun a205 n206 n207 => Ld (World.drew w199) (adAt p0a x203 (1 : Nat)) fun v208 => opI IntKind.u8 v208 fun x209 => Bd
  (IntKind.wrap IntKind.i64 x209) fun x210 => Bd (IntKind.wrap IntKind.i64 (x210 - (1 : Int))) fun x211 => Nw (Obj.cells #[Value.int IntKind.i64 x211] (3 : Nat))
  (World.drew w199) fun n212 w213 => RunW Try.prog [n2, n1] (Builtin.append_ #[(52 : Nat), (52 : Nat)] (52 : Nat) #[Value.slice a205 n206 n207, Value.slice (some (Addr.mk
  n212 (0 : Nat) none)) (1 : Nat) (1 : Nat)]) (fun v214 w215 => opL v214 fun a216 n217 n218 => LeC (260 : Nat) (Array.size cs201) (Up [n2] [n2, n1] w215 fun w219 => Bd
  (IntKind.wrap IntKind.i64 (x200 + (1 : Int))) fun x220 => J198 [Value.int IntKind.i64 x220] [Value.agg (List.toArray (wrL (Array.toList cs201) (259 : Nat) [Value.slice
  a216 n217 n218]))] w219)) w213) ∧ Ld (World.drew w199) (adAt p0a x203 (1 : Nat)) fun v221 => opI IntKind.u8 v221 fun x222 => Bd (IntKind.wrap IntKind.i64 x222) fun x223
  => Bd (IntKind.wrap IntKind.i64 (x223 - (1 : Int))) fun x224 => (BdO (nthV (Array.toList cs201) (259 : Nat)) fun v225 => opL v225 fun a226 n227 n228 => Nw (Obj.cells
  #[Value.int IntKind.i64 x224] (3 : Nat)) (World.drew w199) fun n229 w230 => RunW Try.prog [n2, n1] (Builtin.append_ #[(52 : Nat), (52 : Nat)] (52 : Nat) #[Value.slice
  a226 n227 n228, Value.slice (some (Addr.mk n229 (0 : Nat) none)) (1 : Nat) (1 : Nat)]) (fun v231 w232 => opL v231 fun a233 n234 n235 => LeC (260 : Nat) (Array.size
  cs201) (Up [n2] [n2, n1] w232 fun w236 => Bd (IntKind.wrap IntKind.i64 (x200 + (1 : Int))) fun x237 => J198 [Value.int IntKind.i64 x237] [Value.agg (List.toArray (wrL
  (Array.toList cs201) (259 : Nat) [Value.slice a233 n234 n235]))] w236)) w230) ∧ Nw (Obj.cells #[Value.int IntKind.i64 x224] (3 : Nat)) (World.drew w199) fun n238 w239
  => BdO (nthV (Array.toList cs201) (259 : Nat)) fun v240 => opL v240 fun a241 n242 n243 => RunW Try.prog [n2, n1] (Builtin.append_ #[(52 : Nat), (52 : Nat)] (52 : Nat)
  #[Value.slice a241 n242 n243, Value.slice (some (Addr.mk n238 (0 : Nat) none)) (1 : Nat) (1 : Nat)]) (fun v244 w245 => opL v244 fun a246 n247 n248 => LeC (260 : Nat)
  (Array.size cs201) (Up [n2] [n2, n1] w245 fun w249 => Bd (IntKind.wrap IntKind.i64 (x200 + (1 : Int))) fun x250 => J198 [Value.int IntKind.i64 x250] [Value.agg
  (List.toArray (wrL (Array.toList cs201) (259 : Nat) [Value.slice a246 n247 n248]))] w249)) w239) (Bd (IntKind.wrap IntKind.i64 (x195 + x30)) fun x251 => LoopP (fun l252
  l253 J254 w255 => opI IntKind.i64 (nthD l252 (0 : Nat)) fun x256 => opBig (nthD l253 (0 : Nat)) fun cs257 => BdO (nthV (Array.toList cs257) (256 : Nat)) fun v258 => opI
  IntKind.i64 v258 fun x259 => Bd (IntKind.wrap IntKind.i64 (x30 * x259)) fun x260 => Bd (decide (x256 < x260)) fun b261 => If b261 (Bd (IntKind.wrap IntKind.i64 ((2 :
  Int) * x256)) fun x262 => Bd (IntKind.wrap IntKind.i64 (x251 + x262)) fun x263 => IxOk x263 p0n p0a ∧ Bd (IntKind.wrap IntKind.i64 ((2 : Int) * x256)) fun x264 => Bd
  (IntKind.wrap IntKind.i64 (x251 + x264)) fun x265 => Bd (IntKind.wrap IntKind.i64 (x265 + (1 : Int))) fun x266 => IxOk x266 p0n p0a ∧ (BdO (nthV (Array.toList cs257)
  (258 : Nat)) fun v267 => opL v267 fun a268 n269 n270 => (Ld (World.drew w255) (adAt p0a x263 (1 : Nat)) fun v271 => opI IntKind.u8 v271 fun x272 => Bd (IntKind.wrap
  IntKind.i64 x272) fun x273 => Bd (IntKind.wrap IntKind.i64 (x273 * (256 : Int))) fun x274 => Ld (World.drew w255) (adAt p0a x266 (1 : Nat)) fun v275 => opI IntKind.u8
  v275 fun x276 => Bd (IntKind.wrap IntKind.i64 x276) fun x277 => Bd (IntKind.wrap IntKind.i64 (x274 + x277)) fun x278 => Bd (IntKind.wrap IntKind.i64 (x278 - (1 : Int)))
  fun x279 => Nw (Obj.cells #[Value.int IntKind.i64 x279] (3 : Nat)) (World.drew w255) fun n280 w281 => RunW Try.prog [n2, n1] (Builtin.append_ #[(52 : Nat), (52 : Nat)]
  (52 : Nat) #[Value.slice a268 n269 n270, Value.slice (some (Addr.mk n280 (0 : Nat) none)) (1 : Nat) (1 : Nat)]) (fun v282 w283 => opL v282 fun a284 n285 n286 => LeC
  (259 : Nat) (Array.size cs257) (Up [n2] [n2, n1] w283 fun w287 => Bd (IntKind.wrap IntKind.i64 (x256 + (1 : Int))) fun x288 => J254 [Value.int IntKind.i64 x288]
  [Value.agg (List.toArray (wrL (Array.toList cs257) (258 : Nat) [Value.slice a284 n285 n286]))] w287)) w281) ∧ Ld (World.drew w255) (adAt p0a x266 (1 : Nat)) fun v289 =>
  opI IntKind.u8 v289 fun x290 => Bd (IntKind.wrap IntKind.i64 x290) fun x291 => Ld (World.drew w255) (adAt p0a x263 (1 : Nat)) fun v292 => opI IntKind.u8 v292 fun x293
  => Bd (IntKind.wrap IntKind.i64 x293) fun x294 => Bd (IntKind.wrap IntKind.i64 (x294 * (256 : Int))) fun x295 => Bd (IntKind.wrap IntKind.i64 (x295 + x291)) fun x296 =>
  Bd (IntKind.wrap IntKind.i64 (x296 - (1 : Int))) fun x297 => Nw (Obj.cells #[Value.int IntKind.i64 x297] (3 : Nat)) (World.drew w255) fun n298 w299 => RunW Try.prog
  [n2, n1] (Builtin.append_ #[(52 : Nat), (52 : Nat)] (52 : Nat) #[Value.slice a268 n269 n270, Value.slice (some (Addr.mk n298 (0 : Nat) none)) (1 : Nat) (1 : Nat)]) (fun
  v300 w301 => opL v300 fun a302 n303 n304 => LeC (259 : Nat) (Array.size cs257) (Up [n2] [n2, n1] w301 fun w305 => Bd (IntKind.wrap IntKind.i64 (x256 + (1 : Int))) fun
  x306 => J254 [Value.int IntKind.i64 x306] [Value.agg (List.toArray (wrL (Array.toList cs257) (258 : Nat) [Value.slice a302 n303 n304]))] w305)) w299) ∧ (Ld (World.drew
  w255) (adAt p0a x263 (1 : Nat)) fun v307 => opI IntKind.u8 v307 fun x308 => Bd (IntKind.wrap IntKind.i64 x308) fun x309 => Bd (IntKind.wrap IntKind.i64 (x309 * (256 :
  Int))) fun x310 => (BdO (nthV (Array.toList cs257) (258 : Nat)) fun v311 => opL v311 fun a312 n313 n314 => Ld (World.drew w255) (adAt p0a x266 (1 : Nat)) fun v315 =>
  opI IntKind.u8 v315 fun x316 => Bd (IntKind.wrap IntKind.i64 x316) fun x317 => Bd (IntKind.wrap IntKind.i64 (x310 + x317)) fun x318 => Bd (IntKind.wrap IntKind.i64
  (x318 - (1 : Int))) fun x319 => Nw (Obj.cells #[Value.int IntKind.i64 x319] (3 : Nat)) (World.drew w255) fun n320 w321 => RunW Try.prog [n2, n1] (Builtin.append_ #[(52
  : Nat), (52 : Nat)] (52 : Nat) #[Value.slice a312 n313 n314, Value.slice (some (Addr.mk n320 (0 : Nat) none)) (1 : Nat) (1 : Nat)]) (fun v322 w323 => opL v322 fun a324
  n325 n326 => LeC (259 : Nat) (Array.size cs257) (Up [n2] [n2, n1] w323 fun w327 => Bd (IntKind.wrap IntKind.i64 (x256 + (1 : Int))) fun x328 => J254 [Value.int
  IntKind.i64 x328] [Value.agg (List.toArray (wrL (Array.toList cs257) (258 : Nat) [Value.slice a324 n325 n326]))] w327)) w321) ∧ Ld (World.drew w255) (adAt p0a x266 (1 :
  Nat)) fun v329 => opI IntKind.u8 v329 fun x330 => Bd (IntKind.wrap IntKind.i64 x330) fun x331 => Bd (IntKind.wrap IntKind.i64 (x310 + x331)) fun x332 => Bd
  (IntKind.wrap IntKind.i64 (x332 - (1 : Int))) fun x333 => (BdO (nthV (Array.toList cs257) (258 : Nat)) fun v334 => opL v334 fun a335 n336 n337 => Nw (Obj.cells
  #[Value.int IntKind.i64 x333] (3 : Nat)) (World.drew w255) fun n338 w339 => RunW Try.prog [n2, n1] (Builtin.append_ #[(52 : Nat), (52 : Nat)] (52 : Nat) #[Value.slice
  a335 n336 n337, Value.slice (some (Addr.mk n338 (0 : Nat) none)) (1 : Nat) (1 : Nat)]) (fun v340 w341 => opL v340 fun a342 n343 n344 => LeC (259 : Nat) (Array.size
  cs257) (Up [n2] [n2, n1] w341 fun w345 => Bd (IntKind.wrap IntKind.i64 (x256 + (1 : Int))) fun x346 => J254 [Value.int IntKind.i64 x346] [Value.agg (List.toArray (wrL
  (Array.toList cs257) (258 : Nat) [Value.slice a342 n343 n344]))] w345)) w339) ∧ Nw (Obj.cells #[Value.int IntKind.i64 x333] (3 : Nat)) (World.drew w255) fun n347 w348
  => BdO (nthV (Array.toList cs257) (258 : Nat)) fun v349 => opL v349 fun a350 n351 n352 => RunW Try.prog [n2, n1] (Builtin.append_ #[(52 : Nat), (52 : Nat)] (52 : Nat)
  #[Value.slice a350 n351 n352, Value.slice (some (Addr.mk n347 (0 : Nat) none)) (1 : Nat) (1 : Nat)]) (fun v353 w354 => opL v353 fun a355 n356 n357 => LeC (259 : Nat)
  (Array.size cs257) (Up [n2] [n2, n1] w354 fun w358 => Bd (IntKind.wrap IntKind.i64 (x256 + (1 : Int))) fun x359 => J254 [Value.int IntKind.i64 x359] [Value.agg
  (List.toArray (wrL (Array.toList cs257) (258 : Nat) [Value.slice a355 n356 n357]))] w358)) w348) ∧ Ld (World.drew w255) (adAt p0a x266 (1 : Nat)) fun v360 => opI
  IntKind.u8 v360 fun x361 => Bd (IntKind.wrap IntKind.i64 x361) fun x362 => (BdO (nthV (Array.toList cs257) (258 : Nat)) fun v363 => opL v363 fun a364 n365 n366 => Ld
  (World.drew w255) (adAt p0a x263 (1 : Nat)) fun v367 => opI IntKind.u8 v367 fun x368 => Bd (IntKind.wrap IntKind.i64 x368) fun x369 => Bd (IntKind.wrap IntKind.i64
  (x369 * (256 : Int))) fun x370 => Bd (IntKind.wrap IntKind.i64 (x370 + x362)) fun x371 => Bd (IntKind.wrap IntKind.i64 (x371 - (1 : Int))) fun x372 => Nw (Obj.cells
  #[Value.int IntKind.i64 x372] (3 : Nat)) (World.drew w255) fun n373 w374 => RunW Try.prog [n2, n1] (Builtin.append_ #[(52 : Nat), (52 : Nat)] (52 : Nat) #[Value.slice
  a364 n365 n366, Value.slice (some (Addr.mk n373 (0 : Nat) none)) (1 : Nat) (1 : Nat)]) (fun v375 w376 => opL v375 fun a377 n378 n379 => LeC (259 : Nat) (Array.size
  cs257) (Up [n2] [n2, n1] w376 fun w380 => Bd (IntKind.wrap IntKind.i64 (x256 + (1 : Int))) fun x381 => J254 [Value.int IntKind.i64 x381] [Value.agg (List.toArray (wrL
  (Array.toList cs257) (258 : Nat) [Value.slice a377 n378 n379]))] w380)) w374) ∧ Ld (World.drew w255) (adAt p0a x263 (1 : Nat)) fun v382 => opI IntKind.u8 v382 fun x383
  => Bd (IntKind.wrap IntKind.i64 x383) fun x384 => Bd (IntKind.wrap IntKind.i64 (x384 * (256 : Int))) fun x385 => Bd (IntKind.wrap IntKind.i64 (x385 + x362)) fun x386 =>
  Bd (IntKind.wrap IntKind.i64 (x386 - (1 : Int))) fun x387 => (BdO (nthV (Array.toList cs257) (258 : Nat)) fun v388 => opL v388 fun a389 n390 n391 => Nw (Obj.cells
  #[Value.int IntKind.i64 x387] (3 : Nat)) (World.drew w255) fun n392 w393 => RunW Try.prog [n2, n1] (Builtin.append_ #[(52 : Nat), (52 : Nat)] (52 : Nat) #[Value.slice
  a389 n390 n391, Value.slice (some (Addr.mk n392 (0 : Nat) none)) (1 : Nat) (1 : Nat)]) (fun v394 w395 => opL v394 fun a396 n397 n398 => LeC (259 : Nat) (Array.size
  cs257) (Up [n2] [n2, n1] w395 fun w399 => Bd (IntKind.wrap IntKind.i64 (x256 + (1 : Int))) fun x400 => J254 [Value.int IntKind.i64 x400] [Value.agg (List.toArray (wrL
  (Array.toList cs257) (258 : Nat) [Value.slice a396 n397 n398]))] w399)) w393) ∧ Nw (Obj.cells #[Value.int IntKind.i64 x387] (3 : Nat)) (World.drew w255) fun n401 w402
  => BdO (nthV (Array.toList cs257) (258 : Nat)) fun v403 => opL v403 fun a404 n405 n406 => RunW Try.prog [n2, n1] (Builtin.append_ #[(52 : Nat), (52 : Nat)] (52 : Nat)
  #[Value.slice a404 n405 n406, Value.slice (some (Addr.mk n401 (0 : Nat) none)) (1 : Nat) (1 : Nat)]) (fun v407 w408 => opL v407 fun a409 n410 n411 => LeC (259 : Nat)
  (Array.size cs257) (Up [n2] [n2, n1] w408 fun w412 => Bd (IntKind.wrap IntKind.i64 (x256 + (1 : Int))) fun x413 => J254 [Value.int IntKind.i64 x413] [Value.agg
  (List.toArray (wrL (Array.toList cs257) (258 : Nat) [Value.slice a409 n410 n411]))] w412)) w402) (Array.size cs257 = (261 : Nat) ∧ CallW Try.prog [n2, n1] (60 : Nat)
  #[Value.agg cs257] (fun v414 w415 => opTu v414 fun cs416 => opL (nthD (Array.toList cs416) (0 : Nat)) fun a417 n418 n419 => opI IntKind.i64 (nthD (Array.toList cs416)
  (1 : Nat)) fun x420 => SzIs (Array.size cs416) (2 : Nat) (Bd (x420 != (0 : Int)) fun b421 => Gd (!b421) ByteArray.empty (fun J422 => RunW Try.prog [n2, n1] (convert (51
  : Nat) (9 : Nat) (Value.slice a417 n418 n419)) (fun v423 w424 => opStr v423 fun s425 => J422 s425 w424) w415) (fun s426 w427 => Gd (!b421) ByteArray.empty (fun J428 =>
  RunW Try.prog [n2, n1] (convert (51 : Nat) (9 : Nat) (Value.slice p0a p0n p0c)) (fun v429 w430 => opStr v429 fun s431 => J428 s431 w430) w427) (fun s432 w433 => Bd
  (!ByteArray.toList s426 == ByteArray.toList s432) fun b434 => Bd (bif b421 then true else b434) fun b435 => If b435 (RunW Try.prog [n2, n1] (Instr.build (57 : Nat) #[])
  (fun v436 w437 => opBig v436 fun cs438 => Array.size cs438 = (261 : Nat) ∧ OkC (Array.toList cs438) (261 : Nat) (SzIs (Array.size cs39) (261 : Nat) (Up [n1] [n2, n1]
  w437 fun w439 => Array.size cs438 = (261 : Nat) ∧ R (Value.tuple #[Value.agg cs438, Value.int IntKind.i64 (100 : Int)]) w439))) w433) (Array.size cs257 = (261 : Nat) ∧
  OkC (Array.toList cs257) (261 : Nat) (SzIs (Array.size cs39) (261 : Nat) (Up [n1] [n2, n1] w433 fun w440 => Array.size cs257 = (261 : Nat) ∧ R (Value.tuple #[Value.agg
  cs257, Value.int IntKind.i64 (0 : Int)]) w440)))) w427) w415)) w255)) [Value.int IntKind.i64 (0 : Int)] [Value.agg cs201] w199)) [Value.int IntKind.i64 (0 : Int)]
  [Value.agg cs188] w186)) [Value.int IntKind.i64 (0 : Int)] [Value.agg cs38] w34))) [Value.int IntKind.i64 (0 : Int), Value.int IntKind.i64 (7 : Int), Value.int
  IntKind.i64 (0 : Int)] [Value.agg (List.toArray (wrL (wrL (zeroL Try.prog (57 : Nat)) (256 : Nat) [Value.int IntKind.i64 x14]) (257 : Nat) [Value.int IntKind.i64
  x14])), Value.agg (List.toArray (zeroL Try.prog (57 : Nat)))] (World.drew w15))
theorem f62_eq (p0a : Option Addr) (p0n : Nat) (p0c : Nat) (R : Value → World → Prop) (w : World) : fnW Try.prog [2, 4] Try.f62 [Value.slice p0a p0n p0c] R w = f62_vc p0a
  p0n p0c R w := by kernel_rfl
theorem f62_in (p0a : Option Addr) (p0n : Nat) (p0c : Nat) (R : Value → World → Prop) (w : World) (h : f62_vc p0a p0n p0c R w) : Ct Try.prog 62 #[Value.slice p0a p0n p0c]
  w R := by
  refine Ct_of (rk := [2, 4]) (fn := Try.f62) (args := [Value.slice p0a p0n p0c]) mixedT Try.func62 (by kernel_rfl) ?_
  rw [f62_eq]
  exact h
def f54_vc (R : Value → World → Prop) (w : World) : Prop := RunW Try.prog [] (Instr.build (25 : Nat) #[((1 : Nat), Value.int IntKind.i64 (1 : Int))]) (fun v1 w2 => opBig
  v1 fun cs3 => Array.size cs3 = (257 : Nat) ∧ Nw (Obj.cells #[Value.int IntKind.i64 (0 : Int)] (3 : Nat)) w2 fun n4 w5 => Nw (Obj.cells #[Value.int IntKind.i64 (0 :
  Int)] (3 : Nat)) w5 fun n6 w7 => Nw (Obj.cells #[Value.string (ByteArray.mk #[(97 : UInt8)])] (9 : Nat)) w7 fun n8 w9 => RunW Try.prog [] (Instr.build (57 : Nat) #[((0
  : Nat), Value.agg cs3), ((1 : Nat), Value.agg #[Value.int IntKind.i64 (1 : Int), Value.slice (some (Addr.mk n4 (0 : Nat) none)) (1 : Nat) (1 : Nat), Value.slice (some
  (Addr.mk n6 (0 : Nat) none)) (1 : Nat) (1 : Nat)]), ((2 : Nat), Value.slice (some (Addr.mk n8 (0 : Nat) none)) (1 : Nat) (1 : Nat))]) (fun v10 w11 => opBig v10 fun cs12
  => Array.size cs12 = (261 : Nat) ∧ Rg w11 fun n13 => OkC (Array.toList cs12) (261 : Nat) (Array.size cs12 = (261 : Nat) ∧ Up [n13] [n13] w11 fun w14 => CallW Try.prog
  [n13] (59 : Nat) #[Value.agg cs12] (fun v15 w16 => opTu v15 fun cs17 => opL (nthD (Array.toList cs17) (0 : Nat)) fun a18 n19 n20 => opI IntKind.i64 (nthD (Array.toList
  cs17) (1 : Nat)) fun x21 => SzIs (Array.size cs17) (2 : Nat) (Nw (Obj.cells #[Value.int IntKind.u8 (70 : Int), Value.int IntKind.u8 (84 : Int), Value.int IntKind.u8 (1
  : Int), Value.int IntKind.u8 (0 : Int), Value.int IntKind.u8 (0 : Int), Value.int IntKind.u8 (1 : Int), Value.int IntKind.u8 (1 : Int), Value.int IntKind.u8 (1 : Int),
  Value.int IntKind.u8 (97 : Int)] (5 : Nat)) w16 fun n22 w23 => RunW Try.prog [n13] (Builtin.append_ #[(51 : Nat), (3 : Nat)] (51 : Nat) #[Value.slice (some (Addr.mk n22
  (0 : Nat) none)) (9 : Nat) (9 : Nat), Value.int IntKind.i64 (256 : Int)]) (fun v24 w25 => opL v24 fun a26 n27 n28 => Nw (Obj.cells #[Value.int IntKind.u8 (1 : Int),
  Value.int IntKind.u8 (0 : Int), Value.int IntKind.u8 (1 : Int)] (5 : Nat)) w25 fun n29 w30 => RunW Try.prog [n13] (Builtin.append_ #[(51 : Nat), (51 : Nat)] (51 : Nat)
  #[Value.slice a26 n27 n28, Value.slice (some (Addr.mk n29 (0 : Nat) none)) (3 : Nat) (3 : Nat)]) (fun v31 w32 => opL v31 fun a33 n34 n35 => CallW Try.prog [n13] (61 :
  Nat) #[Value.slice a33 n34 n35] (fun v36 w37 => opTu v36 fun cs38 => opBig (nthD (Array.toList cs38) (0 : Nat)) fun cs39 => Array.size cs39 = (261 : Nat) ∧ opI
  IntKind.i64 (nthD (Array.toList cs38) (1 : Nat)) fun x40 => SzIs (Array.size cs38) (2 : Nat) (Array.size cs39 = (261 : Nat) ∧ Rg w37 fun n41 => OkC (Array.toList cs39)
  (261 : Nat) (Up [n41] [n41, n13] w37 fun w42 => RunW Try.prog [n41, n13] (Instr.sliceAt (51 : Nat) (Value.slice a33 n34 n35) none (some (Value.int IntKind.i64 (267 :
  Int))) none) (fun v43 w44 => opL v43 fun a45 n46 n47 => CallW Try.prog [n41, n13] (61 : Nat) #[Value.slice a45 n46 n47] (fun v48 w49 => opTu v48 fun cs50 => opBig (nthD
  (Array.toList cs50) (0 : Nat)) fun cs51 => Array.size cs51 = (261 : Nat) ∧ opI IntKind.i64 (nthD (Array.toList cs50) (1 : Nat)) fun x52 => SzIs (Array.size cs50) (2 :
  Nat) (Array.size cs51 = (261 : Nat) ∧ Rg w49 fun n53 => OkC (Array.toList cs51) (261 : Nat) (Bd (IntKind.wrap IntKind.i64 (x21 + x40)) fun x54 => Bd (x54 == (0 : Int))
  fun b55 => Bd (x52 == (100 : Int)) fun b56 => Bd (bif b55 then b56 else false) fun b57 => Up [n53] [n53, n41, n13] w49 fun w58 => Gd b57 ByteArray.empty (fun J59 =>
  RunW Try.prog [n53, n41, n13] (convert (51 : Nat) (9 : Nat) (Value.slice a18 n19 n20)) (fun v60 w61 => opStr v60 fun s62 => J59 s62 w61) w58) (fun s63 w64 => Gd b57
  ByteArray.empty (fun J65 => RunW Try.prog [n53, n41, n13] (convert (51 : Nat) (9 : Nat) (Value.slice a33 n34 n35)) (fun v66 w67 => opStr v66 fun s68 => J65 s68 w67)
  w64) (fun s69 w70 => Bd (ByteArray.toList s63 == ByteArray.toList s69) fun b71 => Bd (bif b57 then b71 else false) fun b72 => (b72 = true → Array.size cs12 = (261 :
  Nat)) ∧ (b72 = true → Array.size cs39 = (261 : Nat)) ∧ Gd b72 false (fun J75 => CallW Try.prog [n53, n41, n13] (63 : Nat) #[Value.agg cs12, Value.agg cs39] (fun v76 w77
  => opB v76 fun b78 => J75 b78 w77) w70) (fun b79 w80 => Bd (bif b72 then b79 else false) fun b81 => (b81 = true → Array.size cs12 = (261 : Nat)) ∧ Gd b81 (0 : Int) (fun
  J83 => CallW Try.prog [n53, n41, n13] (57 : Nat) #[Value.agg cs12, Value.int IntKind.i64 (0 : Int), Value.int IntKind.u8 (7 : Int)] (fun v84 w85 => opI IntKind.i64 v84
  fun x86 => J83 x86 w85) w80) (fun x87 w88 => Bd (x87 == (0 : Int)) fun b89 => Bd (bif b81 then b89 else false) fun b90 => (b90 = true → Array.size cs12 = (261 : Nat)) ∧
  Gd b90 (0 : Int) (fun J92 => CallW Try.prog [n53, n41, n13] (57 : Nat) #[Value.agg cs12, Value.int IntKind.i64 (1 : Int), Value.int IntKind.u8 (7 : Int)] (fun v93 w94
  => opI IntKind.i64 v93 fun x95 => J92 x95 w94) w88) (fun x96 w97 => Bd (x96 == (-1 : Int)) fun b98 => Bd (bif b90 then b98 else false) fun b99 => R (Value.bool b99)
  w97) w88) w80) w70) w64) w58))) w44) w42))) w32) w30) w23)) w14)) w9) w
theorem f54_eq (R : Value → World → Prop) (w : World) : fnW Try.prog [1, 5, 7] Try.f54 [] R w = f54_vc R w := by kernel_rfl
theorem f54_in (R : Value → World → Prop) (w : World) (h : f54_vc R w) : Ct Try.prog 54 #[] w R := by
  refine Ct_of (rk := [1, 5, 7]) (fn := Try.f54) (args := []) mixedT Try.func54 (by kernel_rfl) ?_
  rw [f54_eq]
  exact h
def f12_vc (p0 : Array Value) (p1 : Int) (p2 : Int) (p3 : Int) (R : Value → World → Prop) (w : World) : Prop := Rg w fun n1 => Array.size p0 = (261 : Nat) ∧ Up [] [n1] w
  fun w2 => CallW Try.prog [n1] (53 : Nat) #[Value.agg p0] (fun v3 w4 => opB v3 fun b5 => Bd (!b5) fun b6 => If b6 (CallW Try.prog [n1] (54 : Nat) #[] (fun v7 w8 => opB
  v7 fun b9 => R (Value.bool b9) w8) w4) (Jn (fun l10 l11 w12 => opI IntKind.i64 (nthD l10 (0 : Nat)) fun x13 => opI IntKind.i64 (nthD l10 (1 : Nat)) fun x14 =>
  Array.size p0 = (261 : Nat) ∧ CallW Try.prog [n1] (55 : Nat) #[Value.agg p0] (fun v15 w16 => opB v15 fun b17 => Bd (!b17) fun b18 => Bd (decide (p1 < (0 : Int))) fun
  b19 => Bd (bif b18 then true else b19) fun b20 => ∃ a21 n22 n23, ((!b20) = true → nthV (Array.toList p0) (259 : Nat) = some (Value.slice a21 n22 n23)) ∧ Bd ((n22 : Nat)
  : Int) fun x25 => Bd (decide (p1 ≥ x25)) fun b26 => Bd (bif b20 then true else b26) fun b27 => If b27 (Bd (x13 == (-1 : Int)) fun b28 => Bd (x14 == (-1 : Int)) fun b29
  => Bd (bif b28 then b29 else false) fun b30 => Gd b30 false (fun J31 => CallW Try.prog [n1] (54 : Nat) #[] (fun v32 w33 => opB v32 fun b34 => J31 b34 w33) w16) (fun b35
  w36 => Bd (bif b30 then b35 else false) fun b37 => R (Value.bool b37) w36) w16) (Bd (decide (x13 < (-1 : Int))) fun b38 => ∃ a39 n40 n41, ((!b38) = true → nthV
  (Array.toList p0) (259 : Nat) = some (Value.slice a39 n40 n41)) ∧ Bd ((n40 : Nat) : Int) fun x43 => Bd (decide (x13 ≥ x43)) fun b44 => Bd (bif b38 then true else b44)
  fun b45 => ((!b45) = true → (0 : Int) ≤ p2 ∧ p2 < ↑(256 : Nat)) ∧ ((!b45) = true → isI IntKind.u8 (Array.toList p0) ((0 : Nat) + Int.toNat p2 * (1 : Nat))) ∧ Bd (rdI
  (Array.toList p0) ((0 : Nat) + Int.toNat p2 * (1 : Nat))) fun x48 => ((!b45) = true → (0 : Int) ≤ p3 ∧ p3 < ↑(256 : Nat)) ∧ ((!b45) = true → isI IntKind.u8
  (Array.toList p0) ((0 : Nat) + Int.toNat p3 * (1 : Nat))) ∧ Bd (rdI (Array.toList p0) ((0 : Nat) + Int.toNat p3 * (1 : Nat))) fun x51 => Bd (x48 == x51) fun b52 => Bd
  (x13 != x14) fun b53 => Bd (bif b52 then b53 else false) fun b54 => Bd (bif b45 then true else b54) fun b55 => If b55 (R (Value.bool false) (World.drew w16)) (Dr
  (World.drew (World.drew w16)) fun J56 => BdO (nthV (Array.toList p0) (258 : Nat)) fun v57 => opL v57 fun a58 n59 n60 => BdO (nthV (Array.toList p0) (257 : Nat)) fun v61
  => opI IntKind.i64 v61 fun x62 => Bd (IntKind.wrap IntKind.i64 (p1 * x62)) fun x63 => ((0 : Int) ≤ p2 ∧ p2 < ↑(256 : Nat)) ∧ BdO (nthV (Array.toList p0) ((0 : Nat) +
  Int.toNat p2 * (1 : Nat))) fun v64 => opI IntKind.u8 v64 fun x65 => Bd (IntKind.wrap IntKind.i64 x65) fun x66 => Bd (IntKind.wrap IntKind.i64 (x63 + x66)) fun x67 =>
  IxOk x67 n59 a58 ∧ ∃ v68, (∀ (w69 : World), J56 w69 → Ld w69 (adAt a58 x67 (1 : Nat)) fun v71 => v71 = v68) ∧ opI IntKind.i64 v68 fun x72 => Bd (x13 == x72) fun b73 =>
  Gd b73 false (fun J74 => CallW Try.prog [n1] (54 : Nat) #[] (fun v75 w76 => opB v75 fun b77 => J74 b77 w76) (World.drew (World.drew w16))) (fun b78 w79 => J56 w79 ∧ Bd
  (bif b73 then b78 else false) fun b80 => R (Value.bool b80) w79) (World.drew (World.drew w16))))) w12) fun J81 => Array.size p0 = (261 : Nat) ∧ Array.size p0 = (261 :
  Nat) ∧ CallW Try.prog [n1] (57 : Nat) #[Value.agg p0, Value.int IntKind.i64 p1, Value.int IntKind.u8 p2] (fun v82 w83 => opI IntKind.i64 v82 fun x84 => CallW Try.prog
  [n1] (57 : Nat) #[Value.agg p0, Value.int IntKind.i64 p1, Value.int IntKind.u8 p3] (fun v85 w86 => opI IntKind.i64 v85 fun x87 => J81 [Value.int IntKind.i64 x84,
  Value.int IntKind.i64 x87] [] w86) w83) (World.drew w4))) w2
theorem f12_eq (p0 : Array Value) (p1 : Int) (p2 : Int) (p3 : Int) (R : Value → World → Prop) (w : World) : fnW Try.prog [4] Try.f12 [Value.agg p0, Value.int IntKind.i64
  p1, Value.int IntKind.u8 p2, Value.int IntKind.u8 p3] R w = f12_vc p0 p1 p2 p3 R w := by kernel_rfl
theorem f12_in (p0 : Array Value) (p1 : Int) (p2 : Int) (p3 : Int) (R : Value → World → Prop) (w : World) (h : f12_vc p0 p1 p2 p3 R w) : Ct Try.prog 12 #[Value.agg p0,
  Value.int IntKind.i64 p1, Value.int IntKind.u8 p2, Value.int IntKind.u8 p3] w R := by
  refine Ct_of (rk := [4]) (fn := Try.f12) (args := [Value.agg p0, Value.int IntKind.i64 p1, Value.int IntKind.u8 p2, Value.int IntKind.u8 p3]) mixedT Try.func12 (by kernel_rfl) ?_
  rw [f12_eq]
  exact h
end Fk
