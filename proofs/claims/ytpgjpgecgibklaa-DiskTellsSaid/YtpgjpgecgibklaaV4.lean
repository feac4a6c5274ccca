/- Conditions of functions, as the generator works them out; each one is checked by the kernel. -/
import Derived.Test.YtpgjpgecgibklaaTT
set_option linter.unusedVariables false
set_option maxRecDepth 1000000
set_option maxHeartbeats 4000000
namespace Fk
open Go Go.Proofs Go.RowKit
def f59_vc (p0 : Array Value) (R : Value → World → Prop) (w : World) : Prop := Nw (Obj.cells p0 (57 : Nat)) w fun n1 w2 => LdN w2 (Addr.mk n1 (0 : Nat) none) (261 : Nat)
  fun l3 => Bd (List.toArray l3) fun cs4 => Array.size cs4 = (261 : Nat) ∧ CallW Try.prog [] (55 : Nat) #[Value.agg cs4] (fun v5 w6 => opB v5 fun b7 => Bd (!b7) fun b8 =>
  If b8 (R (Value.tuple #[Value.slice none (0 : Nat) (0 : Nat), Value.int IntKind.i64 (100 : Int)]) w6) (Ld w6 (Addr.add (Addr.add (Addr.mk n1 (0 : Nat) none) (257 :
  Nat)) (0 : Nat)) fun v9 => opI IntKind.i64 v9 fun x10 => Bd (IntKind.wrap IntKind.i64 (x10 - (1 : Int))) fun x11 => Bd (IntKind.wrap IntKind.u8 x11) fun x12 => Nw
  (Obj.cells #[Value.int IntKind.u8 (70 : Int), Value.int IntKind.u8 (84 : Int), Value.int IntKind.u8 (1 : Int), Value.int IntKind.u8 x12] (5 : Nat)) w6 fun n13 w14 => Jn
  (fun l15 l16 w17 => opL (nthD l15 (0 : Nat)) fun a18 n19 n20 => Ld w17 (Addr.add (Addr.mk n1 (0 : Nat) none) (260 : Nat)) fun v21 => opL v21 fun a22 n23 n24 => Bd ((n23
  : Nat) : Int) fun x25 => LoopP (fun l26 l27 J28 w29 => opL (nthD l26 (0 : Nat)) fun a30 n31 n32 => opI IntKind.i64 (nthD l26 (1 : Nat)) fun x33 => Bd (decide (x33 <
  x25)) fun b34 => If b34 (IxOk x33 n23 a22 ∧ Ld w29 (adAt a22 x33 (1 : Nat)) fun v35 => opStr v35 fun s36 => Bd (((ByteArray.size s36) : Nat) : Int) fun x37 => Bd
  (IntKind.wrap IntKind.u8 x37) fun x38 => Nw (Obj.cells #[Value.int IntKind.u8 x38] (5 : Nat)) w29 fun n39 w40 => RunW Try.prog [] (Builtin.append_ #[(51 : Nat), (51 :
  Nat)] (51 : Nat) #[Value.slice a30 n31 n32, Value.slice (some (Addr.mk n39 (0 : Nat) none)) (1 : Nat) (1 : Nat)]) (fun v41 w42 => opL v41 fun a43 n44 n45 => RunW
  Try.prog [] (Builtin.append_ #[(51 : Nat), (9 : Nat)] (51 : Nat) #[Value.slice a43 n44 n45, Value.string s36]) (fun v46 w47 => opL v46 fun a48 n49 n50 => Bd
  (IntKind.wrap IntKind.i64 (x33 + (1 : Int))) fun x51 => J28 [Value.slice a48 n49 n50, Value.int IntKind.i64 x51] [] w47) w42) w40) (RunW Try.prog [] (Instr.sliceAt (23
  : Nat) (Value.pointer (some (Addr.add (Addr.add (Addr.mk n1 (0 : Nat) none) (0 : Nat)) (0 : Nat)))) none none none) (fun v52 w53 => opL v52 fun a54 n55 n56 => RunW
  Try.prog [] (Builtin.append_ #[(51 : Nat), (51 : Nat)] (51 : Nat) #[Value.slice a30 n31 n32, Value.slice a54 n55 n56]) (fun v57 w58 => opL v57 fun a59 n60 n61 => Ld w58
  (Addr.add (Addr.add (Addr.mk n1 (0 : Nat) none) (257 : Nat)) (2 : Nat)) fun v62 => opL v62 fun a63 n64 n65 => Bd ((n64 : Nat) : Int) fun x66 => LoopP (fun l67 l68 J69
  w70 => opL (nthD l67 (0 : Nat)) fun a71 n72 n73 => opI IntKind.i64 (nthD l67 (1 : Nat)) fun x74 => Bd (decide (x74 < x66)) fun b75 => If b75 (IxOk x74 n64 a63 ∧ Ld w70
  (adAt a63 x74 (1 : Nat)) fun v76 => opI IntKind.i64 v76 fun x77 => Bd (IntKind.wrap IntKind.i64 (x77 + (1 : Int))) fun x78 => Bd (IntKind.wrap IntKind.u8 x78) fun x79
  => Nw (Obj.cells #[Value.int IntKind.u8 x79] (5 : Nat)) w70 fun n80 w81 => RunW Try.prog [] (Builtin.append_ #[(51 : Nat), (51 : Nat)] (51 : Nat) #[Value.slice a71 n72
  n73, Value.slice (some (Addr.mk n80 (0 : Nat) none)) (1 : Nat) (1 : Nat)]) (fun v82 w83 => opL v82 fun a84 n85 n86 => Bd (IntKind.wrap IntKind.i64 (x74 + (1 : Int)))
  fun x87 => J69 [Value.slice a84 n85 n86, Value.int IntKind.i64 x87] [] w83) w81) (Ld w70 (Addr.add (Addr.add (Addr.mk n1 (0 : Nat) none) (257 : Nat)) (1 : Nat)) fun v88
  => opL v88 fun a89 n90 n91 => Bd ((n90 : Nat) : Int) fun x92 => LoopP (fun l93 l94 J95 w96 => opL (nthD l93 (0 : Nat)) fun a97 n98 n99 => opI IntKind.i64 (nthD l93 (1 :
  Nat)) fun x100 => Bd (decide (x100 < x92)) fun b101 => If b101 (IxOk x100 n90 a89 ∧ Ld w96 (adAt a89 x100 (1 : Nat)) fun v102 => opI IntKind.i64 v102 fun x103 => Bd
  (IntKind.wrap IntKind.i64 (x103 + (1 : Int))) fun x104 => CallW Try.prog [] (156 : Nat) #[Value.slice a97 n98 n99, Value.int IntKind.i64 x104] (fun v105 w106 => opL
  v105 fun a107 n108 n109 => Bd (IntKind.wrap IntKind.i64 (x100 + (1 : Int))) fun x110 => J95 [Value.slice a107 n108 n109, Value.int IntKind.i64 x110] [] w106) w96) (R
  (Value.tuple #[Value.slice a97 n98 n99, Value.int IntKind.i64 (0 : Int)]) w96)) [Value.slice a71 n72 n73, Value.int IntKind.i64 (0 : Int)] [] w70)) [Value.slice a59 n60
  n61, Value.int IntKind.i64 (0 : Int)] [] w58) w53) w29)) [Value.slice a18 n19 n20, Value.int IntKind.i64 (0 : Int)] [] w17) fun J111 => Dr (World.drew w14) fun J112 =>
  ∃ v113, (∀ (w114 : World), J112 w114 → Ld w114 (Addr.add (Addr.add (Addr.mk n1 (0 : Nat) none) (257 : Nat)) (2 : Nat)) fun v116 => v116 = v113) ∧ opL v113 fun a117 n118
  n119 => Bd ((n118 : Nat) : Int) fun x120 => ∃ v121, (∀ (w122 : World), J112 w122 → Ld w122 (Addr.add (Addr.mk n1 (0 : Nat) none) (260 : Nat)) fun v124 => v124 = v121) ∧
  opL v121 fun a125 n126 n127 => Bd ((n126 : Nat) : Int) fun x128 => Bd (IntKind.wrap IntKind.u8 x128) fun x129 => CallW Try.prog [] (156 : Nat) #[Value.slice (some
  (Addr.mk n13 (0 : Nat) none)) (4 : Nat) (4 : Nat), Value.int IntKind.i64 x120] (fun v130 w131 => opL v130 fun a132 n133 n134 => J112 w131 ∧ Nw (Obj.cells #[Value.int
  IntKind.u8 x129] (5 : Nat)) w131 fun n135 w136 => J112 w136 ∧ RunW Try.prog [] (Builtin.append_ #[(51 : Nat), (51 : Nat)] (51 : Nat) #[Value.slice a132 n133 n134,
  Value.slice (some (Addr.mk n135 (0 : Nat) none)) (1 : Nat) (1 : Nat)]) (fun v137 w138 => opL v137 fun a139 n140 n141 => J112 w138 ∧ J111 [Value.slice a139 n140 n141] []
  w138) w136) (World.drew w14) ∧ Nw (Obj.cells #[Value.int IntKind.u8 x129] (5 : Nat)) (World.drew w14) fun n142 w143 => J112 w143 ∧ CallW Try.prog [] (156 : Nat)
  #[Value.slice (some (Addr.mk n13 (0 : Nat) none)) (4 : Nat) (4 : Nat), Value.int IntKind.i64 x120] (fun v144 w145 => opL v144 fun a146 n147 n148 => J112 w145 ∧ RunW
  Try.prog [] (Builtin.append_ #[(51 : Nat), (51 : Nat)] (51 : Nat) #[Value.slice a146 n147 n148, Value.slice (some (Addr.mk n142 (0 : Nat) none)) (1 : Nat) (1 : Nat)])
  (fun v149 w150 => opL v149 fun a151 n152 n153 => J112 w150 ∧ J111 [Value.slice a151 n152 n153] [] w150) w145) w143)) w2
theorem f59_eq (p0 : Array Value) (R : Value → World → Prop) (w : World) : fnW Try.prog [] Try.f59 [Value.agg p0] R w = f59_vc p0 R w := by kernel_rfl
theorem f59_in (p0 : Array Value) (R : Value → World → Prop) (w : World) (h : f59_vc p0 R w) : Ct Try.prog 59 #[Value.agg p0] w R := by
  refine Ct_of (rk := []) (fn := Try.f59) (args := [Value.agg p0]) mixedT Try.func59 (by kernel_rfl) ?_
  rw [f59_eq]
  exact h
end Fk