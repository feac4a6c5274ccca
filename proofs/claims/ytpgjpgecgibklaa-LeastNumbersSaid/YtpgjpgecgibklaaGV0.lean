/- Conditions of functions, as the generator works them out; each one is checked by the kernel. -/
import Derived.Test.YtpgjpgecgibklaaGK2
set_option linter.unusedVariables false
set_option maxRecDepth 1000000
set_option maxHeartbeats 4000000
namespace Fk
open Go Go.Proofs Go.RowKit
def f72_vc (p0_0 : Int) (p0_1a : Option Addr) (p0_1n : Nat) (p0_1c : Nat) (p0_2a : Option Addr) (p0_2n : Nat) (p0_2c : Nat) (R : Value → World → Prop) (w : World) : Prop
  := Rg w fun n1 => Bd ((p0_2n : Nat) : Int) fun x2 => Bd (decide (p0_0 < (1 : Int))) fun b3 => Bd (decide (p0_0 > (256 : Int))) fun b4 => Bd (bif b3 then true else b4)
  fun b5 => Bd (decide (x2 < (1 : Int))) fun b6 => Bd (bif b5 then true else b6) fun b7 => Bd (decide (x2 > (5000 : Int))) fun b8 => Bd (bif b7 then true else b8) fun b9
  => Bd ((p0_1n : Nat) : Int) fun x10 => Bd (IntKind.wrap IntKind.i64 (p0_0 * x2)) fun x11 => Bd (x10 != x11) fun b12 => Bd (bif b9 then true else b12) fun b13 => If b13
  (Up [] [n1] w fun w14 => R (Value.bool false) w14) (Bd ((p0_2n : Nat) : Int) fun x15 => Up [] [n1] w fun w16 => LoopP (fun l17 l18 J19 w20 => opB (nthD l17 (0 : Nat))
  fun b21 => opI IntKind.i64 (nthD l17 (1 : Nat)) fun x22 => Bd (decide (x22 < x15)) fun b23 => If b23 (IxOk x22 p0_2n p0_2a ∧ Ld w20 (adAt p0_2a x22 (1 : Nat)) fun v24
  => opI IntKind.i64 v24 fun x25 => Bd (decide (x25 < (-1 : Int))) fun b26 => Bd (decide (x25 ≥ (200 : Int))) fun b27 => Bd (bif b26 then true else b27) fun b28 => If b28
  (R (Value.bool false) w20) (Bd (IntKind.wrap IntKind.i64 (x22 + (1 : Int))) fun x29 => J19 [Value.bool b21, Value.int IntKind.i64 x29] [] w20)) (Bd ((p0_1n : Nat) :
  Int) fun x30 => LoopP (fun l31 l32 J33 w34 => opB (nthD l31 (0 : Nat)) fun b35 => opI IntKind.i64 (nthD l31 (1 : Nat)) fun x36 => Bd (decide (x36 < x30)) fun b37 => If
  b37 (IxOk x36 p0_1n p0_1a ∧ Ld w34 (adAt p0_1a x36 (1 : Nat)) fun v38 => opI IntKind.i64 v38 fun x39 => Bd (decide (x39 < (-1 : Int))) fun b40 => Bd (decide (x39 ≥ x2))
  fun b41 => Bd (bif b40 then true else b41) fun b42 => If b42 (R (Value.bool false) w34) (Bd (IntKind.wrap IntKind.i64 (x36 + (1 : Int))) fun x43 => J33 [Value.bool b35,
  Value.int IntKind.i64 x43] [] w34)) (R (Value.bool true) w34)) [Value.bool b21, Value.int IntKind.i64 (0 : Int)] [] w20)) [Value.bool false, Value.int IntKind.i64 (0 :
  Int)] [] w16)
theorem f72_eq (p0_0 : Int) (p0_1a : Option Addr) (p0_1n : Nat) (p0_1c : Nat) (p0_2a : Option Addr) (p0_2n : Nat) (p0_2c : Nat) (R : Value → World → Prop) (w : World) :
  fnW Try.prog [1] Try.f72 [Value.agg #[Value.int IntKind.i64 p0_0, Value.slice p0_1a p0_1n p0_1c, Value.slice p0_2a p0_2n p0_2c]] R w = f72_vc p0_0 p0_1a p0_1n p0_1c
  p0_2a p0_2n p0_2c R w := by kernel_rfl
theorem f72_in (p0_0 : Int) (p0_1a : Option Addr) (p0_1n : Nat) (p0_1c : Nat) (p0_2a : Option Addr) (p0_2n : Nat) (p0_2c : Nat) (R : Value → World → Prop) (w : World) (h
  : f72_vc p0_0 p0_1a p0_1n p0_1c p0_2a p0_2n p0_2c R w) : Ct Try.prog 72 #[Value.agg #[Value.int IntKind.i64 p0_0, Value.slice p0_1a p0_1n p0_1c, Value.slice p0_2a p0_2n
  p0_2c]] w R := by
  refine Ct_of (rk := [1]) (fn := Try.f72) (args := [Value.agg #[Value.int IntKind.i64 p0_0, Value.slice p0_1a p0_1n p0_1c, Value.slice p0_2a p0_2n p0_2c]]) mixedT Try.func72 (by kernel_rfl) ?_
  rw [f72_eq]
  exact h
def f90_vc (p0_0 : Int) (p0_1a : Option Addr) (p0_1n : Nat) (p0_1c : Nat) (p0_2a : Option Addr) (p0_2n : Nat) (p0_2c : Nat) (R : Value → World → Prop) (w : World) : Prop
  := Rg w fun n1 => Bd ((p0_2n : Nat) : Int) fun x2 => Bd (decide (x2 ≤ (60 : Int))) fun b3 => Bd ((p0_1n : Nat) : Int) fun x4 => Bd (decide (x4 ≤ (2400 : Int))) fun b5
  => Bd (bif b3 then b5 else false) fun b6 => Up [] [n1] w fun w7 => R (Value.bool b6) w7
theorem f90_eq (p0_0 : Int) (p0_1a : Option Addr) (p0_1n : Nat) (p0_1c : Nat) (p0_2a : Option Addr) (p0_2n : Nat) (p0_2c : Nat) (R : Value → World → Prop) (w : World) :
  fnW Try.prog [1] Try.f90 [Value.agg #[Value.int IntKind.i64 p0_0, Value.slice p0_1a p0_1n p0_1c, Value.slice p0_2a p0_2n p0_2c]] R w = f90_vc p0_0 p0_1a p0_1n p0_1c
  p0_2a p0_2n p0_2c R w := by kernel_rfl
theorem f90_in (p0_0 : Int) (p0_1a : Option Addr) (p0_1n : Nat) (p0_1c : Nat) (p0_2a : Option Addr) (p0_2n : Nat) (p0_2c : Nat) (R : Value → World → Prop) (w : World) (h
  : f90_vc p0_0 p0_1a p0_1n p0_1c p0_2a p0_2n p0_2c R w) : Ct Try.prog 90 #[Value.agg #[Value.int IntKind.i64 p0_0, Value.slice p0_1a p0_1n p0_1c, Value.slice p0_2a p0_2n
  p0_2c]] w R := by
  refine Ct_of (rk := [1]) (fn := Try.f90) (args := [Value.agg #[Value.int IntKind.i64 p0_0, Value.slice p0_1a p0_1n p0_1c, Value.slice p0_2a p0_2n p0_2c]]) mixedT Try.func90 (by kernel_rfl) ?_
  rw [f90_eq]
  exact h
def f96_vc (p0_0 : Int) (p0_1a : Option Addr) (p0_1n : Nat) (p0_1c : Nat) (p0_2a : Option Addr) (p0_2n : Nat) (p0_2c : Nat) (p1_0 : Int) (p1_1a : Option Addr) (p1_1n :
  Nat) (p1_1c : Nat) (p1_2a : Option Addr) (p1_2n : Nat) (p1_2c : Nat) (R : Value → World → Prop) (w : World) : Prop := Rg w fun n1 => Rg w fun n2 => Bd (p0_0 == p1_0)
  fun b3 => Up [] [n2, n1] w fun w4 => Gd b3 false (fun J5 => CallW Try.prog [n2, n1] (73 : Nat) #[Value.slice p0_1a p0_1n p0_1c, Value.slice p1_1a p1_1n p1_1c] (fun v6
  w7 => opB v6 fun b8 => J5 b8 w7) w4) (fun b9 w10 => Bd (bif b3 then b9 else false) fun b11 => Gd b11 false (fun J12 => CallW Try.prog [n2, n1] (73 : Nat) #[Value.slice
  p0_2a p0_2n p0_2c, Value.slice p1_2a p1_2n p1_2c] (fun v13 w14 => opB v13 fun b15 => J12 b15 w14) w10) (fun b16 w17 => Bd (bif b11 then b16 else false) fun b18 => R
  (Value.bool b18) w17) w10) w4
theorem f96_eq (p0_0 : Int) (p0_1a : Option Addr) (p0_1n : Nat) (p0_1c : Nat) (p0_2a : Option Addr) (p0_2n : Nat) (p0_2c : Nat) (p1_0 : Int) (p1_1a : Option Addr) (p1_1n
  : Nat) (p1_1c : Nat) (p1_2a : Option Addr) (p1_2n : Nat) (p1_2c : Nat) (R : Value → World → Prop) (w : World) : fnW Try.prog [2, 3] Try.f96 [Value.agg #[Value.int
  IntKind.i64 p0_0, Value.slice p0_1a p0_1n p0_1c, Value.slice p0_2a p0_2n p0_2c], Value.agg #[Value.int IntKind.i64 p1_0, Value.slice p1_1a p1_1n p1_1c, Value.slice
  p1_2a p1_2n p1_2c]] R w = f96_vc p0_0 p0_1a p0_1n p0_1c p0_2a p0_2n p0_2c p1_0 p1_1a p1_1n p1_1c p1_2a p1_2n p1_2c R w := by kernel_rfl
theorem f96_in (p0_0 : Int) (p0_1a : Option Addr) (p0_1n : Nat) (p0_1c : Nat) (p0_2a : Option Addr) (p0_2n : Nat) (p0_2c : Nat) (p1_0 : Int) (p1_1a : Option Addr) (p1_1n
  : Nat) (p1_1c : Nat) (p1_2a : Option Addr) (p1_2n : Nat) (p1_2c : Nat) (R : Value → World → Prop) (w : World) (h : f96_vc p0_0 p0_1a p0_1n p0_1c p0_2a p0_2n p0_2c p1_0
  p1_1a p1_1n p1_1c p1_2a p1_2n p1_2c R w) : Ct Try.prog 96 #[Value.agg #[Value.int IntKind.i64 p0_0, Value.slice p0_1a p0_1n p0_1c, Value.slice p0_2a p0_2n p0_2c],
  Value.agg #[Value.int IntKind.i64 p1_0, Value.slice p1_1a p1_1n p1_1c, Value.slice p1_2a p1_2n p1_2c]] w R := by
  refine Ct_of (rk := [2, 3]) (fn := Try.f96) (args := [Value.agg #[Value.int IntKind.i64 p0_0, Value.slice p0_1a p0_1n p0_1c, Value.slice p0_2a p0_2n p0_2c], Value.agg #[Value.int IntKind.i64 p1_0, Value.slice p1_1a p1_1n p1_1c, Value.slice p1_2a p1_2n p1_2c]]) mixedT Try.func96 (by kernel_rfl) ?_
  rw [f96_eq]
  exact h
def f73_vc (p0a : Option Addr) (p0n : Nat) (p0c : Nat) (p1a : Option Addr) (p1n : Nat) (p1c : Nat) (R : Value → World → Prop) (w : World) : Prop := Bd ((p0n : Nat) : Int)
  fun x1 => Bd ((p1n : Nat) : Int) fun x2 => Bd (x1 != x2) fun b3 => If b3 (R (Value.bool false) w) (Bd ((p0n : Nat) : Int) fun x4 => LoopP (fun l5 l6 J7 w8 => opB (nthD
  l5 (0 : Nat)) fun b9 => opI IntKind.i64 (nthD l5 (1 : Nat)) fun x10 => Bd (decide (x10 < x4)) fun b11 => If b11 (Dr (World.drew w8) fun J12 => IxOk x10 p0n p0a ∧ ∃ v13,
  (∀ (w14 : World), J12 w14 → Ld w14 (adAt p0a x10 (1 : Nat)) fun v16 => v16 = v13) ∧ opI IntKind.i64 v13 fun x17 => IxOk x10 p1n p1a ∧ ∃ v18, (∀ (w19 : World), J12 w19 →
  Ld w19 (adAt p1a x10 (1 : Nat)) fun v21 => v21 = v18) ∧ opI IntKind.i64 v18 fun x22 => Bd (x17 != x22) fun b23 => If b23 (R (Value.bool false) (World.drew w8)) (Bd
  (IntKind.wrap IntKind.i64 (x10 + (1 : Int))) fun x24 => J7 [Value.bool b9, Value.int IntKind.i64 x24] [] (World.drew w8))) (R (Value.bool true) w8)) [Value.bool false,
  Value.int IntKind.i64 (0 : Int)] [] w)
theorem f73_eq (p0a : Option Addr) (p0n : Nat) (p0c : Nat) (p1a : Option Addr) (p1n : Nat) (p1c : Nat) (R : Value → World → Prop) (w : World) : fnW Try.prog [] Try.f73
  [Value.slice p0a p0n p0c, Value.slice p1a p1n p1c] R w = f73_vc p0a p0n p0c p1a p1n p1c R w := by kernel_rfl
theorem f73_in (p0a : Option Addr) (p0n : Nat) (p0c : Nat) (p1a : Option Addr) (p1n : Nat) (p1c : Nat) (R : Value → World → Prop) (w : World) (h : f73_vc p0a p0n p0c p1a
  p1n p1c R w) : Ct Try.prog 73 #[Value.slice p0a p0n p0c, Value.slice p1a p1n p1c] w R := by
  refine Ct_of (rk := []) (fn := Try.f73) (args := [Value.slice p0a p0n p0c, Value.slice p1a p1n p1c]) mixedT Try.func73 (by kernel_rfl) ?_
  rw [f73_eq]
  exact h
end Fk
set_option linter.unusedVariables false
set_option maxRecDepth 1000000
set_option maxHeartbeats 4000000
namespace Fk
open Go Go.Proofs Go.RowKit
def f230_vc (p0 : Option Addr) (p1 : Int) (R : Value → World → Prop) (w : World) : Prop := NN p0 fun A1 => Ld w (Addr.add A1 (0 : Nat)) fun v2 => opI IntKind.i64 v2 fun
  x3 => LoopP (fun l4 l5 J6 w7 => opI IntKind.i64 (nthD l4 (0 : Nat)) fun x8 => Bd (decide (x8 < x3)) fun b9 => If b9 (Jn (fun l10 l11 w12 => opI IntKind.i64 (nthD l10 (0
  : Nat)) fun x13 => Bd (IntKind.wrap IntKind.i64 (x8 + (1 : Int))) fun x14 => J6 [Value.int IntKind.i64 x14] [] w12) fun J15 => Rg w7 fun n16 => Up [n16] [n16] w7 fun
  w17 => Dr (World.drew w17) fun J18 => NN p0 fun A19 => ∃ v20, (∀ (w21 : World), J18 w21 → Ld w21 (Addr.add A19 (6 : Nat)) fun v23 => v23 = v20) ∧ opM v20 fun a24 => ∃
  v25, (∀ (w26 : World), J18 w26 → RunV Try.prog (Instr.lookup (245 : Nat) (Value.map a24) (Value.agg #[Value.int IntKind.i64 p1, Value.int IntKind.i64 x8]) false) v25
  w26) ∧ opI IntKind.i64 v25 fun x28 => Bd (x28 == (0 : Int)) fun b29 => If b29 (Dr (World.drew (World.drew w17)) fun J30 => NN p0 fun A31 => ∃ v32, (∀ (w33 : World), J30
  w33 → Ld w33 (Addr.add A31 (6 : Nat)) fun v35 => v35 = v32) ∧ opM v32 fun a36 => RunU Try.prog [n16] (Instr.mapUpdate (245 : Nat) (Value.map a36) (Value.agg #[Value.int
  IntKind.i64 p1, Value.int IntKind.i64 x8]) (Value.int IntKind.i64 (1 : Int))) (fun w37 => J30 w37 ∧ Dr (World.drew w37) fun J38 => NN p0 fun A39 => ∃ v40, (∀ (w41 :
  World), J38 w41 → Ld w41 (Addr.add A39 (5 : Nat)) fun v43 => v43 = v40) ∧ opL v40 fun a44 n45 n46 => Nw (Obj.cells #[Value.int IntKind.i64 p1, Value.int IntKind.i64 x8]
  (297 : Nat)) (World.drew w37) fun n47 w48 => J38 w48 ∧ RunW Try.prog [n16] (Builtin.append_ #[(244 : Nat), (244 : Nat)] (244 : Nat) #[Value.slice a44 n45 n46,
  Value.slice (some (Addr.mk n47 (0 : Nat) none)) (1 : Nat) (1 : Nat)]) (fun v49 w50 => opL v49 fun a51 n52 n53 => J38 w50 ∧ NN p0 fun A54 => ¬Addr.block A54 ∈ [n16] ∧ Wr
  w50 (Addr.add A54 (5 : Nat)) (1 : Nat) ∧ J15 [Value.int IntKind.i64 x8] [] (setCells w50 (Addr.add A54 (5 : Nat)) (0 : Nat) [Value.slice a51 n52 n53])) w48) (World.drew
  (World.drew w17))) (J15 [Value.int IntKind.i64 x8] [] (World.drew w17))) (R (Value.tuple #[]) w7)) [Value.int IntKind.i64 (0 : Int)] [] w
theorem f230_eq (p0 : Option Addr) (p1 : Int) (R : Value → World → Prop) (w : World) : fnW Try.prog [5, 100004, 100005, 500006] Try.f230 [Value.pointer p0, Value.int
  IntKind.i64 p1] R w = f230_vc p0 p1 R w := by kernel_rfl
theorem f230_in (p0 : Option Addr) (p1 : Int) (R : Value → World → Prop) (w : World) (h : f230_vc p0 p1 R w) : Ct Try.prog 230 #[Value.pointer p0, Value.int IntKind.i64
  p1] w R := by
  refine Ct_of (rk := [5, 100004, 100005, 500006]) (fn := Try.f230) (args := [Value.pointer p0, Value.int IntKind.i64 p1]) mixedT Try.func230 (by kernel_rfl) ?_
  rw [f230_eq]
  exact h
def f231_vc (p0 : Option Addr) (p1 : Int) (p2 : Int) (R : Value → World → Prop) (w : World) : Prop := NN p0 fun A1 => Ld w (Addr.add A1 (3 : Nat)) fun v2 => opL v2 fun a3
  n4 n5 => IxOk p1 n4 a3 ∧ Ld w (adAt a3 p1 (1 : Nat)) fun v6 => opL v6 fun a7 n8 n9 => NN p0 fun A10 => Ld w (Addr.add A10 (3 : Nat)) fun v11 => opL v11 fun a12 n13 n14
  => Bd ((n13 : Nat) : Int) fun x15 => Dr (World.drew w) fun J16 => NN p0 fun A17 => ∃ v18, (∀ (w19 : World), True → RunV Try.prog (Instr.sliceAt (52 : Nat) (Value.slice
  a7 n8 n9) none (some (Value.int IntKind.i64 p2)) (some (Value.int IntKind.i64 p2))) v18 w19) ∧ opL v18 fun a21 n22 n23 => ∃ v24, (∀ (w25 : World), J16 w25 → Ld w25
  (Addr.add A17 (3 : Nat)) fun v27 => v27 = v24) ∧ opL v24 fun a28 n29 n30 => IxOk p1 n29 a28 ∧ ¬Addr.block (adAt a28 p1 (1 : Nat)) ∈ [] ∧ Wr (World.drew w) (adAt a28 p1
  (1 : Nat)) (1 : Nat) ∧ Jn (fun l31 l32 w33 => NN p0 fun A34 => Ld w33 (Addr.add A34 (3 : Nat)) fun v35 => opL v35 fun a36 n37 n38 => IxOk x15 n37 a36 ∧ Ld w33 (adAt a36
  x15 (1 : Nat)) fun v39 => opL v39 fun a40 n41 n42 => Bd ((n41 : Nat) : Int) fun x43 => LoopP (fun l44 l45 J46 w47 => opI IntKind.i64 (nthD l44 (0 : Nat)) fun x48 => Bd
  (decide (x48 < x43)) fun b49 => If b49 (IxOk x48 n41 a40 ∧ Ld w47 (adAt a40 x48 (1 : Nat)) fun v50 => opI IntKind.i64 v50 fun x51 => NN p0 fun A52 => Ld w47 (Addr.add
  A52 (4 : Nat)) fun v53 => opL v53 fun a54 n55 n56 => IxOk x51 n55 a54 ∧ ¬Addr.block (adAt a54 x51 (1 : Nat)) ∈ [] ∧ Wr w47 (adAt a54 x51 (1 : Nat)) (1 : Nat) ∧ Bd
  (IntKind.wrap IntKind.i64 (x48 + (1 : Int))) fun x57 => J46 [Value.int IntKind.i64 x57] [] (setCells w47 (adAt a54 x51 (1 : Nat)) (0 : Nat) [Value.int IntKind.i64
  x15])) (NN p0 fun A58 => Ld w47 (Addr.add A58 (0 : Nat)) fun v59 => opI IntKind.i64 v59 fun x60 => LoopP (fun l61 l62 J63 w64 => opI IntKind.i64 (nthD l61 (0 : Nat))
  fun x65 => Bd (decide (x65 < x60)) fun b66 => If b66 (Jn (fun l67 l68 w69 => opI IntKind.i64 (nthD l67 (0 : Nat)) fun x70 => opI IntKind.i64 (nthD l67 (1 : Nat)) fun
  x71 => Bd (IntKind.wrap IntKind.i64 (x65 + (1 : Int))) fun x72 => J63 [Value.int IntKind.i64 x72] [] w69) fun J73 => Jn (fun l74 l75 w76 => opI IntKind.i64 (nthD l74 (0
  : Nat)) fun x77 => Rg w76 fun n78 => Up [n78] [n78] w76 fun w79 => Dr (World.drew w79) fun J80 => NN p0 fun A81 => ∃ v82, (∀ (w83 : World), J80 w83 → Ld w83 (Addr.add
  A81 (6 : Nat)) fun v85 => v85 = v82) ∧ opM v82 fun a86 => ∃ v87, (∀ (w88 : World), J80 w88 → RunV Try.prog (Instr.lookup (245 : Nat) (Value.map a86) (Value.agg
  #[Value.int IntKind.i64 x77, Value.int IntKind.i64 x65]) false) v87 w88) ∧ opI IntKind.i64 v87 fun x90 => Bd (x90 == (0 : Int)) fun b91 => If b91 (Dr (World.drew
  (World.drew w79)) fun J92 => NN p0 fun A93 => ∃ v94, (∀ (w95 : World), J92 w95 → Ld w95 (Addr.add A93 (6 : Nat)) fun v97 => v97 = v94) ∧ opM v94 fun a98 => RunU
  Try.prog [n78] (Instr.mapUpdate (245 : Nat) (Value.map a98) (Value.agg #[Value.int IntKind.i64 x77, Value.int IntKind.i64 x65]) (Value.int IntKind.i64 (1 : Int))) (fun
  w99 => J92 w99 ∧ Dr (World.drew w99) fun J100 => NN p0 fun A101 => ∃ v102, (∀ (w103 : World), J100 w103 → Ld w103 (Addr.add A101 (5 : Nat)) fun v105 => v105 = v102) ∧
  opL v102 fun a106 n107 n108 => Nw (Obj.cells #[Value.int IntKind.i64 x77, Value.int IntKind.i64 x65] (297 : Nat)) (World.drew w99) fun n109 w110 => J100 w110 ∧ RunW
  Try.prog [n78] (Builtin.append_ #[(244 : Nat), (244 : Nat)] (244 : Nat) #[Value.slice a106 n107 n108, Value.slice (some (Addr.mk n109 (0 : Nat) none)) (1 : Nat) (1 :
  Nat)]) (fun v111 w112 => opL v111 fun a113 n114 n115 => J100 w112 ∧ NN p0 fun A116 => ¬Addr.block A116 ∈ [n78] ∧ Wr w112 (Addr.add A116 (5 : Nat)) (1 : Nat) ∧ J73
  [Value.int IntKind.i64 x65, Value.int IntKind.i64 x77] [] (setCells w112 (Addr.add A116 (5 : Nat)) (0 : Nat) [Value.slice a113 n114 n115])) w110) (World.drew
  (World.drew w79))) (J73 [Value.int IntKind.i64 x65, Value.int IntKind.i64 x77] [] (World.drew w79))) fun J117 => Dr (World.drew w64) fun J118 => NN p0 fun A119 => ∃
  v120, (∀ (w121 : World), J118 w121 → Ld w121 (Addr.add A119 (6 : Nat)) fun v123 => v123 = v120) ∧ opM v120 fun a124 => ∃ v125, (∀ (w126 : World), J118 w126 → RunV
  Try.prog (Instr.lookup (245 : Nat) (Value.map a124) (Value.agg #[Value.int IntKind.i64 p1, Value.int IntKind.i64 x65]) false) v125 w126) ∧ opI IntKind.i64 v125 fun x128
  => Bd (x128 == (0 : Int)) fun b129 => (b129 = true → Option.isSome p0 = true) ∧ Bd (Option.getD p0 default) fun A131 => ∃ v132, (b129 = true → ∀ (w134 : World), J118
  w134 → Ld w134 (Addr.add A131 (3 : Nat)) fun v136 => v136 = v132) ∧ opL v132 fun a137 n138 n139 => (b129 = true → IxOk p1 n138 a137) ∧ ∃ v141, (b129 = true → ∀ (w143 :
  World), J118 w143 → Ld w143 (adAt a137 p1 (1 : Nat)) fun v145 => v145 = v141) ∧ opL v141 fun a146 n147 n148 => Bd ((n147 : Nat) : Int) fun x149 => (b129 = true →
  Option.isSome p0 = true) ∧ Bd (Option.getD p0 default) fun A151 => ∃ v152, (b129 = true → ∀ (w154 : World), J118 w154 → Ld w154 (Addr.add A151 (3 : Nat)) fun v156 =>
  v156 = v152) ∧ opL v152 fun a157 n158 n159 => (b129 = true → IxOk x15 n158 a157) ∧ ∃ v161, (b129 = true → ∀ (w163 : World), J118 w163 → Ld w163 (adAt a157 x15 (1 :
  Nat)) fun v165 => v165 = v161) ∧ opL v161 fun a166 n167 n168 => Bd ((n167 : Nat) : Int) fun x169 => Bd (decide (x149 < x169)) fun b170 => Bd (bif b129 then b170 else
  false) fun b171 => If b171 (J117 [Value.int IntKind.i64 p1] [] (World.drew w64)) (J117 [Value.int IntKind.i64 x15] [] (World.drew w64))) (R (Value.tuple #[]) w64))
  [Value.int IntKind.i64 (0 : Int)] [] w47)) [Value.int IntKind.i64 (0 : Int)] [] w33) fun J172 => Dr (World.drew (setCells (World.drew w) (adAt a28 p1 (1 : Nat)) (0 :
  Nat) [Value.slice a21 n22 n23])) fun J173 => NN p0 fun A174 => Bd ((n8 : Nat) : Int) fun x175 => Bd ((n8 : Nat) : Int) fun x176 => ∃ v177, (∀ (w178 : World), True →
  RunV Try.prog (Instr.sliceAt (52 : Nat) (Value.slice a7 n8 n9) (some (Value.int IntKind.i64 p2)) (some (Value.int IntKind.i64 x175)) (some (Value.int IntKind.i64
  x176))) v177 w178) ∧ opL v177 fun a180 n181 n182 => ∃ v183, (∀ (w184 : World), J173 w184 → Ld w184 (Addr.add A174 (3 : Nat)) fun v186 => v186 = v183) ∧ opL v183 fun
  a187 n188 n189 => Nw (Obj.cells #[Value.slice a180 n181 n182] (52 : Nat)) (World.drew (setCells (World.drew w) (adAt a28 p1 (1 : Nat)) (0 : Nat) [Value.slice a21 n22
  n23])) fun n190 w191 => J173 w191 ∧ RunW Try.prog [] (Builtin.append_ #[(242 : Nat), (242 : Nat)] (242 : Nat) #[Value.slice a187 n188 n189, Value.slice (some (Addr.mk
  n190 (0 : Nat) none)) (1 : Nat) (1 : Nat)]) (fun v192 w193 => opL v192 fun a194 n195 n196 => J173 w193 ∧ NN p0 fun A197 => ¬Addr.block A197 ∈ [] ∧ Wr w193 (Addr.add
  A197 (3 : Nat)) (1 : Nat) ∧ J172 [] [] (setCells w193 (Addr.add A197 (3 : Nat)) (0 : Nat) [Value.slice a194 n195 n196])) w191
theorem f231_eq (p0 : Option Addr) (p1 : Int) (p2 : Int) (R : Value → World → Prop) (w : World) : fnW Try.prog [12, 500002, 500003, 100013, 100016, 100017, 500018]
  Try.f231 [Value.pointer p0, Value.int IntKind.i64 p1, Value.int IntKind.i64 p2] R w = f231_vc p0 p1 p2 R w := by kernel_rfl
theorem f231_in (p0 : Option Addr) (p1 : Int) (p2 : Int) (R : Value → World → Prop) (w : World) (h : f231_vc p0 p1 p2 R w) : Ct Try.prog 231 #[Value.pointer p0, Value.int
  IntKind.i64 p1, Value.int IntKind.i64 p2] w R := by
  refine Ct_of (rk := [12, 500002, 500003, 100013, 100016, 100017, 500018]) (fn := Try.f231) (args := [Value.pointer p0, Value.int IntKind.i64 p1, Value.int IntKind.i64 p2]) mixedT Try.func231 (by kernel_rfl) ?_
  rw [f231_eq]
  exact h
def f188_vc (p0_0 : Int) (p0_1a : Option Addr) (p0_1n : Nat) (p0_1c : Nat) (p0_2a : Option Addr) (p0_2n : Nat) (p0_2c : Nat) (R : Value → World → Prop) (w : World) : Prop
  := Rg w fun n1 => Up [] [n1] w fun w2 => CallW Try.prog [n1] (221 : Nat) #[Value.agg #[Value.int IntKind.i64 p0_0, Value.slice p0_1a p0_1n p0_1c, Value.slice p0_2a
  p0_2n p0_2c]] (fun v3 w4 => opP v3 fun a5 => CallW Try.prog [n1] (222 : Nat) #[Value.pointer a5] (fun v6 w7 => opTu v6 fun cs8 => SzIs (Array.size cs8) (0 : Nat) (R
  (Value.pointer a5) w7)) w4) w2
theorem f188_eq (p0_0 : Int) (p0_1a : Option Addr) (p0_1n : Nat) (p0_1c : Nat) (p0_2a : Option Addr) (p0_2n : Nat) (p0_2c : Nat) (R : Value → World → Prop) (w : World) :
  fnW Try.prog [1] Try.f188 [Value.agg #[Value.int IntKind.i64 p0_0, Value.slice p0_1a p0_1n p0_1c, Value.slice p0_2a p0_2n p0_2c]] R w = f188_vc p0_0 p0_1a p0_1n p0_1c
  p0_2a p0_2n p0_2c R w := by kernel_rfl
theorem f188_in (p0_0 : Int) (p0_1a : Option Addr) (p0_1n : Nat) (p0_1c : Nat) (p0_2a : Option Addr) (p0_2n : Nat) (p0_2c : Nat) (R : Value → World → Prop) (w : World) (h
  : f188_vc p0_0 p0_1a p0_1n p0_1c p0_2a p0_2n p0_2c R w) : Ct Try.prog 188 #[Value.agg #[Value.int IntKind.i64 p0_0, Value.slice p0_1a p0_1n p0_1c, Value.slice p0_2a
  p0_2n p0_2c]] w R := by
  refine Ct_of (rk := [1]) (fn := Try.f188) (args := [Value.agg #[Value.int IntKind.i64 p0_0, Value.slice p0_1a p0_1n p0_1c, Value.slice p0_2a p0_2n p0_2c]]) mixedT Try.func188 (by kernel_rfl) ?_
  rw [f188_eq]
  exact h
end Fk
set_option linter.unusedVariables false
set_option maxRecDepth 1000000
set_option maxHeartbeats 4000000
namespace Fk
open Go Go.Proofs Go.RowKit
def f222_vc (p0 : Option Addr) (R : Value → World → Prop) (w : World) : Prop := LoopP (fun l1 l2 J3 w4 => NN p0 fun A5 => Ld w4 (Addr.add A5 (5 : Nat)) fun v6 => opL v6
  fun a7 n8 n9 => Bd ((n8 : Nat) : Int) fun x10 => Bd (decide (x10 > (0 : Int))) fun b11 => If b11 (Dr (World.drew w4) fun J12 => NN p0 fun A13 => NN p0 fun A14 => ∃ v15,
  (∀ (w16 : World), J12 w16 → Ld w16 (Addr.add A13 (5 : Nat)) fun v18 => v18 = v15) ∧ opL v15 fun a19 n20 n21 => ∃ v22, (∀ (w23 : World), J12 w23 → Ld w23 (Addr.add A14
  (5 : Nat)) fun v25 => v25 = v22) ∧ opL v22 fun a26 n27 n28 => Bd ((n27 : Nat) : Int) fun x29 => Bd (IntKind.wrap IntKind.i64 (x29 - (1 : Int))) fun x30 => IxOk x30 n20
  a19 ∧ ∃ v31, (∀ (w32 : World), J12 w32 → Ld w32 (Addr.add (adAt a19 x30 (2 : Nat)) (0 : Nat)) fun v34 => Ld w32 (Addr.add (adAt a19 x30 (2 : Nat)) (1 : Nat)) fun v35 =>
  Value.agg #[v34, v35] = v31) ∧ opAg v31 fun cs36 => opI IntKind.i64 (nthD (Array.toList cs36) (0 : Nat)) fun x37 => opI IntKind.i64 (nthD (Array.toList cs36) (1 : Nat))
  fun x38 => SzIs (Array.size cs36) (2 : Nat) (Rg (World.drew w4) fun n39 => Up [] [n39] (World.drew w4) fun w40 => J12 w40 ∧ Up [n39] [n39] w40 fun w41 => Dr (World.drew
  w41) fun J42 => NN p0 fun A43 => NN p0 fun A44 => ∃ v45, (∀ (w46 : World), J42 w46 → Ld w46 (Addr.add A43 (5 : Nat)) fun v48 => v48 = v45) ∧ opL v45 fun a49 n50 n51 =>
  ∃ v52, (∀ (w53 : World), J42 w53 → Ld w53 (Addr.add A44 (5 : Nat)) fun v55 => v55 = v52) ∧ opL v52 fun a56 n57 n58 => Bd ((n57 : Nat) : Int) fun x59 => Bd (IntKind.wrap
  IntKind.i64 (x59 - (1 : Int))) fun x60 => ∃ v61, (∀ (w62 : World), True → RunV Try.prog (Instr.sliceAt (244 : Nat) (Value.slice a49 n50 n51) none (some (Value.int
  IntKind.i64 x60)) none) v61 w62) ∧ opL v61 fun a64 n65 n66 => NN p0 fun A67 => ¬Addr.block A67 ∈ [n39] ∧ Wr (World.drew w41) (Addr.add A67 (5 : Nat)) (1 : Nat) ∧ Dr
  (World.drew (setCells (World.drew w41) (Addr.add A67 (5 : Nat)) (0 : Nat) [Value.slice a64 n65 n66])) fun J68 => NN p0 fun A69 => ∃ v70, (∀ (w71 : World), J68 w71 → Ld
  w71 (Addr.add A69 (6 : Nat)) fun v73 => v73 = v70) ∧ opM v70 fun a74 => RunW Try.prog [n39] (Builtin.delete_ #[(245 : Nat), (297 : Nat)] (0 : Nat) #[Value.map a74,
  Value.agg #[Value.int IntKind.i64 x37, Value.int IntKind.i64 x38]]) (fun v75 w76 => opTu v75 fun cs77 => SzIs (Array.size cs77) (0 : Nat) (J68 w76 ∧ Nw (Obj.map #[] (0
  : Nat)) w76 fun n78 w79 => Dr (World.drew w79) fun J80 => NN p0 fun A81 => ∃ v82, (∀ (w83 : World), J80 w83 → Ld w83 (Addr.add A81 (3 : Nat)) fun v85 => v85 = v82) ∧
  opL v82 fun a86 n87 n88 => IxOk x37 n87 a86 ∧ ∃ v89, (∀ (w90 : World), J80 w90 → Ld w90 (adAt a86 x37 (1 : Nat)) fun v92 => v92 = v89) ∧ opL v89 fun a93 n94 n95 => Bd
  ((n94 : Nat) : Int) fun x96 => LoopP (fun l97 l98 J99 w100 => opL (nthD l97 (0 : Nat)) fun a101 n102 n103 => opI IntKind.i64 (nthD l97 (1 : Nat)) fun x104 => Bd (decide
  (x104 < x96)) fun b105 => If b105 (IxOk x104 n94 a93 ∧ Ld w100 (adAt a93 x104 (1 : Nat)) fun v106 => opI IntKind.i64 v106 fun x107 => Dr (World.drew w100) fun J108 =>
  NN p0 fun A109 => ∃ v110, (∀ (w111 : World), J108 w111 → Ld w111 (Addr.add A109 (2 : Nat)) fun v113 => v113 = v110) ∧ opL v110 fun a114 n115 n116 => IxOk x38 n115 a114
  ∧ ∃ v117, (∀ (w118 : World), J108 w118 → Ld w118 (adAt a114 x38 (1 : Nat)) fun v120 => v120 = v117) ∧ opL v117 fun a121 n122 n123 => IxOk x107 n122 a121 ∧ ∃ v124, (∀
  (w125 : World), J108 w125 → Ld w125 (adAt a121 x107 (1 : Nat)) fun v127 => v127 = v124) ∧ opL v124 fun a128 n129 n130 => Bd ((n129 : Nat) : Int) fun x131 => LoopP (fun
  l132 l133 J134 w135 => opL (nthD l132 (0 : Nat)) fun a136 n137 n138 => opI IntKind.i64 (nthD l132 (1 : Nat)) fun x139 => Bd (decide (x139 < x131)) fun b140 => If b140
  (IxOk x139 n129 a128 ∧ Ld w135 (adAt a128 x139 (1 : Nat)) fun v141 => opI IntKind.i64 v141 fun x142 => NN p0 fun A143 => Ld w135 (Addr.add A143 (4 : Nat)) fun v144 =>
  opL v144 fun a145 n146 n147 => IxOk x142 n146 a145 ∧ Ld w135 (adAt a145 x142 (1 : Nat)) fun v148 => opI IntKind.i64 v148 fun x149 => Jn (fun l150 l151 w152 => opL (nthD
  l150 (0 : Nat)) fun a153 n154 n155 => RunW Try.prog [n39] (Instr.lookup (298 : Nat) (Value.map (some n78)) (Value.int IntKind.i64 x149) false) (fun v156 w157 => opM
  v156 fun a158 => RunU Try.prog [n39] (Instr.mapUpdate (248 : Nat) (Value.map a158) (Value.int IntKind.i64 x142) (Value.int IntKind.i64 (1 : Int))) (fun w159 => Bd
  (IntKind.wrap IntKind.i64 (x139 + (1 : Int))) fun x160 => J134 [Value.slice a153 n154 n155, Value.int IntKind.i64 x160] [] w159) w157) w152) fun J161 => RunW Try.prog
  [n39] (Instr.lookup (298 : Nat) (Value.map (some n78)) (Value.int IntKind.i64 x149) false) (fun v162 w163 => opM v162 fun a164 => RunW Try.prog [n39] (eqS BinOp.eql
  (248 : Nat) (Operand.tmp (92 : Nat)) (Operand.const (Value.map none)) (Value.map a164) (Value.map none)) (fun v165 w166 => opB v165 fun b167 => If b167 (Nw (Obj.map #[]
  (0 : Nat)) w166 fun n168 w169 => RunU Try.prog [n39] (Instr.mapUpdate (298 : Nat) (Value.map (some n78)) (Value.int IntKind.i64 x149) (Value.map (some n168))) (fun w170
  => Nw (Obj.cells #[Value.int IntKind.i64 x149] (3 : Nat)) w170 fun n171 w172 => RunW Try.prog [n39] (Builtin.append_ #[(52 : Nat), (52 : Nat)] (52 : Nat) #[Value.slice
  a136 n137 n138, Value.slice (some (Addr.mk n171 (0 : Nat) none)) (1 : Nat) (1 : Nat)]) (fun v173 w174 => opL v173 fun a175 n176 n177 => J161 [Value.slice a175 n176
  n177] [] w174) w172) w169) (J161 [Value.slice a136 n137 n138] [] w166)) w163) w135) (Bd (IntKind.wrap IntKind.i64 (x104 + (1 : Int))) fun x178 => J99 [Value.slice a136
  n137 n138, Value.int IntKind.i64 x178] [] w135)) [Value.slice a101 n102 n103, Value.int IntKind.i64 (0 : Int)] [] (World.drew w100)) (Bd ((n102 : Nat) : Int) fun x179
  => LoopP (fun l180 l181 J182 w183 => opI IntKind.i64 (nthD l180 (0 : Nat)) fun x184 => Bd (decide (x184 < x179)) fun b185 => If b185 (Jn (fun l186 l187 w188 => opI
  IntKind.i64 (nthD l186 (0 : Nat)) fun x189 => Bd (IntKind.wrap IntKind.i64 (x184 + (1 : Int))) fun x190 => J182 [Value.int IntKind.i64 x190] [] w188) fun J191 => IxOk
  x184 n102 a101 ∧ Ld w183 (adAt a101 x184 (1 : Nat)) fun v192 => opI IntKind.i64 v192 fun x193 => Dr (World.drew w183) fun J194 => ∃ v195, (∀ (w196 : World), J194 w196 →
  RunV Try.prog (Instr.lookup (298 : Nat) (Value.map (some n78)) (Value.int IntKind.i64 x193) false) v195 w196) ∧ opM v195 fun a198 => ∃ v199, (∀ (w200 : World), J194
  w200 → RunV Try.prog (Builtin.len_ #[(248 : Nat)] (3 : Nat) #[Value.map a198]) v199 w200) ∧ opI IntKind.i64 v199 fun x202 => NN p0 fun A203 => ∃ v204, (∀ (w205 :
  World), J194 w205 → Ld w205 (Addr.add A203 (3 : Nat)) fun v207 => v207 = v204) ∧ opL v204 fun a208 n209 n210 => IxOk x193 n209 a208 ∧ ∃ v211, (∀ (w212 : World), J194
  w212 → Ld w212 (adAt a208 x193 (1 : Nat)) fun v214 => v214 = v211) ∧ opL v211 fun a215 n216 n217 => Bd ((n216 : Nat) : Int) fun x218 => Bd (decide (x202 < x218)) fun
  b219 => If b219 (Nw (Obj.cells #[] (3 : Nat)) (World.drew w183) fun n220 w221 => NN p0 fun A222 => Ld w221 (Addr.add A222 (3 : Nat)) fun v223 => opL v223 fun a224 n225
  n226 => IxOk x193 n225 a224 ∧ Ld w221 (adAt a224 x193 (1 : Nat)) fun v227 => opL v227 fun a228 n229 n230 => RunW Try.prog [n39] (Builtin.append_ #[(52 : Nat), (52 :
  Nat)] (52 : Nat) #[Value.slice (some (Addr.mk n220 (0 : Nat) none)) (0 : Nat) (0 : Nat), Value.slice a228 n229 n230]) (fun v231 w232 => opL v231 fun a233 n234 n235 =>
  Bd ((n234 : Nat) : Int) fun x236 => LoopP (fun l237 l238 J239 w240 => opI IntKind.i64 (nthD l237 (0 : Nat)) fun x241 => opI IntKind.i64 (nthD l237 (1 : Nat)) fun x242
  => Bd (decide (x242 < x236)) fun b243 => If b243 (Jn (fun l244 l245 w246 => opI IntKind.i64 (nthD l244 (0 : Nat)) fun x247 => opI IntKind.i64 (nthD l244 (1 : Nat)) fun
  x248 => opI IntKind.i64 (nthD l244 (2 : Nat)) fun x249 => Bd (IntKind.wrap IntKind.i64 (x242 + (1 : Int))) fun x250 => J239 [Value.int IntKind.i64 x247, Value.int
  IntKind.i64 x250] [] w246) fun J251 => IxOk x242 n234 a233 ∧ Ld w240 (adAt a233 x242 (1 : Nat)) fun v252 => opI IntKind.i64 v252 fun x253 => RunW Try.prog [n39]
  (Instr.lookup (298 : Nat) (Value.map (some n78)) (Value.int IntKind.i64 x193) false) (fun v254 w255 => opM v254 fun a256 => RunW Try.prog [n39] (Instr.lookup (248 :
  Nat) (Value.map a256) (Value.int IntKind.i64 x253) false) (fun v257 w258 => opI IntKind.i64 v257 fun x259 => Bd (x259 == (1 : Int)) fun b260 => If b260 (Jn (fun l261
  l262 w263 => Bd (IntKind.wrap IntKind.i64 (x241 + (1 : Int))) fun x264 => J251 [Value.int IntKind.i64 x264, Value.int IntKind.i64 x242, Value.int IntKind.i64 x253] []
  w263) fun J265 => Dr (World.drew w258) fun J266 => IxOk x242 n234 a233 ∧ IxOk x241 n234 a233 ∧ ∃ v267, (∀ (w268 : World), J266 w268 → Ld w268 (adAt a233 x242 (1 : Nat))
  fun v270 => v270 = v267) ∧ opI IntKind.i64 v267 fun x271 => ∃ v272, (∀ (w273 : World), J266 w273 → Ld w273 (adAt a233 x241 (1 : Nat)) fun v275 => v275 = v272) ∧ opI
  IntKind.i64 v272 fun x276 => IxOk x241 n234 a233 ∧ ¬Addr.block (adAt a233 x241 (1 : Nat)) ∈ [n39] ∧ Wr (World.drew w258) (adAt a233 x241 (1 : Nat)) (1 : Nat) ∧ IxOk
  x242 n234 a233 ∧ ¬Addr.block (adAt a233 x242 (1 : Nat)) ∈ [n39] ∧ Wr (setCells (World.drew w258) (adAt a233 x241 (1 : Nat)) (0 : Nat) [Value.int IntKind.i64 x271])
  (adAt a233 x242 (1 : Nat)) (1 : Nat) ∧ J265 [] [] (setCells (setCells (World.drew w258) (adAt a233 x241 (1 : Nat)) (0 : Nat) [Value.int IntKind.i64 x271]) (adAt a233
  x242 (1 : Nat)) (0 : Nat) [Value.int IntKind.i64 x276])) (J251 [Value.int IntKind.i64 x241, Value.int IntKind.i64 x242, Value.int IntKind.i64 x253] [] w258)) w255)
  w240) (NN p0 fun A277 => Ld w240 (Addr.add A277 (3 : Nat)) fun v278 => opL v278 fun a279 n280 n281 => IxOk x193 n280 a279 ∧ ¬Addr.block (adAt a279 x193 (1 : Nat)) ∈
  [n39] ∧ Wr w240 (adAt a279 x193 (1 : Nat)) (1 : Nat) ∧ CallW Try.prog [n39] (231 : Nat) #[Value.pointer p0, Value.int IntKind.i64 x193, Value.int IntKind.i64 x241] (fun
  v282 w283 => opTu v282 fun cs284 => SzIs (Array.size cs284) (0 : Nat) (J191 [Value.int IntKind.i64 x193] [] w283)) (setCells w240 (adAt a279 x193 (1 : Nat)) (0 : Nat)
  [Value.slice a233 n234 n235]))) [Value.int IntKind.i64 (0 : Int), Value.int IntKind.i64 (0 : Int)] [] w232) w221) (J191 [Value.int IntKind.i64 x193] [] (World.drew
  w183))) (J3 [] [] w183)) [Value.int IntKind.i64 (0 : Int)] [] w100)) [Value.slice none (0 : Nat) (0 : Nat), Value.int IntKind.i64 (0 : Int)] [] (World.drew w79)))
  (World.drew (setCells (World.drew w41) (Addr.add A67 (5 : Nat)) (0 : Nat) [Value.slice a64 n65 n66])))) (R (Value.tuple #[]) w4)) [] [] w
theorem f222_eq (p0 : Option Addr) (R : Value → World → Prop) (w : World) : fnW Try.prog [2, 500001, 500002, 100003, 100006, 100009, 100022, 500029] Try.f222
  [Value.pointer p0] R w = f222_vc p0 R w := by kernel_rfl
theorem f222_in (p0 : Option Addr) (R : Value → World → Prop) (w : World) (h : f222_vc p0 R w) : Ct Try.prog 222 #[Value.pointer p0] w R := by
  refine Ct_of (rk := [2, 500001, 500002, 100003, 100006, 100009, 100022, 500029]) (fn := Try.f222) (args := [Value.pointer p0]) mixedT Try.func222 (by kernel_rfl) ?_
  rw [f222_eq]
  exact h
end Fk
set_option linter.unusedVariables false
set_option maxRecDepth 1000000
set_option maxHeartbeats 4000000
namespace Fk
open Go Go.Proofs Go.RowKit
def f221_vc (p0_0 : Int) (p0_1a : Option Addr) (p0_1n : Nat) (p0_1c : Nat) (p0_2a : Option Addr) (p0_2n : Nat) (p0_2c : Nat) (R : Value → World → Prop) (w : World) : Prop
  := Rg w fun n1 => Bd ((p0_2n : Nat) : Int) fun x2 => Jn (fun l3 l4 w5 => opP (nthD l3 (0 : Nat)) fun a6 => RunW Try.prog [n1] (Instr.makeSlice (243 : Nat) (Value.int
  IntKind.i64 p0_0) (Value.int IntKind.i64 p0_0)) (fun v7 w8 => opL v7 fun a9 n10 n11 => NN a6 fun A12 => ¬Addr.block A12 ∈ [n1] ∧ Wr w8 (Addr.add A12 (2 : Nat)) (1 :
  Nat) ∧ NN a6 fun A13 => Ld (setCells w8 (Addr.add A12 (2 : Nat)) (0 : Nat) [Value.slice a9 n10 n11]) (Addr.add A13 (2 : Nat)) fun v14 => opL v14 fun a15 n16 n17 => Bd
  ((n16 : Nat) : Int) fun x18 => LoopP (fun l19 l20 J21 w22 => opI IntKind.i64 (nthD l19 (0 : Nat)) fun x23 => Bd (decide (x23 < x18)) fun b24 => If b24 (Dr (World.drew
  w22) fun J25 => NN a6 fun A26 => Bd (IntKind.wrap IntKind.i64 (x2 + (1 : Int))) fun x27 => ∃ v28, (∀ (w29 : World), J25 w29 → Ld w29 (Addr.add A26 (2 : Nat)) fun v31 =>
  v31 = v28) ∧ opL v28 fun a32 n33 n34 => RunW Try.prog [n1] (Instr.makeSlice (242 : Nat) (Value.int IntKind.i64 x27) (Value.int IntKind.i64 x27)) (fun v35 w36 => opL v35
  fun a37 n38 n39 => J25 w36 ∧ IxOk x23 n33 a32 ∧ ¬Addr.block (adAt a32 x23 (1 : Nat)) ∈ [n1] ∧ Wr w36 (adAt a32 x23 (1 : Nat)) (1 : Nat) ∧ Bd (IntKind.wrap IntKind.i64
  (x23 + (1 : Int))) fun x40 => J21 [Value.int IntKind.i64 x40] [] (setCells w36 (adAt a32 x23 (1 : Nat)) (0 : Nat) [Value.slice a37 n38 n39])) (World.drew w22)) (Nw
  (Obj.map #[] (0 : Nat)) w22 fun n41 w42 => Bd (IntKind.wrap IntKind.i64 (x2 + (1 : Int))) fun x43 => LoopP (fun l44 l45 J46 w47 => opI IntKind.i64 (nthD l44 (0 : Nat))
  fun x48 => Bd (decide (x48 < x43)) fun b49 => If b49 (Dr (World.drew w47) fun J50 => RunW Try.prog [n1] (Instr.makeSlice (52 : Nat) (Value.int IntKind.i64 p0_0)
  (Value.int IntKind.i64 p0_0)) (fun v51 w52 => opL v51 fun a53 n54 n55 => J50 w52 ∧ Jn (fun l56 l57 w58 => opI IntKind.i64 (nthD l56 (0 : Nat)) fun x59 => Bd ((n54 :
  Nat) : Int) fun x60 => LoopP (fun l61 l62 J63 w64 => opI IntKind.i64 (nthD l61 (0 : Nat)) fun x65 => Bd (decide (x65 < x60)) fun b66 => If b66 (IxOk x65 n54 a53 ∧
  ¬Addr.block (adAt a53 x65 (1 : Nat)) ∈ [n1] ∧ Wr w64 (adAt a53 x65 (1 : Nat)) (1 : Nat) ∧ Jn (fun l67 l68 w69 => Dr (World.drew w69) fun J70 => NN a6 fun A71 => IxOk
  x65 n54 a53 ∧ NN a6 fun A72 => IxOk x65 n54 a53 ∧ ∃ v73, (∀ (w74 : World), J70 w74 → Ld w74 (Addr.add A71 (2 : Nat)) fun v76 => v76 = v73) ∧ opL v73 fun a77 n78 n79 =>
  IxOk x65 n78 a77 ∧ ∃ v80, (∀ (w81 : World), J70 w81 → Ld w81 (adAt a77 x65 (1 : Nat)) fun v83 => v83 = v80) ∧ opL v80 fun a84 n85 n86 => ∃ v87, (∀ (w88 : World), J70
  w88 → Ld w88 (adAt a53 x65 (1 : Nat)) fun v90 => v90 = v87) ∧ opI IntKind.i64 v87 fun x91 => ∃ v92, (∀ (w93 : World), J70 w93 → Ld w93 (Addr.add A72 (2 : Nat)) fun v95
  => v95 = v92) ∧ opL v92 fun a96 n97 n98 => IxOk x65 n97 a96 ∧ ∃ v99, (∀ (w100 : World), J70 w100 → Ld w100 (adAt a96 x65 (1 : Nat)) fun v102 => v102 = v99) ∧ opL v99
  fun a103 n104 n105 => ∃ v106, (∀ (w107 : World), J70 w107 → Ld w107 (adAt a53 x65 (1 : Nat)) fun v109 => v109 = v106) ∧ opI IntKind.i64 v106 fun x110 => IxOk x110 n104
  a103 ∧ ∃ v111, (∀ (w112 : World), J70 w112 → Ld w112 (adAt a103 x110 (1 : Nat)) fun v114 => v114 = v111) ∧ opL v111 fun a115 n116 n117 => Nw (Obj.cells #[Value.int
  IntKind.i64 x48] (3 : Nat)) (World.drew w69) fun n118 w119 => J70 w119 ∧ RunW Try.prog [n1] (Builtin.append_ #[(52 : Nat), (52 : Nat)] (52 : Nat) #[Value.slice a115
  n116 n117, Value.slice (some (Addr.mk n118 (0 : Nat) none)) (1 : Nat) (1 : Nat)]) (fun v120 w121 => opL v120 fun a122 n123 n124 => J70 w121 ∧ IxOk x91 n85 a84 ∧
  ¬Addr.block (adAt a84 x91 (1 : Nat)) ∈ [n1] ∧ Wr w121 (adAt a84 x91 (1 : Nat)) (1 : Nat) ∧ Bd (IntKind.wrap IntKind.i64 (x65 + (1 : Int))) fun x125 => J63 [Value.int
  IntKind.i64 x125] [] (setCells w121 (adAt a84 x91 (1 : Nat)) (0 : Nat) [Value.slice a122 n123 n124])) w119) fun J126 => Bd (decide (x48 < x2)) fun b127 => Bd
  (IntKind.wrap IntKind.i64 (x48 * p0_0)) fun x128 => Bd (IntKind.wrap IntKind.i64 (x128 + x65)) fun x129 => (b127 = true → IxOk x129 p0_1n p0_1a) ∧ Gd b127 (0 : Int)
  (fun J131 => Ld (setCells w64 (adAt a53 x65 (1 : Nat)) (0 : Nat) [Value.int IntKind.i64 x2]) (adAt p0_1a x129 (1 : Nat)) fun v132 => opI IntKind.i64 v132 fun x133 =>
  J131 x133 (setCells w64 (adAt a53 x65 (1 : Nat)) (0 : Nat) [Value.int IntKind.i64 x2])) (fun x134 w135 => Bd (decide (x134 ≥ (0 : Int))) fun b136 => Bd (bif b127 then
  b136 else false) fun b137 => If b137 (Bd (IntKind.wrap IntKind.i64 (x48 * p0_0)) fun x138 => Bd (IntKind.wrap IntKind.i64 (x138 + x65)) fun x139 => IxOk x139 p0_1n
  p0_1a ∧ Ld w135 (adAt p0_1a x139 (1 : Nat)) fun v140 => opI IntKind.i64 v140 fun x141 => IxOk x65 n54 a53 ∧ ¬Addr.block (adAt a53 x65 (1 : Nat)) ∈ [n1] ∧ Wr w135 (adAt
  a53 x65 (1 : Nat)) (1 : Nat) ∧ J126 [] [] (setCells w135 (adAt a53 x65 (1 : Nat)) (0 : Nat) [Value.int IntKind.i64 x141])) (J126 [] [] w135)) (setCells w64 (adAt a53
  x65 (1 : Nat)) (0 : Nat) [Value.int IntKind.i64 x2])) (NN a6 fun A142 => Ld w64 (Addr.add A142 (1 : Nat)) fun v143 => opL v143 fun a144 n145 n146 => Nw (Obj.cells
  #[Value.slice a53 n54 n55] (52 : Nat)) w64 fun n147 w148 => RunW Try.prog [n1] (Builtin.append_ #[(242 : Nat), (242 : Nat)] (242 : Nat) #[Value.slice a144 n145 n146,
  Value.slice (some (Addr.mk n147 (0 : Nat) none)) (1 : Nat) (1 : Nat)]) (fun v149 w150 => opL v149 fun a151 n152 n153 => NN a6 fun A154 => ¬Addr.block A154 ∈ [n1] ∧ Wr
  w150 (Addr.add A154 (1 : Nat)) (1 : Nat) ∧ RunW Try.prog [n1] (Instr.lookup (248 : Nat) (Value.map (some n41)) (Value.int IntKind.i64 x59) true) (fun v155 w156 => opTu
  v155 fun cs157 => opI IntKind.i64 (nthD (Array.toList cs157) (0 : Nat)) fun x158 => opB (nthD (Array.toList cs157) (1 : Nat)) fun b159 => SzIs (Array.size cs157) (2 :
  Nat) (Jn (fun l160 l161 w162 => opI IntKind.i64 (nthD l160 (0 : Nat)) fun x163 => Dr (World.drew w162) fun J164 => NN a6 fun A165 => NN a6 fun A166 => NN a6 fun A167 =>
  ∃ v168, (∀ (w169 : World), J164 w169 → Ld w169 (Addr.add A165 (3 : Nat)) fun v171 => v171 = v168) ∧ opL v168 fun a172 n173 n174 => ∃ v175, (∀ (w176 : World), J164 w176
  → Ld w176 (Addr.add A166 (4 : Nat)) fun v178 => v178 = v175) ∧ opL v175 fun a179 n180 n181 => ∃ v182, (∀ (w183 : World), J164 w183 → Ld w183 (Addr.add A167 (3 : Nat))
  fun v185 => v185 = v182) ∧ opL v182 fun a186 n187 n188 => IxOk x163 n187 a186 ∧ ∃ v189, (∀ (w190 : World), J164 w190 → Ld w190 (adAt a186 x163 (1 : Nat)) fun v192 =>
  v192 = v189) ∧ opL v189 fun a193 n194 n195 => Nw (Obj.cells #[Value.int IntKind.i64 x48] (3 : Nat)) (World.drew w162) fun n196 w197 => J164 w197 ∧ RunW Try.prog [n1]
  (Builtin.append_ #[(52 : Nat), (52 : Nat)] (52 : Nat) #[Value.slice a193 n194 n195, Value.slice (some (Addr.mk n196 (0 : Nat) none)) (1 : Nat) (1 : Nat)]) (fun v198
  w199 => opL v198 fun a200 n201 n202 => J164 w199 ∧ IxOk x163 n173 a172 ∧ ¬Addr.block (adAt a172 x163 (1 : Nat)) ∈ [n1] ∧ Wr w199 (adAt a172 x163 (1 : Nat)) (1 : Nat) ∧
  IxOk x48 n180 a179 ∧ ¬Addr.block (adAt a179 x48 (1 : Nat)) ∈ [n1] ∧ Wr (setCells w199 (adAt a172 x163 (1 : Nat)) (0 : Nat) [Value.slice a200 n201 n202]) (adAt a179 x48
  (1 : Nat)) (1 : Nat) ∧ Bd (IntKind.wrap IntKind.i64 (x48 + (1 : Int))) fun x203 => J46 [Value.int IntKind.i64 x203] [] (setCells (setCells w199 (adAt a172 x163 (1 :
  Nat)) (0 : Nat) [Value.slice a200 n201 n202]) (adAt a179 x48 (1 : Nat)) (0 : Nat) [Value.int IntKind.i64 x163])) w197) fun J204 => Bd (!b159) fun b205 => If b205 (NN a6
  fun A206 => Ld w156 (Addr.add A206 (3 : Nat)) fun v207 => opL v207 fun a208 n209 n210 => Bd ((n209 : Nat) : Int) fun x211 => RunU Try.prog [n1] (Instr.mapUpdate (248 :
  Nat) (Value.map (some n41)) (Value.int IntKind.i64 x59) (Value.int IntKind.i64 x211)) (fun w212 => NN a6 fun A213 => Ld w212 (Addr.add A213 (3 : Nat)) fun v214 => opL
  v214 fun a215 n216 n217 => Nw (Obj.cells #[Value.slice none (0 : Nat) (0 : Nat)] (52 : Nat)) w212 fun n218 w219 => RunW Try.prog [n1] (Builtin.append_ #[(242 : Nat),
  (242 : Nat)] (242 : Nat) #[Value.slice a215 n216 n217, Value.slice (some (Addr.mk n218 (0 : Nat) none)) (1 : Nat) (1 : Nat)]) (fun v220 w221 => opL v220 fun a222 n223
  n224 => NN a6 fun A225 => ¬Addr.block A225 ∈ [n1] ∧ Wr w221 (Addr.add A225 (3 : Nat)) (1 : Nat) ∧ J204 [Value.int IntKind.i64 x211] [] (setCells w221 (Addr.add A225 (3
  : Nat)) (0 : Nat) [Value.slice a222 n223 n224])) w219) w156) (J204 [Value.int IntKind.i64 x158] [] w156))) (setCells w150 (Addr.add A154 (1 : Nat)) (0 : Nat)
  [Value.slice a151 n152 n153])) w148)) [Value.int IntKind.i64 (0 : Int)] [] w58) fun J226 => Bd (decide (x48 < x2)) fun b227 => If b227 (IxOk x48 p0_2n p0_2a ∧ Ld w52
  (adAt p0_2a x48 (1 : Nat)) fun v228 => opI IntKind.i64 v228 fun x229 => J226 [Value.int IntKind.i64 x229] [] w52) (J226 [Value.int IntKind.i64 (-1 : Int)] [] w52))
  (World.drew w47)) (NN a6 fun A230 => Ld w47 (Addr.add A230 (3 : Nat)) fun v231 => opL v231 fun a232 n233 n234 => Bd ((n233 : Nat) : Int) fun x235 => LoopP (fun l236
  l237 J238 w239 => opI IntKind.i64 (nthD l236 (0 : Nat)) fun x240 => Bd (decide (x240 < x235)) fun b241 => If b241 (CallW Try.prog [n1] (230 : Nat) #[Value.pointer a6,
  Value.int IntKind.i64 x240] (fun v242 w243 => opTu v242 fun cs244 => SzIs (Array.size cs244) (0 : Nat) (Bd (IntKind.wrap IntKind.i64 (x240 + (1 : Int))) fun x245 =>
  J238 [Value.int IntKind.i64 x245] [] w243)) w239) (R (Value.pointer a6) w239)) [Value.int IntKind.i64 (0 : Int)] [] w47)) [Value.int IntKind.i64 (0 : Int)] [] w42))
  [Value.int IntKind.i64 (0 : Int)] [] (setCells w8 (Addr.add A12 (2 : Nat)) (0 : Nat) [Value.slice a9 n10 n11])) w5) fun J246 => Up [] [n1] w fun w247 => Dr (World.drew
  w247) fun J248 => Bd (IntKind.wrap IntKind.i64 (x2 + (1 : Int))) fun x249 => RunW Try.prog [n1] (Instr.makeSlice (52 : Nat) (Value.int IntKind.i64 x249) (Value.int
  IntKind.i64 x249)) (fun v250 w251 => opL v250 fun a252 n253 n254 => J248 w251 ∧ Nw (Obj.map #[] (0 : Nat)) w251 fun n255 w256 => J248 w256 ∧ Nw (Obj.cells #[Value.int
  IntKind.i64 p0_0, Value.slice none (0 : Nat) (0 : Nat), Value.slice none (0 : Nat) (0 : Nat), Value.slice none (0 : Nat) (0 : Nat), Value.slice a252 n253 n254,
  Value.slice none (0 : Nat) (0 : Nat), Value.map (some n255)] (247 : Nat)) w256 fun n257 w258 => J248 w258 ∧ J246 [Value.pointer (some (Addr.mk n257 (0 : Nat) none))] []
  w258) (World.drew w247) ∧ Nw (Obj.map #[] (0 : Nat)) (World.drew w247) fun n259 w260 => J248 w260 ∧ RunW Try.prog [n1] (Instr.makeSlice (52 : Nat) (Value.int
  IntKind.i64 x249) (Value.int IntKind.i64 x249)) (fun v261 w262 => opL v261 fun a263 n264 n265 => J248 w262 ∧ Nw (Obj.cells #[Value.int IntKind.i64 p0_0, Value.slice
  none (0 : Nat) (0 : Nat), Value.slice none (0 : Nat) (0 : Nat), Value.slice none (0 : Nat) (0 : Nat), Value.slice a263 n264 n265, Value.slice none (0 : Nat) (0 : Nat),
  Value.map (some n259)] (247 : Nat)) w262 fun n266 w267 => J248 w267 ∧ J246 [Value.pointer (some (Addr.mk n266 (0 : Nat) none))] [] w267) w260
theorem f221_eq (p0_0 : Int) (p0_1a : Option Addr) (p0_1n : Nat) (p0_1c : Nat) (p0_2a : Option Addr) (p0_2n : Nat) (p0_2c : Nat) (R : Value → World → Prop) (w : World) :
  fnW Try.prog [1, 100002, 500007, 100013, 500022, 500030] Try.f221 [Value.agg #[Value.int IntKind.i64 p0_0, Value.slice p0_1a p0_1n p0_1c, Value.slice p0_2a p0_2n
  p0_2c]] R w = f221_vc p0_0 p0_1a p0_1n p0_1c p0_2a p0_2n p0_2c R w := by kernel_rfl
theorem f221_in (p0_0 : Int) (p0_1a : Option Addr) (p0_1n : Nat) (p0_1c : Nat) (p0_2a : Option Addr) (p0_2n : Nat) (p0_2c : Nat) (R : Value → World → Prop) (w : World) (h
  : f221_vc p0_0 p0_1a p0_1n p0_1c p0_2a p0_2n p0_2c R w) : Ct Try.prog 221 #[Value.agg #[Value.int IntKind.i64 p0_0, Value.slice p0_1a p0_1n p0_1c, Value.slice p0_2a
  p0_2n p0_2c]] w R := by
  refine Ct_of (rk := [1, 100002, 500007, 100013, 500022, 500030]) (fn := Try.f221) (args := [Value.agg #[Value.int IntKind.i64 p0_0, Value.slice p0_1a p0_1n p0_1c, Value.slice p0_2a p0_2n p0_2c]]) mixedT Try.func221 (by kernel_rfl) ?_
  rw [f221_eq]
  exact h
end Fk
set_option linter.unusedVariables false
set_option maxRecDepth 1000000
set_option maxHeartbeats 4000000
namespace Fk
open Go Go.Proofs Go.RowKit
def f92_vc (p0_0 : Int) (p0_1a : Option Addr) (p0_1n : Nat) (p0_1c : Nat) (p0_2a : Option Addr) (p0_2n : Nat) (p0_2c : Nat) (R : Value → World → Prop) (w : World) : Prop
  := Rg w fun n1 => Rg w fun n2 => Up [] [n2, n1] w fun w3 => CallW Try.prog [n2, n1] (72 : Nat) #[Value.agg #[Value.int IntKind.i64 p0_0, Value.slice p0_1a p0_1n p0_1c,
  Value.slice p0_2a p0_2n p0_2c]] (fun v4 w5 => opB v4 fun b6 => Bd (!b6) fun b7 => If b7 (Up [n2] [n2, n1] w5 fun w8 => R (Value.tuple #[Value.agg #[Value.int
  IntKind.i64 (0 : Int), Value.slice none (0 : Nat) (0 : Nat), Value.slice none (0 : Nat) (0 : Nat)], Value.int IntKind.i64 (2 : Int)]) w8) (CallW Try.prog [n2, n1] (188
  : Nat) #[Value.agg #[Value.int IntKind.i64 p0_0, Value.slice p0_1a p0_1n p0_1c, Value.slice p0_2a p0_2n p0_2c]] (fun v9 w10 => opP v9 fun a11 => Dr (World.drew w10) fun
  J12 => NN a11 fun A13 => ∃ v14, (∀ (w15 : World), J12 w15 → Ld w15 (Addr.add A13 (4 : Nat)) fun v17 => v17 = v14) ∧ opL v14 fun a18 n19 n20 => Bd ((p0_2n : Nat) : Int)
  fun x21 => IxOk x21 n19 a18 ∧ ∃ v22, (∀ (w23 : World), J12 w23 → Ld w23 (adAt a18 x21 (1 : Nat)) fun v25 => v25 = v22) ∧ opI IntKind.i64 v22 fun x26 => Nw (Obj.map #[]
  (0 : Nat)) (World.drew w10) fun n27 w28 => NN a11 fun A29 => Ld w28 (Addr.add A29 (4 : Nat)) fun v30 => opL v30 fun a31 n32 n33 => IxOk (0 : Int) n32 a31 ∧ Ld w28 (adAt
  a31 (0 : Int) (1 : Nat)) fun v34 => opI IntKind.i64 v34 fun x35 => RunU Try.prog [n2, n1] (Instr.mapUpdate (248 : Nat) (Value.map (some n27)) (Value.int IntKind.i64
  x35) (Value.int IntKind.i64 (0 : Int))) (fun w36 => Nw (Obj.cells #[Value.int IntKind.i64 (0 : Int)] (3 : Nat)) w36 fun n37 w38 => Rg w38 fun n39 => Up [n39] [n39, n2,
  n1] w38 fun w40 => LoopP (fun l41 l42 J43 w44 => opL (nthD l41 (0 : Nat)) fun a45 n46 n47 => opI IntKind.i64 (nthD l41 (1 : Nat)) fun x48 => opAg (nthD l42 (0 : Nat))
  fun cs49 => opI IntKind.i64 (nthD (Array.toList cs49) (0 : Nat)) fun x50 => opL (nthD (Array.toList cs49) (1 : Nat)) fun a51 n52 n53 => opL (nthD (Array.toList cs49) (2
  : Nat)) fun a54 n55 n56 => SzIs (Array.size cs49) (3 : Nat) (Bd ((n46 : Nat) : Int) fun x57 => Bd (decide (x48 < x57)) fun b58 => If b58 (IxOk x48 n46 a45 ∧ Ld w44
  (adAt a45 x48 (1 : Nat)) fun v59 => opI IntKind.i64 v59 fun x60 => Jn (fun l61 l62 w63 => opAg (nthD l62 (0 : Nat)) fun cs64 => opI IntKind.i64 (nthD (Array.toList
  cs64) (0 : Nat)) fun x65 => opL (nthD (Array.toList cs64) (1 : Nat)) fun a66 n67 n68 => opL (nthD (Array.toList cs64) (2 : Nat)) fun a69 n70 n71 => SzIs (Array.size
  cs64) (3 : Nat) (NN a11 fun A72 => Ld w63 (Addr.add A72 (1 : Nat)) fun v73 => opL v73 fun a74 n75 n76 => IxOk x60 n75 a74 ∧ Ld w63 (adAt a74 x60 (1 : Nat)) fun v77 =>
  opL v77 fun a78 n79 n80 => Bd ((n79 : Nat) : Int) fun x81 => LoopP (fun l82 l83 J84 w85 => opL (nthD l82 (0 : Nat)) fun a86 n87 n88 => opI IntKind.i64 (nthD l82 (1 :
  Nat)) fun x89 => opAg (nthD l83 (0 : Nat)) fun cs90 => opI IntKind.i64 (nthD (Array.toList cs90) (0 : Nat)) fun x91 => opL (nthD (Array.toList cs90) (1 : Nat)) fun a92
  n93 n94 => opL (nthD (Array.toList cs90) (2 : Nat)) fun a95 n96 n97 => SzIs (Array.size cs90) (3 : Nat) (Bd (decide (x89 < x81)) fun b98 => If b98 (Jn (fun l99 l100
  w101 => opL (nthD l99 (0 : Nat)) fun a102 n103 n104 => opAg (nthD l100 (0 : Nat)) fun cs105 => opI IntKind.i64 (nthD (Array.toList cs105) (0 : Nat)) fun x106 => opL
  (nthD (Array.toList cs105) (1 : Nat)) fun a107 n108 n109 => opL (nthD (Array.toList cs105) (2 : Nat)) fun a110 n111 n112 => SzIs (Array.size cs105) (3 : Nat) (Bd
  (IntKind.wrap IntKind.i64 (x89 + (1 : Int))) fun x113 => J84 [Value.slice a102 n103 n104, Value.int IntKind.i64 x113] [Value.agg #[Value.int IntKind.i64 x106,
  Value.slice a107 n108 n109, Value.slice a110 n111 n112]] w101)) fun J114 => IxOk x89 n79 a78 ∧ Ld w85 (adAt a78 x89 (1 : Nat)) fun v115 => opI IntKind.i64 v115 fun x116
  => NN a11 fun A117 => Ld w85 (Addr.add A117 (4 : Nat)) fun v118 => opL v118 fun a119 n120 n121 => IxOk x116 n120 a119 ∧ Ld w85 (adAt a119 x116 (1 : Nat)) fun v122 =>
  opI IntKind.i64 v122 fun x123 => Bd (x123 == x26) fun b124 => If b124 (Nw (Obj.cells #[Value.int IntKind.i64 (-1 : Int)] (3 : Nat)) w85 fun n125 w126 => RunW Try.prog
  [n39, n2, n1] (Builtin.append_ #[(52 : Nat), (52 : Nat)] (52 : Nat) #[Value.slice a92 n93 n94, Value.slice (some (Addr.mk n125 (0 : Nat) none)) (1 : Nat) (1 : Nat)])
  (fun v127 w128 => opL v127 fun a129 n130 n131 => Up [n39] [n39, n2, n1] w128 fun w132 => J114 [Value.slice a86 n87 n88] [Value.agg #[Value.int IntKind.i64 x91,
  Value.slice a129 n130 n131, Value.slice a95 n96 n97]] w132) w126) (NN a11 fun A133 => Ld w85 (Addr.add A133 (4 : Nat)) fun v134 => opL v134 fun a135 n136 n137 => IxOk
  x116 n136 a135 ∧ Ld w85 (adAt a135 x116 (1 : Nat)) fun v138 => opI IntKind.i64 v138 fun x139 => RunW Try.prog [n39, n2, n1] (Instr.lookup (248 : Nat) (Value.map (some
  n27)) (Value.int IntKind.i64 x139) true) (fun v140 w141 => opTu v140 fun cs142 => opI IntKind.i64 (nthD (Array.toList cs142) (0 : Nat)) fun x143 => opB (nthD
  (Array.toList cs142) (1 : Nat)) fun b144 => SzIs (Array.size cs142) (2 : Nat) (Jn (fun l145 l146 w147 => opI IntKind.i64 (nthD l145 (0 : Nat)) fun x148 => opL (nthD
  l145 (1 : Nat)) fun a149 n150 n151 => Nw (Obj.cells #[Value.int IntKind.i64 x148] (3 : Nat)) w147 fun n152 w153 => RunW Try.prog [n39, n2, n1] (Builtin.append_ #[(52 :
  Nat), (52 : Nat)] (52 : Nat) #[Value.slice a92 n93 n94, Value.slice (some (Addr.mk n152 (0 : Nat) none)) (1 : Nat) (1 : Nat)]) (fun v154 w155 => opL v154 fun a156 n157
  n158 => Up [n39] [n39, n2, n1] w155 fun w159 => J114 [Value.slice a149 n150 n151] [Value.agg #[Value.int IntKind.i64 x91, Value.slice a156 n157 n158, Value.slice a95
  n96 n97]] w159) w153) fun J160 => Bd (!b144) fun b161 => If b161 (Bd ((n87 : Nat) : Int) fun x162 => NN a11 fun A163 => Ld w141 (Addr.add A163 (4 : Nat)) fun v164 =>
  opL v164 fun a165 n166 n167 => IxOk x116 n166 a165 ∧ Ld w141 (adAt a165 x116 (1 : Nat)) fun v168 => opI IntKind.i64 v168 fun x169 => RunU Try.prog [n39, n2, n1]
  (Instr.mapUpdate (248 : Nat) (Value.map (some n27)) (Value.int IntKind.i64 x169) (Value.int IntKind.i64 x162)) (fun w170 => Nw (Obj.cells #[Value.int IntKind.i64 x116]
  (3 : Nat)) w170 fun n171 w172 => RunW Try.prog [n39, n2, n1] (Builtin.append_ #[(52 : Nat), (52 : Nat)] (52 : Nat) #[Value.slice a86 n87 n88, Value.slice (some (Addr.mk
  n171 (0 : Nat) none)) (1 : Nat) (1 : Nat)]) (fun v173 w174 => opL v173 fun a175 n176 n177 => J160 [Value.int IntKind.i64 x162, Value.slice a175 n176 n177] [] w174)
  w172) w141) (J160 [Value.int IntKind.i64 x143, Value.slice a86 n87 n88] [] w141))) w85)) (Bd (IntKind.wrap IntKind.i64 (x48 + (1 : Int))) fun x178 => J43 [Value.slice
  a86 n87 n88, Value.int IntKind.i64 x178] [Value.agg #[Value.int IntKind.i64 x91, Value.slice a92 n93 n94, Value.slice a95 n96 n97]] w85))) [Value.slice a45 n46 n47,
  Value.int IntKind.i64 (0 : Int)] [Value.agg #[Value.int IntKind.i64 x65, Value.slice a66 n67 n68, Value.slice a69 n70 n71]] w63)) fun J179 => Dr (World.drew w44) fun
  J180 => IxOk x60 p0_2n p0_2a ∧ ∃ v181, (∀ (w182 : World), J180 w182 → Ld w182 (adAt p0_2a x60 (1 : Nat)) fun v184 => v184 = v181) ∧ opI IntKind.i64 v181 fun x185 =>
  (J180 (World.drew w44) ∧ Nw (Obj.cells #[Value.int IntKind.i64 x185] (3 : Nat)) (World.drew w44) fun n186 w187 => J180 w187 ∧ RunW Try.prog [n39, n2, n1]
  (Builtin.append_ #[(52 : Nat), (52 : Nat)] (52 : Nat) #[Value.slice a54 n55 n56, Value.slice (some (Addr.mk n186 (0 : Nat) none)) (1 : Nat) (1 : Nat)]) (fun v188 w189
  => opL v188 fun a190 n191 n192 => J180 w189 ∧ Up [n39] [n39, n2, n1] w189 fun w193 => J179 [] [Value.agg #[Value.int IntKind.i64 x50, Value.slice a51 n52 n53,
  Value.slice a190 n191 n192]] w193) w187) ∧ Nw (Obj.cells #[Value.int IntKind.i64 x185] (3 : Nat)) (World.drew w44) fun n194 w195 => J180 w195 ∧ J180 w195 ∧ RunW
  Try.prog [n39, n2, n1] (Builtin.append_ #[(52 : Nat), (52 : Nat)] (52 : Nat) #[Value.slice a54 n55 n56, Value.slice (some (Addr.mk n194 (0 : Nat) none)) (1 : Nat) (1 :
  Nat)]) (fun v196 w197 => opL v196 fun a198 n199 n200 => J180 w197 ∧ Up [n39] [n39, n2, n1] w197 fun w201 => J179 [] [Value.agg #[Value.int IntKind.i64 x50, Value.slice
  a51 n52 n53, Value.slice a198 n199 n200]] w201) w195) (Up [n2] [n39, n2, n1] w44 fun w202 => R (Value.tuple #[Value.agg #[Value.int IntKind.i64 x50, Value.slice a51 n52
  n53, Value.slice a54 n55 n56], Value.int IntKind.i64 (0 : Int)]) w202))) [Value.slice (some (Addr.mk n37 (0 : Nat) none)) (1 : Nat) (1 : Nat), Value.int IntKind.i64 (0
  : Int)] [Value.agg #[Value.int IntKind.i64 p0_0, Value.slice none (0 : Nat) (0 : Nat), Value.slice none (0 : Nat) (0 : Nat)]] w40) w28) w5)) w3
theorem f92_eq (p0_0 : Int) (p0_1a : Option Addr) (p0_1n : Nat) (p0_1c : Nat) (p0_2a : Option Addr) (p0_2n : Nat) (p0_2c : Nat) (R : Value → World → Prop) (w : World) :
  fnW Try.prog [1, 2, 7, 100004, 500011] Try.f92 [Value.agg #[Value.int IntKind.i64 p0_0, Value.slice p0_1a p0_1n p0_1c, Value.slice p0_2a p0_2n p0_2c]] R w = f92_vc p0_0
  p0_1a p0_1n p0_1c p0_2a p0_2n p0_2c R w := by kernel_rfl
theorem f92_in (p0_0 : Int) (p0_1a : Option Addr) (p0_1n : Nat) (p0_1c : Nat) (p0_2a : Option Addr) (p0_2n : Nat) (p0_2c : Nat) (R : Value → World → Prop) (w : World) (h
  : f92_vc p0_0 p0_1a p0_1n p0_1c p0_2a p0_2n p0_2c R w) : Ct Try.prog 92 #[Value.agg #[Value.int IntKind.i64 p0_0, Value.slice p0_1a p0_1n p0_1c, Value.slice p0_2a p0_2n
  p0_2c]] w R := by
  refine Ct_of (rk := [1, 2, 7, 100004, 500011]) (fn := Try.f92) (args := [Value.agg #[Value.int IntKind.i64 p0_0, Value.slice p0_1a p0_1n p0_1c, Value.slice p0_2a p0_2n p0_2c]]) mixedT Try.func92 (by kernel_rfl) ?_
  rw [f92_eq]
  exact h
def f94_vc (p0_0 : Int) (p0_1a : Option Addr) (p0_1n : Nat) (p0_1c : Nat) (p0_2a : Option Addr) (p0_2n : Nat) (p0_2c : Nat) (p1 : Int) (p2 : Int) (R : Value → World →
  Prop) (w : World) : Prop := Rg w fun n1 => Bd ((p0_2n : Nat) : Int) fun x2 => Up [] [n1] w fun w3 => CallW Try.prog [n1] (72 : Nat) #[Value.agg #[Value.int IntKind.i64
  p0_0, Value.slice p0_1a p0_1n p0_1c, Value.slice p0_2a p0_2n p0_2c]] (fun v4 w5 => opB v4 fun b6 => Bd (!b6) fun b7 => Bd (decide (p1 < (-1 : Int))) fun b8 => Bd (bif
  b7 then true else b8) fun b9 => Bd (decide (p1 ≥ x2)) fun b10 => Bd (bif b9 then true else b10) fun b11 => Bd (decide (p2 < (-1 : Int))) fun b12 => Bd (bif b11 then
  true else b12) fun b13 => Bd (decide (p2 ≥ x2)) fun b14 => Bd (bif b13 then true else b14) fun b15 => If b15 (R (Value.tuple #[Value.bool false, Value.int IntKind.i64
  (2 : Int)]) w5) (CallW Try.prog [n1] (188 : Nat) #[Value.agg #[Value.int IntKind.i64 p0_0, Value.slice p0_1a p0_1n p0_1c, Value.slice p0_2a p0_2n p0_2c]] (fun v16 w17
  => opP v16 fun a18 => Jn (fun l19 l20 w21 => opI IntKind.i64 (nthD l19 (0 : Nat)) fun x22 => Jn (fun l23 l24 w25 => opI IntKind.i64 (nthD l23 (0 : Nat)) fun x26 => Dr
  (World.drew w25) fun J27 => NN a18 fun A28 => ∃ v29, (∀ (w30 : World), J27 w30 → Ld w30 (Addr.add A28 (4 : Nat)) fun v32 => v32 = v29) ∧ opL v29 fun a33 n34 n35 => IxOk
  x22 n34 a33 ∧ ∃ v36, (∀ (w37 : World), J27 w37 → Ld w37 (adAt a33 x22 (1 : Nat)) fun v39 => v39 = v36) ∧ opI IntKind.i64 v36 fun x40 => NN a18 fun A41 => ∃ v42, (∀ (w43
  : World), J27 w43 → Ld w43 (Addr.add A41 (4 : Nat)) fun v45 => v45 = v42) ∧ opL v42 fun a46 n47 n48 => IxOk x26 n47 a46 ∧ ∃ v49, (∀ (w50 : World), J27 w50 → Ld w50
  (adAt a46 x26 (1 : Nat)) fun v52 => v52 = v49) ∧ opI IntKind.i64 v49 fun x53 => Bd (x40 == x53) fun b54 => R (Value.tuple #[Value.bool b54, Value.int IntKind.i64 (0 :
  Int)]) (World.drew w25)) fun J55 => Bd (decide (p2 < (0 : Int))) fun b56 => If b56 (J55 [Value.int IntKind.i64 x2] [] w21) (J55 [Value.int IntKind.i64 p2] [] w21)) fun
  J57 => Bd (decide (p1 < (0 : Int))) fun b58 => If b58 (J57 [Value.int IntKind.i64 x2] [] w17) (J57 [Value.int IntKind.i64 p1] [] w17)) w5)) w3
theorem f94_eq (p0_0 : Int) (p0_1a : Option Addr) (p0_1n : Nat) (p0_1c : Nat) (p0_2a : Option Addr) (p0_2n : Nat) (p0_2c : Nat) (p1 : Int) (p2 : Int) (R : Value → World →
  Prop) (w : World) : fnW Try.prog [3, 100009] Try.f94 [Value.agg #[Value.int IntKind.i64 p0_0, Value.slice p0_1a p0_1n p0_1c, Value.slice p0_2a p0_2n p0_2c], Value.int
  IntKind.i64 p1, Value.int IntKind.i64 p2] R w = f94_vc p0_0 p0_1a p0_1n p0_1c p0_2a p0_2n p0_2c p1 p2 R w := by kernel_rfl
theorem f94_in (p0_0 : Int) (p0_1a : Option Addr) (p0_1n : Nat) (p0_1c : Nat) (p0_2a : Option Addr) (p0_2n : Nat) (p0_2c : Nat) (p1 : Int) (p2 : Int) (R : Value → World →
  Prop) (w : World) (h : f94_vc p0_0 p0_1a p0_1n p0_1c p0_2a p0_2n p0_2c p1 p2 R w) : Ct Try.prog 94 #[Value.agg #[Value.int IntKind.i64 p0_0, Value.slice p0_1a p0_1n
  p0_1c, Value.slice p0_2a p0_2n p0_2c], Value.int IntKind.i64 p1, Value.int IntKind.i64 p2] w R := by
  refine Ct_of (rk := [3, 100009]) (fn := Try.f94) (args := [Value.agg #[Value.int IntKind.i64 p0_0, Value.slice p0_1a p0_1n p0_1c, Value.slice p0_2a p0_2n p0_2c], Value.int IntKind.i64 p1, Value.int IntKind.i64 p2]) mixedT Try.func94 (by kernel_rfl) ?_
  rw [f94_eq]
  exact h
end Fk
set_option linter.unusedVariables false
set_option maxRecDepth 1000000
set_option maxHeartbeats 4000000
namespace Fk
open Go Go.Proofs Go.RowKit
def f91_vc (R : Value → World → Prop) (w : World) : Prop := Nw (Obj.cells #[Value.int IntKind.i64 (1 : Int), Value.int IntKind.i64 (2 : Int), Value.int IntKind.i64 (2 :
  Int)] (3 : Nat)) w fun n1 w2 => Nw (Obj.cells #[Value.int IntKind.i64 (0 : Int), Value.int IntKind.i64 (0 : Int), Value.int IntKind.i64 (0 : Int)] (3 : Nat)) w2 fun n3
  w4 => Nw (Obj.cells #[Value.int IntKind.i64 (0 : Int)] (3 : Nat)) w4 fun n5 w6 => Nw (Obj.cells #[Value.int IntKind.i64 (0 : Int)] (3 : Nat)) w6 fun n7 w8 => CallW
  Try.prog [] (187 : Nat) #[Value.agg #[Value.int IntKind.i64 (1 : Int), Value.slice (some (Addr.mk n1 (0 : Nat) none)) (3 : Nat) (3 : Nat), Value.slice (some (Addr.mk n3
  (0 : Nat) none)) (3 : Nat) (3 : Nat)], Value.agg #[Value.int IntKind.i64 (1 : Int), Value.slice (some (Addr.mk n5 (0 : Nat) none)) (1 : Nat) (1 : Nat), Value.slice
  (some (Addr.mk n7 (0 : Nat) none)) (1 : Nat) (1 : Nat)]] (fun v9 w10 => opB v9 fun b11 => Nw (Obj.cells #[Value.int IntKind.i64 (1 : Int), Value.int IntKind.i64 (2 :
  Int), Value.int IntKind.i64 (1 : Int), Value.int IntKind.i64 (2 : Int), Value.int IntKind.i64 (1 : Int), Value.int IntKind.i64 (2 : Int)] (3 : Nat)) w10 fun n12 w13 =>
  Nw (Obj.cells #[Value.int IntKind.i64 (-1 : Int), Value.int IntKind.i64 (0 : Int), Value.int IntKind.i64 (0 : Int)] (3 : Nat)) w13 fun n14 w15 => Nw (Obj.cells
  #[Value.int IntKind.i64 (1 : Int), Value.int IntKind.i64 (1 : Int), Value.int IntKind.i64 (1 : Int), Value.int IntKind.i64 (1 : Int)] (3 : Nat)) w15 fun n16 w17 => Nw
  (Obj.cells #[Value.int IntKind.i64 (-1 : Int), Value.int IntKind.i64 (0 : Int)] (3 : Nat)) w17 fun n18 w19 => CallW Try.prog [] (187 : Nat) #[Value.agg #[Value.int
  IntKind.i64 (2 : Int), Value.slice (some (Addr.mk n12 (0 : Nat) none)) (6 : Nat) (6 : Nat), Value.slice (some (Addr.mk n14 (0 : Nat) none)) (3 : Nat) (3 : Nat)],
  Value.agg #[Value.int IntKind.i64 (2 : Int), Value.slice (some (Addr.mk n16 (0 : Nat) none)) (4 : Nat) (4 : Nat), Value.slice (some (Addr.mk n18 (0 : Nat) none)) (2 :
  Nat) (2 : Nat)]] (fun v20 w21 => opB v20 fun b22 => Nw (Obj.cells #[Value.int IntKind.i64 (0 : Int), Value.int IntKind.i64 (0 : Int)] (3 : Nat)) w21 fun n23 w24 => Nw
  (Obj.cells #[Value.int IntKind.i64 (-1 : Int)] (3 : Nat)) w24 fun n25 w26 => Nw (Obj.cells #[Value.int IntKind.i64 (-1 : Int), Value.int IntKind.i64 (-1 : Int)] (3 :
  Nat)) w26 fun n27 w28 => Nw (Obj.cells #[Value.int IntKind.i64 (-1 : Int)] (3 : Nat)) w28 fun n29 w30 => CallW Try.prog [] (187 : Nat) #[Value.agg #[Value.int
  IntKind.i64 (2 : Int), Value.slice (some (Addr.mk n23 (0 : Nat) none)) (2 : Nat) (2 : Nat), Value.slice (some (Addr.mk n25 (0 : Nat) none)) (1 : Nat) (1 : Nat)],
  Value.agg #[Value.int IntKind.i64 (2 : Int), Value.slice (some (Addr.mk n27 (0 : Nat) none)) (2 : Nat) (2 : Nat), Value.slice (some (Addr.mk n29 (0 : Nat) none)) (1 :
  Nat) (1 : Nat)]] (fun v31 w32 => opB v31 fun b33 => CallW Try.prog [] (92 : Nat) #[Value.agg #[Value.int IntKind.i64 (0 : Int), Value.slice none (0 : Nat) (0 : Nat),
  Value.slice none (0 : Nat) (0 : Nat)]] (fun v34 w35 => opTu v34 fun cs36 => opAg (nthD (Array.toList cs36) (0 : Nat)) fun cs37 => opI IntKind.i64 (nthD (Array.toList
  cs37) (0 : Nat)) fun x38 => opL (nthD (Array.toList cs37) (1 : Nat)) fun a39 n40 n41 => opL (nthD (Array.toList cs37) (2 : Nat)) fun a42 n43 n44 => SzIs (Array.size
  cs37) (3 : Nat) (opI IntKind.i64 (nthD (Array.toList cs36) (1 : Nat)) fun x45 => SzIs (Array.size cs36) (2 : Nat) (Rg w35 fun n46 => Bd (bif b11 then b22 else false)
  fun b47 => Bd (bif b47 then b33 else false) fun b48 => Bd (x45 == (2 : Int)) fun b49 => Bd (bif b48 then b49 else false) fun b50 => Up [n46] [n46] w35 fun w51 => R
  (Value.bool b50) w51))) w32) w30) w19) w8
theorem f91_eq (R : Value → World → Prop) (w : World) : fnW Try.prog [4] Try.f91 [] R w = f91_vc R w := by kernel_rfl
theorem f91_in (R : Value → World → Prop) (w : World) (h : f91_vc R w) : Ct Try.prog 91 #[] w R := by
  refine Ct_of (rk := [4]) (fn := Try.f91) (args := []) mixedT Try.func91 (by kernel_rfl) ?_
  rw [f91_eq]
  exact h
def f187_vc (p0_0 : Int) (p0_1a : Option Addr) (p0_1n : Nat) (p0_1c : Nat) (p0_2a : Option Addr) (p0_2n : Nat) (p0_2c : Nat) (p1_0 : Int) (p1_1a : Option Addr) (p1_1n :
  Nat) (p1_1c : Nat) (p1_2a : Option Addr) (p1_2n : Nat) (p1_2c : Nat) (R : Value → World → Prop) (w : World) : Prop := Rg w fun n1 => Rg w fun n2 => Up [] [n2, n1] w fun
  w3 => CallW Try.prog [n2, n1] (92 : Nat) #[Value.agg #[Value.int IntKind.i64 p0_0, Value.slice p0_1a p0_1n p0_1c, Value.slice p0_2a p0_2n p0_2c]] (fun v4 w5 => opTu v4
  fun cs6 => opAg (nthD (Array.toList cs6) (0 : Nat)) fun cs7 => opI IntKind.i64 (nthD (Array.toList cs7) (0 : Nat)) fun x8 => opL (nthD (Array.toList cs7) (1 : Nat)) fun
  a9 n10 n11 => opL (nthD (Array.toList cs7) (2 : Nat)) fun a12 n13 n14 => SzIs (Array.size cs7) (3 : Nat) (opI IntKind.i64 (nthD (Array.toList cs6) (1 : Nat)) fun x15 =>
  SzIs (Array.size cs6) (2 : Nat) (Rg w5 fun n16 => Bd (x15 == (0 : Int)) fun b17 => Up [n16] [n16, n2, n1] w5 fun w18 => Gd b17 false (fun J19 => CallW Try.prog [n16,
  n2, n1] (96 : Nat) #[Value.agg #[Value.int IntKind.i64 x8, Value.slice a9 n10 n11, Value.slice a12 n13 n14], Value.agg #[Value.int IntKind.i64 p1_0, Value.slice p1_1a
  p1_1n p1_1c, Value.slice p1_2a p1_2n p1_2c]] (fun v20 w21 => opB v20 fun b22 => J19 b22 w21) w18) (fun b23 w24 => Bd (bif b17 then b23 else false) fun b25 => R
  (Value.bool b25) w24) w18))) w3
theorem f187_eq (p0_0 : Int) (p0_1a : Option Addr) (p0_1n : Nat) (p0_1c : Nat) (p0_2a : Option Addr) (p0_2n : Nat) (p0_2c : Nat) (p1_0 : Int) (p1_1a : Option Addr) (p1_1n
  : Nat) (p1_1c : Nat) (p1_2a : Option Addr) (p1_2n : Nat) (p1_2c : Nat) (R : Value → World → Prop) (w : World) : fnW Try.prog [2, 3, 5] Try.f187 [Value.agg #[Value.int
  IntKind.i64 p0_0, Value.slice p0_1a p0_1n p0_1c, Value.slice p0_2a p0_2n p0_2c], Value.agg #[Value.int IntKind.i64 p1_0, Value.slice p1_1a p1_1n p1_1c, Value.slice
  p1_2a p1_2n p1_2c]] R w = f187_vc p0_0 p0_1a p0_1n p0_1c p0_2a p0_2n p0_2c p1_0 p1_1a p1_1n p1_1c p1_2a p1_2n p1_2c R w := by kernel_rfl
theorem f187_in (p0_0 : Int) (p0_1a : Option Addr) (p0_1n : Nat) (p0_1c : Nat) (p0_2a : Option Addr) (p0_2n : Nat) (p0_2c : Nat) (p1_0 : Int) (p1_1a : Option Addr) (p1_1n
  : Nat) (p1_1c : Nat) (p1_2a : Option Addr) (p1_2n : Nat) (p1_2c : Nat) (R : Value → World → Prop) (w : World) (h : f187_vc p0_0 p0_1a p0_1n p0_1c p0_2a p0_2n p0_2c p1_0
  p1_1a p1_1n p1_1c p1_2a p1_2n p1_2c R w) : Ct Try.prog 187 #[Value.agg #[Value.int IntKind.i64 p0_0, Value.slice p0_1a p0_1n p0_1c, Value.slice p0_2a p0_2n p0_2c],
  Value.agg #[Value.int IntKind.i64 p1_0, Value.slice p1_1a p1_1n p1_1c, Value.slice p1_2a p1_2n p1_2c]] w R := by
  refine Ct_of (rk := [2, 3, 5]) (fn := Try.f187) (args := [Value.agg #[Value.int IntKind.i64 p0_0, Value.slice p0_1a p0_1n p0_1c, Value.slice p0_2a p0_2n p0_2c], Value.agg #[Value.int IntKind.i64 p1_0, Value.slice p1_1a p1_1n p1_1c, Value.slice p1_2a p1_2n p1_2c]]) mixedT Try.func187 (by kernel_rfl) ?_
  rw [f187_eq]
  exact h
end Fk
