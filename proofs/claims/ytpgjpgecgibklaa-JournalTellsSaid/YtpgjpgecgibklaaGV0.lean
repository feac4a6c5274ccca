/- Conditions of functions, as the generator works them out; each one is checked by the kernel. -/
import Derived.Test.YtpgjpgecgibklaaGK2
set_option linter.unusedVariables false
set_option maxRecDepth 1000000
set_option maxHeartbeats 4000000
namespace Fk
open Go Go.Proofs Go.RowKit
def f191_vc (p0 : Option Addr) (R : Value → World → Prop) (w : World) : Prop := RunW Try.prog [] (eqS BinOp.eql (119 : Nat) (Operand.tmp (3 : Nat)) (Operand.const
  (Value.pointer none)) (Value.pointer p0) (Value.pointer none)) (fun v1 w2 => opB v1 fun b3 => ((!b3) = true → Option.isSome p0 = true) ∧ Bd (Option.getD p0 default) fun
  A5 => Gd (!b3) (none, (0 : Nat), (0 : Nat)) (fun J6 => Ld w2 (Addr.add A5 (0 : Nat)) fun v7 => opL v7 fun a8 n9 n10 => J6 (a8, n9, n10) w2) (fun u11 w12 => Gd (!b3)
  false (fun J13 => RunW Try.prog [] (eqS BinOp.eql (152 : Nat) (Operand.tmp (9 : Nat)) (Operand.const (Value.slice none (0 : Nat) (0 : Nat))) (Value.slice (Prod.fst u11)
  (Prod.fst (Prod.snd u11)) (Prod.snd (Prod.snd u11))) (Value.slice none (0 : Nat) (0 : Nat))) (fun v14 w15 => opB v14 fun b16 => J13 b16 w15) w12) (fun b17 w18 => Bd
  (bif b3 then true else b17) fun b19 => R (Value.bool b19) w18) w12) w2) w
theorem f191_eq (p0 : Option Addr) (R : Value → World → Prop) (w : World) : fnW Try.prog [] Try.f191 [Value.pointer p0] R w = f191_vc p0 R w := by kernel_rfl
theorem f191_in (p0 : Option Addr) (R : Value → World → Prop) (w : World) (h : f191_vc p0 R w) : Ct Try.prog 191 #[Value.pointer p0] w R := by
  refine Ct_of (rk := []) (fn := Try.f191) (args := [Value.pointer p0]) mixedT Try.func191 (by kernel_rfl) ?_
  rw [f191_eq]
  exact h
def f192_vc (p0 : Option Addr) (R : Value → World → Prop) (w : World) : Prop := NN p0 fun A1 => Ld w (Addr.add A1 (2 : Nat)) fun v2 => opI IntKind.i64 v2 fun x3 => Bd
  (decide (x3 > (0 : Int))) fun b4 => If b4 (NN p0 fun A5 => Ld w (Addr.add A5 (2 : Nat)) fun v6 => opI IntKind.i64 v6 fun x7 => Bd (IntKind.wrap IntKind.i64 (x7 - (1 :
  Int))) fun x8 => NN p0 fun A9 => ¬Addr.block A9 ∈ [] ∧ Wr w (Addr.add A9 (2 : Nat)) (1 : Nat) ∧ NN p0 fun A10 => Ld (setCells w (Addr.add A9 (2 : Nat)) (0 : Nat)
  [Value.int IntKind.i64 x8]) (Addr.add A10 (2 : Nat)) fun v11 => opI IntKind.i64 v11 fun x12 => Bd (decide (x12 > (0 : Int))) fun b13 => R (Value.bool b13) (setCells w
  (Addr.add A9 (2 : Nat)) (0 : Nat) [Value.int IntKind.i64 x8])) (R (Value.bool true) w)
theorem f192_eq (p0 : Option Addr) (R : Value → World → Prop) (w : World) : fnW Try.prog [] Try.f192 [Value.pointer p0] R w = f192_vc p0 R w := by kernel_rfl
theorem f192_in (p0 : Option Addr) (R : Value → World → Prop) (w : World) (h : f192_vc p0 R w) : Ct Try.prog 192 #[Value.pointer p0] w R := by
  refine Ct_of (rk := []) (fn := Try.f192) (args := [Value.pointer p0]) mixedT Try.func192 (by kernel_rfl) ?_
  rw [f192_eq]
  exact h
def f112_vc (p0 : Option Addr) (R : Value → World → Prop) (w : World) : Prop := CallW Try.prog [] (191 : Nat) #[Value.pointer p0] (fun v1 w2 => opB v1 fun b3 => If b3 (R
  (Value.int IntKind.i64 (0 : Int)) w2) (NN p0 fun A4 => Ld w2 (Addr.add A4 (0 : Nat)) fun v5 => opL v5 fun a6 n7 n8 => Bd ((n7 : Nat) : Int) fun x9 => R (Value.int
  IntKind.i64 x9) w2)) w
theorem f112_eq (p0 : Option Addr) (R : Value → World → Prop) (w : World) : fnW Try.prog [] Try.f112 [Value.pointer p0] R w = f112_vc p0 R w := by kernel_rfl
theorem f112_in (p0 : Option Addr) (R : Value → World → Prop) (w : World) (h : f112_vc p0 R w) : Ct Try.prog 112 #[Value.pointer p0] w R := by
  refine Ct_of (rk := []) (fn := Try.f112) (args := [Value.pointer p0]) mixedT Try.func112 (by kernel_rfl) ?_
  rw [f112_eq]
  exact h
def f108_vc (p0 : Option Addr) (R : Value → World → Prop) (w : World) : Prop := CallW Try.prog [] (191 : Nat) #[Value.pointer p0] (fun v1 w2 => opB v1 fun b3 => If b3 (R
  (Value.int IntKind.i64 (0 : Int)) w2) (NN p0 fun A4 => Ld w2 (Addr.add A4 (1 : Nat)) fun v5 => opL v5 fun a6 n7 n8 => Bd ((n7 : Nat) : Int) fun x9 => R (Value.int
  IntKind.i64 x9) w2)) w
theorem f108_eq (p0 : Option Addr) (R : Value → World → Prop) (w : World) : fnW Try.prog [] Try.f108 [Value.pointer p0] R w = f108_vc p0 R w := by kernel_rfl
theorem f108_in (p0 : Option Addr) (R : Value → World → Prop) (w : World) (h : f108_vc p0 R w) : Ct Try.prog 108 #[Value.pointer p0] w R := by
  refine Ct_of (rk := []) (fn := Try.f108) (args := [Value.pointer p0]) mixedT Try.func108 (by kernel_rfl) ?_
  rw [f108_eq]
  exact h
def f102_vc (p0 : Option Addr) (p1 : Int) (R : Value → World → Prop) (w : World) : Prop := CallW Try.prog [] (191 : Nat) #[Value.pointer p0] (fun v1 w2 => opB v1 fun b3
  => Bd (!b3) fun b4 => If b4 (Bd (if (0 : Int) > p1 then (0 : Int) else p1) fun x5 => NN p0 fun A6 => ¬Addr.block A6 ∈ [] ∧ Wr w2 (Addr.add A6 (2 : Nat)) (1 : Nat) ∧ R
  (Value.tuple #[]) (setCells w2 (Addr.add A6 (2 : Nat)) (0 : Nat) [Value.int IntKind.i64 x5])) (R (Value.tuple #[]) w2)) w
theorem f102_eq (p0 : Option Addr) (p1 : Int) (R : Value → World → Prop) (w : World) : fnW Try.prog [] Try.f102 [Value.pointer p0, Value.int IntKind.i64 p1] R w = f102_vc
  p0 p1 R w := by kernel_rfl
theorem f102_in (p0 : Option Addr) (p1 : Int) (R : Value → World → Prop) (w : World) (h : f102_vc p0 p1 R w) : Ct Try.prog 102 #[Value.pointer p0, Value.int IntKind.i64
  p1] w R := by
  refine Ct_of (rk := []) (fn := Try.f102) (args := [Value.pointer p0, Value.int IntKind.i64 p1]) mixedT Try.func102 (by kernel_rfl) ?_
  rw [f102_eq]
  exact h
def f103_vc (p0 : Option Addr) (R : Value → World → Prop) (w : World) : Prop := CallW Try.prog [] (191 : Nat) #[Value.pointer p0] (fun v1 w2 => opB v1 fun b3 => If b3 (R
  (Value.int IntKind.i64 (1 : Int)) w2) (CallW Try.prog [] (192 : Nat) #[Value.pointer p0] (fun v4 w5 => opB v4 fun b6 => Bd (!b6) fun b7 => If b7 (R (Value.int
  IntKind.i64 (200 : Int)) w5) (NN p0 fun A8 => ¬Addr.block A8 ∈ [] ∧ Wr w5 (Addr.add A8 (1 : Nat)) (1 : Nat) ∧ R (Value.int IntKind.i64 (0 : Int)) (setCells w5 (Addr.add
  A8 (1 : Nat)) (0 : Nat) [Value.slice none (0 : Nat) (0 : Nat)]))) w2)) w
theorem f103_eq (p0 : Option Addr) (R : Value → World → Prop) (w : World) : fnW Try.prog [] Try.f103 [Value.pointer p0] R w = f103_vc p0 R w := by kernel_rfl
theorem f103_in (p0 : Option Addr) (R : Value → World → Prop) (w : World) (h : f103_vc p0 R w) : Ct Try.prog 103 #[Value.pointer p0] w R := by
  refine Ct_of (rk := []) (fn := Try.f103) (args := [Value.pointer p0]) mixedT Try.func103 (by kernel_rfl) ?_
  rw [f103_eq]
  exact h
def f104_vc (p0 : Option Addr) (R : Value → World → Prop) (w : World) : Prop := CallW Try.prog [] (191 : Nat) #[Value.pointer p0] (fun v1 w2 => opB v1 fun b3 => If b3 (R
  (Value.slice none (0 : Nat) (0 : Nat)) w2) (NN p0 fun A4 => Ld w2 (Addr.add A4 (0 : Nat)) fun v5 => opL v5 fun a6 n7 n8 => Bd ((n7 : Nat) : Int) fun x9 => LoopP (fun
  l10 l11 J12 w13 => opL (nthD l10 (0 : Nat)) fun a14 n15 n16 => opI IntKind.i64 (nthD l10 (1 : Nat)) fun x17 => Bd (decide (x17 < x9)) fun b18 => If b18 (NN p0 fun A19
  => Ld w13 (Addr.add A19 (0 : Nat)) fun v20 => opL v20 fun a21 n22 n23 => IxOk x17 n22 a21 ∧ RunW Try.prog [] (Instr.sliceAt (252 : Nat) (Value.pointer (some (adAt a21
  x17 (64 : Nat)))) none none none) (fun v24 w25 => opL v24 fun a26 n27 n28 => RunW Try.prog [] (Builtin.append_ #[(51 : Nat), (51 : Nat)] (51 : Nat) #[Value.slice a14
  n15 n16, Value.slice a26 n27 n28]) (fun v29 w30 => opL v29 fun a31 n32 n33 => Bd (IntKind.wrap IntKind.i64 (x17 + (1 : Int))) fun x34 => J12 [Value.slice a31 n32 n33,
  Value.int IntKind.i64 x34] [] w30) w25) w13) (R (Value.slice a14 n15 n16) w13)) [Value.slice none (0 : Nat) (0 : Nat), Value.int IntKind.i64 (0 : Int)] [] w2)) w
theorem f104_eq (p0 : Option Addr) (R : Value → World → Prop) (w : World) : fnW Try.prog [] Try.f104 [Value.pointer p0] R w = f104_vc p0 R w := by kernel_rfl
theorem f104_in (p0 : Option Addr) (R : Value → World → Prop) (w : World) (h : f104_vc p0 R w) : Ct Try.prog 104 #[Value.pointer p0] w R := by
  refine Ct_of (rk := []) (fn := Try.f104) (args := [Value.pointer p0]) mixedT Try.func104 (by kernel_rfl) ?_
  rw [f104_eq]
  exact h
def f109_vc (p0 : Int) (R : Value → World → Prop) (w : World) : Prop := Bd (decide (p0 < (1 : Int))) fun b1 => Bd (decide (p0 > (65536 : Int))) fun b2 => Bd (bif b1 then
  true else b2) fun b3 => If b3 (R (Value.tuple #[Value.pointer none, Value.int IntKind.i64 (2 : Int)]) w) (RunW Try.prog [] (Instr.makeSlice (152 : Nat) (Value.int
  IntKind.i64 p0) (Value.int IntKind.i64 p0)) (fun v4 w5 => opL v4 fun a6 n7 n8 => Nw (Obj.cells #[Value.slice a6 n7 n8, Value.slice none (0 : Nat) (0 : Nat), Value.int
  IntKind.i64 (0 : Int)] (155 : Nat)) w5 fun n9 w10 => R (Value.tuple #[Value.pointer (some (Addr.mk n9 (0 : Nat) none)), Value.int IntKind.i64 (0 : Int)]) w10) w)
theorem f109_eq (p0 : Int) (R : Value → World → Prop) (w : World) : fnW Try.prog [] Try.f109 [Value.int IntKind.i64 p0] R w = f109_vc p0 R w := by kernel_rfl
theorem f109_in (p0 : Int) (R : Value → World → Prop) (w : World) (h : f109_vc p0 R w) : Ct Try.prog 109 #[Value.int IntKind.i64 p0] w R := by
  refine Ct_of (rk := []) (fn := Try.f109) (args := [Value.int IntKind.i64 p0]) mixedT Try.func109 (by kernel_rfl) ?_
  rw [f109_eq]
  exact h
def f119_vc (p0 : Option Addr) (p1 : Int) (R : Value → World → Prop) (w : World) : Prop := CallW Try.prog [] (191 : Nat) #[Value.pointer p0] (fun v1 w2 => opB v1 fun b3
  => If b3 (R (Value.tuple #[Value.slice none (0 : Nat) (0 : Nat), Value.int IntKind.i64 (1 : Int)]) w2) (Bd (decide (p1 < (0 : Int))) fun b4 => ((!b4) = true →
  Option.isSome p0 = true) ∧ Bd (Option.getD p0 default) fun A6 => Gd (!b4) (none, (0 : Nat), (0 : Nat)) (fun J7 => Ld w2 (Addr.add A6 (0 : Nat)) fun v8 => opL v8 fun a9
  n10 n11 => J7 (a9, n10, n11) w2) (fun u12 w13 => Bd ↑(Prod.fst (Prod.snd u12)) fun x14 => Bd (decide (p1 ≥ x14)) fun b15 => Bd (bif b4 then true else b15) fun b16 => If
  b16 (R (Value.tuple #[Value.slice none (0 : Nat) (0 : Nat), Value.int IntKind.i64 (2 : Int)]) w13) (NN p0 fun A17 => Ld w13 (Addr.add A17 (0 : Nat)) fun v18 => opL v18
  fun a19 n20 n21 => IxOk p1 n20 a19 ∧ LdN w13 (adAt a19 p1 (64 : Nat)) (64 : Nat) fun l22 => Bd (List.toArray l22) fun cs23 => Array.size cs23 = (64 : Nat) ∧ Nw
  (Obj.cells (List.toArray (zeroL Try.prog (252 : Nat))) (252 : Nat)) w13 fun n24 w25 => OkC (Array.toList cs23) (64 : Nat) (¬n24 ∈ [] ∧ Wr w25 (Addr.mk n24 (0 : Nat)
  none) (64 : Nat) ∧ RunW Try.prog [] (Instr.sliceAt (252 : Nat) (Value.pointer (some (Addr.mk n24 (0 : Nat) none))) none none none) (fun v26 w27 => opL v26 fun a28 n29
  n30 => R (Value.tuple #[Value.slice a28 n29 n30, Value.int IntKind.i64 (0 : Int)]) w27) (setCells w25 (Addr.mk n24 (0 : Nat) none) (0 : Nat) (Array.toList cs23)))))
  w2)) w
theorem f119_eq (p0 : Option Addr) (p1 : Int) (R : Value → World → Prop) (w : World) : fnW Try.prog [] Try.f119 [Value.pointer p0, Value.int IntKind.i64 p1] R w = f119_vc
  p0 p1 R w := by kernel_rfl
theorem f119_in (p0 : Option Addr) (p1 : Int) (R : Value → World → Prop) (w : World) (h : f119_vc p0 p1 R w) : Ct Try.prog 119 #[Value.pointer p0, Value.int IntKind.i64
  p1] w R := by
  refine Ct_of (rk := []) (fn := Try.f119) (args := [Value.pointer p0, Value.int IntKind.i64 p1]) mixedT Try.func119 (by kernel_rfl) ?_
  rw [f119_eq]
  exact h
def f114_vc (p0 : Option Addr) (p1 : Int) (p2a : Option Addr) (p2n : Nat) (p2c : Nat) (R : Value → World → Prop) (w : World) : Prop := CallW Try.prog [] (191 : Nat)
  #[Value.pointer p0] (fun v1 w2 => opB v1 fun b3 => If b3 (R (Value.int IntKind.i64 (1 : Int)) w2) (Bd (decide (p1 < (0 : Int))) fun b4 => ((!b4) = true → Option.isSome
  p0 = true) ∧ Bd (Option.getD p0 default) fun A6 => Gd (!b4) (none, (0 : Nat), (0 : Nat)) (fun J7 => Ld w2 (Addr.add A6 (0 : Nat)) fun v8 => opL v8 fun a9 n10 n11 => J7
  (a9, n10, n11) w2) (fun u12 w13 => Bd ↑(Prod.fst (Prod.snd u12)) fun x14 => Bd (decide (p1 ≥ x14)) fun b15 => Bd (bif b4 then true else b15) fun b16 => Bd ((p2n : Nat)
  : Int) fun x17 => Bd (x17 != (64 : Int)) fun b18 => Bd (bif b16 then true else b18) fun b19 => If b19 (R (Value.int IntKind.i64 (2 : Int)) w13) (CallW Try.prog [] (192
  : Nat) #[Value.pointer p0] (fun v20 w21 => opB v20 fun b22 => Bd (!b22) fun b23 => If b23 (R (Value.int IntKind.i64 (200 : Int)) w21) (Dr (World.drew w21) fun J24 => ∃
  A25, (∀ (w26 : World), J24 w26 → RunV Try.prog (Instr.arrayAt (252 : Nat) (Value.slice p2a p2n p2c)) (Value.pointer (some A25)) w26) ∧ ∃ v28, (∀ (w29 : World), J24 w29
  → LdN w29 A25 (64 : Nat) fun l31 => Value.agg (List.toArray l31) = v28) ∧ opBig v28 fun cs32 => Array.size cs32 = (64 : Nat) ∧ NN p0 fun A33 => ∃ v34, (∀ (w35 : World),
  J24 w35 → Ld w35 (Addr.add A33 (0 : Nat)) fun v37 => v37 = v34) ∧ opL v34 fun a38 n39 n40 => IxOk p1 n39 a38 ∧ ∃ v41, (∀ (w42 : World), J24 w42 → LdN w42 (adAt a38 p1
  (64 : Nat)) (64 : Nat) fun l44 => Value.agg (List.toArray l44) = v41) ∧ opBig v41 fun cs45 => Array.size cs45 = (64 : Nat) ∧ ∃ v46, (∀ (w47 : World), J24 w47 → RunV
  Try.prog (Instr.build (254 : Nat) #[((0 : Nat), Value.int IntKind.i64 p1), ((1 : Nat), Value.agg cs32), ((2 : Nat), Value.agg cs45)]) v46 w47) ∧ opBig v46 fun cs49 =>
  Array.size cs49 = (129 : Nat) ∧ Rg (World.drew w21) fun n50 => Up [] [n50] (World.drew w21) fun w51 => J24 w51 ∧ OkC (Array.toList cs49) (129 : Nat) (Up [n50] [n50] w51
  fun w52 => J24 w52 ∧ Jn (fun l53 l54 w55 => NN p0 fun A56 => (65 : Nat) ≤ Array.size cs49 ∧ Bd (List.toArray (List.take (64 : Nat) (List.drop (1 : Nat) (Array.toList
  cs49)))) fun cs57 => Array.size cs57 = (64 : Nat) ∧ Ld (World.drew w55) (Addr.add A56 (0 : Nat)) fun v58 => opL v58 fun a59 n60 n61 => IxOk p1 n60 a59 ∧ OkC
  (Array.toList cs57) (64 : Nat) (¬Addr.block (adAt a59 p1 (64 : Nat)) ∈ [n50] ∧ Wr (World.drew w55) (adAt a59 p1 (64 : Nat)) (64 : Nat) ∧ R (Value.int IntKind.i64 (0 :
  Int)) (setCells (World.drew w55) (adAt a59 p1 (64 : Nat)) (0 : Nat) (Array.toList cs57)))) fun J62 => NN p0 fun A63 => Array.size cs49 = (129 : Nat) ∧ (Ld (World.drew
  w52) (Addr.add A63 (1 : Nat)) fun v64 => opL v64 fun a65 n66 n67 => SzIs (Array.size cs49) (129 : Nat) (Nw (Obj.cells (List.toArray (flat [((0 : Nat), Value.agg
  cs49)])) (254 : Nat)) (World.drew w52) fun n68 w69 => RunW Try.prog [n50] (Builtin.append_ #[(153 : Nat), (153 : Nat)] (153 : Nat) #[Value.slice a65 n66 n67,
  Value.slice (some (Addr.mk n68 (0 : Nat) none)) (1 : Nat) (1 : Nat)]) (fun v70 w71 => opL v70 fun a72 n73 n74 => NN p0 fun A75 => ¬Addr.block A75 ∈ [n50] ∧ Wr w71
  (Addr.add A75 (1 : Nat)) (1 : Nat) ∧ J62 [] [] (setCells w71 (Addr.add A75 (1 : Nat)) (0 : Nat) [Value.slice a72 n73 n74])) w69)) ∧ SzIs (Array.size cs49) (129 : Nat)
  (Nw (Obj.cells (List.toArray (flat [((0 : Nat), Value.agg cs49)])) (254 : Nat)) (World.drew w52) fun n76 w77 => Ld w77 (Addr.add A63 (1 : Nat)) fun v78 => opL v78 fun
  a79 n80 n81 => RunW Try.prog [n50] (Builtin.append_ #[(153 : Nat), (153 : Nat)] (153 : Nat) #[Value.slice a79 n80 n81, Value.slice (some (Addr.mk n76 (0 : Nat) none))
  (1 : Nat) (1 : Nat)]) (fun v82 w83 => opL v82 fun a84 n85 n86 => NN p0 fun A87 => ¬Addr.block A87 ∈ [n50] ∧ Wr w83 (Addr.add A87 (1 : Nat)) (1 : Nat) ∧ J62 [] []
  (setCells w83 (Addr.add A87 (1 : Nat)) (0 : Nat) [Value.slice a84 n85 n86])) w77)))) w13)) w2)) w
theorem f114_eq (p0 : Option Addr) (p1 : Int) (p2a : Option Addr) (p2n : Nat) (p2c : Nat) (R : Value → World → Prop) (w : World) : fnW Try.prog [7, 100007, 400008,
  400009] Try.f114 [Value.pointer p0, Value.int IntKind.i64 p1, Value.slice p2a p2n p2c] R w = f114_vc p0 p1 p2a p2n p2c R w := by kernel_rfl
theorem f114_in (p0 : Option Addr) (p1 : Int) (p2a : Option Addr) (p2n : Nat) (p2c : Nat) (R : Value → World → Prop) (w : World) (h : f114_vc p0 p1 p2a p2n p2c R w) : Ct
  Try.prog 114 #[Value.pointer p0, Value.int IntKind.i64 p1, Value.slice p2a p2n p2c] w R := by
  refine Ct_of (rk := [7, 100007, 400008, 400009]) (fn := Try.f114) (args := [Value.pointer p0, Value.int IntKind.i64 p1, Value.slice p2a p2n p2c]) mixedT Try.func114 (by kernel_rfl) ?_
  rw [f114_eq]
  exact h
def f106_vc (p0 : Option Addr) (p1 : Int) (p2 : Int) (R : Value → World → Prop) (w : World) : Prop := CallW Try.prog [] (191 : Nat) #[Value.pointer p0] (fun v1 w2 => opB
  v1 fun b3 => If b3 (R (Value.tuple #[]) w2) (Bd (if (0 : Int) > p1 then (0 : Int) else p1) fun x4 => Bd (if (0 : Int) > p2 then (0 : Int) else p2) fun x5 => Bd (if (64
  : Int) < x5 then (64 : Int) else x5) fun x6 => NN p0 fun A7 => Ld w2 (Addr.add A7 (1 : Nat)) fun v8 => opL v8 fun a9 n10 n11 => Bd ((n10 : Nat) : Int) fun x12 => Bd
  (IntKind.wrap IntKind.i64 (x12 - (1 : Int))) fun x13 => LoopP (fun l14 l15 J16 w17 => opI IntKind.i64 (nthD l14 (0 : Nat)) fun x18 => Bd (decide (x18 ≥ x4)) fun b19 =>
  If b19 (Jn (fun l20 l21 w22 => Bd (IntKind.wrap IntKind.i64 (x18 - (1 : Int))) fun x23 => J16 [Value.int IntKind.i64 x23] [] w22) fun J24 => NN p0 fun A25 => Ld w17
  (Addr.add A25 (1 : Nat)) fun v26 => opL v26 fun a27 n28 n29 => IxOk x18 n28 a27 ∧ LdN w17 (adAt a27 x18 (129 : Nat)) (129 : Nat) fun l30 => Bd (List.toArray l30) fun
  cs31 => Array.size cs31 = (129 : Nat) ∧ Nw (Obj.cells (List.toArray (zeroL Try.prog (254 : Nat))) (254 : Nat)) w17 fun n32 w33 => OkC (Array.toList cs31) (129 : Nat)
  (¬n32 ∈ [] ∧ Wr w33 (Addr.mk n32 (0 : Nat) none) (129 : Nat) ∧ Dr (World.drew (setCells w33 (Addr.mk n32 (0 : Nat) none) (0 : Nat) (Array.toList cs31))) fun J34 => NN
  p0 fun A35 => ∃ v36, (∀ (w37 : World), J34 w37 → Ld w37 (Addr.add A35 (0 : Nat)) fun v39 => v39 = v36) ∧ opL v36 fun a40 n41 n42 => ∃ v43, (∀ (w44 : World), J34 w44 →
  Ld w44 (Addr.add (Addr.mk n32 (0 : Nat) none) (0 : Nat)) fun v46 => v46 = v43) ∧ opI IntKind.i64 v43 fun x47 => ∃ v48, (∀ (w49 : World), J34 w49 → LdN w49 (Addr.add
  (Addr.mk n32 (0 : Nat) none) (65 : Nat)) (64 : Nat) fun l51 => Value.agg (List.toArray l51) = v48) ∧ opBig v48 fun cs52 => Array.size cs52 = (64 : Nat) ∧ IxOk x47 n41
  a40 ∧ OkC (Array.toList cs52) (64 : Nat) (¬Addr.block (adAt a40 x47 (64 : Nat)) ∈ [] ∧ Wr (World.drew (setCells w33 (Addr.mk n32 (0 : Nat) none) (0 : Nat) (Array.toList
  cs31))) (adAt a40 x47 (64 : Nat)) (64 : Nat) ∧ J34 (setCells (World.drew (setCells w33 (Addr.mk n32 (0 : Nat) none) (0 : Nat) (Array.toList cs31))) (adAt a40 x47 (64 :
  Nat)) (0 : Nat) (Array.toList cs52)) ∧ Bd (x18 == x4) fun b53 => If b53 (Dr (World.drew (setCells (World.drew (setCells w33 (Addr.mk n32 (0 : Nat) none) (0 : Nat)
  (Array.toList cs31))) (adAt a40 x47 (64 : Nat)) (0 : Nat) (Array.toList cs52))) fun J54 => NN p0 fun A55 => ∃ v56, (∀ (w57 : World), J54 w57 → Ld w57 (Addr.add A55 (0 :
  Nat)) fun v59 => v59 = v56) ∧ opL v56 fun a60 n61 n62 => ∃ v63, (∀ (w64 : World), J54 w64 → Ld w64 (Addr.add (Addr.mk n32 (0 : Nat) none) (0 : Nat)) fun v66 => v66 =
  v63) ∧ opI IntKind.i64 v63 fun x67 => IxOk x67 n61 a60 ∧ ∃ v68, (∀ (w69 : World), J54 w69 → RunV Try.prog (Instr.sliceAt (252 : Nat) (Value.pointer (some (adAt a60 x67
  (64 : Nat)))) none (some (Value.int IntKind.i64 x6)) none) v68 w69) ∧ opL v68 fun a71 n72 n73 => ∃ v74, (∀ (w75 : World), J54 w75 → RunV Try.prog (Instr.sliceAt (252 :
  Nat) (Value.pointer (some (Addr.add (Addr.mk n32 (0 : Nat) none) (1 : Nat)))) none (some (Value.int IntKind.i64 x6)) none) v74 w75) ∧ opL v74 fun a77 n78 n79 => RunW
  Try.prog [] (Builtin.copy_ #[(51 : Nat), (51 : Nat)] (3 : Nat) #[Value.slice a71 n72 n73, Value.slice a77 n78 n79]) (fun v80 w81 => opI IntKind.i64 v80 fun x82 => J54
  w81 ∧ J24 [] [] w81) (World.drew (setCells (World.drew (setCells w33 (Addr.mk n32 (0 : Nat) none) (0 : Nat) (Array.toList cs31))) (adAt a40 x47 (64 : Nat)) (0 : Nat)
  (Array.toList cs52)))) (J24 [] [] (setCells (World.drew (setCells w33 (Addr.mk n32 (0 : Nat) none) (0 : Nat) (Array.toList cs31))) (adAt a40 x47 (64 : Nat)) (0 : Nat)
  (Array.toList cs52)))))) (NN p0 fun A83 => ¬Addr.block A83 ∈ [] ∧ Wr w17 (Addr.add A83 (1 : Nat)) (1 : Nat) ∧ NN p0 fun A84 => ¬Addr.block A84 ∈ [] ∧ Wr (setCells w17
  (Addr.add A83 (1 : Nat)) (0 : Nat) [Value.slice none (0 : Nat) (0 : Nat)]) (Addr.add A84 (2 : Nat)) (1 : Nat) ∧ R (Value.tuple #[]) (setCells (setCells w17 (Addr.add
  A83 (1 : Nat)) (0 : Nat) [Value.slice none (0 : Nat) (0 : Nat)]) (Addr.add A84 (2 : Nat)) (0 : Nat) [Value.int IntKind.i64 (0 : Int)]))) [Value.int IntKind.i64 x13] []
  w2)) w
theorem f106_eq (p0 : Option Addr) (p1 : Int) (p2 : Int) (R : Value → World → Prop) (w : World) : fnW Try.prog [100006, 100008] Try.f106 [Value.pointer p0, Value.int
  IntKind.i64 p1, Value.int IntKind.i64 p2] R w = f106_vc p0 p1 p2 R w := by kernel_rfl
theorem f106_in (p0 : Option Addr) (p1 : Int) (p2 : Int) (R : Value → World → Prop) (w : World) (h : f106_vc p0 p1 p2 R w) : Ct Try.prog 106 #[Value.pointer p0, Value.int
  IntKind.i64 p1, Value.int IntKind.i64 p2] w R := by
  refine Ct_of (rk := [100006, 100008]) (fn := Try.f106) (args := [Value.pointer p0, Value.int IntKind.i64 p1, Value.int IntKind.i64 p2]) mixedT Try.func106 (by kernel_rfl) ?_
  rw [f106_eq]
  exact h
def f193_vc (p0a : Option Addr) (p0n : Nat) (p0c : Nat) (p1 : Int) (R : Value → World → Prop) (w : World) : Prop := Bd (p1 == (0 : Int)) fun b1 => If b1 (Nw (Obj.cells
  #[] (5 : Nat)) w fun n2 w3 => R (Value.slice (some (Addr.mk n2 (0 : Nat) none)) (0 : Nat) (0 : Nat)) w3) (Jn (fun l4 l5 w6 => Bd ((p0n : Nat) : Int) fun x7 => Bd
  (IntKind.wrap IntKind.u64 x7) fun x8 => Bd (IntKind.wrap IntKind.u64 p1) fun x9 => CallW Try.prog [] (223 : Nat) #[Value.int IntKind.u64 x8, Value.int IntKind.u64 x9]
  (fun v10 w11 => opTu v10 fun cs12 => opI IntKind.u64 (nthD (Array.toList cs12) (0 : Nat)) fun x13 => opI IntKind.u64 (nthD (Array.toList cs12) (1 : Nat)) fun x14 =>
  SzIs (Array.size cs12) (2 : Nat) (Jn (fun l15 l16 w17 => Bd (IntKind.wrap IntKind.i64 x14) fun x18 => Bd ((p0n : Nat) : Int) fun x19 => Bd (x19 == (0 : Int)) fun b20 =>
  If b20 (Nw (Obj.cells #[] (5 : Nat)) w17 fun n21 w22 => R (Value.slice (some (Addr.mk n21 (0 : Nat) none)) (0 : Nat) (0 : Nat)) w22) (Jn (fun l23 l24 w25 => opI
  IntKind.i64 (nthD l23 (0 : Nat)) fun x26 => CallW Try.prog [] (224 : Nat) #[Value.int IntKind.i64 x18] (fun v27 w28 => opL v27 fun a29 n30 n31 => RunW Try.prog []
  (Instr.sliceAt (51 : Nat) (Value.slice a29 n30 n31) none (some (Value.int IntKind.i64 x18)) (some (Value.int IntKind.i64 x18))) (fun v32 w33 => opL v32 fun a34 n35 n36
  => RunW Try.prog [] (Builtin.copy_ #[(51 : Nat), (51 : Nat)] (3 : Nat) #[Value.slice a34 n35 n36, Value.slice p0a p0n p0c]) (fun v37 w38 => opI IntKind.i64 v37 fun x39
  => LoopP (fun l40 l41 J42 w43 => opI IntKind.i64 (nthD l40 (0 : Nat)) fun x44 => Bd (decide (x44 < x18)) fun b45 => If b45 (Bd (if x26 < x44 then x26 else x44) fun x46
  => Dr (World.drew w43) fun J47 => ∃ v48, (∀ (w49 : World), J47 w49 → RunV Try.prog (Instr.sliceAt (51 : Nat) (Value.slice a34 n35 n36) (some (Value.int IntKind.i64
  x44)) none none) v48 w49) ∧ opL v48 fun a51 n52 n53 => ∃ v54, (∀ (w55 : World), J47 w55 → RunV Try.prog (Instr.sliceAt (51 : Nat) (Value.slice a34 n35 n36) none (some
  (Value.int IntKind.i64 x46)) none) v54 w55) ∧ opL v54 fun a57 n58 n59 => RunW Try.prog [] (Builtin.copy_ #[(51 : Nat), (51 : Nat)] (3 : Nat) #[Value.slice a51 n52 n53,
  Value.slice a57 n58 n59]) (fun v60 w61 => opI IntKind.i64 v60 fun x62 => J47 w61 ∧ Bd (IntKind.wrap IntKind.i64 (x44 + x62)) fun x63 => J42 [Value.int IntKind.i64 x63]
  [] w61) (World.drew w43)) (R (Value.slice a34 n35 n36) w43)) [Value.int IntKind.i64 x39] [] w38) w33) w28) w25) fun J64 => Bd (decide (x18 > (8192 : Int))) fun b65 =>
  If b65 (Bd ((p0n : Nat) : Int) fun x66 => x66 ≠ (0 : Int) ∧ Bd (IntKind.wrap IntKind.i64 (Int.tdiv (8192 : Int) x66)) fun x67 => Bd ((p0n : Nat) : Int) fun x68 => Bd
  (IntKind.wrap IntKind.i64 (x67 * x68)) fun x69 => Bd (x69 == (0 : Int)) fun b70 => If b70 (Bd ((p0n : Nat) : Int) fun x71 => J64 [Value.int IntKind.i64 x71] [] w17)
  (J64 [Value.int IntKind.i64 x69] [] w17)) (J64 [Value.int IntKind.i64 x18] [] w17))) fun J72 => Bd (decide (x13 > (0 : Int))) fun b73 => Bd (decide (x14 >
  (9223372036854775807 : Int))) fun b74 => Bd (bif b73 then true else b74) fun b75 => If b75 (RunW Try.prog [] (Instr.makeInterface (9 : Nat) (Value.string (ByteArray.mk
  #[(98 : UInt8), (121 : UInt8), (116 : UInt8), (101 : UInt8), (115 : UInt8), (58 : UInt8), (32 : UInt8), (82 : UInt8), (101 : UInt8), (112 : UInt8), (101 : UInt8), (97 :
  UInt8), (116 : UInt8), (32 : UInt8), (111 : UInt8), (117 : UInt8), (116 : UInt8), (112 : UInt8), (117 : UInt8), (116 : UInt8), (32 : UInt8), (108 : UInt8), (101 :
  UInt8), (110 : UInt8), (103 : UInt8), (116 : UInt8), (104 : UInt8), (32 : UInt8), (111 : UInt8), (118 : UInt8), (101 : UInt8), (114 : UInt8), (102 : UInt8), (108 :
  UInt8), (111 : UInt8), (119 : UInt8)]))) (fun v76 w77 => RunW Try.prog [] (Instr.panic v76) (fun v78 w79 => opTu v78 fun cs80 => SzIs (Array.size cs80) (0 : Nat) (J72
  [] [] w79)) w77) w11) (J72 [] [] w11))) w6) fun J81 => Bd (decide (p1 < (0 : Int))) fun b82 => If b82 (RunW Try.prog [] (Instr.makeInterface (9 : Nat) (Value.string
  (ByteArray.mk #[(98 : UInt8), (121 : UInt8), (116 : UInt8), (101 : UInt8), (115 : UInt8), (58 : UInt8), (32 : UInt8), (110 : UInt8), (101 : UInt8), (103 : UInt8), (97 :
  UInt8), (116 : UInt8), (105 : UInt8), (118 : UInt8), (101 : UInt8), (32 : UInt8), (82 : UInt8), (101 : UInt8), (112 : UInt8), (101 : UInt8), (97 : UInt8), (116 :
  UInt8), (32 : UInt8), (99 : UInt8), (111 : UInt8), (117 : UInt8), (110 : UInt8), (116 : UInt8)]))) (fun v83 w84 => RunW Try.prog [] (Instr.panic v83) (fun v85 w86 =>
  opTu v85 fun cs87 => SzIs (Array.size cs87) (0 : Nat) (J81 [] [] w86)) w84) w) (J81 [] [] w))
theorem f193_eq (p0a : Option Addr) (p0n : Nat) (p0c : Nat) (p1 : Int) (R : Value → World → Prop) (w : World) : fnW Try.prog [100020] Try.f193 [Value.slice p0a p0n p0c,
  Value.int IntKind.i64 p1] R w = f193_vc p0a p0n p0c p1 R w := by kernel_rfl
theorem f193_in (p0a : Option Addr) (p0n : Nat) (p0c : Nat) (p1 : Int) (R : Value → World → Prop) (w : World) (h : f193_vc p0a p0n p0c p1 R w) : Ct Try.prog 193
  #[Value.slice p0a p0n p0c, Value.int IntKind.i64 p1] w R := by
  refine Ct_of (rk := [100020]) (fn := Try.f193) (args := [Value.slice p0a p0n p0c, Value.int IntKind.i64 p1]) mixedT Try.func193 (by kernel_rfl) ?_
  rw [f193_eq]
  exact h
def f223_vc (p0 : Int) (p1 : Int) (R : Value → World → Prop) (w : World) : Prop := If false (Bd (IntKind.wrap IntKind.u32 p0) fun x1 => Bd (IntKind.wrap IntKind.u32 p1)
  fun x2 => CallW Try.prog [] (232 : Nat) #[Value.int IntKind.u32 x1, Value.int IntKind.u32 x2] (fun v3 w4 => opTu v3 fun cs5 => opI IntKind.u32 (nthD (Array.toList cs5)
  (0 : Nat)) fun x6 => opI IntKind.u32 (nthD (Array.toList cs5) (1 : Nat)) fun x7 => SzIs (Array.size cs5) (2 : Nat) (Bd (IntKind.wrap IntKind.u64 x6) fun x8 => Bd
  (IntKind.wrap IntKind.u64 x7) fun x9 => R (Value.tuple #[Value.int IntKind.u64 x8, Value.int IntKind.u64 x9]) w4)) w) (CallW Try.prog [] (233 : Nat) #[Value.int
  IntKind.u64 p0, Value.int IntKind.u64 p1] (fun v10 w11 => opTu v10 fun cs12 => opI IntKind.u64 (nthD (Array.toList cs12) (0 : Nat)) fun x13 => opI IntKind.u64 (nthD
  (Array.toList cs12) (1 : Nat)) fun x14 => SzIs (Array.size cs12) (2 : Nat) (R (Value.tuple #[Value.int IntKind.u64 x13, Value.int IntKind.u64 x14]) w11)) w)
theorem f223_eq (p0 : Int) (p1 : Int) (R : Value → World → Prop) (w : World) : fnW Try.prog [] Try.f223 [Value.int IntKind.u64 p0, Value.int IntKind.u64 p1] R w = f223_vc
  p0 p1 R w := by kernel_rfl
theorem f223_in (p0 : Int) (p1 : Int) (R : Value → World → Prop) (w : World) (h : f223_vc p0 p1 R w) : Ct Try.prog 223 #[Value.int IntKind.u64 p0, Value.int IntKind.u64
  p1] w R := by
  refine Ct_of (rk := []) (fn := Try.f223) (args := [Value.int IntKind.u64 p0, Value.int IntKind.u64 p1]) mixedT Try.func223 (by kernel_rfl) ?_
  rw [f223_eq]
  exact h
def f233_vc (p0 : Int) (p1 : Int) (R : Value → World → Prop) (w : World) : Prop := Bd (IntKind.wrap IntKind.u64 ↑(BitVec.toNat (BitVec.ofInt (64 : Nat) p0 &&&
  BitVec.ofInt (64 : Nat) (4294967295 : Int)))) fun x1 => Bd (Int.fdiv p0 ((2 : Int) ^ min (32 : Nat) (64 : Nat))) fun x2 => Bd (IntKind.wrap IntKind.u64 ↑(BitVec.toNat
  (BitVec.ofInt (64 : Nat) p1 &&& BitVec.ofInt (64 : Nat) (4294967295 : Int)))) fun x3 => Bd (Int.fdiv p1 ((2 : Int) ^ min (32 : Nat) (64 : Nat))) fun x4 => Bd
  (IntKind.wrap IntKind.u64 (x1 * x3)) fun x5 => Bd (IntKind.wrap IntKind.u64 (x2 * x3)) fun x6 => Bd (Int.fdiv x5 ((2 : Int) ^ min (32 : Nat) (64 : Nat))) fun x7 => Bd
  (IntKind.wrap IntKind.u64 (x6 + x7)) fun x8 => Bd (IntKind.wrap IntKind.u64 ↑(BitVec.toNat (BitVec.ofInt (64 : Nat) x8 &&& BitVec.ofInt (64 : Nat) (4294967295 : Int))))
  fun x9 => Bd (Int.fdiv x8 ((2 : Int) ^ min (32 : Nat) (64 : Nat))) fun x10 => Bd (IntKind.wrap IntKind.u64 (x1 * x4)) fun x11 => Bd (IntKind.wrap IntKind.u64 (x9 +
  x11)) fun x12 => Bd (IntKind.wrap IntKind.u64 (x2 * x4)) fun x13 => Bd (IntKind.wrap IntKind.u64 (x13 + x10)) fun x14 => Bd (Int.fdiv x12 ((2 : Int) ^ min (32 : Nat)
  (64 : Nat))) fun x15 => Bd (IntKind.wrap IntKind.u64 (x14 + x15)) fun x16 => Bd (IntKind.wrap IntKind.u64 (p0 * p1)) fun x17 => R (Value.tuple #[Value.int IntKind.u64
  x16, Value.int IntKind.u64 x17]) w
theorem f233_eq (p0 : Int) (p1 : Int) (R : Value → World → Prop) (w : World) : fnW Try.prog [] Try.f233 [Value.int IntKind.u64 p0, Value.int IntKind.u64 p1] R w = f233_vc
  p0 p1 R w := by kernel_rfl
theorem f233_in (p0 : Int) (p1 : Int) (R : Value → World → Prop) (w : World) (h : f233_vc p0 p1 R w) : Ct Try.prog 233 #[Value.int IntKind.u64 p0, Value.int IntKind.u64
  p1] w R := by
  refine Ct_of (rk := []) (fn := Try.f233) (args := [Value.int IntKind.u64 p0, Value.int IntKind.u64 p1]) mixedT Try.func233 (by kernel_rfl) ?_
  rw [f233_eq]
  exact h
end Fk
set_option linter.unusedVariables false
set_option maxRecDepth 1000000
set_option maxHeartbeats 4000000
namespace Fk
open Go Go.Proofs Go.RowKit
def f138_vc (p0a : Option Addr) (p0n : Nat) (p0c : Nat) (R : Value → World → Prop) (w : World) : Prop := Bd ((p0n : Nat) : Int) fun x1 => LoopP (fun l2 l3 J4 w5 => opI
  IntKind.u32 (nthD l2 (0 : Nat)) fun x6 => opI IntKind.i64 (nthD l2 (1 : Nat)) fun x7 => Bd (decide (x7 < x1)) fun b8 => If b8 (IxOk x7 p0n p0a ∧ Ld w5 (adAt p0a x7 (1 :
  Nat)) fun v9 => opI IntKind.u8 v9 fun x10 => Bd (IntKind.wrap IntKind.u32 x10) fun x11 => Bd (IntKind.wrap IntKind.u32 ↑(BitVec.toNat (BitVec.ofInt (32 : Nat) x6 ^^^
  BitVec.ofInt (32 : Nat) x11))) fun x12 => Bd (IntKind.wrap IntKind.u32 (x12 * (16777619 : Int))) fun x13 => Bd (IntKind.wrap IntKind.i64 (x7 + (1 : Int))) fun x14 => J4
  [Value.int IntKind.u32 x13, Value.int IntKind.i64 x14] [] w5) (R (Value.int IntKind.u32 x6) w5)) [Value.int IntKind.u32 (2166136261 : Int), Value.int IntKind.i64 (0 :
  Int)] [] w
theorem f138_eq (p0a : Option Addr) (p0n : Nat) (p0c : Nat) (R : Value → World → Prop) (w : World) : fnW Try.prog [] Try.f138 [Value.slice p0a p0n p0c] R w = f138_vc p0a
  p0n p0c R w := by kernel_rfl
theorem f138_in (p0a : Option Addr) (p0n : Nat) (p0c : Nat) (R : Value → World → Prop) (w : World) (h : f138_vc p0a p0n p0c R w) : Ct Try.prog 138 #[Value.slice p0a p0n
  p0c] w R := by
  refine Ct_of (rk := []) (fn := Try.f138) (args := [Value.slice p0a p0n p0c]) mixedT Try.func138 (by kernel_rfl) ?_
  rw [f138_eq]
  exact h
def f196_vc (p0 : Option Addr) (R : Value → World → Prop) (w : World) : Prop := RunW Try.prog [] (eqS BinOp.eql (158 : Nat) (Operand.tmp (3 : Nat)) (Operand.const
  (Value.pointer none)) (Value.pointer p0) (Value.pointer none)) (fun v1 w2 => opB v1 fun b3 => ((!b3) = true → Option.isSome p0 = true) ∧ Bd (Option.getD p0 default) fun
  A5 => Gd (!b3) none (fun J6 => Ld w2 (Addr.add A5 (0 : Nat)) fun v7 => opP v7 fun a8 => J6 a8 w2) (fun a9 w10 => Gd (!b3) false (fun J11 => RunW Try.prog [] (eqS
  BinOp.eql (119 : Nat) (Operand.tmp (9 : Nat)) (Operand.const (Value.pointer none)) (Value.pointer a9) (Value.pointer none)) (fun v12 w13 => opB v12 fun b14 => J11 b14
  w13) w10) (fun b15 w16 => Bd (bif b3 then true else b15) fun b17 => R (Value.bool b17) w16) w10) w2) w
theorem f196_eq (p0 : Option Addr) (R : Value → World → Prop) (w : World) : fnW Try.prog [] Try.f196 [Value.pointer p0] R w = f196_vc p0 R w := by kernel_rfl
theorem f196_in (p0 : Option Addr) (R : Value → World → Prop) (w : World) (h : f196_vc p0 R w) : Ct Try.prog 196 #[Value.pointer p0] w R := by
  refine Ct_of (rk := []) (fn := Try.f196) (args := [Value.pointer p0]) mixedT Try.func196 (by kernel_rfl) ?_
  rw [f196_eq]
  exact h
def f197_vc (p0 : Option Addr) (R : Value → World → Prop) (w : World) : Prop := CallW Try.prog [] (205 : Nat) #[Value.pointer p0] (fun v1 w2 => opI IntKind.i64 v1 fun x3
  => Bd (IntKind.wrap IntKind.i64 (x3 * (64 : Int))) fun x4 => R (Value.int IntKind.i64 x4) w2) w
theorem f197_eq (p0 : Option Addr) (R : Value → World → Prop) (w : World) : fnW Try.prog [] Try.f197 [Value.pointer p0] R w = f197_vc p0 R w := by kernel_rfl
theorem f197_in (p0 : Option Addr) (R : Value → World → Prop) (w : World) (h : f197_vc p0 R w) : Ct Try.prog 197 #[Value.pointer p0] w R := by
  refine Ct_of (rk := []) (fn := Try.f197) (args := [Value.pointer p0]) mixedT Try.func197 (by kernel_rfl) ?_
  rw [f197_eq]
  exact h
def f198_vc (p0 : Option Addr) (p1a : Option Addr) (p1n : Nat) (p1c : Nat) (p2 : Int) (R : Value → World → Prop) (w : World) : Prop := CallW Try.prog [] (196 : Nat)
  #[Value.pointer p0] (fun v1 w2 => opB v1 fun b3 => If b3 (R (Value.int IntKind.i64 (1 : Int)) w2) (NN p0 fun A4 => Ld w2 (Addr.add A4 (3 : Nat)) fun v5 => opB v5 fun b6
  => If b6 (R (Value.int IntKind.i64 (200 : Int)) w2) (Bd ((p1n : Nat) : Int) fun x7 => LoopP (fun l8 l9 J10 w11 => opI IntKind.i64 (nthD l8 (0 : Nat)) fun x12 => opI
  IntKind.i64 (nthD l8 (1 : Nat)) fun x13 => opB (nthD l8 (2 : Nat)) fun b14 => opI IntKind.i64 (nthD l8 (3 : Nat)) fun x15 => Bd (decide (x15 < x7)) fun b16 => If b16
  (IxOk x15 p1n p1a ∧ Ld w11 (adAt p1a x15 (1 : Nat)) fun v17 => opL v17 fun a18 n19 n20 => Bd ((n19 : Nat) : Int) fun x21 => Bd (decide (x21 < (1 : Int))) fun b22 => Bd
  ((n19 : Nat) : Int) fun x23 => Bd (decide (x23 > (1048576 : Int))) fun b24 => Bd (bif b22 then true else b24) fun b25 => If b25 (R (Value.int IntKind.i64 (3 : Int))
  w11) (Bd ((n19 : Nat) : Int) fun x26 => Bd (IntKind.wrap IntKind.i64 ((4 : Int) + x26)) fun x27 => Bd (IntKind.wrap IntKind.i64 (x27 + (4 : Int))) fun x28 => Bd
  (IntKind.wrap IntKind.i64 (x13 + (1 : Int))) fun x29 => Bd (if x29 < x28 then x29 else x28) fun x30 => Bd (IntKind.wrap IntKind.i64 (x13 - x30)) fun x31 => Bd (decide
  (x31 < (0 : Int))) fun b32 => Bd (bif b14 then true else b32) fun b33 => Bd (IntKind.wrap IntKind.i64 (x15 + (1 : Int))) fun x34 => J10 [Value.int IntKind.i64 x12,
  Value.int IntKind.i64 x31, Value.bool b33, Value.int IntKind.i64 x34] [] w11)) (If b14 (R (Value.int IntKind.i64 (4 : Int)) w11) (R (Value.int IntKind.i64 (0 : Int))
  w11))) [Value.int IntKind.i64 (0 : Int), Value.int IntKind.i64 p2, Value.bool false, Value.int IntKind.i64 (0 : Int)] [] w2))) w
theorem f198_eq (p0 : Option Addr) (p1a : Option Addr) (p1n : Nat) (p1c : Nat) (p2 : Int) (R : Value → World → Prop) (w : World) : fnW Try.prog [] Try.f198 [Value.pointer
  p0, Value.slice p1a p1n p1c, Value.int IntKind.i64 p2] R w = f198_vc p0 p1a p1n p1c p2 R w := by kernel_rfl
theorem f198_in (p0 : Option Addr) (p1a : Option Addr) (p1n : Nat) (p1c : Nat) (p2 : Int) (R : Value → World → Prop) (w : World) (h : f198_vc p0 p1a p1n p1c p2 R w) : Ct
  Try.prog 198 #[Value.pointer p0, Value.slice p1a p1n p1c, Value.int IntKind.i64 p2] w R := by
  refine Ct_of (rk := []) (fn := Try.f198) (args := [Value.pointer p0, Value.slice p1a p1n p1c, Value.int IntKind.i64 p2]) mixedT Try.func198 (by kernel_rfl) ?_
  rw [f198_eq]
  exact h
def f199_vc (p0a : Option Addr) (p0n : Nat) (p0c : Nat) (p1 : Int) (R : Value → World → Prop) (w : World) : Prop := Nw (Obj.cells #[Value.slice none (0 : Nat) (0 : Nat)]
  (51 : Nat)) w fun n1 w2 => Bd (IntKind.wrap IntKind.u32 p1) fun x3 => CallW Try.prog [] (225 : Nat) #[Value.int IntKind.u32 x3, Value.int IntKind.i64 (1 : Int),
  Value.pointer (some (Addr.mk n1 (0 : Nat) none))] (fun v4 w5 => opTu v4 fun cs6 => SzIs (Array.size cs6) (0 : Nat) (Bd ((p0n : Nat) : Int) fun x7 => Bd (IntKind.wrap
  IntKind.u32 x7) fun x8 => CallW Try.prog [] (225 : Nat) #[Value.int IntKind.u32 x8, Value.int IntKind.i64 (3 : Int), Value.pointer (some (Addr.mk n1 (0 : Nat) none))]
  (fun v9 w10 => opTu v9 fun cs11 => SzIs (Array.size cs11) (0 : Nat) (Ld w10 (Addr.mk n1 (0 : Nat) none) fun v12 => opL v12 fun a13 n14 n15 => RunW Try.prog []
  (Builtin.append_ #[(51 : Nat), (51 : Nat)] (51 : Nat) #[Value.slice a13 n14 n15, Value.slice p0a p0n p0c]) (fun v16 w17 => opL v16 fun a18 n19 n20 => ¬n1 ∈ [] ∧ Wr w17
  (Addr.mk n1 (0 : Nat) none) (1 : Nat) ∧ Ld (setCells w17 (Addr.mk n1 (0 : Nat) none) (0 : Nat) [Value.slice a18 n19 n20]) (Addr.mk n1 (0 : Nat) none) fun v21 => opL v21
  fun a22 n23 n24 => RunW Try.prog [] (Instr.sliceAt (51 : Nat) (Value.slice a22 n23 n24) (some (Value.int IntKind.i64 (1 : Int))) none none) (fun v25 w26 => opL v25 fun
  a27 n28 n29 => CallW Try.prog [] (138 : Nat) #[Value.slice a27 n28 n29] (fun v30 w31 => opI IntKind.u32 v30 fun x32 => CallW Try.prog [] (225 : Nat) #[Value.int
  IntKind.u32 x32, Value.int IntKind.i64 (4 : Int), Value.pointer (some (Addr.mk n1 (0 : Nat) none))] (fun v33 w34 => opTu v33 fun cs35 => SzIs (Array.size cs35) (0 :
  Nat) (Ld w34 (Addr.mk n1 (0 : Nat) none) fun v36 => opL v36 fun a37 n38 n39 => R (Value.slice a37 n38 n39) w34)) w31) w26) (setCells w17 (Addr.mk n1 (0 : Nat) none) (0
  : Nat) [Value.slice a18 n19 n20])) w10)) w5)) w2
theorem f199_eq (p0a : Option Addr) (p0n : Nat) (p0c : Nat) (p1 : Int) (R : Value → World → Prop) (w : World) : fnW Try.prog [] Try.f199 [Value.slice p0a p0n p0c,
  Value.int IntKind.u8 p1] R w = f199_vc p0a p0n p0c p1 R w := by kernel_rfl
theorem f199_in (p0a : Option Addr) (p0n : Nat) (p0c : Nat) (p1 : Int) (R : Value → World → Prop) (w : World) (h : f199_vc p0a p0n p0c p1 R w) : Ct Try.prog 199
  #[Value.slice p0a p0n p0c, Value.int IntKind.u8 p1] w R := by
  refine Ct_of (rk := []) (fn := Try.f199) (args := [Value.slice p0a p0n p0c, Value.int IntKind.u8 p1]) mixedT Try.func199 (by kernel_rfl) ?_
  rw [f199_eq]
  exact h
def f201_vc (p0 : Option Addr) (p1 : Int) (p2 : Int) (p3 : Int) (R : Value → World → Prop) (w : World) : Prop := NN p0 fun A1 => Ld w (Addr.add A1 (0 : Nat)) fun v2 =>
  opP v2 fun a3 => CallW Try.prog [] (119 : Nat) #[Value.pointer a3, Value.int IntKind.i64 p1] (fun v4 w5 => opTu v4 fun cs6 => opL (nthD (Array.toList cs6) (0 : Nat))
  fun a7 n8 n9 => opI IntKind.i64 (nthD (Array.toList cs6) (1 : Nat)) fun x10 => SzIs (Array.size cs6) (2 : Nat) (IxOk p2 n8 a7 ∧ ¬Addr.block (adAt a7 p2 (1 : Nat)) ∈ []
  ∧ Wr w5 (adAt a7 p2 (1 : Nat)) (1 : Nat) ∧ NN p0 fun A11 => Ld (setCells w5 (adAt a7 p2 (1 : Nat)) (0 : Nat) [Value.int IntKind.u8 p3]) (Addr.add A11 (0 : Nat)) fun v12
  => opP v12 fun a13 => CallW Try.prog [] (114 : Nat) #[Value.pointer a13, Value.int IntKind.i64 p1, Value.slice a7 n8 n9] (fun v14 w15 => opI IntKind.i64 v14 fun x16 =>
  Bd (x16 == (0 : Int)) fun b17 => (b17 = true → Option.isSome p0 = true) ∧ Bd (Option.getD p0 default) fun A19 => Gd b17 none (fun J20 => Ld w15 (Addr.add A19 (0 : Nat))
  fun v21 => opP v21 fun a22 => J20 a22 w15) (fun a23 w24 => Gd b17 (0 : Int) (fun J25 => CallW Try.prog [] (103 : Nat) #[Value.pointer a23] (fun v26 w27 => opI
  IntKind.i64 v26 fun x28 => J25 x28 w27) w24) (fun x29 w30 => Bd (x29 == (0 : Int)) fun b31 => Bd (bif b17 then b31 else false) fun b32 => R (Value.bool b32) w30) w24)
  w15) (setCells w5 (adAt a7 p2 (1 : Nat)) (0 : Nat) [Value.int IntKind.u8 p3]))) w
theorem f201_eq (p0 : Option Addr) (p1 : Int) (p2 : Int) (p3 : Int) (R : Value → World → Prop) (w : World) : fnW Try.prog [] Try.f201 [Value.pointer p0, Value.int
  IntKind.i64 p1, Value.int IntKind.i64 p2, Value.int IntKind.u8 p3] R w = f201_vc p0 p1 p2 p3 R w := by kernel_rfl
theorem f201_in (p0 : Option Addr) (p1 : Int) (p2 : Int) (p3 : Int) (R : Value → World → Prop) (w : World) (h : f201_vc p0 p1 p2 p3 R w) : Ct Try.prog 201 #[Value.pointer
  p0, Value.int IntKind.i64 p1, Value.int IntKind.i64 p2, Value.int IntKind.u8 p3] w R := by
  refine Ct_of (rk := []) (fn := Try.f201) (args := [Value.pointer p0, Value.int IntKind.i64 p1, Value.int IntKind.i64 p2, Value.int IntKind.u8 p3]) mixedT Try.func201 (by kernel_rfl) ?_
  rw [f201_eq]
  exact h
def f202_vc (p0 : Option Addr) (p1 : Int) (p2 : Int) (R : Value → World → Prop) (w : World) : Prop := CallW Try.prog [] (205 : Nat) #[Value.pointer p0] (fun v1 w2 => opI
  IntKind.i64 v1 fun x3 => Bd (IntKind.wrap IntKind.i64 (p1 * x3)) fun x4 => Bd (IntKind.wrap IntKind.i64 ((1 : Int) + x4)) fun x5 => Bd (IntKind.wrap IntKind.i64 (x5 +
  p2)) fun x6 => R (Value.int IntKind.i64 x6) w2) w
theorem f202_eq (p0 : Option Addr) (p1 : Int) (p2 : Int) (R : Value → World → Prop) (w : World) : fnW Try.prog [] Try.f202 [Value.pointer p0, Value.int IntKind.i64 p1,
  Value.int IntKind.i64 p2] R w = f202_vc p0 p1 p2 R w := by kernel_rfl
theorem f202_in (p0 : Option Addr) (p1 : Int) (p2 : Int) (R : Value → World → Prop) (w : World) (h : f202_vc p0 p1 p2 R w) : Ct Try.prog 202 #[Value.pointer p0, Value.int
  IntKind.i64 p1, Value.int IntKind.i64 p2] w R := by
  refine Ct_of (rk := []) (fn := Try.f202) (args := [Value.pointer p0, Value.int IntKind.i64 p1, Value.int IntKind.i64 p2]) mixedT Try.func202 (by kernel_rfl) ?_
  rw [f202_eq]
  exact h
def f205_vc (p0 : Option Addr) (R : Value → World → Prop) (w : World) : Prop := NN p0 fun A1 => Ld w (Addr.add A1 (0 : Nat)) fun v2 => opP v2 fun a3 => CallW Try.prog []
  (112 : Nat) #[Value.pointer a3] (fun v4 w5 => opI IntKind.i64 v4 fun x6 => Bd (IntKind.wrap IntKind.i64 (x6 - (1 : Int))) fun x7 => Bd (IntKind.wrap IntKind.i64
  (Int.tdiv x7 (2 : Int))) fun x8 => R (Value.int IntKind.i64 x8) w5) w
theorem f205_eq (p0 : Option Addr) (R : Value → World → Prop) (w : World) : fnW Try.prog [] Try.f205 [Value.pointer p0] R w = f205_vc p0 R w := by kernel_rfl
theorem f205_in (p0 : Option Addr) (R : Value → World → Prop) (w : World) (h : f205_vc p0 R w) : Ct Try.prog 205 #[Value.pointer p0] w R := by
  refine Ct_of (rk := []) (fn := Try.f205) (args := [Value.pointer p0]) mixedT Try.func205 (by kernel_rfl) ?_
  rw [f205_eq]
  exact h
def f225_vc (p0 : Int) (p1 : Int) (q0 : Addr) (R : Value → World → Prop) (w : World) : Prop := Bd (IntKind.wrap IntKind.i64 (p1 - (1 : Int))) fun x1 => LoopP (fun l2 l3
  J4 w5 => opI IntKind.i64 (nthD l2 (0 : Nat)) fun x6 => Bd (decide (x6 ≥ (0 : Int))) fun b7 => If b7 (Bd (IntKind.wrap IntKind.i64 ((8 : Int) * x6)) fun x8 => (0 : Int)
  ≤ x8 ∧ Bd (Int.fdiv p0 ((2 : Int) ^ min (Int.toNat x8) (32 : Nat))) fun x9 => Bd (IntKind.wrap IntKind.u8 x9) fun x10 => (Ld (World.drew w5) q0 fun v11 => opL v11 fun
  a12 n13 n14 => Nw (Obj.cells #[Value.int IntKind.u8 x10] (5 : Nat)) (World.drew w5) fun n15 w16 => RunW Try.prog [] (Builtin.append_ #[(51 : Nat), (51 : Nat)] (51 :
  Nat) #[Value.slice a12 n13 n14, Value.slice (some (Addr.mk n15 (0 : Nat) none)) (1 : Nat) (1 : Nat)]) (fun v17 w18 => opL v17 fun a19 n20 n21 => ¬Addr.block q0 ∈ [] ∧
  Wr w18 q0 (1 : Nat) ∧ Bd (IntKind.wrap IntKind.i64 (x6 - (1 : Int))) fun x22 => J4 [Value.int IntKind.i64 x22] [] (setCells w18 q0 (0 : Nat) [Value.slice a19 n20 n21]))
  w16) ∧ Nw (Obj.cells #[Value.int IntKind.u8 x10] (5 : Nat)) (World.drew w5) fun n23 w24 => Ld w24 q0 fun v25 => opL v25 fun a26 n27 n28 => RunW Try.prog []
  (Builtin.append_ #[(51 : Nat), (51 : Nat)] (51 : Nat) #[Value.slice a26 n27 n28, Value.slice (some (Addr.mk n23 (0 : Nat) none)) (1 : Nat) (1 : Nat)]) (fun v29 w30 =>
  opL v29 fun a31 n32 n33 => ¬Addr.block q0 ∈ [] ∧ Wr w30 q0 (1 : Nat) ∧ Bd (IntKind.wrap IntKind.i64 (x6 - (1 : Int))) fun x34 => J4 [Value.int IntKind.i64 x34] []
  (setCells w30 q0 (0 : Nat) [Value.slice a31 n32 n33])) w24) (R (Value.tuple #[]) w5)) [Value.int IntKind.i64 x1] [] w
theorem f225_eq (p0 : Int) (p1 : Int) (q0 : Addr) (R : Value → World → Prop) (w : World) : fnW Try.prog [400003] Try.f225 [Value.int IntKind.u32 p0, Value.int IntKind.i64
  p1, Value.pointer (some q0)] R w = f225_vc p0 p1 q0 R w := by kernel_rfl
theorem f225_in (p0 : Int) (p1 : Int) (q0 : Addr) (R : Value → World → Prop) (w : World) (h : f225_vc p0 p1 q0 R w) : Ct Try.prog 225 #[Value.int IntKind.u32 p0,
  Value.int IntKind.i64 p1, Value.pointer (some q0)] w R := by
  refine Ct_of (rk := [400003]) (fn := Try.f225) (args := [Value.int IntKind.u32 p0, Value.int IntKind.i64 p1, Value.pointer (some q0)]) mixedT Try.func225 (by kernel_rfl) ?_
  rw [f225_eq]
  exact h
def f226_vc (p0a : Option Addr) (p0n : Nat) (p0c : Nat) (R : Value → World → Prop) (w : World) : Prop := Bd ((p0n : Nat) : Int) fun x1 => LoopP (fun l2 l3 J4 w5 => opI
  IntKind.i64 (nthD l2 (0 : Nat)) fun x6 => opI IntKind.i64 (nthD l2 (1 : Nat)) fun x7 => Bd (decide (x7 < x1)) fun b8 => If b8 (IxOk x7 p0n p0a ∧ Ld w5 (adAt p0a x7 (1 :
  Nat)) fun v9 => opI IntKind.u8 v9 fun x10 => Bd (IntKind.wrap IntKind.i64 (x6 * (2 : Int) ^ min (8 : Nat) (64 : Nat))) fun x11 => Bd (IntKind.wrap IntKind.i64 x10) fun
  x12 => Bd (IntKind.wrap IntKind.i64 ↑(BitVec.toNat (BitVec.ofInt (64 : Nat) x11 ||| BitVec.ofInt (64 : Nat) x12))) fun x13 => Bd (IntKind.wrap IntKind.i64 (x7 + (1 :
  Int))) fun x14 => J4 [Value.int IntKind.i64 x13, Value.int IntKind.i64 x14] [] w5) (R (Value.int IntKind.i64 x6) w5)) [Value.int IntKind.i64 (0 : Int), Value.int
  IntKind.i64 (0 : Int)] [] w
theorem f226_eq (p0a : Option Addr) (p0n : Nat) (p0c : Nat) (R : Value → World → Prop) (w : World) : fnW Try.prog [] Try.f226 [Value.slice p0a p0n p0c] R w = f226_vc p0a
  p0n p0c R w := by kernel_rfl
theorem f226_in (p0a : Option Addr) (p0n : Nat) (p0c : Nat) (R : Value → World → Prop) (w : World) (h : f226_vc p0a p0n p0c R w) : Ct Try.prog 226 #[Value.slice p0a p0n
  p0c] w R := by
  refine Ct_of (rk := []) (fn := Try.f226) (args := [Value.slice p0a p0n p0c]) mixedT Try.func226 (by kernel_rfl) ?_
  rw [f226_eq]
  exact h
def f227_vc (p0a : Option Addr) (p0n : Nat) (p0c : Nat) (R : Value → World → Prop) (w : World) : Prop := RunW Try.prog [] (eqS BinOp.eql (51 : Nat) (Operand.tmp (3 :
  Nat)) (Operand.const (Value.slice none (0 : Nat) (0 : Nat))) (Value.slice p0a p0n p0c) (Value.slice none (0 : Nat) (0 : Nat))) (fun v1 w2 => opB v1 fun b3 => If b3 (R
  (Value.slice none (0 : Nat) (0 : Nat)) w2) (Nw (Obj.cells #[] (5 : Nat)) w2 fun n4 w5 => RunW Try.prog [] (Builtin.append_ #[(51 : Nat), (51 : Nat)] (51 : Nat)
  #[Value.slice (some (Addr.mk n4 (0 : Nat) none)) (0 : Nat) (0 : Nat), Value.slice p0a p0n p0c]) (fun v6 w7 => opL v6 fun a8 n9 n10 => R (Value.slice a8 n9 n10) w7) w5))
  w
theorem f227_eq (p0a : Option Addr) (p0n : Nat) (p0c : Nat) (R : Value → World → Prop) (w : World) : fnW Try.prog [] Try.f227 [Value.slice p0a p0n p0c] R w = f227_vc p0a
  p0n p0c R w := by kernel_rfl
theorem f227_in (p0a : Option Addr) (p0n : Nat) (p0c : Nat) (R : Value → World → Prop) (w : World) (h : f227_vc p0a p0n p0c R w) : Ct Try.prog 227 #[Value.slice p0a p0n
  p0c] w R := by
  refine Ct_of (rk := []) (fn := Try.f227) (args := [Value.slice p0a p0n p0c]) mixedT Try.func227 (by kernel_rfl) ?_
  rw [f227_eq]
  exact h
def f128_vc (p0 : Option Addr) (R : Value → World → Prop) (w : World) : Prop := CallW Try.prog [] (196 : Nat) #[Value.pointer p0] (fun v1 w2 => opB v1 fun b3 => ((!b3) =
  true → Option.isSome p0 = true) ∧ Bd (Option.getD p0 default) fun A5 => Gd (!b3) false (fun J6 => Ld w2 (Addr.add A5 (3 : Nat)) fun v7 => opB v7 fun b8 => J6 b8 w2)
  (fun b9 w10 => Bd (bif b3 then true else b9) fun b11 => If b11 (R (Value.int IntKind.i64 (0 : Int)) w10) (Dr (World.drew w10) fun J12 => NN p0 fun A13 => ∃ v14, (∀ (w15
  : World), J12 w15 → Ld w15 (Addr.add A13 (2 : Nat)) fun v17 => v17 = v14) ∧ opI IntKind.i64 v14 fun x18 => CallW Try.prog [] (197 : Nat) #[Value.pointer p0] (fun v19
  w20 => opI IntKind.i64 v19 fun x21 => J12 w20 ∧ Bd (IntKind.wrap IntKind.i64 (x21 - x18)) fun x22 => Bd (IntKind.wrap IntKind.i64 (x22 - (4 : Int))) fun x23 => Bd
  (IntKind.wrap IntKind.i64 (x23 - (4 : Int))) fun x24 => Bd (if (0 : Int) > x24 then (0 : Int) else x24) fun x25 => Bd (if (1048576 : Int) < x25 then (1048576 : Int)
  else x25) fun x26 => R (Value.int IntKind.i64 x26) w20) (World.drew w10))) w2) w
theorem f128_eq (p0 : Option Addr) (R : Value → World → Prop) (w : World) : fnW Try.prog [100003] Try.f128 [Value.pointer p0] R w = f128_vc p0 R w := by kernel_rfl
theorem f128_in (p0 : Option Addr) (R : Value → World → Prop) (w : World) (h : f128_vc p0 R w) : Ct Try.prog 128 #[Value.pointer p0] w R := by
  refine Ct_of (rk := [100003]) (fn := Try.f128) (args := [Value.pointer p0]) mixedT Try.func128 (by kernel_rfl) ?_
  rw [f128_eq]
  exact h
def f129_vc (p0 : Option Addr) (R : Value → World → Prop) (w : World) : Prop := CallW Try.prog [] (196 : Nat) #[Value.pointer p0] (fun v1 w2 => opB v1 fun b3 => Bd (!b3)
  fun b4 => (b4 = true → Option.isSome p0 = true) ∧ Bd (Option.getD p0 default) fun A6 => Gd b4 false (fun J7 => Ld w2 (Addr.add A6 (3 : Nat)) fun v8 => opB v8 fun b9 =>
  J7 b9 w2) (fun b10 w11 => Bd (bif b4 then b10 else false) fun b12 => R (Value.bool b12) w11) w2) w
theorem f129_eq (p0 : Option Addr) (R : Value → World → Prop) (w : World) : fnW Try.prog [] Try.f129 [Value.pointer p0] R w = f129_vc p0 R w := by kernel_rfl
theorem f129_in (p0 : Option Addr) (R : Value → World → Prop) (w : World) (h : f129_vc p0 R w) : Ct Try.prog 129 #[Value.pointer p0] w R := by
  refine Ct_of (rk := []) (fn := Try.f129) (args := [Value.pointer p0]) mixedT Try.func129 (by kernel_rfl) ?_
  rw [f129_eq]
  exact h
end Fk
set_option linter.unusedVariables false
set_option maxRecDepth 1000000
set_option maxHeartbeats 4000000
namespace Fk
open Go Go.Proofs Go.RowKit
def f200_vc (p0 : Option Addr) (p1 : Int) (p2 : Int) (p3a : Option Addr) (p3n : Nat) (p3c : Nat) (R : Value → World → Prop) (w : World) : Prop := Jn (fun l1 l2 w3 => opL
  (nthD l1 (0 : Nat)) fun a4 n5 n6 => Bd (IntKind.wrap IntKind.i64 (Int.tdiv p2 (64 : Int))) fun x7 => LoopP (fun l8 l9 J10 w11 => opB (nthD l8 (0 : Nat)) fun b12 => opI
  IntKind.i64 (nthD l8 (1 : Nat)) fun x13 => Bd (IntKind.wrap IntKind.i64 (x13 * (64 : Int))) fun x14 => Bd ((n5 : Nat) : Int) fun x15 => Bd (IntKind.wrap IntKind.i64 (p2
  + x15)) fun x16 => Bd (decide (x14 < x16)) fun b17 => If b17 (RunW Try.prog [] (Instr.makeSlice (51 : Nat) (Value.int IntKind.i64 (64 : Int)) (Value.int IntKind.i64 (64
  : Int))) (fun v18 w19 => opL v18 fun a20 n21 n22 => Bd (IntKind.wrap IntKind.i64 (x13 * (64 : Int))) fun x23 => Jn (fun l24 l25 w26 => Bd ((n21 : Nat) : Int) fun x27 =>
  LoopP (fun l28 l29 J30 w31 => opI IntKind.i64 (nthD l28 (0 : Nat)) fun x32 => Bd (decide (x32 < x27)) fun b33 => If b33 (Jn (fun l34 l35 w36 => opI IntKind.i64 (nthD
  l34 (0 : Nat)) fun x37 => opI IntKind.i64 (nthD l34 (1 : Nat)) fun x38 => Bd (IntKind.wrap IntKind.i64 (x32 + (1 : Int))) fun x39 => J30 [Value.int IntKind.i64 x39] []
  w36) fun J40 => Bd (IntKind.wrap IntKind.i64 (x23 + x32)) fun x41 => Bd (IntKind.wrap IntKind.i64 (x41 - p2)) fun x42 => Bd (decide (x42 ≥ (0 : Int))) fun b43 => Bd
  ((n5 : Nat) : Int) fun x44 => Bd (decide (x42 < x44)) fun b45 => Bd (bif b43 then b45 else false) fun b46 => If b46 (IxOk x42 n5 a4 ∧ Ld w31 (adAt a4 x42 (1 : Nat)) fun
  v47 => opI IntKind.u8 v47 fun x48 => IxOk x32 n21 a20 ∧ ¬Addr.block (adAt a20 x32 (1 : Nat)) ∈ [] ∧ Wr w31 (adAt a20 x32 (1 : Nat)) (1 : Nat) ∧ J40 [Value.int
  IntKind.i64 x32, Value.int IntKind.i64 x42] [] (setCells w31 (adAt a20 x32 (1 : Nat)) (0 : Nat) [Value.int IntKind.u8 x48])) (J40 [Value.int IntKind.i64 x32, Value.int
  IntKind.i64 x42] [] w31)) (Jn (fun l49 l50 w51 => opB (nthD l49 (0 : Nat)) fun b52 => If b52 (R (Value.bool false) w51) (Bd (IntKind.wrap IntKind.i64 (x13 + (1 : Int)))
  fun x53 => J10 [Value.bool b12, Value.int IntKind.i64 x53] [] w51)) fun J54 => Dr (World.drew w31) fun J55 => NN p0 fun A56 => ∃ v57, (∀ (w58 : World), J55 w58 → Ld w58
  (Addr.add A56 (0 : Nat)) fun v60 => v60 = v57) ∧ opP v57 fun a61 => CallW Try.prog [] (202 : Nat) #[Value.pointer p0, Value.int IntKind.i64 p1, Value.int IntKind.i64
  x13] (fun v62 w63 => opI IntKind.i64 v62 fun x64 => J55 w63 ∧ CallW Try.prog [] (114 : Nat) #[Value.pointer a61, Value.int IntKind.i64 x64, Value.slice a20 n21 n22]
  (fun v65 w66 => opI IntKind.i64 v65 fun x67 => J55 w66 ∧ Bd (x67 != (0 : Int)) fun b68 => J54 [Value.bool b68] [] w66) w63) (World.drew w31))) [Value.int IntKind.i64 (0
  : Int)] [] w26) fun J69 => Bd (decide (x23 < p2)) fun b70 => If b70 (Jn (fun l71 l72 w73 => opI IntKind.i64 (nthD l71 (0 : Nat)) fun x74 => opL (nthD l71 (1 : Nat)) fun
  a75 n76 n77 => Bd (IntKind.wrap IntKind.i64 (p2 - x23)) fun x78 => RunW Try.prog [] (Instr.sliceAt (51 : Nat) (Value.slice a75 n76 n77) none (some (Value.int
  IntKind.i64 x78)) none) (fun v79 w80 => opL v79 fun a81 n82 n83 => RunW Try.prog [] (Builtin.copy_ #[(51 : Nat), (51 : Nat)] (3 : Nat) #[Value.slice a20 n21 n22,
  Value.slice a81 n82 n83]) (fun v84 w85 => opI IntKind.i64 v84 fun x86 => J69 [] [] w85) w80) w73) fun J87 => Dr (World.drew w19) fun J88 => NN p0 fun A89 => ∃ v90, (∀
  (w91 : World), J88 w91 → Ld w91 (Addr.add A89 (0 : Nat)) fun v93 => v93 = v90) ∧ opP v90 fun a94 => CallW Try.prog [] (202 : Nat) #[Value.pointer p0, Value.int
  IntKind.i64 p1, Value.int IntKind.i64 x13] (fun v95 w96 => opI IntKind.i64 v95 fun x97 => J88 w96 ∧ CallW Try.prog [] (119 : Nat) #[Value.pointer a94, Value.int
  IntKind.i64 x97] (fun v98 w99 => opTu v98 fun cs100 => opL (nthD (Array.toList cs100) (0 : Nat)) fun a101 n102 n103 => opI IntKind.i64 (nthD (Array.toList cs100) (1 :
  Nat)) fun x104 => SzIs (Array.size cs100) (2 : Nat) (J88 w99 ∧ J87 [Value.int IntKind.i64 x104, Value.slice a101 n102 n103] [] w99)) w96) (World.drew w19)) (J69 [] []
  w19)) w11) (NN p0 fun A105 => Ld w11 (Addr.add A105 (0 : Nat)) fun v106 => opP v106 fun a107 => CallW Try.prog [] (103 : Nat) #[Value.pointer a107] (fun v108 w109 =>
  opI IntKind.i64 v108 fun x110 => Bd (x110 == (0 : Int)) fun b111 => R (Value.bool b111) w109) w11)) [Value.bool false, Value.int IntKind.i64 x7] [] w3) fun J112 => Bd
  ((p3n : Nat) : Int) fun x113 => Bd (IntKind.wrap IntKind.i64 (p2 + x113)) fun x114 => CallW Try.prog [] (197 : Nat) #[Value.pointer p0] (fun v115 w116 => opI
  IntKind.i64 v115 fun x117 => Bd (decide (x114 < x117)) fun b118 => If b118 (Nw (Obj.cells #[Value.int IntKind.u8 (0 : Int)] (5 : Nat)) w116 fun n119 w120 => RunW
  Try.prog [] (Builtin.append_ #[(51 : Nat), (51 : Nat)] (51 : Nat) #[Value.slice p3a p3n p3c, Value.slice (some (Addr.mk n119 (0 : Nat) none)) (1 : Nat) (1 : Nat)]) (fun
  v121 w122 => opL v121 fun a123 n124 n125 => J112 [Value.slice a123 n124 n125] [] w122) w120) (J112 [Value.slice p3a p3n p3c] [] w116)) w
theorem f200_eq (p0 : Option Addr) (p1 : Int) (p2 : Int) (p3a : Option Addr) (p3n : Nat) (p3c : Nat) (R : Value → World → Prop) (w : World) : fnW Try.prog [100009,
  100018] Try.f200 [Value.pointer p0, Value.int IntKind.i64 p1, Value.int IntKind.i64 p2, Value.slice p3a p3n p3c] R w = f200_vc p0 p1 p2 p3a p3n p3c R w := by kernel_rfl
theorem f200_in (p0 : Option Addr) (p1 : Int) (p2 : Int) (p3a : Option Addr) (p3n : Nat) (p3c : Nat) (R : Value → World → Prop) (w : World) (h : f200_vc p0 p1 p2 p3a p3n
  p3c R w) : Ct Try.prog 200 #[Value.pointer p0, Value.int IntKind.i64 p1, Value.int IntKind.i64 p2, Value.slice p3a p3n p3c] w R := by
  refine Ct_of (rk := [100009, 100018]) (fn := Try.f200) (args := [Value.pointer p0, Value.int IntKind.i64 p1, Value.int IntKind.i64 p2, Value.slice p3a p3n p3c]) mixedT Try.func200 (by kernel_rfl) ?_
  rw [f200_eq]
  exact h
def f206_vc (p0a : Option Addr) (p0n : Nat) (p0c : Nat) (R : Value → World → Prop) (w : World) : Prop := LoopP (fun l1 l2 J3 w4 => opL (nthD l1 (0 : Nat)) fun a5 n6 n7 =>
  opI IntKind.i64 (nthD l1 (1 : Nat)) fun x8 => opB (nthD l1 (2 : Nat)) fun b9 => opL (nthD l1 (3 : Nat)) fun a10 n11 n12 => opI IntKind.i64 (nthD l1 (4 : Nat)) fun x13
  => Bd ((p0n : Nat) : Int) fun x14 => Bd (decide (x13 < x14)) fun b15 => (b15 = true → IxOk x13 p0n p0a) ∧ Gd b15 (0 : Int) (fun J17 => Ld w4 (adAt p0a x13 (1 : Nat))
  fun v18 => opI IntKind.u8 v18 fun x19 => J17 x19 w4) (fun x20 w21 => Bd (x20 != (0 : Int)) fun b22 => Bd (bif b15 then b22 else false) fun b23 => If b23 (IxOk x13 p0n
  p0a ∧ Ld w21 (adAt p0a x13 (1 : Nat)) fun v24 => opI IntKind.u8 v24 fun x25 => Bd (x25 != (1 : Int)) fun b26 => Bd ((p0n : Nat) : Int) fun x27 => Bd (IntKind.wrap
  IntKind.i64 (x27 - x13)) fun x28 => Bd (decide (x28 < (4 : Int))) fun b29 => Bd (bif b26 then true else b29) fun b30 => If b30 (R (Value.tuple #[Value.slice none (0 :
  Nat) (0 : Nat), Value.int IntKind.i64 (0 : Int), Value.bool false]) w21) (Bd (IntKind.wrap IntKind.i64 (x13 + (1 : Int))) fun x31 => Bd (IntKind.wrap IntKind.i64 (x13 +
  (4 : Int))) fun x32 => RunW Try.prog [] (Instr.sliceAt (51 : Nat) (Value.slice p0a p0n p0c) (some (Value.int IntKind.i64 x31)) (some (Value.int IntKind.i64 x32)) none)
  (fun v33 w34 => opL v33 fun a35 n36 n37 => CallW Try.prog [] (226 : Nat) #[Value.slice a35 n36 n37] (fun v38 w39 => opI IntKind.i64 v38 fun x40 => Bd (decide (x40 < (1
  : Int))) fun b41 => Bd (decide (x40 > (1048576 : Int))) fun b42 => Bd (bif b41 then true else b42) fun b43 => Bd ((p0n : Nat) : Int) fun x44 => Bd (IntKind.wrap
  IntKind.i64 (x44 - x13)) fun x45 => Bd (IntKind.wrap IntKind.i64 (x45 - (4 : Int))) fun x46 => Bd (IntKind.wrap IntKind.i64 (x46 - (4 : Int))) fun x47 => Bd (decide
  (x40 > x47)) fun b48 => Bd (bif b43 then true else b48) fun b49 => If b49 (R (Value.tuple #[Value.slice none (0 : Nat) (0 : Nat), Value.int IntKind.i64 (0 : Int),
  Value.bool false]) w39) (Bd (IntKind.wrap IntKind.i64 (x13 + (4 : Int))) fun x50 => Bd (IntKind.wrap IntKind.i64 (x50 + x40)) fun x51 => Jn (fun l52 l53 w54 => opB
  (nthD l52 (0 : Nat)) fun b55 => If b55 (R (Value.tuple #[Value.slice none (0 : Nat) (0 : Nat), Value.int IntKind.i64 (0 : Int), Value.bool false]) w54) (Bd
  (IntKind.wrap IntKind.i64 (x13 + (4 : Int))) fun x56 => RunW Try.prog [] (Instr.sliceAt (51 : Nat) (Value.slice p0a p0n p0c) (some (Value.int IntKind.i64 x56)) (some
  (Value.int IntKind.i64 x51)) none) (fun v57 w58 => opL v57 fun a59 n60 n61 => CallW Try.prog [] (227 : Nat) #[Value.slice a59 n60 n61] (fun v62 w63 => opL v62 fun a64
  n65 n66 => Nw (Obj.cells #[Value.slice a64 n65 n66] (51 : Nat)) w63 fun n67 w68 => RunW Try.prog [] (Builtin.append_ #[(172 : Nat), (172 : Nat)] (172 : Nat)
  #[Value.slice a10 n11 n12, Value.slice (some (Addr.mk n67 (0 : Nat) none)) (1 : Nat) (1 : Nat)]) (fun v69 w70 => opL v69 fun a71 n72 n73 => Bd (IntKind.wrap IntKind.i64
  (x51 + (4 : Int))) fun x74 => J3 [Value.slice a5 n6 n7, Value.int IntKind.i64 x8, Value.bool b9, Value.slice a71 n72 n73, Value.int IntKind.i64 x74] [] w70) w68) w58)
  w54)) fun J75 => Dr (World.drew w39) fun J76 => Bd (IntKind.wrap IntKind.i64 (x51 + (4 : Int))) fun x77 => ∃ v78, (∀ (w79 : World), J76 w79 → RunV Try.prog
  (Instr.sliceAt (51 : Nat) (Value.slice p0a p0n p0c) (some (Value.int IntKind.i64 x51)) (some (Value.int IntKind.i64 x77)) none) v78 w79) ∧ opL v78 fun a81 n82 n83 => Bd
  (IntKind.wrap IntKind.i64 (x13 + (1 : Int))) fun x84 => ∃ v85, (∀ (w86 : World), J76 w86 → RunV Try.prog (Instr.sliceAt (51 : Nat) (Value.slice p0a p0n p0c) (some
  (Value.int IntKind.i64 x84)) (some (Value.int IntKind.i64 x51)) none) v85 w86) ∧ opL v85 fun a88 n89 n90 => CallW Try.prog [] (226 : Nat) #[Value.slice a81 n82 n83]
  (fun v91 w92 => opI IntKind.i64 v91 fun x93 => J76 w92 ∧ Bd (IntKind.wrap IntKind.u32 x93) fun x94 => CallW Try.prog [] (138 : Nat) #[Value.slice a88 n89 n90] (fun v95
  w96 => opI IntKind.u32 v95 fun x97 => J76 w96 ∧ Bd (x94 != x97) fun b98 => J75 [Value.bool b98] [] w96) w92) (World.drew w39))) w34) w21)) (R (Value.tuple #[Value.slice
  a10 n11 n12, Value.int IntKind.i64 x13, Value.bool true]) w21)) w4) [Value.slice none (0 : Nat) (0 : Nat), Value.int IntKind.i64 (0 : Int), Value.bool false,
  Value.slice none (0 : Nat) (0 : Nat), Value.int IntKind.i64 (0 : Int)] [] w
theorem f206_eq (p0a : Option Addr) (p0n : Nat) (p0c : Nat) (R : Value → World → Prop) (w : World) : fnW Try.prog [100010] Try.f206 [Value.slice p0a p0n p0c] R w =
  f206_vc p0a p0n p0c R w := by kernel_rfl
theorem f206_in (p0a : Option Addr) (p0n : Nat) (p0c : Nat) (R : Value → World → Prop) (w : World) (h : f206_vc p0a p0n p0c R w) : Ct Try.prog 206 #[Value.slice p0a p0n
  p0c] w R := by
  refine Ct_of (rk := [100010]) (fn := Try.f206) (args := [Value.slice p0a p0n p0c]) mixedT Try.func206 (by kernel_rfl) ?_
  rw [f206_eq]
  exact h
def f136_vc (p0 : Option Addr) (R : Value → World → Prop) (w : World) : Prop := CallW Try.prog [] (112 : Nat) #[Value.pointer p0] (fun v1 w2 => opI IntKind.i64 v1 fun x3
  => Bd (x3 == (0 : Int)) fun b4 => If b4 (R (Value.tuple #[Value.pointer none, Value.slice none (0 : Nat) (0 : Nat), Value.int IntKind.i64 (1 : Int)]) w2) (Bd (decide
  (x3 < (3 : Int))) fun b5 => If b5 (R (Value.tuple #[Value.pointer none, Value.slice none (0 : Nat) (0 : Nat), Value.int IntKind.i64 (2 : Int)]) w2) (Nw (Obj.cells
  #[Value.pointer p0, Value.int IntKind.i64 (0 : Int), Value.int IntKind.i64 (0 : Int), Value.bool false] (260 : Nat)) w2 fun n6 w7 => CallW Try.prog [] (119 : Nat)
  #[Value.pointer p0, Value.int IntKind.i64 (0 : Int)] (fun v8 w9 => opTu v8 fun cs10 => opL (nthD (Array.toList cs10) (0 : Nat)) fun a11 n12 n13 => opI IntKind.i64 (nthD
  (Array.toList cs10) (1 : Nat)) fun x14 => SzIs (Array.size cs10) (2 : Nat) (IxOk (0 : Int) n12 a11 ∧ Ld w9 (adAt a11 (0 : Int) (1 : Nat)) fun v15 => opI IntKind.u8 v15
  fun x16 => Bd (IntKind.wrap IntKind.u8 ↑(BitVec.toNat (BitVec.ofInt (8 : Nat) x16 &&& BitVec.ofInt (8 : Nat) (1 : Int)))) fun x17 => Bd (IntKind.wrap IntKind.i64 x17)
  fun x18 => NN (some (Addr.mk n6 (0 : Nat) none)) fun A19 => ¬Addr.block A19 ∈ [] ∧ Wr w9 (Addr.add A19 (1 : Nat)) (1 : Nat) ∧ CallW Try.prog [] (205 : Nat)
  #[Value.pointer (some (Addr.mk n6 (0 : Nat) none))] (fun v20 w21 => opI IntKind.i64 v20 fun x22 => LoopP (fun l23 l24 J25 w26 => opL (nthD l23 (0 : Nat)) fun a27 n28
  n29 => opI IntKind.i64 (nthD l23 (1 : Nat)) fun x30 => Bd (decide (x30 < x22)) fun b31 => If b31 (NN (some (Addr.mk n6 (0 : Nat) none)) fun A32 => Ld w26 (Addr.add A32
  (1 : Nat)) fun v33 => opI IntKind.i64 v33 fun x34 => CallW Try.prog [] (202 : Nat) #[Value.pointer (some (Addr.mk n6 (0 : Nat) none)), Value.int IntKind.i64 x34,
  Value.int IntKind.i64 x30] (fun v35 w36 => opI IntKind.i64 v35 fun x37 => CallW Try.prog [] (119 : Nat) #[Value.pointer p0, Value.int IntKind.i64 x37] (fun v38 w39 =>
  opTu v38 fun cs40 => opL (nthD (Array.toList cs40) (0 : Nat)) fun a41 n42 n43 => opI IntKind.i64 (nthD (Array.toList cs40) (1 : Nat)) fun x44 => SzIs (Array.size cs40)
  (2 : Nat) (RunW Try.prog [] (Builtin.append_ #[(51 : Nat), (51 : Nat)] (51 : Nat) #[Value.slice a27 n28 n29, Value.slice a41 n42 n43]) (fun v45 w46 => opL v45 fun a47
  n48 n49 => Bd (IntKind.wrap IntKind.i64 (x30 + (1 : Int))) fun x50 => J25 [Value.slice a47 n48 n49, Value.int IntKind.i64 x50] [] w46) w39)) w36) w26) (CallW Try.prog
  [] (206 : Nat) #[Value.slice a27 n28 n29] (fun v51 w52 => opTu v51 fun cs53 => opL (nthD (Array.toList cs53) (0 : Nat)) fun a54 n55 n56 => opI IntKind.i64 (nthD
  (Array.toList cs53) (1 : Nat)) fun x57 => opB (nthD (Array.toList cs53) (2 : Nat)) fun b58 => SzIs (Array.size cs53) (3 : Nat) (Bd (!b58) fun b59 => If b59 (R
  (Value.tuple #[Value.pointer none, Value.slice none (0 : Nat) (0 : Nat), Value.int IntKind.i64 (210 : Int)]) w52) (NN (some (Addr.mk n6 (0 : Nat) none)) fun A60 =>
  ¬Addr.block A60 ∈ [] ∧ Wr w52 (Addr.add A60 (2 : Nat)) (1 : Nat) ∧ R (Value.tuple #[Value.pointer (some (Addr.mk n6 (0 : Nat) none)), Value.slice a54 n55 n56, Value.int
  IntKind.i64 (0 : Int)]) (setCells w52 (Addr.add A60 (2 : Nat)) (0 : Nat) [Value.int IntKind.i64 x57])))) w26)) [Value.slice none (0 : Nat) (0 : Nat), Value.int
  IntKind.i64 (0 : Int)] [] w21) (setCells w9 (Addr.add A19 (1 : Nat)) (0 : Nat) [Value.int IntKind.i64 x18]))) w7))) w
theorem f136_eq (p0 : Option Addr) (R : Value → World → Prop) (w : World) : fnW Try.prog [] Try.f136 [Value.pointer p0] R w = f136_vc p0 R w := by kernel_rfl
theorem f136_in (p0 : Option Addr) (R : Value → World → Prop) (w : World) (h : f136_vc p0 R w) : Ct Try.prog 136 #[Value.pointer p0] w R := by
  refine Ct_of (rk := []) (fn := Try.f136) (args := [Value.pointer p0]) mixedT Try.func136 (by kernel_rfl) ?_
  rw [f136_eq]
  exact h
def f124_vc (p0 : Option Addr) (p1a : Option Addr) (p1n : Nat) (p1c : Nat) (R : Value → World → Prop) (w : World) : Prop := Jn (fun l1 l2 w3 => opI IntKind.i64 (nthD l1
  (0 : Nat)) fun x4 => Nw (Obj.cells #[Value.slice p1a p1n p1c] (51 : Nat)) w3 fun n5 w6 => CallW Try.prog [] (198 : Nat) #[Value.pointer p0, Value.slice (some (Addr.mk
  n5 (0 : Nat) none)) (1 : Nat) (1 : Nat), Value.int IntKind.i64 x4] (fun v7 w8 => opI IntKind.i64 v7 fun x9 => Bd (x9 != (0 : Int)) fun b10 => If b10 (R (Value.int
  IntKind.i64 x9) w8) (CallW Try.prog [] (199 : Nat) #[Value.slice p1a p1n p1c, Value.int IntKind.u8 (0 : Int)] (fun v11 w12 => opL v11 fun a13 n14 n15 => Jn (fun l16 l17
  w18 => opB (nthD l16 (0 : Nat)) fun b19 => If b19 (NN p0 fun A20 => ¬Addr.block A20 ∈ [] ∧ Wr w18 (Addr.add A20 (3 : Nat)) (1 : Nat) ∧ R (Value.int IntKind.i64 (200 :
  Int)) (setCells w18 (Addr.add A20 (3 : Nat)) (0 : Nat) [Value.bool true])) (NN p0 fun A21 => Ld w18 (Addr.add A21 (2 : Nat)) fun v22 => opI IntKind.i64 v22 fun x23 =>
  Bd ((n14 : Nat) : Int) fun x24 => Bd (IntKind.wrap IntKind.i64 (x23 + x24)) fun x25 => NN p0 fun A26 => ¬Addr.block A26 ∈ [] ∧ Wr w18 (Addr.add A26 (2 : Nat)) (1 : Nat)
  ∧ R (Value.int IntKind.i64 (0 : Int)) (setCells w18 (Addr.add A26 (2 : Nat)) (0 : Nat) [Value.int IntKind.i64 x25]))) fun J27 => Dr (World.drew w12) fun J28 => NN p0
  fun A29 => ∃ v30, (∀ (w31 : World), J28 w31 → Ld w31 (Addr.add A29 (1 : Nat)) fun v33 => v33 = v30) ∧ opI IntKind.i64 v30 fun x34 => NN p0 fun A35 => ∃ v36, (∀ (w37 :
  World), J28 w37 → Ld w37 (Addr.add A35 (2 : Nat)) fun v39 => v39 = v36) ∧ opI IntKind.i64 v36 fun x40 => CallW Try.prog [] (200 : Nat) #[Value.pointer p0, Value.int
  IntKind.i64 x34, Value.int IntKind.i64 x40, Value.slice a13 n14 n15] (fun v41 w42 => opB v41 fun b43 => J28 w42 ∧ Bd (!b43) fun b44 => ((!b44) = true → Option.isSome p0
  = true) ∧ Bd (Option.getD p0 default) fun A46 => ∃ x47, ((!b44) = true → ∀ (w49 : World), J28 w49 → Ld w49 (Addr.add A46 (1 : Nat)) fun v51 => v51 = Value.int
  IntKind.i64 x47) ∧ ((!b44) = true → Option.isSome p0 = true) ∧ Bd (Option.getD p0 default) fun A53 => ∃ x54, ((!b44) = true → ∀ (w56 : World), J28 w56 → Ld w56
  (Addr.add A53 (2 : Nat)) fun v58 => v58 = Value.int IntKind.i64 x54) ∧ Bd (IntKind.wrap IntKind.i64 (Int.tdiv x54 (64 : Int))) fun x59 => ((!b44) = true → Option.isSome
  p0 = true) ∧ Bd (Option.getD p0 default) fun A61 => ∃ x62, ((!b44) = true → ∀ (w64 : World), J28 w64 → Ld w64 (Addr.add A61 (2 : Nat)) fun v66 => v66 = Value.int
  IntKind.i64 x62) ∧ Bd (Int.tmod x62 (64 : Int)) fun x67 => Gd (!b44) (0 : Int) (fun J68 => CallW Try.prog [] (202 : Nat) #[Value.pointer p0, Value.int IntKind.i64 x47,
  Value.int IntKind.i64 x59] (fun v69 w70 => opI IntKind.i64 v69 fun x71 => J68 x71 w70) w42) (fun x72 w73 => J28 w73 ∧ Gd (!b44) false (fun J74 => CallW Try.prog [] (201
  : Nat) #[Value.pointer p0, Value.int IntKind.i64 x72, Value.int IntKind.i64 x67, Value.int IntKind.u8 (1 : Int)] (fun v75 w76 => opB v75 fun b77 => J74 b77 w76) w73)
  (fun b78 w79 => J28 w79 ∧ Bd (!b78) fun b80 => Bd (bif b44 then true else b80) fun b81 => J27 [Value.bool b81] [] w79) w73) w42) (World.drew w12)) w8)) w6) fun J82 =>
  CallW Try.prog [] (196 : Nat) #[Value.pointer p0] (fun v83 w84 => opB v83 fun b85 => Bd (!b85) fun b86 => If b86 (Dr (World.drew w84) fun J87 => NN p0 fun A88 => ∃ v89,
  (∀ (w90 : World), J87 w90 → Ld w90 (Addr.add A88 (2 : Nat)) fun v92 => v92 = v89) ∧ opI IntKind.i64 v89 fun x93 => CallW Try.prog [] (197 : Nat) #[Value.pointer p0]
  (fun v94 w95 => opI IntKind.i64 v94 fun x96 => J87 w95 ∧ Bd (IntKind.wrap IntKind.i64 (x96 - x93)) fun x97 => J82 [Value.int IntKind.i64 x97] [] w95) (World.drew w84))
  (J82 [Value.int IntKind.i64 (0 : Int)] [] w84)) w
theorem f124_eq (p0 : Option Addr) (p1a : Option Addr) (p1n : Nat) (p1c : Nat) (R : Value → World → Prop) (w : World) : fnW Try.prog [100003, 100008] Try.f124
  [Value.pointer p0, Value.slice p1a p1n p1c] R w = f124_vc p0 p1a p1n p1c R w := by kernel_rfl
theorem f124_in (p0 : Option Addr) (p1a : Option Addr) (p1n : Nat) (p1c : Nat) (R : Value → World → Prop) (w : World) (h : f124_vc p0 p1a p1n p1c R w) : Ct Try.prog 124
  #[Value.pointer p0, Value.slice p1a p1n p1c] w R := by
  refine Ct_of (rk := [100003, 100008]) (fn := Try.f124) (args := [Value.pointer p0, Value.slice p1a p1n p1c]) mixedT Try.func124 (by kernel_rfl) ?_
  rw [f124_eq]
  exact h
end Fk
set_option linter.unusedVariables false
set_option maxRecDepth 1000000
set_option maxHeartbeats 4000000
namespace Fk
open Go Go.Proofs Go.RowKit
def f123_vc (p0 : Int) (p1 : Int) (R : Value → World → Prop) (w : World) : Prop := Nw (Obj.cells #[Value.int IntKind.u8 p1] (5 : Nat)) w fun n1 w2 => Bd (if (2000 : Int)
  < p0 then (2000 : Int) else p0) fun x3 => Bd (if x3 > (0 : Int) then x3 else (0 : Int)) fun x4 => CallW Try.prog [] (193 : Nat) #[Value.slice (some (Addr.mk n1 (0 :
  Nat) none)) (1 : Nat) (1 : Nat), Value.int IntKind.i64 x4] (fun v5 w6 => opL v5 fun a7 n8 n9 => Bd ((n8 : Nat) : Int) fun x10 => LoopP (fun l11 l12 J13 w14 => opI
  IntKind.i64 (nthD l11 (0 : Nat)) fun x15 => Bd (decide (x15 < x10)) fun b16 => If b16 (IxOk x15 n8 a7 ∧ Ld w14 (adAt a7 x15 (1 : Nat)) fun v17 => opI IntKind.u8 v17 fun
  x18 => Bd (IntKind.wrap IntKind.i64 ((3 : Int) * x15)) fun x19 => Bd (IntKind.wrap IntKind.u8 x19) fun x20 => Bd (IntKind.wrap IntKind.u8 (x18 + x20)) fun x21 => IxOk
  x15 n8 a7 ∧ ¬Addr.block (adAt a7 x15 (1 : Nat)) ∈ [] ∧ Wr w14 (adAt a7 x15 (1 : Nat)) (1 : Nat) ∧ Bd (IntKind.wrap IntKind.i64 (x15 + (1 : Int))) fun x22 => J13
  [Value.int IntKind.i64 x22] [] (setCells w14 (adAt a7 x15 (1 : Nat)) (0 : Nat) [Value.int IntKind.u8 x21])) (R (Value.slice a7 n8 n9) w14)) [Value.int IntKind.i64 (0 :
  Int)] [] w6) w2
theorem f123_eq (p0 : Int) (p1 : Int) (R : Value → World → Prop) (w : World) : fnW Try.prog [] Try.f123 [Value.int IntKind.i64 p0, Value.int IntKind.u8 p1] R w = f123_vc
  p0 p1 R w := by kernel_rfl
theorem f123_in (p0 : Int) (p1 : Int) (R : Value → World → Prop) (w : World) (h : f123_vc p0 p1 R w) : Ct Try.prog 123 #[Value.int IntKind.i64 p0, Value.int IntKind.u8
  p1] w R := by
  refine Ct_of (rk := []) (fn := Try.f123) (args := [Value.int IntKind.i64 p0, Value.int IntKind.u8 p1]) mixedT Try.func123 (by kernel_rfl) ?_
  rw [f123_eq]
  exact h
def f135_vc (p0a : Option Addr) (p0n : Nat) (p0c : Nat) (R : Value → World → Prop) (w : World) : Prop := Bd ((p0n : Nat) : Int) fun x1 => LoopP (fun l2 l3 J4 w5 => opL
  (nthD l2 (0 : Nat)) fun a6 n7 n8 => opI IntKind.i64 (nthD l2 (1 : Nat)) fun x9 => Bd (decide (x9 < x1)) fun b10 => If b10 (IxOk x9 p0n p0a ∧ Ld w5 (adAt p0a x9 (1 :
  Nat)) fun v11 => opL v11 fun a12 n13 n14 => RunW Try.prog [] (convert (51 : Nat) (9 : Nat) (Value.slice a12 n13 n14)) (fun v15 w16 => opStr v15 fun s17 => Nw (Obj.cells
  #[Value.string s17] (9 : Nat)) w16 fun n18 w19 => RunW Try.prog [] (Builtin.append_ #[(55 : Nat), (55 : Nat)] (55 : Nat) #[Value.slice a6 n7 n8, Value.slice (some
  (Addr.mk n18 (0 : Nat) none)) (1 : Nat) (1 : Nat)]) (fun v20 w21 => opL v20 fun a22 n23 n24 => Bd (IntKind.wrap IntKind.i64 (x9 + (1 : Int))) fun x25 => J4 [Value.slice
  a22 n23 n24, Value.int IntKind.i64 x25] [] w21) w19) w5) (R (Value.slice a6 n7 n8) w5)) [Value.slice none (0 : Nat) (0 : Nat), Value.int IntKind.i64 (0 : Int)] [] w
theorem f135_eq (p0a : Option Addr) (p0n : Nat) (p0c : Nat) (R : Value → World → Prop) (w : World) : fnW Try.prog [] Try.f135 [Value.slice p0a p0n p0c] R w = f135_vc p0a
  p0n p0c R w := by kernel_rfl
theorem f135_in (p0a : Option Addr) (p0n : Nat) (p0c : Nat) (R : Value → World → Prop) (w : World) (h : f135_vc p0a p0n p0c R w) : Ct Try.prog 135 #[Value.slice p0a p0n
  p0c] w R := by
  refine Ct_of (rk := []) (fn := Try.f135) (args := [Value.slice p0a p0n p0c]) mixedT Try.func135 (by kernel_rfl) ?_
  rw [f135_eq]
  exact h
def f140_vc (p0a : Option Addr) (p0n : Nat) (p0c : Nat) (p1a : Option Addr) (p1n : Nat) (p1c : Nat) (R : Value → World → Prop) (w : World) : Prop := Bd ((p0n : Nat) :
  Int) fun x1 => Bd ((p1n : Nat) : Int) fun x2 => Bd (x1 != x2) fun b3 => If b3 (R (Value.bool false) w) (Bd ((p0n : Nat) : Int) fun x4 => LoopP (fun l5 l6 J7 w8 => opB
  (nthD l5 (0 : Nat)) fun b9 => opI IntKind.i64 (nthD l5 (1 : Nat)) fun x10 => Bd (decide (x10 < x4)) fun b11 => If b11 (Dr (World.drew w8) fun J12 => IxOk x10 p0n p0a ∧
  ∃ v13, (∀ (w14 : World), J12 w14 → Ld w14 (adAt p0a x10 (1 : Nat)) fun v16 => v16 = v13) ∧ opL v13 fun a17 n18 n19 => ∃ v20, (∀ (w21 : World), J12 w21 → RunV Try.prog
  (convert (51 : Nat) (9 : Nat) (Value.slice a17 n18 n19)) v20 w21) ∧ opStr v20 fun s23 => IxOk x10 p1n p1a ∧ ∃ v24, (∀ (w25 : World), J12 w25 → Ld w25 (adAt p1a x10 (1 :
  Nat)) fun v27 => v27 = v24) ∧ opStr v24 fun s28 => Bd (!ByteArray.toList s23 == ByteArray.toList s28) fun b29 => If b29 (R (Value.bool false) (World.drew w8)) (Bd
  (IntKind.wrap IntKind.i64 (x10 + (1 : Int))) fun x30 => J7 [Value.bool b9, Value.int IntKind.i64 x30] [] (World.drew w8))) (R (Value.bool true) w8)) [Value.bool false,
  Value.int IntKind.i64 (0 : Int)] [] w)
theorem f140_eq (p0a : Option Addr) (p0n : Nat) (p0c : Nat) (p1a : Option Addr) (p1n : Nat) (p1c : Nat) (R : Value → World → Prop) (w : World) : fnW Try.prog [100006]
  Try.f140 [Value.slice p0a p0n p0c, Value.slice p1a p1n p1c] R w = f140_vc p0a p0n p0c p1a p1n p1c R w := by kernel_rfl
theorem f140_in (p0a : Option Addr) (p0n : Nat) (p0c : Nat) (p1a : Option Addr) (p1n : Nat) (p1c : Nat) (R : Value → World → Prop) (w : World) (h : f140_vc p0a p0n p0c
  p1a p1n p1c R w) : Ct Try.prog 140 #[Value.slice p0a p0n p0c, Value.slice p1a p1n p1c] w R := by
  refine Ct_of (rk := [100006]) (fn := Try.f140) (args := [Value.slice p0a p0n p0c, Value.slice p1a p1n p1c]) mixedT Try.func140 (by kernel_rfl) ?_
  rw [f140_eq]
  exact h
def f125_vc (R : Value → World → Prop) (w : World) : Prop := CallW Try.prog [] (109 : Nat) #[Value.int IntKind.i64 (3 : Int)] (fun v1 w2 => opTu v1 fun cs3 => opP (nthD
  (Array.toList cs3) (0 : Nat)) fun a4 => opI IntKind.i64 (nthD (Array.toList cs3) (1 : Nat)) fun x5 => SzIs (Array.size cs3) (2 : Nat) (CallW Try.prog [] (136 : Nat)
  #[Value.pointer a4] (fun v6 w7 => opTu v6 fun cs8 => opP (nthD (Array.toList cs8) (0 : Nat)) fun a9 => opL (nthD (Array.toList cs8) (1 : Nat)) fun a10 n11 n12 => opI
  IntKind.i64 (nthD (Array.toList cs8) (2 : Nat)) fun x13 => SzIs (Array.size cs8) (3 : Nat) (Nw (Obj.cells #[Value.int IntKind.u8 (97 : Int), Value.int IntKind.u8 (98 :
  Int)] (5 : Nat)) w7 fun n14 w15 => RunW Try.prog [] (convert (51 : Nat) (51 : Nat) (Value.slice (some (Addr.mk n14 (0 : Nat) none)) (2 : Nat) (2 : Nat))) (fun v16 w17
  => opL v16 fun a18 n19 n20 => CallW Try.prog [] (124 : Nat) #[Value.pointer a9, Value.slice a18 n19 n20] (fun v21 w22 => opI IntKind.i64 v21 fun x23 => CallW Try.prog
  [] (128 : Nat) #[Value.pointer a9] (fun v24 w25 => opI IntKind.i64 v24 fun x26 => CallW Try.prog [] (136 : Nat) #[Value.pointer a4] (fun v27 w28 => opTu v27 fun cs29 =>
  opP (nthD (Array.toList cs29) (0 : Nat)) fun a30 => opL (nthD (Array.toList cs29) (1 : Nat)) fun a31 n32 n33 => opI IntKind.i64 (nthD (Array.toList cs29) (2 : Nat)) fun
  x34 => SzIs (Array.size cs29) (3 : Nat) (CallW Try.prog [] (109 : Nat) #[Value.int IntKind.i64 (2 : Int)] (fun v35 w36 => opTu v35 fun cs37 => opP (nthD (Array.toList
  cs37) (0 : Nat)) fun a38 => opI IntKind.i64 (nthD (Array.toList cs37) (1 : Nat)) fun x39 => SzIs (Array.size cs37) (2 : Nat) (CallW Try.prog [] (136 : Nat)
  #[Value.pointer a38] (fun v40 w41 => opTu v40 fun cs42 => opP (nthD (Array.toList cs42) (0 : Nat)) fun a43 => opL (nthD (Array.toList cs42) (1 : Nat)) fun a44 n45 n46
  => opI IntKind.i64 (nthD (Array.toList cs42) (2 : Nat)) fun x47 => SzIs (Array.size cs42) (3 : Nat) (Bd (x5 == (0 : Int)) fun b48 => Bd (x13 == (0 : Int)) fun b49 => Bd
  (bif b48 then b49 else false) fun b50 => Bd ((n11 : Nat) : Int) fun x51 => Bd (x51 == (0 : Int)) fun b52 => Bd (bif b50 then b52 else false) fun b53 => Bd (x23 == (0 :
  Int)) fun b54 => Bd (bif b53 then b54 else false) fun b55 => Bd (x26 == (46 : Int)) fun b56 => Bd (bif b55 then b56 else false) fun b57 => Bd (x34 == (0 : Int)) fun b58
  => Bd (bif b57 then b58 else false) fun b59 => Gd b59 (none, (0 : Nat), (0 : Nat)) (fun J60 => Nw (Obj.cells #[Value.string (ByteArray.mk #[(97 : UInt8), (98 :
  UInt8)])] (9 : Nat)) w41 fun n61 w62 => J60 (some (Addr.mk n61 (0 : Nat) none), (1 : Nat), (1 : Nat)) w62) (fun u63 w64 => Gd b59 false (fun J65 => CallW Try.prog []
  (140 : Nat) #[Value.slice a31 n32 n33, Value.slice (Prod.fst u63) (Prod.fst (Prod.snd u63)) (Prod.snd (Prod.snd u63))] (fun v66 w67 => opB v66 fun b68 => J65 b68 w67)
  w64) (fun b69 w70 => Bd (bif b59 then b69 else false) fun b71 => Bd (x47 == (2 : Int)) fun b72 => Bd (bif b71 then b72 else false) fun b73 => Gd b73 (0 : Int) (fun J74
  => CallW Try.prog [] (138 : Nat) #[Value.slice none (0 : Nat) (0 : Nat)] (fun v75 w76 => opI IntKind.u32 v75 fun x77 => J74 x77 w76) w70) (fun x78 w79 => Bd (x78 ==
  (2166136261 : Int)) fun b80 => Bd (bif b73 then b80 else false) fun b81 => Gd b81 (none, (0 : Nat), (0 : Nat)) (fun J82 => Nw (Obj.cells #[Value.int IntKind.u8 (97 :
  Int)] (5 : Nat)) w79 fun n83 w84 => J82 (some (Addr.mk n83 (0 : Nat) none), (1 : Nat), (1 : Nat)) w84) (fun u85 w86 => Gd b81 (none, (0 : Nat), (0 : Nat)) (fun J87 =>
  RunW Try.prog [] (convert (51 : Nat) (51 : Nat) (Value.slice (Prod.fst u85) (Prod.fst (Prod.snd u85)) (Prod.snd (Prod.snd u85)))) (fun v88 w89 => opL v88 fun a90 n91
  n92 => J87 (a90, n91, n92) w89) w86) (fun u93 w94 => Gd b81 (0 : Int) (fun J95 => CallW Try.prog [] (138 : Nat) #[Value.slice (Prod.fst u93) (Prod.fst (Prod.snd u93))
  (Prod.snd (Prod.snd u93))] (fun v96 w97 => opI IntKind.u32 v96 fun x98 => J95 x98 w97) w94) (fun x99 w100 => Bd (x99 == (3826002220 : Int)) fun b101 => Bd (bif b81 then
  b101 else false) fun b102 => R (Value.bool b102) w100) w94) w86) w79) w70) w64) w41)) w36)) w28)) w25) w22) w17) w15)) w2)) w
theorem f125_eq (R : Value → World → Prop) (w : World) : fnW Try.prog [] Try.f125 [] R w = f125_vc R w := by kernel_rfl
theorem f125_in (R : Value → World → Prop) (w : World) (h : f125_vc R w) : Ct Try.prog 125 #[] w R := by
  refine Ct_of (rk := []) (fn := Try.f125) (args := []) mixedT Try.func125 (by kernel_rfl) ?_
  rw [f125_eq]
  exact h
end Fk
set_option linter.unusedVariables false
set_option maxRecDepth 1000000
set_option maxHeartbeats 4000000
namespace Fk
open Go Go.Proofs Go.RowKit
def f130_vc (p0 : Option Addr) (p1a : Option Addr) (p1n : Nat) (p1c : Nat) (R : Value → World → Prop) (w : World) : Prop := Jn (fun l1 l2 w3 => opI IntKind.i64 (nthD l1
  (0 : Nat)) fun x4 => CallW Try.prog [] (198 : Nat) #[Value.pointer p0, Value.slice p1a p1n p1c, Value.int IntKind.i64 x4] (fun v5 w6 => opI IntKind.i64 v5 fun x7 => Bd
  (x7 != (0 : Int)) fun b8 => If b8 (R (Value.int IntKind.i64 x7) w6) (Bd ((p1n : Nat) : Int) fun x9 => LoopP (fun l10 l11 J12 w13 => opL (nthD l10 (0 : Nat)) fun a14 n15
  n16 => opI IntKind.i64 (nthD l10 (1 : Nat)) fun x17 => Bd (decide (x17 < x9)) fun b18 => If b18 (IxOk x17 p1n p1a ∧ Ld w13 (adAt p1a x17 (1 : Nat)) fun v19 => opL v19
  fun a20 n21 n22 => CallW Try.prog [] (199 : Nat) #[Value.slice a20 n21 n22, Value.int IntKind.u8 (1 : Int)] (fun v23 w24 => opL v23 fun a25 n26 n27 => RunW Try.prog []
  (Builtin.append_ #[(51 : Nat), (51 : Nat)] (51 : Nat) #[Value.slice a14 n15 n16, Value.slice a25 n26 n27]) (fun v28 w29 => opL v28 fun a30 n31 n32 => Bd (IntKind.wrap
  IntKind.i64 (x17 + (1 : Int))) fun x33 => J12 [Value.slice a30 n31 n32, Value.int IntKind.i64 x33] [] w29) w24) w13) (RunW Try.prog [] (Instr.makeSlice (51 : Nat)
  (Value.int IntKind.i64 (64 : Int)) (Value.int IntKind.i64 (64 : Int))) (fun v34 w35 => opL v34 fun a36 n37 n38 => NN p0 fun A39 => Ld w35 (Addr.add A39 (1 : Nat)) fun
  v40 => opI IntKind.i64 v40 fun x41 => Bd (IntKind.wrap IntKind.i64 ((1 : Int) - x41)) fun x42 => Bd (IntKind.wrap IntKind.u8 x42) fun x43 => IxOk (0 : Int) n37 a36 ∧
  ¬Addr.block (adAt a36 (0 : Int) (1 : Nat)) ∈ [] ∧ Wr w35 (adAt a36 (0 : Int) (1 : Nat)) (1 : Nat) ∧ NN p0 fun A44 => Ld (setCells w35 (adAt a36 (0 : Int) (1 : Nat)) (0
  : Nat) [Value.int IntKind.u8 x43]) (Addr.add A44 (1 : Nat)) fun v45 => opI IntKind.i64 v45 fun x46 => Bd (IntKind.wrap IntKind.i64 ((1 : Int) - x46)) fun x47 => CallW
  Try.prog [] (200 : Nat) #[Value.pointer p0, Value.int IntKind.i64 x47, Value.int IntKind.i64 (0 : Int), Value.slice a14 n15 n16] (fun v48 w49 => opB v48 fun b50 => Bd
  (!b50) fun b51 => ((!b51) = true → Option.isSome p0 = true) ∧ Bd (Option.getD p0 default) fun A53 => Gd (!b51) none (fun J54 => Ld w49 (Addr.add A53 (0 : Nat)) fun v55
  => opP v55 fun a56 => J54 a56 w49) (fun a57 w58 => Gd (!b51) (0 : Int) (fun J59 => CallW Try.prog [] (114 : Nat) #[Value.pointer a57, Value.int IntKind.i64 (0 : Int),
  Value.slice a36 n37 n38] (fun v60 w61 => opI IntKind.i64 v60 fun x62 => J59 x62 w61) w58) (fun x63 w64 => Bd (x63 != (0 : Int)) fun b65 => Bd (bif b51 then true else
  b65) fun b66 => ((!b66) = true → Option.isSome p0 = true) ∧ Bd (Option.getD p0 default) fun A68 => Gd (!b66) none (fun J69 => Ld w64 (Addr.add A68 (0 : Nat)) fun v70 =>
  opP v70 fun a71 => J69 a71 w64) (fun a72 w73 => Gd (!b66) (0 : Int) (fun J74 => CallW Try.prog [] (103 : Nat) #[Value.pointer a72] (fun v75 w76 => opI IntKind.i64 v75
  fun x77 => J74 x77 w76) w73) (fun x78 w79 => Bd (x78 != (0 : Int)) fun b80 => Bd (bif b66 then true else b80) fun b81 => If b81 (NN p0 fun A82 => ¬Addr.block A82 ∈ [] ∧
  Wr w79 (Addr.add A82 (3 : Nat)) (1 : Nat) ∧ R (Value.int IntKind.i64 (200 : Int)) (setCells w79 (Addr.add A82 (3 : Nat)) (0 : Nat) [Value.bool true])) (NN p0 fun A83 =>
  Ld w79 (Addr.add A83 (1 : Nat)) fun v84 => opI IntKind.i64 v84 fun x85 => Bd (IntKind.wrap IntKind.i64 ((1 : Int) - x85)) fun x86 => Bd ((n15 : Nat) : Int) fun x87 =>
  NN p0 fun A88 => ¬Addr.block A88 ∈ [] ∧ Wr w79 (Addr.add A88 (1 : Nat)) (1 : Nat) ∧ NN p0 fun A89 => ¬Addr.block A89 ∈ [] ∧ Wr (setCells w79 (Addr.add A88 (1 : Nat)) (0
  : Nat) [Value.int IntKind.i64 x86]) (Addr.add A89 (2 : Nat)) (1 : Nat) ∧ R (Value.int IntKind.i64 (0 : Int)) (setCells (setCells w79 (Addr.add A88 (1 : Nat)) (0 : Nat)
  [Value.int IntKind.i64 x86]) (Addr.add A89 (2 : Nat)) (0 : Nat) [Value.int IntKind.i64 x87]))) w73) w64) w58) w49) (setCells w35 (adAt a36 (0 : Int) (1 : Nat)) (0 :
  Nat) [Value.int IntKind.u8 x43])) w13)) [Value.slice none (0 : Nat) (0 : Nat), Value.int IntKind.i64 (0 : Int)] [] w6)) w3) fun J90 => CallW Try.prog [] (196 : Nat)
  #[Value.pointer p0] (fun v91 w92 => opB v91 fun b93 => Bd (!b93) fun b94 => If b94 (CallW Try.prog [] (197 : Nat) #[Value.pointer p0] (fun v95 w96 => opI IntKind.i64
  v95 fun x97 => J90 [Value.int IntKind.i64 x97] [] w96) w92) (J90 [Value.int IntKind.i64 (0 : Int)] [] w92)) w
theorem f130_eq (p0 : Option Addr) (p1a : Option Addr) (p1n : Nat) (p1c : Nat) (R : Value → World → Prop) (w : World) : fnW Try.prog [] Try.f130 [Value.pointer p0,
  Value.slice p1a p1n p1c] R w = f130_vc p0 p1a p1n p1c R w := by kernel_rfl
theorem f130_in (p0 : Option Addr) (p1a : Option Addr) (p1n : Nat) (p1c : Nat) (R : Value → World → Prop) (w : World) (h : f130_vc p0 p1a p1n p1c R w) : Ct Try.prog 130
  #[Value.pointer p0, Value.slice p1a p1n p1c] w R := by
  refine Ct_of (rk := []) (fn := Try.f130) (args := [Value.pointer p0, Value.slice p1a p1n p1c]) mixedT Try.func130 (by kernel_rfl) ?_
  rw [f130_eq]
  exact h
def f134_vc (p0_0 : Int) (p0_1 : Int) (p0_2 : Int) (p0_3 : Int) (R : Value → World → Prop) (w : World) : Prop := Rg w fun n1 => Bd (if (20 : Int) < p0_2 then (20 : Int)
  else p0_2) fun x2 => Bd (if x2 > (0 : Int) then x2 else (0 : Int)) fun x3 => Up [] [n1] w fun w4 => LoopP (fun l5 l6 J7 w8 => opL (nthD l5 (0 : Nat)) fun a9 n10 n11 =>
  opI IntKind.i64 (nthD l5 (1 : Nat)) fun x12 => Bd (decide (x12 < x3)) fun b13 => If b13 (Bd (if (0 : Int) > p0_1 then (0 : Int) else p0_1) fun x14 => Bd (Int.tmod x14
  (2000 : Int)) fun x15 => Bd (IntKind.wrap IntKind.i64 (x15 + x12)) fun x16 => Bd (IntKind.wrap IntKind.u8 x12) fun x17 => Bd (IntKind.wrap IntKind.u8 (p0_3 + x17)) fun
  x18 => CallW Try.prog [n1] (123 : Nat) #[Value.int IntKind.i64 x16, Value.int IntKind.u8 x18] (fun v19 w20 => opL v19 fun a21 n22 n23 => Nw (Obj.cells #[Value.slice a21
  n22 n23] (51 : Nat)) w20 fun n24 w25 => RunW Try.prog [n1] (Builtin.append_ #[(172 : Nat), (172 : Nat)] (172 : Nat) #[Value.slice a9 n10 n11, Value.slice (some (Addr.mk
  n24 (0 : Nat) none)) (1 : Nat) (1 : Nat)]) (fun v26 w27 => opL v26 fun a28 n29 n30 => Bd (IntKind.wrap IntKind.i64 (x12 + (1 : Int))) fun x31 => J7 [Value.slice a28 n29
  n30, Value.int IntKind.i64 x31] [] w27) w25) w8) (R (Value.slice a9 n10 n11) w8)) [Value.slice none (0 : Nat) (0 : Nat), Value.int IntKind.i64 (0 : Int)] [] w4
theorem f134_eq (p0_0 : Int) (p0_1 : Int) (p0_2 : Int) (p0_3 : Int) (R : Value → World → Prop) (w : World) : fnW Try.prog [1] Try.f134 [Value.agg #[Value.int IntKind.u8
  p0_0, Value.int IntKind.i64 p0_1, Value.int IntKind.i64 p0_2, Value.int IntKind.u8 p0_3]] R w = f134_vc p0_0 p0_1 p0_2 p0_3 R w := by kernel_rfl
theorem f134_in (p0_0 : Int) (p0_1 : Int) (p0_2 : Int) (p0_3 : Int) (R : Value → World → Prop) (w : World) (h : f134_vc p0_0 p0_1 p0_2 p0_3 R w) : Ct Try.prog 134
  #[Value.agg #[Value.int IntKind.u8 p0_0, Value.int IntKind.i64 p0_1, Value.int IntKind.i64 p0_2, Value.int IntKind.u8 p0_3]] w R := by
  refine Ct_of (rk := [1]) (fn := Try.f134) (args := [Value.agg #[Value.int IntKind.u8 p0_0, Value.int IntKind.i64 p0_1, Value.int IntKind.i64 p0_2, Value.int IntKind.u8 p0_3]]) mixedT Try.func134 (by kernel_rfl) ?_
  rw [f134_eq]
  exact h
end Fk
set_option linter.unusedVariables false
set_option maxRecDepth 1000000
set_option maxHeartbeats 4000000
namespace Fk
open Go Go.Proofs Go.RowKit
def f139_vc (p0 : ByteArray) (R : Value → World → Prop) (w : World) : Prop := LoopP (fun l1 l2 J3 w4 => opI IntKind.u64 (nthD l1 (0 : Nat)) fun x5 => opI IntKind.i64
  (nthD l1 (1 : Nat)) fun x6 => Bd (((ByteArray.size p0) : Nat) : Int) fun x7 => Bd (decide (x6 < x7)) fun b8 => If b8 (Bd (Int.tmod x5 (256 : Int)) fun x9 => Bd
  (IntKind.wrap IntKind.u64 (x5 - x9)) fun x10 => ((0 : Int) ≤ x6 ∧ x6 < ↑(ByteArray.size p0)) ∧ Bd (byteAt p0 x6) fun x11 => Bd (IntKind.wrap IntKind.u64 x11) fun x12 =>
  Bd (IntKind.wrap IntKind.u64 ↑(BitVec.toNat (BitVec.ofInt (64 : Nat) x9 ^^^ BitVec.ofInt (64 : Nat) x12))) fun x13 => Bd (IntKind.wrap IntKind.u64 (x10 + x13)) fun x14
  => Bd (IntKind.wrap IntKind.u64 (x14 * (16777619 : Int))) fun x15 => Bd (Int.tmod x15 (4294967296 : Int)) fun x16 => Bd (IntKind.wrap IntKind.i64 (x6 + (1 : Int))) fun
  x17 => J3 [Value.int IntKind.u64 x16, Value.int IntKind.i64 x17] [] w4) (R (Value.int IntKind.u64 x5) w4)) [Value.int IntKind.u64 (2166136261 : Int), Value.int
  IntKind.i64 (0 : Int)] [] w
theorem f139_eq (p0 : ByteArray) (R : Value → World → Prop) (w : World) : fnW Try.prog [] Try.f139 [Value.string p0] R w = f139_vc p0 R w := by kernel_rfl
theorem f139_in (p0 : ByteArray) (R : Value → World → Prop) (w : World) (h : f139_vc p0 R w) : Ct Try.prog 139 #[Value.string p0] w R := by
  refine Ct_of (rk := []) (fn := Try.f139) (args := [Value.string p0]) mixedT Try.func139 (by kernel_rfl) ?_
  rw [f139_eq]
  exact h
def f228_vc (p0 : Int) (p1 : Int) (R : Value → World → Prop) (w : World) : Prop := LoopP (fun l1 l2 J3 w4 => opStr (nthD l1 (0 : Nat)) fun s5 => opI IntKind.u64 (nthD l1
  (1 : Nat)) fun x6 => opI IntKind.i64 (nthD l1 (2 : Nat)) fun x7 => Bd (decide (x7 < p1)) fun b8 => If b8 (Bd (Int.tmod x6 (256 : Int)) fun x9 => Bd (IntKind.wrap
  IntKind.u8 x9) fun x10 => Nw (Obj.cells #[Value.int IntKind.u8 x10] (5 : Nat)) w4 fun n11 w12 => RunW Try.prog [] (convert (51 : Nat) (9 : Nat) (Value.slice (some
  (Addr.mk n11 (0 : Nat) none)) (1 : Nat) (1 : Nat))) (fun v13 w14 => opStr v13 fun s15 => RunW Try.prog [] (eqS BinOp.add (9 : Nat) (Operand.tmp (16 : Nat)) (Operand.tmp
  (17 : Nat)) (Value.string s15) (Value.string s5)) (fun v16 w17 => opStr v16 fun s18 => Bd (IntKind.wrap IntKind.u64 (Int.tdiv x6 (256 : Int))) fun x19 => Bd
  (IntKind.wrap IntKind.i64 (x7 + (1 : Int))) fun x20 => J3 [Value.string s18, Value.int IntKind.u64 x19, Value.int IntKind.i64 x20] [] w17) w14) w12) (R (Value.string
  s5) w4)) [Value.string (ByteArray.mk #[]), Value.int IntKind.u64 p0, Value.int IntKind.i64 (0 : Int)] [] w
theorem f228_eq (p0 : Int) (p1 : Int) (R : Value → World → Prop) (w : World) : fnW Try.prog [] Try.f228 [Value.int IntKind.u64 p0, Value.int IntKind.i64 p1] R w = f228_vc
  p0 p1 R w := by kernel_rfl
theorem f228_in (p0 : Int) (p1 : Int) (R : Value → World → Prop) (w : World) (h : f228_vc p0 p1 R w) : Ct Try.prog 228 #[Value.int IntKind.u64 p0, Value.int IntKind.i64
  p1] w R := by
  refine Ct_of (rk := []) (fn := Try.f228) (args := [Value.int IntKind.u64 p0, Value.int IntKind.i64 p1]) mixedT Try.func228 (by kernel_rfl) ?_
  rw [f228_eq]
  exact h
def f208_vc (p0 : ByteArray) (R : Value → World → Prop) (w : World) : Prop := LoopP (fun l1 l2 J3 w4 => opI IntKind.u64 (nthD l1 (0 : Nat)) fun x5 => opI IntKind.i64
  (nthD l1 (1 : Nat)) fun x6 => Bd (((ByteArray.size p0) : Nat) : Int) fun x7 => Bd (decide (x6 < x7)) fun b8 => If b8 (Bd (IntKind.wrap IntKind.u64 ((256 : Int) * x5))
  fun x9 => ((0 : Int) ≤ x6 ∧ x6 < ↑(ByteArray.size p0)) ∧ Bd (byteAt p0 x6) fun x10 => Bd (IntKind.wrap IntKind.u64 x10) fun x11 => Bd (IntKind.wrap IntKind.u64 (x9 +
  x11)) fun x12 => Bd (IntKind.wrap IntKind.i64 (x6 + (1 : Int))) fun x13 => J3 [Value.int IntKind.u64 x12, Value.int IntKind.i64 x13] [] w4) (R (Value.int IntKind.u64
  x5) w4)) [Value.int IntKind.u64 (0 : Int), Value.int IntKind.i64 (0 : Int)] [] w
theorem f208_eq (p0 : ByteArray) (R : Value → World → Prop) (w : World) : fnW Try.prog [] Try.f208 [Value.string p0] R w = f208_vc p0 R w := by kernel_rfl
theorem f208_in (p0 : ByteArray) (R : Value → World → Prop) (w : World) (h : f208_vc p0 R w) : Ct Try.prog 208 #[Value.string p0] w R := by
  refine Ct_of (rk := []) (fn := Try.f208) (args := [Value.string p0]) mixedT Try.func208 (by kernel_rfl) ?_
  rw [f208_eq]
  exact h
def f209_vc (p0 : ByteArray) (R : Value → World → Prop) (w : World) : Prop := Bd (((ByteArray.size p0) : Nat) : Int) fun x1 => Bd (IntKind.wrap IntKind.u64 x1) fun x2 =>
  CallW Try.prog [] (228 : Nat) #[Value.int IntKind.u64 x2, Value.int IntKind.i64 (3 : Int)] (fun v3 w4 => opStr v3 fun s5 => RunW Try.prog [] (eqS BinOp.add (9 : Nat)
  (Operand.tmp (7 : Nat)) (Operand.tmp (8 : Nat)) (Value.string s5) (Value.string p0)) (fun v6 w7 => opStr v6 fun s8 => CallW Try.prog [] (139 : Nat) #[Value.string s8]
  (fun v9 w10 => opI IntKind.u64 v9 fun x11 => CallW Try.prog [] (228 : Nat) #[Value.int IntKind.u64 x11, Value.int IntKind.i64 (4 : Int)] (fun v12 w13 => opStr v12 fun
  s14 => RunW Try.prog [] (eqS BinOp.add (9 : Nat) (Operand.tmp (10 : Nat)) (Operand.tmp (13 : Nat)) (Value.string s8) (Value.string s14)) (fun v15 w16 => opStr v15 fun
  s17 => R (Value.string s17) w16) w13) w10) w7) w4) w
theorem f209_eq (p0 : ByteArray) (R : Value → World → Prop) (w : World) : fnW Try.prog [] Try.f209 [Value.string p0] R w = f209_vc p0 R w := by kernel_rfl
theorem f209_in (p0 : ByteArray) (R : Value → World → Prop) (w : World) (h : f209_vc p0 R w) : Ct Try.prog 209 #[Value.string p0] w R := by
  refine Ct_of (rk := []) (fn := Try.f209) (args := [Value.string p0]) mixedT Try.func209 (by kernel_rfl) ?_
  rw [f209_eq]
  exact h
def f212_vc (p0_0a : Option Addr) (p0_0n : Nat) (p0_0c : Nat) (p0_1a : Option Addr) (p0_1n : Nat) (p0_1c : Nat) (p0_2 : Int) (R : Value → World → Prop) (w : World) : Prop
  := Rg w fun n1 => Bd ((p0_0n : Nat) : Int) fun x2 => Bd (IntKind.wrap IntKind.i64 (x2 - (1 : Int))) fun x3 => Bd (IntKind.wrap IntKind.i64 (Int.tdiv x3 (2 : Int))) fun
  x4 => Up [] [n1] w fun w5 => R (Value.int IntKind.i64 x4) w5
theorem f212_eq (p0_0a : Option Addr) (p0_0n : Nat) (p0_0c : Nat) (p0_1a : Option Addr) (p0_1n : Nat) (p0_1c : Nat) (p0_2 : Int) (R : Value → World → Prop) (w : World) :
  fnW Try.prog [1] Try.f212 [Value.agg #[Value.slice p0_0a p0_0n p0_0c, Value.slice p0_1a p0_1n p0_1c, Value.int IntKind.i64 p0_2]] R w = f212_vc p0_0a p0_0n p0_0c p0_1a
  p0_1n p0_1c p0_2 R w := by kernel_rfl
theorem f212_in (p0_0a : Option Addr) (p0_0n : Nat) (p0_0c : Nat) (p0_1a : Option Addr) (p0_1n : Nat) (p0_1c : Nat) (p0_2 : Int) (R : Value → World → Prop) (w : World) (h
  : f212_vc p0_0a p0_0n p0_0c p0_1a p0_1n p0_1c p0_2 R w) : Ct Try.prog 212 #[Value.agg #[Value.slice p0_0a p0_0n p0_0c, Value.slice p0_1a p0_1n p0_1c, Value.int
  IntKind.i64 p0_2]] w R := by
  refine Ct_of (rk := [1]) (fn := Try.f212) (args := [Value.agg #[Value.slice p0_0a p0_0n p0_0c, Value.slice p0_1a p0_1n p0_1c, Value.int IntKind.i64 p0_2]]) mixedT Try.func212 (by kernel_rfl) ?_
  rw [f212_eq]
  exact h
def f210_vc (p0_0a : Option Addr) (p0_0n : Nat) (p0_0c : Nat) (p0_1a : Option Addr) (p0_1n : Nat) (p0_1c : Nat) (p0_2 : Int) (R : Value → World → Prop) (w : World) : Prop
  := Rg w fun n1 => Up [] [n1] w fun w2 => CallW Try.prog [n1] (212 : Nat) #[Value.agg #[Value.slice p0_0a p0_0n p0_0c, Value.slice p0_1a p0_1n p0_1c, Value.int
  IntKind.i64 p0_2]] (fun v3 w4 => opI IntKind.i64 v3 fun x5 => Bd (IntKind.wrap IntKind.i64 ((64 : Int) * x5)) fun x6 => R (Value.int IntKind.i64 x6) w4) w2
theorem f210_eq (p0_0a : Option Addr) (p0_0n : Nat) (p0_0c : Nat) (p0_1a : Option Addr) (p0_1n : Nat) (p0_1c : Nat) (p0_2 : Int) (R : Value → World → Prop) (w : World) :
  fnW Try.prog [1] Try.f210 [Value.agg #[Value.slice p0_0a p0_0n p0_0c, Value.slice p0_1a p0_1n p0_1c, Value.int IntKind.i64 p0_2]] R w = f210_vc p0_0a p0_0n p0_0c p0_1a
  p0_1n p0_1c p0_2 R w := by kernel_rfl
theorem f210_in (p0_0a : Option Addr) (p0_0n : Nat) (p0_0c : Nat) (p0_1a : Option Addr) (p0_1n : Nat) (p0_1c : Nat) (p0_2 : Int) (R : Value → World → Prop) (w : World) (h
  : f210_vc p0_0a p0_0n p0_0c p0_1a p0_1n p0_1c p0_2 R w) : Ct Try.prog 210 #[Value.agg #[Value.slice p0_0a p0_0n p0_0c, Value.slice p0_1a p0_1n p0_1c, Value.int
  IntKind.i64 p0_2]] w R := by
  refine Ct_of (rk := [1]) (fn := Try.f210) (args := [Value.agg #[Value.slice p0_0a p0_0n p0_0c, Value.slice p0_1a p0_1n p0_1c, Value.int IntKind.i64 p0_2]]) mixedT Try.func210 (by kernel_rfl) ?_
  rw [f210_eq]
  exact h
def f207_vc (p0_0a : Option Addr) (p0_0n : Nat) (p0_0c : Nat) (p0_1a : Option Addr) (p0_1n : Nat) (p0_1c : Nat) (p0_2 : Int) (p1 : Int) (R : Value → World → Prop) (w :
  World) : Prop := Rg w fun n1 => Up [] [n1] w fun w2 => LoopP (fun l3 l4 J5 w6 => opStr (nthD l3 (0 : Nat)) fun s7 => opI IntKind.i64 (nthD l3 (1 : Nat)) fun x8 => CallW
  Try.prog [n1] (212 : Nat) #[Value.agg #[Value.slice p0_0a p0_0n p0_0c, Value.slice p0_1a p0_1n p0_1c, Value.int IntKind.i64 p0_2]] (fun v9 w10 => opI IntKind.i64 v9 fun
  x11 => Bd (decide (x8 < x11)) fun b12 => If b12 (Dr (World.drew w10) fun J13 => CallW Try.prog [n1] (212 : Nat) #[Value.agg #[Value.slice p0_0a p0_0n p0_0c, Value.slice
  p0_1a p0_1n p0_1c, Value.int IntKind.i64 p0_2]] (fun v14 w15 => opI IntKind.i64 v14 fun x16 => J13 w15 ∧ Bd (IntKind.wrap IntKind.i64 (p1 * x16)) fun x17 => Bd
  (IntKind.wrap IntKind.i64 ((1 : Int) + x17)) fun x18 => Bd (IntKind.wrap IntKind.i64 (x18 + x8)) fun x19 => CallW Try.prog [n1] (120 : Nat) #[Value.agg #[Value.slice
  p0_0a p0_0n p0_0c, Value.slice p0_1a p0_1n p0_1c, Value.int IntKind.i64 p0_2], Value.int IntKind.i64 x19] (fun v20 w21 => opStr v20 fun s22 => J13 w21 ∧ ∃ v23, (∀ (w24
  : World), J13 w24 → RunV Try.prog (eqS BinOp.add (9 : Nat) (Operand.tmp (13 : Nat)) (Operand.tmp (22 : Nat)) (Value.string s7) (Value.string s22)) v23 w24) ∧ opStr v23
  fun s26 => Bd (IntKind.wrap IntKind.i64 (x8 + (1 : Int))) fun x27 => J5 [Value.string s26, Value.int IntKind.i64 x27] [] w21) w15) (World.drew w10)) (R (Value.string
  s7) w10)) w6) [Value.string (ByteArray.mk #[]), Value.int IntKind.i64 (0 : Int)] [] w2
theorem f207_eq (p0_0a : Option Addr) (p0_0n : Nat) (p0_0c : Nat) (p0_1a : Option Addr) (p0_1n : Nat) (p0_1c : Nat) (p0_2 : Int) (p1 : Int) (R : Value → World → Prop) (w
  : World) : fnW Try.prog [2, 100005] Try.f207 [Value.agg #[Value.slice p0_0a p0_0n p0_0c, Value.slice p0_1a p0_1n p0_1c, Value.int IntKind.i64 p0_2], Value.int
  IntKind.i64 p1] R w = f207_vc p0_0a p0_0n p0_0c p0_1a p0_1n p0_1c p0_2 p1 R w := by kernel_rfl
theorem f207_in (p0_0a : Option Addr) (p0_0n : Nat) (p0_0c : Nat) (p0_1a : Option Addr) (p0_1n : Nat) (p0_1c : Nat) (p0_2 : Int) (p1 : Int) (R : Value → World → Prop) (w
  : World) (h : f207_vc p0_0a p0_0n p0_0c p0_1a p0_1n p0_1c p0_2 p1 R w) : Ct Try.prog 207 #[Value.agg #[Value.slice p0_0a p0_0n p0_0c, Value.slice p0_1a p0_1n p0_1c,
  Value.int IntKind.i64 p0_2], Value.int IntKind.i64 p1] w R := by
  refine Ct_of (rk := [2, 100005]) (fn := Try.f207) (args := [Value.agg #[Value.slice p0_0a p0_0n p0_0c, Value.slice p0_1a p0_1n p0_1c, Value.int IntKind.i64 p0_2], Value.int IntKind.i64 p1]) mixedT Try.func207 (by kernel_rfl) ?_
  rw [f207_eq]
  exact h
def f213_vc (p0_0a : Option Addr) (p0_0n : Nat) (p0_0c : Nat) (p0_1a : Option Addr) (p0_1n : Nat) (p0_1c : Nat) (p0_2 : Int) (p1 : Int) (p2 : ByteArray) (R : Value →
  World → Prop) (w : World) : Prop := Rg w fun n1 => Rg w fun n2 => Up [] [n2, n1] w fun w3 => RunW Try.prog [n2, n1] (convert (9 : Nat) (51 : Nat) (Value.string p2))
  (fun v4 w5 => opL v4 fun a6 n7 n8 => CallW Try.prog [n2, n1] (115 : Nat) #[Value.agg #[Value.slice p0_0a p0_0n p0_0c, Value.slice p0_1a p0_1n p0_1c, Value.int
  IntKind.i64 p0_2], Value.int IntKind.i64 p1, Value.slice a6 n7 n8] (fun v9 w10 => opTu v9 fun cs11 => opAg (nthD (Array.toList cs11) (0 : Nat)) fun cs12 => opL (nthD
  (Array.toList cs12) (0 : Nat)) fun a13 n14 n15 => opL (nthD (Array.toList cs12) (1 : Nat)) fun a16 n17 n18 => opI IntKind.i64 (nthD (Array.toList cs12) (2 : Nat)) fun
  x19 => SzIs (Array.size cs12) (3 : Nat) (opI IntKind.i64 (nthD (Array.toList cs11) (1 : Nat)) fun x20 => SzIs (Array.size cs11) (2 : Nat) (Rg w10 fun n21 => Bd (x20 !=
  (0 : Int)) fun b22 => If b22 (Up [n2, n21] [n21, n2, n1] w10 fun w23 => R (Value.tuple #[Value.agg #[Value.slice a13 n14 n15, Value.slice a16 n17 n18, Value.int
  IntKind.i64 x19], Value.bool false]) w23) (Up [n21] [n21, n2, n1] w10 fun w24 => CallW Try.prog [n21, n2, n1] (116 : Nat) #[Value.agg #[Value.slice a13 n14 n15,
  Value.slice a16 n17 n18, Value.int IntKind.i64 x19]] (fun v25 w26 => opTu v25 fun cs27 => opAg (nthD (Array.toList cs27) (0 : Nat)) fun cs28 => opL (nthD (Array.toList
  cs28) (0 : Nat)) fun a29 n30 n31 => opL (nthD (Array.toList cs28) (1 : Nat)) fun a32 n33 n34 => opI IntKind.i64 (nthD (Array.toList cs28) (2 : Nat)) fun x35 => SzIs
  (Array.size cs28) (3 : Nat) (opI IntKind.i64 (nthD (Array.toList cs27) (1 : Nat)) fun x36 => SzIs (Array.size cs27) (2 : Nat) (Bd (x36 == (0 : Int)) fun b37 => Up [n2,
  n21] [n21, n2, n1] w26 fun w38 => R (Value.tuple #[Value.agg #[Value.slice a29 n30 n31, Value.slice a32 n33 n34, Value.int IntKind.i64 x35], Value.bool b37]) w38)))
  w24)))) w5) w3
theorem f213_eq (p0_0a : Option Addr) (p0_0n : Nat) (p0_0c : Nat) (p0_1a : Option Addr) (p0_1n : Nat) (p0_1c : Nat) (p0_2 : Int) (p1 : Int) (p2 : ByteArray) (R : Value →
  World → Prop) (w : World) : fnW Try.prog [3, 6, 8] Try.f213 [Value.agg #[Value.slice p0_0a p0_0n p0_0c, Value.slice p0_1a p0_1n p0_1c, Value.int IntKind.i64 p0_2],
  Value.int IntKind.i64 p1, Value.string p2] R w = f213_vc p0_0a p0_0n p0_0c p0_1a p0_1n p0_1c p0_2 p1 p2 R w := by kernel_rfl
theorem f213_in (p0_0a : Option Addr) (p0_0n : Nat) (p0_0c : Nat) (p0_1a : Option Addr) (p0_1n : Nat) (p0_1c : Nat) (p0_2 : Int) (p1 : Int) (p2 : ByteArray) (R : Value →
  World → Prop) (w : World) (h : f213_vc p0_0a p0_0n p0_0c p0_1a p0_1n p0_1c p0_2 p1 p2 R w) : Ct Try.prog 213 #[Value.agg #[Value.slice p0_0a p0_0n p0_0c, Value.slice
  p0_1a p0_1n p0_1c, Value.int IntKind.i64 p0_2], Value.int IntKind.i64 p1, Value.string p2] w R := by
  refine Ct_of (rk := [3, 6, 8]) (fn := Try.f213) (args := [Value.agg #[Value.slice p0_0a p0_0n p0_0c, Value.slice p0_1a p0_1n p0_1c, Value.int IntKind.i64 p0_2], Value.int IntKind.i64 p1, Value.string p2]) mixedT Try.func213 (by kernel_rfl) ?_
  rw [f213_eq]
  exact h
def f143_vc (p0_0a : Option Addr) (p0_0n : Nat) (p0_0c : Nat) (p0_1a : Option Addr) (p0_1n : Nat) (p0_1c : Nat) (p0_2 : Int) (p0_3 : Int) (p0_4 : Int) (p0_5 : Bool) (R :
  Value → World → Prop) (w : World) : Prop := Rg w fun n1 => Up [] [n1] w fun w2 => Dr (World.drew w2) fun J3 => CallW Try.prog [n1] (210 : Nat) #[Value.agg #[Value.slice
  p0_0a p0_0n p0_0c, Value.slice p0_1a p0_1n p0_1c, Value.int IntKind.i64 p0_2]] (fun v4 w5 => opI IntKind.i64 v4 fun x6 => J3 w5 ∧ Bd (IntKind.wrap IntKind.i64 (x6 -
  p0_4)) fun x7 => Bd (IntKind.wrap IntKind.i64 (x7 - (8 : Int))) fun x8 => Bd (decide (x8 < (0 : Int))) fun b9 => Bd (bif p0_5 then true else b9) fun b10 => If b10 (R
  (Value.int IntKind.i64 (0 : Int)) w5) (Bd (decide (x8 > (1048576 : Int))) fun b11 => If b11 (R (Value.int IntKind.i64 (1048576 : Int)) w5) (R (Value.int IntKind.i64 x8)
  w5))) (World.drew w2)
theorem f143_eq (p0_0a : Option Addr) (p0_0n : Nat) (p0_0c : Nat) (p0_1a : Option Addr) (p0_1n : Nat) (p0_1c : Nat) (p0_2 : Int) (p0_3 : Int) (p0_4 : Int) (p0_5 : Bool)
  (R : Value → World → Prop) (w : World) : fnW Try.prog [1, 100001] Try.f143 [Value.agg #[Value.slice p0_0a p0_0n p0_0c, Value.slice p0_1a p0_1n p0_1c, Value.int
  IntKind.i64 p0_2, Value.int IntKind.i64 p0_3, Value.int IntKind.i64 p0_4, Value.bool p0_5]] R w = f143_vc p0_0a p0_0n p0_0c p0_1a p0_1n p0_1c p0_2 p0_3 p0_4 p0_5 R w :=
  by kernel_rfl
theorem f143_in (p0_0a : Option Addr) (p0_0n : Nat) (p0_0c : Nat) (p0_1a : Option Addr) (p0_1n : Nat) (p0_1c : Nat) (p0_2 : Int) (p0_3 : Int) (p0_4 : Int) (p0_5 : Bool)
  (R : Value → World → Prop) (w : World) (h : f143_vc p0_0a p0_0n p0_0c p0_1a p0_1n p0_1c p0_2 p0_3 p0_4 p0_5 R w) : Ct Try.prog 143 #[Value.agg #[Value.slice p0_0a p0_0n
  p0_0c, Value.slice p0_1a p0_1n p0_1c, Value.int IntKind.i64 p0_2, Value.int IntKind.i64 p0_3, Value.int IntKind.i64 p0_4, Value.bool p0_5]] w R := by
  refine Ct_of (rk := [1, 100001]) (fn := Try.f143) (args := [Value.agg #[Value.slice p0_0a p0_0n p0_0c, Value.slice p0_1a p0_1n p0_1c, Value.int IntKind.i64 p0_2, Value.int IntKind.i64 p0_3, Value.int IntKind.i64 p0_4, Value.bool p0_5]]) mixedT Try.func143 (by kernel_rfl) ?_
  rw [f143_eq]
  exact h
end Fk
