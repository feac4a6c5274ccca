/- Conditions of functions, as the generator works them out; each one is checked by the kernel. -/
import Derived.Test.YtpgjpgecgibklaaTT
set_option linter.unusedVariables false
set_option maxRecDepth 1000000
set_option maxHeartbeats 4000000
namespace Fk
open Go Go.Proofs Go.RowKit
def f191_vc (p0 : Option Addr) (R : Value → World → Prop) (w : World) : Prop := RunW Try.prog [] (eqS BinOp.eql (119 : Nat) (Operand.tmp (3 : Nat)) (Operand.const
  (Value.pointer none)) (Value.pointer p0) (Value.pointer none)) (fun v1 w2 => opB v1 fun b3 => ((!b3) = true → Option.isSome p0 = true) ∧ Bd (Option.getD p0 default) fun
  A5 => Gd (!b3) (none, (0 : Nat), (0 : Nat)) (fun J6 => Ld w2 (Addr.add A5 (0 : Nat)) fun v7 => opL v7 fun a8 n9 n10 => J6 (a8, n9, n10) w2) (fun u11 w12 => Gd (!b3)
  false (fun J13 => RunW Try.prog [] (eqS BinOp.eql (152 : Nat) (Operand.tmp (9 : Nat)) (Operand.const (Value.slice none (0 : Nat) (0 : Nat))) (Value.slice (Prod.fst u11)
  (Prod.fst (Prod.snd u11)) (Prod.snd (Prod.snd u11))) (Value.slice none (0 : Nat) (0 : Nat))) (fun v14 w15 => opB v14 fun b16 => J13 b16 w15) w12) (fun b17 w18 => Bd
  (bif b3 then true else b17) fun b19 => R (Value.bool b19) w18) w12) w2) w
theorem f191_eq (p0 : Option Addr) (R : Value → World → Prop) (w : World) : fnW Try.prog [] Try.f191 [Value.pointer p0] R w = f191_vc p0 R w := by kernel_rfl
theorem f191_in (p0 : Option Addr) (R : Value → World → Prop) (w : World) (h : f191_vc p0 R w) : Ct Try.prog 191 #[Value.pointer p0] w R := by
  refine Ct_of (rk := []) (fn := Try.f191) (args := [Value.pointer p0]) mixedT Try.func191 (by kernel_rfl) ?_
  rw [f191_eq]
  exact h
def f192_vc (p0 : Option Addr) (R : Value → World → Prop) (w : World) : Prop := NN p0 fun A1 => Ld w (Addr.add A1 (2 : Nat)) fun v2 => opI IntKind.i64 v2 fun x3 => Bd
  (decide (x3 > (0 : Int))) fun b4 => If b4 (NN p0 fun A5 => Ld w (Addr.add A5 (2 : Nat)) fun v6 => opI IntKind.i64 v6 fun x7 => Bd (IntKind.wrap IntKind.i64 (x7 - (1 :
  Int))) fun x8 => NN p0 fun A9 => ¬Addr.block A9 ∈ [] ∧ Wr w (Addr.add A9 (2 : Nat)) (1 : Nat) ∧ NN p0 fun A10 => Ld (setCells w (Addr.add A9 (2 : Nat)) (0 : Nat)
  [Value.int IntKind.i64 x8]) (Addr.add A10 (2 : Nat)) fun v11 => opI IntKind.i64 v11 fun x12 => Bd (decide (x12 > (0 : Int))) fun b13 => R (Value.bool b13) (setCells w
  (Addr.add A9 (2 : Nat)) (0 : Nat) [Value.int IntKind.i64 x8])) (R (Value.bool true) w)
theorem f192_eq (p0 : Option Addr) (R : Value → World → Prop) (w : World) : fnW Try.prog [] Try.f192 [Value.pointer p0] R w = f192_vc p0 R w := by kernel_rfl
theorem f192_in (p0 : Option Addr) (R : Value → World → Prop) (w : World) (h : f192_vc p0 R w) : Ct Try.prog 192 #[Value.pointer p0] w R := by
  refine Ct_of (rk := []) (fn := Try.f192) (args := [Value.pointer p0]) mixedT Try.func192 (by kernel_rfl) ?_
  rw [f192_eq]
  exact h
def f112_vc (p0 : Option Addr) (R : Value → World → Prop) (w : World) : Prop := CallW Try.prog [] (191 : Nat) #[Value.pointer p0] (fun v1 w2 => opB v1 fun b3 => If b3 (R
  (Value.int IntKind.i64 (0 : Int)) w2) (NN p0 fun A4 => Ld w2 (Addr.add A4 (0 : Nat)) fun v5 => opL v5 fun a6 n7 n8 => Bd ((n7 : Nat) : Int) fun x9 => R (Value.int
  IntKind.i64 x9) w2)) w
theorem f112_eq (p0 : Option Addr) (R : Value → World → Prop) (w : World) : fnW Try.prog [] Try.f112 [Value.pointer p0] R w = f112_vc p0 R w := by kernel_rfl
theorem f112_in (p0 : Option Addr) (R : Value → World → Prop) (w : World) (h : f112_vc p0 R w) : Ct Try.prog 112 #[Value.pointer p0] w R := by
  refine Ct_of (rk := []) (fn := Try.f112) (args := [Value.pointer p0]) mixedT Try.func112 (by kernel_rfl) ?_
  rw [f112_eq]
  exact h
def f108_vc (p0 : Option Addr) (R : Value → World → Prop) (w : World) : Prop := CallW Try.prog [] (191 : Nat) #[Value.pointer p0] (fun v1 w2 => opB v1 fun b3 => If b3 (R
  (Value.int IntKind.i64 (0 : Int)) w2) (NN p0 fun A4 => Ld w2 (Addr.add A4 (1 : Nat)) fun v5 => opL v5 fun a6 n7 n8 => Bd ((n7 : Nat) : Int) fun x9 => R (Value.int
  IntKind.i64 x9) w2)) w
theorem f108_eq (p0 : Option Addr) (R : Value → World → Prop) (w : World) : fnW Try.prog [] Try.f108 [Value.pointer p0] R w = f108_vc p0 R w := by kernel_rfl
theorem f108_in (p0 : Option Addr) (R : Value → World → Prop) (w : World) (h : f108_vc p0 R w) : Ct Try.prog 108 #[Value.pointer p0] w R := by
  refine Ct_of (rk := []) (fn := Try.f108) (args := [Value.pointer p0]) mixedT Try.func108 (by kernel_rfl) ?_
  rw [f108_eq]
  exact h
def f102_vc (p0 : Option Addr) (p1 : Int) (R : Value → World → Prop) (w : World) : Prop := CallW Try.prog [] (191 : Nat) #[Value.pointer p0] (fun v1 w2 => opB v1 fun b3
  => Bd (!b3) fun b4 => If b4 (Bd (if (0 : Int) > p1 then (0 : Int) else p1) fun x5 => NN p0 fun A6 => ¬Addr.block A6 ∈ [] ∧ Wr w2 (Addr.add A6 (2 : Nat)) (1 : Nat) ∧ R
  (Value.tuple #[]) (setCells w2 (Addr.add A6 (2 : Nat)) (0 : Nat) [Value.int IntKind.i64 x5])) (R (Value.tuple #[]) w2)) w
theorem f102_eq (p0 : Option Addr) (p1 : Int) (R : Value → World → Prop) (w : World) : fnW Try.prog [] Try.f102 [Value.pointer p0, Value.int IntKind.i64 p1] R w = f102_vc
  p0 p1 R w := by kernel_rfl
theorem f102_in (p0 : Option Addr) (p1 : Int) (R : Value → World → Prop) (w : World) (h : f102_vc p0 p1 R w) : Ct Try.prog 102 #[Value.pointer p0, Value.int IntKind.i64
  p1] w R := by
  refine Ct_of (rk := []) (fn := Try.f102) (args := [Value.pointer p0, Value.int IntKind.i64 p1]) mixedT Try.func102 (by kernel_rfl) ?_
  rw [f102_eq]
  exact h
def f103_vc (p0 : Option Addr) (R : Value → World → Prop) (w : World) : Prop := CallW Try.prog [] (191 : Nat) #[Value.pointer p0] (fun v1 w2 => opB v1 fun b3 => If b3 (R
  (Value.int IntKind.i64 (1 : Int)) w2) (CallW Try.prog [] (192 : Nat) #[Value.pointer p0] (fun v4 w5 => opB v4 fun b6 => Bd (!b6) fun b7 => If b7 (R (Value.int
  IntKind.i64 (200 : Int)) w5) (NN p0 fun A8 => ¬Addr.block A8 ∈ [] ∧ Wr w5 (Addr.add A8 (1 : Nat)) (1 : Nat) ∧ R (Value.int IntKind.i64 (0 : Int)) (setCells w5 (Addr.add
  A8 (1 : Nat)) (0 : Nat) [Value.slice none (0 : Nat) (0 : Nat)]))) w2)) w
theorem f103_eq (p0 : Option Addr) (R : Value → World → Prop) (w : World) : fnW Try.prog [] Try.f103 [Value.pointer p0] R w = f103_vc p0 R w := by kernel_rfl
theorem f103_in (p0 : Option Addr) (R : Value → World → Prop) (w : World) (h : f103_vc p0 R w) : Ct Try.prog 103 #[Value.pointer p0] w R := by
  refine Ct_of (rk := []) (fn := Try.f103) (args := [Value.pointer p0]) mixedT Try.func103 (by kernel_rfl) ?_
  rw [f103_eq]
  exact h
def f104_vc (p0 : Option Addr) (R : Value → World → Prop) (w : World) : Prop := CallW Try.prog [] (191 : Nat) #[Value.pointer p0] (fun v1 w2 => opB v1 fun b3 => If b3 (R
  (Value.slice none (0 : Nat) (0 : Nat)) w2) (NN p0 fun A4 => Ld w2 (Addr.add A4 (0 : Nat)) fun v5 => opL v5 fun a6 n7 n8 => Bd ((n7 : Nat) : Int) fun x9 => LoopP (fun
  l10 l11 J12 w13 => opL (nthD l10 (0 : Nat)) fun a14 n15 n16 => opI IntKind.i64 (nthD l10 (1 : Nat)) fun x17 => Bd (decide (x17 < x9)) fun b18 => If b18 (NN p0 fun A19
  => Ld w13 (Addr.add A19 (0 : Nat)) fun v20 => opL v20 fun a21 n22 n23 => IxOk x17 n22 a21 ∧ RunW Try.prog [] (Instr.sliceAt (252 : Nat) (Value.pointer (some (adAt a21
  x17 (64 : Nat)))) none none none) (fun v24 w25 => opL v24 fun a26 n27 n28 => RunW Try.prog [] (Builtin.append_ #[(51 : Nat), (51 : Nat)] (51 : Nat) #[Value.slice a14
  n15 n16, Value.slice a26 n27 n28]) (fun v29 w30 => opL v29 fun a31 n32 n33 => Bd (IntKind.wrap IntKind.i64 (x17 + (1 : Int))) fun x34 => J12 [Value.slice a31 n32 n33,
  Value.int IntKind.i64 x34] [] w30) w25) w13) (R (Value.slice a14 n15 n16) w13)) [Value.slice none (0 : Nat) (0 : Nat), Value.int IntKind.i64 (0 : Int)] [] w2)) w
theorem f104_eq (p0 : Option Addr) (R : Value → World → Prop) (w : World) : fnW Try.prog [] Try.f104 [Value.pointer p0] R w = f104_vc p0 R w := by kernel_rfl
theorem f104_in (p0 : Option Addr) (R : Value → World → Prop) (w : World) (h : f104_vc p0 R w) : Ct Try.prog 104 #[Value.pointer p0] w R := by
  refine Ct_of (rk := []) (fn := Try.f104) (args := [Value.pointer p0]) mixedT Try.func104 (by kernel_rfl) ?_
  rw [f104_eq]
  exact h
def f109_vc (p0 : Int) (R : Value → World → Prop) (w : World) : Prop := Bd (decide (p0 < (1 : Int))) fun b1 => Bd (decide (p0 > (65536 : Int))) fun b2 => Bd (bif b1 then
  true else b2) fun b3 => If b3 (R (Value.tuple #[Value.pointer none, Value.int IntKind.i64 (2 : Int)]) w) (RunW Try.prog [] (Instr.makeSlice (152 : Nat) (Value.int
  IntKind.i64 p0) (Value.int IntKind.i64 p0)) (fun v4 w5 => opL v4 fun a6 n7 n8 => Nw (Obj.cells #[Value.slice a6 n7 n8, Value.slice none (0 : Nat) (0 : Nat), Value.int
  IntKind.i64 (0 : Int)] (155 : Nat)) w5 fun n9 w10 => R (Value.tuple #[Value.pointer (some (Addr.mk n9 (0 : Nat) none)), Value.int IntKind.i64 (0 : Int)]) w10) w)
theorem f109_eq (p0 : Int) (R : Value → World → Prop) (w : World) : fnW Try.prog [] Try.f109 [Value.int IntKind.i64 p0] R w = f109_vc p0 R w := by kernel_rfl
theorem f109_in (p0 : Int) (R : Value → World → Prop) (w : World) (h : f109_vc p0 R w) : Ct Try.prog 109 #[Value.int IntKind.i64 p0] w R := by
  refine Ct_of (rk := []) (fn := Try.f109) (args := [Value.int IntKind.i64 p0]) mixedT Try.func109 (by kernel_rfl) ?_
  rw [f109_eq]
  exact h
def f119_vc (p0 : Option Addr) (p1 : Int) (R : Value → World → Prop) (w : World) : Prop := CallW Try.prog [] (191 : Nat) #[Value.pointer p0] (fun v1 w2 => opB v1 fun b3
  => If b3 (R (Value.tuple #[Value.slice none (0 : Nat) (0 : Nat), Value.int IntKind.i64 (1 : Int)]) w2) (Bd (decide (p1 < (0 : Int))) fun b4 => ((!b4) = true →
  Option.isSome p0 = true) ∧ Bd (Option.getD p0 default) fun A6 => Gd (!b4) (none, (0 : Nat), (0 : Nat)) (fun J7 => Ld w2 (Addr.add A6 (0 : Nat)) fun v8 => opL v8 fun a9
  n10 n11 => J7 (a9, n10, n11) w2) (fun u12 w13 => Bd ↑(Prod.fst (Prod.snd u12)) fun x14 => Bd (decide (p1 ≥ x14)) fun b15 => Bd (bif b4 then true else b15) fun b16 => If
  b16 (R (Value.tuple #[Value.slice none (0 : Nat) (0 : Nat), Value.int IntKind.i64 (2 : Int)]) w13) (NN p0 fun A17 => Ld w13 (Addr.add A17 (0 : Nat)) fun v18 => opL v18
  fun a19 n20 n21 => IxOk p1 n20 a19 ∧ LdN w13 (adAt a19 p1 (64 : Nat)) (64 : Nat) fun l22 => Bd (List.toArray l22) fun cs23 => Array.size cs23 = (64 : Nat) ∧ Nw
  (Obj.cells (List.toArray (zeroL Try.prog (252 : Nat))) (252 : Nat)) w13 fun n24 w25 => OkC (Array.toList cs23) (64 : Nat) (¬n24 ∈ [] ∧ Wr w25 (Addr.mk n24 (0 : Nat)
  none) (64 : Nat) ∧ RunW Try.prog [] (Instr.sliceAt (252 : Nat) (Value.pointer (some (Addr.mk n24 (0 : Nat) none))) none none none) (fun v26 w27 => opL v26 fun a28 n29
  n30 => R (Value.tuple #[Value.slice a28 n29 n30, Value.int IntKind.i64 (0 : Int)]) w27) (setCells w25 (Addr.mk n24 (0 : Nat) none) (0 : Nat) (Array.toList cs23)))))
  w2)) w
theorem f119_eq (p0 : Option Addr) (p1 : Int) (R : Value → World → Prop) (w : World) : fnW Try.prog [] Try.f119 [Value.pointer p0, Value.int IntKind.i64 p1] R w = f119_vc
  p0 p1 R w := by kernel_rfl
theorem f119_in (p0 : Option Addr) (p1 : Int) (R : Value → World → Prop) (w : World) (h : f119_vc p0 p1 R w) : Ct Try.prog 119 #[Value.pointer p0, Value.int IntKind.i64
  p1] w R := by
  refine Ct_of (rk := []) (fn := Try.f119) (args := [Value.pointer p0, Value.int IntKind.i64 p1]) mixedT Try.func119 (by kernel_rfl) ?_
  rw [f119_eq]
  exact h
def f114_vc (p0 : Option Addr) (p1 : Int) (p2a : Option Addr) (p2n : Nat) (p2c : Nat) (R : Value → World → Prop) (w : World) : Prop := CallW Try.prog [] (191 : Nat)
  #[Value.pointer p0] (fun v1 w2 => opB v1 fun b3 => If b3 (R (Value.int IntKind.i64 (1 : Int)) w2) (Bd (decide (p1 < (0 : Int))) fun b4 => ((!b4) = true → Option.isSome
  p0 = true) ∧ Bd (Option.getD p0 default) fun A6 => Gd (!b4) (none, (0 : Nat), (0 : Nat)) (fun J7 => Ld w2 (Addr.add A6 (0 : Nat)) fun v8 => opL v8 fun a9 n10 n11 => J7
  (a9, n10, n11) w2) (fun u12 w13 => Bd ↑(Prod.fst (Prod.snd u12)) fun x14 => Bd (decide (p1 ≥ x14)) fun b15 => Bd (bif b4 then true else b15) fun b16 => Bd ((p2n : Nat)
  : Int) fun x17 => Bd (x17 != (64 : Int)) fun b18 => Bd (bif b16 then true else b18) fun b19 => If b19 (R (Value.int IntKind.i64 (2 : Int)) w13) (CallW Try.prog [] (192
  : Nat) #[Value.pointer p0] (fun v20 w21 => opB v20 fun b22 => Bd (!b22) fun b23 => If b23 (R (Value.int IntKind.i64 (200 : Int)) w21) (Dr (World.drew w21) fun J24 => ∃
  A25, (∀ (w26 : World), J24 w26 → RunV Try.prog (Instr.arrayAt (252 : Nat) (Value.slice p2a p2n p2c)) (Value.pointer (some A25)) w26) ∧ ∃ v28, (∀ (w29 : World), J24 w29
  → LdN w29 A25 (64 : Nat) fun l31 => Value.agg (List.toArray l31) = v28) ∧ opBig v28 fun cs32 => Array.size cs32 = (64 : Nat) ∧ NN p0 fun A33 => ∃ v34, (∀ (w35 : World),
  J24 w35 → Ld w35 (Addr.add A33 (0 : Nat)) fun v37 => v37 = v34) ∧ opL v34 fun a38 n39 n40 => IxOk p1 n39 a38 ∧ ∃ v41, (∀ (w42 : World), J24 w42 → LdN w42 (adAt a38 p1
  (64 : Nat)) (64 : Nat) fun l44 => Value.agg (List.toArray l44) = v41) ∧ opBig v41 fun cs45 => Array.size cs45 = (64 : Nat) ∧ ∃ v46, (∀ (w47 : World), J24 w47 → RunV
  Try.prog (Instr.build (254 : Nat) #[((0 : Nat), Value.int IntKind.i64 p1), ((1 : Nat), Value.agg cs32), ((2 : Nat), Value.agg cs45)]) v46 w47) ∧ opBig v46 fun cs49 =>
  Array.size cs49 = (129 : Nat) ∧ Rg (World.drew w21) fun n50 => Up [] [n50] (World.drew w21) fun w51 => J24 w51 ∧ OkC (Array.toList cs49) (129 : Nat) (Up [n50] [n50] w51
  fun w52 => J24 w52 ∧ Jn (fun l53 l54 w55 => NN p0 fun A56 => (65 : Nat) ≤ Array.size cs49 ∧ Bd (List.toArray (List.take (64 : Nat) (List.drop (1 : Nat) (Array.toList
  cs49)))) fun cs57 => Array.size cs57 = (64 : Nat) ∧ Ld (World.drew w55) (Addr.add A56 (0 : Nat)) fun v58 => opL v58 fun a59 n60 n61 => IxOk p1 n60 a59 ∧ OkC
  (Array.toList cs57) (64 : Nat) (¬Addr.block (adAt a59 p1 (64 : Nat)) ∈ [n50] ∧ Wr (World.drew w55) (adAt a59 p1 (64 : Nat)) (64 : Nat) ∧ R (Value.int IntKind.i64 (0 :
  Int)) (setCells (World.drew w55) (adAt a59 p1 (64 : Nat)) (0 : Nat) (Array.toList cs57)))) fun J62 => NN p0 fun A63 => Array.size cs49 = (129 : Nat) ∧ (Ld (World.drew
  w52) (Addr.add A63 (1 : Nat)) fun v64 => opL v64 fun a65 n66 n67 => SzIs (Array.size cs49) (129 : Nat) (Nw (Obj.cells (List.toArray (flat [((0 : Nat), Value.agg
  cs49)])) (254 : Nat)) (World.drew w52) fun n68 w69 => RunW Try.prog [n50] (Builtin.append_ #[(153 : Nat), (153 : Nat)] (153 : Nat) #[Value.slice a65 n66 n67,
  Value.slice (some (Addr.mk n68 (0 : Nat) none)) (1 : Nat) (1 : Nat)]) (fun v70 w71 => opL v70 fun a72 n73 n74 => NN p0 fun A75 => ¬Addr.block A75 ∈ [n50] ∧ Wr w71
  (Addr.add A75 (1 : Nat)) (1 : Nat) ∧ J62 [] [] (setCells w71 (Addr.add A75 (1 : Nat)) (0 : Nat) [Value.slice a72 n73 n74])) w69)) ∧ SzIs (Array.size cs49) (129 : Nat)
  (Nw (Obj.cells (List.toArray (flat [((0 : Nat), Value.agg cs49)])) (254 : Nat)) (World.drew w52) fun n76 w77 => Ld w77 (Addr.add A63 (1 : Nat)) fun v78 => opL v78 fun
  a79 n80 n81 => RunW Try.prog [n50] (Builtin.append_ #[(153 : Nat), (153 : Nat)] (153 : Nat) #[Value.slice a79 n80 n81, Value.slice (some (Addr.mk n76 (0 : Nat) none))
  (1 : Nat) (1 : Nat)]) (fun v82 w83 => opL v82 fun a84 n85 n86 => NN p0 fun A87 => ¬Addr.block A87 ∈ [n50] ∧ Wr w83 (Addr.add A87 (1 : Nat)) (1 : Nat) ∧ J62 [] []
  (setCells w83 (Addr.add A87 (1 : Nat)) (0 : Nat) [Value.slice a84 n85 n86])) w77)))) w13)) w2)) w
theorem f114_eq (p0 : Option Addr) (p1 : Int) (p2a : Option Addr) (p2n : Nat) (p2c : Nat) (R : Value → World → Prop) (w : World) : fnW Try.prog [7, 100007, 400008,
  400009] Try.f114 [Value.pointer p0, Value.int IntKind.i64 p1, Value.slice p2a p2n p2c] R w = f114_vc p0 p1 p2a p2n p2c R w := by kernel_rfl
theorem f114_in (p0 : Option Addr) (p1 : Int) (p2a : Option Addr) (p2n : Nat) (p2c : Nat) (R : Value → World → Prop) (w : World) (h : f114_vc p0 p1 p2a p2n p2c R w) : Ct
  Try.prog 114 #[Value.pointer p0, Value.int IntKind.i64 p1, Value.slice p2a p2n p2c] w R := by
  refine Ct_of (rk := [7, 100007, 400008, 400009]) (fn := Try.f114) (args := [Value.pointer p0, Value.int IntKind.i64 p1, Value.slice p2a p2n p2c]) mixedT Try.func114 (by kernel_rfl) ?_
  rw [f114_eq]
  exact h
def f106_vc (p0 : Option Addr) (p1 : Int) (p2 : Int) (R : Value → World → Prop) (w : World) : Prop := CallW Try.prog [] (191 : Nat) #[Value.pointer p0] (fun v1 w2 => opB
  v1 fun b3 => If b3 (R (Value.tuple #[]) w2) (Bd (if (0 : Int) > p1 then (0 : Int) else p1) fun x4 => Bd (if (0 : Int) > p2 then (0 : Int) else p2) fun x5 => Bd (if (64
  : Int) < x5 then (64 : Int) else x5) fun x6 => NN p0 fun A7 => Ld w2 (Addr.add A7 (1 : Nat)) fun v8 => opL v8 fun a9 n10 n11 => Bd ((n10 : Nat) : Int) fun x12 => Bd
  (IntKind.wrap IntKind.i64 (x12 - (1 : Int))) fun x13 => LoopP (fun l14 l15 J16 w17 => opI IntKind.i64 (nthD l14 (0 : Nat)) fun x18 => Bd (decide (x18 ≥ x4)) fun b19 =>
  If b19 (Jn (fun l20 l21 w22 => Bd (IntKind.wrap IntKind.i64 (x18 - (1 : Int))) fun x23 => J16 [Value.int IntKind.i64 x23] [] w22) fun J24 => NN p0 fun A25 => Ld w17
  (Addr.add A25 (1 : Nat)) fun v26 => opL v26 fun a27 n28 n29 => IxOk x18 n28 a27 ∧ LdN w17 (adAt a27 x18 (129 : Nat)) (129 : Nat) fun l30 => Bd (List.toArray l30) fun
  cs31 => Array.size cs31 = (129 : Nat) ∧ Nw (Obj.cells (List.toArray (zeroL Try.prog (254 : Nat))) (254 : Nat)) w17 fun n32 w33 => OkC (Array.toList cs31) (129 : Nat)
  (¬n32 ∈ [] ∧ Wr w33 (Addr.mk n32 (0 : Nat) none) (129 : Nat) ∧ Dr (World.drew (setCells w33 (Addr.mk n32 (0 : Nat) none) (0 : Nat) (Array.toList cs31))) fun J34 => NN
  p0 fun A35 => ∃ v36, (∀ (w37 : World), J34 w37 → Ld w37 (Addr.add A35 (0 : Nat)) fun v39 => v39 = v36) ∧ opL v36 fun a40 n41 n42 => ∃ v43, (∀ (w44 : World), J34 w44 →
  Ld w44 (Addr.add (Addr.mk n32 (0 : Nat) none) (0 : Nat)) fun v46 => v46 = v43) ∧ opI IntKind.i64 v43 fun x47 => ∃ v48, (∀ (w49 : World), J34 w49 → LdN w49 (Addr.add
  (Addr.mk n32 (0 : Nat) none) (65 : Nat)) (64 : Nat) fun l51 => Value.agg (List.toArray l51) = v48) ∧ opBig v48 fun cs52 => Array.size cs52 = (64 : Nat) ∧ IxOk x47 n41
  a40 ∧ OkC (Array.toList cs52) (64 : Nat) (¬Addr.block (adAt a40 x47 (64 : Nat)) ∈ [] ∧ Wr (World.drew (setCells w33 (Addr.mk n32 (0 : Nat) none) (0 : Nat) (Array.toList
  cs31))) (adAt a40 x47 (64 : Nat)) (64 : Nat) ∧ J34 (setCells (World.drew (setCells w33 (Addr.mk n32 (0 : Nat) none) (0 : Nat) (Array.toList cs31))) (adAt a40 x47 (64 :
  Nat)) (0 : Nat) (Array.toList cs52)) ∧ Bd (x18 == x4) fun b53 => If b53 (Dr (World.drew (setCells (World.drew (setCells w33 (Addr.mk n32 (0 : Nat) none) (0 : Nat)
  (Array.toList cs31))) (adAt a40 x47 (64 : Nat)) (0 : Nat) (Array.toList cs52))) fun J54 => NN p0 fun A55 => ∃ v56, (∀ (w57 : World), J54 w57 → Ld w57 (Addr.add A55 (0 :
  Nat)) fun v59 => v59 = v56) ∧ opL v56 fun a60 n61 n62 => ∃ v63, (∀ (w64 : World), J54 w64 → Ld w64 (Addr.add (Addr.mk n32 (0 : Nat) none) (0 : Nat)) fun v66 => v66 =
  v63) ∧ opI IntKind.i64 v63 fun x67 => IxOk x67 n61 a60 ∧ ∃ v68, (∀ (w69 : World), J54 w69 → RunV Try.prog (Instr.sliceAt (252 : Nat) (Value.pointer (some (adAt a60 x67
  (64 : Nat)))) none (some (Value.int IntKind.i64 x6)) none) v68 w69) ∧ opL v68 fun a71 n72 n73 => ∃ v74, (∀ (w75 : World), J54 w75 → RunV Try.prog (Instr.sliceAt (252 :
  Nat) (Value.pointer (some (Addr.add (Addr.mk n32 (0 : Nat) none) (1 : Nat)))) none (some (Value.int IntKind.i64 x6)) none) v74 w75) ∧ opL v74 fun a77 n78 n79 => RunW
  Try.prog [] (Builtin.copy_ #[(51 : Nat), (51 : Nat)] (3 : Nat) #[Value.slice a71 n72 n73, Value.slice a77 n78 n79]) (fun v80 w81 => opI IntKind.i64 v80 fun x82 => J54
  w81 ∧ J24 [] [] w81) (World.drew (setCells (World.drew (setCells w33 (Addr.mk n32 (0 : Nat) none) (0 : Nat) (Array.toList cs31))) (adAt a40 x47 (64 : Nat)) (0 : Nat)
  (Array.toList cs52)))) (J24 [] [] (setCells (World.drew (setCells w33 (Addr.mk n32 (0 : Nat) none) (0 : Nat) (Array.toList cs31))) (adAt a40 x47 (64 : Nat)) (0 : Nat)
  (Array.toList cs52)))))) (NN p0 fun A83 => ¬Addr.block A83 ∈ [] ∧ Wr w17 (Addr.add A83 (1 : Nat)) (1 : Nat) ∧ NN p0 fun A84 => ¬Addr.block A84 ∈ [] ∧ Wr (setCells w17
  (Addr.add A83 (1 : Nat)) (0 : Nat) [Value.slice none (0 : Nat) (0 : Nat)]) (Addr.add A84 (2 : Nat)) (1 : Nat) ∧ R (Value.tuple #[]) (setCells (setCells w17 (Addr.add
  A83 (1 : Nat)) (0 : Nat) [Value.slice none (0 : Nat) (0 : Nat)]) (Addr.add A84 (2 : Nat)) (0 : Nat) [Value.int IntKind.i64 (0 : Int)]))) [Value.int IntKind.i64 x13] []
  w2)) w
theorem f106_eq (p0 : Option Addr) (p1 : Int) (p2 : Int) (R : Value → World → Prop) (w : World) : fnW Try.prog [100006, 100008] Try.f106 [Value.pointer p0, Value.int
  IntKind.i64 p1, Value.int IntKind.i64 p2] R w = f106_vc p0 p1 p2 R w := by kernel_rfl
theorem f106_in (p0 : Option Addr) (p1 : Int) (p2 : Int) (R : Value → World → Prop) (w : World) (h : f106_vc p0 p1 p2 R w) : Ct Try.prog 106 #[Value.pointer p0, Value.int
  IntKind.i64 p1, Value.int IntKind.i64 p2] w R := by
  refine Ct_of (rk := [100006, 100008]) (fn := Try.f106) (args := [Value.pointer p0, Value.int IntKind.i64 p1, Value.int IntKind.i64 p2]) mixedT Try.func106 (by kernel_rfl) ?_
  rw [f106_eq]
  exact h
def f110_vc (p0_0 : Int) (p0_1 : Int) (p0_2 : Int) (p0_3 : Int) (p0_4 : Int) (p0_5 : Bool) (R : Value → World → Prop) (w : World) : Prop := Rg w fun n1 => Bd
  (IntKind.wrap IntKind.i64 p0_4) fun x2 => Jn (fun l3 l4 w5 => opI IntKind.i64 (nthD l3 (0 : Nat)) fun x6 => Nw (Obj.cells #[Value.int IntKind.u8 p0_3] (5 : Nat)) w5 fun
  n7 w8 => CallW Try.prog [n1] (193 : Nat) #[Value.slice (some (Addr.mk n7 (0 : Nat) none)) (1 : Nat) (1 : Nat), Value.int IntKind.i64 x6] (fun v9 w10 => opL v9 fun a11
  n12 n13 => Bd ((n12 : Nat) : Int) fun x14 => LoopP (fun l15 l16 J17 w18 => opI IntKind.i64 (nthD l15 (0 : Nat)) fun x19 => Bd (decide (x19 < x14)) fun b20 => If b20
  (IxOk x19 n12 a11 ∧ Ld w18 (adAt a11 x19 (1 : Nat)) fun v21 => opI IntKind.u8 v21 fun x22 => Bd (IntKind.wrap IntKind.u8 x19) fun x23 => Bd (IntKind.wrap IntKind.u8
  (x22 + x23)) fun x24 => IxOk x19 n12 a11 ∧ ¬Addr.block (adAt a11 x19 (1 : Nat)) ∈ [n1] ∧ Wr w18 (adAt a11 x19 (1 : Nat)) (1 : Nat) ∧ Bd (IntKind.wrap IntKind.i64 (x19 +
  (1 : Int))) fun x25 => J17 [Value.int IntKind.i64 x25] [] (setCells w18 (adAt a11 x19 (1 : Nat)) (0 : Nat) [Value.int IntKind.u8 x24])) (R (Value.slice a11 n12 n13)
  w18)) [Value.int IntKind.i64 (0 : Int)] [] w10) w8) fun J26 => If p0_5 (Up [] [n1] w fun w27 => J26 [Value.int IntKind.i64 (64 : Int)] [] w27) (Up [] [n1] w fun w28 =>
  J26 [Value.int IntKind.i64 x2] [] w28)
theorem f110_eq (p0_0 : Int) (p0_1 : Int) (p0_2 : Int) (p0_3 : Int) (p0_4 : Int) (p0_5 : Bool) (R : Value → World → Prop) (w : World) : fnW Try.prog [1] Try.f110
  [Value.agg #[Value.int IntKind.u8 p0_0, Value.int IntKind.i64 p0_1, Value.int IntKind.i64 p0_2, Value.int IntKind.u8 p0_3, Value.int IntKind.u8 p0_4, Value.bool p0_5]]
  R w = f110_vc p0_0 p0_1 p0_2 p0_3 p0_4 p0_5 R w := by kernel_rfl
theorem f110_in (p0_0 : Int) (p0_1 : Int) (p0_2 : Int) (p0_3 : Int) (p0_4 : Int) (p0_5 : Bool) (R : Value → World → Prop) (w : World) (h : f110_vc p0_0 p0_1 p0_2 p0_3
  p0_4 p0_5 R w) : Ct Try.prog 110 #[Value.agg #[Value.int IntKind.u8 p0_0, Value.int IntKind.i64 p0_1, Value.int IntKind.i64 p0_2, Value.int IntKind.u8 p0_3, Value.int
  IntKind.u8 p0_4, Value.bool p0_5]] w R := by
  refine Ct_of (rk := [1]) (fn := Try.f110) (args := [Value.agg #[Value.int IntKind.u8 p0_0, Value.int IntKind.i64 p0_1, Value.int IntKind.i64 p0_2, Value.int IntKind.u8 p0_3, Value.int IntKind.u8 p0_4, Value.bool p0_5]]) mixedT Try.func110 (by kernel_rfl) ?_
  rw [f110_eq]
  exact h
def f193_vc (p0a : Option Addr) (p0n : Nat) (p0c : Nat) (p1 : Int) (R : Value → World → Prop) (w : World) : Prop := Bd (p1 == (0 : Int)) fun b1 => If b1 (Nw (Obj.cells
  #[] (5 : Nat)) w fun n2 w3 => R (Value.slice (some (Addr.mk n2 (0 : Nat) none)) (0 : Nat) (0 : Nat)) w3) (Jn (fun l4 l5 w6 => Bd ((p0n : Nat) : Int) fun x7 => Bd
  (IntKind.wrap IntKind.u64 x7) fun x8 => Bd (IntKind.wrap IntKind.u64 p1) fun x9 => CallW Try.prog [] (223 : Nat) #[Value.int IntKind.u64 x8, Value.int IntKind.u64 x9]
  (fun v10 w11 => opTu v10 fun cs12 => opI IntKind.u64 (nthD (Array.toList cs12) (0 : Nat)) fun x13 => opI IntKind.u64 (nthD (Array.toList cs12) (1 : Nat)) fun x14 =>
  SzIs (Array.size cs12) (2 : Nat) (Jn (fun l15 l16 w17 => Bd (IntKind.wrap IntKind.i64 x14) fun x18 => Bd ((p0n : Nat) : Int) fun x19 => Bd (x19 == (0 : Int)) fun b20 =>
  If b20 (Nw (Obj.cells #[] (5 : Nat)) w17 fun n21 w22 => R (Value.slice (some (Addr.mk n21 (0 : Nat) none)) (0 : Nat) (0 : Nat)) w22) (Jn (fun l23 l24 w25 => opI
  IntKind.i64 (nthD l23 (0 : Nat)) fun x26 => CallW Try.prog [] (224 : Nat) #[Value.int IntKind.i64 x18] (fun v27 w28 => opL v27 fun a29 n30 n31 => RunW Try.prog []
  (Instr.sliceAt (51 : Nat) (Value.slice a29 n30 n31) none (some (Value.int IntKind.i64 x18)) (some (Value.int IntKind.i64 x18))) (fun v32 w33 => opL v32 fun a34 n35 n36
  => RunW Try.prog [] (Builtin.copy_ #[(51 : Nat), (51 : Nat)] (3 : Nat) #[Value.slice a34 n35 n36, Value.slice p0a p0n p0c]) (fun v37 w38 => opI IntKind.i64 v37 fun x39
  => LoopP (fun l40 l41 J42 w43 => opI IntKind.i64 (nthD l40 (0 : Nat)) fun x44 => Bd (decide (x44 < x18)) fun b45 => If b45 (Bd (if x26 < x44 then x26 else x44) fun x46
  => Dr (World.drew w43) fun J47 => ∃ v48, (∀ (w49 : World), J47 w49 → RunV Try.prog (Instr.sliceAt (51 : Nat) (Value.slice a34 n35 n36) (some (Value.int IntKind.i64
  x44)) none none) v48 w49) ∧ opL v48 fun a51 n52 n53 => ∃ v54, (∀ (w55 : World), J47 w55 → RunV Try.prog (Instr.sliceAt (51 : Nat) (Value.slice a34 n35 n36) none (some
  (Value.int IntKind.i64 x46)) none) v54 w55) ∧ opL v54 fun a57 n58 n59 => RunW Try.prog [] (Builtin.copy_ #[(51 : Nat), (51 : Nat)] (3 : Nat) #[Value.slice a51 n52 n53,
  Value.slice a57 n58 n59]) (fun v60 w61 => opI IntKind.i64 v60 fun x62 => J47 w61 ∧ Bd (IntKind.wrap IntKind.i64 (x44 + x62)) fun x63 => J42 [Value.int IntKind.i64 x63]
  [] w61) (World.drew w43)) (R (Value.slice a34 n35 n36) w43)) [Value.int IntKind.i64 x39] [] w38) w33) w28) w25) fun J64 => Bd (decide (x18 > (8192 : Int))) fun b65 =>
  If b65 (Bd ((p0n : Nat) : Int) fun x66 => x66 ≠ (0 : Int) ∧ Bd (IntKind.wrap IntKind.i64 (Int.tdiv (8192 : Int) x66)) fun x67 => Bd ((p0n : Nat) : Int) fun x68 => Bd
  (IntKind.wrap IntKind.i64 (x67 * x68)) fun x69 => Bd (x69 == (0 : Int)) fun b70 => If b70 (Bd ((p0n : Nat) : Int) fun x71 => J64 [Value.int IntKind.i64 x71] [] w17)
  (J64 [Value.int IntKind.i64 x69] [] w17)) (J64 [Value.int IntKind.i64 x18] [] w17))) fun J72 => Bd (decide (x13 > (0 : Int))) fun b73 => Bd (decide (x14 >
  (9223372036854775807 : Int))) fun b74 => Bd (bif b73 then true else b74) fun b75 => If b75 (RunW Try.prog [] (Instr.makeInterface (9 : Nat) (Value.string (ByteArray.mk
  #[(98 : UInt8), (121 : UInt8), (116 : UInt8), (101 : UInt8), (115 : UInt8), (58 : UInt8), (32 : UInt8), (82 : UInt8), (101 : UInt8), (112 : UInt8), (101 : UInt8), (97 :
  UInt8), (116 : UInt8), (32 : UInt8), (111 : UInt8), (117 : UInt8), (116 : UInt8), (112 : UInt8), (117 : UInt8), (116 : UInt8), (32 : UInt8), (108 : UInt8), (101 :
  UInt8), (110 : UInt8), (103 : UInt8), (116 : UInt8), (104 : UInt8), (32 : UInt8), (111 : UInt8), (118 : UInt8), (101 : UInt8), (114 : UInt8), (102 : UInt8), (108 :
  UInt8), (111 : UInt8), (119 : UInt8)]))) (fun v76 w77 => RunW Try.prog [] (Instr.panic v76) (fun v78 w79 => opTu v78 fun cs80 => SzIs (Array.size cs80) (0 : Nat) (J72
  [] [] w79)) w77) w11) (J72 [] [] w11))) w6) fun J81 => Bd (decide (p1 < (0 : Int))) fun b82 => If b82 (RunW Try.prog [] (Instr.makeInterface (9 : Nat) (Value.string
  (ByteArray.mk #[(98 : UInt8), (121 : UInt8), (116 : UInt8), (101 : UInt8), (115 : UInt8), (58 : UInt8), (32 : UInt8), (110 : UInt8), (101 : UInt8), (103 : UInt8), (97 :
  UInt8), (116 : UInt8), (105 : UInt8), (118 : UInt8), (101 : UInt8), (32 : UInt8), (82 : UInt8), (101 : UInt8), (112 : UInt8), (101 : UInt8), (97 : UInt8), (116 :
  UInt8), (32 : UInt8), (99 : UInt8), (111 : UInt8), (117 : UInt8), (110 : UInt8), (116 : UInt8)]))) (fun v83 w84 => RunW Try.prog [] (Instr.panic v83) (fun v85 w86 =>
  opTu v85 fun cs87 => SzIs (Array.size cs87) (0 : Nat) (J81 [] [] w86)) w84) w) (J81 [] [] w))
theorem f193_eq (p0a : Option Addr) (p0n : Nat) (p0c : Nat) (p1 : Int) (R : Value → World → Prop) (w : World) : fnW Try.prog [100020] Try.f193 [Value.slice p0a p0n p0c,
  Value.int IntKind.i64 p1] R w = f193_vc p0a p0n p0c p1 R w := by kernel_rfl
theorem f193_in (p0a : Option Addr) (p0n : Nat) (p0c : Nat) (p1 : Int) (R : Value → World → Prop) (w : World) (h : f193_vc p0a p0n p0c p1 R w) : Ct Try.prog 193
  #[Value.slice p0a p0n p0c, Value.int IntKind.i64 p1] w R := by
  refine Ct_of (rk := [100020]) (fn := Try.f193) (args := [Value.slice p0a p0n p0c, Value.int IntKind.i64 p1]) mixedT Try.func193 (by kernel_rfl) ?_
  rw [f193_eq]
  exact h
def f223_vc (p0 : Int) (p1 : Int) (R : Value → World → Prop) (w : World) : Prop := If false (Bd (IntKind.wrap IntKind.u32 p0) fun x1 => Bd (IntKind.wrap IntKind.u32 p1)
  fun x2 => CallW Try.prog [] (232 : Nat) #[Value.int IntKind.u32 x1, Value.int IntKind.u32 x2] (fun v3 w4 => opTu v3 fun cs5 => opI IntKind.u32 (nthD (Array.toList cs5)
  (0 : Nat)) fun x6 => opI IntKind.u32 (nthD (Array.toList cs5) (1 : Nat)) fun x7 => SzIs (Array.size cs5) (2 : Nat) (Bd (IntKind.wrap IntKind.u64 x6) fun x8 => Bd
  (IntKind.wrap IntKind.u64 x7) fun x9 => R (Value.tuple #[Value.int IntKind.u64 x8, Value.int IntKind.u64 x9]) w4)) w) (CallW Try.prog [] (233 : Nat) #[Value.int
  IntKind.u64 p0, Value.int IntKind.u64 p1] (fun v10 w11 => opTu v10 fun cs12 => opI IntKind.u64 (nthD (Array.toList cs12) (0 : Nat)) fun x13 => opI IntKind.u64 (nthD
  (Array.toList cs12) (1 : Nat)) fun x14 => SzIs (Array.size cs12) (2 : Nat) (R (Value.tuple #[Value.int IntKind.u64 x13, Value.int IntKind.u64 x14]) w11)) w)
theorem f223_eq (p0 : Int) (p1 : Int) (R : Value → World → Prop) (w : World) : fnW Try.prog [] Try.f223 [Value.int IntKind.u64 p0, Value.int IntKind.u64 p1] R w = f223_vc
  p0 p1 R w := by kernel_rfl
theorem f223_in (p0 : Int) (p1 : Int) (R : Value → World → Prop) (w : World) (h : f223_vc p0 p1 R w) : Ct Try.prog 223 #[Value.int IntKind.u64 p0, Value.int IntKind.u64
  p1] w R := by
  refine Ct_of (rk := []) (fn := Try.f223) (args := [Value.int IntKind.u64 p0, Value.int IntKind.u64 p1]) mixedT Try.func223 (by kernel_rfl) ?_
  rw [f223_eq]
  exact h
def f233_vc (p0 : Int) (p1 : Int) (R : Value → World → Prop) (w : World) : Prop := Bd (IntKind.wrap IntKind.u64 ↑(BitVec.toNat (BitVec.ofInt (64 : Nat) p0 &&&
  BitVec.ofInt (64 : Nat) (4294967295 : Int)))) fun x1 => Bd (Int.fdiv p0 ((2 : Int) ^ min (32 : Nat) (64 : Nat))) fun x2 => Bd (IntKind.wrap IntKind.u64 ↑(BitVec.toNat
  (BitVec.ofInt (64 : Nat) p1 &&& BitVec.ofInt (64 : Nat) (4294967295 : Int)))) fun x3 => Bd (Int.fdiv p1 ((2 : Int) ^ min (32 : Nat) (64 : Nat))) fun x4 => Bd
  (IntKind.wrap IntKind.u64 (x1 * x3)) fun x5 => Bd (IntKind.wrap IntKind.u64 (x2 * x3)) fun x6 => Bd (Int.fdiv x5 ((2 : Int) ^ min (32 : Nat) (64 : Nat))) fun x7 => Bd
  (IntKind.wrap IntKind.u64 (x6 + x7)) fun x8 => Bd (IntKind.wrap IntKind.u64 ↑(BitVec.toNat (BitVec.ofInt (64 : Nat) x8 &&& BitVec.ofInt (64 : Nat) (4294967295 : Int))))
  fun x9 => Bd (Int.fdiv x8 ((2 : Int) ^ min (32 : Nat) (64 : Nat))) fun x10 => Bd (IntKind.wrap IntKind.u64 (x1 * x4)) fun x11 => Bd (IntKind.wrap IntKind.u64 (x9 +
  x11)) fun x12 => Bd (IntKind.wrap IntKind.u64 (x2 * x4)) fun x13 => Bd (IntKind.wrap IntKind.u64 (x13 + x10)) fun x14 => Bd (Int.fdiv x12 ((2 : Int) ^ min (32 : Nat)
  (64 : Nat))) fun x15 => Bd (IntKind.wrap IntKind.u64 (x14 + x15)) fun x16 => Bd (IntKind.wrap IntKind.u64 (p0 * p1)) fun x17 => R (Value.tuple #[Value.int IntKind.u64
  x16, Value.int IntKind.u64 x17]) w
theorem f233_eq (p0 : Int) (p1 : Int) (R : Value → World → Prop) (w : World) : fnW Try.prog [] Try.f233 [Value.int IntKind.u64 p0, Value.int IntKind.u64 p1] R w = f233_vc
  p0 p1 R w := by kernel_rfl
theorem f233_in (p0 : Int) (p1 : Int) (R : Value → World → Prop) (w : World) (h : f233_vc p0 p1 R w) : Ct Try.prog 233 #[Value.int IntKind.u64 p0, Value.int IntKind.u64
  p1] w R := by
  refine Ct_of (rk := []) (fn := Try.f233) (args := [Value.int IntKind.u64 p0, Value.int IntKind.u64 p1]) mixedT Try.func233 (by kernel_rfl) ?_
  rw [f233_eq]
  exact h
def f105_vc (p0 : Option Addr) (p1_0 : Int) (p1_1 : Int) (p1_2 : Int) (p1_3 : Int) (p1_4 : Int) (p1_5 : Bool) (R : Value → World → Prop) (w : World) : Prop := Rg w fun n1
  => Jn (fun l2 l3 w4 => opI IntKind.i64 (nthD l2 (0 : Nat)) fun x5 => opB (nthD l2 (1 : Nat)) fun b6 => opB (nthD l2 (2 : Nat)) fun b7 => opB (nthD l2 (3 : Nat)) fun b8
  => R (Value.int IntKind.i64 (0 : Int)) w4) fun J9 => Bd (p1_0 == (1 : Int)) fun b10 => If b10 (Jn (fun l11 l12 w13 => opI IntKind.i64 (nthD l11 (0 : Nat)) fun x14 => R
  (Value.int IntKind.i64 x14) w13) fun J15 => Up [] [n1] w fun w16 => Dr (World.drew w16) fun J17 => CallW Try.prog [n1] (110 : Nat) #[Value.agg #[Value.int IntKind.u8
  p1_0, Value.int IntKind.i64 p1_1, Value.int IntKind.i64 p1_2, Value.int IntKind.u8 p1_3, Value.int IntKind.u8 p1_4, Value.bool p1_5]] (fun v18 w19 => opL v18 fun a20
  n21 n22 => J17 w19 ∧ CallW Try.prog [n1] (114 : Nat) #[Value.pointer p0, Value.int IntKind.i64 p1_1, Value.slice a20 n21 n22] (fun v23 w24 => opI IntKind.i64 v23 fun
  x25 => J17 w24 ∧ J15 [Value.int IntKind.i64 x25] [] w24) w19) (World.drew w16)) (Bd (p1_0 == (2 : Int)) fun b26 => If b26 (Up [] [n1] w fun w27 => CallW Try.prog [n1]
  (103 : Nat) #[Value.pointer p0] (fun v28 w29 => opI IntKind.i64 v28 fun x30 => R (Value.int IntKind.i64 x30) w29) w27) (Bd (p1_0 == (3 : Int)) fun b31 => If b31 (Up []
  [n1] w fun w32 => CallW Try.prog [n1] (102 : Nat) #[Value.pointer p0, Value.int IntKind.i64 p1_1] (fun v33 w34 => opTu v33 fun cs35 => SzIs (Array.size cs35) (0 : Nat)
  (J9 [Value.int IntKind.i64 (0 : Int), Value.bool b10, Value.bool b26, Value.bool b31] [] w34)) w32) (Bd (p1_0 == (4 : Int)) fun b36 => If b36 (Up [] [n1] w fun w37 =>
  CallW Try.prog [n1] (106 : Nat) #[Value.pointer p0, Value.int IntKind.i64 p1_1, Value.int IntKind.i64 p1_2] (fun v38 w39 => opTu v38 fun cs40 => SzIs (Array.size cs40)
  (0 : Nat) (J9 [Value.int IntKind.i64 (0 : Int), Value.bool b10, Value.bool b26, Value.bool b31] [] w39)) w37) (Up [] [n1] w fun w41 => J9 [Value.int IntKind.i64 (0 :
  Int), Value.bool b10, Value.bool b26, Value.bool b31] [] w41))))
theorem f105_eq (p0 : Option Addr) (p1_0 : Int) (p1_1 : Int) (p1_2 : Int) (p1_3 : Int) (p1_4 : Int) (p1_5 : Bool) (R : Value → World → Prop) (w : World) : fnW Try.prog
  [3, 100003] Try.f105 [Value.pointer p0, Value.agg #[Value.int IntKind.u8 p1_0, Value.int IntKind.i64 p1_1, Value.int IntKind.i64 p1_2, Value.int IntKind.u8 p1_3,
  Value.int IntKind.u8 p1_4, Value.bool p1_5]] R w = f105_vc p0 p1_0 p1_1 p1_2 p1_3 p1_4 p1_5 R w := by kernel_rfl
theorem f105_in (p0 : Option Addr) (p1_0 : Int) (p1_1 : Int) (p1_2 : Int) (p1_3 : Int) (p1_4 : Int) (p1_5 : Bool) (R : Value → World → Prop) (w : World) (h : f105_vc p0
  p1_0 p1_1 p1_2 p1_3 p1_4 p1_5 R w) : Ct Try.prog 105 #[Value.pointer p0, Value.agg #[Value.int IntKind.u8 p1_0, Value.int IntKind.i64 p1_1, Value.int IntKind.i64 p1_2,
  Value.int IntKind.u8 p1_3, Value.int IntKind.u8 p1_4, Value.bool p1_5]] w R := by
  refine Ct_of (rk := [3, 100003]) (fn := Try.f105) (args := [Value.pointer p0, Value.agg #[Value.int IntKind.u8 p1_0, Value.int IntKind.i64 p1_1, Value.int IntKind.i64 p1_2, Value.int IntKind.u8 p1_3, Value.int IntKind.u8 p1_4, Value.bool p1_5]]) mixedT Try.func105 (by kernel_rfl) ?_
  rw [f105_eq]
  exact h
def f101_vc (p0a : Option Addr) (p0n : Nat) (p0c : Nat) (R : Value → World → Prop) (w : World) : Prop := CallW Try.prog [] (109 : Nat) #[Value.int IntKind.i64 (8 : Int)]
  (fun v1 w2 => opTu v1 fun cs3 => opP (nthD (Array.toList cs3) (0 : Nat)) fun a4 => opI IntKind.i64 (nthD (Array.toList cs3) (1 : Nat)) fun x5 => SzIs (Array.size cs3)
  (2 : Nat) (Bd ((p0n : Nat) : Int) fun x6 => Bd (if (40 : Int) < x6 then (40 : Int) else x6) fun x7 => RunW Try.prog [] (Instr.sliceAt (118 : Nat) (Value.slice p0a p0n
  p0c) none (some (Value.int IntKind.i64 x7)) none) (fun v8 w9 => opL v8 fun a10 n11 n12 => Bd ((n11 : Nat) : Int) fun x13 => LoopP (fun l14 l15 J16 w17 => opI
  IntKind.i64 (nthD l14 (0 : Nat)) fun x18 => Bd (decide (x18 < x13)) fun b19 => If b19 (IxOk x18 n11 a10 ∧ Ld w17 (Addr.add (adAt a10 x18 (6 : Nat)) (0 : Nat)) fun v20
  => Ld w17 (Addr.add (adAt a10 x18 (6 : Nat)) (1 : Nat)) fun v21 => Ld w17 (Addr.add (adAt a10 x18 (6 : Nat)) (2 : Nat)) fun v22 => Ld w17 (Addr.add (adAt a10 x18 (6 :
  Nat)) (3 : Nat)) fun v23 => Ld w17 (Addr.add (adAt a10 x18 (6 : Nat)) (4 : Nat)) fun v24 => Ld w17 (Addr.add (adAt a10 x18 (6 : Nat)) (5 : Nat)) fun v25 => opI
  IntKind.u8 v20 fun x26 => opI IntKind.i64 v21 fun x27 => opI IntKind.i64 v22 fun x28 => opI IntKind.u8 v23 fun x29 => opI IntKind.u8 v24 fun x30 => opB v25 fun b31 =>
  Rg w17 fun n32 => Up [n32] [n32] w17 fun w33 => CallW Try.prog [n32] (105 : Nat) #[Value.pointer a4, Value.agg #[Value.int IntKind.u8 x26, Value.int IntKind.i64 x27,
  Value.int IntKind.i64 x28, Value.int IntKind.u8 x29, Value.int IntKind.u8 x30, Value.bool b31]] (fun v34 w35 => opI IntKind.i64 v34 fun x36 => Bd (IntKind.wrap
  IntKind.i64 (x18 + (1 : Int))) fun x37 => J16 [Value.int IntKind.i64 x37] [] w35) w33) (R (Value.pointer a4) w17)) [Value.int IntKind.i64 (0 : Int)] [] w9) w2)) w
theorem f101_eq (p0a : Option Addr) (p0n : Nat) (p0c : Nat) (R : Value → World → Prop) (w : World) : fnW Try.prog [6] Try.f101 [Value.slice p0a p0n p0c] R w = f101_vc p0a
  p0n p0c R w := by kernel_rfl
theorem f101_in (p0a : Option Addr) (p0n : Nat) (p0c : Nat) (R : Value → World → Prop) (w : World) (h : f101_vc p0a p0n p0c R w) : Ct Try.prog 101 #[Value.slice p0a p0n
  p0c] w R := by
  refine Ct_of (rk := [6]) (fn := Try.f101) (args := [Value.slice p0a p0n p0c]) mixedT Try.func101 (by kernel_rfl) ?_
  rw [f101_eq]
  exact h
def f28_vc (p0 : Int) (p1 : Int) (p2a : Option Addr) (p2n : Nat) (p2c : Nat) (R : Value → World → Prop) (w : World) : Prop := Nw (Obj.cells #[Value.slice none (0 : Nat)
  (0 : Nat), Value.slice none (0 : Nat) (0 : Nat), Value.int IntKind.i64 (0 : Int)] (155 : Nat)) w fun n1 w2 => Nw (Obj.cells #[Value.pointer none, Value.pointer (some
  (Addr.mk n1 (0 : Nat) none))] (119 : Nat)) w2 fun n3 w4 => Bd (((2 : Nat) : Nat) : Int) fun x5 => LoopP (fun l6 l7 J8 w9 => opB (nthD l6 (0 : Nat)) fun b10 => opI
  IntKind.i64 (nthD l6 (1 : Nat)) fun x11 => Bd (decide (x11 < x5)) fun b12 => If b12 (IxOk x11 (2 : Nat) (some (Addr.mk n3 (0 : Nat) none)) ∧ Ld w9 (adAt (some (Addr.mk
  n3 (0 : Nat) none)) x11 (1 : Nat)) fun v13 => opP v13 fun a14 => CallW Try.prog [] (102 : Nat) #[Value.pointer a14, Value.int IntKind.i64 p1] (fun v15 w16 => opTu v15
  fun cs17 => SzIs (Array.size cs17) (0 : Nat) (CallW Try.prog [] (106 : Nat) #[Value.pointer a14, Value.int IntKind.i64 p0, Value.int IntKind.i64 p1] (fun v18 w19 =>
  opTu v18 fun cs20 => SzIs (Array.size cs20) (0 : Nat) (CallW Try.prog [] (119 : Nat) #[Value.pointer a14, Value.int IntKind.i64 p0] (fun v21 w22 => opTu v21 fun cs23 =>
  opL (nthD (Array.toList cs23) (0 : Nat)) fun a24 n25 n26 => opI IntKind.i64 (nthD (Array.toList cs23) (1 : Nat)) fun x27 => SzIs (Array.size cs23) (2 : Nat) (CallW
  Try.prog [] (114 : Nat) #[Value.pointer a14, Value.int IntKind.i64 p0, Value.slice p2a p2n p2c] (fun v28 w29 => opI IntKind.i64 v28 fun x30 => Bd (x30 != (1 : Int)) fun
  b31 => Gd (!b31) (0 : Int) (fun J32 => CallW Try.prog [] (103 : Nat) #[Value.pointer a14] (fun v33 w34 => opI IntKind.i64 v33 fun x35 => J32 x35 w34) w29) (fun x36 w37
  => Bd (x36 != (1 : Int)) fun b38 => Bd (bif b31 then true else b38) fun b39 => Bd (x27 != (1 : Int)) fun b40 => Bd (bif b39 then true else b40) fun b41 => Bd ((n25 :
  Nat) : Int) fun x42 => Bd (x42 != (0 : Int)) fun b43 => Bd (bif b41 then true else b43) fun b44 => Gd (!b44) (0 : Int) (fun J45 => CallW Try.prog [] (112 : Nat)
  #[Value.pointer a14] (fun v46 w47 => opI IntKind.i64 v46 fun x48 => J45 x48 w47) w37) (fun x49 w50 => Gd (!b44) (0 : Int) (fun J51 => CallW Try.prog [] (108 : Nat)
  #[Value.pointer a14] (fun v52 w53 => opI IntKind.i64 v52 fun x54 => J51 x54 w53) w50) (fun x55 w56 => Bd (IntKind.wrap IntKind.i64 (x49 + x55)) fun x57 => Gd (!b44)
  (none, (0 : Nat), (0 : Nat)) (fun J58 => CallW Try.prog [] (104 : Nat) #[Value.pointer a14] (fun v59 w60 => opL v59 fun a61 n62 n63 => J58 (a61, n62, n63) w60) w56)
  (fun u64 w65 => Bd ↑(Prod.fst (Prod.snd u64)) fun x66 => Bd (IntKind.wrap IntKind.i64 (x57 + x66)) fun x67 => Bd (x67 != (0 : Int)) fun b68 => Bd (bif b44 then true
  else b68) fun b69 => If b69 (R (Value.bool false) w65) (Bd (IntKind.wrap IntKind.i64 (x11 + (1 : Int))) fun x70 => J8 [Value.bool b10, Value.int IntKind.i64 x70] []
  w65)) w56) w50) w37) w29) w22)) w19)) w16)) w9) (CallW Try.prog [] (107 : Nat) #[] (fun v71 w72 => opB v71 fun b73 => R (Value.bool b73) w72) w9)) [Value.bool false,
  Value.int IntKind.i64 (0 : Int)] [] w4
theorem f28_eq (p0 : Int) (p1 : Int) (p2a : Option Addr) (p2n : Nat) (p2c : Nat) (R : Value → World → Prop) (w : World) : fnW Try.prog [] Try.f28 [Value.int IntKind.i64
  p0, Value.int IntKind.i64 p1, Value.slice p2a p2n p2c] R w = f28_vc p0 p1 p2a p2n p2c R w := by kernel_rfl
theorem f28_in (p0 : Int) (p1 : Int) (p2a : Option Addr) (p2n : Nat) (p2c : Nat) (R : Value → World → Prop) (w : World) (h : f28_vc p0 p1 p2a p2n p2c R w) : Ct Try.prog
  28 #[Value.int IntKind.i64 p0, Value.int IntKind.i64 p1, Value.slice p2a p2n p2c] w R := by
  refine Ct_of (rk := []) (fn := Try.f28) (args := [Value.int IntKind.i64 p0, Value.int IntKind.i64 p1, Value.slice p2a p2n p2c]) mixedT Try.func28 (by kernel_rfl) ?_
  rw [f28_eq]
  exact h
def f107_vc (R : Value → World → Prop) (w : World) : Prop := CallW Try.prog [] (109 : Nat) #[Value.int IntKind.i64 (0 : Int)] (fun v1 w2 => opTu v1 fun cs3 => opP (nthD
  (Array.toList cs3) (0 : Nat)) fun a4 => opI IntKind.i64 (nthD (Array.toList cs3) (1 : Nat)) fun x5 => SzIs (Array.size cs3) (2 : Nat) (CallW Try.prog [] (109 : Nat)
  #[Value.int IntKind.i64 (3 : Int)] (fun v6 w7 => opTu v6 fun cs8 => opP (nthD (Array.toList cs8) (0 : Nat)) fun a9 => opI IntKind.i64 (nthD (Array.toList cs8) (1 :
  Nat)) fun x10 => SzIs (Array.size cs8) (2 : Nat) (Nw (Obj.cells #[Value.int IntKind.u8 (7 : Int)] (5 : Nat)) w7 fun n11 w12 => CallW Try.prog [] (193 : Nat)
  #[Value.slice (some (Addr.mk n11 (0 : Nat) none)) (1 : Nat) (1 : Nat), Value.int IntKind.i64 (64 : Int)] (fun v13 w14 => opL v13 fun a15 n16 n17 => CallW Try.prog []
  (114 : Nat) #[Value.pointer a9, Value.int IntKind.i64 (1 : Int), Value.slice a15 n16 n17] (fun v18 w19 => opI IntKind.i64 v18 fun x20 => CallW Try.prog [] (106 : Nat)
  #[Value.pointer a9, Value.int IntKind.i64 (0 : Int), Value.int IntKind.i64 (2 : Int)] (fun v21 w22 => opTu v21 fun cs23 => SzIs (Array.size cs23) (0 : Nat) (CallW
  Try.prog [] (119 : Nat) #[Value.pointer a9, Value.int IntKind.i64 (1 : Int)] (fun v24 w25 => opTu v24 fun cs26 => opL (nthD (Array.toList cs26) (0 : Nat)) fun a27 n28
  n29 => opI IntKind.i64 (nthD (Array.toList cs26) (1 : Nat)) fun x30 => SzIs (Array.size cs26) (2 : Nat) (CallW Try.prog [] (102 : Nat) #[Value.pointer a9, Value.int
  IntKind.i64 (2 : Int)] (fun v31 w32 => opTu v31 fun cs33 => SzIs (Array.size cs33) (0 : Nat) (CallW Try.prog [] (114 : Nat) #[Value.pointer a9, Value.int IntKind.i64 (2
  : Int), Value.slice a15 n16 n17] (fun v34 w35 => opI IntKind.i64 v34 fun x36 => CallW Try.prog [] (103 : Nat) #[Value.pointer a9] (fun v37 w38 => opI IntKind.i64 v37
  fun x39 => CallW Try.prog [] (103 : Nat) #[Value.pointer a9] (fun v40 w41 => opI IntKind.i64 v40 fun x42 => Jn (fun l43 l44 w45 => opB (nthD l43 (0 : Nat)) fun b46 => R
  (Value.bool b46) w45) fun J47 => Bd (x5 == (2 : Int)) fun b48 => Bd (x10 == (0 : Int)) fun b49 => Bd (bif b48 then b49 else false) fun b50 => Bd (x20 == (0 : Int)) fun
  b51 => Bd (bif b50 then b51 else false) fun b52 => Bd (x30 == (0 : Int)) fun b53 => Bd (bif b52 then b53 else false) fun b54 => Gd b54 ByteArray.empty (fun J55 => RunW
  Try.prog [] (convert (51 : Nat) (9 : Nat) (Value.slice a27 n28 n29)) (fun v56 w57 => opStr v56 fun s58 => J55 s58 w57) (World.drew w41)) (fun s59 w60 => Gd b54 (none,
  (0 : Nat), (0 : Nat)) (fun J61 => RunW Try.prog [] (Instr.makeSlice (51 : Nat) (Value.int IntKind.i64 (62 : Int)) (Value.int IntKind.i64 (62 : Int))) (fun v62 w63 =>
  opL v62 fun a64 n65 n66 => J61 (a64, n65, n66) w63) w60) (fun u67 w68 => Gd b54 ByteArray.empty (fun J69 => RunW Try.prog [] (convert (51 : Nat) (9 : Nat) (Value.slice
  (Prod.fst u67) (Prod.fst (Prod.snd u67)) (Prod.snd (Prod.snd u67)))) (fun v70 w71 => opStr v70 fun s72 => J69 s72 w71) w68) (fun s73 w74 => ∃ v75, (b54 = true → ∀ (w77
  : World), True → RunV Try.prog (eqS BinOp.add (9 : Nat) (Operand.const (Value.string (ByteArray.mk #[(7 : UInt8), (7 : UInt8)]))) (Operand.tmp (59 : Nat)) (Value.string
  (ByteArray.mk #[(7 : UInt8), (7 : UInt8)])) (Value.string s73)) v75 w77) ∧ opStr v75 fun s79 => Bd (ByteArray.toList s59 == ByteArray.toList s79) fun b80 => Bd (bif b54
  then b80 else false) fun b81 => Bd (x36 == (0 : Int)) fun b82 => Bd (bif b81 then b82 else false) fun b83 => Bd (x39 == (200 : Int)) fun b84 => Bd (bif b83 then b84
  else false) fun b85 => Bd (x42 == (0 : Int)) fun b86 => Bd (bif b85 then b86 else false) fun b87 => Gd b87 (0 : Int) (fun J88 => CallW Try.prog [] (108 : Nat)
  #[Value.pointer a9] (fun v89 w90 => opI IntKind.i64 v89 fun x91 => J88 x91 w90) w74) (fun x92 w93 => Bd (x92 == (0 : Int)) fun b94 => Bd (bif b87 then b94 else false)
  fun b95 => Gd b95 (none, (0 : Nat), (0 : Nat)) (fun J96 => CallW Try.prog [] (104 : Nat) #[Value.pointer a9] (fun v97 w98 => opL v97 fun a99 n100 n101 => J96 (a99,
  n100, n101) w98) w93) (fun u102 w103 => Bd ↑(Prod.fst (Prod.snd u102)) fun x104 => Bd (x104 == (192 : Int)) fun b105 => Bd (bif b95 then b105 else false) fun b106 =>
  J47 [Value.bool b106] [] w103) w93) w74) w68) w60) (World.drew w41) ∧ Gd b54 (none, (0 : Nat), (0 : Nat)) (fun J107 => RunW Try.prog [] (Instr.makeSlice (51 : Nat)
  (Value.int IntKind.i64 (62 : Int)) (Value.int IntKind.i64 (62 : Int))) (fun v108 w109 => opL v108 fun a110 n111 n112 => J107 (a110, n111, n112) w109) (World.drew w41))
  (fun u113 w114 => Gd b54 ByteArray.empty (fun J115 => RunW Try.prog [] (convert (51 : Nat) (9 : Nat) (Value.slice a27 n28 n29)) (fun v116 w117 => opStr v116 fun s118 =>
  J115 s118 w117) w114) (fun s119 w120 => Gd b54 ByteArray.empty (fun J121 => RunW Try.prog [] (convert (51 : Nat) (9 : Nat) (Value.slice (Prod.fst u113) (Prod.fst
  (Prod.snd u113)) (Prod.snd (Prod.snd u113)))) (fun v122 w123 => opStr v122 fun s124 => J121 s124 w123) w120) (fun s125 w126 => ∃ v127, (b54 = true → ∀ (w129 : World),
  True → RunV Try.prog (eqS BinOp.add (9 : Nat) (Operand.const (Value.string (ByteArray.mk #[(7 : UInt8), (7 : UInt8)]))) (Operand.tmp (59 : Nat)) (Value.string
  (ByteArray.mk #[(7 : UInt8), (7 : UInt8)])) (Value.string s125)) v127 w129) ∧ opStr v127 fun s131 => Bd (ByteArray.toList s119 == ByteArray.toList s131) fun b132 => Bd
  (bif b54 then b132 else false) fun b133 => Bd (x36 == (0 : Int)) fun b134 => Bd (bif b133 then b134 else false) fun b135 => Bd (x39 == (200 : Int)) fun b136 => Bd (bif
  b135 then b136 else false) fun b137 => Bd (x42 == (0 : Int)) fun b138 => Bd (bif b137 then b138 else false) fun b139 => Gd b139 (0 : Int) (fun J140 => CallW Try.prog []
  (108 : Nat) #[Value.pointer a9] (fun v141 w142 => opI IntKind.i64 v141 fun x143 => J140 x143 w142) w126) (fun x144 w145 => Bd (x144 == (0 : Int)) fun b146 => Bd (bif
  b139 then b146 else false) fun b147 => Gd b147 (none, (0 : Nat), (0 : Nat)) (fun J148 => CallW Try.prog [] (104 : Nat) #[Value.pointer a9] (fun v149 w150 => opL v149
  fun a151 n152 n153 => J148 (a151, n152, n153) w150) w145) (fun u154 w155 => Bd ↑(Prod.fst (Prod.snd u154)) fun x156 => Bd (x156 == (192 : Int)) fun b157 => Bd (bif b147
  then b157 else false) fun b158 => J47 [Value.bool b158] [] w155) w145) w126) w120) w114 ∧ Gd b54 ByteArray.empty (fun J159 => RunW Try.prog [] (convert (51 : Nat) (9 :
  Nat) (Value.slice (Prod.fst u113) (Prod.fst (Prod.snd u113)) (Prod.snd (Prod.snd u113)))) (fun v160 w161 => opStr v160 fun s162 => J159 s162 w161) w114) (fun s163 w164
  => ∃ v165, (b54 = true → ∀ (w167 : World), True → RunV Try.prog (eqS BinOp.add (9 : Nat) (Operand.const (Value.string (ByteArray.mk #[(7 : UInt8), (7 : UInt8)])))
  (Operand.tmp (59 : Nat)) (Value.string (ByteArray.mk #[(7 : UInt8), (7 : UInt8)])) (Value.string s163)) v165 w167) ∧ opStr v165 fun s169 => Gd b54 ByteArray.empty (fun
  J170 => RunW Try.prog [] (convert (51 : Nat) (9 : Nat) (Value.slice a27 n28 n29)) (fun v171 w172 => opStr v171 fun s173 => J170 s173 w172) w164) (fun s174 w175 => Bd
  (ByteArray.toList s174 == ByteArray.toList s169) fun b176 => Bd (bif b54 then b176 else false) fun b177 => Bd (x36 == (0 : Int)) fun b178 => Bd (bif b177 then b178 else
  false) fun b179 => Bd (x39 == (200 : Int)) fun b180 => Bd (bif b179 then b180 else false) fun b181 => Bd (x42 == (0 : Int)) fun b182 => Bd (bif b181 then b182 else
  false) fun b183 => Gd b183 (0 : Int) (fun J184 => CallW Try.prog [] (108 : Nat) #[Value.pointer a9] (fun v185 w186 => opI IntKind.i64 v185 fun x187 => J184 x187 w186)
  w175) (fun x188 w189 => Bd (x188 == (0 : Int)) fun b190 => Bd (bif b183 then b190 else false) fun b191 => Gd b191 (none, (0 : Nat), (0 : Nat)) (fun J192 => CallW
  Try.prog [] (104 : Nat) #[Value.pointer a9] (fun v193 w194 => opL v193 fun a195 n196 n197 => J192 (a195, n196, n197) w194) w189) (fun u198 w199 => Bd ↑(Prod.fst
  (Prod.snd u198)) fun x200 => Bd (x200 == (192 : Int)) fun b201 => Bd (bif b191 then b201 else false) fun b202 => J47 [Value.bool b202] [] w199) w189) w175) w164) w114)
  (World.drew w41)) w38) w35) w32)) w25)) w22)) w19) w14) w12)) w2)) w
theorem f107_eq (R : Value → World → Prop) (w : World) : fnW Try.prog [400009] Try.f107 [] R w = f107_vc R w := by kernel_rfl
theorem f107_in (R : Value → World → Prop) (w : World) (h : f107_vc R w) : Ct Try.prog 107 #[] w R := by
  refine Ct_of (rk := [400009]) (fn := Try.f107) (args := []) mixedT Try.func107 (by kernel_rfl) ?_
  rw [f107_eq]
  exact h
def f24_vc (p0a : Option Addr) (p0n : Nat) (p0c : Nat) (p1 : Int) (p2 : Int) (p3 : Int) (p4 : Int) (R : Value → World → Prop) (w : World) : Prop := CallW Try.prog [] (101
  : Nat) #[Value.slice p0a p0n p0c] (fun v1 w2 => opP v1 fun a3 => CallW Try.prog [] (101 : Nat) #[Value.slice p0a p0n p0c] (fun v4 w5 => opP v4 fun a6 => CallW Try.prog
  [] (104 : Nat) #[Value.pointer a3] (fun v7 w8 => opL v7 fun a9 n10 n11 => RunW Try.prog [] (convert (51 : Nat) (9 : Nat) (Value.slice a9 n10 n11)) (fun v12 w13 => opStr
  v12 fun s14 => Bd (IntKind.wrap IntKind.i64 p1) fun x15 => Bd (IntKind.wrap IntKind.i64 ((40 : Int) + x15)) fun x16 => CallW Try.prog [] (106 : Nat) #[Value.pointer a3,
  Value.int IntKind.i64 x16, Value.int IntKind.i64 p2] (fun v17 w18 => opTu v17 fun cs19 => SzIs (Array.size cs19) (0 : Nat) (CallW Try.prog [] (102 : Nat)
  #[Value.pointer a6, Value.int IntKind.i64 (0 : Int)] (fun v20 w21 => opTu v20 fun cs22 => SzIs (Array.size cs22) (0 : Nat) (CallW Try.prog [] (103 : Nat)
  #[Value.pointer a6] (fun v23 w24 => opI IntKind.i64 v23 fun x25 => Bd (x25 != (0 : Int)) fun b26 => Gd (!b26) (none, (0 : Nat), (0 : Nat)) (fun J27 => CallW Try.prog []
  (104 : Nat) #[Value.pointer a3] (fun v28 w29 => opL v28 fun a30 n31 n32 => J27 (a30, n31, n32) w29) w24) (fun u33 w34 => Gd (!b26) ByteArray.empty (fun J35 => RunW
  Try.prog [] (convert (51 : Nat) (9 : Nat) (Value.slice (Prod.fst u33) (Prod.fst (Prod.snd u33)) (Prod.snd (Prod.snd u33)))) (fun v36 w37 => opStr v36 fun s38 => J35 s38
  w37) w34) (fun s39 w40 => Bd (!ByteArray.toList s39 == ByteArray.toList s14) fun b41 => Bd (bif b26 then true else b41) fun b42 => Gd (!b42) (none, (0 : Nat), (0 :
  Nat)) (fun J43 => CallW Try.prog [] (104 : Nat) #[Value.pointer a6] (fun v44 w45 => opL v44 fun a46 n47 n48 => J43 (a46, n47, n48) w45) w40) (fun u49 w50 => Gd (!b42)
  ByteArray.empty (fun J51 => RunW Try.prog [] (convert (51 : Nat) (9 : Nat) (Value.slice (Prod.fst u49) (Prod.fst (Prod.snd u49)) (Prod.snd (Prod.snd u49)))) (fun v52
  w53 => opStr v52 fun s54 => J51 s54 w53) w50) (fun s55 w56 => Bd (!ByteArray.toList s55 == ByteArray.toList s14) fun b57 => Bd (bif b42 then true else b57) fun b58 =>
  If b58 (R (Value.bool false) w56) (CallW Try.prog [] (106 : Nat) #[Value.pointer a3, Value.int IntKind.i64 p3, Value.int IntKind.i64 p4] (fun v59 w60 => opTu v59 fun
  cs61 => SzIs (Array.size cs61) (0 : Nat) (CallW Try.prog [] (106 : Nat) #[Value.pointer a6, Value.int IntKind.i64 p3, Value.int IntKind.i64 p4] (fun v62 w63 => opTu v62
  fun cs64 => SzIs (Array.size cs64) (0 : Nat) (CallW Try.prog [] (104 : Nat) #[Value.pointer a3] (fun v65 w66 => opL v65 fun a67 n68 n69 => RunW Try.prog [] (convert (51
  : Nat) (9 : Nat) (Value.slice a67 n68 n69)) (fun v70 w71 => opStr v70 fun s72 => Bd (ByteArray.toList s72 == ByteArray.toList s14) fun b73 => Gd b73 (none, (0 : Nat),
  (0 : Nat)) (fun J74 => CallW Try.prog [] (104 : Nat) #[Value.pointer a6] (fun v75 w76 => opL v75 fun a77 n78 n79 => J74 (a77, n78, n79) w76) w71) (fun u80 w81 => Gd b73
  ByteArray.empty (fun J82 => RunW Try.prog [] (convert (51 : Nat) (9 : Nat) (Value.slice (Prod.fst u80) (Prod.fst (Prod.snd u80)) (Prod.snd (Prod.snd u80)))) (fun v83
  w84 => opStr v83 fun s85 => J82 s85 w84) w81) (fun s86 w87 => Bd (ByteArray.toList s86 == ByteArray.toList s14) fun b88 => Bd (bif b73 then b88 else false) fun b89 =>
  Gd b89 (0 : Int) (fun J90 => CallW Try.prog [] (108 : Nat) #[Value.pointer a3] (fun v91 w92 => opI IntKind.i64 v91 fun x93 => J90 x93 w92) w87) (fun x94 w95 => Bd (x94
  == (0 : Int)) fun b96 => Bd (bif b89 then b96 else false) fun b97 => Bd (((ByteArray.size s14) : Nat) : Int) fun x98 => Bd (x98 == (512 : Int)) fun b99 => Bd (bif b97
  then b99 else false) fun b100 => Gd b100 false (fun J101 => CallW Try.prog [] (107 : Nat) #[] (fun v102 w103 => opB v102 fun b104 => J101 b104 w103) w95) (fun b105 w106
  => Bd (bif b100 then b105 else false) fun b107 => R (Value.bool b107) w106) w95) w87) w81) w71) w66) w63)) w60)) w56)) w50) w40) w34) w24) w21)) w18)) w13) w8) w5) w2)
  w
theorem f24_eq (p0a : Option Addr) (p0n : Nat) (p0c : Nat) (p1 : Int) (p2 : Int) (p3 : Int) (p4 : Int) (R : Value → World → Prop) (w : World) : fnW Try.prog [] Try.f24
  [Value.slice p0a p0n p0c, Value.int IntKind.u8 p1, Value.int IntKind.i64 p2, Value.int IntKind.i64 p3, Value.int IntKind.i64 p4] R w = f24_vc p0a p0n p0c p1 p2 p3 p4 R
  w := by kernel_rfl
theorem f24_in (p0a : Option Addr) (p0n : Nat) (p0c : Nat) (p1 : Int) (p2 : Int) (p3 : Int) (p4 : Int) (R : Value → World → Prop) (w : World) (h : f24_vc p0a p0n p0c p1
  p2 p3 p4 R w) : Ct Try.prog 24 #[Value.slice p0a p0n p0c, Value.int IntKind.u8 p1, Value.int IntKind.i64 p2, Value.int IntKind.i64 p3, Value.int IntKind.i64 p4] w R :=
  by
  refine Ct_of (rk := []) (fn := Try.f24) (args := [Value.slice p0a p0n p0c, Value.int IntKind.u8 p1, Value.int IntKind.i64 p2, Value.int IntKind.i64 p3, Value.int IntKind.i64 p4]) mixedT Try.func24 (by kernel_rfl) ?_
  rw [f24_eq]
  exact h
end Fk
