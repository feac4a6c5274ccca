/- Conditions of functions, as the generator works them out; each one is checked by the kernel. -/
import Derived.Test.YtpgjpgecgibklaaTT
set_option linter.unusedVariables false
set_option maxRecDepth 1000000
set_option maxHeartbeats 4000000
namespace Fk
open Go Go.Proofs Go.RowKit
def f53_vc (p0 : Array Value) (R : Value → World → Prop) (w : World) : Prop := Rg w fun n1 => BdO (nthV (Array.toList p0) (260 : Nat)) fun v2 => opL v2 fun a3 n4 n5 => Bd
  ((n4 : Nat) : Int) fun x6 => Up [] [n1] w fun w7 => LoopP (fun l8 l9 J10 w11 => opB (nthD l8 (0 : Nat)) fun b12 => opI IntKind.i64 (nthD l8 (1 : Nat)) fun x13 => Bd
  (decide (x13 < x6)) fun b14 => If b14 (IxOk x13 n4 a3 ∧ Ld w11 (adAt a3 x13 (1 : Nat)) fun v15 => opStr v15 fun s16 => Bd (decide (x13 ≥ (20 : Int))) fun b17 => Bd
  (((ByteArray.size s16) : Nat) : Int) fun x18 => Bd (decide (x18 > (100 : Int))) fun b19 => Bd (bif b17 then true else b19) fun b20 => If b20 (R (Value.bool false) w11)
  (Bd (IntKind.wrap IntKind.i64 (x13 + (1 : Int))) fun x21 => J10 [Value.bool b12, Value.int IntKind.i64 x21] [] w11)) ((260 : Nat) ≤ Array.size p0 ∧ Bd (List.toArray
  (List.take (3 : Nat) (List.drop (257 : Nat) (Array.toList p0)))) fun cs22 => opI IntKind.i64 (nthD (Array.toList cs22) (0 : Nat)) fun x23 => opL (nthD (Array.toList
  cs22) (1 : Nat)) fun a24 n25 n26 => opL (nthD (Array.toList cs22) (2 : Nat)) fun a27 n28 n29 => SzIs (Array.size cs22) (3 : Nat) (CallW Try.prog [n1] (90 : Nat)
  #[Value.agg #[Value.int IntKind.i64 x23, Value.slice a24 n25 n26, Value.slice a27 n28 n29]] (fun v30 w31 => opB v30 fun b32 => R (Value.bool b32) w31) w11)))
  [Value.bool false, Value.int IntKind.i64 (0 : Int)] [] w7
theorem f53_eq (p0 : Array Value) (R : Value → World → Prop) (w : World) : fnW Try.prog [1] Try.f53 [Value.agg p0] R w = f53_vc p0 R w := by kernel_rfl
theorem f53_in (p0 : Array Value) (R : Value → World → Prop) (w : World) (h : f53_vc p0 R w) : Ct Try.prog 53 #[Value.agg p0] w R := by
  refine Ct_of (rk := [1]) (fn := Try.f53) (args := [Value.agg p0]) mixedT Try.func53 (by kernel_rfl) ?_
  rw [f53_eq]
  exact h
def f72_vc (p0_0 : Int) (p0_1a : Option Addr) (p0_1n : Nat) (p0_1c : Nat) (p0_2a : Option Addr) (p0_2n : Nat) (p0_2c : Nat) (R : Value → World → Prop) (w : World) : Prop
  := Rg w fun n1 => Bd ((p0_2n : Nat) : Int) fun x2 => Bd (decide (p0_0 < (1 : Int))) fun b3 => Bd (decide (p0_0 > (256 : Int))) fun b4 => Bd (bif b3 then true else b4)
  fun b5 => Bd (decide (x2 < (1 : Int))) fun b6 => Bd (bif b5 then true else b6) fun b7 => Bd (decide (x2 > (5000 : Int))) fun b8 => Bd (bif b7 then true else b8) fun b9
  => Bd ((p0_1n : Nat) : Int) fun x10 => Bd (IntKind.wrap IntKind.i64 (p0_0 * x2)) fun x11 => Bd (x10 != x11) fun b12 => Bd (bif b9 then true else b12) fun b13 => If b13
  (Up [] [n1] w fun w14 => R (Value.bool false) w14) (Bd ((p0_2n : Nat) : Int) fun x15 => Up [] [n1] w fun w16 => LoopP (fun l17 l18 J19 w20 => opB (nthD l17 (0 : Nat))
  fun b21 => opI IntKind.i64 (nthD l17 (1 : Nat)) fun x22 => Bd (decide (x22 < x15)) fun b23 => If b23 (IxOk x22 p0_2n p0_2a ∧ Ld w20 (adAt p0_2a x22 (1 : Nat)) fun v24
  => opI IntKind.i64 v24 fun x25 => Bd (decide (x25 < (-1 : Int))) fun b26 => Bd (decide (x25 ≥ (200 : Int))) fun b27 => Bd (bif b26 then true else b27) fun b28 => If b28
  (R (Value.bool false) w20) (Bd (IntKind.wrap IntKind.i64 (x22 + (1 : Int))) fun x29 => J19 [Value.bool b21, Value.int IntKind.i64 x29] [] w20)) (Bd ((p0_1n : Nat) :
  Int) fun x30 => LoopP (fun l31 l32 J33 w34 => opB (nthD l31 (0 : Nat)) fun b35 => opI IntKind.i64 (nthD l31 (1 : Nat)) fun x36 => Bd (decide (x36 < x30)) fun b37 => If
  b37 (IxOk x36 p0_1n p0_1a ∧ Ld w34 (adAt p0_1a x36 (1 : Nat)) fun v38 => opI IntKind.i64 v38 fun x39 => Bd (decide (x39 < (-1 : Int))) fun b40 => Bd (decide (x39 ≥ x2))
  fun b41 => Bd (bif b40 then true else b41) fun b42 => If b42 (R (Value.bool false) w34) (Bd (IntKind.wrap IntKind.i64 (x36 + (1 : Int))) fun x43 => J33 [Value.bool b35,
  Value.int IntKind.i64 x43] [] w34)) (R (Value.bool true) w34)) [Value.bool b21, Value.int IntKind.i64 (0 : Int)] [] w20)) [Value.bool false, Value.int IntKind.i64 (0 :
  Int)] [] w16)
theorem f72_eq (p0_0 : Int) (p0_1a : Option Addr) (p0_1n : Nat) (p0_1c : Nat) (p0_2a : Option Addr) (p0_2n : Nat) (p0_2c : Nat) (R : Value → World → Prop) (w : World) :
  fnW Try.prog [1] Try.f72 [Value.agg #[Value.int IntKind.i64 p0_0, Value.slice p0_1a p0_1n p0_1c, Value.slice p0_2a p0_2n p0_2c]] R w = f72_vc p0_0 p0_1a p0_1n p0_1c
  p0_2a p0_2n p0_2c R w := by kernel_rfl
theorem f72_in (p0_0 : Int) (p0_1a : Option Addr) (p0_1n : Nat) (p0_1c : Nat) (p0_2a : Option Addr) (p0_2n : Nat) (p0_2c : Nat) (R : Value → World → Prop) (w : World) (h
  : f72_vc p0_0 p0_1a p0_1n p0_1c p0_2a p0_2n p0_2c R w) : Ct Try.prog 72 #[Value.agg #[Value.int IntKind.i64 p0_0, Value.slice p0_1a p0_1n p0_1c, Value.slice p0_2a p0_2n
  p0_2c]] w R := by
  refine Ct_of (rk := [1]) (fn := Try.f72) (args := [Value.agg #[Value.int IntKind.i64 p0_0, Value.slice p0_1a p0_1n p0_1c, Value.slice p0_2a p0_2n p0_2c]]) mixedT Try.func72 (by kernel_rfl) ?_
  rw [f72_eq]
  exact h
def f90_vc (p0_0 : Int) (p0_1a : Option Addr) (p0_1n : Nat) (p0_1c : Nat) (p0_2a : Option Addr) (p0_2n : Nat) (p0_2c : Nat) (R : Value → World → Prop) (w : World) : Prop
  := Rg w fun n1 => Bd ((p0_2n : Nat) : Int) fun x2 => Bd (decide (x2 ≤ (60 : Int))) fun b3 => Bd ((p0_1n : Nat) : Int) fun x4 => Bd (decide (x4 ≤ (2400 : Int))) fun b5
  => Bd (bif b3 then b5 else false) fun b6 => Up [] [n1] w fun w7 => R (Value.bool b6) w7
theorem f90_eq (p0_0 : Int) (p0_1a : Option Addr) (p0_1n : Nat) (p0_1c : Nat) (p0_2a : Option Addr) (p0_2n : Nat) (p0_2c : Nat) (R : Value → World → Prop) (w : World) :
  fnW Try.prog [1] Try.f90 [Value.agg #[Value.int IntKind.i64 p0_0, Value.slice p0_1a p0_1n p0_1c, Value.slice p0_2a p0_2n p0_2c]] R w = f90_vc p0_0 p0_1a p0_1n p0_1c
  p0_2a p0_2n p0_2c R w := by kernel_rfl
theorem f90_in (p0_0 : Int) (p0_1a : Option Addr) (p0_1n : Nat) (p0_1c : Nat) (p0_2a : Option Addr) (p0_2n : Nat) (p0_2c : Nat) (R : Value → World → Prop) (w : World) (h
  : f90_vc p0_0 p0_1a p0_1n p0_1c p0_2a p0_2n p0_2c R w) : Ct Try.prog 90 #[Value.agg #[Value.int IntKind.i64 p0_0, Value.slice p0_1a p0_1n p0_1c, Value.slice p0_2a p0_2n
  p0_2c]] w R := by
  refine Ct_of (rk := [1]) (fn := Try.f90) (args := [Value.agg #[Value.int IntKind.i64 p0_0, Value.slice p0_1a p0_1n p0_1c, Value.slice p0_2a p0_2n p0_2c]]) mixedT Try.func90 (by kernel_rfl) ?_
  rw [f90_eq]
  exact h
def f96_vc (p0_0 : Int) (p0_1a : Option Addr) (p0_1n : Nat) (p0_1c : Nat) (p0_2a : Option Addr) (p0_2n : Nat) (p0_2c : Nat) (p1_0 : Int) (p1_1a : Option Addr) (p1_1n :
  Nat) (p1_1c : Nat) (p1_2a : Option Addr) (p1_2n : Nat) (p1_2c : Nat) (R : Value → World → Prop) (w : World) : Prop := Rg w fun n1 => Rg w fun n2 => Bd (p0_0 == p1_0)
  fun b3 => Up [] [n2, n1] w fun w4 => Gd b3 false (fun J5 => CallW Try.prog [n2, n1] (73 : Nat) #[Value.slice p0_1a p0_1n p0_1c, Value.slice p1_1a p1_1n p1_1c] (fun v6
  w7 => opB v6 fun b8 => J5 b8 w7) w4) (fun b9 w10 => Bd (bif b3 then b9 else false) fun b11 => Gd b11 false (fun J12 => CallW Try.prog [n2, n1] (73 : Nat) #[Value.slice
  p0_2a p0_2n p0_2c, Value.slice p1_2a p1_2n p1_2c] (fun v13 w14 => opB v13 fun b15 => J12 b15 w14) w10) (fun b16 w17 => Bd (bif b11 then b16 else false) fun b18 => R
  (Value.bool b18) w17) w10) w4
theorem f96_eq (p0_0 : Int) (p0_1a : Option Addr) (p0_1n : Nat) (p0_1c : Nat) (p0_2a : Option Addr) (p0_2n : Nat) (p0_2c : Nat) (p1_0 : Int) (p1_1a : Option Addr) (p1_1n
  : Nat) (p1_1c : Nat) (p1_2a : Option Addr) (p1_2n : Nat) (p1_2c : Nat) (R : Value → World → Prop) (w : World) : fnW Try.prog [2, 3] Try.f96 [Value.agg #[Value.int
  IntKind.i64 p0_0, Value.slice p0_1a p0_1n p0_1c, Value.slice p0_2a p0_2n p0_2c], Value.agg #[Value.int IntKind.i64 p1_0, Value.slice p1_1a p1_1n p1_1c, Value.slice
  p1_2a p1_2n p1_2c]] R w = f96_vc p0_0 p0_1a p0_1n p0_1c p0_2a p0_2n p0_2c p1_0 p1_1a p1_1n p1_1c p1_2a p1_2n p1_2c R w := by kernel_rfl
theorem f96_in (p0_0 : Int) (p0_1a : Option Addr) (p0_1n : Nat) (p0_1c : Nat) (p0_2a : Option Addr) (p0_2n : Nat) (p0_2c : Nat) (p1_0 : Int) (p1_1a : Option Addr) (p1_1n
  : Nat) (p1_1c : Nat) (p1_2a : Option Addr) (p1_2n : Nat) (p1_2c : Nat) (R : Value → World → Prop) (w : World) (h : f96_vc p0_0 p0_1a p0_1n p0_1c p0_2a p0_2n p0_2c p1_0
  p1_1a p1_1n p1_1c p1_2a p1_2n p1_2c R w) : Ct Try.prog 96 #[Value.agg #[Value.int IntKind.i64 p0_0, Value.slice p0_1a p0_1n p0_1c, Value.slice p0_2a p0_2n p0_2c],
  Value.agg #[Value.int IntKind.i64 p1_0, Value.slice p1_1a p1_1n p1_1c, Value.slice p1_2a p1_2n p1_2c]] w R := by
  refine Ct_of (rk := [2, 3]) (fn := Try.f96) (args := [Value.agg #[Value.int IntKind.i64 p0_0, Value.slice p0_1a p0_1n p0_1c, Value.slice p0_2a p0_2n p0_2c], Value.agg #[Value.int IntKind.i64 p1_0, Value.slice p1_1a p1_1n p1_1c, Value.slice p1_2a p1_2n p1_2c]]) mixedT Try.func96 (by kernel_rfl) ?_
  rw [f96_eq]
  exact h
def f133_vc (p0_0 : Int) (p0_1a : Option Addr) (p0_1n : Nat) (p0_1c : Nat) (p0_2a : Option Addr) (p0_2n : Nat) (p0_2c : Nat) (R : Value → World → Prop) (w : World) : Prop
  := Rg w fun n1 => Bd (decide (p0_0 < (1 : Int))) fun b2 => Bd (decide (p0_0 > (256 : Int))) fun b3 => Bd (bif b2 then true else b3) fun b4 => Bd ((p0_2n : Nat) : Int)
  fun x5 => Bd (decide (x5 < (1 : Int))) fun b6 => Bd (bif b4 then true else b6) fun b7 => Bd ((p0_2n : Nat) : Int) fun x8 => Bd (decide (x8 > (5000 : Int))) fun b9 => Bd
  (bif b7 then true else b9) fun b10 => Bd ((p0_1n : Nat) : Int) fun x11 => Bd ((p0_2n : Nat) : Int) fun x12 => Bd (IntKind.wrap IntKind.i64 (p0_0 * x12)) fun x13 => Bd
  (x11 != x13) fun b14 => Bd (bif b10 then true else b14) fun b15 => If b15 (Up [] [n1] w fun w16 => R (Value.bool false) w16) (Up [] [n1] w fun w17 => LoopP (fun l18 l19
  J20 w21 => opB (nthD l18 (0 : Nat)) fun b22 => opI IntKind.i64 (nthD l18 (1 : Nat)) fun x23 => Bd ((p0_2n : Nat) : Int) fun x24 => Bd (decide (x23 < x24)) fun b25 => If
  b25 (IxOk x23 p0_2n p0_2a ∧ Ld w21 (adAt p0_2a x23 (1 : Nat)) fun v26 => opI IntKind.i64 v26 fun x27 => Bd (decide (x27 < (-1 : Int))) fun b28 => ((!b28) = true → IxOk
  x23 p0_2n p0_2a) ∧ Gd (!b28) (0 : Int) (fun J30 => Ld w21 (adAt p0_2a x23 (1 : Nat)) fun v31 => opI IntKind.i64 v31 fun x32 => J30 x32 w21) (fun x33 w34 => Bd (decide
  (x33 > (199 : Int))) fun b35 => Bd (bif b28 then true else b35) fun b36 => If b36 (R (Value.bool false) w34) (Bd (IntKind.wrap IntKind.i64 (x23 + (1 : Int))) fun x37 =>
  J20 [Value.bool b22, Value.int IntKind.i64 x37] [] w34)) w21) (LoopP (fun l38 l39 J40 w41 => opB (nthD l38 (0 : Nat)) fun b42 => opI IntKind.i64 (nthD l38 (1 : Nat))
  fun x43 => Bd ((p0_1n : Nat) : Int) fun x44 => Bd (decide (x43 < x44)) fun b45 => If b45 (Dr (World.drew w41) fun J46 => IxOk x43 p0_1n p0_1a ∧ ∃ v47, (∀ (w48 : World),
  J46 w48 → Ld w48 (adAt p0_1a x43 (1 : Nat)) fun v50 => v50 = v47) ∧ opI IntKind.i64 v47 fun x51 => Bd (decide (x51 < (-1 : Int))) fun b52 => ((!b52) = true → IxOk x43
  p0_1n p0_1a) ∧ ∃ x54, ((!b52) = true → ∀ (w56 : World), J46 w56 → Ld w56 (adAt p0_1a x43 (1 : Nat)) fun v58 => v58 = Value.int IntKind.i64 x54) ∧ Bd ((p0_2n : Nat) :
  Int) fun x59 => Bd (decide (x54 ≥ x59)) fun b60 => Bd (bif b52 then true else b60) fun b61 => If b61 (R (Value.bool false) (World.drew w41)) (Bd (IntKind.wrap
  IntKind.i64 (x43 + (1 : Int))) fun x62 => J40 [Value.bool b42, Value.int IntKind.i64 x62] [] (World.drew w41))) (R (Value.bool true) w41)) [Value.bool b22, Value.int
  IntKind.i64 (0 : Int)] [] w21)) [Value.bool false, Value.int IntKind.i64 (0 : Int)] [] w17)
theorem f133_eq (p0_0 : Int) (p0_1a : Option Addr) (p0_1n : Nat) (p0_1c : Nat) (p0_2a : Option Addr) (p0_2n : Nat) (p0_2c : Nat) (R : Value → World → Prop) (w : World) :
  fnW Try.prog [1] Try.f133 [Value.agg #[Value.int IntKind.i64 p0_0, Value.slice p0_1a p0_1n p0_1c, Value.slice p0_2a p0_2n p0_2c]] R w = f133_vc p0_0 p0_1a p0_1n p0_1c
  p0_2a p0_2n p0_2c R w := by kernel_rfl
theorem f133_in (p0_0 : Int) (p0_1a : Option Addr) (p0_1n : Nat) (p0_1c : Nat) (p0_2a : Option Addr) (p0_2n : Nat) (p0_2c : Nat) (R : Value → World → Prop) (w : World) (h
  : f133_vc p0_0 p0_1a p0_1n p0_1c p0_2a p0_2n p0_2c R w) : Ct Try.prog 133 #[Value.agg #[Value.int IntKind.i64 p0_0, Value.slice p0_1a p0_1n p0_1c, Value.slice p0_2a
  p0_2n p0_2c]] w R := by
  refine Ct_of (rk := [1]) (fn := Try.f133) (args := [Value.agg #[Value.int IntKind.i64 p0_0, Value.slice p0_1a p0_1n p0_1c, Value.slice p0_2a p0_2n p0_2c]]) mixedT Try.func133 (by kernel_rfl) ?_
  rw [f133_eq]
  exact h
def f152_vc (p0 : ByteArray) (R : Value → World → Prop) (w : World) : Prop := Bd (((ByteArray.size p0) : Nat) : Int) fun x1 => LoopP (fun l2 l3 J4 w5 => opB (nthD l2 (0 :
  Nat)) fun b6 => opI IntKind.i64 (nthD l2 (1 : Nat)) fun x7 => Bd (decide (x7 < x1)) fun b8 => If b8 (((0 : Int) ≤ x7 ∧ x7 < ↑(ByteArray.size p0)) ∧ Bd (byteAt p0 x7)
  fun x9 => Bd (decide (x9 ≥ (97 : Int))) fun b10 => (b10 = true → (0 : Int) ≤ x7 ∧ x7 < ↑(ByteArray.size p0)) ∧ Bd (byteAt p0 x7) fun x12 => Bd (decide (x12 ≤ (122 :
  Int))) fun b13 => Bd (bif b10 then b13 else false) fun b14 => Bd (!b14) fun b15 => Bd (x7 == (0 : Int)) fun b16 => ((b15 && !b16) = true → (0 : Int) ≤ x7 ∧ x7 <
  ↑(ByteArray.size p0)) ∧ Bd (byteAt p0 x7) fun x18 => Bd (x18 != (45 : Int)) fun b19 => ((b15 && !b16 && b19) = true → (0 : Int) ≤ x7 ∧ x7 < ↑(ByteArray.size p0)) ∧ Bd
  (byteAt p0 x7) fun x21 => Bd (decide (x21 < (48 : Int))) fun b22 => ((b15 && !b16 && b19 && !b22) = true → (0 : Int) ≤ x7 ∧ x7 < ↑(ByteArray.size p0)) ∧ Bd (byteAt p0
  x7) fun x24 => Bd (decide (x24 > (57 : Int))) fun b25 => Bd (bif b22 then true else b25) fun b26 => Bd (bif b19 then b26 else false) fun b27 => Bd (bif b16 then true
  else b27) fun b28 => Bd (bif b15 then b28 else false) fun b29 => If b29 (R (Value.bool false) w5) (Bd (IntKind.wrap IntKind.i64 (x7 + (1 : Int))) fun x30 => J4
  [Value.bool b6, Value.int IntKind.i64 x30] [] w5)) (Bd (((ByteArray.size p0) : Nat) : Int) fun x31 => Bd (decide (x31 ≥ (1 : Int))) fun b32 => Bd (((ByteArray.size p0)
  : Nat) : Int) fun x33 => Bd (decide (x33 ≤ (64 : Int))) fun b34 => Bd (bif b32 then b34 else false) fun b35 => R (Value.bool b35) w5)) [Value.bool false, Value.int
  IntKind.i64 (0 : Int)] [] w
theorem f152_eq (p0 : ByteArray) (R : Value → World → Prop) (w : World) : fnW Try.prog [] Try.f152 [Value.string p0] R w = f152_vc p0 R w := by kernel_rfl
theorem f152_in (p0 : ByteArray) (R : Value → World → Prop) (w : World) (h : f152_vc p0 R w) : Ct Try.prog 152 #[Value.string p0] w R := by
  refine Ct_of (rk := []) (fn := Try.f152) (args := [Value.string p0]) mixedT Try.func152 (by kernel_rfl) ?_
  rw [f152_eq]
  exact h
def f153_vc (p0a : Option Addr) (p0n : Nat) (p0c : Nat) (p1 : ByteArray) (R : Value → World → Prop) (w : World) : Prop := CallW Try.prog [] (215 : Nat) #[Value.slice p0a
  p0n p0c, Value.string p1] (fun v1 w2 => opI IntKind.i64 v1 fun x3 => Bd (decide (x3 ≥ (0 : Int))) fun b4 => R (Value.bool b4) w2) w
theorem f153_eq (p0a : Option Addr) (p0n : Nat) (p0c : Nat) (p1 : ByteArray) (R : Value → World → Prop) (w : World) : fnW Try.prog [] Try.f153 [Value.slice p0a p0n p0c,
  Value.string p1] R w = f153_vc p0a p0n p0c p1 R w := by kernel_rfl
theorem f153_in (p0a : Option Addr) (p0n : Nat) (p0c : Nat) (p1 : ByteArray) (R : Value → World → Prop) (w : World) (h : f153_vc p0a p0n p0c p1 R w) : Ct Try.prog 153
  #[Value.slice p0a p0n p0c, Value.string p1] w R := by
  refine Ct_of (rk := []) (fn := Try.f153) (args := [Value.slice p0a p0n p0c, Value.string p1]) mixedT Try.func153 (by kernel_rfl) ?_
  rw [f153_eq]
  exact h
def f154_vc (p0a : Option Addr) (p0n : Nat) (p0c : Nat) (R : Value → World → Prop) (w : World) : Prop := Jn (fun l1 l2 w3 => IxOk (0 : Int) p0n p0a ∧ Ld w3 (adAt p0a (0 :
  Int) (1 : Nat)) fun v4 => opI IntKind.i64 v4 fun x5 => LoopP (fun l6 l7 J8 w9 => opI IntKind.i64 (nthD l6 (0 : Nat)) fun x10 => opI IntKind.i64 (nthD l6 (1 : Nat)) fun
  x11 => Bd ((p0n : Nat) : Int) fun x12 => Bd (decide (x11 < x12)) fun b13 => If b13 (IxOk x11 p0n p0a ∧ Ld w9 (adAt p0a x11 (1 : Nat)) fun v14 => opI IntKind.i64 v14 fun
  x15 => Bd (if x15 > x10 then x15 else x10) fun x16 => Bd (IntKind.wrap IntKind.i64 (x11 + (1 : Int))) fun x17 => J8 [Value.int IntKind.i64 x16, Value.int IntKind.i64
  x17] [] w9) (R (Value.int IntKind.i64 x10) w9)) [Value.int IntKind.i64 x5, Value.int IntKind.i64 (1 : Int)] [] w3) fun J18 => Bd ((p0n : Nat) : Int) fun x19 => Bd
  (decide (x19 < (1 : Int))) fun b20 => If b20 (RunW Try.prog [] (Instr.makeInterface (9 : Nat) (Value.string (ByteArray.mk #[(115 : UInt8), (108 : UInt8), (105 : UInt8),
  (99 : UInt8), (101 : UInt8), (115 : UInt8), (46 : UInt8), (77 : UInt8), (97 : UInt8), (120 : UInt8), (58 : UInt8), (32 : UInt8), (101 : UInt8), (109 : UInt8), (112 :
  UInt8), (116 : UInt8), (121 : UInt8), (32 : UInt8), (108 : UInt8), (105 : UInt8), (115 : UInt8), (116 : UInt8)]))) (fun v21 w22 => RunW Try.prog [] (Instr.panic v21)
  (fun v23 w24 => opTu v23 fun cs25 => SzIs (Array.size cs25) (0 : Nat) (J18 [] [] w24)) w22) w) (J18 [] [] w)
theorem f154_eq (p0a : Option Addr) (p0n : Nat) (p0c : Nat) (R : Value → World → Prop) (w : World) : fnW Try.prog [] Try.f154 [Value.slice p0a p0n p0c] R w = f154_vc p0a
  p0n p0c R w := by kernel_rfl
theorem f154_in (p0a : Option Addr) (p0n : Nat) (p0c : Nat) (R : Value → World → Prop) (w : World) (h : f154_vc p0a p0n p0c R w) : Ct Try.prog 154 #[Value.slice p0a p0n
  p0c] w R := by
  refine Ct_of (rk := []) (fn := Try.f154) (args := [Value.slice p0a p0n p0c]) mixedT Try.func154 (by kernel_rfl) ?_
  rw [f154_eq]
  exact h
def f155_vc (p0 : ByteArray) (R : Value → World → Prop) (w : World) : Prop := Bd (((ByteArray.size p0) : Nat) : Int) fun x1 => Bd (x1 == (0 : Int)) fun b2 => ((!b2) =
  true → (0 : Int) ≤ (0 : Int) ∧ (0 : Int) < ↑(ByteArray.size p0)) ∧ Bd (byteAt p0 (0 : Int)) fun x4 => Bd (decide (x4 < (97 : Int))) fun b5 => Bd (bif b2 then true else
  b5) fun b6 => ((!b6) = true → (0 : Int) ≤ (0 : Int) ∧ (0 : Int) < ↑(ByteArray.size p0)) ∧ Bd (byteAt p0 (0 : Int)) fun x8 => Bd (decide (x8 > (122 : Int))) fun b9 => Bd
  (bif b6 then true else b9) fun b10 => If b10 (R (Value.bool false) w) (LoopP (fun l11 l12 J13 w14 => opB (nthD l11 (0 : Nat)) fun b15 => opI IntKind.i64 (nthD l11 (1 :
  Nat)) fun x16 => Bd (((ByteArray.size p0) : Nat) : Int) fun x17 => Bd (decide (x16 < x17)) fun b18 => If b18 (((0 : Int) ≤ x16 ∧ x16 < ↑(ByteArray.size p0)) ∧ Bd
  (byteAt p0 x16) fun x19 => Bd (decide (x19 < (97 : Int))) fun b20 => ((!b20) = true → (0 : Int) ≤ x16 ∧ x16 < ↑(ByteArray.size p0)) ∧ Bd (byteAt p0 x16) fun x22 => Bd
  (decide (x22 > (122 : Int))) fun b23 => Bd (bif b20 then true else b23) fun b24 => (b24 = true → (0 : Int) ≤ x16 ∧ x16 < ↑(ByteArray.size p0)) ∧ Bd (byteAt p0 x16) fun
  x26 => Gd b24 false (fun J27 => CallW Try.prog [] (216 : Nat) #[Value.int IntKind.u8 x26] (fun v28 w29 => opB v28 fun b30 => J27 b30 w29) w14) (fun b31 w32 => Bd (!b31)
  fun b33 => Bd (bif b24 then b33 else false) fun b34 => (b34 = true → (0 : Int) ≤ x16 ∧ x16 < ↑(ByteArray.size p0)) ∧ Bd (byteAt p0 x16) fun x36 => Bd (x36 != (45 :
  Int)) fun b37 => Bd (bif b34 then b37 else false) fun b38 => If b38 (R (Value.bool false) w32) (Bd (IntKind.wrap IntKind.i64 (x16 + (1 : Int))) fun x39 => J13
  [Value.bool b15, Value.int IntKind.i64 x39] [] w32)) w14) (R (Value.bool true) w14)) [Value.bool false, Value.int IntKind.i64 (1 : Int)] [] w)
theorem f155_eq (p0 : ByteArray) (R : Value → World → Prop) (w : World) : fnW Try.prog [] Try.f155 [Value.string p0] R w = f155_vc p0 R w := by kernel_rfl
theorem f155_in (p0 : ByteArray) (R : Value → World → Prop) (w : World) (h : f155_vc p0 R w) : Ct Try.prog 155 #[Value.string p0] w R := by
  refine Ct_of (rk := []) (fn := Try.f155) (args := [Value.string p0]) mixedT Try.func155 (by kernel_rfl) ?_
  rw [f155_eq]
  exact h
def f216_vc (p0 : Int) (R : Value → World → Prop) (w : World) : Prop := Bd (decide (p0 ≥ (48 : Int))) fun b1 => Bd (decide (p0 ≤ (57 : Int))) fun b2 => Bd (bif b1 then b2
  else false) fun b3 => R (Value.bool b3) w
theorem f216_eq (p0 : Int) (R : Value → World → Prop) (w : World) : fnW Try.prog [] Try.f216 [Value.int IntKind.u8 p0] R w = f216_vc p0 R w := by kernel_rfl
theorem f216_in (p0 : Int) (R : Value → World → Prop) (w : World) (h : f216_vc p0 R w) : Ct Try.prog 216 #[Value.int IntKind.u8 p0] w R := by
  refine Ct_of (rk := []) (fn := Try.f216) (args := [Value.int IntKind.u8 p0]) mixedT Try.func216 (by kernel_rfl) ?_
  rw [f216_eq]
  exact h
def f156_vc (p0a : Option Addr) (p0n : Nat) (p0c : Nat) (p1 : Int) (R : Value → World → Prop) (w : World) : Prop := Bd (Int.fdiv p1 ((2 : Int) ^ min (8 : Nat) (64 :
  Nat))) fun x1 => Bd (IntKind.wrap IntKind.u8 x1) fun x2 => Bd (IntKind.wrap IntKind.u8 p1) fun x3 => Nw (Obj.cells #[Value.int IntKind.u8 x2, Value.int IntKind.u8 x3]
  (5 : Nat)) w fun n4 w5 => RunW Try.prog [] (Builtin.append_ #[(51 : Nat), (51 : Nat)] (51 : Nat) #[Value.slice p0a p0n p0c, Value.slice (some (Addr.mk n4 (0 : Nat)
  none)) (2 : Nat) (2 : Nat)]) (fun v6 w7 => opL v6 fun a8 n9 n10 => R (Value.slice a8 n9 n10) w7) w5
theorem f156_eq (p0a : Option Addr) (p0n : Nat) (p0c : Nat) (p1 : Int) (R : Value → World → Prop) (w : World) : fnW Try.prog [] Try.f156 [Value.slice p0a p0n p0c,
  Value.int IntKind.i64 p1] R w = f156_vc p0a p0n p0c p1 R w := by kernel_rfl
theorem f156_in (p0a : Option Addr) (p0n : Nat) (p0c : Nat) (p1 : Int) (R : Value → World → Prop) (w : World) (h : f156_vc p0a p0n p0c p1 R w) : Ct Try.prog 156
  #[Value.slice p0a p0n p0c, Value.int IntKind.i64 p1] w R := by
  refine Ct_of (rk := []) (fn := Try.f156) (args := [Value.slice p0a p0n p0c, Value.int IntKind.i64 p1]) mixedT Try.func156 (by kernel_rfl) ?_
  rw [f156_eq]
  exact h
def f160_vc (p0a : Option Addr) (p0n : Nat) (p0c : Nat) (p1a : Option Addr) (p1n : Nat) (p1c : Nat) (R : Value → World → Prop) (w : World) : Prop := Bd ((p0n : Nat) :
  Int) fun x1 => Bd ((p1n : Nat) : Int) fun x2 => Bd (x1 != x2) fun b3 => If b3 (R (Value.bool false) w) (Bd ((p0n : Nat) : Int) fun x4 => LoopP (fun l5 l6 J7 w8 => opB
  (nthD l5 (0 : Nat)) fun b9 => opI IntKind.i64 (nthD l5 (1 : Nat)) fun x10 => Bd (decide (x10 < x4)) fun b11 => If b11 (Dr (World.drew w8) fun J12 => IxOk x10 p0n p0a ∧
  ∃ v13, (∀ (w14 : World), J12 w14 → Ld w14 (adAt p0a x10 (1 : Nat)) fun v16 => v16 = v13) ∧ opStr v13 fun s17 => IxOk x10 p1n p1a ∧ ∃ v18, (∀ (w19 : World), J12 w19 → Ld
  w19 (adAt p1a x10 (1 : Nat)) fun v21 => v21 = v18) ∧ opStr v18 fun s22 => Bd (!ByteArray.toList s17 == ByteArray.toList s22) fun b23 => If b23 (R (Value.bool false)
  (World.drew w8)) (Bd (IntKind.wrap IntKind.i64 (x10 + (1 : Int))) fun x24 => J7 [Value.bool b9, Value.int IntKind.i64 x24] [] (World.drew w8))) (R (Value.bool true)
  w8)) [Value.bool false, Value.int IntKind.i64 (0 : Int)] [] w)
theorem f160_eq (p0a : Option Addr) (p0n : Nat) (p0c : Nat) (p1a : Option Addr) (p1n : Nat) (p1c : Nat) (R : Value → World → Prop) (w : World) : fnW Try.prog [] Try.f160
  [Value.slice p0a p0n p0c, Value.slice p1a p1n p1c] R w = f160_vc p0a p0n p0c p1a p1n p1c R w := by kernel_rfl
theorem f160_in (p0a : Option Addr) (p0n : Nat) (p0c : Nat) (p1a : Option Addr) (p1n : Nat) (p1c : Nat) (R : Value → World → Prop) (w : World) (h : f160_vc p0a p0n p0c
  p1a p1n p1c R w) : Ct Try.prog 160 #[Value.slice p0a p0n p0c, Value.slice p1a p1n p1c] w R := by
  refine Ct_of (rk := []) (fn := Try.f160) (args := [Value.slice p0a p0n p0c, Value.slice p1a p1n p1c]) mixedT Try.func160 (by kernel_rfl) ?_
  rw [f160_eq]
  exact h
def f73_vc (p0a : Option Addr) (p0n : Nat) (p0c : Nat) (p1a : Option Addr) (p1n : Nat) (p1c : Nat) (R : Value → World → Prop) (w : World) : Prop := Bd ((p0n : Nat) : Int)
  fun x1 => Bd ((p1n : Nat) : Int) fun x2 => Bd (x1 != x2) fun b3 => If b3 (R (Value.bool false) w) (Bd ((p0n : Nat) : Int) fun x4 => LoopP (fun l5 l6 J7 w8 => opB (nthD
  l5 (0 : Nat)) fun b9 => opI IntKind.i64 (nthD l5 (1 : Nat)) fun x10 => Bd (decide (x10 < x4)) fun b11 => If b11 (Dr (World.drew w8) fun J12 => IxOk x10 p0n p0a ∧ ∃ v13,
  (∀ (w14 : World), J12 w14 → Ld w14 (adAt p0a x10 (1 : Nat)) fun v16 => v16 = v13) ∧ opI IntKind.i64 v13 fun x17 => IxOk x10 p1n p1a ∧ ∃ v18, (∀ (w19 : World), J12 w19 →
  Ld w19 (adAt p1a x10 (1 : Nat)) fun v21 => v21 = v18) ∧ opI IntKind.i64 v18 fun x22 => Bd (x17 != x22) fun b23 => If b23 (R (Value.bool false) (World.drew w8)) (Bd
  (IntKind.wrap IntKind.i64 (x10 + (1 : Int))) fun x24 => J7 [Value.bool b9, Value.int IntKind.i64 x24] [] (World.drew w8))) (R (Value.bool true) w8)) [Value.bool false,
  Value.int IntKind.i64 (0 : Int)] [] w)
theorem f73_eq (p0a : Option Addr) (p0n : Nat) (p0c : Nat) (p1a : Option Addr) (p1n : Nat) (p1c : Nat) (R : Value → World → Prop) (w : World) : fnW Try.prog [] Try.f73
  [Value.slice p0a p0n p0c, Value.slice p1a p1n p1c] R w = f73_vc p0a p0n p0c p1a p1n p1c R w := by kernel_rfl
theorem f73_in (p0a : Option Addr) (p0n : Nat) (p0c : Nat) (p1a : Option Addr) (p1n : Nat) (p1c : Nat) (R : Value → World → Prop) (w : World) (h : f73_vc p0a p0n p0c p1a
  p1n p1c R w) : Ct Try.prog 73 #[Value.slice p0a p0n p0c, Value.slice p1a p1n p1c] w R := by
  refine Ct_of (rk := []) (fn := Try.f73) (args := [Value.slice p0a p0n p0c, Value.slice p1a p1n p1c]) mixedT Try.func73 (by kernel_rfl) ?_
  rw [f73_eq]
  exact h
def f215_vc (p0a : Option Addr) (p0n : Nat) (p0c : Nat) (p1 : ByteArray) (R : Value → World → Prop) (w : World) : Prop := Bd ((p0n : Nat) : Int) fun x1 => LoopP (fun l2
  l3 J4 w5 => opI IntKind.i64 (nthD l2 (0 : Nat)) fun x6 => opI IntKind.i64 (nthD l2 (1 : Nat)) fun x7 => Bd (decide (x7 < x1)) fun b8 => If b8 (IxOk x7 p0n p0a ∧ Ld w5
  (adAt p0a x7 (1 : Nat)) fun v9 => opStr v9 fun s10 => Bd (ByteArray.toList p1 == ByteArray.toList s10) fun b11 => If b11 (R (Value.int IntKind.i64 x7) w5) (Bd
  (IntKind.wrap IntKind.i64 (x7 + (1 : Int))) fun x12 => J4 [Value.int IntKind.i64 x6, Value.int IntKind.i64 x12] [] w5)) (R (Value.int IntKind.i64 (-1 : Int)) w5))
  [Value.int IntKind.i64 (0 : Int), Value.int IntKind.i64 (0 : Int)] [] w
theorem f215_eq (p0a : Option Addr) (p0n : Nat) (p0c : Nat) (p1 : ByteArray) (R : Value → World → Prop) (w : World) : fnW Try.prog [] Try.f215 [Value.slice p0a p0n p0c,
  Value.string p1] R w = f215_vc p0a p0n p0c p1 R w := by kernel_rfl
theorem f215_in (p0a : Option Addr) (p0n : Nat) (p0c : Nat) (p1 : ByteArray) (R : Value → World → Prop) (w : World) (h : f215_vc p0a p0n p0c p1 R w) : Ct Try.prog 215
  #[Value.slice p0a p0n p0c, Value.string p1] w R := by
  refine Ct_of (rk := []) (fn := Try.f215) (args := [Value.slice p0a p0n p0c, Value.string p1]) mixedT Try.func215 (by kernel_rfl) ?_
  rw [f215_eq]
  exact h
def f158_vc (p0 : Option Addr) (R : Value → World → Prop) (w : World) : Prop := CallW Try.prog [] (217 : Nat) #[Value.pointer p0, Value.int IntKind.i64 (1 : Int)] (fun v1
  w2 => opL v1 fun a3 n4 n5 => IxOk (0 : Int) n4 a3 ∧ Ld w2 (adAt a3 (0 : Int) (1 : Nat)) fun v6 => opI IntKind.u8 v6 fun x7 => Bd (IntKind.wrap IntKind.i64 x7) fun x8 =>
  R (Value.int IntKind.i64 x8) w2) w
theorem f158_eq (p0 : Option Addr) (R : Value → World → Prop) (w : World) : fnW Try.prog [] Try.f158 [Value.pointer p0] R w = f158_vc p0 R w := by kernel_rfl
theorem f158_in (p0 : Option Addr) (R : Value → World → Prop) (w : World) (h : f158_vc p0 R w) : Ct Try.prog 158 #[Value.pointer p0] w R := by
  refine Ct_of (rk := []) (fn := Try.f158) (args := [Value.pointer p0]) mixedT Try.func158 (by kernel_rfl) ?_
  rw [f158_eq]
  exact h
def f159_vc (p0 : Option Addr) (R : Value → World → Prop) (w : World) : Prop := CallW Try.prog [] (217 : Nat) #[Value.pointer p0, Value.int IntKind.i64 (2 : Int)] (fun v1
  w2 => opL v1 fun a3 n4 n5 => Dr (World.drew w2) fun J6 => IxOk (0 : Int) n4 a3 ∧ ∃ v7, (∀ (w8 : World), J6 w8 → Ld w8 (adAt a3 (0 : Int) (1 : Nat)) fun v10 => v10 = v7)
  ∧ opI IntKind.u8 v7 fun x11 => Bd (IntKind.wrap IntKind.i64 x11) fun x12 => Bd (IntKind.wrap IntKind.i64 (x12 * (2 : Int) ^ min (8 : Nat) (64 : Nat))) fun x13 => IxOk
  (1 : Int) n4 a3 ∧ ∃ v14, (∀ (w15 : World), J6 w15 → Ld w15 (adAt a3 (1 : Int) (1 : Nat)) fun v17 => v17 = v14) ∧ opI IntKind.u8 v14 fun x18 => Bd (IntKind.wrap
  IntKind.i64 x18) fun x19 => Bd (IntKind.wrap IntKind.i64 ↑(BitVec.toNat (BitVec.ofInt (64 : Nat) x13 ||| BitVec.ofInt (64 : Nat) x19))) fun x20 => R (Value.int
  IntKind.i64 x20) (World.drew w2)) w
theorem f159_eq (p0 : Option Addr) (R : Value → World → Prop) (w : World) : fnW Try.prog [] Try.f159 [Value.pointer p0] R w = f159_vc p0 R w := by kernel_rfl
theorem f159_in (p0 : Option Addr) (R : Value → World → Prop) (w : World) (h : f159_vc p0 R w) : Ct Try.prog 159 #[Value.pointer p0] w R := by
  refine Ct_of (rk := []) (fn := Try.f159) (args := [Value.pointer p0]) mixedT Try.func159 (by kernel_rfl) ?_
  rw [f159_eq]
  exact h
def f217_vc (p0 : Option Addr) (p1 : Int) (R : Value → World → Prop) (w : World) : Prop := NN p0 fun A1 => Ld w (Addr.add A1 (1 : Nat)) fun v2 => opB v2 fun b3 => ((!b3)
  = true → Option.isSome p0 = true) ∧ Bd (Option.getD p0 default) fun A5 => Gd (!b3) (none, (0 : Nat), (0 : Nat)) (fun J6 => Ld w (Addr.add A5 (0 : Nat)) fun v7 => opL v7
  fun a8 n9 n10 => J6 (a8, n9, n10) w) (fun u11 w12 => Bd ↑(Prod.fst (Prod.snd u11)) fun x13 => Bd (decide (x13 < p1)) fun b14 => Bd (bif b3 then true else b14) fun b15
  => If b15 (NN p0 fun A16 => ¬Addr.block A16 ∈ [] ∧ Wr w12 (Addr.add A16 (1 : Nat)) (1 : Nat) ∧ RunW Try.prog [] (Instr.makeSlice (51 : Nat) (Value.int IntKind.i64 p1)
  (Value.int IntKind.i64 p1)) (fun v17 w18 => opL v17 fun a19 n20 n21 => R (Value.slice a19 n20 n21) w18) (setCells w12 (Addr.add A16 (1 : Nat)) (0 : Nat) [Value.bool
  true])) (NN p0 fun A22 => Ld w12 (Addr.add A22 (0 : Nat)) fun v23 => opL v23 fun a24 n25 n26 => RunW Try.prog [] (Instr.sliceAt (51 : Nat) (Value.slice a24 n25 n26)
  none (some (Value.int IntKind.i64 p1)) none) (fun v27 w28 => opL v27 fun a29 n30 n31 => NN p0 fun A32 => Ld w28 (Addr.add A32 (0 : Nat)) fun v33 => opL v33 fun a34 n35
  n36 => RunW Try.prog [] (Instr.sliceAt (51 : Nat) (Value.slice a34 n35 n36) (some (Value.int IntKind.i64 p1)) none none) (fun v37 w38 => opL v37 fun a39 n40 n41 => NN
  p0 fun A42 => ¬Addr.block (Addr.add A42 (0 : Nat)) ∈ [] ∧ Wr w38 (Addr.add A42 (0 : Nat)) (1 : Nat) ∧ R (Value.slice a29 n30 n31) (setCells w38 (Addr.add A42 (0 : Nat))
  (0 : Nat) [Value.slice a39 n40 n41])) w28) w12)) w
theorem f217_eq (p0 : Option Addr) (p1 : Int) (R : Value → World → Prop) (w : World) : fnW Try.prog [] Try.f217 [Value.pointer p0, Value.int IntKind.i64 p1] R w = f217_vc
  p0 p1 R w := by kernel_rfl
theorem f217_in (p0 : Option Addr) (p1 : Int) (R : Value → World → Prop) (w : World) (h : f217_vc p0 p1 R w) : Ct Try.prog 217 #[Value.pointer p0, Value.int IntKind.i64
  p1] w R := by
  refine Ct_of (rk := []) (fn := Try.f217) (args := [Value.pointer p0, Value.int IntKind.i64 p1]) mixedT Try.func217 (by kernel_rfl) ?_
  rw [f217_eq]
  exact h
def f55_vc (p0 : Array Value) (R : Value → World → Prop) (w : World) : Prop := Rg w fun n1 => (257 : Nat) ≤ Array.size p0 ∧ Bd (List.toArray (List.take (257 : Nat)
  (List.drop (0 : Nat) (Array.toList p0)))) fun cs2 => Array.size cs2 = (257 : Nat) ∧ Up [] [n1] w fun w3 => CallW Try.prog [n1] (44 : Nat) #[Value.agg cs2] (fun v4 w5 =>
  opB v4 fun b6 => Bd (!b6) fun b7 => ((!b7) = true → (260 : Nat) ≤ Array.size p0) ∧ Bd (List.toArray (List.take (3 : Nat) (List.drop (257 : Nat) (Array.toList p0)))) fun
  cs9 => Gd (!b7) false (fun J10 => CallW Try.prog [n1] (72 : Nat) #[Value.agg cs9] (fun v11 w12 => opB v11 fun b13 => J10 b13 w12) w5) (fun b14 w15 => Bd (!b14) fun b16
  => Bd (bif b7 then true else b16) fun b17 => ((!b17) = true → isI IntKind.i64 (Array.toList p0) (256 : Nat)) ∧ Bd (rdI (Array.toList p0) (256 : Nat)) fun x19 => ((!b17)
  = true → isI IntKind.i64 (Array.toList p0) (257 : Nat)) ∧ Bd (rdI (Array.toList p0) (257 : Nat)) fun x21 => Bd (x19 != x21) fun b22 => Bd (bif b17 then true else b22)
  fun b23 => ∃ a24 n25 n26, ((!b23) = true → nthV (Array.toList p0) (260 : Nat) = some (Value.slice a24 n25 n26)) ∧ Bd ((n25 : Nat) : Int) fun x28 => Bd (decide (x28 < (1
  : Int))) fun b29 => Bd (bif b23 then true else b29) fun b30 => ∃ a31 n32 n33, ((!b30) = true → nthV (Array.toList p0) (260 : Nat) = some (Value.slice a31 n32 n33)) ∧ Bd
  ((n32 : Nat) : Int) fun x35 => Bd (decide (x35 > (200 : Int))) fun b36 => Bd (bif b30 then true else b36) fun b37 => If b37 (R (Value.bool false) w15) (BdO (nthV
  (Array.toList p0) (260 : Nat)) fun v38 => opL v38 fun a39 n40 n41 => Bd ((n40 : Nat) : Int) fun x42 => LoopP (fun l43 l44 J45 w46 => opB (nthD l43 (0 : Nat)) fun b47 =>
  opI IntKind.i64 (nthD l43 (1 : Nat)) fun x48 => Bd (decide (x48 < x42)) fun b49 => If b49 (IxOk x48 n40 a39 ∧ Ld w46 (adAt a39 x48 (1 : Nat)) fun v50 => opStr v50 fun
  s51 => CallW Try.prog [n1] (152 : Nat) #[Value.string s51] (fun v52 w53 => opB v52 fun b54 => Bd (!b54) fun b55 => ∃ a56 n57 n58, ((!b55) = true → nthV (Array.toList
  p0) (260 : Nat) = some (Value.slice a56 n57 n58)) ∧ Gd (!b55) (none, (0 : Nat), (0 : Nat)) (fun J60 => RunW Try.prog [n1] (Instr.sliceAt (55 : Nat) (Value.slice a56 n57
  n58) none (some (Value.int IntKind.i64 x48)) none) (fun v61 w62 => opL v61 fun a63 n64 n65 => J60 (a63, n64, n65) w62) w53) (fun u66 w67 => Gd (!b55) false (fun J68 =>
  CallW Try.prog [n1] (153 : Nat) #[Value.slice (Prod.fst u66) (Prod.fst (Prod.snd u66)) (Prod.snd (Prod.snd u66)), Value.string s51] (fun v69 w70 => opB v69 fun b71 =>
  J68 b71 w70) w67) (fun b72 w73 => Bd (bif b55 then true else b72) fun b74 => If b74 (R (Value.bool false) w73) (Bd (IntKind.wrap IntKind.i64 (x48 + (1 : Int))) fun x75
  => J45 [Value.bool b47, Value.int IntKind.i64 x75] [] w73)) w67) w53) w46) (BdO (nthV (Array.toList p0) (259 : Nat)) fun v76 => opL v76 fun a77 n78 n79 => BdO (nthV
  (Array.toList p0) (260 : Nat)) fun v80 => opL v80 fun a81 n82 n83 => Bd ((n82 : Nat) : Int) fun x84 => CallW Try.prog [n1] (154 : Nat) #[Value.slice a77 n78 n79] (fun
  v85 w86 => opI IntKind.i64 v85 fun x87 => Bd (decide (x87 < x84)) fun b88 => R (Value.bool b88) w86) (World.drew w46))) [Value.bool false, Value.int IntKind.i64 (0 :
  Int)] [] w15)) w5) w3
theorem f55_eq (p0 : Array Value) (R : Value → World → Prop) (w : World) : fnW Try.prog [1] Try.f55 [Value.agg p0] R w = f55_vc p0 R w := by kernel_rfl
theorem f55_in (p0 : Array Value) (R : Value → World → Prop) (w : World) (h : f55_vc p0 R w) : Ct Try.prog 55 #[Value.agg p0] w R := by
  refine Ct_of (rk := [1]) (fn := Try.f55) (args := [Value.agg p0]) mixedT Try.func55 (by kernel_rfl) ?_
  rw [f55_eq]
  exact h
def f56_vc (p0 : Array Value) (R : Value → World → Prop) (w : World) : Prop := Rg w fun n1 => (257 : Nat) ≤ Array.size p0 ∧ Bd (List.toArray (List.take (257 : Nat)
  (List.drop (0 : Nat) (Array.toList p0)))) fun cs2 => Array.size cs2 = (257 : Nat) ∧ Up [] [n1] w fun w3 => CallW Try.prog [n1] (45 : Nat) #[Value.agg cs2] (fun v4 w5 =>
  opB v4 fun b6 => Bd (!b6) fun b7 => ((!b7) = true → (260 : Nat) ≤ Array.size p0) ∧ Bd (List.toArray (List.take (3 : Nat) (List.drop (257 : Nat) (Array.toList p0)))) fun
  cs9 => Gd (!b7) false (fun J10 => CallW Try.prog [n1] (133 : Nat) #[Value.agg cs9] (fun v11 w12 => opB v11 fun b13 => J10 b13 w12) w5) (fun b14 w15 => Bd (!b14) fun b16
  => Bd (bif b7 then true else b16) fun b17 => ((!b17) = true → isI IntKind.i64 (Array.toList p0) (256 : Nat)) ∧ Bd (rdI (Array.toList p0) (256 : Nat)) fun x19 => ((!b17)
  = true → isI IntKind.i64 (Array.toList p0) (257 : Nat)) ∧ Bd (rdI (Array.toList p0) (257 : Nat)) fun x21 => Bd (x19 != x21) fun b22 => Bd (bif b17 then true else b22)
  fun b23 => If b23 (R (Value.bool false) w15) (BdO (nthV (Array.toList p0) (260 : Nat)) fun v24 => opL v24 fun a25 n26 n27 => Bd ((n26 : Nat) : Int) fun x28 => Bd (x28
  == (0 : Int)) fun b29 => ∃ a30 n31 n32, ((!b29) = true → nthV (Array.toList p0) (260 : Nat) = some (Value.slice a30 n31 n32)) ∧ Bd ((n31 : Nat) : Int) fun x34 => Bd
  (decide (x34 > (200 : Int))) fun b35 => Bd (bif b29 then true else b35) fun b36 => If b36 (R (Value.bool false) w15) (LoopP (fun l37 l38 J39 w40 => opB (nthD l37 (0 :
  Nat)) fun b41 => opI IntKind.i64 (nthD l37 (1 : Nat)) fun x42 => BdO (nthV (Array.toList p0) (260 : Nat)) fun v43 => opL v43 fun a44 n45 n46 => Bd ((n45 : Nat) : Int)
  fun x47 => Bd (decide (x42 < x47)) fun b48 => If b48 (BdO (nthV (Array.toList p0) (260 : Nat)) fun v49 => opL v49 fun a50 n51 n52 => IxOk x42 n51 a50 ∧ Ld w40 (adAt a50
  x42 (1 : Nat)) fun v53 => opStr v53 fun s54 => Bd (((ByteArray.size s54) : Nat) : Int) fun x55 => Bd (decide (x55 > (64 : Int))) fun b56 => ∃ a57 n58 n59, ((!b56) =
  true → nthV (Array.toList p0) (260 : Nat) = some (Value.slice a57 n58 n59)) ∧ ((!b56) = true → IxOk x42 n58 a57) ∧ Gd (!b56) ByteArray.empty (fun J62 => Ld w40 (adAt
  a57 x42 (1 : Nat)) fun v63 => opStr v63 fun s64 => J62 s64 w40) (fun s65 w66 => Gd (!b56) false (fun J67 => CallW Try.prog [n1] (155 : Nat) #[Value.string s65] (fun v68
  w69 => opB v68 fun b70 => J67 b70 w69) w66) (fun b71 w72 => Bd (!b71) fun b73 => Bd (bif b56 then true else b73) fun b74 => If b74 (R (Value.bool false) w72) (LoopP
  (fun l75 l76 J77 w78 => opB (nthD l75 (0 : Nat)) fun b79 => opI IntKind.i64 (nthD l75 (1 : Nat)) fun x80 => Bd (decide (x80 < x42)) fun b81 => If b81 (Dr (World.drew
  w78) fun J82 => BdO (nthV (Array.toList p0) (260 : Nat)) fun v83 => opL v83 fun a84 n85 n86 => IxOk x80 n85 a84 ∧ ∃ v87, (∀ (w88 : World), J82 w88 → Ld w88 (adAt a84
  x80 (1 : Nat)) fun v90 => v90 = v87) ∧ opStr v87 fun s91 => BdO (nthV (Array.toList p0) (260 : Nat)) fun v92 => opL v92 fun a93 n94 n95 => IxOk x42 n94 a93 ∧ ∃ v96, (∀
  (w97 : World), J82 w97 → Ld w97 (adAt a93 x42 (1 : Nat)) fun v99 => v99 = v96) ∧ opStr v96 fun s100 => Bd (ByteArray.toList s91 == ByteArray.toList s100) fun b101 => If
  b101 (R (Value.bool false) (World.drew w78)) (Bd (IntKind.wrap IntKind.i64 (x80 + (1 : Int))) fun x102 => J77 [Value.bool b79, Value.int IntKind.i64 x102] []
  (World.drew w78))) (Bd (IntKind.wrap IntKind.i64 (x42 + (1 : Int))) fun x103 => J39 [Value.bool b79, Value.int IntKind.i64 x103] [] w78)) [Value.bool b41, Value.int
  IntKind.i64 (0 : Int)] [] w72)) w66) w40) (LoopP (fun l104 l105 J106 w107 => opB (nthD l104 (0 : Nat)) fun b108 => opI IntKind.i64 (nthD l104 (1 : Nat)) fun x109 => BdO
  (nthV (Array.toList p0) (259 : Nat)) fun v110 => opL v110 fun a111 n112 n113 => Bd ((n112 : Nat) : Int) fun x114 => Bd (decide (x109 < x114)) fun b115 => If b115 (Dr
  (World.drew w107) fun J116 => BdO (nthV (Array.toList p0) (259 : Nat)) fun v117 => opL v117 fun a118 n119 n120 => IxOk x109 n119 a118 ∧ ∃ v121, (∀ (w122 : World), J116
  w122 → Ld w122 (adAt a118 x109 (1 : Nat)) fun v124 => v124 = v121) ∧ opI IntKind.i64 v121 fun x125 => BdO (nthV (Array.toList p0) (260 : Nat)) fun v126 => opL v126 fun
  a127 n128 n129 => Bd ((n128 : Nat) : Int) fun x130 => Bd (decide (x125 ≥ x130)) fun b131 => If b131 (R (Value.bool false) (World.drew w107)) (Bd (IntKind.wrap
  IntKind.i64 (x109 + (1 : Int))) fun x132 => J106 [Value.bool b108, Value.int IntKind.i64 x132] [] (World.drew w107))) (R (Value.bool true) w107)) [Value.bool b41,
  Value.int IntKind.i64 (0 : Int)] [] w40)) [Value.bool false, Value.int IntKind.i64 (0 : Int)] [] w15))) w5) w3
theorem f56_eq (p0 : Array Value) (R : Value → World → Prop) (w : World) : fnW Try.prog [1] Try.f56 [Value.agg p0] R w = f56_vc p0 R w := by kernel_rfl
theorem f56_in (p0 : Array Value) (R : Value → World → Prop) (w : World) (h : f56_vc p0 R w) : Ct Try.prog 56 #[Value.agg p0] w R := by
  refine Ct_of (rk := [1]) (fn := Try.f56) (args := [Value.agg p0]) mixedT Try.func56 (by kernel_rfl) ?_
  rw [f56_eq]
  exact h
def f57_vc (p0 : Array Value) (p1 : Int) (p2 : Int) (R : Value → World → Prop) (w : World) : Prop := Rg w fun n1 => Array.size p0 = (261 : Nat) ∧ Up [] [n1] w fun w2 =>
  CallW Try.prog [n1] (55 : Nat) #[Value.agg p0] (fun v3 w4 => opB v3 fun b5 => Bd (!b5) fun b6 => Bd (decide (p1 < (0 : Int))) fun b7 => Bd (bif b6 then true else b7)
  fun b8 => ∃ a9 n10 n11, ((!b8) = true → nthV (Array.toList p0) (259 : Nat) = some (Value.slice a9 n10 n11)) ∧ Bd ((n10 : Nat) : Int) fun x13 => Bd (decide (p1 ≥ x13))
  fun b14 => Bd (bif b8 then true else b14) fun b15 => If b15 (R (Value.int IntKind.i64 (-1 : Int)) w4) (Dr (World.drew w4) fun J16 => BdO (nthV (Array.toList p0) (258 :
  Nat)) fun v17 => opL v17 fun a18 n19 n20 => BdO (nthV (Array.toList p0) (257 : Nat)) fun v21 => opI IntKind.i64 v21 fun x22 => Bd (IntKind.wrap IntKind.i64 (p1 * x22))
  fun x23 => ((0 : Int) ≤ p2 ∧ p2 < ↑(256 : Nat)) ∧ BdO (nthV (Array.toList p0) ((0 : Nat) + Int.toNat p2 * (1 : Nat))) fun v24 => opI IntKind.u8 v24 fun x25 => Bd
  (IntKind.wrap IntKind.i64 x25) fun x26 => Bd (IntKind.wrap IntKind.i64 (x23 + x26)) fun x27 => IxOk x27 n19 a18 ∧ ∃ v28, (∀ (w29 : World), J16 w29 → Ld w29 (adAt a18
  x27 (1 : Nat)) fun v31 => v31 = v28) ∧ opI IntKind.i64 v28 fun x32 => R (Value.int IntKind.i64 x32) (World.drew w4))) w2
theorem f57_eq (p0 : Array Value) (p1 : Int) (p2 : Int) (R : Value → World → Prop) (w : World) : fnW Try.prog [3] Try.f57 [Value.agg p0, Value.int IntKind.i64 p1,
  Value.int IntKind.u8 p2] R w = f57_vc p0 p1 p2 R w := by kernel_rfl
theorem f57_in (p0 : Array Value) (p1 : Int) (p2 : Int) (R : Value → World → Prop) (w : World) (h : f57_vc p0 p1 p2 R w) : Ct Try.prog 57 #[Value.agg p0, Value.int
  IntKind.i64 p1, Value.int IntKind.u8 p2] w R := by
  refine Ct_of (rk := [3]) (fn := Try.f57) (args := [Value.agg p0, Value.int IntKind.i64 p1, Value.int IntKind.u8 p2]) mixedT Try.func57 (by kernel_rfl) ?_
  rw [f57_eq]
  exact h
def f58_vc (p0 : Array Value) (p1 : Int) (p2 : Int) (R : Value → World → Prop) (w : World) : Prop := Rg w fun n1 => Array.size p0 = (261 : Nat) ∧ Up [] [n1] w fun w2 =>
  CallW Try.prog [n1] (56 : Nat) #[Value.agg p0] (fun v3 w4 => opB v3 fun b5 => Bd (!b5) fun b6 => Bd (decide (p1 < (0 : Int))) fun b7 => Bd (bif b6 then true else b7)
  fun b8 => ∃ a9 n10 n11, ((!b8) = true → nthV (Array.toList p0) (259 : Nat) = some (Value.slice a9 n10 n11)) ∧ Bd ((n10 : Nat) : Int) fun x13 => Bd (decide (p1 ≥ x13))
  fun b14 => Bd (bif b8 then true else b14) fun b15 => If b15 (R (Value.int IntKind.i64 (-1 : Int)) w4) (((0 : Int) ≤ p2 ∧ p2 < ↑(256 : Nat)) ∧ BdO (nthV (Array.toList
  p0) ((0 : Nat) + Int.toNat p2 * (1 : Nat))) fun v16 => opI IntKind.u8 v16 fun x17 => Bd (IntKind.wrap IntKind.i64 x17) fun x18 => BdO (nthV (Array.toList p0) (258 :
  Nat)) fun v19 => opL v19 fun a20 n21 n22 => BdO (nthV (Array.toList p0) (257 : Nat)) fun v23 => opI IntKind.i64 v23 fun x24 => Bd (IntKind.wrap IntKind.i64 (p1 * x24))
  fun x25 => Bd (IntKind.wrap IntKind.i64 (x25 + x18)) fun x26 => IxOk x26 n21 a20 ∧ Ld w4 (adAt a20 x26 (1 : Nat)) fun v27 => opI IntKind.i64 v27 fun x28 => R (Value.int
  IntKind.i64 x28) w4)) w2
theorem f58_eq (p0 : Array Value) (p1 : Int) (p2 : Int) (R : Value → World → Prop) (w : World) : fnW Try.prog [3] Try.f58 [Value.agg p0, Value.int IntKind.i64 p1,
  Value.int IntKind.u8 p2] R w = f58_vc p0 p1 p2 R w := by kernel_rfl
theorem f58_in (p0 : Array Value) (p1 : Int) (p2 : Int) (R : Value → World → Prop) (w : World) (h : f58_vc p0 p1 p2 R w) : Ct Try.prog 58 #[Value.agg p0, Value.int
  IntKind.i64 p1, Value.int IntKind.u8 p2] w R := by
  refine Ct_of (rk := [3]) (fn := Try.f58) (args := [Value.agg p0, Value.int IntKind.i64 p1, Value.int IntKind.u8 p2]) mixedT Try.func58 (by kernel_rfl) ?_
  rw [f58_eq]
  exact h
def f63_vc (p0 : Array Value) (p1 : Array Value) (R : Value → World → Prop) (w : World) : Prop := Rg w fun n1 => Rg w fun n2 => (257 : Nat) ≤ Array.size p0 ∧ Bd
  (List.toArray (List.take (257 : Nat) (List.drop (0 : Nat) (Array.toList p0)))) fun cs3 => Array.size cs3 = (257 : Nat) ∧ (257 : Nat) ≤ Array.size p1 ∧ Bd (List.toArray
  (List.take (257 : Nat) (List.drop (0 : Nat) (Array.toList p1)))) fun cs4 => Array.size cs4 = (257 : Nat) ∧ Up [] [n2, n1] w fun w5 => RunW Try.prog [n2, n1] (eqS
  BinOp.eql (25 : Nat) (Operand.tmp (6 : Nat)) (Operand.tmp (8 : Nat)) (Value.agg cs3) (Value.agg cs4)) (fun v6 w7 => opB v6 fun b8 => (b8 = true → (260 : Nat) ≤
  Array.size p0) ∧ Bd (List.toArray (List.take (3 : Nat) (List.drop (257 : Nat) (Array.toList p0)))) fun cs10 => (b8 = true → (260 : Nat) ≤ Array.size p1) ∧ Bd
  (List.toArray (List.take (3 : Nat) (List.drop (257 : Nat) (Array.toList p1)))) fun cs12 => Gd b8 false (fun J13 => CallW Try.prog [n2, n1] (96 : Nat) #[Value.agg cs10,
  Value.agg cs12] (fun v14 w15 => opB v14 fun b16 => J13 b16 w15) w7) (fun b17 w18 => Bd (bif b8 then b17 else false) fun b19 => ∃ a20 n21 n22, (b19 = true → nthV
  (Array.toList p0) (260 : Nat) = some (Value.slice a20 n21 n22)) ∧ ∃ a24 n25 n26, (b19 = true → nthV (Array.toList p1) (260 : Nat) = some (Value.slice a24 n25 n26)) ∧ Gd
  b19 false (fun J28 => CallW Try.prog [n2, n1] (160 : Nat) #[Value.slice a20 n21 n22, Value.slice a24 n25 n26] (fun v29 w30 => opB v29 fun b31 => J28 b31 w30) w18) (fun
  b32 w33 => Bd (bif b19 then b32 else false) fun b34 => R (Value.bool b34) w33) w18) w7) w5
theorem f63_eq (p0 : Array Value) (p1 : Array Value) (R : Value → World → Prop) (w : World) : fnW Try.prog [2, 3] Try.f63 [Value.agg p0, Value.agg p1] R w = f63_vc p0 p1
  R w := by kernel_rfl
theorem f63_in (p0 : Array Value) (p1 : Array Value) (R : Value → World → Prop) (w : World) (h : f63_vc p0 p1 R w) : Ct Try.prog 63 #[Value.agg p0, Value.agg p1] w R :=
  by
  refine Ct_of (rk := [2, 3]) (fn := Try.f63) (args := [Value.agg p0, Value.agg p1]) mixedT Try.func63 (by kernel_rfl) ?_
  rw [f63_eq]
  exact h
end Fk
