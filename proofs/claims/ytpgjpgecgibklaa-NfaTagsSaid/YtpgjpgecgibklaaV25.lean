/- Conditions of functions, as the generator works them out; each one is checked by the kernel. -/
import Derived.Test.YtpgjpgecgibklaaTT
set_option linter.unusedVariables false
set_option maxRecDepth 1000000
set_option maxHeartbeats 4000000
namespace Fk
open Go Go.Proofs Go.RowKit
def f14_vc (p0a : Option Addr) (p0n : Nat) (p0c : Nat) (p1 : ByteArray) (R : Value → World → Prop) (w : World) : Prop := CallW Try.prog [] (83 : Nat) #[Value.slice p0a
  p0n p0c] (fun v1 w2 => opL v1 fun a3 n4 n5 => CallW Try.prog [] (38 : Nat) #[Value.slice a3 n4 n5] (fun v6 w7 => opB v6 fun b8 => Bd (!b8) fun b9 => Bd ((n4 : Nat) :
  Int) fun x10 => Bd (x10 == (0 : Int)) fun b11 => Bd (bif b9 then true else b11) fun b12 => If b12 (CallW Try.prog [] (77 : Nat) #[] (fun v13 w14 => opB v13 fun b15 => R
  (Value.bool b15) w14) w7) (CallW Try.prog [] (68 : Nat) #[Value.string p1, Value.int IntKind.i64 (14 : Int)] (fun v16 w17 => opStr v16 fun s18 => CallW Try.prog [] (66
  : Nat) #[Value.slice a3 n4 n5, Value.int IntKind.i64 (20000 : Int)] (fun v19 w20 => opTu v19 fun cs21 => opAg (nthD (Array.toList cs21) (0 : Nat)) fun cs22 => opI
  IntKind.i64 (nthD (Array.toList cs22) (0 : Nat)) fun x23 => opL (nthD (Array.toList cs22) (1 : Nat)) fun a24 n25 n26 => SzIs (Array.size cs22) (2 : Nat) (opI
  IntKind.i64 (nthD (Array.toList cs21) (1 : Nat)) fun x27 => SzIs (Array.size cs21) (2 : Nat) (Rg w20 fun n28 => Up [n28] [n28] w20 fun w29 => CallW Try.prog [n28] (69 :
  Nat) #[Value.agg #[Value.int IntKind.i64 x23, Value.slice a24 n25 n26], Value.string s18] (fun v30 w31 => opTu v30 fun cs32 => opL (nthD (Array.toList cs32) (0 : Nat))
  fun a33 n34 n35 => opI IntKind.i64 (nthD (Array.toList cs32) (1 : Nat)) fun x36 => SzIs (Array.size cs32) (2 : Nat) (Bd (x27 != (0 : Int)) fun b37 => Bd (x36 != (0 :
  Int)) fun b38 => Bd (bif b37 then true else b38) fun b39 => Gd (!b39) false (fun J40 => CallW Try.prog [n28] (81 : Nat) #[Value.agg #[Value.int IntKind.i64 x23,
  Value.slice a24 n25 n26]] (fun v41 w42 => opB v41 fun b43 => J40 b43 w42) w31) (fun b44 w45 => Bd (!b44) fun b46 => Bd (bif b39 then true else b46) fun b47 => Bd ((n34
  : Nat) : Int) fun x48 => Bd (((ByteArray.size s18) : Nat) : Int) fun x49 => Bd (IntKind.wrap IntKind.i64 (x49 + (1 : Int))) fun x50 => Bd (x48 != x50) fun b51 => Bd
  (bif b47 then true else b51) fun b52 => If b52 (R (Value.bool false) w45) (Bd ((n4 : Nat) : Int) fun x53 => LoopP (fun l54 l55 J56 w57 => opL (nthD l54 (0 : Nat)) fun
  a58 n59 n60 => opI IntKind.i64 (nthD l54 (1 : Nat)) fun x61 => Bd (decide (x61 < x53)) fun b62 => If b62 (IxOk x61 n4 a3 ∧ Ld w57 (Addr.add (adAt a3 x61 (6 : Nat)) (0 :
  Nat)) fun v63 => Ld w57 (Addr.add (adAt a3 x61 (6 : Nat)) (1 : Nat)) fun v64 => Ld w57 (Addr.add (adAt a3 x61 (6 : Nat)) (2 : Nat)) fun v65 => Ld w57 (Addr.add (adAt a3
  x61 (6 : Nat)) (3 : Nat)) fun v66 => Ld w57 (Addr.add (adAt a3 x61 (6 : Nat)) (4 : Nat)) fun v67 => Ld w57 (Addr.add (adAt a3 x61 (6 : Nat)) (5 : Nat)) fun v68 => opI
  IntKind.u8 v63 fun x69 => opI IntKind.u64 v64 fun x70 => opI IntKind.u64 v65 fun x71 => opI IntKind.u64 v66 fun x72 => opI IntKind.u64 v67 fun x73 => opL v68 fun a74
  n75 n76 => Rg w57 fun n77 => Up [n77] [n77, n28] w57 fun w78 => CallW Try.prog [n77, n28] (74 : Nat) #[Value.agg #[Value.int IntKind.u8 x69, Value.int IntKind.u64 x70,
  Value.int IntKind.u64 x71, Value.int IntKind.u64 x72, Value.int IntKind.u64 x73, Value.slice a74 n75 n76], Value.string s18] (fun v79 w80 => opL v79 fun a81 n82 n83 =>
  Nw (Obj.cells #[Value.slice a81 n82 n83] (84 : Nat)) w80 fun n84 w85 => RunW Try.prog [n77, n28] (Builtin.append_ #[(93 : Nat), (93 : Nat)] (93 : Nat) #[Value.slice a58
  n59 n60, Value.slice (some (Addr.mk n84 (0 : Nat) none)) (1 : Nat) (1 : Nat)]) (fun v86 w87 => opL v86 fun a88 n89 n90 => Bd (IntKind.wrap IntKind.i64 (x61 + (1 :
  Int))) fun x91 => J56 [Value.slice a88 n89 n90, Value.int IntKind.i64 x91] [] w87) w85) w78) (Bd ((n34 : Nat) : Int) fun x92 => LoopP (fun l93 l94 J95 w96 => opB (nthD
  l93 (0 : Nat)) fun b97 => opI IntKind.i64 (nthD l93 (1 : Nat)) fun x98 => Bd (decide (x98 < x92)) fun b99 => If b99 (IxOk x98 n34 a33 ∧ Ld w96 (adAt a33 x98 (1 : Nat))
  fun v100 => opI IntKind.i64 v100 fun x101 => Bd ((n59 : Nat) : Int) fun x102 => Bd (IntKind.wrap IntKind.i64 (x102 - (1 : Int))) fun x103 => LoopP (fun l104 l105 J106
  w107 => opI IntKind.i64 (nthD l104 (0 : Nat)) fun x108 => opI IntKind.i64 (nthD l104 (1 : Nat)) fun x109 => Bd (decide (x109 ≥ (0 : Int))) fun b110 => If b110 (Jn (fun
  l111 l112 w113 => opI IntKind.i64 (nthD l111 (0 : Nat)) fun x114 => Bd (IntKind.wrap IntKind.i64 (x109 - (1 : Int))) fun x115 => J106 [Value.int IntKind.i64 x114,
  Value.int IntKind.i64 x115] [] w113) fun J116 => IxOk x109 n59 a58 ∧ Ld w107 (adAt a58 x109 (1 : Nat)) fun v117 => opL v117 fun a118 n119 n120 => CallW Try.prog [n28]
  (75 : Nat) #[Value.slice a118 n119 n120, Value.int IntKind.i64 (0 : Int), Value.int IntKind.i64 x98] (fun v121 w122 => opB v121 fun b123 => If b123 (J116 [Value.int
  IntKind.i64 x109] [] w122) (J116 [Value.int IntKind.i64 x108] [] w122)) w107) (Bd (x101 != x108) fun b124 => If b124 (R (Value.bool false) w107) (Bd (IntKind.wrap
  IntKind.i64 (x98 + (1 : Int))) fun x125 => J95 [Value.bool b97, Value.int IntKind.i64 x125] [] w107))) [Value.int IntKind.i64 (-1 : Int), Value.int IntKind.i64 x103] []
  w96) (CallW Try.prog [n28] (77 : Nat) #[] (fun v126 w127 => opB v126 fun b128 => R (Value.bool b128) w127) w96)) [Value.bool false, Value.int IntKind.i64 (0 : Int)] []
  w57)) [Value.slice none (0 : Nat) (0 : Nat), Value.int IntKind.i64 (0 : Int)] [] w45)) w31)) w29))) w17) w7)) w2) w
theorem f14_eq (p0a : Option Addr) (p0n : Nat) (p0c : Nat) (p1 : ByteArray) (R : Value → World → Prop) (w : World) : fnW Try.prog [5, 11] Try.f14 [Value.slice p0a p0n
  p0c, Value.string p1] R w = f14_vc p0a p0n p0c p1 R w := by kernel_rfl
theorem f14_in (p0a : Option Addr) (p0n : Nat) (p0c : Nat) (p1 : ByteArray) (R : Value → World → Prop) (w : World) (h : f14_vc p0a p0n p0c p1 R w) : Ct Try.prog 14
  #[Value.slice p0a p0n p0c, Value.string p1] w R := by
  refine Ct_of (rk := [5, 11]) (fn := Try.f14) (args := [Value.slice p0a p0n p0c, Value.string p1]) mixedT Try.func14 (by kernel_rfl) ?_
  rw [f14_eq]
  exact h
end Fk
