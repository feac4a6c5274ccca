/- Conditions of functions, as the generator works them out; each one is checked by the kernel. -/
import Derived.Test.YtpgjpgecgibklaaTT
set_option linter.unusedVariables false
set_option maxRecDepth 1000000
set_option maxHeartbeats 4000000
namespace Fk
open Go Go.Proofs Go.RowKit
def f83_vc (p0a : Option Addr) (p0n : Nat) (p0c : Nat) (R : Value → World → Prop) (w : World) : Prop := Bd ((p0n : Nat) : Int) fun x1 => LoopP (fun l2 l3 J4 w5 => opL
  (nthD l2 (0 : Nat)) fun a6 n7 n8 => opI IntKind.i64 (nthD l2 (1 : Nat)) fun x9 => Bd (decide (x9 < x1)) fun b10 => If b10 (Jn (fun l11 l12 w13 => opL (nthD l11 (0 :
  Nat)) fun a14 n15 n16 => Bd (IntKind.wrap IntKind.i64 (x9 + (1 : Int))) fun x17 => J4 [Value.slice a14 n15 n16, Value.int IntKind.i64 x17] [] w13) fun J18 => IxOk x9
  p0n p0a ∧ Ld w5 (Addr.add (adAt p0a x9 (6 : Nat)) (0 : Nat)) fun v19 => Ld w5 (Addr.add (adAt p0a x9 (6 : Nat)) (1 : Nat)) fun v20 => Ld w5 (Addr.add (adAt p0a x9 (6 :
  Nat)) (2 : Nat)) fun v21 => Ld w5 (Addr.add (adAt p0a x9 (6 : Nat)) (3 : Nat)) fun v22 => Ld w5 (Addr.add (adAt p0a x9 (6 : Nat)) (4 : Nat)) fun v23 => Ld w5 (Addr.add
  (adAt p0a x9 (6 : Nat)) (5 : Nat)) fun v24 => opI IntKind.u8 v19 fun x25 => opI IntKind.u64 v20 fun x26 => opI IntKind.u64 v21 fun x27 => opI IntKind.u64 v22 fun x28 =>
  opI IntKind.u64 v23 fun x29 => opL v24 fun a30 n31 n32 => Rg w5 fun n33 => Up [n33] [n33] w5 fun w34 => CallW Try.prog [n33] (144 : Nat) #[Value.agg #[Value.int
  IntKind.u8 x25, Value.int IntKind.u64 x26, Value.int IntKind.u64 x27, Value.int IntKind.u64 x28, Value.int IntKind.u64 x29, Value.slice a30 n31 n32]] (fun v35 w36 =>
  opB v35 fun b37 => If b37 (Nw (Obj.cells #[Value.int IntKind.u8 x25, Value.int IntKind.u64 x26, Value.int IntKind.u64 x27, Value.int IntKind.u64 x28, Value.int
  IntKind.u64 x29, Value.slice a30 n31 n32] (42 : Nat)) w36 fun n38 w39 => RunW Try.prog [n33] (Builtin.append_ #[(22 : Nat), (22 : Nat)] (22 : Nat) #[Value.slice a6 n7
  n8, Value.slice (some (Addr.mk n38 (0 : Nat) none)) (1 : Nat) (1 : Nat)]) (fun v40 w41 => opL v40 fun a42 n43 n44 => J18 [Value.slice a42 n43 n44] [] w41) w39) (J18
  [Value.slice a6 n7 n8] [] w36)) w34) (R (Value.slice a6 n7 n8) w5)) [Value.slice none (0 : Nat) (0 : Nat), Value.int IntKind.i64 (0 : Int)] [] w
theorem f83_eq (p0a : Option Addr) (p0n : Nat) (p0c : Nat) (R : Value → World → Prop) (w : World) : fnW Try.prog [5] Try.f83 [Value.slice p0a p0n p0c] R w = f83_vc p0a
  p0n p0c R w := by kernel_rfl
theorem f83_in (p0a : Option Addr) (p0n : Nat) (p0c : Nat) (R : Value → World → Prop) (w : World) (h : f83_vc p0a p0n p0c R w) : Ct Try.prog 83 #[Value.slice p0a p0n p0c]
  w R := by
  refine Ct_of (rk := [5]) (fn := Try.f83) (args := [Value.slice p0a p0n p0c]) mixedT Try.func83 (by kernel_rfl) ?_
  rw [f83_eq]
  exact h
def f88_vc (p0_0 : Int) (p0_1 : Int) (p0_2 : Int) (p0_3 : Int) (p0_4 : Int) (p0_5a : Option Addr) (p0_5n : Nat) (p0_5c : Nat) (R : Value → World → Prop) (w : World) :
  Prop := Rg w fun n1 => Jn (fun l2 l3 w4 => opI IntKind.i64 (nthD l2 (0 : Nat)) fun x5 => opB (nthD l2 (1 : Nat)) fun b6 => Bd ((p0_5n : Nat) : Int) fun x7 => LoopP (fun
  l8 l9 J10 w11 => opI IntKind.i64 (nthD l8 (0 : Nat)) fun x12 => opI IntKind.i64 (nthD l8 (1 : Nat)) fun x13 => Bd (decide (x13 < x7)) fun b14 => If b14 (IxOk x13 p0_5n
  p0_5a ∧ Ld w11 (Addr.add (adAt p0_5a x13 (6 : Nat)) (0 : Nat)) fun v15 => Ld w11 (Addr.add (adAt p0_5a x13 (6 : Nat)) (1 : Nat)) fun v16 => Ld w11 (Addr.add (adAt p0_5a
  x13 (6 : Nat)) (2 : Nat)) fun v17 => Ld w11 (Addr.add (adAt p0_5a x13 (6 : Nat)) (3 : Nat)) fun v18 => Ld w11 (Addr.add (adAt p0_5a x13 (6 : Nat)) (4 : Nat)) fun v19 =>
  Ld w11 (Addr.add (adAt p0_5a x13 (6 : Nat)) (5 : Nat)) fun v20 => opI IntKind.u8 v15 fun x21 => opI IntKind.u64 v16 fun x22 => opI IntKind.u64 v17 fun x23 => opI
  IntKind.u64 v18 fun x24 => opI IntKind.u64 v19 fun x25 => opL v20 fun a26 n27 n28 => Rg w11 fun n29 => Up [n29] [n29, n1] w11 fun w30 => CallW Try.prog [n29, n1] (88 :
  Nat) #[Value.agg #[Value.int IntKind.u8 x21, Value.int IntKind.u64 x22, Value.int IntKind.u64 x23, Value.int IntKind.u64 x24, Value.int IntKind.u64 x25, Value.slice a26
  n27 n28]] (fun v31 w32 => opI IntKind.i64 v31 fun x33 => Bd (IntKind.wrap IntKind.i64 (x12 + x33)) fun x34 => Bd (IntKind.wrap IntKind.i64 (x13 + (1 : Int))) fun x35 =>
  J10 [Value.int IntKind.i64 x34, Value.int IntKind.i64 x35] [] w32) w30) (R (Value.int IntKind.i64 x12) w11)) [Value.int IntKind.i64 x5, Value.int IntKind.i64 (0 : Int)]
  [] w4) fun J36 => Jn (fun l37 l38 w39 => opB (nthD l37 (0 : Nat)) fun b40 => If b40 (Bd (IntKind.wrap IntKind.i64 ((0 : Int) + (1 : Int))) fun x41 => J36 [Value.int
  IntKind.i64 x41, Value.bool b40] [] w39) (Bd (p0_0 == (3 : Int)) fun b42 => If b42 (Bd ((p0_5n : Nat) : Int) fun x43 => Bd (IntKind.wrap IntKind.i64 (x43 - (1 : Int)))
  fun x44 => Bd (IntKind.wrap IntKind.i64 ((0 : Int) + x44)) fun x45 => J36 [Value.int IntKind.i64 x45, Value.bool b40] [] w39) (J36 [Value.int IntKind.i64 (0 : Int),
  Value.bool b40] [] w39))) fun J46 => Bd (p0_0 == (1 : Int)) fun b47 => If b47 (Up [] [n1] w fun w48 => J46 [Value.bool b47] [] w48) (Bd (p0_0 == (4 : Int)) fun b49 =>
  Up [] [n1] w fun w50 => J46 [Value.bool b49] [] w50)
theorem f88_eq (p0_0 : Int) (p0_1 : Int) (p0_2 : Int) (p0_3 : Int) (p0_4 : Int) (p0_5a : Option Addr) (p0_5n : Nat) (p0_5c : Nat) (R : Value → World → Prop) (w : World) :
  fnW Try.prog [1, 5] Try.f88 [Value.agg #[Value.int IntKind.u8 p0_0, Value.int IntKind.u64 p0_1, Value.int IntKind.u64 p0_2, Value.int IntKind.u64 p0_3, Value.int
  IntKind.u64 p0_4, Value.slice p0_5a p0_5n p0_5c]] R w = f88_vc p0_0 p0_1 p0_2 p0_3 p0_4 p0_5a p0_5n p0_5c R w := by kernel_rfl
theorem f88_in (p0_0 : Int) (p0_1 : Int) (p0_2 : Int) (p0_3 : Int) (p0_4 : Int) (p0_5a : Option Addr) (p0_5n : Nat) (p0_5c : Nat) (R : Value → World → Prop) (w : World)
  (h : f88_vc p0_0 p0_1 p0_2 p0_3 p0_4 p0_5a p0_5n p0_5c R w) : Ct Try.prog 88 #[Value.agg #[Value.int IntKind.u8 p0_0, Value.int IntKind.u64 p0_1, Value.int IntKind.u64
  p0_2, Value.int IntKind.u64 p0_3, Value.int IntKind.u64 p0_4, Value.slice p0_5a p0_5n p0_5c]] w R := by
  refine Ct_of (rk := [1, 5]) (fn := Try.f88) (args := [Value.agg #[Value.int IntKind.u8 p0_0, Value.int IntKind.u64 p0_1, Value.int IntKind.u64 p0_2, Value.int IntKind.u64 p0_3, Value.int IntKind.u64 p0_4, Value.slice p0_5a p0_5n p0_5c]]) mixedT Try.func88 (by kernel_rfl) ?_
  rw [f88_eq]
  exact h
def f16_vc (p0a : Option Addr) (p0n : Nat) (p0c : Nat) (p1 : Int) (R : Value → World → Prop) (w : World) : Prop := CallW Try.prog [] (83 : Nat) #[Value.slice p0a p0n p0c]
  (fun v1 w2 => opL v1 fun a3 n4 n5 => CallW Try.prog [] (38 : Nat) #[Value.slice a3 n4 n5] (fun v6 w7 => opB v6 fun b8 => Bd (!b8) fun b9 => Bd ((n4 : Nat) : Int) fun
  x10 => Bd (x10 == (0 : Int)) fun b11 => Bd (bif b9 then true else b11) fun b12 => If b12 (CallW Try.prog [] (77 : Nat) #[] (fun v13 w14 => opB v13 fun b15 => R
  (Value.bool b15) w14) w7) (Bd ((n4 : Nat) : Int) fun x16 => Bd (IntKind.wrap IntKind.i64 ((2 : Int) * x16)) fun x17 => Bd (IntKind.wrap IntKind.i64 (x17 - (1 : Int)))
  fun x18 => Bd ((n4 : Nat) : Int) fun x19 => LoopP (fun l20 l21 J22 w23 => opI IntKind.i64 (nthD l20 (0 : Nat)) fun x24 => opI IntKind.i64 (nthD l20 (1 : Nat)) fun x25
  => Bd (decide (x25 < x19)) fun b26 => If b26 (IxOk x25 n4 a3 ∧ Ld w23 (Addr.add (adAt a3 x25 (6 : Nat)) (0 : Nat)) fun v27 => Ld w23 (Addr.add (adAt a3 x25 (6 : Nat))
  (1 : Nat)) fun v28 => Ld w23 (Addr.add (adAt a3 x25 (6 : Nat)) (2 : Nat)) fun v29 => Ld w23 (Addr.add (adAt a3 x25 (6 : Nat)) (3 : Nat)) fun v30 => Ld w23 (Addr.add
  (adAt a3 x25 (6 : Nat)) (4 : Nat)) fun v31 => Ld w23 (Addr.add (adAt a3 x25 (6 : Nat)) (5 : Nat)) fun v32 => opI IntKind.u8 v27 fun x33 => opI IntKind.u64 v28 fun x34
  => opI IntKind.u64 v29 fun x35 => opI IntKind.u64 v30 fun x36 => opI IntKind.u64 v31 fun x37 => opL v32 fun a38 n39 n40 => Rg w23 fun n41 => Up [n41] [n41] w23 fun w42
  => CallW Try.prog [n41] (88 : Nat) #[Value.agg #[Value.int IntKind.u8 x33, Value.int IntKind.u64 x34, Value.int IntKind.u64 x35, Value.int IntKind.u64 x36, Value.int
  IntKind.u64 x37, Value.slice a38 n39 n40]] (fun v43 w44 => opI IntKind.i64 v43 fun x45 => Bd (IntKind.wrap IntKind.i64 (x24 + x45)) fun x46 => Bd (IntKind.wrap
  IntKind.i64 (x25 + (1 : Int))) fun x47 => J22 [Value.int IntKind.i64 x46, Value.int IntKind.i64 x47] [] w44) w42) (CallW Try.prog [] (66 : Nat) #[Value.slice a3 n4 n5,
  Value.int IntKind.i64 x24] (fun v48 w49 => opTu v48 fun cs50 => opAg (nthD (Array.toList cs50) (0 : Nat)) fun cs51 => opI IntKind.i64 (nthD (Array.toList cs51) (0 :
  Nat)) fun x52 => opL (nthD (Array.toList cs51) (1 : Nat)) fun a53 n54 n55 => SzIs (Array.size cs51) (2 : Nat) (opI IntKind.i64 (nthD (Array.toList cs50) (1 : Nat)) fun
  x56 => SzIs (Array.size cs50) (2 : Nat) (Rg w49 fun n57 => Bd (x56 != (0 : Int)) fun b58 => Bd ((n54 : Nat) : Int) fun x59 => Bd (x59 != x24) fun b60 => Bd (bif b58
  then true else b60) fun b61 => If b61 (Up [n57] [n57] w49 fun w62 => R (Value.bool false) w62) (Bd (IntKind.wrap IntKind.i64 (x24 - (1 : Int))) fun x63 => Bd
  (IntKind.wrap IntKind.i64 (x24 + (1 : Int))) fun x64 => Bd (IntKind.wrap IntKind.i64 p1) fun x65 => Bd (Int.tmod x65 (20000 : Int)) fun x66 => Bd (IntKind.wrap
  IntKind.i64 ((1 : Int) + x66)) fun x67 => Up [n57] [n57] w49 fun w68 => Nw (Obj.cells #[Value.int IntKind.i64 x63, Value.int IntKind.i64 x64, Value.int IntKind.i64 x67,
  Value.int IntKind.i64 (20000 : Int)] (3 : Nat)) w68 fun n69 w70 => Bd (((4 : Nat) : Nat) : Int) fun x71 => LoopP (fun l72 l73 J74 w75 => opB (nthD l72 (0 : Nat)) fun
  b76 => opI IntKind.i64 (nthD l72 (1 : Nat)) fun x77 => Bd (decide (x77 < x71)) fun b78 => If b78 (Jn (fun l79 l80 w81 => opB (nthD l79 (0 : Nat)) fun b82 => opI
  IntKind.i64 (nthD l79 (1 : Nat)) fun x83 => opI IntKind.i64 (nthD l79 (2 : Nat)) fun x84 => opB (nthD l79 (3 : Nat)) fun b85 => Bd (IntKind.wrap IntKind.i64 (x77 + (1 :
  Int))) fun x86 => J74 [Value.bool b82, Value.int IntKind.i64 x86] [] w81) fun J87 => IxOk x77 (4 : Nat) (some (Addr.mk n69 (0 : Nat) none)) ∧ Ld w75 (adAt (some
  (Addr.mk n69 (0 : Nat) none)) x77 (1 : Nat)) fun v88 => opI IntKind.i64 v88 fun x89 => CallW Try.prog [n57] (66 : Nat) #[Value.slice a3 n4 n5, Value.int IntKind.i64
  x89] (fun v90 w91 => opTu v90 fun cs92 => opAg (nthD (Array.toList cs92) (0 : Nat)) fun cs93 => opI IntKind.i64 (nthD (Array.toList cs93) (0 : Nat)) fun x94 => opL
  (nthD (Array.toList cs93) (1 : Nat)) fun a95 n96 n97 => SzIs (Array.size cs93) (2 : Nat) (opI IntKind.i64 (nthD (Array.toList cs92) (1 : Nat)) fun x98 => SzIs
  (Array.size cs92) (2 : Nat) (Rg w91 fun n99 => Bd (x89 == (0 : Int)) fun b100 => If b100 (Bd (x98 != (2 : Int)) fun b101 => If b101 (Up [n99] [n99, n57] w91 fun w102 =>
  R (Value.bool false) w102) (Up [n99] [n99, n57] w91 fun w103 => J87 [Value.bool b76, Value.int IntKind.i64 x89, Value.int IntKind.i64 x98, Value.bool b100] [] w103))
  (Bd (decide (x89 < x24)) fun b104 => If b104 (Bd (x98 != (40 : Int)) fun b105 => Bd ((n96 : Nat) : Int) fun x106 => Bd (x106 != (0 : Int)) fun b107 => Bd (bif b105 then
  true else b107) fun b108 => Bd (x94 != (0 : Int)) fun b109 => Bd (bif b108 then true else b109) fun b110 => If b110 (Up [n99] [n99, n57] w91 fun w111 => R (Value.bool
  false) w111) (Up [n99] [n99, n57] w91 fun w112 => J87 [Value.bool b76, Value.int IntKind.i64 x89, Value.int IntKind.i64 x98, Value.bool b100] [] w112)) (Bd (x98 != (0 :
  Int)) fun b113 => Up [n99] [n99, n57] w91 fun w114 => Gd (!b113) false (fun J115 => CallW Try.prog [n99, n57] (79 : Nat) #[Value.agg #[Value.int IntKind.i64 x94,
  Value.slice a95 n96 n97], Value.agg #[Value.int IntKind.i64 x52, Value.slice a53 n54 n55]] (fun v116 w117 => opB v116 fun b118 => J115 b118 w117) w114) (fun b119 w120
  => Bd (!b119) fun b121 => Bd (bif b113 then true else b121) fun b122 => If b122 (R (Value.bool false) w120) (J87 [Value.bool b76, Value.int IntKind.i64 x89, Value.int
  IntKind.i64 x98, Value.bool b100] [] w120)) w114))))) w75) (CallW Try.prog [n57] (77 : Nat) #[] (fun v123 w124 => opB v123 fun b125 => R (Value.bool b125) w124) w75))
  [Value.bool false, Value.int IntKind.i64 (0 : Int)] [] w70)))) w23)) [Value.int IntKind.i64 x18, Value.int IntKind.i64 (0 : Int)] [] w7)) w2) w
theorem f16_eq (p0a : Option Addr) (p0n : Nat) (p0c : Nat) (p1 : Int) (R : Value → World → Prop) (w : World) : fnW Try.prog [7, 8, 12] Try.f16 [Value.slice p0a p0n p0c,
  Value.int IntKind.u16 p1] R w = f16_vc p0a p0n p0c p1 R w := by kernel_rfl
theorem f16_in (p0a : Option Addr) (p0n : Nat) (p0c : Nat) (p1 : Int) (R : Value → World → Prop) (w : World) (h : f16_vc p0a p0n p0c p1 R w) : Ct Try.prog 16
  #[Value.slice p0a p0n p0c, Value.int IntKind.u16 p1] w R := by
  refine Ct_of (rk := [7, 8, 12]) (fn := Try.f16) (args := [Value.slice p0a p0n p0c, Value.int IntKind.u16 p1]) mixedT Try.func16 (by kernel_rfl) ?_
  rw [f16_eq]
  exact h
end Fk
