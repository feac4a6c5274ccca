/- Conditions of functions, as the generator works them out; each one is checked by the kernel. -/
import Derived.Test.YtpgjpgecgibklaaGK2
set_option linter.unusedVariables false
set_option maxRecDepth 1000000
set_option maxHeartbeats 4000000
namespace Fk
open Go Go.Proofs Go.RowKit
def f113_vc (p0 : Int) (R : Value → World → Prop) (w : World) : Prop := Rg w fun n1 => Bd (decide (p0 < (1 : Int))) fun b2 => Bd (decide (p0 > (65536 : Int))) fun b3 =>
  Bd (bif b2 then true else b3) fun b4 => If b4 (Up [n1] [n1] w fun w5 => R (Value.tuple #[Value.agg #[Value.slice none (0 : Nat) (0 : Nat), Value.slice none (0 : Nat) (0
  : Nat), Value.int IntKind.i64 (0 : Int)], Value.bool false]) w5) (Rg w fun n6 => Up [] [n6, n1] w fun w7 => LoopP (fun l8 l9 J10 w11 => opI IntKind.i64 (nthD l8 (0 :
  Nat)) fun x12 => opAg (nthD l9 (0 : Nat)) fun cs13 => opL (nthD (Array.toList cs13) (0 : Nat)) fun a14 n15 n16 => opL (nthD (Array.toList cs13) (1 : Nat)) fun a17 n18
  n19 => opI IntKind.i64 (nthD (Array.toList cs13) (2 : Nat)) fun x20 => SzIs (Array.size cs13) (3 : Nat) (Bd (decide (x12 < p0)) fun b21 => If b21 (RunW Try.prog [n6,
  n1] (Instr.makeSlice (51 : Nat) (Value.int IntKind.i64 (64 : Int)) (Value.int IntKind.i64 (64 : Int))) (fun v22 w23 => opL v22 fun a24 n25 n26 => RunW Try.prog [n6, n1]
  (convert (51 : Nat) (9 : Nat) (Value.slice a24 n25 n26)) (fun v27 w28 => opStr v27 fun s29 => Nw (Obj.cells #[Value.string s29] (9 : Nat)) w28 fun n30 w31 => RunW
  Try.prog [n6, n1] (Builtin.append_ #[(55 : Nat), (55 : Nat)] (55 : Nat) #[Value.slice a14 n15 n16, Value.slice (some (Addr.mk n30 (0 : Nat) none)) (1 : Nat) (1 : Nat)])
  (fun v32 w33 => opL v32 fun a34 n35 n36 => Up [n6] [n6, n1] w33 fun w37 => Bd (IntKind.wrap IntKind.i64 (x12 + (1 : Int))) fun x38 => J10 [Value.int IntKind.i64 x38]
  [Value.agg #[Value.slice a34 n35 n36, Value.slice a17 n18 n19, Value.int IntKind.i64 x20]] w37) w31) w23) (World.drew w11) ∧ RunW Try.prog [n6, n1] (Instr.makeSlice (51
  : Nat) (Value.int IntKind.i64 (64 : Int)) (Value.int IntKind.i64 (64 : Int))) (fun v39 w40 => opL v39 fun a41 n42 n43 => RunW Try.prog [n6, n1] (convert (51 : Nat) (9 :
  Nat) (Value.slice a41 n42 n43)) (fun v44 w45 => opStr v44 fun s46 => Nw (Obj.cells #[Value.string s46] (9 : Nat)) w45 fun n47 w48 => RunW Try.prog [n6, n1]
  (Builtin.append_ #[(55 : Nat), (55 : Nat)] (55 : Nat) #[Value.slice a14 n15 n16, Value.slice (some (Addr.mk n47 (0 : Nat) none)) (1 : Nat) (1 : Nat)]) (fun v49 w50 =>
  opL v49 fun a51 n52 n53 => Up [n6] [n6, n1] w50 fun w54 => Bd (IntKind.wrap IntKind.i64 (x12 + (1 : Int))) fun x55 => J10 [Value.int IntKind.i64 x55] [Value.agg
  #[Value.slice a51 n52 n53, Value.slice a17 n18 n19, Value.int IntKind.i64 x20]] w54) w48) w40 ∧ RunW Try.prog [n6, n1] (convert (51 : Nat) (9 : Nat) (Value.slice a41
  n42 n43)) (fun v56 w57 => opStr v56 fun s58 => (Nw (Obj.cells #[Value.string s58] (9 : Nat)) w57 fun n59 w60 => RunW Try.prog [n6, n1] (Builtin.append_ #[(55 : Nat),
  (55 : Nat)] (55 : Nat) #[Value.slice a14 n15 n16, Value.slice (some (Addr.mk n59 (0 : Nat) none)) (1 : Nat) (1 : Nat)]) (fun v61 w62 => opL v61 fun a63 n64 n65 => Up
  [n6] [n6, n1] w62 fun w66 => Bd (IntKind.wrap IntKind.i64 (x12 + (1 : Int))) fun x67 => J10 [Value.int IntKind.i64 x67] [Value.agg #[Value.slice a63 n64 n65,
  Value.slice a17 n18 n19, Value.int IntKind.i64 x20]] w66) w60) ∧ Nw (Obj.cells #[Value.string s58] (9 : Nat)) w57 fun n68 w69 => RunW Try.prog [n6, n1] (Builtin.append_
  #[(55 : Nat), (55 : Nat)] (55 : Nat) #[Value.slice a14 n15 n16, Value.slice (some (Addr.mk n68 (0 : Nat) none)) (1 : Nat) (1 : Nat)]) (fun v70 w71 => opL v70 fun a72
  n73 n74 => Up [n6] [n6, n1] w71 fun w75 => Bd (IntKind.wrap IntKind.i64 (x12 + (1 : Int))) fun x76 => J10 [Value.int IntKind.i64 x76] [Value.agg #[Value.slice a72 n73
  n74, Value.slice a17 n18 n19, Value.int IntKind.i64 x20]] w75) w69) w40) (World.drew w11)) (Up [n1] [n6, n1] w11 fun w77 => R (Value.tuple #[Value.agg #[Value.slice a14
  n15 n16, Value.slice a17 n18 n19, Value.int IntKind.i64 x20], Value.bool true]) w77))) [Value.int IntKind.i64 (0 : Int)] [Value.agg #[Value.slice none (0 : Nat) (0 :
  Nat), Value.slice none (0 : Nat) (0 : Nat), Value.int IntKind.i64 (0 : Int)]] w7)
theorem f113_eq (p0 : Int) (R : Value → World → Prop) (w : World) : fnW Try.prog [2, 4, 400007, 300007] Try.f113 [Value.int IntKind.i64 p0] R w = f113_vc p0 R w := by
  kernel_rfl
theorem f113_in (p0 : Int) (R : Value → World → Prop) (w : World) (h : f113_vc p0 R w) : Ct Try.prog 113 #[Value.int IntKind.i64 p0] w R := by
  refine Ct_of (rk := [2, 4, 400007, 300007]) (fn := Try.f113) (args := [Value.int IntKind.i64 p0]) mixedT Try.func113 (by kernel_rfl) ?_
  rw [f113_eq]
  exact h
def f194_vc (p0_0a : Option Addr) (p0_0n : Nat) (p0_0c : Nat) (p0_1a : Option Addr) (p0_1n : Nat) (p0_1c : Nat) (p0_2 : Int) (R : Value → World → Prop) (w : World) : Prop
  := Rg w fun n1 => Rg w fun n2 => Bd (p0_2 == (0 : Int)) fun b3 => If b3 (Up [n2] [n2, n1] w fun w4 => R (Value.tuple #[Value.agg #[Value.slice p0_0a p0_0n p0_0c,
  Value.slice p0_1a p0_1n p0_1c, Value.int IntKind.i64 p0_2], Value.bool true]) w4) (Bd (IntKind.wrap IntKind.i64 (p0_2 - (1 : Int))) fun x5 => Up [n1] [n2, n1] w fun w6
  => Bd (x5 != (0 : Int)) fun b7 => Up [n2] [n2, n1] (World.drew w6) fun w8 => R (Value.tuple #[Value.agg #[Value.slice p0_0a p0_0n p0_0c, Value.slice p0_1a p0_1n p0_1c,
  Value.int IntKind.i64 x5], Value.bool b7]) w8)
theorem f194_eq (p0_0a : Option Addr) (p0_0n : Nat) (p0_0c : Nat) (p0_1a : Option Addr) (p0_1n : Nat) (p0_1c : Nat) (p0_2 : Int) (R : Value → World → Prop) (w : World) :
  fnW Try.prog [1, 2, 400004] Try.f194 [Value.agg #[Value.slice p0_0a p0_0n p0_0c, Value.slice p0_1a p0_1n p0_1c, Value.int IntKind.i64 p0_2]] R w = f194_vc p0_0a p0_0n
  p0_0c p0_1a p0_1n p0_1c p0_2 R w := by kernel_rfl
theorem f194_in (p0_0a : Option Addr) (p0_0n : Nat) (p0_0c : Nat) (p0_1a : Option Addr) (p0_1n : Nat) (p0_1c : Nat) (p0_2 : Int) (R : Value → World → Prop) (w : World) (h
  : f194_vc p0_0a p0_0n p0_0c p0_1a p0_1n p0_1c p0_2 R w) : Ct Try.prog 194 #[Value.agg #[Value.slice p0_0a p0_0n p0_0c, Value.slice p0_1a p0_1n p0_1c, Value.int
  IntKind.i64 p0_2]] w R := by
  refine Ct_of (rk := [1, 2, 400004]) (fn := Try.f194) (args := [Value.agg #[Value.slice p0_0a p0_0n p0_0c, Value.slice p0_1a p0_1n p0_1c, Value.int IntKind.i64 p0_2]]) mixedT Try.func194 (by kernel_rfl) ?_
  rw [f194_eq]
  exact h
def f115_vc (p0_0a : Option Addr) (p0_0n : Nat) (p0_0c : Nat) (p0_1a : Option Addr) (p0_1n : Nat) (p0_1c : Nat) (p0_2 : Int) (p1 : Int) (p2a : Option Addr) (p2n : Nat)
  (p2c : Nat) (R : Value → World → Prop) (w : World) : Prop := Rg w fun n1 => Rg w fun n2 => Bd (decide (p1 < (0 : Int))) fun b3 => Bd ((p0_0n : Nat) : Int) fun x4 => Bd
  (decide (p1 ≥ x4)) fun b5 => Bd (bif b3 then true else b5) fun b6 => Bd ((p2n : Nat) : Int) fun x7 => Bd (x7 != (64 : Int)) fun b8 => Bd (bif b6 then true else b8) fun
  b9 => If b9 (Up [n2] [n2, n1] w fun w10 => R (Value.tuple #[Value.agg #[Value.slice p0_0a p0_0n p0_0c, Value.slice p0_1a p0_1n p0_1c, Value.int IntKind.i64 p0_2],
  Value.int IntKind.i64 (2 : Int)]) w10) (Up [] [n2, n1] w fun w11 => CallW Try.prog [n2, n1] (194 : Nat) #[Value.agg #[Value.slice p0_0a p0_0n p0_0c, Value.slice p0_1a
  p0_1n p0_1c, Value.int IntKind.i64 p0_2]] (fun v12 w13 => opTu v12 fun cs14 => opAg (nthD (Array.toList cs14) (0 : Nat)) fun cs15 => opL (nthD (Array.toList cs15) (0 :
  Nat)) fun a16 n17 n18 => opL (nthD (Array.toList cs15) (1 : Nat)) fun a19 n20 n21 => opI IntKind.i64 (nthD (Array.toList cs15) (2 : Nat)) fun x22 => SzIs (Array.size
  cs15) (3 : Nat) (opB (nthD (Array.toList cs14) (1 : Nat)) fun b23 => SzIs (Array.size cs14) (2 : Nat) (Rg w13 fun n24 => Bd (!b23) fun b25 => If b25 (Up [n2, n24] [n24,
  n2, n1] w13 fun w26 => R (Value.tuple #[Value.agg #[Value.slice a16 n17 n18, Value.slice a19 n20 n21, Value.int IntKind.i64 x22], Value.int IntKind.i64 (200 : Int)])
  w26) (Jn (fun l27 l28 w29 => opAg (nthD l28 (0 : Nat)) fun cs30 => opL (nthD (Array.toList cs30) (0 : Nat)) fun a31 n32 n33 => opL (nthD (Array.toList cs30) (1 : Nat))
  fun a34 n35 n36 => opI IntKind.i64 (nthD (Array.toList cs30) (2 : Nat)) fun x37 => SzIs (Array.size cs30) (3 : Nat) (Up [n2] [n24, n2, n1] w29 fun w38 => R (Value.tuple
  #[Value.agg #[Value.slice a31 n32 n33, Value.slice a34 n35 n36, Value.int IntKind.i64 x37], Value.int IntKind.i64 (0 : Int)]) w38)) fun J39 => Up [n24] [n24, n2, n1]
  w13 fun w40 => Dr (World.drew w40) fun J41 => ∃ v42, (∀ (w43 : World), J41 w43 → RunV Try.prog (convert (51 : Nat) (9 : Nat) (Value.slice p2a p2n p2c)) v42 w43) ∧ opStr
  v42 fun s45 => (Nw (Obj.cells #[] (257 : Nat)) (World.drew w40) fun n46 w47 => J41 w47 ∧ RunW Try.prog [n24, n2, n1] (Builtin.append_ #[(137 : Nat), (137 : Nat)] (137 :
  Nat) #[Value.slice (some (Addr.mk n46 (0 : Nat) none)) (0 : Nat) (0 : Nat), Value.slice p0_1a p0_1n p0_1c]) (fun v48 w49 => opL v48 fun a50 n51 n52 => J41 w49 ∧ Nw
  (Obj.cells #[Value.int IntKind.i64 p1, Value.string s45] (257 : Nat)) w49 fun n53 w54 => J41 w54 ∧ RunW Try.prog [n24, n2, n1] (Builtin.append_ #[(137 : Nat), (137 :
  Nat)] (137 : Nat) #[Value.slice a50 n51 n52, Value.slice (some (Addr.mk n53 (0 : Nat) none)) (1 : Nat) (1 : Nat)]) (fun v55 w56 => opL v55 fun a57 n58 n59 => J41 w56 ∧
  Up [n24] [n24, n2, n1] w56 fun w60 => J41 w60 ∧ J39 [] [Value.agg #[Value.slice a16 n17 n18, Value.slice a57 n58 n59, Value.int IntKind.i64 x22]] w60) w54) w47 ∧ Nw
  (Obj.cells #[Value.int IntKind.i64 p1, Value.string s45] (257 : Nat)) w47 fun n61 w62 => J41 w62 ∧ RunW Try.prog [n24, n2, n1] (Builtin.append_ #[(137 : Nat), (137 :
  Nat)] (137 : Nat) #[Value.slice (some (Addr.mk n46 (0 : Nat) none)) (0 : Nat) (0 : Nat), Value.slice p0_1a p0_1n p0_1c]) (fun v63 w64 => opL v63 fun a65 n66 n67 => J41
  w64 ∧ RunW Try.prog [n24, n2, n1] (Builtin.append_ #[(137 : Nat), (137 : Nat)] (137 : Nat) #[Value.slice a65 n66 n67, Value.slice (some (Addr.mk n61 (0 : Nat) none)) (1
  : Nat) (1 : Nat)]) (fun v68 w69 => opL v68 fun a70 n71 n72 => J41 w69 ∧ Up [n24] [n24, n2, n1] w69 fun w73 => J41 w73 ∧ J39 [] [Value.agg #[Value.slice a16 n17 n18,
  Value.slice a70 n71 n72, Value.int IntKind.i64 x22]] w73) w64) w62) ∧ Nw (Obj.cells #[Value.int IntKind.i64 p1, Value.string s45] (257 : Nat)) (World.drew w40) fun n74
  w75 => J41 w75 ∧ Nw (Obj.cells #[] (257 : Nat)) w75 fun n76 w77 => J41 w77 ∧ RunW Try.prog [n24, n2, n1] (Builtin.append_ #[(137 : Nat), (137 : Nat)] (137 : Nat)
  #[Value.slice (some (Addr.mk n76 (0 : Nat) none)) (0 : Nat) (0 : Nat), Value.slice p0_1a p0_1n p0_1c]) (fun v78 w79 => opL v78 fun a80 n81 n82 => J41 w79 ∧ RunW
  Try.prog [n24, n2, n1] (Builtin.append_ #[(137 : Nat), (137 : Nat)] (137 : Nat) #[Value.slice a80 n81 n82, Value.slice (some (Addr.mk n74 (0 : Nat) none)) (1 : Nat) (1
  : Nat)]) (fun v83 w84 => opL v83 fun a85 n86 n87 => J41 w84 ∧ Up [n24] [n24, n2, n1] w84 fun w88 => J41 w88 ∧ J39 [] [Value.agg #[Value.slice a16 n17 n18, Value.slice
  a85 n86 n87, Value.int IntKind.i64 x22]] w88) w79) w77)))) w11)
theorem f115_eq (p0_0a : Option Addr) (p0_0n : Nat) (p0_0c : Nat) (p0_1a : Option Addr) (p0_1n : Nat) (p0_1c : Nat) (p0_2 : Int) (p1 : Int) (p2a : Option Addr) (p2n :
  Nat) (p2c : Nat) (R : Value → World → Prop) (w : World) : fnW Try.prog [3, 6, 8, 100006] Try.f115 [Value.agg #[Value.slice p0_0a p0_0n p0_0c, Value.slice p0_1a p0_1n
  p0_1c, Value.int IntKind.i64 p0_2], Value.int IntKind.i64 p1, Value.slice p2a p2n p2c] R w = f115_vc p0_0a p0_0n p0_0c p0_1a p0_1n p0_1c p0_2 p1 p2a p2n p2c R w := by
  kernel_rfl
theorem f115_in (p0_0a : Option Addr) (p0_0n : Nat) (p0_0c : Nat) (p0_1a : Option Addr) (p0_1n : Nat) (p0_1c : Nat) (p0_2 : Int) (p1 : Int) (p2a : Option Addr) (p2n :
  Nat) (p2c : Nat) (R : Value → World → Prop) (w : World) (h : f115_vc p0_0a p0_0n p0_0c p0_1a p0_1n p0_1c p0_2 p1 p2a p2n p2c R w) : Ct Try.prog 115 #[Value.agg
  #[Value.slice p0_0a p0_0n p0_0c, Value.slice p0_1a p0_1n p0_1c, Value.int IntKind.i64 p0_2], Value.int IntKind.i64 p1, Value.slice p2a p2n p2c] w R := by
  refine Ct_of (rk := [3, 6, 8, 100006]) (fn := Try.f115) (args := [Value.agg #[Value.slice p0_0a p0_0n p0_0c, Value.slice p0_1a p0_1n p0_1c, Value.int IntKind.i64 p0_2], Value.int IntKind.i64 p1, Value.slice p2a p2n p2c]) mixedT Try.func115 (by kernel_rfl) ?_
  rw [f115_eq]
  exact h
def f195_vc (p0_0a : Option Addr) (p0_0n : Nat) (p0_0c : Nat) (p0_1a : Option Addr) (p0_1n : Nat) (p0_1c : Nat) (p0_2 : Int) (p1a : Option Addr) (p1n : Nat) (p1c : Nat)
  (R : Value → World → Prop) (w : World) : Prop := Rg w fun n1 => Rg w fun n2 => Up [] [n2, n1] w fun w3 => Nw (Obj.cells #[] (9 : Nat)) w3 fun n4 w5 => RunW Try.prog
  [n2, n1] (Builtin.append_ #[(55 : Nat), (55 : Nat)] (55 : Nat) #[Value.slice (some (Addr.mk n4 (0 : Nat) none)) (0 : Nat) (0 : Nat), Value.slice p0_0a p0_0n p0_0c])
  (fun v6 w7 => opL v6 fun a8 n9 n10 => LoopP (fun l11 l12 J13 w14 => opI IntKind.i64 (nthD l11 (0 : Nat)) fun x15 => Bd ((p1n : Nat) : Int) fun x16 => Bd (decide (x15 <
  x16)) fun b17 => If b17 (IxOk x15 p1n p1a ∧ IxOk x15 p1n p1a ∧ (Ld (World.drew w14) (Addr.add (adAt p1a x15 (2 : Nat)) (0 : Nat)) fun v18 => opI IntKind.i64 v18 fun x19
  => Ld (World.drew w14) (Addr.add (adAt p1a x15 (2 : Nat)) (1 : Nat)) fun v20 => opStr v20 fun s21 => IxOk x19 n9 a8 ∧ ¬Addr.block (adAt a8 x19 (1 : Nat)) ∈ [n2, n1] ∧
  Wr (World.drew w14) (adAt a8 x19 (1 : Nat)) (1 : Nat) ∧ Bd (IntKind.wrap IntKind.i64 (x15 + (1 : Int))) fun x22 => J13 [Value.int IntKind.i64 x22] [] (setCells
  (World.drew w14) (adAt a8 x19 (1 : Nat)) (0 : Nat) [Value.string s21])) ∧ Ld (World.drew w14) (Addr.add (adAt p1a x15 (2 : Nat)) (1 : Nat)) fun v23 => opStr v23 fun s24
  => Ld (World.drew w14) (Addr.add (adAt p1a x15 (2 : Nat)) (0 : Nat)) fun v25 => opI IntKind.i64 v25 fun x26 => IxOk x26 n9 a8 ∧ ¬Addr.block (adAt a8 x26 (1 : Nat)) ∈
  [n2, n1] ∧ Wr (World.drew w14) (adAt a8 x26 (1 : Nat)) (1 : Nat) ∧ Bd (IntKind.wrap IntKind.i64 (x15 + (1 : Int))) fun x27 => J13 [Value.int IntKind.i64 x27] []
  (setCells (World.drew w14) (adAt a8 x26 (1 : Nat)) (0 : Nat) [Value.string s24])) (Up [n2, n1, n1] [n2, n1] w14 fun w28 => R (Value.agg #[Value.slice a8 n9 n10,
  Value.slice none (0 : Nat) (0 : Nat), Value.int IntKind.i64 p0_2]) w28)) [Value.int IntKind.i64 (0 : Int)] [] w7) w5
theorem f195_eq (p0_0a : Option Addr) (p0_0n : Nat) (p0_0c : Nat) (p0_1a : Option Addr) (p0_1n : Nat) (p0_1c : Nat) (p0_2 : Int) (p1a : Option Addr) (p1n : Nat) (p1c :
  Nat) (R : Value → World → Prop) (w : World) : fnW Try.prog [2, 4, 400005] Try.f195 [Value.agg #[Value.slice p0_0a p0_0n p0_0c, Value.slice p0_1a p0_1n p0_1c, Value.int
  IntKind.i64 p0_2], Value.slice p1a p1n p1c] R w = f195_vc p0_0a p0_0n p0_0c p0_1a p0_1n p0_1c p0_2 p1a p1n p1c R w := by kernel_rfl
theorem f195_in (p0_0a : Option Addr) (p0_0n : Nat) (p0_0c : Nat) (p0_1a : Option Addr) (p0_1n : Nat) (p0_1c : Nat) (p0_2 : Int) (p1a : Option Addr) (p1n : Nat) (p1c :
  Nat) (R : Value → World → Prop) (w : World) (h : f195_vc p0_0a p0_0n p0_0c p0_1a p0_1n p0_1c p0_2 p1a p1n p1c R w) : Ct Try.prog 195 #[Value.agg #[Value.slice p0_0a
  p0_0n p0_0c, Value.slice p0_1a p0_1n p0_1c, Value.int IntKind.i64 p0_2], Value.slice p1a p1n p1c] w R := by
  refine Ct_of (rk := [2, 4, 400005]) (fn := Try.f195) (args := [Value.agg #[Value.slice p0_0a p0_0n p0_0c, Value.slice p0_1a p0_1n p0_1c, Value.int IntKind.i64 p0_2], Value.slice p1a p1n p1c]) mixedT Try.func195 (by kernel_rfl) ?_
  rw [f195_eq]
  exact h
def f116_vc (p0_0a : Option Addr) (p0_0n : Nat) (p0_0c : Nat) (p0_1a : Option Addr) (p0_1n : Nat) (p0_1c : Nat) (p0_2 : Int) (R : Value → World → Prop) (w : World) : Prop
  := Rg w fun n1 => Rg w fun n2 => Up [] [n2, n1] w fun w3 => CallW Try.prog [n2, n1] (194 : Nat) #[Value.agg #[Value.slice p0_0a p0_0n p0_0c, Value.slice p0_1a p0_1n
  p0_1c, Value.int IntKind.i64 p0_2]] (fun v4 w5 => opTu v4 fun cs6 => opAg (nthD (Array.toList cs6) (0 : Nat)) fun cs7 => opL (nthD (Array.toList cs7) (0 : Nat)) fun a8
  n9 n10 => opL (nthD (Array.toList cs7) (1 : Nat)) fun a11 n12 n13 => opI IntKind.i64 (nthD (Array.toList cs7) (2 : Nat)) fun x14 => SzIs (Array.size cs7) (3 : Nat) (opB
  (nthD (Array.toList cs6) (1 : Nat)) fun b15 => SzIs (Array.size cs6) (2 : Nat) (Rg w5 fun n16 => Bd (!b15) fun b17 => If b17 (Up [n2, n16] [n16, n2, n1] w5 fun w18 => R
  (Value.tuple #[Value.agg #[Value.slice a8 n9 n10, Value.slice a11 n12 n13, Value.int IntKind.i64 x14], Value.int IntKind.i64 (200 : Int)]) w18) (Up [n16] [n16, n2, n1]
  w5 fun w19 => CallW Try.prog [n16, n2, n1] (195 : Nat) #[Value.agg #[Value.slice a8 n9 n10, Value.slice a11 n12 n13, Value.int IntKind.i64 x14], Value.slice a11 n12
  n13] (fun v20 w21 => opAg v20 fun cs22 => opL (nthD (Array.toList cs22) (0 : Nat)) fun a23 n24 n25 => opL (nthD (Array.toList cs22) (1 : Nat)) fun a26 n27 n28 => opI
  IntKind.i64 (nthD (Array.toList cs22) (2 : Nat)) fun x29 => SzIs (Array.size cs22) (3 : Nat) (Up [n2] [n16, n2, n1] w21 fun w30 => R (Value.tuple #[Value.agg
  #[Value.slice a23 n24 n25, Value.slice a26 n27 n28, Value.int IntKind.i64 x29], Value.int IntKind.i64 (0 : Int)]) w30)) w19)))) w3
theorem f116_eq (p0_0a : Option Addr) (p0_0n : Nat) (p0_0c : Nat) (p0_1a : Option Addr) (p0_1n : Nat) (p0_1c : Nat) (p0_2 : Int) (R : Value → World → Prop) (w : World) :
  fnW Try.prog [1, 2, 4] Try.f116 [Value.agg #[Value.slice p0_0a p0_0n p0_0c, Value.slice p0_1a p0_1n p0_1c, Value.int IntKind.i64 p0_2]] R w = f116_vc p0_0a p0_0n p0_0c
  p0_1a p0_1n p0_1c p0_2 R w := by kernel_rfl
theorem f116_in (p0_0a : Option Addr) (p0_0n : Nat) (p0_0c : Nat) (p0_1a : Option Addr) (p0_1n : Nat) (p0_1c : Nat) (p0_2 : Int) (R : Value → World → Prop) (w : World) (h
  : f116_vc p0_0a p0_0n p0_0c p0_1a p0_1n p0_1c p0_2 R w) : Ct Try.prog 116 #[Value.agg #[Value.slice p0_0a p0_0n p0_0c, Value.slice p0_1a p0_1n p0_1c, Value.int
  IntKind.i64 p0_2]] w R := by
  refine Ct_of (rk := [1, 2, 4]) (fn := Try.f116) (args := [Value.agg #[Value.slice p0_0a p0_0n p0_0c, Value.slice p0_1a p0_1n p0_1c, Value.int IntKind.i64 p0_2]]) mixedT Try.func116 (by kernel_rfl) ?_
  rw [f116_eq]
  exact h
def f117_vc (p0_0a : Option Addr) (p0_0n : Nat) (p0_0c : Nat) (p0_1a : Option Addr) (p0_1n : Nat) (p0_1c : Nat) (p0_2 : Int) (p1 : Int) (R : Value → World → Prop) (w :
  World) : Prop := Rg w fun n1 => Rg w fun n2 => Jn (fun l3 l4 w5 => opI IntKind.i64 (nthD l3 (0 : Nat)) fun x6 => Up [n2, n1] [n2, n1] w5 fun w7 => R (Value.agg
  #[Value.slice p0_0a p0_0n p0_0c, Value.slice p0_1a p0_1n p0_1c, Value.int IntKind.i64 x6]) w7) fun J8 => Bd (decide (p1 < (1 : Int))) fun b9 => If b9 (Up [] [n2, n1] w
  fun w10 => J8 [Value.int IntKind.i64 (0 : Int)] [] w10) (Up [] [n2, n1] w fun w11 => J8 [Value.int IntKind.i64 p1] [] w11)
theorem f117_eq (p0_0a : Option Addr) (p0_0n : Nat) (p0_0c : Nat) (p0_1a : Option Addr) (p0_1n : Nat) (p0_1c : Nat) (p0_2 : Int) (p1 : Int) (R : Value → World → Prop) (w
  : World) : fnW Try.prog [2, 4] Try.f117 [Value.agg #[Value.slice p0_0a p0_0n p0_0c, Value.slice p0_1a p0_1n p0_1c, Value.int IntKind.i64 p0_2], Value.int IntKind.i64
  p1] R w = f117_vc p0_0a p0_0n p0_0c p0_1a p0_1n p0_1c p0_2 p1 R w := by kernel_rfl
theorem f117_in (p0_0a : Option Addr) (p0_0n : Nat) (p0_0c : Nat) (p0_1a : Option Addr) (p0_1n : Nat) (p0_1c : Nat) (p0_2 : Int) (p1 : Int) (R : Value → World → Prop) (w
  : World) (h : f117_vc p0_0a p0_0n p0_0c p0_1a p0_1n p0_1c p0_2 p1 R w) : Ct Try.prog 117 #[Value.agg #[Value.slice p0_0a p0_0n p0_0c, Value.slice p0_1a p0_1n p0_1c,
  Value.int IntKind.i64 p0_2], Value.int IntKind.i64 p1] w R := by
  refine Ct_of (rk := [2, 4]) (fn := Try.f117) (args := [Value.agg #[Value.slice p0_0a p0_0n p0_0c, Value.slice p0_1a p0_1n p0_1c, Value.int IntKind.i64 p0_2], Value.int IntKind.i64 p1]) mixedT Try.func117 (by kernel_rfl) ?_
  rw [f117_eq]
  exact h
def f118_vc (p0_0a : Option Addr) (p0_0n : Nat) (p0_0c : Nat) (p0_1a : Option Addr) (p0_1n : Nat) (p0_1c : Nat) (p0_2 : Int) (p1 : Int) (p2 : Int) (R : Value → World →
  Prop) (w : World) : Prop := Rg w fun n1 => Rg w fun n2 => Jn (fun l3 l4 w5 => opI IntKind.i64 (nthD l3 (0 : Nat)) fun x6 => Jn (fun l7 l8 w9 => opI IntKind.i64 (nthD l7
  (0 : Nat)) fun x10 => Jn (fun l11 l12 w13 => opI IntKind.i64 (nthD l11 (0 : Nat)) fun x14 => Jn (fun l15 l16 w17 => opI IntKind.i64 (nthD l15 (0 : Nat)) fun x18 => RunW
  Try.prog [n2, n1] (Instr.sliceAt (137 : Nat) (Value.slice p0_1a p0_1n p0_1c) (some (Value.int IntKind.i64 x10)) none none) (fun v19 w20 => opL v19 fun a21 n22 n23 => ∃
  v24, (∀ (w25 : World), True → RunV Try.prog (Instr.sliceAt (137 : Nat) (Value.slice p0_1a p0_1n p0_1c) none (some (Value.int IntKind.i64 x10)) none) v24 w25) ∧ opL v24
  fun a27 n28 n29 => CallW Try.prog [n2, n1] (195 : Nat) #[Value.agg #[Value.slice p0_0a p0_0n p0_0c, Value.slice p0_1a p0_1n p0_1c, Value.int IntKind.i64 p0_2],
  Value.slice a27 n28 n29] (fun v30 w31 => opAg v30 fun cs32 => opL (nthD (Array.toList cs32) (0 : Nat)) fun a33 n34 n35 => opL (nthD (Array.toList cs32) (1 : Nat)) fun
  a36 n37 n38 => opI IntKind.i64 (nthD (Array.toList cs32) (2 : Nat)) fun x39 => SzIs (Array.size cs32) (3 : Nat) (Rg w31 fun n40 => Up [] [n40, n2, n1] w31 fun w41 => Up
  [n40] [n40, n2, n1] w41 fun w42 => Jn (fun l43 l44 w45 => opAg (nthD l44 (0 : Nat)) fun cs46 => opL (nthD (Array.toList cs46) (0 : Nat)) fun a47 n48 n49 => opL (nthD
  (Array.toList cs46) (1 : Nat)) fun a50 n51 n52 => opI IntKind.i64 (nthD (Array.toList cs46) (2 : Nat)) fun x53 => SzIs (Array.size cs46) (3 : Nat) (Up [n2, n40] [n40,
  n2, n1] w45 fun w54 => R (Value.agg #[Value.slice a47 n48 n49, Value.slice a50 n51 n52, Value.int IntKind.i64 (0 : Int)]) w54)) fun J55 => Bd ((n22 : Nat) : Int) fun
  x56 => Bd (decide (x56 > (0 : Int))) fun b57 => If b57 (IxOk (0 : Int) n22 a21 ∧ Ld w42 (Addr.add (adAt a21 (0 : Int) (2 : Nat)) (0 : Nat)) fun v58 => opI IntKind.i64
  v58 fun x59 => Dr (World.drew w42) fun J60 => IxOk (0 : Int) n22 a21 ∧ ∃ v61, (∀ (w62 : World), J60 w62 → Ld w62 (Addr.add (adAt a21 (0 : Int) (2 : Nat)) (1 : Nat)) fun
  v64 => v64 = v61) ∧ opStr v61 fun s65 => ∃ v66, (∀ (w67 : World), J60 w67 → RunV Try.prog (Instr.sliceAt (9 : Nat) (Value.string s65) none (some (Value.int IntKind.i64
  x18)) none) v66 w67) ∧ opStr v66 fun s69 => (J60 (World.drew w42) ∧ J60 (World.drew w42) ∧ IxOk x59 n34 a33 ∧ ∃ v70, (∀ (w71 : World), J60 w71 → Ld w71 (adAt a33 x59 (1
  : Nat)) fun v73 => v73 = v70) ∧ opStr v70 fun s74 => ∃ v75, (∀ (w76 : World), J60 w76 → RunV Try.prog (Instr.sliceAt (9 : Nat) (Value.string s74) (some (Value.int
  IntKind.i64 x18)) none none) v75 w76) ∧ opStr v75 fun s78 => ∃ v79, (∀ (w80 : World), J60 w80 → RunV Try.prog (eqS BinOp.add (9 : Nat) (Operand.tmp (48 : Nat))
  (Operand.tmp (55 : Nat)) (Value.string s69) (Value.string s78)) v79 w80) ∧ opStr v79 fun s82 => Nw (Obj.cells #[Value.int IntKind.i64 x59, Value.string s82] (257 :
  Nat)) (World.drew w42) fun n83 w84 => J60 w84 ∧ CallW Try.prog [n40, n2, n1] (195 : Nat) #[Value.agg #[Value.slice a33 n34 n35, Value.slice a36 n37 n38, Value.int
  IntKind.i64 x39], Value.slice (some (Addr.mk n83 (0 : Nat) none)) (1 : Nat) (1 : Nat)] (fun v85 w86 => opAg v85 fun cs87 => opL (nthD (Array.toList cs87) (0 : Nat)) fun
  a88 n89 n90 => opL (nthD (Array.toList cs87) (1 : Nat)) fun a91 n92 n93 => opI IntKind.i64 (nthD (Array.toList cs87) (2 : Nat)) fun x94 => SzIs (Array.size cs87) (3 :
  Nat) (J60 w86 ∧ Up [n40] [n40, n2, n1] w86 fun w95 => J60 w95 ∧ J55 [] [Value.agg #[Value.slice a88 n89 n90, Value.slice a91 n92 n93, Value.int IntKind.i64 x94]] w95))
  w84) ∧ J60 (World.drew w42) ∧ IxOk x59 n34 a33 ∧ ∃ v96, (∀ (w97 : World), J60 w97 → Ld w97 (adAt a33 x59 (1 : Nat)) fun v99 => v99 = v96) ∧ opStr v96 fun s100 => ∃
  v101, (∀ (w102 : World), J60 w102 → RunV Try.prog (Instr.sliceAt (9 : Nat) (Value.string s100) (some (Value.int IntKind.i64 x18)) none none) v101 w102) ∧ opStr v101 fun
  s104 => ∃ v105, (∀ (w106 : World), J60 w106 → RunV Try.prog (eqS BinOp.add (9 : Nat) (Operand.tmp (48 : Nat)) (Operand.tmp (55 : Nat)) (Value.string s69) (Value.string
  s104)) v105 w106) ∧ opStr v105 fun s108 => (J60 (World.drew w42) ∧ Nw (Obj.cells #[Value.int IntKind.i64 x59, Value.string s108] (257 : Nat)) (World.drew w42) fun n109
  w110 => J60 w110 ∧ CallW Try.prog [n40, n2, n1] (195 : Nat) #[Value.agg #[Value.slice a33 n34 n35, Value.slice a36 n37 n38, Value.int IntKind.i64 x39], Value.slice
  (some (Addr.mk n109 (0 : Nat) none)) (1 : Nat) (1 : Nat)] (fun v111 w112 => opAg v111 fun cs113 => opL (nthD (Array.toList cs113) (0 : Nat)) fun a114 n115 n116 => opL
  (nthD (Array.toList cs113) (1 : Nat)) fun a117 n118 n119 => opI IntKind.i64 (nthD (Array.toList cs113) (2 : Nat)) fun x120 => SzIs (Array.size cs113) (3 : Nat) (J60
  w112 ∧ Up [n40] [n40, n2, n1] w112 fun w121 => J60 w121 ∧ J55 [] [Value.agg #[Value.slice a114 n115 n116, Value.slice a117 n118 n119, Value.int IntKind.i64 x120]]
  w121)) w110) ∧ Nw (Obj.cells #[Value.int IntKind.i64 x59, Value.string s108] (257 : Nat)) (World.drew w42) fun n122 w123 => J60 w123 ∧ J60 w123 ∧ CallW Try.prog [n40,
  n2, n1] (195 : Nat) #[Value.agg #[Value.slice a33 n34 n35, Value.slice a36 n37 n38, Value.int IntKind.i64 x39], Value.slice (some (Addr.mk n122 (0 : Nat) none)) (1 :
  Nat) (1 : Nat)] (fun v124 w125 => opAg v124 fun cs126 => opL (nthD (Array.toList cs126) (0 : Nat)) fun a127 n128 n129 => opL (nthD (Array.toList cs126) (1 : Nat)) fun
  a130 n131 n132 => opI IntKind.i64 (nthD (Array.toList cs126) (2 : Nat)) fun x133 => SzIs (Array.size cs126) (3 : Nat) (J60 w125 ∧ Up [n40] [n40, n2, n1] w125 fun w134
  => J60 w134 ∧ J55 [] [Value.agg #[Value.slice a127 n128 n129, Value.slice a130 n131 n132, Value.int IntKind.i64 x133]] w134)) w123) (J55 [] [Value.agg #[Value.slice a33
  n34 n35, Value.slice a36 n37 n38, Value.int IntKind.i64 x39]] w42))) (World.drew w20) ∧ Rg (World.drew w20) fun n135 => Up [] [n135, n2, n1] (World.drew w20) fun w136
  => CallW Try.prog [n135, n2, n1] (195 : Nat) #[Value.agg #[Value.slice p0_0a p0_0n p0_0c, Value.slice p0_1a p0_1n p0_1c, Value.int IntKind.i64 p0_2], Value.slice a27
  n28 n29] (fun v137 w138 => opAg v137 fun cs139 => opL (nthD (Array.toList cs139) (0 : Nat)) fun a140 n141 n142 => opL (nthD (Array.toList cs139) (1 : Nat)) fun a143
  n144 n145 => opI IntKind.i64 (nthD (Array.toList cs139) (2 : Nat)) fun x146 => SzIs (Array.size cs139) (3 : Nat) (Up [n135] [n135, n2, n1] w138 fun w147 => Jn (fun l148
  l149 w150 => opAg (nthD l149 (0 : Nat)) fun cs151 => opL (nthD (Array.toList cs151) (0 : Nat)) fun a152 n153 n154 => opL (nthD (Array.toList cs151) (1 : Nat)) fun a155
  n156 n157 => opI IntKind.i64 (nthD (Array.toList cs151) (2 : Nat)) fun x158 => SzIs (Array.size cs151) (3 : Nat) (Up [n2, n135] [n135, n2, n1] w150 fun w159 => R
  (Value.agg #[Value.slice a152 n153 n154, Value.slice a155 n156 n157, Value.int IntKind.i64 (0 : Int)]) w159)) fun J160 => Bd ((n22 : Nat) : Int) fun x161 => Bd (decide
  (x161 > (0 : Int))) fun b162 => If b162 (IxOk (0 : Int) n22 a21 ∧ Ld w147 (Addr.add (adAt a21 (0 : Int) (2 : Nat)) (0 : Nat)) fun v163 => opI IntKind.i64 v163 fun x164
  => Dr (World.drew w147) fun J165 => IxOk (0 : Int) n22 a21 ∧ ∃ v166, (∀ (w167 : World), J165 w167 → Ld w167 (Addr.add (adAt a21 (0 : Int) (2 : Nat)) (1 : Nat)) fun v169
  => v169 = v166) ∧ opStr v166 fun s170 => ∃ v171, (∀ (w172 : World), J165 w172 → RunV Try.prog (Instr.sliceAt (9 : Nat) (Value.string s170) none (some (Value.int
  IntKind.i64 x18)) none) v171 w172) ∧ opStr v171 fun s174 => (J165 (World.drew w147) ∧ J165 (World.drew w147) ∧ IxOk x164 n141 a140 ∧ ∃ v175, (∀ (w176 : World), J165
  w176 → Ld w176 (adAt a140 x164 (1 : Nat)) fun v178 => v178 = v175) ∧ opStr v175 fun s179 => ∃ v180, (∀ (w181 : World), J165 w181 → RunV Try.prog (Instr.sliceAt (9 :
  Nat) (Value.string s179) (some (Value.int IntKind.i64 x18)) none none) v180 w181) ∧ opStr v180 fun s183 => ∃ v184, (∀ (w185 : World), J165 w185 → RunV Try.prog (eqS
  BinOp.add (9 : Nat) (Operand.tmp (48 : Nat)) (Operand.tmp (55 : Nat)) (Value.string s174) (Value.string s183)) v184 w185) ∧ opStr v184 fun s187 => Nw (Obj.cells
  #[Value.int IntKind.i64 x164, Value.string s187] (257 : Nat)) (World.drew w147) fun n188 w189 => J165 w189 ∧ CallW Try.prog [n135, n2, n1] (195 : Nat) #[Value.agg
  #[Value.slice a140 n141 n142, Value.slice a143 n144 n145, Value.int IntKind.i64 x146], Value.slice (some (Addr.mk n188 (0 : Nat) none)) (1 : Nat) (1 : Nat)] (fun v190
  w191 => opAg v190 fun cs192 => opL (nthD (Array.toList cs192) (0 : Nat)) fun a193 n194 n195 => opL (nthD (Array.toList cs192) (1 : Nat)) fun a196 n197 n198 => opI
  IntKind.i64 (nthD (Array.toList cs192) (2 : Nat)) fun x199 => SzIs (Array.size cs192) (3 : Nat) (J165 w191 ∧ Up [n135] [n135, n2, n1] w191 fun w200 => J165 w200 ∧ J160
  [] [Value.agg #[Value.slice a193 n194 n195, Value.slice a196 n197 n198, Value.int IntKind.i64 x199]] w200)) w189) ∧ J165 (World.drew w147) ∧ IxOk x164 n141 a140 ∧ ∃
  v201, (∀ (w202 : World), J165 w202 → Ld w202 (adAt a140 x164 (1 : Nat)) fun v204 => v204 = v201) ∧ opStr v201 fun s205 => ∃ v206, (∀ (w207 : World), J165 w207 → RunV
  Try.prog (Instr.sliceAt (9 : Nat) (Value.string s205) (some (Value.int IntKind.i64 x18)) none none) v206 w207) ∧ opStr v206 fun s209 => ∃ v210, (∀ (w211 : World), J165
  w211 → RunV Try.prog (eqS BinOp.add (9 : Nat) (Operand.tmp (48 : Nat)) (Operand.tmp (55 : Nat)) (Value.string s174) (Value.string s209)) v210 w211) ∧ opStr v210 fun
  s213 => (J165 (World.drew w147) ∧ Nw (Obj.cells #[Value.int IntKind.i64 x164, Value.string s213] (257 : Nat)) (World.drew w147) fun n214 w215 => J165 w215 ∧ CallW
  Try.prog [n135, n2, n1] (195 : Nat) #[Value.agg #[Value.slice a140 n141 n142, Value.slice a143 n144 n145, Value.int IntKind.i64 x146], Value.slice (some (Addr.mk n214
  (0 : Nat) none)) (1 : Nat) (1 : Nat)] (fun v216 w217 => opAg v216 fun cs218 => opL (nthD (Array.toList cs218) (0 : Nat)) fun a219 n220 n221 => opL (nthD (Array.toList
  cs218) (1 : Nat)) fun a222 n223 n224 => opI IntKind.i64 (nthD (Array.toList cs218) (2 : Nat)) fun x225 => SzIs (Array.size cs218) (3 : Nat) (J165 w217 ∧ Up [n135]
  [n135, n2, n1] w217 fun w226 => J165 w226 ∧ J160 [] [Value.agg #[Value.slice a219 n220 n221, Value.slice a222 n223 n224, Value.int IntKind.i64 x225]] w226)) w215) ∧ Nw
  (Obj.cells #[Value.int IntKind.i64 x164, Value.string s213] (257 : Nat)) (World.drew w147) fun n227 w228 => J165 w228 ∧ J165 w228 ∧ CallW Try.prog [n135, n2, n1] (195 :
  Nat) #[Value.agg #[Value.slice a140 n141 n142, Value.slice a143 n144 n145, Value.int IntKind.i64 x146], Value.slice (some (Addr.mk n227 (0 : Nat) none)) (1 : Nat) (1 :
  Nat)] (fun v229 w230 => opAg v229 fun cs231 => opL (nthD (Array.toList cs231) (0 : Nat)) fun a232 n233 n234 => opL (nthD (Array.toList cs231) (1 : Nat)) fun a235 n236
  n237 => opI IntKind.i64 (nthD (Array.toList cs231) (2 : Nat)) fun x238 => SzIs (Array.size cs231) (3 : Nat) (J165 w230 ∧ Up [n135] [n135, n2, n1] w230 fun w239 => J165
  w239 ∧ J160 [] [Value.agg #[Value.slice a232 n233 n234, Value.slice a235 n236 n237, Value.int IntKind.i64 x238]] w239)) w228) (J160 [] [Value.agg #[Value.slice a140
  n141 n142, Value.slice a143 n144 n145, Value.int IntKind.i64 x146]] w147))) w136) w17) fun J240 => Bd (decide (x14 > (64 : Int))) fun b241 => If b241 (J240 [Value.int
  IntKind.i64 (64 : Int)] [] w13) (J240 [Value.int IntKind.i64 x14] [] w13)) fun J242 => Bd (decide (p2 < (0 : Int))) fun b243 => If b243 (J242 [Value.int IntKind.i64 (0
  : Int)] [] w9) (J242 [Value.int IntKind.i64 p2] [] w9)) fun J244 => Bd ((p0_1n : Nat) : Int) fun x245 => Bd (decide (x6 > x245)) fun b246 => If b246 (Bd ((p0_1n : Nat)
  : Int) fun x247 => J244 [Value.int IntKind.i64 x247] [] w5) (J244 [Value.int IntKind.i64 x6] [] w5)) fun J248 => Bd (decide (p1 < (0 : Int))) fun b249 => If b249 (Up []
  [n2, n1] w fun w250 => J248 [Value.int IntKind.i64 (0 : Int)] [] w250) (Up [] [n2, n1] w fun w251 => J248 [Value.int IntKind.i64 p1] [] w251)
theorem f118_eq (p0_0a : Option Addr) (p0_0n : Nat) (p0_0c : Nat) (p0_1a : Option Addr) (p0_1n : Nat) (p0_1c : Nat) (p0_2 : Int) (p1 : Int) (p2 : Int) (R : Value → World
  → Prop) (w : World) : fnW Try.prog [3, 6, 8, 400010, 100013] Try.f118 [Value.agg #[Value.slice p0_0a p0_0n p0_0c, Value.slice p0_1a p0_1n p0_1c, Value.int IntKind.i64
  p0_2], Value.int IntKind.i64 p1, Value.int IntKind.i64 p2] R w = f118_vc p0_0a p0_0n p0_0c p0_1a p0_1n p0_1c p0_2 p1 p2 R w := by kernel_rfl
theorem f118_in (p0_0a : Option Addr) (p0_0n : Nat) (p0_0c : Nat) (p0_1a : Option Addr) (p0_1n : Nat) (p0_1c : Nat) (p0_2 : Int) (p1 : Int) (p2 : Int) (R : Value → World
  → Prop) (w : World) (h : f118_vc p0_0a p0_0n p0_0c p0_1a p0_1n p0_1c p0_2 p1 p2 R w) : Ct Try.prog 118 #[Value.agg #[Value.slice p0_0a p0_0n p0_0c, Value.slice p0_1a
  p0_1n p0_1c, Value.int IntKind.i64 p0_2], Value.int IntKind.i64 p1, Value.int IntKind.i64 p2] w R := by
  refine Ct_of (rk := [3, 6, 8, 400010, 100013]) (fn := Try.f118) (args := [Value.agg #[Value.slice p0_0a p0_0n p0_0c, Value.slice p0_1a p0_1n p0_1c, Value.int IntKind.i64 p0_2], Value.int IntKind.i64 p1, Value.int IntKind.i64 p2]) mixedT Try.func118 (by kernel_rfl) ?_
  rw [f118_eq]
  exact h
def f120_vc (p0_0a : Option Addr) (p0_0n : Nat) (p0_0c : Nat) (p0_1a : Option Addr) (p0_1n : Nat) (p0_1c : Nat) (p0_2 : Int) (p1 : Int) (R : Value → World → Prop) (w :
  World) : Prop := Rg w fun n1 => IxOk p1 p0_0n p0_0a ∧ Up [] [n1] w fun w2 => Ld w2 (adAt p0_0a p1 (1 : Nat)) fun v3 => opStr v3 fun s4 => LoopP (fun l5 l6 J7 w8 =>
  opStr (nthD l5 (0 : Nat)) fun s9 => opI IntKind.i64 (nthD l5 (1 : Nat)) fun x10 => Bd ((p0_1n : Nat) : Int) fun x11 => Bd (decide (x10 < x11)) fun b12 => If b12 (Jn
  (fun l13 l14 w15 => opStr (nthD l13 (0 : Nat)) fun s16 => Bd (IntKind.wrap IntKind.i64 (x10 + (1 : Int))) fun x17 => J7 [Value.string s16, Value.int IntKind.i64 x17] []
  w15) fun J18 => IxOk x10 p0_1n p0_1a ∧ Ld w8 (Addr.add (adAt p0_1a x10 (2 : Nat)) (0 : Nat)) fun v19 => opI IntKind.i64 v19 fun x20 => Bd (x20 == p1) fun b21 => If b21
  (IxOk x10 p0_1n p0_1a ∧ Ld w8 (Addr.add (adAt p0_1a x10 (2 : Nat)) (1 : Nat)) fun v22 => opStr v22 fun s23 => J18 [Value.string s23] [] w8) (J18 [Value.string s9] []
  w8)) (R (Value.string s9) w8)) [Value.string s4, Value.int IntKind.i64 (0 : Int)] [] w2
theorem f120_eq (p0_0a : Option Addr) (p0_0n : Nat) (p0_0c : Nat) (p0_1a : Option Addr) (p0_1n : Nat) (p0_1c : Nat) (p0_2 : Int) (p1 : Int) (R : Value → World → Prop) (w
  : World) : fnW Try.prog [2] Try.f120 [Value.agg #[Value.slice p0_0a p0_0n p0_0c, Value.slice p0_1a p0_1n p0_1c, Value.int IntKind.i64 p0_2], Value.int IntKind.i64 p1] R
  w = f120_vc p0_0a p0_0n p0_0c p0_1a p0_1n p0_1c p0_2 p1 R w := by kernel_rfl
theorem f120_in (p0_0a : Option Addr) (p0_0n : Nat) (p0_0c : Nat) (p0_1a : Option Addr) (p0_1n : Nat) (p0_1c : Nat) (p0_2 : Int) (p1 : Int) (R : Value → World → Prop) (w
  : World) (h : f120_vc p0_0a p0_0n p0_0c p0_1a p0_1n p0_1c p0_2 p1 R w) : Ct Try.prog 120 #[Value.agg #[Value.slice p0_0a p0_0n p0_0c, Value.slice p0_1a p0_1n p0_1c,
  Value.int IntKind.i64 p0_2], Value.int IntKind.i64 p1] w R := by
  refine Ct_of (rk := [2]) (fn := Try.f120) (args := [Value.agg #[Value.slice p0_0a p0_0n p0_0c, Value.slice p0_1a p0_1n p0_1c, Value.int IntKind.i64 p0_2], Value.int IntKind.i64 p1]) mixedT Try.func120 (by kernel_rfl) ?_
  rw [f120_eq]
  exact h
def f121_vc (p0_0a : Option Addr) (p0_0n : Nat) (p0_0c : Nat) (p0_1a : Option Addr) (p0_1n : Nat) (p0_1c : Nat) (p0_2 : Int) (R : Value → World → Prop) (w : World) : Prop
  := Rg w fun n1 => Up [] [n1] w fun w2 => LoopP (fun l3 l4 J5 w6 => opStr (nthD l3 (0 : Nat)) fun s7 => opI IntKind.i64 (nthD l3 (1 : Nat)) fun x8 => Bd ((p0_0n : Nat) :
  Int) fun x9 => Bd (decide (x8 < x9)) fun b10 => If b10 (CallW Try.prog [n1] (120 : Nat) #[Value.agg #[Value.slice p0_0a p0_0n p0_0c, Value.slice p0_1a p0_1n p0_1c,
  Value.int IntKind.i64 p0_2], Value.int IntKind.i64 x8] (fun v11 w12 => opStr v11 fun s13 => RunW Try.prog [n1] (eqS BinOp.add (9 : Nat) (Operand.tmp (12 : Nat))
  (Operand.tmp (15 : Nat)) (Value.string s7) (Value.string s13)) (fun v14 w15 => opStr v14 fun s16 => Bd (IntKind.wrap IntKind.i64 (x8 + (1 : Int))) fun x17 => J5
  [Value.string s16, Value.int IntKind.i64 x17] [] w15) w12) w6) (R (Value.string s7) w6)) [Value.string (ByteArray.mk #[]), Value.int IntKind.i64 (0 : Int)] [] w2
theorem f121_eq (p0_0a : Option Addr) (p0_0n : Nat) (p0_0c : Nat) (p0_1a : Option Addr) (p0_1n : Nat) (p0_1c : Nat) (p0_2 : Int) (R : Value → World → Prop) (w : World) :
  fnW Try.prog [1] Try.f121 [Value.agg #[Value.slice p0_0a p0_0n p0_0c, Value.slice p0_1a p0_1n p0_1c, Value.int IntKind.i64 p0_2]] R w = f121_vc p0_0a p0_0n p0_0c p0_1a
  p0_1n p0_1c p0_2 R w := by kernel_rfl
theorem f121_in (p0_0a : Option Addr) (p0_0n : Nat) (p0_0c : Nat) (p0_1a : Option Addr) (p0_1n : Nat) (p0_1c : Nat) (p0_2 : Int) (R : Value → World → Prop) (w : World) (h
  : f121_vc p0_0a p0_0n p0_0c p0_1a p0_1n p0_1c p0_2 R w) : Ct Try.prog 121 #[Value.agg #[Value.slice p0_0a p0_0n p0_0c, Value.slice p0_1a p0_1n p0_1c, Value.int
  IntKind.i64 p0_2]] w R := by
  refine Ct_of (rk := [1]) (fn := Try.f121) (args := [Value.agg #[Value.slice p0_0a p0_0n p0_0c, Value.slice p0_1a p0_1n p0_1c, Value.int IntKind.i64 p0_2]]) mixedT Try.func121 (by kernel_rfl) ?_
  rw [f121_eq]
  exact h
end Fk
set_option linter.unusedVariables false
set_option maxRecDepth 1000000
set_option maxHeartbeats 4000000
namespace Fk
open Go Go.Proofs Go.RowKit
def f211_vc (p0_0a : Option Addr) (p0_0n : Nat) (p0_0c : Nat) (p0_1a : Option Addr) (p0_1n : Nat) (p0_1c : Nat) (p0_2 : Int) (p1 : Int) (p2 : Int) (p3 : ByteArray) (R :
  Value → World → Prop) (w : World) : Prop := Rg w fun n1 => Rg w fun n2 => Up [] [n2, n1] w fun w3 => CallW Try.prog [n2, n1] (207 : Nat) #[Value.agg #[Value.slice p0_0a
  p0_0n p0_0c, Value.slice p0_1a p0_1n p0_1c, Value.int IntKind.i64 p0_2], Value.int IntKind.i64 p1] (fun v4 w5 => opStr v4 fun s6 => RunW Try.prog [n2, n1]
  (Instr.sliceAt (9 : Nat) (Value.string s6) none (some (Value.int IntKind.i64 p2)) none) (fun v7 w8 => opStr v7 fun s9 => RunW Try.prog [n2, n1] (eqS BinOp.add (9 : Nat)
  (Operand.tmp (20 : Nat)) (Operand.tmp (21 : Nat)) (Value.string s9) (Value.string p3)) (fun v10 w11 => opStr v10 fun s12 => Jn (fun l13 l14 w15 => opStr (nthD l13 (0 :
  Nat)) fun s16 => Bd (((ByteArray.size s16) : Nat) : Int) fun x17 => Bd (Int.tmod x17 (64 : Int)) fun x18 => Bd (IntKind.wrap IntKind.i64 ((64 : Int) - x18)) fun x19 =>
  Bd (Int.tmod x19 (64 : Int)) fun x20 => RunW Try.prog [n2, n1] (Instr.makeSlice (51 : Nat) (Value.int IntKind.i64 x20) (Value.int IntKind.i64 x20)) (fun v21 w22 => opL
  v21 fun a23 n24 n25 => RunW Try.prog [n2, n1] (convert (51 : Nat) (9 : Nat) (Value.slice a23 n24 n25)) (fun v26 w27 => opStr v26 fun s28 => RunW Try.prog [n2, n1] (eqS
  BinOp.add (9 : Nat) (Operand.tmp (30 : Nat)) (Operand.tmp (37 : Nat)) (Value.string s16) (Value.string s28)) (fun v29 w30 => opStr v29 fun s31 => Bd (IntKind.wrap
  IntKind.i64 (Int.tdiv p2 (64 : Int))) fun x32 => LoopP (fun l33 l34 J35 w36 => opB (nthD l33 (0 : Nat)) fun b37 => opI IntKind.i64 (nthD l33 (1 : Nat)) fun x38 => opAg
  (nthD l34 (0 : Nat)) fun cs39 => opL (nthD (Array.toList cs39) (0 : Nat)) fun a40 n41 n42 => opL (nthD (Array.toList cs39) (1 : Nat)) fun a43 n44 n45 => opI IntKind.i64
  (nthD (Array.toList cs39) (2 : Nat)) fun x46 => SzIs (Array.size cs39) (3 : Nat) (opAg (nthD l34 (1 : Nat)) fun cs47 => opL (nthD (Array.toList cs47) (0 : Nat)) fun a48
  n49 n50 => opL (nthD (Array.toList cs47) (1 : Nat)) fun a51 n52 n53 => opI IntKind.i64 (nthD (Array.toList cs47) (2 : Nat)) fun x54 => SzIs (Array.size cs47) (3 : Nat)
  (Bd (((ByteArray.size s31) : Nat) : Int) fun x55 => Bd (IntKind.wrap IntKind.i64 (Int.tdiv x55 (64 : Int))) fun x56 => Bd (decide (x38 < x56)) fun b57 => If b57 (Bd
  (IntKind.wrap IntKind.i64 ((64 : Int) * x38)) fun x58 => Bd (IntKind.wrap IntKind.i64 ((64 : Int) * x38)) fun x59 => Bd (IntKind.wrap IntKind.i64 (x59 + (64 : Int)))
  fun x60 => ∃ v61, (∀ (w62 : World), True → RunV Try.prog (Instr.sliceAt (9 : Nat) (Value.string s31) (some (Value.int IntKind.i64 x58)) (some (Value.int IntKind.i64
  x60)) none) v61 w62) ∧ opStr v61 fun s64 => CallW Try.prog [n2, n1] (212 : Nat) #[Value.agg #[Value.slice a48 n49 n50, Value.slice a51 n52 n53, Value.int IntKind.i64
  x54]] (fun v65 w66 => opI IntKind.i64 v65 fun x67 => Bd (IntKind.wrap IntKind.i64 (p1 * x67)) fun x68 => Bd (IntKind.wrap IntKind.i64 ((1 : Int) + x68)) fun x69 => Bd
  (IntKind.wrap IntKind.i64 (x69 + x38)) fun x70 => RunW Try.prog [n2, n1] (convert (9 : Nat) (51 : Nat) (Value.string s64)) (fun v71 w72 => opL v71 fun a73 n74 n75 =>
  CallW Try.prog [n2, n1] (115 : Nat) #[Value.agg #[Value.slice a48 n49 n50, Value.slice a51 n52 n53, Value.int IntKind.i64 x54], Value.int IntKind.i64 x70, Value.slice
  a73 n74 n75] (fun v76 w77 => opTu v76 fun cs78 => opAg (nthD (Array.toList cs78) (0 : Nat)) fun cs79 => opL (nthD (Array.toList cs79) (0 : Nat)) fun a80 n81 n82 => opL
  (nthD (Array.toList cs79) (1 : Nat)) fun a83 n84 n85 => opI IntKind.i64 (nthD (Array.toList cs79) (2 : Nat)) fun x86 => SzIs (Array.size cs79) (3 : Nat) (opI
  IntKind.i64 (nthD (Array.toList cs78) (1 : Nat)) fun x87 => SzIs (Array.size cs78) (2 : Nat) (Rg w77 fun n88 => Up [] [n88, n2, n1] w77 fun w89 => Up [n88] [n88, n2,
  n1] w89 fun w90 => Bd (x87 != (0 : Int)) fun b91 => If b91 (Up [n2, n1] [n88, n2, n1] w90 fun w92 => R (Value.tuple #[Value.agg #[Value.slice a80 n81 n82, Value.slice
  a83 n84 n85, Value.int IntKind.i64 x86], Value.bool false]) w92) (Bd (IntKind.wrap IntKind.i64 (x38 + (1 : Int))) fun x93 => Up [n1] [n88, n2, n1] w90 fun w94 => J35
  [Value.bool b37, Value.int IntKind.i64 x93] [Value.agg #[Value.slice a40 n41 n42, Value.slice a43 n44 n45, Value.int IntKind.i64 x46], Value.agg #[Value.slice a80 n81
  n82, Value.slice a83 n84 n85, Value.int IntKind.i64 x86]] w94)))) w72 ∧ Rg w72 fun n95 => Up [] [n95, n2, n1] w72 fun w96 => CallW Try.prog [n95, n2, n1] (115 : Nat)
  #[Value.agg #[Value.slice a48 n49 n50, Value.slice a51 n52 n53, Value.int IntKind.i64 x54], Value.int IntKind.i64 x70, Value.slice a73 n74 n75] (fun v97 w98 => opTu v97
  fun cs99 => opAg (nthD (Array.toList cs99) (0 : Nat)) fun cs100 => opL (nthD (Array.toList cs100) (0 : Nat)) fun a101 n102 n103 => opL (nthD (Array.toList cs100) (1 :
  Nat)) fun a104 n105 n106 => opI IntKind.i64 (nthD (Array.toList cs100) (2 : Nat)) fun x107 => SzIs (Array.size cs100) (3 : Nat) (opI IntKind.i64 (nthD (Array.toList
  cs99) (1 : Nat)) fun x108 => SzIs (Array.size cs99) (2 : Nat) (Up [n95] [n95, n2, n1] w98 fun w109 => Bd (x108 != (0 : Int)) fun b110 => If b110 (Up [n2, n1] [n95, n2,
  n1] w109 fun w111 => R (Value.tuple #[Value.agg #[Value.slice a101 n102 n103, Value.slice a104 n105 n106, Value.int IntKind.i64 x107], Value.bool false]) w111) (Bd
  (IntKind.wrap IntKind.i64 (x38 + (1 : Int))) fun x112 => Up [n1] [n95, n2, n1] w109 fun w113 => J35 [Value.bool b37, Value.int IntKind.i64 x112] [Value.agg
  #[Value.slice a40 n41 n42, Value.slice a43 n44 n45, Value.int IntKind.i64 x46], Value.agg #[Value.slice a101 n102 n103, Value.slice a104 n105 n106, Value.int
  IntKind.i64 x107]] w113)))) w96) w66 ∧ Rg w66 fun n114 => Up [] [n114, n2, n1] w66 fun w115 => RunW Try.prog [n114, n2, n1] (convert (9 : Nat) (51 : Nat) (Value.string
  s64)) (fun v116 w117 => opL v116 fun a118 n119 n120 => CallW Try.prog [n114, n2, n1] (115 : Nat) #[Value.agg #[Value.slice a48 n49 n50, Value.slice a51 n52 n53,
  Value.int IntKind.i64 x54], Value.int IntKind.i64 x70, Value.slice a118 n119 n120] (fun v121 w122 => opTu v121 fun cs123 => opAg (nthD (Array.toList cs123) (0 : Nat))
  fun cs124 => opL (nthD (Array.toList cs124) (0 : Nat)) fun a125 n126 n127 => opL (nthD (Array.toList cs124) (1 : Nat)) fun a128 n129 n130 => opI IntKind.i64 (nthD
  (Array.toList cs124) (2 : Nat)) fun x131 => SzIs (Array.size cs124) (3 : Nat) (opI IntKind.i64 (nthD (Array.toList cs123) (1 : Nat)) fun x132 => SzIs (Array.size cs123)
  (2 : Nat) (Up [n114] [n114, n2, n1] w122 fun w133 => Bd (x132 != (0 : Int)) fun b134 => If b134 (Up [n2, n1] [n114, n2, n1] w133 fun w135 => R (Value.tuple #[Value.agg
  #[Value.slice a125 n126 n127, Value.slice a128 n129 n130, Value.int IntKind.i64 x131], Value.bool false]) w135) (Bd (IntKind.wrap IntKind.i64 (x38 + (1 : Int))) fun
  x136 => Up [n1] [n114, n2, n1] w133 fun w137 => J35 [Value.bool b37, Value.int IntKind.i64 x136] [Value.agg #[Value.slice a40 n41 n42, Value.slice a43 n44 n45,
  Value.int IntKind.i64 x46], Value.agg #[Value.slice a125 n126 n127, Value.slice a128 n129 n130, Value.int IntKind.i64 x131]] w137)))) w117) w115) (World.drew w36) ∧
  RunW Try.prog [n2, n1] (convert (9 : Nat) (51 : Nat) (Value.string s64)) (fun v138 w139 => opL v138 fun a140 n141 n142 => CallW Try.prog [n2, n1] (212 : Nat)
  #[Value.agg #[Value.slice a48 n49 n50, Value.slice a51 n52 n53, Value.int IntKind.i64 x54]] (fun v143 w144 => opI IntKind.i64 v143 fun x145 => Bd (IntKind.wrap
  IntKind.i64 (p1 * x145)) fun x146 => Bd (IntKind.wrap IntKind.i64 ((1 : Int) + x146)) fun x147 => Bd (IntKind.wrap IntKind.i64 (x147 + x38)) fun x148 => CallW Try.prog
  [n2, n1] (115 : Nat) #[Value.agg #[Value.slice a48 n49 n50, Value.slice a51 n52 n53, Value.int IntKind.i64 x54], Value.int IntKind.i64 x148, Value.slice a140 n141 n142]
  (fun v149 w150 => opTu v149 fun cs151 => opAg (nthD (Array.toList cs151) (0 : Nat)) fun cs152 => opL (nthD (Array.toList cs152) (0 : Nat)) fun a153 n154 n155 => opL
  (nthD (Array.toList cs152) (1 : Nat)) fun a156 n157 n158 => opI IntKind.i64 (nthD (Array.toList cs152) (2 : Nat)) fun x159 => SzIs (Array.size cs152) (3 : Nat) (opI
  IntKind.i64 (nthD (Array.toList cs151) (1 : Nat)) fun x160 => SzIs (Array.size cs151) (2 : Nat) (Rg w150 fun n161 => Up [] [n161, n2, n1] w150 fun w162 => Up [n161]
  [n161, n2, n1] w162 fun w163 => Bd (x160 != (0 : Int)) fun b164 => If b164 (Up [n2, n1] [n161, n2, n1] w163 fun w165 => R (Value.tuple #[Value.agg #[Value.slice a153
  n154 n155, Value.slice a156 n157 n158, Value.int IntKind.i64 x159], Value.bool false]) w165) (Bd (IntKind.wrap IntKind.i64 (x38 + (1 : Int))) fun x166 => Up [n1] [n161,
  n2, n1] w163 fun w167 => J35 [Value.bool b37, Value.int IntKind.i64 x166] [Value.agg #[Value.slice a40 n41 n42, Value.slice a43 n44 n45, Value.int IntKind.i64 x46],
  Value.agg #[Value.slice a153 n154 n155, Value.slice a156 n157 n158, Value.int IntKind.i64 x159]] w167)))) w144 ∧ Rg w144 fun n168 => Up [] [n168, n2, n1] w144 fun w169
  => CallW Try.prog [n168, n2, n1] (115 : Nat) #[Value.agg #[Value.slice a48 n49 n50, Value.slice a51 n52 n53, Value.int IntKind.i64 x54], Value.int IntKind.i64 x148,
  Value.slice a140 n141 n142] (fun v170 w171 => opTu v170 fun cs172 => opAg (nthD (Array.toList cs172) (0 : Nat)) fun cs173 => opL (nthD (Array.toList cs173) (0 : Nat))
  fun a174 n175 n176 => opL (nthD (Array.toList cs173) (1 : Nat)) fun a177 n178 n179 => opI IntKind.i64 (nthD (Array.toList cs173) (2 : Nat)) fun x180 => SzIs (Array.size
  cs173) (3 : Nat) (opI IntKind.i64 (nthD (Array.toList cs172) (1 : Nat)) fun x181 => SzIs (Array.size cs172) (2 : Nat) (Up [n168] [n168, n2, n1] w171 fun w182 => Bd
  (x181 != (0 : Int)) fun b183 => If b183 (Up [n2, n1] [n168, n2, n1] w182 fun w184 => R (Value.tuple #[Value.agg #[Value.slice a174 n175 n176, Value.slice a177 n178
  n179, Value.int IntKind.i64 x180], Value.bool false]) w184) (Bd (IntKind.wrap IntKind.i64 (x38 + (1 : Int))) fun x185 => Up [n1] [n168, n2, n1] w182 fun w186 => J35
  [Value.bool b37, Value.int IntKind.i64 x185] [Value.agg #[Value.slice a40 n41 n42, Value.slice a43 n44 n45, Value.int IntKind.i64 x46], Value.agg #[Value.slice a174
  n175 n176, Value.slice a177 n178 n179, Value.int IntKind.i64 x180]] w186)))) w169) w139 ∧ Rg w139 fun n187 => Up [] [n187, n2, n1] w139 fun w188 => CallW Try.prog
  [n187, n2, n1] (212 : Nat) #[Value.agg #[Value.slice a48 n49 n50, Value.slice a51 n52 n53, Value.int IntKind.i64 x54]] (fun v189 w190 => opI IntKind.i64 v189 fun x191
  => Bd (IntKind.wrap IntKind.i64 (p1 * x191)) fun x192 => Bd (IntKind.wrap IntKind.i64 ((1 : Int) + x192)) fun x193 => Bd (IntKind.wrap IntKind.i64 (x193 + x38)) fun
  x194 => CallW Try.prog [n187, n2, n1] (115 : Nat) #[Value.agg #[Value.slice a48 n49 n50, Value.slice a51 n52 n53, Value.int IntKind.i64 x54], Value.int IntKind.i64
  x194, Value.slice a140 n141 n142] (fun v195 w196 => opTu v195 fun cs197 => opAg (nthD (Array.toList cs197) (0 : Nat)) fun cs198 => opL (nthD (Array.toList cs198) (0 :
  Nat)) fun a199 n200 n201 => opL (nthD (Array.toList cs198) (1 : Nat)) fun a202 n203 n204 => opI IntKind.i64 (nthD (Array.toList cs198) (2 : Nat)) fun x205 => SzIs
  (Array.size cs198) (3 : Nat) (opI IntKind.i64 (nthD (Array.toList cs197) (1 : Nat)) fun x206 => SzIs (Array.size cs197) (2 : Nat) (Up [n187] [n187, n2, n1] w196 fun
  w207 => Bd (x206 != (0 : Int)) fun b208 => If b208 (Up [n2, n1] [n187, n2, n1] w207 fun w209 => R (Value.tuple #[Value.agg #[Value.slice a199 n200 n201, Value.slice
  a202 n203 n204, Value.int IntKind.i64 x205], Value.bool false]) w209) (Bd (IntKind.wrap IntKind.i64 (x38 + (1 : Int))) fun x210 => Up [n1] [n187, n2, n1] w207 fun w211
  => J35 [Value.bool b37, Value.int IntKind.i64 x210] [Value.agg #[Value.slice a40 n41 n42, Value.slice a43 n44 n45, Value.int IntKind.i64 x46], Value.agg #[Value.slice
  a199 n200 n201, Value.slice a202 n203 n204, Value.int IntKind.i64 x205]] w211)))) w190) w188) (World.drew w36) ∧ Rg (World.drew w36) fun n212 => Up [] [n212, n2, n1]
  (World.drew w36) fun w213 => CallW Try.prog [n212, n2, n1] (212 : Nat) #[Value.agg #[Value.slice a48 n49 n50, Value.slice a51 n52 n53, Value.int IntKind.i64 x54]] (fun
  v214 w215 => opI IntKind.i64 v214 fun x216 => Bd (IntKind.wrap IntKind.i64 (p1 * x216)) fun x217 => Bd (IntKind.wrap IntKind.i64 ((1 : Int) + x217)) fun x218 => Bd
  (IntKind.wrap IntKind.i64 (x218 + x38)) fun x219 => RunW Try.prog [n212, n2, n1] (convert (9 : Nat) (51 : Nat) (Value.string s64)) (fun v220 w221 => opL v220 fun a222
  n223 n224 => CallW Try.prog [n212, n2, n1] (115 : Nat) #[Value.agg #[Value.slice a48 n49 n50, Value.slice a51 n52 n53, Value.int IntKind.i64 x54], Value.int IntKind.i64
  x219, Value.slice a222 n223 n224] (fun v225 w226 => opTu v225 fun cs227 => opAg (nthD (Array.toList cs227) (0 : Nat)) fun cs228 => opL (nthD (Array.toList cs228) (0 :
  Nat)) fun a229 n230 n231 => opL (nthD (Array.toList cs228) (1 : Nat)) fun a232 n233 n234 => opI IntKind.i64 (nthD (Array.toList cs228) (2 : Nat)) fun x235 => SzIs
  (Array.size cs228) (3 : Nat) (opI IntKind.i64 (nthD (Array.toList cs227) (1 : Nat)) fun x236 => SzIs (Array.size cs227) (2 : Nat) (Up [n212] [n212, n2, n1] w226 fun
  w237 => Bd (x236 != (0 : Int)) fun b238 => If b238 (Up [n2, n1] [n212, n2, n1] w237 fun w239 => R (Value.tuple #[Value.agg #[Value.slice a229 n230 n231, Value.slice
  a232 n233 n234, Value.int IntKind.i64 x235], Value.bool false]) w239) (Bd (IntKind.wrap IntKind.i64 (x38 + (1 : Int))) fun x240 => Up [n1] [n212, n2, n1] w237 fun w241
  => J35 [Value.bool b37, Value.int IntKind.i64 x240] [Value.agg #[Value.slice a40 n41 n42, Value.slice a43 n44 n45, Value.int IntKind.i64 x46], Value.agg #[Value.slice
  a229 n230 n231, Value.slice a232 n233 n234, Value.int IntKind.i64 x235]] w241)))) w221) w215) w213 ∧ RunW Try.prog [n212, n2, n1] (convert (9 : Nat) (51 : Nat)
  (Value.string s64)) (fun v242 w243 => opL v242 fun a244 n245 n246 => CallW Try.prog [n212, n2, n1] (212 : Nat) #[Value.agg #[Value.slice a48 n49 n50, Value.slice a51
  n52 n53, Value.int IntKind.i64 x54]] (fun v247 w248 => opI IntKind.i64 v247 fun x249 => Bd (IntKind.wrap IntKind.i64 (p1 * x249)) fun x250 => Bd (IntKind.wrap
  IntKind.i64 ((1 : Int) + x250)) fun x251 => Bd (IntKind.wrap IntKind.i64 (x251 + x38)) fun x252 => CallW Try.prog [n212, n2, n1] (115 : Nat) #[Value.agg #[Value.slice
  a48 n49 n50, Value.slice a51 n52 n53, Value.int IntKind.i64 x54], Value.int IntKind.i64 x252, Value.slice a244 n245 n246] (fun v253 w254 => opTu v253 fun cs255 => opAg
  (nthD (Array.toList cs255) (0 : Nat)) fun cs256 => opL (nthD (Array.toList cs256) (0 : Nat)) fun a257 n258 n259 => opL (nthD (Array.toList cs256) (1 : Nat)) fun a260
  n261 n262 => opI IntKind.i64 (nthD (Array.toList cs256) (2 : Nat)) fun x263 => SzIs (Array.size cs256) (3 : Nat) (opI IntKind.i64 (nthD (Array.toList cs255) (1 : Nat))
  fun x264 => SzIs (Array.size cs255) (2 : Nat) (Up [n212] [n212, n2, n1] w254 fun w265 => Bd (x264 != (0 : Int)) fun b266 => If b266 (Up [n2, n1] [n212, n2, n1] w265 fun
  w267 => R (Value.tuple #[Value.agg #[Value.slice a257 n258 n259, Value.slice a260 n261 n262, Value.int IntKind.i64 x263], Value.bool false]) w267) (Bd (IntKind.wrap
  IntKind.i64 (x38 + (1 : Int))) fun x268 => Up [n1] [n212, n2, n1] w265 fun w269 => J35 [Value.bool b37, Value.int IntKind.i64 x268] [Value.agg #[Value.slice a40 n41
  n42, Value.slice a43 n44 n45, Value.int IntKind.i64 x46], Value.agg #[Value.slice a257 n258 n259, Value.slice a260 n261 n262, Value.int IntKind.i64 x263]] w269))))
  w248) w243) w213) (CallW Try.prog [n2, n1] (116 : Nat) #[Value.agg #[Value.slice a48 n49 n50, Value.slice a51 n52 n53, Value.int IntKind.i64 x54]] (fun v270 w271 =>
  opTu v270 fun cs272 => opAg (nthD (Array.toList cs272) (0 : Nat)) fun cs273 => opL (nthD (Array.toList cs273) (0 : Nat)) fun a274 n275 n276 => opL (nthD (Array.toList
  cs273) (1 : Nat)) fun a277 n278 n279 => opI IntKind.i64 (nthD (Array.toList cs273) (2 : Nat)) fun x280 => SzIs (Array.size cs273) (3 : Nat) (opI IntKind.i64 (nthD
  (Array.toList cs272) (1 : Nat)) fun x281 => SzIs (Array.size cs272) (2 : Nat) (Rg w271 fun n282 => Bd (x281 == (0 : Int)) fun b283 => Up [n2, n282] [n282, n2, n1] w271
  fun w284 => R (Value.tuple #[Value.agg #[Value.slice a274 n275 n276, Value.slice a277 n278 n279, Value.int IntKind.i64 x280], Value.bool b283]) w284))) w36))))
  [Value.bool false, Value.int IntKind.i64 x32] [Value.agg #[Value.slice none (0 : Nat) (0 : Nat), Value.slice none (0 : Nat) (0 : Nat), Value.int IntKind.i64 (0 : Int)],
  Value.agg #[Value.slice p0_0a p0_0n p0_0c, Value.slice p0_1a p0_1n p0_1c, Value.int IntKind.i64 p0_2]] w30) w27) w22) w15) fun J285 => Bd (((ByteArray.size s12) : Nat)
  : Int) fun x286 => CallW Try.prog [n2, n1] (210 : Nat) #[Value.agg #[Value.slice p0_0a p0_0n p0_0c, Value.slice p0_1a p0_1n p0_1c, Value.int IntKind.i64 p0_2]] (fun
  v287 w288 => opI IntKind.i64 v287 fun x289 => Bd (decide (x286 < x289)) fun b290 => If b290 (RunW Try.prog [n2, n1] (eqS BinOp.add (9 : Nat) (Operand.tmp (28 : Nat))
  (Operand.const (Value.string (ByteArray.mk #[(0 : UInt8)]))) (Value.string s12) (Value.string (ByteArray.mk #[(0 : UInt8)]))) (fun v291 w292 => opStr v291 fun s293 =>
  J285 [Value.string s293] [] w292) w288) (J285 [Value.string s12] [] w288)) w11) w8) w5) w3
theorem f211_eq (p0_0a : Option Addr) (p0_0n : Nat) (p0_0c : Nat) (p0_1a : Option Addr) (p0_1n : Nat) (p0_1c : Nat) (p0_2 : Int) (p1 : Int) (p2 : Int) (p3 : ByteArray) (R
  : Value → World → Prop) (w : World) : fnW Try.prog [4, 8, 12, 14, 400008] Try.f211 [Value.agg #[Value.slice p0_0a p0_0n p0_0c, Value.slice p0_1a p0_1n p0_1c, Value.int
  IntKind.i64 p0_2], Value.int IntKind.i64 p1, Value.int IntKind.i64 p2, Value.string p3] R w = f211_vc p0_0a p0_0n p0_0c p0_1a p0_1n p0_1c p0_2 p1 p2 p3 R w := by
  kernel_rfl
theorem f211_in (p0_0a : Option Addr) (p0_0n : Nat) (p0_0c : Nat) (p0_1a : Option Addr) (p0_1n : Nat) (p0_1c : Nat) (p0_2 : Int) (p1 : Int) (p2 : Int) (p3 : ByteArray) (R
  : Value → World → Prop) (w : World) (h : f211_vc p0_0a p0_0n p0_0c p0_1a p0_1n p0_1c p0_2 p1 p2 p3 R w) : Ct Try.prog 211 #[Value.agg #[Value.slice p0_0a p0_0n p0_0c,
  Value.slice p0_1a p0_1n p0_1c, Value.int IntKind.i64 p0_2], Value.int IntKind.i64 p1, Value.int IntKind.i64 p2, Value.string p3] w R := by
  refine Ct_of (rk := [4, 8, 12, 14, 400008]) (fn := Try.f211) (args := [Value.agg #[Value.slice p0_0a p0_0n p0_0c, Value.slice p0_1a p0_1n p0_1c, Value.int IntKind.i64 p0_2], Value.int IntKind.i64 p1, Value.int IntKind.i64 p2, Value.string p3]) mixedT Try.func211 (by kernel_rfl) ?_
  rw [f211_eq]
  exact h
def f137_vc (p0_0a : Option Addr) (p0_0n : Nat) (p0_0c : Nat) (p0_1a : Option Addr) (p0_1n : Nat) (p0_1c : Nat) (p0_2 : Int) (R : Value → World → Prop) (w : World) : Prop
  := Rg w fun n1 => Rg w fun n2 => Bd ((p0_0n : Nat) : Int) fun x3 => Bd (x3 == (0 : Int)) fun b4 => If b4 (Up [n2] [n2, n1] w fun w5 => R (Value.tuple #[Value.agg
  #[Value.slice none (0 : Nat) (0 : Nat), Value.slice none (0 : Nat) (0 : Nat), Value.int IntKind.i64 (0 : Int), Value.int IntKind.i64 (0 : Int), Value.int IntKind.i64 (0
  : Int), Value.bool false], Value.slice none (0 : Nat) (0 : Nat), Value.int IntKind.i64 (1 : Int)]) w5) (Bd ((p0_0n : Nat) : Int) fun x6 => Bd (decide (x6 < (3 : Int)))
  fun b7 => If b7 (Up [n2] [n2, n1] w fun w8 => R (Value.tuple #[Value.agg #[Value.slice none (0 : Nat) (0 : Nat), Value.slice none (0 : Nat) (0 : Nat), Value.int
  IntKind.i64 (0 : Int), Value.int IntKind.i64 (0 : Int), Value.int IntKind.i64 (0 : Int), Value.bool false], Value.slice none (0 : Nat) (0 : Nat), Value.int IntKind.i64
  (2 : Int)]) w8) (Up [] [n2, n1] w fun w9 => CallW Try.prog [n2, n1] (120 : Nat) #[Value.agg #[Value.slice p0_0a p0_0n p0_0c, Value.slice p0_1a p0_1n p0_1c, Value.int
  IntKind.i64 p0_2], Value.int IntKind.i64 (0 : Int)] (fun v10 w11 => opStr v10 fun s12 => ((0 : Int) ≤ (0 : Int) ∧ (0 : Int) < ↑(ByteArray.size s12)) ∧ Bd (byteAt s12 (0
  : Int)) fun x13 => Bd (Int.tmod x13 (2 : Int)) fun x14 => Bd (IntKind.wrap IntKind.i64 x14) fun x15 => CallW Try.prog [n2, n1] (207 : Nat) #[Value.agg #[Value.slice
  p0_0a p0_0n p0_0c, Value.slice p0_1a p0_1n p0_1c, Value.int IntKind.i64 p0_2], Value.int IntKind.i64 x15] (fun v16 w17 => opStr v16 fun s18 => LoopP (fun l19 l20 J21
  w22 => opL (nthD l19 (0 : Nat)) fun a23 n24 n25 => opI IntKind.i64 (nthD l19 (1 : Nat)) fun x26 => opL (nthD l19 (2 : Nat)) fun a27 n28 n29 => opI IntKind.i64 (nthD l19
  (3 : Nat)) fun x30 => opAg (nthD l20 (0 : Nat)) fun cs31 => opL (nthD (Array.toList cs31) (0 : Nat)) fun a32 n33 n34 => opL (nthD (Array.toList cs31) (1 : Nat)) fun a35
  n36 n37 => opI IntKind.i64 (nthD (Array.toList cs31) (2 : Nat)) fun x38 => opI IntKind.i64 (nthD (Array.toList cs31) (3 : Nat)) fun x39 => opI IntKind.i64 (nthD
  (Array.toList cs31) (4 : Nat)) fun x40 => opB (nthD (Array.toList cs31) (5 : Nat)) fun b41 => SzIs (Array.size cs31) (6 : Nat) (Bd (((ByteArray.size s18) : Nat) : Int)
  fun x42 => Bd (decide (x30 < x42)) fun b43 => (b43 = true → (0 : Int) ≤ x30 ∧ x30 < ↑(ByteArray.size s18)) ∧ Bd (byteAt s18 x30) fun x45 => Bd (x45 != (0 : Int)) fun
  b46 => Bd (bif b43 then b46 else false) fun b47 => If b47 (((0 : Int) ≤ x30 ∧ x30 < ↑(ByteArray.size s18)) ∧ Bd (byteAt s18 x30) fun x48 => Bd (x48 != (1 : Int)) fun
  b49 => Bd (IntKind.wrap IntKind.i64 (x30 + (8 : Int))) fun x50 => Bd (((ByteArray.size s18) : Nat) : Int) fun x51 => Bd (decide (x50 ≥ x51)) fun b52 => Bd (bif b49 then
  true else b52) fun b53 => If b53 (Up [n2] [n2, n1] w22 fun w54 => R (Value.tuple #[Value.agg #[Value.slice none (0 : Nat) (0 : Nat), Value.slice none (0 : Nat) (0 :
  Nat), Value.int IntKind.i64 (0 : Int), Value.int IntKind.i64 (0 : Int), Value.int IntKind.i64 (0 : Int), Value.bool false], Value.slice none (0 : Nat) (0 : Nat),
  Value.int IntKind.i64 (210 : Int)]) w54) (Bd (IntKind.wrap IntKind.i64 (x30 + (1 : Int))) fun x55 => Bd (IntKind.wrap IntKind.i64 (x30 + (4 : Int))) fun x56 => RunW
  Try.prog [n2, n1] (Instr.sliceAt (9 : Nat) (Value.string s18) (some (Value.int IntKind.i64 x55)) (some (Value.int IntKind.i64 x56)) none) (fun v57 w58 => opStr v57 fun
  s59 => CallW Try.prog [n2, n1] (208 : Nat) #[Value.string s59] (fun v60 w61 => opI IntKind.u64 v60 fun x62 => Bd (IntKind.wrap IntKind.i64 x62) fun x63 => Dr
  (World.drew w61) fun J64 => Bd (decide (x63 < (1 : Int))) fun b65 => Bd (decide (x63 > (1048576 : Int))) fun b66 => Bd (bif b65 then true else b66) fun b67 => Bd
  (IntKind.wrap IntKind.i64 (x30 + (8 : Int))) fun x68 => Bd (IntKind.wrap IntKind.i64 (x68 + x63)) fun x69 => Bd (((ByteArray.size s18) : Nat) : Int) fun x70 => Bd
  (decide (x69 > x70)) fun b71 => Bd (bif b67 then true else b71) fun b72 => Bd (IntKind.wrap IntKind.i64 (x30 + (1 : Int))) fun x73 => Bd (IntKind.wrap IntKind.i64 (x30
  + (8 : Int))) fun x74 => Bd (IntKind.wrap IntKind.i64 (x74 + x63)) fun x75 => ∃ v76, ((!b72) = true → ∀ (w78 : World), J64 w78 → RunV Try.prog (Instr.sliceAt (9 : Nat)
  (Value.string s18) (some (Value.int IntKind.i64 x73)) (some (Value.int IntKind.i64 x75)) none) v76 w78) ∧ opStr v76 fun s80 => Bd (IntKind.wrap IntKind.i64 (x30 + (4 :
  Int))) fun x81 => Bd (IntKind.wrap IntKind.i64 (x30 + (4 : Int))) fun x82 => Bd (IntKind.wrap IntKind.i64 (x82 + x63)) fun x83 => ∃ v84, ((!b72) = true → ∀ (w86 :
  World), J64 w86 → RunV Try.prog (Instr.sliceAt (9 : Nat) (Value.string s18) (some (Value.int IntKind.i64 x81)) (some (Value.int IntKind.i64 x83)) none) v84 w86) ∧ opStr
  v84 fun s88 => Gd (!b72) ByteArray.empty (fun J89 => CallW Try.prog [n2, n1] (209 : Nat) #[Value.string s88] (fun v90 w91 => opStr v90 fun s92 => J89 s92 w91)
  (World.drew w61)) (fun s93 w94 => J64 w94 ∧ Bd (!ByteArray.toList s80 == ByteArray.toList s93) fun b95 => Bd (bif b72 then true else b95) fun b96 => If b96 (Up [n2]
  [n2, n1] w94 fun w97 => R (Value.tuple #[Value.agg #[Value.slice none (0 : Nat) (0 : Nat), Value.slice none (0 : Nat) (0 : Nat), Value.int IntKind.i64 (0 : Int),
  Value.int IntKind.i64 (0 : Int), Value.int IntKind.i64 (0 : Int), Value.bool false], Value.slice none (0 : Nat) (0 : Nat), Value.int IntKind.i64 (210 : Int)]) w97) (Bd
  (IntKind.wrap IntKind.i64 (x30 + (4 : Int))) fun x98 => Bd (IntKind.wrap IntKind.i64 (x30 + (4 : Int))) fun x99 => Bd (IntKind.wrap IntKind.i64 (x99 + x63)) fun x100 =>
  RunW Try.prog [n2, n1] (Instr.sliceAt (9 : Nat) (Value.string s18) (some (Value.int IntKind.i64 x98)) (some (Value.int IntKind.i64 x100)) none) (fun v101 w102 => opStr
  v101 fun s103 => Nw (Obj.cells #[Value.string s103] (9 : Nat)) w102 fun n104 w105 => RunW Try.prog [n2, n1] (Builtin.append_ #[(55 : Nat), (55 : Nat)] (55 : Nat)
  #[Value.slice a27 n28 n29, Value.slice (some (Addr.mk n104 (0 : Nat) none)) (1 : Nat) (1 : Nat)]) (fun v106 w107 => opL v106 fun a108 n109 n110 => Bd (IntKind.wrap
  IntKind.i64 (x30 + (8 : Int))) fun x111 => Bd (IntKind.wrap IntKind.i64 (x111 + x63)) fun x112 => J21 [Value.slice a23 n24 n25, Value.int IntKind.i64 x26, Value.slice
  a108 n109 n110, Value.int IntKind.i64 x112] [Value.agg #[Value.slice a32 n33 n34, Value.slice a35 n36 n37, Value.int IntKind.i64 x38, Value.int IntKind.i64 x39,
  Value.int IntKind.i64 x40, Value.bool b41]] w107) w105) w94)) (World.drew w61)) w58) w22)) (Up [n2] [n2, n1] w22 fun w113 => R (Value.tuple #[Value.agg #[Value.slice
  p0_0a p0_0n p0_0c, Value.slice p0_1a p0_1n p0_1c, Value.int IntKind.i64 p0_2, Value.int IntKind.i64 x15, Value.int IntKind.i64 x30, Value.bool false], Value.slice a27
  n28 n29, Value.int IntKind.i64 (0 : Int)]) w113))) [Value.slice none (0 : Nat) (0 : Nat), Value.int IntKind.i64 (0 : Int), Value.slice none (0 : Nat) (0 : Nat),
  Value.int IntKind.i64 (0 : Int)] [Value.agg #[Value.slice none (0 : Nat) (0 : Nat), Value.slice none (0 : Nat) (0 : Nat), Value.int IntKind.i64 (0 : Int), Value.int
  IntKind.i64 (0 : Int), Value.int IntKind.i64 (0 : Int), Value.bool false]] w17) w11) w9))
theorem f137_eq (p0_0a : Option Addr) (p0_0n : Nat) (p0_0c : Nat) (p0_1a : Option Addr) (p0_1n : Nat) (p0_1c : Nat) (p0_2 : Int) (R : Value → World → Prop) (w : World) :
  fnW Try.prog [1, 2, 100013] Try.f137 [Value.agg #[Value.slice p0_0a p0_0n p0_0c, Value.slice p0_1a p0_1n p0_1c, Value.int IntKind.i64 p0_2]] R w = f137_vc p0_0a p0_0n
  p0_0c p0_1a p0_1n p0_1c p0_2 R w := by kernel_rfl
theorem f137_in (p0_0a : Option Addr) (p0_0n : Nat) (p0_0c : Nat) (p0_1a : Option Addr) (p0_1n : Nat) (p0_1c : Nat) (p0_2 : Int) (R : Value → World → Prop) (w : World) (h
  : f137_vc p0_0a p0_0n p0_0c p0_1a p0_1n p0_1c p0_2 R w) : Ct Try.prog 137 #[Value.agg #[Value.slice p0_0a p0_0n p0_0c, Value.slice p0_1a p0_1n p0_1c, Value.int
  IntKind.i64 p0_2]] w R := by
  refine Ct_of (rk := [1, 2, 100013]) (fn := Try.f137) (args := [Value.agg #[Value.slice p0_0a p0_0n p0_0c, Value.slice p0_1a p0_1n p0_1c, Value.int IntKind.i64 p0_2]]) mixedT Try.func137 (by kernel_rfl) ?_
  rw [f137_eq]
  exact h
end Fk
