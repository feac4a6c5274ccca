/- Conditions of functions, as the generator works them out; each one is checked by the kernel. -/
import Derived.Test.YtpgjpgecgibklaaGK2
set_option linter.unusedVariables false
set_option maxRecDepth 1000000
set_option maxHeartbeats 4000000
namespace Fk
open Go Go.Proofs Go.RowKit
def f141_vc (p0_0a : Option Addr) (p0_0n : Nat) (p0_0c : Nat) (p0_1a : Option Addr) (p0_1n : Nat) (p0_1c : Nat) (p0_2 : Int) (p0_3 : Int) (p0_4 : Int) (p0_5 : Bool) (p1 :
  ByteArray) (R : Value → World → Prop) (w : World) : Prop := Rg w fun n1 => Rg w fun n2 => If p0_5 (Up [n2] [n2, n1] w fun w3 => R (Value.tuple #[Value.agg #[Value.slice
  p0_0a p0_0n p0_0c, Value.slice p0_1a p0_1n p0_1c, Value.int IntKind.i64 p0_2, Value.int IntKind.i64 p0_3, Value.int IntKind.i64 p0_4, Value.bool p0_5], Value.int
  IntKind.i64 (200 : Int)]) w3) (Bd (((ByteArray.size p1) : Nat) : Int) fun x4 => Bd (decide (x4 < (1 : Int))) fun b5 => Bd (((ByteArray.size p1) : Nat) : Int) fun x6 =>
  Bd (decide (x6 > (1048576 : Int))) fun b7 => Bd (bif b5 then true else b7) fun b8 => If b8 (Up [n2] [n2, n1] w fun w9 => R (Value.tuple #[Value.agg #[Value.slice p0_0a
  p0_0n p0_0c, Value.slice p0_1a p0_1n p0_1c, Value.int IntKind.i64 p0_2, Value.int IntKind.i64 p0_3, Value.int IntKind.i64 p0_4, Value.bool p0_5], Value.int IntKind.i64
  (3 : Int)]) w9) (Up [] [n2, n1] w fun w10 => CallW Try.prog [n2, n1] (209 : Nat) #[Value.string p1] (fun v11 w12 => opStr v11 fun s13 => Dr (World.drew w12) fun J14 =>
  Bd (IntKind.wrap IntKind.i64 (p0_4 + (1 : Int))) fun x15 => Bd (((ByteArray.size s13) : Nat) : Int) fun x16 => Bd (IntKind.wrap IntKind.i64 (x15 + x16)) fun x17 =>
  CallW Try.prog [n2, n1] (210 : Nat) #[Value.agg #[Value.slice p0_0a p0_0n p0_0c, Value.slice p0_1a p0_1n p0_1c, Value.int IntKind.i64 p0_2]] (fun v18 w19 => opI
  IntKind.i64 v18 fun x20 => J14 w19 ∧ Bd (decide (x17 > x20)) fun b21 => If b21 (Up [n2] [n2, n1] w19 fun w22 => R (Value.tuple #[Value.agg #[Value.slice p0_0a p0_0n
  p0_0c, Value.slice p0_1a p0_1n p0_1c, Value.int IntKind.i64 p0_2, Value.int IntKind.i64 p0_3, Value.int IntKind.i64 p0_4, Value.bool p0_5], Value.int IntKind.i64 (4 :
  Int)]) w22) (RunW Try.prog [n2, n1] (eqS BinOp.add (9 : Nat) (Operand.const (Value.string (ByteArray.mk #[(0 : UInt8)]))) (Operand.tmp (43 : Nat)) (Value.string
  (ByteArray.mk #[(0 : UInt8)])) (Value.string s13)) (fun v23 w24 => opStr v23 fun s25 => CallW Try.prog [n2, n1] (211 : Nat) #[Value.agg #[Value.slice p0_0a p0_0n p0_0c,
  Value.slice p0_1a p0_1n p0_1c, Value.int IntKind.i64 p0_2], Value.int IntKind.i64 p0_3, Value.int IntKind.i64 p0_4, Value.string s25] (fun v26 w27 => opTu v26 fun cs28
  => opAg (nthD (Array.toList cs28) (0 : Nat)) fun cs29 => opL (nthD (Array.toList cs29) (0 : Nat)) fun a30 n31 n32 => opL (nthD (Array.toList cs29) (1 : Nat)) fun a33
  n34 n35 => opI IntKind.i64 (nthD (Array.toList cs29) (2 : Nat)) fun x36 => SzIs (Array.size cs29) (3 : Nat) (opB (nthD (Array.toList cs28) (1 : Nat)) fun b37 => SzIs
  (Array.size cs28) (2 : Nat) (Rg w27 fun n38 => Jn (fun l39 l40 w41 => opB (nthD l39 (0 : Nat)) fun b42 => opAg (nthD l40 (0 : Nat)) fun cs43 => opL (nthD (Array.toList
  cs43) (0 : Nat)) fun a44 n45 n46 => opL (nthD (Array.toList cs43) (1 : Nat)) fun a47 n48 n49 => opI IntKind.i64 (nthD (Array.toList cs43) (2 : Nat)) fun x50 => SzIs
  (Array.size cs43) (3 : Nat) (Bd (!b42) fun b51 => If b51 (Up [n2, n1, n1] [n38, n2, n1] w41 fun w52 => R (Value.tuple #[Value.agg #[Value.slice a44 n45 n46, Value.slice
  a47 n48 n49, Value.int IntKind.i64 x50, Value.int IntKind.i64 p0_3, Value.int IntKind.i64 p0_4, Value.bool true], Value.int IntKind.i64 (200 : Int)]) w52) (Bd
  (IntKind.wrap IntKind.i64 (p0_4 + (1 : Int))) fun x53 => Bd (((ByteArray.size s13) : Nat) : Int) fun x54 => Bd (IntKind.wrap IntKind.i64 (x53 + x54)) fun x55 => Up [n2,
  n1, n1] [n38, n2, n1] w41 fun w56 => R (Value.tuple #[Value.agg #[Value.slice a44 n45 n46, Value.slice a47 n48 n49, Value.int IntKind.i64 x50, Value.int IntKind.i64
  p0_3, Value.int IntKind.i64 x55, Value.bool p0_5], Value.int IntKind.i64 (0 : Int)]) w56))) fun J57 => If b37 (Up [n38] [n38, n2, n1] w27 fun w58 => Dr (World.drew w58)
  fun J59 => Bd (IntKind.wrap IntKind.i64 (Int.tdiv p0_4 (64 : Int))) fun x60 => CallW Try.prog [n38, n2, n1] (212 : Nat) #[Value.agg #[Value.slice a30 n31 n32,
  Value.slice a33 n34 n35, Value.int IntKind.i64 x36]] (fun v61 w62 => opI IntKind.i64 v61 fun x63 => J59 w62 ∧ Bd (IntKind.wrap IntKind.i64 (p0_3 * x63)) fun x64 => Bd
  (IntKind.wrap IntKind.i64 ((1 : Int) + x64)) fun x65 => Bd (IntKind.wrap IntKind.i64 (x65 + x60)) fun x66 => CallW Try.prog [n38, n2, n1] (120 : Nat) #[Value.agg
  #[Value.slice a30 n31 n32, Value.slice a33 n34 n35, Value.int IntKind.i64 x36], Value.int IntKind.i64 x66] (fun v67 w68 => opStr v67 fun s69 => Bd (Int.tmod p0_4 (64 :
  Int)) fun x70 => ∃ v71, (∀ (w72 : World), True → RunV Try.prog (Instr.sliceAt (9 : Nat) (Value.string s69) none (some (Value.int IntKind.i64 x70)) none) v71 w72) ∧
  opStr v71 fun s74 => ∃ v75, (∀ (w76 : World), True → RunV Try.prog (eqS BinOp.add (9 : Nat) (Operand.tmp (69 : Nat)) (Operand.const (Value.string (ByteArray.mk #[(1 :
  UInt8)]))) (Value.string s74) (Value.string (ByteArray.mk #[(1 : UInt8)]))) v75 w76) ∧ opStr v75 fun s78 => Bd (Int.tmod p0_4 (64 : Int)) fun x79 => Bd (IntKind.wrap
  IntKind.i64 (x79 + (1 : Int))) fun x80 => ∃ v81, (∀ (w82 : World), True → RunV Try.prog (Instr.sliceAt (9 : Nat) (Value.string s69) (some (Value.int IntKind.i64 x80))
  none none) v81 w82) ∧ opStr v81 fun s84 => ∃ v85, (∀ (w86 : World), True → RunV Try.prog (eqS BinOp.add (9 : Nat) (Operand.tmp (70 : Nat)) (Operand.tmp (76 : Nat))
  (Value.string s78) (Value.string s84)) v85 w86) ∧ opStr v85 fun s88 => CallW Try.prog [n38, n2, n1] (213 : Nat) #[Value.agg #[Value.slice a30 n31 n32, Value.slice a33
  n34 n35, Value.int IntKind.i64 x36], Value.int IntKind.i64 x66, Value.string s88] (fun v89 w90 => opTu v89 fun cs91 => opAg (nthD (Array.toList cs91) (0 : Nat)) fun
  cs92 => opL (nthD (Array.toList cs92) (0 : Nat)) fun a93 n94 n95 => opL (nthD (Array.toList cs92) (1 : Nat)) fun a96 n97 n98 => opI IntKind.i64 (nthD (Array.toList
  cs92) (2 : Nat)) fun x99 => SzIs (Array.size cs92) (3 : Nat) (opB (nthD (Array.toList cs91) (1 : Nat)) fun b100 => SzIs (Array.size cs91) (2 : Nat) (Up [n38] [n38, n2,
  n1] w90 fun w101 => J57 [Value.bool b100] [Value.agg #[Value.slice a93 n94 n95, Value.slice a96 n97 n98, Value.int IntKind.i64 x99]] w101))) (World.drew w68)) w62)
  (World.drew w58)) (Up [n38] [n38, n2, n1] w27 fun w102 => J57 [Value.bool b37] [Value.agg #[Value.slice a30 n31 n32, Value.slice a33 n34 n35, Value.int IntKind.i64
  x36]] w102)))) w24) w19)) (World.drew w12)) w10))
theorem f141_eq (p0_0a : Option Addr) (p0_0n : Nat) (p0_0c : Nat) (p0_1a : Option Addr) (p0_1n : Nat) (p0_1c : Nat) (p0_2 : Int) (p0_3 : Int) (p0_4 : Int) (p0_5 : Bool)
  (p1 : ByteArray) (R : Value → World → Prop) (w : World) : fnW Try.prog [2, 4, 7, 100006, 100010, 400012] Try.f141 [Value.agg #[Value.slice p0_0a p0_0n p0_0c,
  Value.slice p0_1a p0_1n p0_1c, Value.int IntKind.i64 p0_2, Value.int IntKind.i64 p0_3, Value.int IntKind.i64 p0_4, Value.bool p0_5], Value.string p1] R w = f141_vc
  p0_0a p0_0n p0_0c p0_1a p0_1n p0_1c p0_2 p0_3 p0_4 p0_5 p1 R w := by kernel_rfl
theorem f141_in (p0_0a : Option Addr) (p0_0n : Nat) (p0_0c : Nat) (p0_1a : Option Addr) (p0_1n : Nat) (p0_1c : Nat) (p0_2 : Int) (p0_3 : Int) (p0_4 : Int) (p0_5 : Bool)
  (p1 : ByteArray) (R : Value → World → Prop) (w : World) (h : f141_vc p0_0a p0_0n p0_0c p0_1a p0_1n p0_1c p0_2 p0_3 p0_4 p0_5 p1 R w) : Ct Try.prog 141 #[Value.agg
  #[Value.slice p0_0a p0_0n p0_0c, Value.slice p0_1a p0_1n p0_1c, Value.int IntKind.i64 p0_2, Value.int IntKind.i64 p0_3, Value.int IntKind.i64 p0_4, Value.bool p0_5],
  Value.string p1] w R := by
  refine Ct_of (rk := [2, 4, 7, 100006, 100010, 400012]) (fn := Try.f141) (args := [Value.agg #[Value.slice p0_0a p0_0n p0_0c, Value.slice p0_1a p0_1n p0_1c, Value.int IntKind.i64 p0_2, Value.int IntKind.i64 p0_3, Value.int IntKind.i64 p0_4, Value.bool p0_5], Value.string p1]) mixedT Try.func141 (by kernel_rfl) ?_
  rw [f141_eq]
  exact h
def f142_vc (p0_0a : Option Addr) (p0_0n : Nat) (p0_0c : Nat) (p0_1a : Option Addr) (p0_1n : Nat) (p0_1c : Nat) (p0_2 : Int) (p0_3 : Int) (p0_4 : Int) (p0_5 : Bool) (p1a
  : Option Addr) (p1n : Nat) (p1c : Nat) (R : Value → World → Prop) (w : World) : Prop := Rg w fun n1 => Rg w fun n2 => If p0_5 (Up [n2] [n2, n1] w fun w3 => R
  (Value.tuple #[Value.agg #[Value.slice p0_0a p0_0n p0_0c, Value.slice p0_1a p0_1n p0_1c, Value.int IntKind.i64 p0_2, Value.int IntKind.i64 p0_3, Value.int IntKind.i64
  p0_4, Value.bool p0_5], Value.int IntKind.i64 (200 : Int)]) w3) (Up [] [n2, n1] w fun w4 => LoopP (fun l5 l6 J7 w8 => opI IntKind.i64 (nthD l5 (0 : Nat)) fun x9 =>
  opStr (nthD l5 (1 : Nat)) fun s10 => opI IntKind.i64 (nthD l5 (2 : Nat)) fun x11 => opAg (nthD l6 (0 : Nat)) fun cs12 => opL (nthD (Array.toList cs12) (0 : Nat)) fun
  a13 n14 n15 => opL (nthD (Array.toList cs12) (1 : Nat)) fun a16 n17 n18 => opI IntKind.i64 (nthD (Array.toList cs12) (2 : Nat)) fun x19 => opI IntKind.i64 (nthD
  (Array.toList cs12) (3 : Nat)) fun x20 => opI IntKind.i64 (nthD (Array.toList cs12) (4 : Nat)) fun x21 => opB (nthD (Array.toList cs12) (5 : Nat)) fun b22 => SzIs
  (Array.size cs12) (6 : Nat) (Bd ((p1n : Nat) : Int) fun x23 => Bd (decide (x11 < x23)) fun b24 => If b24 (IxOk x11 p1n p1a ∧ Ld w8 (adAt p1a x11 (1 : Nat)) fun v25 =>
  opStr v25 fun s26 => Bd (((ByteArray.size s26) : Nat) : Int) fun x27 => Bd (decide (x27 < (1 : Int))) fun b28 => ((!b28) = true → IxOk x11 p1n p1a) ∧ Gd (!b28)
  ByteArray.empty (fun J30 => Ld w8 (adAt p1a x11 (1 : Nat)) fun v31 => opStr v31 fun s32 => J30 s32 w8) (fun s33 w34 => Bd (((ByteArray.size s33) : Nat) : Int) fun x35
  => Bd (decide (x35 > (1048576 : Int))) fun b36 => Bd (bif b28 then true else b36) fun b37 => If b37 (Up [n2] [n2, n1] w34 fun w38 => R (Value.tuple #[Value.agg
  #[Value.slice p0_0a p0_0n p0_0c, Value.slice p0_1a p0_1n p0_1c, Value.int IntKind.i64 p0_2, Value.int IntKind.i64 p0_3, Value.int IntKind.i64 p0_4, Value.bool p0_5],
  Value.int IntKind.i64 (3 : Int)]) w38) (RunW Try.prog [n2, n1] (eqS BinOp.add (9 : Nat) (Operand.tmp (34 : Nat)) (Operand.const (Value.string (ByteArray.mk #[(1 :
  UInt8)]))) (Value.string s10) (Value.string (ByteArray.mk #[(1 : UInt8)]))) (fun v39 w40 => opStr v39 fun s41 => IxOk x11 p1n p1a ∧ Ld w40 (adAt p1a x11 (1 : Nat)) fun
  v42 => opStr v42 fun s43 => CallW Try.prog [n2, n1] (209 : Nat) #[Value.string s43] (fun v44 w45 => opStr v44 fun s46 => RunW Try.prog [n2, n1] (eqS BinOp.add (9 : Nat)
  (Operand.tmp (35 : Nat)) (Operand.tmp (40 : Nat)) (Value.string s41) (Value.string s46)) (fun v47 w48 => opStr v47 fun s49 => Bd (IntKind.wrap IntKind.i64 (x11 + (1 :
  Int))) fun x50 => J7 [Value.int IntKind.i64 x9, Value.string s49, Value.int IntKind.i64 x50] [Value.agg #[Value.slice a13 n14 n15, Value.slice a16 n17 n18, Value.int
  IntKind.i64 x19, Value.int IntKind.i64 x20, Value.int IntKind.i64 x21, Value.bool b22]] w48) w45) w40) w34)) w8) (Bd (((ByteArray.size s10) : Nat) : Int) fun x51 =>
  CallW Try.prog [n2, n1] (210 : Nat) #[Value.agg #[Value.slice p0_0a p0_0n p0_0c, Value.slice p0_1a p0_1n p0_1c, Value.int IntKind.i64 p0_2]] (fun v52 w53 => opI
  IntKind.i64 v52 fun x54 => Bd (decide (x51 > x54)) fun b55 => If b55 (Up [n2] [n2, n1] w53 fun w56 => R (Value.tuple #[Value.agg #[Value.slice p0_0a p0_0n p0_0c,
  Value.slice p0_1a p0_1n p0_1c, Value.int IntKind.i64 p0_2, Value.int IntKind.i64 p0_3, Value.int IntKind.i64 p0_4, Value.bool p0_5], Value.int IntKind.i64 (4 : Int)])
  w56) (Bd (IntKind.wrap IntKind.i64 ((1 : Int) - p0_3)) fun x57 => CallW Try.prog [n2, n1] (211 : Nat) #[Value.agg #[Value.slice p0_0a p0_0n p0_0c, Value.slice p0_1a
  p0_1n p0_1c, Value.int IntKind.i64 p0_2], Value.int IntKind.i64 x57, Value.int IntKind.i64 (0 : Int), Value.string s10] (fun v58 w59 => opTu v58 fun cs60 => opAg (nthD
  (Array.toList cs60) (0 : Nat)) fun cs61 => opL (nthD (Array.toList cs61) (0 : Nat)) fun a62 n63 n64 => opL (nthD (Array.toList cs61) (1 : Nat)) fun a65 n66 n67 => opI
  IntKind.i64 (nthD (Array.toList cs61) (2 : Nat)) fun x68 => SzIs (Array.size cs61) (3 : Nat) (opB (nthD (Array.toList cs60) (1 : Nat)) fun b69 => SzIs (Array.size cs60)
  (2 : Nat) (Rg w59 fun n70 => Jn (fun l71 l72 w73 => opB (nthD l71 (0 : Nat)) fun b74 => opAg (nthD l72 (0 : Nat)) fun cs75 => opL (nthD (Array.toList cs75) (0 : Nat))
  fun a76 n77 n78 => opL (nthD (Array.toList cs75) (1 : Nat)) fun a79 n80 n81 => opI IntKind.i64 (nthD (Array.toList cs75) (2 : Nat)) fun x82 => SzIs (Array.size cs75) (3
  : Nat) (Bd (!b74) fun b83 => If b83 (Up [n2, n1, n1] [n70, n2, n1] w73 fun w84 => R (Value.tuple #[Value.agg #[Value.slice a76 n77 n78, Value.slice a79 n80 n81,
  Value.int IntKind.i64 x82, Value.int IntKind.i64 p0_3, Value.int IntKind.i64 p0_4, Value.bool true], Value.int IntKind.i64 (200 : Int)]) w84) (Bd (IntKind.wrap
  IntKind.i64 ((1 : Int) - p0_3)) fun x85 => Bd (((ByteArray.size s10) : Nat) : Int) fun x86 => Up [n2, n1, n1, n1] [n70, n2, n1] w73 fun w87 => R (Value.tuple
  #[Value.agg #[Value.slice a76 n77 n78, Value.slice a79 n80 n81, Value.int IntKind.i64 x82, Value.int IntKind.i64 x85, Value.int IntKind.i64 x86, Value.bool p0_5],
  Value.int IntKind.i64 (0 : Int)]) w87))) fun J88 => If b69 (Up [n70] [n70, n2, n1] w59 fun w89 => Bd (IntKind.wrap IntKind.i64 ((1 : Int) - p0_3)) fun x90 => Bd
  (IntKind.wrap IntKind.u8 x90) fun x91 => ((Nw (Obj.cells #[Value.int IntKind.u8 x91] (5 : Nat)) (World.drew w89) fun n92 w93 => RunW Try.prog [n70, n2, n1] (convert (51
  : Nat) (9 : Nat) (Value.slice (some (Addr.mk n92 (0 : Nat) none)) (1 : Nat) (1 : Nat))) (fun v94 w95 => opStr v94 fun s96 => RunW Try.prog [n70, n2, n1]
  (Instr.makeSlice (51 : Nat) (Value.int IntKind.i64 (63 : Int)) (Value.int IntKind.i64 (63 : Int))) (fun v97 w98 => opL v97 fun a99 n100 n101 => RunW Try.prog [n70, n2,
  n1] (convert (51 : Nat) (9 : Nat) (Value.slice a99 n100 n101)) (fun v102 w103 => opStr v102 fun s104 => ∃ v105, (∀ (w106 : World), True → RunV Try.prog (eqS BinOp.add
  (9 : Nat) (Operand.tmp (67 : Nat)) (Operand.tmp (69 : Nat)) (Value.string s96) (Value.string s104)) v105 w106) ∧ opStr v105 fun s108 => CallW Try.prog [n70, n2, n1]
  (213 : Nat) #[Value.agg #[Value.slice a62 n63 n64, Value.slice a65 n66 n67, Value.int IntKind.i64 x68], Value.int IntKind.i64 (0 : Int), Value.string s108] (fun v109
  w110 => opTu v109 fun cs111 => opAg (nthD (Array.toList cs111) (0 : Nat)) fun cs112 => opL (nthD (Array.toList cs112) (0 : Nat)) fun a113 n114 n115 => opL (nthD
  (Array.toList cs112) (1 : Nat)) fun a116 n117 n118 => opI IntKind.i64 (nthD (Array.toList cs112) (2 : Nat)) fun x119 => SzIs (Array.size cs112) (3 : Nat) (opB (nthD
  (Array.toList cs111) (1 : Nat)) fun b120 => SzIs (Array.size cs111) (2 : Nat) (Up [n70] [n70, n2, n1] w110 fun w121 => J88 [Value.bool b120] [Value.agg #[Value.slice
  a113 n114 n115, Value.slice a116 n117 n118, Value.int IntKind.i64 x119]] w121))) w103) w98) w95) w93 ∧ RunW Try.prog [n70, n2, n1] (Instr.makeSlice (51 : Nat)
  (Value.int IntKind.i64 (63 : Int)) (Value.int IntKind.i64 (63 : Int))) (fun v122 w123 => opL v122 fun a124 n125 n126 => RunW Try.prog [n70, n2, n1] (convert (51 : Nat)
  (9 : Nat) (Value.slice (some (Addr.mk n92 (0 : Nat) none)) (1 : Nat) (1 : Nat))) (fun v127 w128 => opStr v127 fun s129 => RunW Try.prog [n70, n2, n1] (convert (51 :
  Nat) (9 : Nat) (Value.slice a124 n125 n126)) (fun v130 w131 => opStr v130 fun s132 => ∃ v133, (∀ (w134 : World), True → RunV Try.prog (eqS BinOp.add (9 : Nat)
  (Operand.tmp (67 : Nat)) (Operand.tmp (69 : Nat)) (Value.string s129) (Value.string s132)) v133 w134) ∧ opStr v133 fun s136 => CallW Try.prog [n70, n2, n1] (213 : Nat)
  #[Value.agg #[Value.slice a62 n63 n64, Value.slice a65 n66 n67, Value.int IntKind.i64 x68], Value.int IntKind.i64 (0 : Int), Value.string s136] (fun v137 w138 => opTu
  v137 fun cs139 => opAg (nthD (Array.toList cs139) (0 : Nat)) fun cs140 => opL (nthD (Array.toList cs140) (0 : Nat)) fun a141 n142 n143 => opL (nthD (Array.toList cs140)
  (1 : Nat)) fun a144 n145 n146 => opI IntKind.i64 (nthD (Array.toList cs140) (2 : Nat)) fun x147 => SzIs (Array.size cs140) (3 : Nat) (opB (nthD (Array.toList cs139) (1
  : Nat)) fun b148 => SzIs (Array.size cs139) (2 : Nat) (Up [n70] [n70, n2, n1] w138 fun w149 => J88 [Value.bool b148] [Value.agg #[Value.slice a141 n142 n143,
  Value.slice a144 n145 n146, Value.int IntKind.i64 x147]] w149))) w131) w128) w123 ∧ RunW Try.prog [n70, n2, n1] (convert (51 : Nat) (9 : Nat) (Value.slice a124 n125
  n126)) (fun v150 w151 => opStr v150 fun s152 => RunW Try.prog [n70, n2, n1] (convert (51 : Nat) (9 : Nat) (Value.slice (some (Addr.mk n92 (0 : Nat) none)) (1 : Nat) (1
  : Nat))) (fun v153 w154 => opStr v153 fun s155 => ∃ v156, (∀ (w157 : World), True → RunV Try.prog (eqS BinOp.add (9 : Nat) (Operand.tmp (67 : Nat)) (Operand.tmp (69 :
  Nat)) (Value.string s155) (Value.string s152)) v156 w157) ∧ opStr v156 fun s159 => CallW Try.prog [n70, n2, n1] (213 : Nat) #[Value.agg #[Value.slice a62 n63 n64,
  Value.slice a65 n66 n67, Value.int IntKind.i64 x68], Value.int IntKind.i64 (0 : Int), Value.string s159] (fun v160 w161 => opTu v160 fun cs162 => opAg (nthD
  (Array.toList cs162) (0 : Nat)) fun cs163 => opL (nthD (Array.toList cs163) (0 : Nat)) fun a164 n165 n166 => opL (nthD (Array.toList cs163) (1 : Nat)) fun a167 n168
  n169 => opI IntKind.i64 (nthD (Array.toList cs163) (2 : Nat)) fun x170 => SzIs (Array.size cs163) (3 : Nat) (opB (nthD (Array.toList cs162) (1 : Nat)) fun b171 => SzIs
  (Array.size cs162) (2 : Nat) (Up [n70] [n70, n2, n1] w161 fun w172 => J88 [Value.bool b171] [Value.agg #[Value.slice a164 n165 n166, Value.slice a167 n168 n169,
  Value.int IntKind.i64 x170]] w172))) w154) w151) w123) w93) ∧ RunW Try.prog [n70, n2, n1] (Instr.makeSlice (51 : Nat) (Value.int IntKind.i64 (63 : Int)) (Value.int
  IntKind.i64 (63 : Int))) (fun v173 w174 => opL v173 fun a175 n176 n177 => (Nw (Obj.cells #[Value.int IntKind.u8 x91] (5 : Nat)) w174 fun n178 w179 => RunW Try.prog
  [n70, n2, n1] (convert (51 : Nat) (9 : Nat) (Value.slice (some (Addr.mk n178 (0 : Nat) none)) (1 : Nat) (1 : Nat))) (fun v180 w181 => opStr v180 fun s182 => RunW
  Try.prog [n70, n2, n1] (convert (51 : Nat) (9 : Nat) (Value.slice a175 n176 n177)) (fun v183 w184 => opStr v183 fun s185 => ∃ v186, (∀ (w187 : World), True → RunV
  Try.prog (eqS BinOp.add (9 : Nat) (Operand.tmp (67 : Nat)) (Operand.tmp (69 : Nat)) (Value.string s182) (Value.string s185)) v186 w187) ∧ opStr v186 fun s189 => CallW
  Try.prog [n70, n2, n1] (213 : Nat) #[Value.agg #[Value.slice a62 n63 n64, Value.slice a65 n66 n67, Value.int IntKind.i64 x68], Value.int IntKind.i64 (0 : Int),
  Value.string s189] (fun v190 w191 => opTu v190 fun cs192 => opAg (nthD (Array.toList cs192) (0 : Nat)) fun cs193 => opL (nthD (Array.toList cs193) (0 : Nat)) fun a194
  n195 n196 => opL (nthD (Array.toList cs193) (1 : Nat)) fun a197 n198 n199 => opI IntKind.i64 (nthD (Array.toList cs193) (2 : Nat)) fun x200 => SzIs (Array.size cs193)
  (3 : Nat) (opB (nthD (Array.toList cs192) (1 : Nat)) fun b201 => SzIs (Array.size cs192) (2 : Nat) (Up [n70] [n70, n2, n1] w191 fun w202 => J88 [Value.bool b201]
  [Value.agg #[Value.slice a194 n195 n196, Value.slice a197 n198 n199, Value.int IntKind.i64 x200]] w202))) w184) w181) w179 ∧ RunW Try.prog [n70, n2, n1] (convert (51 :
  Nat) (9 : Nat) (Value.slice a175 n176 n177)) (fun v203 w204 => opStr v203 fun s205 => RunW Try.prog [n70, n2, n1] (convert (51 : Nat) (9 : Nat) (Value.slice (some
  (Addr.mk n178 (0 : Nat) none)) (1 : Nat) (1 : Nat))) (fun v206 w207 => opStr v206 fun s208 => ∃ v209, (∀ (w210 : World), True → RunV Try.prog (eqS BinOp.add (9 : Nat)
  (Operand.tmp (67 : Nat)) (Operand.tmp (69 : Nat)) (Value.string s208) (Value.string s205)) v209 w210) ∧ opStr v209 fun s212 => CallW Try.prog [n70, n2, n1] (213 : Nat)
  #[Value.agg #[Value.slice a62 n63 n64, Value.slice a65 n66 n67, Value.int IntKind.i64 x68], Value.int IntKind.i64 (0 : Int), Value.string s212] (fun v213 w214 => opTu
  v213 fun cs215 => opAg (nthD (Array.toList cs215) (0 : Nat)) fun cs216 => opL (nthD (Array.toList cs216) (0 : Nat)) fun a217 n218 n219 => opL (nthD (Array.toList cs216)
  (1 : Nat)) fun a220 n221 n222 => opI IntKind.i64 (nthD (Array.toList cs216) (2 : Nat)) fun x223 => SzIs (Array.size cs216) (3 : Nat) (opB (nthD (Array.toList cs215) (1
  : Nat)) fun b224 => SzIs (Array.size cs215) (2 : Nat) (Up [n70] [n70, n2, n1] w214 fun w225 => J88 [Value.bool b224] [Value.agg #[Value.slice a217 n218 n219,
  Value.slice a220 n221 n222, Value.int IntKind.i64 x223]] w225))) w207) w204) w179) ∧ RunW Try.prog [n70, n2, n1] (convert (51 : Nat) (9 : Nat) (Value.slice a175 n176
  n177)) (fun v226 w227 => opStr v226 fun s228 => Nw (Obj.cells #[Value.int IntKind.u8 x91] (5 : Nat)) w227 fun n229 w230 => RunW Try.prog [n70, n2, n1] (convert (51 :
  Nat) (9 : Nat) (Value.slice (some (Addr.mk n229 (0 : Nat) none)) (1 : Nat) (1 : Nat))) (fun v231 w232 => opStr v231 fun s233 => ∃ v234, (∀ (w235 : World), True → RunV
  Try.prog (eqS BinOp.add (9 : Nat) (Operand.tmp (67 : Nat)) (Operand.tmp (69 : Nat)) (Value.string s233) (Value.string s228)) v234 w235) ∧ opStr v234 fun s237 => CallW
  Try.prog [n70, n2, n1] (213 : Nat) #[Value.agg #[Value.slice a62 n63 n64, Value.slice a65 n66 n67, Value.int IntKind.i64 x68], Value.int IntKind.i64 (0 : Int),
  Value.string s237] (fun v238 w239 => opTu v238 fun cs240 => opAg (nthD (Array.toList cs240) (0 : Nat)) fun cs241 => opL (nthD (Array.toList cs241) (0 : Nat)) fun a242
  n243 n244 => opL (nthD (Array.toList cs241) (1 : Nat)) fun a245 n246 n247 => opI IntKind.i64 (nthD (Array.toList cs241) (2 : Nat)) fun x248 => SzIs (Array.size cs241)
  (3 : Nat) (opB (nthD (Array.toList cs240) (1 : Nat)) fun b249 => SzIs (Array.size cs240) (2 : Nat) (Up [n70] [n70, n2, n1] w239 fun w250 => J88 [Value.bool b249]
  [Value.agg #[Value.slice a242 n243 n244, Value.slice a245 n246 n247, Value.int IntKind.i64 x248]] w250))) w232) w230) w174) (World.drew w89)) ∧ (Nw (Obj.cells
  #[Value.int IntKind.u8 x91] (5 : Nat)) (World.drew w89) fun n251 w252 => (RunW Try.prog [n70, n2, n1] (convert (51 : Nat) (9 : Nat) (Value.slice (some (Addr.mk n251 (0
  : Nat) none)) (1 : Nat) (1 : Nat))) (fun v253 w254 => opStr v253 fun s255 => RunW Try.prog [n70, n2, n1] (Instr.makeSlice (51 : Nat) (Value.int IntKind.i64 (63 : Int))
  (Value.int IntKind.i64 (63 : Int))) (fun v256 w257 => opL v256 fun a258 n259 n260 => RunW Try.prog [n70, n2, n1] (convert (51 : Nat) (9 : Nat) (Value.slice a258 n259
  n260)) (fun v261 w262 => opStr v261 fun s263 => ∃ v264, (∀ (w265 : World), True → RunV Try.prog (eqS BinOp.add (9 : Nat) (Operand.tmp (67 : Nat)) (Operand.tmp (69 :
  Nat)) (Value.string s255) (Value.string s263)) v264 w265) ∧ opStr v264 fun s267 => CallW Try.prog [n70, n2, n1] (213 : Nat) #[Value.agg #[Value.slice a62 n63 n64,
  Value.slice a65 n66 n67, Value.int IntKind.i64 x68], Value.int IntKind.i64 (0 : Int), Value.string s267] (fun v268 w269 => opTu v268 fun cs270 => opAg (nthD
  (Array.toList cs270) (0 : Nat)) fun cs271 => opL (nthD (Array.toList cs271) (0 : Nat)) fun a272 n273 n274 => opL (nthD (Array.toList cs271) (1 : Nat)) fun a275 n276
  n277 => opI IntKind.i64 (nthD (Array.toList cs271) (2 : Nat)) fun x278 => SzIs (Array.size cs271) (3 : Nat) (opB (nthD (Array.toList cs270) (1 : Nat)) fun b279 => SzIs
  (Array.size cs270) (2 : Nat) (Up [n70] [n70, n2, n1] w269 fun w280 => J88 [Value.bool b279] [Value.agg #[Value.slice a272 n273 n274, Value.slice a275 n276 n277,
  Value.int IntKind.i64 x278]] w280))) w262) w257) w254) w252 ∧ RunW Try.prog [n70, n2, n1] (Instr.makeSlice (51 : Nat) (Value.int IntKind.i64 (63 : Int)) (Value.int
  IntKind.i64 (63 : Int))) (fun v281 w282 => opL v281 fun a283 n284 n285 => RunW Try.prog [n70, n2, n1] (convert (51 : Nat) (9 : Nat) (Value.slice (some (Addr.mk n251 (0
  : Nat) none)) (1 : Nat) (1 : Nat))) (fun v286 w287 => opStr v286 fun s288 => RunW Try.prog [n70, n2, n1] (convert (51 : Nat) (9 : Nat) (Value.slice a283 n284 n285))
  (fun v289 w290 => opStr v289 fun s291 => ∃ v292, (∀ (w293 : World), True → RunV Try.prog (eqS BinOp.add (9 : Nat) (Operand.tmp (67 : Nat)) (Operand.tmp (69 : Nat))
  (Value.string s288) (Value.string s291)) v292 w293) ∧ opStr v292 fun s295 => CallW Try.prog [n70, n2, n1] (213 : Nat) #[Value.agg #[Value.slice a62 n63 n64, Value.slice
  a65 n66 n67, Value.int IntKind.i64 x68], Value.int IntKind.i64 (0 : Int), Value.string s295] (fun v296 w297 => opTu v296 fun cs298 => opAg (nthD (Array.toList cs298) (0
  : Nat)) fun cs299 => opL (nthD (Array.toList cs299) (0 : Nat)) fun a300 n301 n302 => opL (nthD (Array.toList cs299) (1 : Nat)) fun a303 n304 n305 => opI IntKind.i64
  (nthD (Array.toList cs299) (2 : Nat)) fun x306 => SzIs (Array.size cs299) (3 : Nat) (opB (nthD (Array.toList cs298) (1 : Nat)) fun b307 => SzIs (Array.size cs298) (2 :
  Nat) (Up [n70] [n70, n2, n1] w297 fun w308 => J88 [Value.bool b307] [Value.agg #[Value.slice a300 n301 n302, Value.slice a303 n304 n305, Value.int IntKind.i64 x306]]
  w308))) w290) w287) w282 ∧ RunW Try.prog [n70, n2, n1] (convert (51 : Nat) (9 : Nat) (Value.slice a283 n284 n285)) (fun v309 w310 => opStr v309 fun s311 => RunW
  Try.prog [n70, n2, n1] (convert (51 : Nat) (9 : Nat) (Value.slice (some (Addr.mk n251 (0 : Nat) none)) (1 : Nat) (1 : Nat))) (fun v312 w313 => opStr v312 fun s314 => ∃
  v315, (∀ (w316 : World), True → RunV Try.prog (eqS BinOp.add (9 : Nat) (Operand.tmp (67 : Nat)) (Operand.tmp (69 : Nat)) (Value.string s314) (Value.string s311)) v315
  w316) ∧ opStr v315 fun s318 => CallW Try.prog [n70, n2, n1] (213 : Nat) #[Value.agg #[Value.slice a62 n63 n64, Value.slice a65 n66 n67, Value.int IntKind.i64 x68],
  Value.int IntKind.i64 (0 : Int), Value.string s318] (fun v319 w320 => opTu v319 fun cs321 => opAg (nthD (Array.toList cs321) (0 : Nat)) fun cs322 => opL (nthD
  (Array.toList cs322) (0 : Nat)) fun a323 n324 n325 => opL (nthD (Array.toList cs322) (1 : Nat)) fun a326 n327 n328 => opI IntKind.i64 (nthD (Array.toList cs322) (2 :
  Nat)) fun x329 => SzIs (Array.size cs322) (3 : Nat) (opB (nthD (Array.toList cs321) (1 : Nat)) fun b330 => SzIs (Array.size cs321) (2 : Nat) (Up [n70] [n70, n2, n1]
  w320 fun w331 => J88 [Value.bool b330] [Value.agg #[Value.slice a323 n324 n325, Value.slice a326 n327 n328, Value.int IntKind.i64 x329]] w331))) w313) w310) w282) w252)
  ∧ RunW Try.prog [n70, n2, n1] (convert (51 : Nat) (9 : Nat) (Value.slice (some (Addr.mk n251 (0 : Nat) none)) (1 : Nat) (1 : Nat))) (fun v332 w333 => opStr v332 fun
  s334 => RunW Try.prog [n70, n2, n1] (Instr.makeSlice (51 : Nat) (Value.int IntKind.i64 (63 : Int)) (Value.int IntKind.i64 (63 : Int))) (fun v335 w336 => opL v335 fun
  a337 n338 n339 => RunW Try.prog [n70, n2, n1] (convert (51 : Nat) (9 : Nat) (Value.slice a337 n338 n339)) (fun v340 w341 => opStr v340 fun s342 => ∃ v343, (∀ (w344 :
  World), True → RunV Try.prog (eqS BinOp.add (9 : Nat) (Operand.tmp (67 : Nat)) (Operand.tmp (69 : Nat)) (Value.string s334) (Value.string s342)) v343 w344) ∧ opStr v343
  fun s346 => CallW Try.prog [n70, n2, n1] (213 : Nat) #[Value.agg #[Value.slice a62 n63 n64, Value.slice a65 n66 n67, Value.int IntKind.i64 x68], Value.int IntKind.i64
  (0 : Int), Value.string s346] (fun v347 w348 => opTu v347 fun cs349 => opAg (nthD (Array.toList cs349) (0 : Nat)) fun cs350 => opL (nthD (Array.toList cs350) (0 : Nat))
  fun a351 n352 n353 => opL (nthD (Array.toList cs350) (1 : Nat)) fun a354 n355 n356 => opI IntKind.i64 (nthD (Array.toList cs350) (2 : Nat)) fun x357 => SzIs (Array.size
  cs350) (3 : Nat) (opB (nthD (Array.toList cs349) (1 : Nat)) fun b358 => SzIs (Array.size cs349) (2 : Nat) (Up [n70] [n70, n2, n1] w348 fun w359 => J88 [Value.bool b358]
  [Value.agg #[Value.slice a351 n352 n353, Value.slice a354 n355 n356, Value.int IntKind.i64 x357]] w359))) w341) w336) w333 ∧ RunW Try.prog [n70, n2, n1]
  (Instr.makeSlice (51 : Nat) (Value.int IntKind.i64 (63 : Int)) (Value.int IntKind.i64 (63 : Int))) (fun v360 w361 => opL v360 fun a362 n363 n364 => RunW Try.prog [n70,
  n2, n1] (convert (51 : Nat) (9 : Nat) (Value.slice a362 n363 n364)) (fun v365 w366 => opStr v365 fun s367 => ∃ v368, (∀ (w369 : World), True → RunV Try.prog (eqS
  BinOp.add (9 : Nat) (Operand.tmp (67 : Nat)) (Operand.tmp (69 : Nat)) (Value.string s334) (Value.string s367)) v368 w369) ∧ opStr v368 fun s371 => CallW Try.prog [n70,
  n2, n1] (213 : Nat) #[Value.agg #[Value.slice a62 n63 n64, Value.slice a65 n66 n67, Value.int IntKind.i64 x68], Value.int IntKind.i64 (0 : Int), Value.string s371] (fun
  v372 w373 => opTu v372 fun cs374 => opAg (nthD (Array.toList cs374) (0 : Nat)) fun cs375 => opL (nthD (Array.toList cs375) (0 : Nat)) fun a376 n377 n378 => opL (nthD
  (Array.toList cs375) (1 : Nat)) fun a379 n380 n381 => opI IntKind.i64 (nthD (Array.toList cs375) (2 : Nat)) fun x382 => SzIs (Array.size cs375) (3 : Nat) (opB (nthD
  (Array.toList cs374) (1 : Nat)) fun b383 => SzIs (Array.size cs374) (2 : Nat) (Up [n70] [n70, n2, n1] w373 fun w384 => J88 [Value.bool b383] [Value.agg #[Value.slice
  a376 n377 n378, Value.slice a379 n380 n381, Value.int IntKind.i64 x382]] w384))) w366) w361 ∧ RunW Try.prog [n70, n2, n1] (convert (51 : Nat) (9 : Nat) (Value.slice
  a362 n363 n364)) (fun v385 w386 => opStr v385 fun s387 => ∃ v388, (∀ (w389 : World), True → RunV Try.prog (eqS BinOp.add (9 : Nat) (Operand.tmp (67 : Nat)) (Operand.tmp
  (69 : Nat)) (Value.string s334) (Value.string s387)) v388 w389) ∧ opStr v388 fun s391 => CallW Try.prog [n70, n2, n1] (213 : Nat) #[Value.agg #[Value.slice a62 n63 n64,
  Value.slice a65 n66 n67, Value.int IntKind.i64 x68], Value.int IntKind.i64 (0 : Int), Value.string s391] (fun v392 w393 => opTu v392 fun cs394 => opAg (nthD
  (Array.toList cs394) (0 : Nat)) fun cs395 => opL (nthD (Array.toList cs395) (0 : Nat)) fun a396 n397 n398 => opL (nthD (Array.toList cs395) (1 : Nat)) fun a399 n400
  n401 => opI IntKind.i64 (nthD (Array.toList cs395) (2 : Nat)) fun x402 => SzIs (Array.size cs395) (3 : Nat) (opB (nthD (Array.toList cs394) (1 : Nat)) fun b403 => SzIs
  (Array.size cs394) (2 : Nat) (Up [n70] [n70, n2, n1] w393 fun w404 => J88 [Value.bool b403] [Value.agg #[Value.slice a396 n397 n398, Value.slice a399 n400 n401,
  Value.int IntKind.i64 x402]] w404))) w386) w361) w333) w252 ∧ RunW Try.prog [n70, n2, n1] (Instr.makeSlice (51 : Nat) (Value.int IntKind.i64 (63 : Int)) (Value.int
  IntKind.i64 (63 : Int))) (fun v405 w406 => opL v405 fun a407 n408 n409 => (RunW Try.prog [n70, n2, n1] (convert (51 : Nat) (9 : Nat) (Value.slice (some (Addr.mk n251 (0
  : Nat) none)) (1 : Nat) (1 : Nat))) (fun v410 w411 => opStr v410 fun s412 => RunW Try.prog [n70, n2, n1] (convert (51 : Nat) (9 : Nat) (Value.slice a407 n408 n409))
  (fun v413 w414 => opStr v413 fun s415 => ∃ v416, (∀ (w417 : World), True → RunV Try.prog (eqS BinOp.add (9 : Nat) (Operand.tmp (67 : Nat)) (Operand.tmp (69 : Nat))
  (Value.string s412) (Value.string s415)) v416 w417) ∧ opStr v416 fun s419 => CallW Try.prog [n70, n2, n1] (213 : Nat) #[Value.agg #[Value.slice a62 n63 n64, Value.slice
  a65 n66 n67, Value.int IntKind.i64 x68], Value.int IntKind.i64 (0 : Int), Value.string s419] (fun v420 w421 => opTu v420 fun cs422 => opAg (nthD (Array.toList cs422) (0
  : Nat)) fun cs423 => opL (nthD (Array.toList cs423) (0 : Nat)) fun a424 n425 n426 => opL (nthD (Array.toList cs423) (1 : Nat)) fun a427 n428 n429 => opI IntKind.i64
  (nthD (Array.toList cs423) (2 : Nat)) fun x430 => SzIs (Array.size cs423) (3 : Nat) (opB (nthD (Array.toList cs422) (1 : Nat)) fun b431 => SzIs (Array.size cs422) (2 :
  Nat) (Up [n70] [n70, n2, n1] w421 fun w432 => J88 [Value.bool b431] [Value.agg #[Value.slice a424 n425 n426, Value.slice a427 n428 n429, Value.int IntKind.i64 x430]]
  w432))) w414) w411) w406 ∧ RunW Try.prog [n70, n2, n1] (convert (51 : Nat) (9 : Nat) (Value.slice a407 n408 n409)) (fun v433 w434 => opStr v433 fun s435 => RunW
  Try.prog [n70, n2, n1] (convert (51 : Nat) (9 : Nat) (Value.slice (some (Addr.mk n251 (0 : Nat) none)) (1 : Nat) (1 : Nat))) (fun v436 w437 => opStr v436 fun s438 => ∃
  v439, (∀ (w440 : World), True → RunV Try.prog (eqS BinOp.add (9 : Nat) (Operand.tmp (67 : Nat)) (Operand.tmp (69 : Nat)) (Value.string s438) (Value.string s435)) v439
  w440) ∧ opStr v439 fun s442 => CallW Try.prog [n70, n2, n1] (213 : Nat) #[Value.agg #[Value.slice a62 n63 n64, Value.slice a65 n66 n67, Value.int IntKind.i64 x68],
  Value.int IntKind.i64 (0 : Int), Value.string s442] (fun v443 w444 => opTu v443 fun cs445 => opAg (nthD (Array.toList cs445) (0 : Nat)) fun cs446 => opL (nthD
  (Array.toList cs446) (0 : Nat)) fun a447 n448 n449 => opL (nthD (Array.toList cs446) (1 : Nat)) fun a450 n451 n452 => opI IntKind.i64 (nthD (Array.toList cs446) (2 :
  Nat)) fun x453 => SzIs (Array.size cs446) (3 : Nat) (opB (nthD (Array.toList cs445) (1 : Nat)) fun b454 => SzIs (Array.size cs445) (2 : Nat) (Up [n70] [n70, n2, n1]
  w444 fun w455 => J88 [Value.bool b454] [Value.agg #[Value.slice a447 n448 n449, Value.slice a450 n451 n452, Value.int IntKind.i64 x453]] w455))) w437) w434) w406) ∧
  RunW Try.prog [n70, n2, n1] (convert (51 : Nat) (9 : Nat) (Value.slice (some (Addr.mk n251 (0 : Nat) none)) (1 : Nat) (1 : Nat))) (fun v456 w457 => opStr v456 fun s458
  => RunW Try.prog [n70, n2, n1] (convert (51 : Nat) (9 : Nat) (Value.slice a407 n408 n409)) (fun v459 w460 => opStr v459 fun s461 => ∃ v462, (∀ (w463 : World), True →
  RunV Try.prog (eqS BinOp.add (9 : Nat) (Operand.tmp (67 : Nat)) (Operand.tmp (69 : Nat)) (Value.string s458) (Value.string s461)) v462 w463) ∧ opStr v462 fun s465 =>
  CallW Try.prog [n70, n2, n1] (213 : Nat) #[Value.agg #[Value.slice a62 n63 n64, Value.slice a65 n66 n67, Value.int IntKind.i64 x68], Value.int IntKind.i64 (0 : Int),
  Value.string s465] (fun v466 w467 => opTu v466 fun cs468 => opAg (nthD (Array.toList cs468) (0 : Nat)) fun cs469 => opL (nthD (Array.toList cs469) (0 : Nat)) fun a470
  n471 n472 => opL (nthD (Array.toList cs469) (1 : Nat)) fun a473 n474 n475 => opI IntKind.i64 (nthD (Array.toList cs469) (2 : Nat)) fun x476 => SzIs (Array.size cs469)
  (3 : Nat) (opB (nthD (Array.toList cs468) (1 : Nat)) fun b477 => SzIs (Array.size cs468) (2 : Nat) (Up [n70] [n70, n2, n1] w467 fun w478 => J88 [Value.bool b477]
  [Value.agg #[Value.slice a470 n471 n472, Value.slice a473 n474 n475, Value.int IntKind.i64 x476]] w478))) w460) w457 ∧ RunW Try.prog [n70, n2, n1] (convert (51 : Nat)
  (9 : Nat) (Value.slice a407 n408 n409)) (fun v479 w480 => opStr v479 fun s481 => ∃ v482, (∀ (w483 : World), True → RunV Try.prog (eqS BinOp.add (9 : Nat) (Operand.tmp
  (67 : Nat)) (Operand.tmp (69 : Nat)) (Value.string s458) (Value.string s481)) v482 w483) ∧ opStr v482 fun s485 => CallW Try.prog [n70, n2, n1] (213 : Nat) #[Value.agg
  #[Value.slice a62 n63 n64, Value.slice a65 n66 n67, Value.int IntKind.i64 x68], Value.int IntKind.i64 (0 : Int), Value.string s485] (fun v486 w487 => opTu v486 fun
  cs488 => opAg (nthD (Array.toList cs488) (0 : Nat)) fun cs489 => opL (nthD (Array.toList cs489) (0 : Nat)) fun a490 n491 n492 => opL (nthD (Array.toList cs489) (1 :
  Nat)) fun a493 n494 n495 => opI IntKind.i64 (nthD (Array.toList cs489) (2 : Nat)) fun x496 => SzIs (Array.size cs489) (3 : Nat) (opB (nthD (Array.toList cs488) (1 :
  Nat)) fun b497 => SzIs (Array.size cs488) (2 : Nat) (Up [n70] [n70, n2, n1] w487 fun w498 => J88 [Value.bool b497] [Value.agg #[Value.slice a490 n491 n492, Value.slice
  a493 n494 n495, Value.int IntKind.i64 x496]] w498))) w480) w457) w406 ∧ RunW Try.prog [n70, n2, n1] (convert (51 : Nat) (9 : Nat) (Value.slice a407 n408 n409)) (fun
  v499 w500 => opStr v499 fun s501 => RunW Try.prog [n70, n2, n1] (convert (51 : Nat) (9 : Nat) (Value.slice (some (Addr.mk n251 (0 : Nat) none)) (1 : Nat) (1 : Nat)))
  (fun v502 w503 => opStr v502 fun s504 => ∃ v505, (∀ (w506 : World), True → RunV Try.prog (eqS BinOp.add (9 : Nat) (Operand.tmp (67 : Nat)) (Operand.tmp (69 : Nat))
  (Value.string s504) (Value.string s501)) v505 w506) ∧ opStr v505 fun s508 => CallW Try.prog [n70, n2, n1] (213 : Nat) #[Value.agg #[Value.slice a62 n63 n64, Value.slice
  a65 n66 n67, Value.int IntKind.i64 x68], Value.int IntKind.i64 (0 : Int), Value.string s508] (fun v509 w510 => opTu v509 fun cs511 => opAg (nthD (Array.toList cs511) (0
  : Nat)) fun cs512 => opL (nthD (Array.toList cs512) (0 : Nat)) fun a513 n514 n515 => opL (nthD (Array.toList cs512) (1 : Nat)) fun a516 n517 n518 => opI IntKind.i64
  (nthD (Array.toList cs512) (2 : Nat)) fun x519 => SzIs (Array.size cs512) (3 : Nat) (opB (nthD (Array.toList cs511) (1 : Nat)) fun b520 => SzIs (Array.size cs511) (2 :
  Nat) (Up [n70] [n70, n2, n1] w510 fun w521 => J88 [Value.bool b520] [Value.agg #[Value.slice a513 n514 n515, Value.slice a516 n517 n518, Value.int IntKind.i64 x519]]
  w521))) w503) w500 ∧ RunW Try.prog [n70, n2, n1] (convert (51 : Nat) (9 : Nat) (Value.slice (some (Addr.mk n251 (0 : Nat) none)) (1 : Nat) (1 : Nat))) (fun v522 w523 =>
  opStr v522 fun s524 => ∃ v525, (∀ (w526 : World), True → RunV Try.prog (eqS BinOp.add (9 : Nat) (Operand.tmp (67 : Nat)) (Operand.tmp (69 : Nat)) (Value.string s524)
  (Value.string s501)) v525 w526) ∧ opStr v525 fun s528 => CallW Try.prog [n70, n2, n1] (213 : Nat) #[Value.agg #[Value.slice a62 n63 n64, Value.slice a65 n66 n67,
  Value.int IntKind.i64 x68], Value.int IntKind.i64 (0 : Int), Value.string s528] (fun v529 w530 => opTu v529 fun cs531 => opAg (nthD (Array.toList cs531) (0 : Nat)) fun
  cs532 => opL (nthD (Array.toList cs532) (0 : Nat)) fun a533 n534 n535 => opL (nthD (Array.toList cs532) (1 : Nat)) fun a536 n537 n538 => opI IntKind.i64 (nthD
  (Array.toList cs532) (2 : Nat)) fun x539 => SzIs (Array.size cs532) (3 : Nat) (opB (nthD (Array.toList cs531) (1 : Nat)) fun b540 => SzIs (Array.size cs531) (2 : Nat)
  (Up [n70] [n70, n2, n1] w530 fun w541 => J88 [Value.bool b540] [Value.agg #[Value.slice a533 n534 n535, Value.slice a536 n537 n538, Value.int IntKind.i64 x539]] w541)))
  w523) w500) w406) w252) ∧ RunW Try.prog [n70, n2, n1] (Instr.makeSlice (51 : Nat) (Value.int IntKind.i64 (63 : Int)) (Value.int IntKind.i64 (63 : Int))) (fun v542 w543
  => opL v542 fun a544 n545 n546 => ((Nw (Obj.cells #[Value.int IntKind.u8 x91] (5 : Nat)) w543 fun n547 w548 => RunW Try.prog [n70, n2, n1] (convert (51 : Nat) (9 : Nat)
  (Value.slice (some (Addr.mk n547 (0 : Nat) none)) (1 : Nat) (1 : Nat))) (fun v549 w550 => opStr v549 fun s551 => RunW Try.prog [n70, n2, n1] (convert (51 : Nat) (9 :
  Nat) (Value.slice a544 n545 n546)) (fun v552 w553 => opStr v552 fun s554 => ∃ v555, (∀ (w556 : World), True → RunV Try.prog (eqS BinOp.add (9 : Nat) (Operand.tmp (67 :
  Nat)) (Operand.tmp (69 : Nat)) (Value.string s551) (Value.string s554)) v555 w556) ∧ opStr v555 fun s558 => CallW Try.prog [n70, n2, n1] (213 : Nat) #[Value.agg
  #[Value.slice a62 n63 n64, Value.slice a65 n66 n67, Value.int IntKind.i64 x68], Value.int IntKind.i64 (0 : Int), Value.string s558] (fun v559 w560 => opTu v559 fun
  cs561 => opAg (nthD (Array.toList cs561) (0 : Nat)) fun cs562 => opL (nthD (Array.toList cs562) (0 : Nat)) fun a563 n564 n565 => opL (nthD (Array.toList cs562) (1 :
  Nat)) fun a566 n567 n568 => opI IntKind.i64 (nthD (Array.toList cs562) (2 : Nat)) fun x569 => SzIs (Array.size cs562) (3 : Nat) (opB (nthD (Array.toList cs561) (1 :
  Nat)) fun b570 => SzIs (Array.size cs561) (2 : Nat) (Up [n70] [n70, n2, n1] w560 fun w571 => J88 [Value.bool b570] [Value.agg #[Value.slice a563 n564 n565, Value.slice
  a566 n567 n568, Value.int IntKind.i64 x569]] w571))) w553) w550) w548 ∧ RunW Try.prog [n70, n2, n1] (convert (51 : Nat) (9 : Nat) (Value.slice a544 n545 n546)) (fun
  v572 w573 => opStr v572 fun s574 => RunW Try.prog [n70, n2, n1] (convert (51 : Nat) (9 : Nat) (Value.slice (some (Addr.mk n547 (0 : Nat) none)) (1 : Nat) (1 : Nat)))
  (fun v575 w576 => opStr v575 fun s577 => ∃ v578, (∀ (w579 : World), True → RunV Try.prog (eqS BinOp.add (9 : Nat) (Operand.tmp (67 : Nat)) (Operand.tmp (69 : Nat))
  (Value.string s577) (Value.string s574)) v578 w579) ∧ opStr v578 fun s581 => CallW Try.prog [n70, n2, n1] (213 : Nat) #[Value.agg #[Value.slice a62 n63 n64, Value.slice
  a65 n66 n67, Value.int IntKind.i64 x68], Value.int IntKind.i64 (0 : Int), Value.string s581] (fun v582 w583 => opTu v582 fun cs584 => opAg (nthD (Array.toList cs584) (0
  : Nat)) fun cs585 => opL (nthD (Array.toList cs585) (0 : Nat)) fun a586 n587 n588 => opL (nthD (Array.toList cs585) (1 : Nat)) fun a589 n590 n591 => opI IntKind.i64
  (nthD (Array.toList cs585) (2 : Nat)) fun x592 => SzIs (Array.size cs585) (3 : Nat) (opB (nthD (Array.toList cs584) (1 : Nat)) fun b593 => SzIs (Array.size cs584) (2 :
  Nat) (Up [n70] [n70, n2, n1] w583 fun w594 => J88 [Value.bool b593] [Value.agg #[Value.slice a586 n587 n588, Value.slice a589 n590 n591, Value.int IntKind.i64 x592]]
  w594))) w576) w573) w548) ∧ RunW Try.prog [n70, n2, n1] (convert (51 : Nat) (9 : Nat) (Value.slice a544 n545 n546)) (fun v595 w596 => opStr v595 fun s597 => Nw
  (Obj.cells #[Value.int IntKind.u8 x91] (5 : Nat)) w596 fun n598 w599 => RunW Try.prog [n70, n2, n1] (convert (51 : Nat) (9 : Nat) (Value.slice (some (Addr.mk n598 (0 :
  Nat) none)) (1 : Nat) (1 : Nat))) (fun v600 w601 => opStr v600 fun s602 => ∃ v603, (∀ (w604 : World), True → RunV Try.prog (eqS BinOp.add (9 : Nat) (Operand.tmp (67 :
  Nat)) (Operand.tmp (69 : Nat)) (Value.string s602) (Value.string s597)) v603 w604) ∧ opStr v603 fun s606 => CallW Try.prog [n70, n2, n1] (213 : Nat) #[Value.agg
  #[Value.slice a62 n63 n64, Value.slice a65 n66 n67, Value.int IntKind.i64 x68], Value.int IntKind.i64 (0 : Int), Value.string s606] (fun v607 w608 => opTu v607 fun
  cs609 => opAg (nthD (Array.toList cs609) (0 : Nat)) fun cs610 => opL (nthD (Array.toList cs610) (0 : Nat)) fun a611 n612 n613 => opL (nthD (Array.toList cs610) (1 :
  Nat)) fun a614 n615 n616 => opI IntKind.i64 (nthD (Array.toList cs610) (2 : Nat)) fun x617 => SzIs (Array.size cs610) (3 : Nat) (opB (nthD (Array.toList cs609) (1 :
  Nat)) fun b618 => SzIs (Array.size cs609) (2 : Nat) (Up [n70] [n70, n2, n1] w608 fun w619 => J88 [Value.bool b618] [Value.agg #[Value.slice a611 n612 n613, Value.slice
  a614 n615 n616, Value.int IntKind.i64 x617]] w619))) w601) w599) w543) ∧ (Nw (Obj.cells #[Value.int IntKind.u8 x91] (5 : Nat)) w543 fun n620 w621 => (RunW Try.prog
  [n70, n2, n1] (convert (51 : Nat) (9 : Nat) (Value.slice (some (Addr.mk n620 (0 : Nat) none)) (1 : Nat) (1 : Nat))) (fun v622 w623 => opStr v622 fun s624 => RunW
  Try.prog [n70, n2, n1] (convert (51 : Nat) (9 : Nat) (Value.slice a544 n545 n546)) (fun v625 w626 => opStr v625 fun s627 => ∃ v628, (∀ (w629 : World), True → RunV
  Try.prog (eqS BinOp.add (9 : Nat) (Operand.tmp (67 : Nat)) (Operand.tmp (69 : Nat)) (Value.string s624) (Value.string s627)) v628 w629) ∧ opStr v628 fun s631 => CallW
  Try.prog [n70, n2, n1] (213 : Nat) #[Value.agg #[Value.slice a62 n63 n64, Value.slice a65 n66 n67, Value.int IntKind.i64 x68], Value.int IntKind.i64 (0 : Int),
  Value.string s631] (fun v632 w633 => opTu v632 fun cs634 => opAg (nthD (Array.toList cs634) (0 : Nat)) fun cs635 => opL (nthD (Array.toList cs635) (0 : Nat)) fun a636
  n637 n638 => opL (nthD (Array.toList cs635) (1 : Nat)) fun a639 n640 n641 => opI IntKind.i64 (nthD (Array.toList cs635) (2 : Nat)) fun x642 => SzIs (Array.size cs635)
  (3 : Nat) (opB (nthD (Array.toList cs634) (1 : Nat)) fun b643 => SzIs (Array.size cs634) (2 : Nat) (Up [n70] [n70, n2, n1] w633 fun w644 => J88 [Value.bool b643]
  [Value.agg #[Value.slice a636 n637 n638, Value.slice a639 n640 n641, Value.int IntKind.i64 x642]] w644))) w626) w623) w621 ∧ RunW Try.prog [n70, n2, n1] (convert (51 :
  Nat) (9 : Nat) (Value.slice a544 n545 n546)) (fun v645 w646 => opStr v645 fun s647 => RunW Try.prog [n70, n2, n1] (convert (51 : Nat) (9 : Nat) (Value.slice (some
  (Addr.mk n620 (0 : Nat) none)) (1 : Nat) (1 : Nat))) (fun v648 w649 => opStr v648 fun s650 => ∃ v651, (∀ (w652 : World), True → RunV Try.prog (eqS BinOp.add (9 : Nat)
  (Operand.tmp (67 : Nat)) (Operand.tmp (69 : Nat)) (Value.string s650) (Value.string s647)) v651 w652) ∧ opStr v651 fun s654 => CallW Try.prog [n70, n2, n1] (213 : Nat)
  #[Value.agg #[Value.slice a62 n63 n64, Value.slice a65 n66 n67, Value.int IntKind.i64 x68], Value.int IntKind.i64 (0 : Int), Value.string s654] (fun v655 w656 => opTu
  v655 fun cs657 => opAg (nthD (Array.toList cs657) (0 : Nat)) fun cs658 => opL (nthD (Array.toList cs658) (0 : Nat)) fun a659 n660 n661 => opL (nthD (Array.toList cs658)
  (1 : Nat)) fun a662 n663 n664 => opI IntKind.i64 (nthD (Array.toList cs658) (2 : Nat)) fun x665 => SzIs (Array.size cs658) (3 : Nat) (opB (nthD (Array.toList cs657) (1
  : Nat)) fun b666 => SzIs (Array.size cs657) (2 : Nat) (Up [n70] [n70, n2, n1] w656 fun w667 => J88 [Value.bool b666] [Value.agg #[Value.slice a659 n660 n661,
  Value.slice a662 n663 n664, Value.int IntKind.i64 x665]] w667))) w649) w646) w621) ∧ RunW Try.prog [n70, n2, n1] (convert (51 : Nat) (9 : Nat) (Value.slice (some
  (Addr.mk n620 (0 : Nat) none)) (1 : Nat) (1 : Nat))) (fun v668 w669 => opStr v668 fun s670 => RunW Try.prog [n70, n2, n1] (convert (51 : Nat) (9 : Nat) (Value.slice
  a544 n545 n546)) (fun v671 w672 => opStr v671 fun s673 => ∃ v674, (∀ (w675 : World), True → RunV Try.prog (eqS BinOp.add (9 : Nat) (Operand.tmp (67 : Nat)) (Operand.tmp
  (69 : Nat)) (Value.string s670) (Value.string s673)) v674 w675) ∧ opStr v674 fun s677 => CallW Try.prog [n70, n2, n1] (213 : Nat) #[Value.agg #[Value.slice a62 n63 n64,
  Value.slice a65 n66 n67, Value.int IntKind.i64 x68], Value.int IntKind.i64 (0 : Int), Value.string s677] (fun v678 w679 => opTu v678 fun cs680 => opAg (nthD
  (Array.toList cs680) (0 : Nat)) fun cs681 => opL (nthD (Array.toList cs681) (0 : Nat)) fun a682 n683 n684 => opL (nthD (Array.toList cs681) (1 : Nat)) fun a685 n686
  n687 => opI IntKind.i64 (nthD (Array.toList cs681) (2 : Nat)) fun x688 => SzIs (Array.size cs681) (3 : Nat) (opB (nthD (Array.toList cs680) (1 : Nat)) fun b689 => SzIs
  (Array.size cs680) (2 : Nat) (Up [n70] [n70, n2, n1] w679 fun w690 => J88 [Value.bool b689] [Value.agg #[Value.slice a682 n683 n684, Value.slice a685 n686 n687,
  Value.int IntKind.i64 x688]] w690))) w672) w669 ∧ RunW Try.prog [n70, n2, n1] (convert (51 : Nat) (9 : Nat) (Value.slice a544 n545 n546)) (fun v691 w692 => opStr v691
  fun s693 => ∃ v694, (∀ (w695 : World), True → RunV Try.prog (eqS BinOp.add (9 : Nat) (Operand.tmp (67 : Nat)) (Operand.tmp (69 : Nat)) (Value.string s670) (Value.string
  s693)) v694 w695) ∧ opStr v694 fun s697 => CallW Try.prog [n70, n2, n1] (213 : Nat) #[Value.agg #[Value.slice a62 n63 n64, Value.slice a65 n66 n67, Value.int
  IntKind.i64 x68], Value.int IntKind.i64 (0 : Int), Value.string s697] (fun v698 w699 => opTu v698 fun cs700 => opAg (nthD (Array.toList cs700) (0 : Nat)) fun cs701 =>
  opL (nthD (Array.toList cs701) (0 : Nat)) fun a702 n703 n704 => opL (nthD (Array.toList cs701) (1 : Nat)) fun a705 n706 n707 => opI IntKind.i64 (nthD (Array.toList
  cs701) (2 : Nat)) fun x708 => SzIs (Array.size cs701) (3 : Nat) (opB (nthD (Array.toList cs700) (1 : Nat)) fun b709 => SzIs (Array.size cs700) (2 : Nat) (Up [n70] [n70,
  n2, n1] w699 fun w710 => J88 [Value.bool b709] [Value.agg #[Value.slice a702 n703 n704, Value.slice a705 n706 n707, Value.int IntKind.i64 x708]] w710))) w692) w669)
  w621 ∧ RunW Try.prog [n70, n2, n1] (convert (51 : Nat) (9 : Nat) (Value.slice a544 n545 n546)) (fun v711 w712 => opStr v711 fun s713 => RunW Try.prog [n70, n2, n1]
  (convert (51 : Nat) (9 : Nat) (Value.slice (some (Addr.mk n620 (0 : Nat) none)) (1 : Nat) (1 : Nat))) (fun v714 w715 => opStr v714 fun s716 => ∃ v717, (∀ (w718 :
  World), True → RunV Try.prog (eqS BinOp.add (9 : Nat) (Operand.tmp (67 : Nat)) (Operand.tmp (69 : Nat)) (Value.string s716) (Value.string s713)) v717 w718) ∧ opStr v717
  fun s720 => CallW Try.prog [n70, n2, n1] (213 : Nat) #[Value.agg #[Value.slice a62 n63 n64, Value.slice a65 n66 n67, Value.int IntKind.i64 x68], Value.int IntKind.i64
  (0 : Int), Value.string s720] (fun v721 w722 => opTu v721 fun cs723 => opAg (nthD (Array.toList cs723) (0 : Nat)) fun cs724 => opL (nthD (Array.toList cs724) (0 : Nat))
  fun a725 n726 n727 => opL (nthD (Array.toList cs724) (1 : Nat)) fun a728 n729 n730 => opI IntKind.i64 (nthD (Array.toList cs724) (2 : Nat)) fun x731 => SzIs (Array.size
  cs724) (3 : Nat) (opB (nthD (Array.toList cs723) (1 : Nat)) fun b732 => SzIs (Array.size cs723) (2 : Nat) (Up [n70] [n70, n2, n1] w722 fun w733 => J88 [Value.bool b732]
  [Value.agg #[Value.slice a725 n726 n727, Value.slice a728 n729 n730, Value.int IntKind.i64 x731]] w733))) w715) w712 ∧ RunW Try.prog [n70, n2, n1] (convert (51 : Nat)
  (9 : Nat) (Value.slice (some (Addr.mk n620 (0 : Nat) none)) (1 : Nat) (1 : Nat))) (fun v734 w735 => opStr v734 fun s736 => ∃ v737, (∀ (w738 : World), True → RunV
  Try.prog (eqS BinOp.add (9 : Nat) (Operand.tmp (67 : Nat)) (Operand.tmp (69 : Nat)) (Value.string s736) (Value.string s713)) v737 w738) ∧ opStr v737 fun s740 => CallW
  Try.prog [n70, n2, n1] (213 : Nat) #[Value.agg #[Value.slice a62 n63 n64, Value.slice a65 n66 n67, Value.int IntKind.i64 x68], Value.int IntKind.i64 (0 : Int),
  Value.string s740] (fun v741 w742 => opTu v741 fun cs743 => opAg (nthD (Array.toList cs743) (0 : Nat)) fun cs744 => opL (nthD (Array.toList cs744) (0 : Nat)) fun a745
  n746 n747 => opL (nthD (Array.toList cs744) (1 : Nat)) fun a748 n749 n750 => opI IntKind.i64 (nthD (Array.toList cs744) (2 : Nat)) fun x751 => SzIs (Array.size cs744)
  (3 : Nat) (opB (nthD (Array.toList cs743) (1 : Nat)) fun b752 => SzIs (Array.size cs743) (2 : Nat) (Up [n70] [n70, n2, n1] w742 fun w753 => J88 [Value.bool b752]
  [Value.agg #[Value.slice a745 n746 n747, Value.slice a748 n749 n750, Value.int IntKind.i64 x751]] w753))) w735) w712) w621) ∧ RunW Try.prog [n70, n2, n1] (convert (51 :
  Nat) (9 : Nat) (Value.slice a544 n545 n546)) (fun v754 w755 => opStr v754 fun s756 => (Nw (Obj.cells #[Value.int IntKind.u8 x91] (5 : Nat)) w755 fun n757 w758 => RunW
  Try.prog [n70, n2, n1] (convert (51 : Nat) (9 : Nat) (Value.slice (some (Addr.mk n757 (0 : Nat) none)) (1 : Nat) (1 : Nat))) (fun v759 w760 => opStr v759 fun s761 => ∃
  v762, (∀ (w763 : World), True → RunV Try.prog (eqS BinOp.add (9 : Nat) (Operand.tmp (67 : Nat)) (Operand.tmp (69 : Nat)) (Value.string s761) (Value.string s756)) v762
  w763) ∧ opStr v762 fun s765 => CallW Try.prog [n70, n2, n1] (213 : Nat) #[Value.agg #[Value.slice a62 n63 n64, Value.slice a65 n66 n67, Value.int IntKind.i64 x68],
  Value.int IntKind.i64 (0 : Int), Value.string s765] (fun v766 w767 => opTu v766 fun cs768 => opAg (nthD (Array.toList cs768) (0 : Nat)) fun cs769 => opL (nthD
  (Array.toList cs769) (0 : Nat)) fun a770 n771 n772 => opL (nthD (Array.toList cs769) (1 : Nat)) fun a773 n774 n775 => opI IntKind.i64 (nthD (Array.toList cs769) (2 :
  Nat)) fun x776 => SzIs (Array.size cs769) (3 : Nat) (opB (nthD (Array.toList cs768) (1 : Nat)) fun b777 => SzIs (Array.size cs768) (2 : Nat) (Up [n70] [n70, n2, n1]
  w767 fun w778 => J88 [Value.bool b777] [Value.agg #[Value.slice a770 n771 n772, Value.slice a773 n774 n775, Value.int IntKind.i64 x776]] w778))) w760) w758) ∧ Nw
  (Obj.cells #[Value.int IntKind.u8 x91] (5 : Nat)) w755 fun n779 w780 => RunW Try.prog [n70, n2, n1] (convert (51 : Nat) (9 : Nat) (Value.slice (some (Addr.mk n779 (0 :
  Nat) none)) (1 : Nat) (1 : Nat))) (fun v781 w782 => opStr v781 fun s783 => ∃ v784, (∀ (w785 : World), True → RunV Try.prog (eqS BinOp.add (9 : Nat) (Operand.tmp (67 :
  Nat)) (Operand.tmp (69 : Nat)) (Value.string s783) (Value.string s756)) v784 w785) ∧ opStr v784 fun s787 => CallW Try.prog [n70, n2, n1] (213 : Nat) #[Value.agg
  #[Value.slice a62 n63 n64, Value.slice a65 n66 n67, Value.int IntKind.i64 x68], Value.int IntKind.i64 (0 : Int), Value.string s787] (fun v788 w789 => opTu v788 fun
  cs790 => opAg (nthD (Array.toList cs790) (0 : Nat)) fun cs791 => opL (nthD (Array.toList cs791) (0 : Nat)) fun a792 n793 n794 => opL (nthD (Array.toList cs791) (1 :
  Nat)) fun a795 n796 n797 => opI IntKind.i64 (nthD (Array.toList cs791) (2 : Nat)) fun x798 => SzIs (Array.size cs791) (3 : Nat) (opB (nthD (Array.toList cs790) (1 :
  Nat)) fun b799 => SzIs (Array.size cs790) (2 : Nat) (Up [n70] [n70, n2, n1] w789 fun w800 => J88 [Value.bool b799] [Value.agg #[Value.slice a792 n793 n794, Value.slice
  a795 n796 n797, Value.int IntKind.i64 x798]] w800))) w782) w780 ∧ RunW Try.prog [n70, n2, n1] (convert (51 : Nat) (9 : Nat) (Value.slice (some (Addr.mk n779 (0 : Nat)
  none)) (1 : Nat) (1 : Nat))) (fun v801 w802 => opStr v801 fun s803 => ∃ v804, (∀ (w805 : World), True → RunV Try.prog (eqS BinOp.add (9 : Nat) (Operand.tmp (67 : Nat))
  (Operand.tmp (69 : Nat)) (Value.string s803) (Value.string s756)) v804 w805) ∧ opStr v804 fun s807 => CallW Try.prog [n70, n2, n1] (213 : Nat) #[Value.agg #[Value.slice
  a62 n63 n64, Value.slice a65 n66 n67, Value.int IntKind.i64 x68], Value.int IntKind.i64 (0 : Int), Value.string s807] (fun v808 w809 => opTu v808 fun cs810 => opAg
  (nthD (Array.toList cs810) (0 : Nat)) fun cs811 => opL (nthD (Array.toList cs811) (0 : Nat)) fun a812 n813 n814 => opL (nthD (Array.toList cs811) (1 : Nat)) fun a815
  n816 n817 => opI IntKind.i64 (nthD (Array.toList cs811) (2 : Nat)) fun x818 => SzIs (Array.size cs811) (3 : Nat) (opB (nthD (Array.toList cs810) (1 : Nat)) fun b819 =>
  SzIs (Array.size cs810) (2 : Nat) (Up [n70] [n70, n2, n1] w809 fun w820 => J88 [Value.bool b819] [Value.agg #[Value.slice a812 n813 n814, Value.slice a815 n816 n817,
  Value.int IntKind.i64 x818]] w820))) w802) w780) w543) (World.drew w89)) (Up [n70] [n70, n2, n1] w59 fun w821 => J88 [Value.bool b69] [Value.agg #[Value.slice a62 n63
  n64, Value.slice a65 n66 n67, Value.int IntKind.i64 x68]] w821)))) w53)) w8))) [Value.int IntKind.i64 (0 : Int), Value.string (ByteArray.mk #[]), Value.int IntKind.i64
  (0 : Int)] [Value.agg #[Value.slice none (0 : Nat) (0 : Nat), Value.slice none (0 : Nat) (0 : Nat), Value.int IntKind.i64 (0 : Int), Value.int IntKind.i64 (0 : Int),
  Value.int IntKind.i64 (0 : Int), Value.bool false]] w4)
theorem f142_eq (p0_0a : Option Addr) (p0_0n : Nat) (p0_0c : Nat) (p0_1a : Option Addr) (p0_1n : Nat) (p0_1c : Nat) (p0_2 : Int) (p0_3 : Int) (p0_4 : Int) (p0_5 : Bool)
  (p1a : Option Addr) (p1n : Nat) (p1c : Nat) (R : Value → World → Prop) (w : World) : fnW Try.prog [2, 4, 8, 400014] Try.f142 [Value.agg #[Value.slice p0_0a p0_0n p0_0c,
  Value.slice p0_1a p0_1n p0_1c, Value.int IntKind.i64 p0_2, Value.int IntKind.i64 p0_3, Value.int IntKind.i64 p0_4, Value.bool p0_5], Value.slice p1a p1n p1c] R w =
  f142_vc p0_0a p0_0n p0_0c p0_1a p0_1n p0_1c p0_2 p0_3 p0_4 p0_5 p1a p1n p1c R w := by kernel_rfl
theorem f142_in (p0_0a : Option Addr) (p0_0n : Nat) (p0_0c : Nat) (p0_1a : Option Addr) (p0_1n : Nat) (p0_1c : Nat) (p0_2 : Int) (p0_3 : Int) (p0_4 : Int) (p0_5 : Bool)
  (p1a : Option Addr) (p1n : Nat) (p1c : Nat) (R : Value → World → Prop) (w : World) (h : f142_vc p0_0a p0_0n p0_0c p0_1a p0_1n p0_1c p0_2 p0_3 p0_4 p0_5 p1a p1n p1c R w)
  : Ct Try.prog 142 #[Value.agg #[Value.slice p0_0a p0_0n p0_0c, Value.slice p0_1a p0_1n p0_1c, Value.int IntKind.i64 p0_2, Value.int IntKind.i64 p0_3, Value.int
  IntKind.i64 p0_4, Value.bool p0_5], Value.slice p1a p1n p1c] w R := by
  refine Ct_of (rk := [2, 4, 8, 400014]) (fn := Try.f142) (args := [Value.agg #[Value.slice p0_0a p0_0n p0_0c, Value.slice p0_1a p0_1n p0_1c, Value.int IntKind.i64 p0_2, Value.int IntKind.i64 p0_3, Value.int IntKind.i64 p0_4, Value.bool p0_5], Value.slice p1a p1n p1c]) mixedT Try.func142 (by kernel_rfl) ?_
  rw [f142_eq]
  exact h
end Fk
set_option linter.unusedVariables false
set_option maxRecDepth 1000000
set_option maxHeartbeats 4000000
namespace Fk
open Go Go.Proofs Go.RowKit
def f37_vc (p0 : Int) (p1a : Option Addr) (p1n : Nat) (p1c : Nat) (p2a : Option Addr) (p2n : Nat) (p2c : Nat) (R : Value → World → Prop) (w : World) : Prop := Bd ((p1n :
  Nat) : Int) fun x1 => Bd (decide (x1 > (25 : Int))) fun b2 => Bd ((p2n : Nat) : Int) fun x3 => Bd (decide (x3 > (500 : Int))) fun b4 => Bd (bif b2 then true else b4)
  fun b5 => If b5 (CallW Try.prog [] (125 : Nat) #[] (fun v6 w7 => opB v6 fun b8 => R (Value.bool b8) w7) w) (Bd (Int.tmod p0 (20 : Int)) fun x9 => Bd (IntKind.wrap
  IntKind.i64 x9) fun x10 => Bd (IntKind.wrap IntKind.i64 ((1 : Int) + x10)) fun x11 => CallW Try.prog [] (109 : Nat) #[Value.int IntKind.i64 x11] (fun v12 w13 => opTu
  v12 fun cs14 => opP (nthD (Array.toList cs14) (0 : Nat)) fun a15 => opI IntKind.i64 (nthD (Array.toList cs14) (1 : Nat)) fun x16 => SzIs (Array.size cs14) (2 : Nat)
  (CallW Try.prog [] (113 : Nat) #[Value.int IntKind.i64 x11] (fun v17 w18 => opTu v17 fun cs19 => opAg (nthD (Array.toList cs19) (0 : Nat)) fun cs20 => opL (nthD
  (Array.toList cs20) (0 : Nat)) fun a21 n22 n23 => opL (nthD (Array.toList cs20) (1 : Nat)) fun a24 n25 n26 => opI IntKind.i64 (nthD (Array.toList cs20) (2 : Nat)) fun
  x27 => SzIs (Array.size cs20) (3 : Nat) (opB (nthD (Array.toList cs19) (1 : Nat)) fun b28 => SzIs (Array.size cs19) (2 : Nat) (Rg w18 fun n29 => Up [n29] [n29] w18 fun
  w30 => CallW Try.prog [n29] (136 : Nat) #[Value.pointer a15] (fun v31 w32 => opTu v31 fun cs33 => opP (nthD (Array.toList cs33) (0 : Nat)) fun a34 => opL (nthD
  (Array.toList cs33) (1 : Nat)) fun a35 n36 n37 => opI IntKind.i64 (nthD (Array.toList cs33) (2 : Nat)) fun x38 => SzIs (Array.size cs33) (3 : Nat) (CallW Try.prog [n29]
  (137 : Nat) #[Value.agg #[Value.slice a21 n22 n23, Value.slice a24 n25 n26, Value.int IntKind.i64 x27]] (fun v39 w40 => opTu v39 fun cs41 => opAg (nthD (Array.toList
  cs41) (0 : Nat)) fun cs42 => opL (nthD (Array.toList cs42) (0 : Nat)) fun a43 n44 n45 => opL (nthD (Array.toList cs42) (1 : Nat)) fun a46 n47 n48 => opI IntKind.i64
  (nthD (Array.toList cs42) (2 : Nat)) fun x49 => opI IntKind.i64 (nthD (Array.toList cs42) (3 : Nat)) fun x50 => opI IntKind.i64 (nthD (Array.toList cs42) (4 : Nat)) fun
  x51 => opB (nthD (Array.toList cs42) (5 : Nat)) fun b52 => SzIs (Array.size cs42) (6 : Nat) (opL (nthD (Array.toList cs41) (1 : Nat)) fun a53 n54 n55 => opI IntKind.i64
  (nthD (Array.toList cs41) (2 : Nat)) fun x56 => SzIs (Array.size cs41) (3 : Nat) (Rg w40 fun n57 => Jn (fun l58 l59 w60 => opB (nthD l58 (0 : Nat)) fun b61 => If b61 (R
  (Value.bool false) w60) (Bd (x38 != (0 : Int)) fun b62 => If b62 (RunW Try.prog [n57, n29] (eqS BinOp.eql (158 : Nat) (Operand.tmp (85 : Nat)) (Operand.const
  (Value.pointer none)) (Value.pointer a34) (Value.pointer none)) (fun v63 w64 => opB v63 fun b65 => Gd b65 false (fun J66 => CallW Try.prog [n57, n29] (125 : Nat) #[]
  (fun v67 w68 => opB v67 fun b69 => J66 b69 w68) w64) (fun b70 w71 => Bd (bif b65 then b70 else false) fun b72 => R (Value.bool b72) w71) w64) w60) (Bd ((p1n : Nat) :
  Int) fun x73 => LoopP (fun l74 l75 J76 w77 => opP (nthD l74 (0 : Nat)) fun a78 => opB (nthD l74 (1 : Nat)) fun b79 => opI IntKind.i64 (nthD l74 (2 : Nat)) fun x80 =>
  opAg (nthD l75 (0 : Nat)) fun cs81 => opL (nthD (Array.toList cs81) (0 : Nat)) fun a82 n83 n84 => opL (nthD (Array.toList cs81) (1 : Nat)) fun a85 n86 n87 => opI
  IntKind.i64 (nthD (Array.toList cs81) (2 : Nat)) fun x88 => opI IntKind.i64 (nthD (Array.toList cs81) (3 : Nat)) fun x89 => opI IntKind.i64 (nthD (Array.toList cs81) (4
  : Nat)) fun x90 => opB (nthD (Array.toList cs81) (5 : Nat)) fun b91 => SzIs (Array.size cs81) (6 : Nat) (Bd (decide (x80 < x73)) fun b92 => If b92 (IxOk x80 p1n p1a ∧
  Ld w77 (Addr.add (adAt p1a x80 (4 : Nat)) (0 : Nat)) fun v93 => Ld w77 (Addr.add (adAt p1a x80 (4 : Nat)) (1 : Nat)) fun v94 => Ld w77 (Addr.add (adAt p1a x80 (4 :
  Nat)) (2 : Nat)) fun v95 => Ld w77 (Addr.add (adAt p1a x80 (4 : Nat)) (3 : Nat)) fun v96 => opI IntKind.u8 v93 fun x97 => opI IntKind.i64 v94 fun x98 => opI IntKind.i64
  v95 fun x99 => opI IntKind.u8 v96 fun x100 => Rg w77 fun n101 => Jn (fun l102 l103 w104 => opP (nthD l102 (0 : Nat)) fun a105 => opI IntKind.i64 (nthD l102 (1 : Nat))
  fun x106 => opI IntKind.i64 (nthD l102 (2 : Nat)) fun x107 => opB (nthD l102 (3 : Nat)) fun b108 => opB (nthD l102 (4 : Nat)) fun b109 => opAg (nthD l103 (0 : Nat)) fun
  cs110 => opL (nthD (Array.toList cs110) (0 : Nat)) fun a111 n112 n113 => opL (nthD (Array.toList cs110) (1 : Nat)) fun a114 n115 n116 => opI IntKind.i64 (nthD
  (Array.toList cs110) (2 : Nat)) fun x117 => opI IntKind.i64 (nthD (Array.toList cs110) (3 : Nat)) fun x118 => opI IntKind.i64 (nthD (Array.toList cs110) (4 : Nat)) fun
  x119 => opB (nthD (Array.toList cs110) (5 : Nat)) fun b120 => SzIs (Array.size cs110) (6 : Nat) (Jn (fun l121 l122 w123 => opB (nthD l121 (0 : Nat)) fun b124 => If b124
  (R (Value.bool false) w123) (Bd (IntKind.wrap IntKind.i64 (x80 + (1 : Int))) fun x125 => J76 [Value.pointer a105, Value.bool b108, Value.int IntKind.i64 x125]
  [Value.agg #[Value.slice a111 n112 n113, Value.slice a114 n115 n116, Value.int IntKind.i64 x117, Value.int IntKind.i64 x118, Value.int IntKind.i64 x119, Value.bool
  b120]] w123)) fun J126 => Bd (x106 != x107) fun b127 => Gd (!b127) (0 : Int) (fun J128 => CallW Try.prog [n101, n57, n29] (128 : Nat) #[Value.pointer a105] (fun v129
  w130 => opI IntKind.i64 v129 fun x131 => J128 x131 w130) (World.drew w104)) (fun x132 w133 => Gd (!b127) (0 : Int) (fun J134 => CallW Try.prog [n101, n57, n29] (143 :
  Nat) #[Value.agg #[Value.slice a111 n112 n113, Value.slice a114 n115 n116, Value.int IntKind.i64 x117, Value.int IntKind.i64 x118, Value.int IntKind.i64 x119,
  Value.bool b120]] (fun v135 w136 => opI IntKind.i64 v135 fun x137 => J134 x137 w136) w133) (fun x138 w139 => Bd (x132 != x138) fun b140 => Bd (bif b127 then true else
  b140) fun b141 => Gd (!b141) false (fun J142 => CallW Try.prog [n101, n57, n29] (129 : Nat) #[Value.pointer a105] (fun v143 w144 => opB v143 fun b145 => J142 b145 w144)
  w139) (fun b146 w147 => Bd (!b146 == b120) fun b148 => Bd (bif b141 then true else b148) fun b149 => Gd (!b149) (none, (0 : Nat), (0 : Nat)) (fun J150 => CallW Try.prog
  [n101, n57, n29] (104 : Nat) #[Value.pointer a15] (fun v151 w152 => opL v151 fun a153 n154 n155 => J150 (a153, n154, n155) w152) w147) (fun u156 w157 => Gd (!b149)
  ByteArray.empty (fun J158 => RunW Try.prog [n101, n57, n29] (convert (51 : Nat) (9 : Nat) (Value.slice (Prod.fst u156) (Prod.fst (Prod.snd u156)) (Prod.snd (Prod.snd
  u156)))) (fun v159 w160 => opStr v159 fun s161 => J158 s161 w160) w157) (fun s162 w163 => Gd (!b149) ByteArray.empty (fun J164 => CallW Try.prog [n101, n57, n29] (121 :
  Nat) #[Value.agg #[Value.slice a111 n112 n113, Value.slice a114 n115 n116, Value.int IntKind.i64 x117]] (fun v165 w166 => opStr v165 fun s167 => J164 s167 w166) w163)
  (fun s168 w169 => Bd (!ByteArray.toList s162 == ByteArray.toList s168) fun b170 => Bd (bif b149 then true else b170) fun b171 => Bd ((n115 : Nat) : Int) fun x172 => Gd
  (!b171) (0 : Int) (fun J173 => CallW Try.prog [n101, n57, n29] (108 : Nat) #[Value.pointer a15] (fun v174 w175 => opI IntKind.i64 v174 fun x176 => J173 x176 w175) w169)
  (fun x177 w178 => Bd (x177 != x172) fun b179 => Bd (bif b171 then true else b179) fun b180 => J126 [Value.bool b180] [] w178) w169) w163) w157 ∧ Gd (!b149)
  ByteArray.empty (fun J181 => CallW Try.prog [n101, n57, n29] (121 : Nat) #[Value.agg #[Value.slice a111 n112 n113, Value.slice a114 n115 n116, Value.int IntKind.i64
  x117]] (fun v182 w183 => opStr v182 fun s184 => J181 s184 w183) w157) (fun s185 w186 => Gd (!b149) ByteArray.empty (fun J187 => RunW Try.prog [n101, n57, n29] (convert
  (51 : Nat) (9 : Nat) (Value.slice (Prod.fst u156) (Prod.fst (Prod.snd u156)) (Prod.snd (Prod.snd u156)))) (fun v188 w189 => opStr v188 fun s190 => J187 s190 w189) w186)
  (fun s191 w192 => Bd (!ByteArray.toList s191 == ByteArray.toList s185) fun b193 => Bd (bif b149 then true else b193) fun b194 => Bd ((n115 : Nat) : Int) fun x195 => Gd
  (!b194) (0 : Int) (fun J196 => CallW Try.prog [n101, n57, n29] (108 : Nat) #[Value.pointer a15] (fun v197 w198 => opI IntKind.i64 v197 fun x199 => J196 x199 w198) w192)
  (fun x200 w201 => Bd (x200 != x195) fun b202 => Bd (bif b194 then true else b202) fun b203 => J126 [Value.bool b203] [] w201) w192) w186) w157) w147) w139) w133)
  (World.drew w104))) fun J204 => Bd (x97 == (1 : Int)) fun b205 => If b205 (Up [n101] [n101, n57, n29] w77 fun w206 => CallW Try.prog [n101, n57, n29] (123 : Nat)
  #[Value.int IntKind.i64 x98, Value.int IntKind.u8 x100] (fun v207 w208 => opL v207 fun a209 n210 n211 => CallW Try.prog [n101, n57, n29] (124 : Nat) #[Value.pointer
  a78, Value.slice a209 n210 n211] (fun v212 w213 => opI IntKind.i64 v212 fun x214 => CallW Try.prog [n101, n57, n29] (123 : Nat) #[Value.int IntKind.i64 x98, Value.int
  IntKind.u8 x100] (fun v215 w216 => opL v215 fun a217 n218 n219 => RunW Try.prog [n101, n57, n29] (convert (51 : Nat) (9 : Nat) (Value.slice a217 n218 n219)) (fun v220
  w221 => opStr v220 fun s222 => CallW Try.prog [n101, n57, n29] (141 : Nat) #[Value.agg #[Value.slice a82 n83 n84, Value.slice a85 n86 n87, Value.int IntKind.i64 x88,
  Value.int IntKind.i64 x89, Value.int IntKind.i64 x90, Value.bool b91], Value.string s222] (fun v223 w224 => opTu v223 fun cs225 => opAg (nthD (Array.toList cs225) (0 :
  Nat)) fun cs226 => opL (nthD (Array.toList cs226) (0 : Nat)) fun a227 n228 n229 => opL (nthD (Array.toList cs226) (1 : Nat)) fun a230 n231 n232 => opI IntKind.i64 (nthD
  (Array.toList cs226) (2 : Nat)) fun x233 => opI IntKind.i64 (nthD (Array.toList cs226) (3 : Nat)) fun x234 => opI IntKind.i64 (nthD (Array.toList cs226) (4 : Nat)) fun
  x235 => opB (nthD (Array.toList cs226) (5 : Nat)) fun b236 => SzIs (Array.size cs226) (6 : Nat) (opI IntKind.i64 (nthD (Array.toList cs225) (1 : Nat)) fun x237 => SzIs
  (Array.size cs225) (2 : Nat) (Up [n57] [n101, n57, n29] w224 fun w238 => J204 [Value.pointer a78, Value.int IntKind.i64 x214, Value.int IntKind.i64 x237, Value.bool
  b79, Value.bool b205] [Value.agg #[Value.slice a227 n228 n229, Value.slice a230 n231 n232, Value.int IntKind.i64 x233, Value.int IntKind.i64 x234, Value.int IntKind.i64
  x235, Value.bool b236]] w238))) w221) w216) (World.drew w213) ∧ CallW Try.prog [n101, n57, n29] (123 : Nat) #[Value.int IntKind.i64 x98, Value.int IntKind.u8 x100] (fun
  v239 w240 => opL v239 fun a241 n242 n243 => RunW Try.prog [n101, n57, n29] (convert (51 : Nat) (9 : Nat) (Value.slice a241 n242 n243)) (fun v244 w245 => opStr v244 fun
  s246 => CallW Try.prog [n101, n57, n29] (141 : Nat) #[Value.agg #[Value.slice a82 n83 n84, Value.slice a85 n86 n87, Value.int IntKind.i64 x88, Value.int IntKind.i64
  x89, Value.int IntKind.i64 x90, Value.bool b91], Value.string s246] (fun v247 w248 => opTu v247 fun cs249 => opAg (nthD (Array.toList cs249) (0 : Nat)) fun cs250 => opL
  (nthD (Array.toList cs250) (0 : Nat)) fun a251 n252 n253 => opL (nthD (Array.toList cs250) (1 : Nat)) fun a254 n255 n256 => opI IntKind.i64 (nthD (Array.toList cs250)
  (2 : Nat)) fun x257 => opI IntKind.i64 (nthD (Array.toList cs250) (3 : Nat)) fun x258 => opI IntKind.i64 (nthD (Array.toList cs250) (4 : Nat)) fun x259 => opB (nthD
  (Array.toList cs250) (5 : Nat)) fun b260 => SzIs (Array.size cs250) (6 : Nat) (opI IntKind.i64 (nthD (Array.toList cs249) (1 : Nat)) fun x261 => SzIs (Array.size cs249)
  (2 : Nat) (Up [n57] [n101, n57, n29] w248 fun w262 => J204 [Value.pointer a78, Value.int IntKind.i64 x214, Value.int IntKind.i64 x261, Value.bool b79, Value.bool b205]
  [Value.agg #[Value.slice a251 n252 n253, Value.slice a254 n255 n256, Value.int IntKind.i64 x257, Value.int IntKind.i64 x258, Value.int IntKind.i64 x259, Value.bool
  b260]] w262))) w245) w240 ∧ RunW Try.prog [n101, n57, n29] (convert (51 : Nat) (9 : Nat) (Value.slice a241 n242 n243)) (fun v263 w264 => opStr v263 fun s265 => CallW
  Try.prog [n101, n57, n29] (141 : Nat) #[Value.agg #[Value.slice a82 n83 n84, Value.slice a85 n86 n87, Value.int IntKind.i64 x88, Value.int IntKind.i64 x89, Value.int
  IntKind.i64 x90, Value.bool b91], Value.string s265] (fun v266 w267 => opTu v266 fun cs268 => opAg (nthD (Array.toList cs268) (0 : Nat)) fun cs269 => opL (nthD
  (Array.toList cs269) (0 : Nat)) fun a270 n271 n272 => opL (nthD (Array.toList cs269) (1 : Nat)) fun a273 n274 n275 => opI IntKind.i64 (nthD (Array.toList cs269) (2 :
  Nat)) fun x276 => opI IntKind.i64 (nthD (Array.toList cs269) (3 : Nat)) fun x277 => opI IntKind.i64 (nthD (Array.toList cs269) (4 : Nat)) fun x278 => opB (nthD
  (Array.toList cs269) (5 : Nat)) fun b279 => SzIs (Array.size cs269) (6 : Nat) (opI IntKind.i64 (nthD (Array.toList cs268) (1 : Nat)) fun x280 => SzIs (Array.size cs268)
  (2 : Nat) (Up [n57] [n101, n57, n29] w267 fun w281 => J204 [Value.pointer a78, Value.int IntKind.i64 x214, Value.int IntKind.i64 x280, Value.bool b79, Value.bool b205]
  [Value.agg #[Value.slice a270 n271 n272, Value.slice a273 n274 n275, Value.int IntKind.i64 x276, Value.int IntKind.i64 x277, Value.int IntKind.i64 x278, Value.bool
  b279]] w281))) w264) w240) (World.drew w213)) w208) w206) (Bd (x97 == (2 : Int)) fun b282 => If b282 (Up [n101] [n101, n57, n29] w77 fun w283 => CallW Try.prog [n101,
  n57, n29] (134 : Nat) #[Value.agg #[Value.int IntKind.u8 x97, Value.int IntKind.i64 x98, Value.int IntKind.i64 x99, Value.int IntKind.u8 x100]] (fun v284 w285 => opL
  v284 fun a286 n287 n288 => CallW Try.prog [n101, n57, n29] (130 : Nat) #[Value.pointer a78, Value.slice a286 n287 n288] (fun v289 w290 => opI IntKind.i64 v289 fun x291
  => CallW Try.prog [n101, n57, n29] (134 : Nat) #[Value.agg #[Value.int IntKind.u8 x97, Value.int IntKind.i64 x98, Value.int IntKind.i64 x99, Value.int IntKind.u8 x100]]
  (fun v292 w293 => opL v292 fun a294 n295 n296 => CallW Try.prog [n101, n57, n29] (135 : Nat) #[Value.slice a294 n295 n296] (fun v297 w298 => opL v297 fun a299 n300 n301
  => CallW Try.prog [n101, n57, n29] (142 : Nat) #[Value.agg #[Value.slice a82 n83 n84, Value.slice a85 n86 n87, Value.int IntKind.i64 x88, Value.int IntKind.i64 x89,
  Value.int IntKind.i64 x90, Value.bool b91], Value.slice a299 n300 n301] (fun v302 w303 => opTu v302 fun cs304 => opAg (nthD (Array.toList cs304) (0 : Nat)) fun cs305 =>
  opL (nthD (Array.toList cs305) (0 : Nat)) fun a306 n307 n308 => opL (nthD (Array.toList cs305) (1 : Nat)) fun a309 n310 n311 => opI IntKind.i64 (nthD (Array.toList
  cs305) (2 : Nat)) fun x312 => opI IntKind.i64 (nthD (Array.toList cs305) (3 : Nat)) fun x313 => opI IntKind.i64 (nthD (Array.toList cs305) (4 : Nat)) fun x314 => opB
  (nthD (Array.toList cs305) (5 : Nat)) fun b315 => SzIs (Array.size cs305) (6 : Nat) (opI IntKind.i64 (nthD (Array.toList cs304) (1 : Nat)) fun x316 => SzIs (Array.size
  cs304) (2 : Nat) (Up [n57] [n101, n57, n29] w303 fun w317 => J204 [Value.pointer a78, Value.int IntKind.i64 x291, Value.int IntKind.i64 x316, Value.bool b79, Value.bool
  b205] [Value.agg #[Value.slice a306 n307 n308, Value.slice a309 n310 n311, Value.int IntKind.i64 x312, Value.int IntKind.i64 x313, Value.int IntKind.i64 x314,
  Value.bool b315]] w317))) w298) w293) (World.drew w290) ∧ CallW Try.prog [n101, n57, n29] (134 : Nat) #[Value.agg #[Value.int IntKind.u8 x97, Value.int IntKind.i64 x98,
  Value.int IntKind.i64 x99, Value.int IntKind.u8 x100]] (fun v318 w319 => opL v318 fun a320 n321 n322 => CallW Try.prog [n101, n57, n29] (135 : Nat) #[Value.slice a320
  n321 n322] (fun v323 w324 => opL v323 fun a325 n326 n327 => CallW Try.prog [n101, n57, n29] (142 : Nat) #[Value.agg #[Value.slice a82 n83 n84, Value.slice a85 n86 n87,
  Value.int IntKind.i64 x88, Value.int IntKind.i64 x89, Value.int IntKind.i64 x90, Value.bool b91], Value.slice a325 n326 n327] (fun v328 w329 => opTu v328 fun cs330 =>
  opAg (nthD (Array.toList cs330) (0 : Nat)) fun cs331 => opL (nthD (Array.toList cs331) (0 : Nat)) fun a332 n333 n334 => opL (nthD (Array.toList cs331) (1 : Nat)) fun
  a335 n336 n337 => opI IntKind.i64 (nthD (Array.toList cs331) (2 : Nat)) fun x338 => opI IntKind.i64 (nthD (Array.toList cs331) (3 : Nat)) fun x339 => opI IntKind.i64
  (nthD (Array.toList cs331) (4 : Nat)) fun x340 => opB (nthD (Array.toList cs331) (5 : Nat)) fun b341 => SzIs (Array.size cs331) (6 : Nat) (opI IntKind.i64 (nthD
  (Array.toList cs330) (1 : Nat)) fun x342 => SzIs (Array.size cs330) (2 : Nat) (Up [n57] [n101, n57, n29] w329 fun w343 => J204 [Value.pointer a78, Value.int IntKind.i64
  x291, Value.int IntKind.i64 x342, Value.bool b79, Value.bool b205] [Value.agg #[Value.slice a332 n333 n334, Value.slice a335 n336 n337, Value.int IntKind.i64 x338,
  Value.int IntKind.i64 x339, Value.int IntKind.i64 x340, Value.bool b341]] w343))) w324) w319 ∧ CallW Try.prog [n101, n57, n29] (135 : Nat) #[Value.slice a320 n321 n322]
  (fun v344 w345 => opL v344 fun a346 n347 n348 => CallW Try.prog [n101, n57, n29] (142 : Nat) #[Value.agg #[Value.slice a82 n83 n84, Value.slice a85 n86 n87, Value.int
  IntKind.i64 x88, Value.int IntKind.i64 x89, Value.int IntKind.i64 x90, Value.bool b91], Value.slice a346 n347 n348] (fun v349 w350 => opTu v349 fun cs351 => opAg (nthD
  (Array.toList cs351) (0 : Nat)) fun cs352 => opL (nthD (Array.toList cs352) (0 : Nat)) fun a353 n354 n355 => opL (nthD (Array.toList cs352) (1 : Nat)) fun a356 n357
  n358 => opI IntKind.i64 (nthD (Array.toList cs352) (2 : Nat)) fun x359 => opI IntKind.i64 (nthD (Array.toList cs352) (3 : Nat)) fun x360 => opI IntKind.i64 (nthD
  (Array.toList cs352) (4 : Nat)) fun x361 => opB (nthD (Array.toList cs352) (5 : Nat)) fun b362 => SzIs (Array.size cs352) (6 : Nat) (opI IntKind.i64 (nthD (Array.toList
  cs351) (1 : Nat)) fun x363 => SzIs (Array.size cs351) (2 : Nat) (Up [n57] [n101, n57, n29] w350 fun w364 => J204 [Value.pointer a78, Value.int IntKind.i64 x291,
  Value.int IntKind.i64 x363, Value.bool b79, Value.bool b205] [Value.agg #[Value.slice a353 n354 n355, Value.slice a356 n357 n358, Value.int IntKind.i64 x359, Value.int
  IntKind.i64 x360, Value.int IntKind.i64 x361, Value.bool b362]] w364))) w345) w319) (World.drew w290)) w285) w283) (Bd (x97 == (3 : Int)) fun b365 => If b365 (Up [n101]
  [n101, n57, n29] w77 fun w366 => CallW Try.prog [n101, n57, n29] (102 : Nat) #[Value.pointer a15, Value.int IntKind.i64 x98] (fun v367 w368 => opTu v367 fun cs369 =>
  SzIs (Array.size cs369) (0 : Nat) (CallW Try.prog [n101, n57, n29] (117 : Nat) #[Value.agg #[Value.slice a82 n83 n84, Value.slice a85 n86 n87, Value.int IntKind.i64
  x88], Value.int IntKind.i64 x98] (fun v370 w371 => opAg v370 fun cs372 => opL (nthD (Array.toList cs372) (0 : Nat)) fun a373 n374 n375 => opL (nthD (Array.toList cs372)
  (1 : Nat)) fun a376 n377 n378 => opI IntKind.i64 (nthD (Array.toList cs372) (2 : Nat)) fun x379 => SzIs (Array.size cs372) (3 : Nat) (Up [n57] [n101, n57, n29] w371 fun
  w380 => J204 [Value.pointer a78, Value.int IntKind.i64 (0 : Int), Value.int IntKind.i64 (0 : Int), Value.bool b79, Value.bool b205] [Value.agg #[Value.slice a373 n374
  n375, Value.slice a376 n377 n378, Value.int IntKind.i64 x379, Value.int IntKind.i64 x89, Value.int IntKind.i64 x90, Value.bool b91]] w380)) w368)) w366) (Jn (fun l381
  l382 w383 => opB (nthD l381 (0 : Nat)) fun b384 => If b384 (Jn (fun l385 l386 w387 => opAg (nthD l386 (0 : Nat)) fun cs388 => opL (nthD (Array.toList cs388) (0 : Nat))
  fun a389 n390 n391 => opL (nthD (Array.toList cs388) (1 : Nat)) fun a392 n393 n394 => opI IntKind.i64 (nthD (Array.toList cs388) (2 : Nat)) fun x395 => opI IntKind.i64
  (nthD (Array.toList cs388) (3 : Nat)) fun x396 => opI IntKind.i64 (nthD (Array.toList cs388) (4 : Nat)) fun x397 => opB (nthD (Array.toList cs388) (5 : Nat)) fun b398
  => SzIs (Array.size cs388) (6 : Nat) (CallW Try.prog [n101, n57, n29] (136 : Nat) #[Value.pointer a15] (fun v399 w400 => opTu v399 fun cs401 => opP (nthD (Array.toList
  cs401) (0 : Nat)) fun a402 => opL (nthD (Array.toList cs401) (1 : Nat)) fun a403 n404 n405 => opI IntKind.i64 (nthD (Array.toList cs401) (2 : Nat)) fun x406 => SzIs
  (Array.size cs401) (3 : Nat) (Rg w400 fun n407 => Up [n407] [n407, n101, n57, n29] w400 fun w408 => CallW Try.prog [n407, n101, n57, n29] (137 : Nat) #[Value.agg
  #[Value.slice a389 n390 n391, Value.slice a392 n393 n394, Value.int IntKind.i64 x395]] (fun v409 w410 => opTu v409 fun cs411 => opAg (nthD (Array.toList cs411) (0 :
  Nat)) fun cs412 => opL (nthD (Array.toList cs412) (0 : Nat)) fun a413 n414 n415 => opL (nthD (Array.toList cs412) (1 : Nat)) fun a416 n417 n418 => opI IntKind.i64 (nthD
  (Array.toList cs412) (2 : Nat)) fun x419 => opI IntKind.i64 (nthD (Array.toList cs412) (3 : Nat)) fun x420 => opI IntKind.i64 (nthD (Array.toList cs412) (4 : Nat)) fun
  x421 => opB (nthD (Array.toList cs412) (5 : Nat)) fun b422 => SzIs (Array.size cs412) (6 : Nat) (opL (nthD (Array.toList cs411) (1 : Nat)) fun a423 n424 n425 => opI
  IntKind.i64 (nthD (Array.toList cs411) (2 : Nat)) fun x426 => SzIs (Array.size cs411) (3 : Nat) (Up [n57] [n407, n101, n57, n29] w410 fun w427 => CallW Try.prog [n407,
  n101, n57, n29] (140 : Nat) #[Value.slice a403 n404 n405, Value.slice a423 n424 n425] (fun v428 w429 => opB v428 fun b430 => Bd (!b430) fun b431 => Bd (x406 != x426)
  fun b432 => Bd (bif b431 then true else b432) fun b433 => Bd (x406 != (0 : Int)) fun b434 => Bd (bif b433 then true else b434) fun b435 => If b435 (R (Value.bool false)
  w429) (Bd ((n404 : Nat) : Int) fun x436 => LoopP (fun l437 l438 J439 w440 => opI IntKind.i64 (nthD l437 (0 : Nat)) fun x441 => Bd (decide (x441 < x436)) fun b442 => If
  b442 (IxOk x441 n404 a403 ∧ Ld w440 (adAt a403 x441 (1 : Nat)) fun v443 => opL v443 fun a444 n445 n446 => IxOk (0 : Int) n445 a444 ∧ Ld w440 (adAt a444 (0 : Int) (1 :
  Nat)) fun v447 => opI IntKind.u8 v447 fun x448 => Bd (IntKind.wrap IntKind.u8 (x448 + (1 : Int))) fun x449 => IxOk (0 : Int) n445 a444 ∧ ¬Addr.block (adAt a444 (0 :
  Int) (1 : Nat)) ∈ [n407, n101, n57, n29] ∧ Wr w440 (adAt a444 (0 : Int) (1 : Nat)) (1 : Nat) ∧ Bd (IntKind.wrap IntKind.i64 (x441 + (1 : Int))) fun x450 => J439
  [Value.int IntKind.i64 x450] [] (setCells w440 (adAt a444 (0 : Int) (1 : Nat)) (0 : Nat) [Value.int IntKind.u8 x449])) (J204 [Value.pointer a402, Value.int IntKind.i64
  x406, Value.int IntKind.i64 x426, Value.bool b79, Value.bool b205] [Value.agg #[Value.slice a413 n414 n415, Value.slice a416 n417 n418, Value.int IntKind.i64 x419,
  Value.int IntKind.i64 x420, Value.int IntKind.i64 x421, Value.bool b422]] w440)) [Value.int IntKind.i64 (0 : Int)] [] w429)) w427))) w408)) w387)) fun J451 => Bd (x97
  == (4 : Int)) fun b452 => If b452 (CallW Try.prog [n101, n57, n29] (106 : Nat) #[Value.pointer a15, Value.int IntKind.i64 x98, Value.int IntKind.i64 x99] (fun v453 w454
  => opTu v453 fun cs455 => SzIs (Array.size cs455) (0 : Nat) (CallW Try.prog [n101, n57, n29] (118 : Nat) #[Value.agg #[Value.slice a82 n83 n84, Value.slice a85 n86 n87,
  Value.int IntKind.i64 x88], Value.int IntKind.i64 x98, Value.int IntKind.i64 x99] (fun v456 w457 => opAg v456 fun cs458 => opL (nthD (Array.toList cs458) (0 : Nat)) fun
  a459 n460 n461 => opL (nthD (Array.toList cs458) (1 : Nat)) fun a462 n463 n464 => opI IntKind.i64 (nthD (Array.toList cs458) (2 : Nat)) fun x465 => SzIs (Array.size
  cs458) (3 : Nat) (Up [n57] [n101, n57, n29] w457 fun w466 => J451 [] [Value.agg #[Value.slice a459 n460 n461, Value.slice a462 n463 n464, Value.int IntKind.i64 x465,
  Value.int IntKind.i64 x89, Value.int IntKind.i64 x90, Value.bool b91]] w466)) w454)) w383) (J451 [] [Value.agg #[Value.slice a82 n83 n84, Value.slice a85 n86 n87,
  Value.int IntKind.i64 x88, Value.int IntKind.i64 x89, Value.int IntKind.i64 x90, Value.bool b91]] w383)) (J204 [Value.pointer a78, Value.int IntKind.i64 (0 : Int),
  Value.int IntKind.i64 (0 : Int), Value.bool b79, Value.bool b205] [Value.agg #[Value.slice a82 n83 n84, Value.slice a85 n86 n87, Value.int IntKind.i64 x88, Value.int
  IntKind.i64 x89, Value.int IntKind.i64 x90, Value.bool b91]] w383)) fun J467 => Bd (x97 == (4 : Int)) fun b468 => If b468 (Up [n101] [n101, n57, n29] w77 fun w469 =>
  J467 [Value.bool b468] [] w469) (Bd (x97 == (5 : Int)) fun b470 => Up [n101] [n101, n57, n29] w77 fun w471 => J467 [Value.bool b470] [] w471))))) (CallW Try.prog [n57,
  n29] (125 : Nat) #[] (fun v472 w473 => opB v472 fun b474 => R (Value.bool b474) w473) w77))) [Value.pointer a34, Value.bool false, Value.int IntKind.i64 (0 : Int)]
  [Value.agg #[Value.slice a43 n44 n45, Value.slice a46 n47 n48, Value.int IntKind.i64 x49, Value.int IntKind.i64 x50, Value.int IntKind.i64 x51, Value.bool b52]] w60)))
  fun J475 => Up [n57] [n57, n29] w40 fun w476 => Dr (World.drew w476) fun J477 => ∃ v478, (∀ (w479 : World), J477 w479 → RunV Try.prog (convert (51 : Nat) (9 : Nat)
  (Value.slice p2a p2n p2c)) v478 w479) ∧ opStr v478 fun s481 => CallW Try.prog [n57, n29] (138 : Nat) #[Value.slice p2a p2n p2c] (fun v482 w483 => opI IntKind.u32 v482
  fun x484 => J477 w483 ∧ Bd (IntKind.wrap IntKind.u64 x484) fun x485 => CallW Try.prog [n57, n29] (139 : Nat) #[Value.string s481] (fun v486 w487 => opI IntKind.u64 v486
  fun x488 => J477 w487 ∧ Bd (x485 != x488) fun b489 => Bd (x16 != (0 : Int)) fun b490 => Bd (bif b489 then true else b490) fun b491 => Bd (x38 != x56) fun b492 => Bd
  (bif b491 then true else b492) fun b493 => Gd (!b493) false (fun J494 => CallW Try.prog [n57, n29] (140 : Nat) #[Value.slice a35 n36 n37, Value.slice a53 n54 n55] (fun
  v495 w496 => opB v495 fun b497 => J494 b497 w496) w487) (fun b498 w499 => J477 w499 ∧ Bd (!b498) fun b500 => Bd (bif b493 then true else b500) fun b501 => J475
  [Value.bool b501] [] w499) w487) w483) (World.drew w476)))) w32)) w30))) w13)) w)
theorem f37_eq (p0 : Int) (p1a : Option Addr) (p1n : Nat) (p1c : Nat) (p2a : Option Addr) (p2n : Nat) (p2c : Nat) (R : Value → World → Prop) (w : World) : fnW Try.prog
  [10, 15, 19, 24, 100008, 400019, 400022, 400042] Try.f37 [Value.int IntKind.u8 p0, Value.slice p1a p1n p1c, Value.slice p2a p2n p2c] R w = f37_vc p0 p1a p1n p1c p2a p2n
  p2c R w := by kernel_rfl
theorem f37_in (p0 : Int) (p1a : Option Addr) (p1n : Nat) (p1c : Nat) (p2a : Option Addr) (p2n : Nat) (p2c : Nat) (R : Value → World → Prop) (w : World) (h : f37_vc p0
  p1a p1n p1c p2a p2n p2c R w) : Ct Try.prog 37 #[Value.int IntKind.u8 p0, Value.slice p1a p1n p1c, Value.slice p2a p2n p2c] w R := by
  refine Ct_of (rk := [10, 15, 19, 24, 100008, 400019, 400022, 400042]) (fn := Try.f37) (args := [Value.int IntKind.u8 p0, Value.slice p1a p1n p1c, Value.slice p2a p2n p2c]) mixedT Try.func37 (by kernel_rfl) ?_
  rw [f37_eq]
  exact h
end Fk
