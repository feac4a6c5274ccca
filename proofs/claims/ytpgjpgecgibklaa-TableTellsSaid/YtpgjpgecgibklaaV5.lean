/- Conditions of functions, as the generator works them out; each one is checked by the kernel. -/
import Derived.Test.YtpgjpgecgibklaaTT
set_option linter.unusedVariables false
set_option maxRecDepth 1000000
set_option maxHeartbeats 4000000
namespace Fk
open Go Go.Proofs Go.RowKit
def f9_vc (p0 : Array Value) (p1a : Option Addr) (p1n : Nat) (p1c : Nat) (R : Value → World → Prop) (w : World) : Prop := Rg w fun n1 => Array.size p0 = (261 : Nat) ∧ Up
  [] [n1] w fun w2 => CallW Try.prog [n1] (53 : Nat) #[Value.agg p0] (fun v3 w4 => opB v3 fun b5 => Bd (!b5) fun b6 => Bd ((p1n : Nat) : Int) fun x7 => Bd (decide (x7 >
  (6000 : Int))) fun b8 => Bd (bif b6 then true else b8) fun b9 => If b9 (CallW Try.prog [n1] (54 : Nat) #[] (fun v10 w11 => opB v10 fun b12 => R (Value.bool b12) w11)
  w4) (Array.size p0 = (261 : Nat) ∧ CallW Try.prog [n1] (59 : Nat) #[Value.agg p0] (fun v13 w14 => opTu v13 fun cs15 => opL (nthD (Array.toList cs15) (0 : Nat)) fun a16
  n17 n18 => opI IntKind.i64 (nthD (Array.toList cs15) (1 : Nat)) fun x19 => SzIs (Array.size cs15) (2 : Nat) (Jn (fun l20 l21 w22 => opB (nthD l20 (0 : Nat)) fun b23 =>
  CallW Try.prog [n1] (61 : Nat) #[Value.slice p1a p1n p1c] (fun v24 w25 => opTu v24 fun cs26 => opBig (nthD (Array.toList cs26) (0 : Nat)) fun cs27 => Array.size cs27 =
  (261 : Nat) ∧ opI IntKind.i64 (nthD (Array.toList cs26) (1 : Nat)) fun x28 => SzIs (Array.size cs26) (2 : Nat) (Array.size cs27 = (261 : Nat) ∧ Rg w25 fun n29 => OkC
  (Array.toList cs27) (261 : Nat) (Bd (x28 != (0 : Int)) fun b30 => If b30 (Bd (x28 == (100 : Int)) fun b31 => (b31 = true → Array.size cs27 = (261 : Nat)) ∧ Up [n29]
  [n29, n1] w25 fun w33 => Gd b31 #[] (fun J34 => RunW Try.prog [n29, n1] (Instr.build (57 : Nat) #[]) (fun v35 w36 => opBig v35 fun cs37 => Array.size cs37 = (261 : Nat)
  ∧ J34 cs37 w36) w33) (fun cs38 w39 => Gd b31 false (fun J40 => CallW Try.prog [n29, n1] (63 : Nat) #[Value.agg cs27, Value.agg cs38] (fun v41 w42 => opB v41 fun b43 =>
  J40 b43 w42) w39) (fun b44 w45 => Bd (bif b31 then b44 else false) fun b46 => Gd b46 false (fun J47 => CallW Try.prog [n29, n1] (54 : Nat) #[] (fun v48 w49 => opB v48
  fun b50 => J47 b50 w49) w45) (fun b51 w52 => Bd (bif b46 then b51 else false) fun b53 => R (Value.bool b53) w52) w45) w39) w33) (Array.size cs27 = (261 : Nat) ∧ Up
  [n29] [n29, n1] w25 fun w54 => CallW Try.prog [n29, n1] (59 : Nat) #[Value.agg cs27] (fun v55 w56 => opTu v55 fun cs57 => opL (nthD (Array.toList cs57) (0 : Nat)) fun
  a58 n59 n60 => opI IntKind.i64 (nthD (Array.toList cs57) (1 : Nat)) fun x61 => SzIs (Array.size cs57) (2 : Nat) (Bd (x61 == (0 : Int)) fun b62 => (b62 = true →
  Array.size cs27 = (261 : Nat)) ∧ Gd b62 false (fun J64 => CallW Try.prog [n29, n1] (55 : Nat) #[Value.agg cs27] (fun v65 w66 => opB v65 fun b67 => J64 b67 w66) w56)
  (fun b68 w69 => Bd (bif b62 then b68 else false) fun b70 => Gd b70 ByteArray.empty (fun J71 => RunW Try.prog [n29, n1] (convert (51 : Nat) (9 : Nat) (Value.slice a58
  n59 n60)) (fun v72 w73 => opStr v72 fun s74 => J71 s74 w73) w69) (fun s75 w76 => Gd b70 ByteArray.empty (fun J77 => RunW Try.prog [n29, n1] (convert (51 : Nat) (9 :
  Nat) (Value.slice p1a p1n p1c)) (fun v78 w79 => opStr v78 fun s80 => J77 s80 w79) w76) (fun s81 w82 => Bd (ByteArray.toList s75 == ByteArray.toList s81) fun b83 => Bd
  (bif b70 then b83 else false) fun b84 => Gd b84 false (fun J85 => CallW Try.prog [n29, n1] (54 : Nat) #[] (fun v86 w87 => opB v86 fun b88 => J85 b88 w87) w82) (fun b89
  w90 => Bd (bif b84 then b89 else false) fun b91 => R (Value.bool b91) w90) w82) w76) w69) w56)) w54)))) w22) fun J92 => Array.size p0 = (261 : Nat) ∧ CallW Try.prog
  [n1] (55 : Nat) #[Value.agg p0] (fun v93 w94 => opB v93 fun b95 => If b95 (CallW Try.prog [n1] (61 : Nat) #[Value.slice a16 n17 n18] (fun v96 w97 => opTu v96 fun cs98
  => opBig (nthD (Array.toList cs98) (0 : Nat)) fun cs99 => Array.size cs99 = (261 : Nat) ∧ opI IntKind.i64 (nthD (Array.toList cs98) (1 : Nat)) fun x100 => SzIs
  (Array.size cs98) (2 : Nat) (Array.size cs99 = (261 : Nat) ∧ Rg w97 fun n101 => OkC (Array.toList cs99) (261 : Nat) (Bd (x19 != (0 : Int)) fun b102 => Bd (x100 != (0 :
  Int)) fun b103 => Bd (bif b102 then true else b103) fun b104 => ((!b104) = true → Array.size p0 = (261 : Nat)) ∧ ((!b104) = true → Array.size cs99 = (261 : Nat)) ∧ Up
  [n101] [n101, n1] w97 fun w107 => Gd (!b104) false (fun J108 => CallW Try.prog [n101, n1] (63 : Nat) #[Value.agg p0, Value.agg cs99] (fun v109 w110 => opB v109 fun b111
  => J108 b111 w110) w107) (fun b112 w113 => Bd (!b112) fun b114 => Bd (bif b104 then true else b114) fun b115 => If b115 (R (Value.bool false) w113) (J92 [Value.bool
  false] [] w113)) w107))) w94) (Bd (x19 != (100 : Int)) fun b116 => Bd ((n17 : Nat) : Int) fun x117 => Bd (x117 != (0 : Int)) fun b118 => Bd (bif b116 then true else
  b118) fun b119 => If b119 (R (Value.bool false) w94) (J92 [Value.bool false] [] w94))) w14)) w4)) w2
theorem f9_eq (p0 : Array Value) (p1a : Option Addr) (p1n : Nat) (p1c : Nat) (R : Value → World → Prop) (w : World) : fnW Try.prog [2, 7, 9] Try.f9 [Value.agg p0,
  Value.slice p1a p1n p1c] R w = f9_vc p0 p1a p1n p1c R w := by kernel_rfl
theorem f9_in (p0 : Array Value) (p1a : Option Addr) (p1n : Nat) (p1c : Nat) (R : Value → World → Prop) (w : World) (h : f9_vc p0 p1a p1n p1c R w) : Ct Try.prog 9
  #[Value.agg p0, Value.slice p1a p1n p1c] w R := by
  refine Ct_of (rk := [2, 7, 9]) (fn := Try.f9) (args := [Value.agg p0, Value.slice p1a p1n p1c]) mixedT Try.func9 (by kernel_rfl) ?_
  rw [f9_eq]
  exact h
def f10_vc (p0 : Array Value) (p1 : Int) (p2 : Int) (p3 : Int) (p4a : Option Addr) (p4n : Nat) (p4c : Nat) (R : Value → World → Prop) (w : World) : Prop := Rg w fun n1 =>
  Array.size p0 = (261 : Nat) ∧ Up [] [n1] w fun w2 => CallW Try.prog [n1] (53 : Nat) #[Value.agg p0] (fun v3 w4 => opB v3 fun b5 => Bd (!b5) fun b6 => ((!b6) = true →
  Array.size p0 = (261 : Nat)) ∧ Gd (!b6) false (fun J8 => CallW Try.prog [n1] (55 : Nat) #[Value.agg p0] (fun v9 w10 => opB v9 fun b11 => J8 b11 w10) w4) (fun b12 w13 =>
  Bd (!b12) fun b14 => Bd (bif b6 then true else b14) fun b15 => If b15 (CallW Try.prog [n1] (54 : Nat) #[] (fun v16 w17 => opB v16 fun b18 => R (Value.bool b18) w17)
  w13) (Array.size p0 = (261 : Nat) ∧ CallW Try.prog [n1] (59 : Nat) #[Value.agg p0] (fun v19 w20 => opTu v19 fun cs21 => opL (nthD (Array.toList cs21) (0 : Nat)) fun a22
  n23 n24 => opI IntKind.i64 (nthD (Array.toList cs21) (1 : Nat)) fun x25 => SzIs (Array.size cs21) (2 : Nat) (Bd (x25 != (0 : Int)) fun b26 => Bd ((n23 : Nat) : Int) fun
  x27 => Bd (x27 == (0 : Int)) fun b28 => Bd (bif b26 then true else b28) fun b29 => If b29 (R (Value.bool false) w20) (Bd (IntKind.wrap IntKind.i64 p1) fun x30 => Bd
  ((n23 : Nat) : Int) fun x31 => x31 ≠ (0 : Int) ∧ Bd (Int.tmod x30 x31) fun x32 => RunW Try.prog [n1] (Instr.sliceAt (51 : Nat) (Value.slice a22 n23 n24) none (some
  (Value.int IntKind.i64 x32)) none) (fun v33 w34 => opL v33 fun a35 n36 n37 => CallW Try.prog [n1] (61 : Nat) #[Value.slice a35 n36 n37] (fun v38 w39 => opTu v38 fun
  cs40 => opBig (nthD (Array.toList cs40) (0 : Nat)) fun cs41 => Array.size cs41 = (261 : Nat) ∧ opI IntKind.i64 (nthD (Array.toList cs40) (1 : Nat)) fun x42 => SzIs
  (Array.size cs40) (2 : Nat) (Array.size cs41 = (261 : Nat) ∧ Rg w39 fun n43 => OkC (Array.toList cs41) (261 : Nat) (Up [n43] [n43, n1] w39 fun w44 => Nw (Obj.cells #[]
  (5 : Nat)) w44 fun n45 w46 => RunW Try.prog [n43, n1] (Builtin.append_ #[(51 : Nat), (51 : Nat)] (51 : Nat) #[Value.slice (some (Addr.mk n45 (0 : Nat) none)) (0 : Nat)
  (0 : Nat), Value.slice a22 n23 n24]) (fun v47 w48 => opL v47 fun a49 n50 n51 => Nw (Obj.cells #[Value.int IntKind.u8 (0 : Int)] (5 : Nat)) w48 fun n52 w53 => RunW
  Try.prog [n43, n1] (Builtin.append_ #[(51 : Nat), (51 : Nat)] (51 : Nat) #[Value.slice a49 n50 n51, Value.slice (some (Addr.mk n52 (0 : Nat) none)) (1 : Nat) (1 :
  Nat)]) (fun v54 w55 => opL v54 fun a56 n57 n58 => CallW Try.prog [n43, n1] (61 : Nat) #[Value.slice a56 n57 n58] (fun v59 w60 => opTu v59 fun cs61 => opBig (nthD
  (Array.toList cs61) (0 : Nat)) fun cs62 => Array.size cs62 = (261 : Nat) ∧ opI IntKind.i64 (nthD (Array.toList cs61) (1 : Nat)) fun x63 => SzIs (Array.size cs61) (2 :
  Nat) (Array.size cs62 = (261 : Nat) ∧ Rg w60 fun n64 => OkC (Array.toList cs62) (261 : Nat) (Bd (x42 != (100 : Int)) fun b65 => Bd (x63 != (100 : Int)) fun b66 => Bd
  (bif b65 then true else b66) fun b67 => If b67 (Up [n64] [n64, n43, n1] w60 fun w68 => R (Value.bool false) w68) (Jn (fun l69 l70 w71 => opB (nthD l69 (0 : Nat)) fun
  b72 => Nw (Obj.cells #[] (5 : Nat)) w71 fun n73 w74 => RunW Try.prog [n64, n43, n1] (Builtin.append_ #[(51 : Nat), (51 : Nat)] (51 : Nat) #[Value.slice (some (Addr.mk
  n73 (0 : Nat) none)) (0 : Nat) (0 : Nat), Value.slice a22 n23 n24]) (fun v75 w76 => opL v75 fun a77 n78 n79 => Bd (IntKind.wrap IntKind.i64 p2) fun x80 => Bd ((n23 :
  Nat) : Int) fun x81 => x81 ≠ (0 : Int) ∧ Bd (Int.tmod x80 x81) fun x82 => IxOk x82 n78 a77 ∧ ¬Addr.block (adAt a77 x82 (1 : Nat)) ∈ [n64, n43, n1] ∧ Wr w76 (adAt a77
  x82 (1 : Nat)) (1 : Nat) ∧ CallW Try.prog [n64, n43, n1] (61 : Nat) #[Value.slice a77 n78 n79] (fun v83 w84 => opTu v83 fun cs85 => opBig (nthD (Array.toList cs85) (0 :
  Nat)) fun cs86 => Array.size cs86 = (261 : Nat) ∧ opI IntKind.i64 (nthD (Array.toList cs85) (1 : Nat)) fun x87 => SzIs (Array.size cs85) (2 : Nat) (Array.size cs86 =
  (261 : Nat) ∧ Rg w84 fun n88 => OkC (Array.toList cs86) (261 : Nat) (Up [n88] [n88, n64, n43, n1] w84 fun w89 => RunW Try.prog [n88, n64, n43, n1] (convert (51 : Nat)
  (9 : Nat) (Value.slice a77 n78 n79)) (fun v90 w91 => opStr v90 fun s92 => RunW Try.prog [n88, n64, n43, n1] (convert (51 : Nat) (9 : Nat) (Value.slice a22 n23 n24))
  (fun v93 w94 => opStr v93 fun s95 => Bd (ByteArray.toList s92 == ByteArray.toList s95) fun b96 => If b96 (Bd (x87 == (0 : Int)) fun b97 => (b97 = true → Array.size cs86
  = (261 : Nat)) ∧ (b97 = true → Array.size p0 = (261 : Nat)) ∧ Gd b97 false (fun J100 => CallW Try.prog [n88, n64, n43, n1] (63 : Nat) #[Value.agg cs86, Value.agg p0]
  (fun v101 w102 => opB v101 fun b103 => J100 b103 w102) w94) (fun b104 w105 => Bd (bif b97 then b104 else false) fun b106 => Gd b106 false (fun J107 => CallW Try.prog
  [n88, n64, n43, n1] (54 : Nat) #[] (fun v108 w109 => opB v108 fun b110 => J107 b110 w109) w105) (fun b111 w112 => Bd (bif b106 then b111 else false) fun b113 => R
  (Value.bool b113) w112) w105) w94) (Bd (x87 == (100 : Int)) fun b114 => Bd (x87 == (0 : Int)) fun b115 => ((!b114 && b115) = true → Array.size cs86 = (261 : Nat)) ∧
  ((!b114 && b115) = true → Array.size p0 = (261 : Nat)) ∧ Gd (!b114 && b115) false (fun J118 => CallW Try.prog [n88, n64, n43, n1] (63 : Nat) #[Value.agg cs86, Value.agg
  p0] (fun v119 w120 => opB v119 fun b121 => J118 b121 w120) w94) (fun b122 w123 => Bd (!b122) fun b124 => Bd (bif b115 then b124 else false) fun b125 => ((!b114 && b125)
  = true → Array.size cs86 = (261 : Nat)) ∧ Gd (!b114 && b125) false (fun J127 => CallW Try.prog [n88, n64, n43, n1] (55 : Nat) #[Value.agg cs86] (fun v128 w129 => opB
  v128 fun b130 => J127 b130 w129) w123) (fun b131 w132 => Bd (bif b125 then b131 else false) fun b133 => Bd (bif b114 then true else b133) fun b134 => Gd b134 false (fun
  J135 => CallW Try.prog [n88, n64, n43, n1] (54 : Nat) #[] (fun v136 w137 => opB v136 fun b138 => J135 b138 w137) w132) (fun b139 w140 => Bd (bif b134 then b139 else
  false) fun b141 => R (Value.bool b141) w140) w132) w123) w94)) w91) w89))) (setCells w76 (adAt a77 x82 (1 : Nat)) (0 : Nat) [Value.int IntKind.u8 p3])) w74) fun J142 =>
  Bd ((p4n : Nat) : Int) fun x143 => Bd (decide (x143 > (0 : Int))) fun b144 => Bd ((p4n : Nat) : Int) fun x145 => Bd (decide (x145 ≤ (20 : Int))) fun b146 => Bd (bif
  b144 then b146 else false) fun b147 => If b147 (Up [n64] [n64, n43, n1] w60 fun w148 => Nw (Obj.cells #[] (5 : Nat)) w148 fun n149 w150 => RunW Try.prog [n64, n43, n1]
  (Builtin.append_ #[(51 : Nat), (51 : Nat)] (51 : Nat) #[Value.slice (some (Addr.mk n149 (0 : Nat) none)) (0 : Nat) (0 : Nat), Value.slice a22 n23 n24]) (fun v151 w152
  => opL v151 fun a153 n154 n155 => RunW Try.prog [n64, n43, n1] (Builtin.append_ #[(51 : Nat), (51 : Nat)] (51 : Nat) #[Value.slice a153 n154 n155, Value.slice p4a p4n
  p4c]) (fun v156 w157 => opL v156 fun a158 n159 n160 => CallW Try.prog [n64, n43, n1] (61 : Nat) #[Value.slice a158 n159 n160] (fun v161 w162 => opTu v161 fun cs163 =>
  opBig (nthD (Array.toList cs163) (0 : Nat)) fun cs164 => Array.size cs164 = (261 : Nat) ∧ opI IntKind.i64 (nthD (Array.toList cs163) (1 : Nat)) fun x165 => SzIs
  (Array.size cs163) (2 : Nat) (Array.size cs164 = (261 : Nat) ∧ Rg w162 fun n166 => OkC (Array.toList cs164) (261 : Nat) (Bd (x165 != (100 : Int)) fun b167 => If b167
  (Up [n166] [n166, n64, n43, n1] w162 fun w168 => R (Value.bool false) w168) (Up [n166] [n166, n64, n43, n1] w162 fun w169 => J142 [Value.bool false] [] w169)))) w157)
  w152) w150) (Up [n64] [n64, n43, n1] w60 fun w170 => J142 [Value.bool false] [] w170))))) w55) w53) w46))) w34) w20))) w13)) w4) w2
theorem f10_eq (p0 : Array Value) (p1 : Int) (p2 : Int) (p3 : Int) (p4a : Option Addr) (p4n : Nat) (p4c : Nat) (R : Value → World → Prop) (w : World) : fnW Try.prog [5,
  13, 15, 17, 20] Try.f10 [Value.agg p0, Value.int IntKind.u16 p1, Value.int IntKind.u16 p2, Value.int IntKind.u8 p3, Value.slice p4a p4n p4c] R w = f10_vc p0 p1 p2 p3
  p4a p4n p4c R w := by kernel_rfl
theorem f10_in (p0 : Array Value) (p1 : Int) (p2 : Int) (p3 : Int) (p4a : Option Addr) (p4n : Nat) (p4c : Nat) (R : Value → World → Prop) (w : World) (h : f10_vc p0 p1 p2
  p3 p4a p4n p4c R w) : Ct Try.prog 10 #[Value.agg p0, Value.int IntKind.u16 p1, Value.int IntKind.u16 p2, Value.int IntKind.u8 p3, Value.slice p4a p4n p4c] w R := by
  refine Ct_of (rk := [5, 13, 15, 17, 20]) (fn := Try.f10) (args := [Value.agg p0, Value.int IntKind.u16 p1, Value.int IntKind.u16 p2, Value.int IntKind.u8 p3, Value.slice p4a p4n p4c]) mixedT Try.func10 (by kernel_rfl) ?_
  rw [f10_eq]
  exact h
end Fk
