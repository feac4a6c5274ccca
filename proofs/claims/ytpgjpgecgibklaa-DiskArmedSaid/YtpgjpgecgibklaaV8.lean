/- Conditions of functions, as the generator works them out; each one is checked by the kernel. -/
import Derived.Test.YtpgjpgecgibklaaTT
set_option linter.unusedVariables false
set_option maxRecDepth 1000000
set_option maxHeartbeats 4000000
namespace Fk
open Go Go.Proofs Go.RowKit
def f25_vc (p0a : Option Addr) (p0n : Nat) (p0c : Nat) (p1 : Int) (R : Value → World → Prop) (w : World) : Prop := CallW Try.prog [] (109 : Nat) #[Value.int IntKind.i64
  (8 : Int)] (fun v1 w2 => opTu v1 fun cs3 => opP (nthD (Array.toList cs3) (0 : Nat)) fun a4 => opI IntKind.i64 (nthD (Array.toList cs3) (1 : Nat)) fun x5 => SzIs
  (Array.size cs3) (2 : Nat) (CallW Try.prog [] (109 : Nat) #[Value.int IntKind.i64 (8 : Int)] (fun v6 w7 => opTu v6 fun cs8 => opP (nthD (Array.toList cs8) (0 : Nat))
  fun a9 => opI IntKind.i64 (nthD (Array.toList cs8) (1 : Nat)) fun x10 => SzIs (Array.size cs8) (2 : Nat) (Bd (IntKind.wrap IntKind.i64 p1) fun x11 => Bd (IntKind.wrap
  IntKind.i64 ((1 : Int) + x11)) fun x12 => CallW Try.prog [] (102 : Nat) #[Value.pointer a4, Value.int IntKind.i64 x12] (fun v13 w14 => opTu v13 fun cs15 => SzIs
  (Array.size cs15) (0 : Nat) (Bd ((p0n : Nat) : Int) fun x16 => Bd (if (30 : Int) < x16 then (30 : Int) else x16) fun x17 => RunW Try.prog [] (Instr.sliceAt (118 : Nat)
  (Value.slice p0a p0n p0c) none (some (Value.int IntKind.i64 x17)) none) (fun v18 w19 => opL v18 fun a20 n21 n22 => Bd ((n21 : Nat) : Int) fun x23 => LoopP (fun l24 l25
  J26 w27 => opI IntKind.i64 (nthD l24 (0 : Nat)) fun x28 => opB (nthD l24 (1 : Nat)) fun b29 => opI IntKind.i64 (nthD l24 (2 : Nat)) fun x30 => Bd (decide (x30 < x23))
  fun b31 => If b31 (Jn (fun l32 l33 w34 => opI IntKind.i64 (nthD l32 (0 : Nat)) fun x35 => opB (nthD l32 (1 : Nat)) fun b36 => Bd (IntKind.wrap IntKind.i64 (x30 + (1 :
  Int))) fun x37 => J26 [Value.int IntKind.i64 x35, Value.bool b36, Value.int IntKind.i64 x37] [] w34) fun J38 => IxOk x30 n21 a20 ∧ Ld w27 (Addr.add (adAt a20 x30 (6 :
  Nat)) (0 : Nat)) fun v39 => Ld w27 (Addr.add (adAt a20 x30 (6 : Nat)) (1 : Nat)) fun v40 => Ld w27 (Addr.add (adAt a20 x30 (6 : Nat)) (2 : Nat)) fun v41 => Ld w27
  (Addr.add (adAt a20 x30 (6 : Nat)) (3 : Nat)) fun v42 => Ld w27 (Addr.add (adAt a20 x30 (6 : Nat)) (4 : Nat)) fun v43 => Ld w27 (Addr.add (adAt a20 x30 (6 : Nat)) (5 :
  Nat)) fun v44 => opI IntKind.u8 v39 fun x45 => opI IntKind.i64 v40 fun x46 => opI IntKind.i64 v41 fun x47 => opI IntKind.u8 v42 fun x48 => opI IntKind.u8 v43 fun x49 =>
  opB v44 fun b50 => Rg w27 fun n51 => Bd (x45 != (1 : Int)) fun b52 => Bd (x45 != (2 : Int)) fun b53 => Bd (bif b52 then b53 else false) fun b54 => If b54 (Up [n51]
  [n51] w27 fun w55 => J38 [Value.int IntKind.i64 x28, Value.bool b29] [] w55) (Bd (x45 == (1 : Int)) fun b56 => Bd (decide (x46 < (0 : Int))) fun b57 => Bd (decide (x46
  > (7 : Int))) fun b58 => Bd (bif b57 then true else b58) fun b59 => Up [n51] [n51] w27 fun w60 => Gd (b56 && !b59) (none, (0 : Nat), (0 : Nat)) (fun J61 => CallW
  Try.prog [n51] (110 : Nat) #[Value.agg #[Value.int IntKind.u8 x45, Value.int IntKind.i64 x46, Value.int IntKind.i64 x47, Value.int IntKind.u8 x48, Value.int IntKind.u8
  x49, Value.bool b50]] (fun v62 w63 => opL v62 fun a64 n65 n66 => J61 (a64, n65, n66) w63) w60) (fun u67 w68 => Bd ↑(Prod.fst (Prod.snd u67)) fun x69 => Bd (x69 != (64 :
  Int)) fun b70 => Bd (bif b59 then true else b70) fun b71 => Bd (bif b56 then b71 else false) fun b72 => If b72 (CallW Try.prog [n51] (105 : Nat) #[Value.pointer a4,
  Value.agg #[Value.int IntKind.u8 x45, Value.int IntKind.i64 x46, Value.int IntKind.i64 x47, Value.int IntKind.u8 x48, Value.int IntKind.u8 x49, Value.bool b50]] (fun
  v73 w74 => opI IntKind.i64 v73 fun x75 => Bd (x75 != (2 : Int)) fun b76 => If b76 (R (Value.bool false) w74) (J38 [Value.int IntKind.i64 x28, Value.bool b29] [] w74))
  w68) (CallW Try.prog [n51] (105 : Nat) #[Value.pointer a4, Value.agg #[Value.int IntKind.u8 x45, Value.int IntKind.i64 x46, Value.int IntKind.i64 x47, Value.int
  IntKind.u8 x48, Value.int IntKind.u8 x49, Value.bool b50]] (fun v77 w78 => opI IntKind.i64 v77 fun x79 => Bd (x79 == (200 : Int)) fun b80 => Bd (IntKind.wrap
  IntKind.i64 p1) fun x81 => Bd (x28 == x81) fun b82 => Bd (!b80 == b82) fun b83 => Bd (x79 != (200 : Int)) fun b84 => Bd (x79 != (0 : Int)) fun b85 => Gd (!b83 && b84 &&
  !b85) (0 : Int) (fun J86 => CallW Try.prog [n51] (105 : Nat) #[Value.pointer a9, Value.agg #[Value.int IntKind.u8 x45, Value.int IntKind.i64 x46, Value.int IntKind.i64
  x47, Value.int IntKind.u8 x48, Value.int IntKind.u8 x49, Value.bool b50]] (fun v87 w88 => opI IntKind.i64 v87 fun x89 => J86 x89 w88) w78) (fun x90 w91 => Bd (x90 != (0
  : Int)) fun b92 => Bd (bif b85 then true else b92) fun b93 => Bd (bif b84 then b93 else false) fun b94 => Bd (bif b83 then true else b94) fun b95 => If b95 (R
  (Value.bool false) w91) (Bd (IntKind.wrap IntKind.i64 (x28 + (1 : Int))) fun x96 => Jn (fun l97 l98 w99 => opB (nthD l97 (0 : Nat)) fun b100 => If b100 (R (Value.bool
  false) w99) (J38 [Value.int IntKind.i64 x96, Value.bool b29] [] w99)) fun J101 => CallW Try.prog [n51] (104 : Nat) #[Value.pointer a4] (fun v102 w103 => opL v102 fun
  a104 n105 n106 => RunW Try.prog [n51] (convert (51 : Nat) (9 : Nat) (Value.slice a104 n105 n106)) (fun v107 w108 => opStr v107 fun s109 => CallW Try.prog [n51] (104 :
  Nat) #[Value.pointer a9] (fun v110 w111 => opL v110 fun a112 n113 n114 => RunW Try.prog [n51] (convert (51 : Nat) (9 : Nat) (Value.slice a112 n113 n114)) (fun v115 w116
  => opStr v115 fun s117 => Bd (!ByteArray.toList s109 == ByteArray.toList s117) fun b118 => Gd (!b118) (0 : Int) (fun J119 => CallW Try.prog [n51] (108 : Nat)
  #[Value.pointer a4] (fun v120 w121 => opI IntKind.i64 v120 fun x122 => J119 x122 w121) w116) (fun x123 w124 => Gd (!b118) (0 : Int) (fun J125 => CallW Try.prog [n51]
  (108 : Nat) #[Value.pointer a9] (fun v126 w127 => opI IntKind.i64 v126 fun x128 => J125 x128 w127) w124) (fun x129 w130 => Bd (x123 != x129) fun b131 => Bd (bif b118
  then true else b131) fun b132 => J101 [Value.bool b132] [] w130) w124) w116) w111) w108) w103 ∧ CallW Try.prog [n51] (104 : Nat) #[Value.pointer a9] (fun v133 w134 =>
  opL v133 fun a135 n136 n137 => RunW Try.prog [n51] (convert (51 : Nat) (9 : Nat) (Value.slice a104 n105 n106)) (fun v138 w139 => opStr v138 fun s140 => RunW Try.prog
  [n51] (convert (51 : Nat) (9 : Nat) (Value.slice a135 n136 n137)) (fun v141 w142 => opStr v141 fun s143 => Bd (!ByteArray.toList s140 == ByteArray.toList s143) fun b144
  => Gd (!b144) (0 : Int) (fun J145 => CallW Try.prog [n51] (108 : Nat) #[Value.pointer a4] (fun v146 w147 => opI IntKind.i64 v146 fun x148 => J145 x148 w147) w142) (fun
  x149 w150 => Gd (!b144) (0 : Int) (fun J151 => CallW Try.prog [n51] (108 : Nat) #[Value.pointer a9] (fun v152 w153 => opI IntKind.i64 v152 fun x154 => J151 x154 w153)
  w150) (fun x155 w156 => Bd (x149 != x155) fun b157 => Bd (bif b144 then true else b157) fun b158 => J101 [Value.bool b158] [] w156) w150) w142) w139) w134 ∧ RunW
  Try.prog [n51] (convert (51 : Nat) (9 : Nat) (Value.slice a135 n136 n137)) (fun v159 w160 => opStr v159 fun s161 => RunW Try.prog [n51] (convert (51 : Nat) (9 : Nat)
  (Value.slice a104 n105 n106)) (fun v162 w163 => opStr v162 fun s164 => Bd (!ByteArray.toList s164 == ByteArray.toList s161) fun b165 => Gd (!b165) (0 : Int) (fun J166
  => CallW Try.prog [n51] (108 : Nat) #[Value.pointer a4] (fun v167 w168 => opI IntKind.i64 v167 fun x169 => J166 x169 w168) w163) (fun x170 w171 => Gd (!b165) (0 : Int)
  (fun J172 => CallW Try.prog [n51] (108 : Nat) #[Value.pointer a9] (fun v173 w174 => opI IntKind.i64 v173 fun x175 => J172 x175 w174) w171) (fun x176 w177 => Bd (x170 !=
  x176) fun b178 => Bd (bif b165 then true else b178) fun b179 => J101 [Value.bool b179] [] w177) w171) w163) w160) w134) w103) (World.drew w91))) w78) w68)) w60)) (CallW
  Try.prog [] (107 : Nat) #[] (fun v180 w181 => opB v180 fun b182 => R (Value.bool b182) w181) w27)) [Value.int IntKind.i64 (0 : Int), Value.bool false, Value.int
  IntKind.i64 (0 : Int)] [] w19) w14)) w7)) w2)) w
theorem f25_eq (p0a : Option Addr) (p0n : Nat) (p0c : Nat) (p1 : Int) (R : Value → World → Prop) (w : World) : fnW Try.prog [11, 400016] Try.f25 [Value.slice p0a p0n p0c,
  Value.int IntKind.u8 p1] R w = f25_vc p0a p0n p0c p1 R w := by kernel_rfl
theorem f25_in (p0a : Option Addr) (p0n : Nat) (p0c : Nat) (p1 : Int) (R : Value → World → Prop) (w : World) (h : f25_vc p0a p0n p0c p1 R w) : Ct Try.prog 25
  #[Value.slice p0a p0n p0c, Value.int IntKind.u8 p1] w R := by
  refine Ct_of (rk := [11, 400016]) (fn := Try.f25) (args := [Value.slice p0a p0n p0c, Value.int IntKind.u8 p1]) mixedT Try.func25 (by kernel_rfl) ?_
  rw [f25_eq]
  exact h
end Fk
