/- Conditions of functions, as the generator works them out; each one is checked by the kernel. -/
import Derived.Test.YtpgjpgecgibklaaGK2
set_option linter.unusedVariables false
set_option maxRecDepth 1000000
set_option maxHeartbeats 4000000
namespace Fk
open Go Go.Proofs Go.RowKit
def f11_vc (p0a : Option Addr) (p0n : Nat) (p0c : Nat) (p1 : ByteArray) (R : Value → World → Prop) (w : World) : Prop := CallW Try.prog [] (64 : Nat) #[Value.slice p0a
  p0n p0c] (fun v1 w2 => opL v1 fun a3 n4 n5 => CallW Try.prog [] (38 : Nat) #[Value.slice a3 n4 n5] (fun v6 w7 => opB v6 fun b8 => Bd (!b8) fun b9 => Bd ((n4 : Nat) :
  Int) fun x10 => Bd (x10 == (0 : Int)) fun b11 => Bd (bif b9 then true else b11) fun b12 => If b12 (CallW Try.prog [] (65 : Nat) #[] (fun v13 w14 => opB v13 fun b15 => R
  (Value.bool b15) w14) w7) (CallW Try.prog [] (66 : Nat) #[Value.slice a3 n4 n5, Value.int IntKind.i64 (20000 : Int)] (fun v16 w17 => opTu v16 fun cs18 => opAg (nthD
  (Array.toList cs18) (0 : Nat)) fun cs19 => opI IntKind.i64 (nthD (Array.toList cs19) (0 : Nat)) fun x20 => opL (nthD (Array.toList cs19) (1 : Nat)) fun a21 n22 n23 =>
  SzIs (Array.size cs19) (2 : Nat) (opI IntKind.i64 (nthD (Array.toList cs18) (1 : Nat)) fun x24 => SzIs (Array.size cs18) (2 : Nat) (Rg w17 fun n25 => Up [n25] [n25] w17
  fun w26 => CallW Try.prog [n25] (40 : Nat) #[Value.slice a3 n4 n5] (fun v27 w28 => opTu v27 fun cs29 => opBig (nthD (Array.toList cs29) (0 : Nat)) fun cs30 =>
  Array.size cs30 = (257 : Nat) ∧ opI IntKind.i64 (nthD (Array.toList cs29) (1 : Nat)) fun x31 => SzIs (Array.size cs29) (2 : Nat) (Array.size cs30 = (257 : Nat) ∧ Rg w28
  fun n32 => OkC (Array.toList cs30) (257 : Nat) (Array.size cs30 = (257 : Nat) ∧ Up [n32] [n32, n25] w28 fun w33 => CallW Try.prog [n32, n25] (67 : Nat) #[Value.agg
  #[Value.int IntKind.i64 x20, Value.slice a21 n22 n23], Value.agg cs30, Value.int IntKind.i64 (200 : Int)] (fun v34 w35 => opTu v34 fun cs36 => opAg (nthD (Array.toList
  cs36) (0 : Nat)) fun cs37 => opI IntKind.i64 (nthD (Array.toList cs37) (0 : Nat)) fun x38 => opL (nthD (Array.toList cs37) (1 : Nat)) fun a39 n40 n41 => opL (nthD
  (Array.toList cs37) (2 : Nat)) fun a42 n43 n44 => SzIs (Array.size cs37) (3 : Nat) (opI IntKind.i64 (nthD (Array.toList cs36) (1 : Nat)) fun x45 => SzIs (Array.size
  cs36) (2 : Nat) (Rg w35 fun n46 => Bd (x24 != (0 : Int)) fun b47 => Bd (x31 != (0 : Int)) fun b48 => Bd (bif b47 then true else b48) fun b49 => Bd (x45 != (0 : Int))
  fun b50 => Bd (bif b49 then true else b50) fun b51 => If b51 (Bd (x24 == (0 : Int)) fun b52 => Bd (x31 == (0 : Int)) fun b53 => Bd (bif b52 then b53 else false) fun b54
  => Bd (x45 == (40 : Int)) fun b55 => Bd (bif b54 then b55 else false) fun b56 => Up [n46] [n46, n32, n25] w35 fun w57 => Gd b56 false (fun J58 => CallW Try.prog [n46,
  n32, n25] (65 : Nat) #[] (fun v59 w60 => opB v59 fun b61 => J58 b61 w60) w57) (fun b62 w63 => Bd (bif b56 then b62 else false) fun b64 => R (Value.bool b64) w63) w57)
  (Up [n46] [n46, n32, n25] w35 fun w65 => CallW Try.prog [n46, n32, n25] (68 : Nat) #[Value.string p1, Value.int IntKind.i64 (14 : Int)] (fun v66 w67 => opStr v66 fun
  s68 => CallW Try.prog [n46, n32, n25] (69 : Nat) #[Value.agg #[Value.int IntKind.i64 x20, Value.slice a21 n22 n23], Value.string s68] (fun v69 w70 => opTu v69 fun cs71
  => opL (nthD (Array.toList cs71) (0 : Nat)) fun a72 n73 n74 => opI IntKind.i64 (nthD (Array.toList cs71) (1 : Nat)) fun x75 => SzIs (Array.size cs71) (2 : Nat) (Jn (fun
  l76 l77 w78 => opL (nthD l76 (0 : Nat)) fun a79 n80 n81 => opI IntKind.i64 (nthD l76 (1 : Nat)) fun x82 => Bd (x75 != (0 : Int)) fun b83 => Bd (x82 != (0 : Int)) fun
  b84 => Bd (bif b83 then true else b84) fun b85 => Gd (!b85) false (fun J86 => CallW Try.prog [n46, n32, n25] (72 : Nat) #[Value.agg #[Value.int IntKind.i64 x38,
  Value.slice a39 n40 n41, Value.slice a42 n43 n44]] (fun v87 w88 => opB v87 fun b89 => J86 b89 w88) w78) (fun b90 w91 => Bd (!b90) fun b92 => Bd (bif b85 then true else
  b92) fun b93 => Gd (!b93) false (fun J94 => CallW Try.prog [n46, n32, n25] (73 : Nat) #[Value.slice a72 n73 n74, Value.slice a79 n80 n81] (fun v95 w96 => opB v95 fun
  b97 => J94 b97 w96) w91) (fun b98 w99 => Bd (!b98) fun b100 => Bd (bif b93 then true else b100) fun b101 => If b101 (R (Value.bool false) w99) (Bd ((n4 : Nat) : Int)
  fun x102 => Bd (IntKind.wrap IntKind.i64 (x102 - (1 : Int))) fun x103 => LoopP (fun l104 l105 J106 w107 => opB (nthD l104 (0 : Nat)) fun b108 => opI IntKind.i64 (nthD
  l104 (1 : Nat)) fun x109 => Bd (decide (x109 ≥ (0 : Int))) fun b110 => If b110 (IxOk x109 n4 a3 ∧ Ld w107 (Addr.add (adAt a3 x109 (6 : Nat)) (0 : Nat)) fun v111 => Ld
  w107 (Addr.add (adAt a3 x109 (6 : Nat)) (1 : Nat)) fun v112 => Ld w107 (Addr.add (adAt a3 x109 (6 : Nat)) (2 : Nat)) fun v113 => Ld w107 (Addr.add (adAt a3 x109 (6 :
  Nat)) (3 : Nat)) fun v114 => Ld w107 (Addr.add (adAt a3 x109 (6 : Nat)) (4 : Nat)) fun v115 => Ld w107 (Addr.add (adAt a3 x109 (6 : Nat)) (5 : Nat)) fun v116 => opI
  IntKind.u8 v111 fun x117 => opI IntKind.u64 v112 fun x118 => opI IntKind.u64 v113 fun x119 => opI IntKind.u64 v114 fun x120 => opI IntKind.u64 v115 fun x121 => opL v116
  fun a122 n123 n124 => CallW Try.prog [n46, n32, n25] (74 : Nat) #[Value.agg #[Value.int IntKind.u8 x117, Value.int IntKind.u64 x118, Value.int IntKind.u64 x119,
  Value.int IntKind.u64 x120, Value.int IntKind.u64 x121, Value.slice a122 n123 n124], Value.string s68] (fun v125 w126 => opL v125 fun a127 n128 n129 => Bd
  (((ByteArray.size s68) : Nat) : Int) fun x130 => Bd (IntKind.wrap IntKind.i64 (x130 + (1 : Int))) fun x131 => LoopP (fun l132 l133 J134 w135 => opB (nthD l132 (0 :
  Nat)) fun b136 => opI IntKind.i64 (nthD l132 (1 : Nat)) fun x137 => Bd (decide (x137 < x131)) fun b138 => If b138 (CallW Try.prog [n46, n32, n25] (75 : Nat)
  #[Value.slice a127 n128 n129, Value.int IntKind.i64 (0 : Int), Value.int IntKind.i64 x137] (fun v139 w140 => opB v139 fun b141 => (b141 = true → IxOk x137 n80 a79) ∧ Gd
  b141 (0 : Int) (fun J143 => Ld w140 (adAt a79 x137 (1 : Nat)) fun v144 => opI IntKind.i64 v144 fun x145 => J143 x145 w140) (fun x146 w147 => Bd (decide (x146 < (0 :
  Int))) fun b148 => ((b141 && !b148) = true → IxOk x137 n80 a79) ∧ Gd (b141 && !b148) (0 : Int) (fun J150 => Ld w147 (adAt a79 x137 (1 : Nat)) fun v151 => opI
  IntKind.i64 v151 fun x152 => J150 x152 w147) (fun x153 w154 => Bd (decide (x153 > x109)) fun b155 => Bd (bif b148 then true else b155) fun b156 => Bd (bif b141 then
  b156 else false) fun b157 => ((!b157) = true → IxOk x137 n80 a79) ∧ Gd (!b157) (0 : Int) (fun J159 => Ld w154 (adAt a79 x137 (1 : Nat)) fun v160 => opI IntKind.i64 v160
  fun x161 => J159 x161 w154) (fun x162 w163 => Bd (x162 == x109) fun b164 => Gd (!b157 && b164) false (fun J165 => CallW Try.prog [n46, n32, n25] (75 : Nat)
  #[Value.slice a127 n128 n129, Value.int IntKind.i64 (0 : Int), Value.int IntKind.i64 x137] (fun v166 w167 => opB v166 fun b168 => J165 b168 w167) w163) (fun b169 w170
  => Bd (!b169) fun b171 => Bd (bif b164 then b171 else false) fun b172 => Bd (bif b157 then true else b172) fun b173 => If b173 (R (Value.bool false) w170) (Bd
  (IntKind.wrap IntKind.i64 (x137 + (1 : Int))) fun x174 => J134 [Value.bool b136, Value.int IntKind.i64 x174] [] w170)) w163) w154) w147) w140) w135) (Bd (IntKind.wrap
  IntKind.i64 (x109 - (1 : Int))) fun x175 => J106 [Value.bool b136, Value.int IntKind.i64 x175] [] w135)) [Value.bool b108, Value.int IntKind.i64 (0 : Int)] [] w126)
  w107) (CallW Try.prog [n46, n32, n25] (65 : Nat) #[] (fun v176 w177 => opB v176 fun b178 => R (Value.bool b178) w177) w107)) [Value.bool false, Value.int IntKind.i64
  x103] [] w99)) w91) w78) fun J179 => Dr (World.drew w70) fun J180 => Array.size cs30 = (257 : Nat) ∧ CallW Try.prog [n46, n32, n25] (71 : Nat) #[Value.agg cs30,
  Value.string s68, Value.int IntKind.i64 (14 : Int)] (fun v181 w182 => opL v181 fun a183 n184 n185 => J180 w182 ∧ CallW Try.prog [n46, n32, n25] (70 : Nat) #[Value.agg
  #[Value.int IntKind.i64 x38, Value.slice a39 n40 n41, Value.slice a42 n43 n44], Value.slice a183 n184 n185] (fun v186 w187 => opTu v186 fun cs188 => opL (nthD
  (Array.toList cs188) (0 : Nat)) fun a189 n190 n191 => opI IntKind.i64 (nthD (Array.toList cs188) (1 : Nat)) fun x192 => SzIs (Array.size cs188) (2 : Nat) (J180 w187 ∧
  J179 [Value.slice a189 n190 n191, Value.int IntKind.i64 x192] [] w187)) w182) (World.drew w70))) w67) w65)))) w33))) w26))) w7)) w2) w
theorem f11_eq (p0a : Option Addr) (p0n : Nat) (p0c : Nat) (p1 : ByteArray) (R : Value → World → Prop) (w : World) : fnW Try.prog [5, 7, 9, 100011] Try.f11 [Value.slice
  p0a p0n p0c, Value.string p1] R w = f11_vc p0a p0n p0c p1 R w := by kernel_rfl
theorem f11_in (p0a : Option Addr) (p0n : Nat) (p0c : Nat) (p1 : ByteArray) (R : Value → World → Prop) (w : World) (h : f11_vc p0a p0n p0c p1 R w) : Ct Try.prog 11
  #[Value.slice p0a p0n p0c, Value.string p1] w R := by
  refine Ct_of (rk := [5, 7, 9, 100011]) (fn := Try.f11) (args := [Value.slice p0a p0n p0c, Value.string p1]) mixedT Try.func11 (by kernel_rfl) ?_
  rw [f11_eq]
  exact h
end Fk
