/- Conditions of functions, as the generator works them out; each one is checked by the kernel. -/
import Derived.Test.YtpgjpgecgibklaaGK2
set_option linter.unusedVariables false
set_option maxRecDepth 1000000
set_option maxHeartbeats 4000000
namespace Fk
open Go Go.Proofs Go.RowKit
def f65_vc (R : Value → World → Prop) (w : World) : Prop := CallW Try.prog [] (161 : Nat) #[Value.int IntKind.u8 (98 : Int)] (fun v1 w2 => opAg v1 fun cs3 => opI
  IntKind.u8 (nthD (Array.toList cs3) (0 : Nat)) fun x4 => opI IntKind.u64 (nthD (Array.toList cs3) (1 : Nat)) fun x5 => opI IntKind.u64 (nthD (Array.toList cs3) (2 :
  Nat)) fun x6 => opI IntKind.u64 (nthD (Array.toList cs3) (3 : Nat)) fun x7 => opI IntKind.u64 (nthD (Array.toList cs3) (4 : Nat)) fun x8 => opL (nthD (Array.toList cs3)
  (5 : Nat)) fun a9 n10 n11 => SzIs (Array.size cs3) (6 : Nat) (CallW Try.prog [] (161 : Nat) #[Value.int IntKind.u8 (97 : Int)] (fun v12 w13 => opAg v12 fun cs14 => opI
  IntKind.u8 (nthD (Array.toList cs14) (0 : Nat)) fun x15 => opI IntKind.u64 (nthD (Array.toList cs14) (1 : Nat)) fun x16 => opI IntKind.u64 (nthD (Array.toList cs14) (2
  : Nat)) fun x17 => opI IntKind.u64 (nthD (Array.toList cs14) (3 : Nat)) fun x18 => opI IntKind.u64 (nthD (Array.toList cs14) (4 : Nat)) fun x19 => opL (nthD
  (Array.toList cs14) (5 : Nat)) fun a20 n21 n22 => SzIs (Array.size cs14) (6 : Nat) (Nw (Obj.cells #[Value.int IntKind.u8 x15, Value.int IntKind.u64 x16, Value.int
  IntKind.u64 x17, Value.int IntKind.u64 x18, Value.int IntKind.u64 x19, Value.slice a20 n21 n22] (42 : Nat)) w13 fun n23 w24 => Nw (Obj.cells #[Value.int IntKind.u8 x4,
  Value.int IntKind.u64 x5, Value.int IntKind.u64 x6, Value.int IntKind.u64 x7, Value.int IntKind.u64 x8, Value.slice a9 n10 n11, Value.int IntKind.u8 (4 : Int),
  Value.int IntKind.u64 (0 : Int), Value.int IntKind.u64 (0 : Int), Value.int IntKind.u64 (0 : Int), Value.int IntKind.u64 (0 : Int), Value.slice (some (Addr.mk n23 (0 :
  Nat) none)) (1 : Nat) (1 : Nat)] (42 : Nat)) w24 fun n25 w26 => CallW Try.prog [] (85 : Nat) #[Value.slice (some (Addr.mk n25 (0 : Nat) none)) (2 : Nat) (2 : Nat),
  Value.int IntKind.i64 (3 : Int)] (fun v27 w28 => opTu v27 fun cs29 => opAg (nthD (Array.toList cs29) (0 : Nat)) fun cs30 => opI IntKind.i64 (nthD (Array.toList cs30) (0
  : Nat)) fun x31 => opL (nthD (Array.toList cs30) (1 : Nat)) fun a32 n33 n34 => SzIs (Array.size cs30) (2 : Nat) (opBig (nthD (Array.toList cs29) (1 : Nat)) fun cs35 =>
  Array.size cs35 = (257 : Nat) ∧ opAg (nthD (Array.toList cs29) (2 : Nat)) fun cs36 => opI IntKind.i64 (nthD (Array.toList cs36) (0 : Nat)) fun x37 => opL (nthD
  (Array.toList cs36) (1 : Nat)) fun a38 n39 n40 => opL (nthD (Array.toList cs36) (2 : Nat)) fun a41 n42 n43 => SzIs (Array.size cs36) (3 : Nat) (opB (nthD (Array.toList
  cs29) (3 : Nat)) fun b44 => SzIs (Array.size cs29) (4 : Nat) (Array.size cs35 = (257 : Nat) ∧ Rg w28 fun n45 => Rg w28 fun n46 => Rg w28 fun n47 => OkC (Array.toList
  cs35) (257 : Nat) (Array.size cs35 = (257 : Nat) ∧ Up [n47, n46, n45] [n47, n46, n45] w28 fun w48 => CallW Try.prog [n47, n46, n45] (67 : Nat) #[Value.agg #[Value.int
  IntKind.i64 x31, Value.slice a32 n33 n34], Value.agg cs35, Value.int IntKind.i64 (2 : Int)] (fun v49 w50 => opTu v49 fun cs51 => opAg (nthD (Array.toList cs51) (0 :
  Nat)) fun cs52 => opI IntKind.i64 (nthD (Array.toList cs52) (0 : Nat)) fun x53 => opL (nthD (Array.toList cs52) (1 : Nat)) fun a54 n55 n56 => opL (nthD (Array.toList
  cs52) (2 : Nat)) fun a57 n58 n59 => SzIs (Array.size cs52) (3 : Nat) (opI IntKind.i64 (nthD (Array.toList cs51) (1 : Nat)) fun x60 => SzIs (Array.size cs51) (2 : Nat)
  (Rg w50 fun n61 => Up [n61] [n61, n47, n46, n45] w50 fun w62 => Nw (Obj.cells #[Value.int IntKind.i64 (3 : Int)] (3 : Nat)) w62 fun n63 w64 => CallW Try.prog [n61, n47,
  n46, n45] (70 : Nat) #[Value.agg #[Value.int IntKind.i64 x37, Value.slice a38 n39 n40, Value.slice a41 n42 n43], Value.slice (some (Addr.mk n63 (0 : Nat) none)) (1 :
  Nat) (1 : Nat)] (fun v65 w66 => opTu v65 fun cs67 => opL (nthD (Array.toList cs67) (0 : Nat)) fun a68 n69 n70 => opI IntKind.i64 (nthD (Array.toList cs67) (1 : Nat))
  fun x71 => SzIs (Array.size cs67) (2 : Nat) (Bd (x60 == (40 : Int)) fun b72 => Bd (bif b44 then b72 else false) fun b73 => Bd (x71 == (2 : Int)) fun b74 => Bd (bif b73
  then b74 else false) fun b75 => (b75 = true → isI IntKind.i64 (Array.toList cs35) (256 : Nat)) ∧ Bd (rdI (Array.toList cs35) (256 : Nat)) fun x77 => Bd (x77 == (3 :
  Int)) fun b78 => Bd (bif b75 then b78 else false) fun b79 => Gd b79 (none, (0 : Nat), (0 : Nat)) (fun J80 => Nw (Obj.cells #[Value.int IntKind.i64 (-1 : Int), Value.int
  IntKind.i64 (1 : Int), Value.int IntKind.i64 (2 : Int), Value.int IntKind.i64 (-1 : Int), Value.int IntKind.i64 (1 : Int), Value.int IntKind.i64 (-1 : Int), Value.int
  IntKind.i64 (-1 : Int), Value.int IntKind.i64 (-1 : Int), Value.int IntKind.i64 (-1 : Int)] (3 : Nat)) w66 fun n81 w82 => J80 (some (Addr.mk n81 (0 : Nat) none), (9 :
  Nat), (9 : Nat)) w82) (fun u83 w84 => Gd b79 (none, (0 : Nat), (0 : Nat)) (fun J85 => Nw (Obj.cells #[Value.int IntKind.i64 (1 : Int), Value.int IntKind.i64 (1 : Int),
  Value.int IntKind.i64 (0 : Int)] (3 : Nat)) w84 fun n86 w87 => J85 (some (Addr.mk n86 (0 : Nat) none), (3 : Nat), (3 : Nat)) w87) (fun u88 w89 => Gd b79 false (fun J90
  => CallW Try.prog [n61, n47, n46, n45] (96 : Nat) #[Value.agg #[Value.int IntKind.i64 x37, Value.slice a38 n39 n40, Value.slice a41 n42 n43], Value.agg #[Value.int
  IntKind.i64 (3 : Int), Value.slice (Prod.fst u83) (Prod.fst (Prod.snd u83)) (Prod.snd (Prod.snd u83)), Value.slice (Prod.fst u88) (Prod.fst (Prod.snd u88)) (Prod.snd
  (Prod.snd u88))]] (fun v91 w92 => opB v91 fun b93 => J90 b93 w92) w89) (fun b94 w95 => Bd (bif b79 then b94 else false) fun b96 => Gd b96 (none, (0 : Nat), (0 : Nat))
  (fun J97 => Nw (Obj.cells #[Value.int IntKind.i64 (1 : Int), Value.int IntKind.i64 (1 : Int)] (3 : Nat)) w95 fun n98 w99 => J97 (some (Addr.mk n98 (0 : Nat) none), (2 :
  Nat), (2 : Nat)) w99) (fun u100 w101 => Gd b96 (none, (0 : Nat), (0 : Nat)) (fun J102 => Nw (Obj.cells #[Value.int IntKind.i64 (1 : Int), Value.int IntKind.i64 (1 :
  Int), Value.int IntKind.i64 (1 : Int)] (3 : Nat)) w101 fun n103 w104 => J102 (some (Addr.mk n103 (0 : Nat) none), (3 : Nat), (3 : Nat)) w104) (fun u105 w106 => Gd b96
  false (fun J107 => CallW Try.prog [n61, n47, n46, n45] (162 : Nat) #[Value.agg #[Value.int IntKind.i64 x37, Value.slice a38 n39 n40, Value.slice a41 n42 n43],
  Value.slice (Prod.fst u100) (Prod.fst (Prod.snd u100)) (Prod.snd (Prod.snd u100)), Value.slice (Prod.fst u105) (Prod.fst (Prod.snd u105)) (Prod.snd (Prod.snd u105))]
  (fun v108 w109 => opB v108 fun b110 => J107 b110 w109) w106) (fun b111 w112 => Bd (bif b96 then b111 else false) fun b113 => Gd b113 (none, (0 : Nat), (0 : Nat)) (fun
  J114 => Nw (Obj.cells #[Value.int IntKind.i64 (2 : Int), Value.int IntKind.i64 (1 : Int)] (3 : Nat)) w112 fun n115 w116 => J114 (some (Addr.mk n115 (0 : Nat) none), (2
  : Nat), (2 : Nat)) w116) (fun u117 w118 => Gd b113 (none, (0 : Nat), (0 : Nat)) (fun J119 => Nw (Obj.cells #[Value.int IntKind.i64 (1 : Int), Value.int IntKind.i64 (0 :
  Int), Value.int IntKind.i64 (-1 : Int)] (3 : Nat)) w118 fun n120 w121 => J119 (some (Addr.mk n120 (0 : Nat) none), (3 : Nat), (3 : Nat)) w121) (fun u122 w123 => Gd b113
  false (fun J124 => CallW Try.prog [n61, n47, n46, n45] (162 : Nat) #[Value.agg #[Value.int IntKind.i64 x37, Value.slice a38 n39 n40, Value.slice a41 n42 n43],
  Value.slice (Prod.fst u117) (Prod.fst (Prod.snd u117)) (Prod.snd (Prod.snd u117)), Value.slice (Prod.fst u122) (Prod.fst (Prod.snd u122)) (Prod.snd (Prod.snd u122))]
  (fun v125 w126 => opB v125 fun b127 => J124 b127 w126) w123) (fun b128 w129 => Bd (bif b113 then b128 else false) fun b130 => R (Value.bool b130) w129) w123) w118)
  w112) w106) w101) w95) w89) w84) w66)) w64))) w48))))) w26)) w2)) w
theorem f65_eq (R : Value → World → Prop) (w : World) : fnW Try.prog [2, 3, 4, 6] Try.f65 [] R w = f65_vc R w := by kernel_rfl
theorem f65_in (R : Value → World → Prop) (w : World) (h : f65_vc R w) : Ct Try.prog 65 #[] w R := by
  refine Ct_of (rk := [2, 3, 4, 6]) (fn := Try.f65) (args := []) mixedT Try.func65 (by kernel_rfl) ?_
  rw [f65_eq]
  exact h
def f85_vc (p0a : Option Addr) (p0n : Nat) (p0c : Nat) (p1 : Int) (R : Value → World → Prop) (w : World) : Prop := Rg w fun n1 => Rg w fun n2 => Rg w fun n3 => Up [] [n3,
  n2, n1] w fun w4 => CallW Try.prog [n3, n2, n1] (66 : Nat) #[Value.slice p0a p0n p0c, Value.int IntKind.i64 (20000 : Int)] (fun v5 w6 => opTu v5 fun cs7 => opAg (nthD
  (Array.toList cs7) (0 : Nat)) fun cs8 => opI IntKind.i64 (nthD (Array.toList cs8) (0 : Nat)) fun x9 => opL (nthD (Array.toList cs8) (1 : Nat)) fun a10 n11 n12 => SzIs
  (Array.size cs8) (2 : Nat) (opI IntKind.i64 (nthD (Array.toList cs7) (1 : Nat)) fun x13 => SzIs (Array.size cs7) (2 : Nat) (Rg w6 fun n14 => Up [n14] [n14, n3, n2, n1]
  w6 fun w15 => CallW Try.prog [n14, n3, n2, n1] (40 : Nat) #[Value.slice p0a p0n p0c] (fun v16 w17 => opTu v16 fun cs18 => opBig (nthD (Array.toList cs18) (0 : Nat)) fun
  cs19 => Array.size cs19 = (257 : Nat) ∧ opI IntKind.i64 (nthD (Array.toList cs18) (1 : Nat)) fun x20 => SzIs (Array.size cs18) (2 : Nat) (Array.size cs19 = (257 : Nat)
  ∧ Rg w17 fun n21 => OkC (Array.toList cs19) (257 : Nat) (Array.size cs19 = (257 : Nat) ∧ Up [n21] [n21, n14, n3, n2, n1] w17 fun w22 => CallW Try.prog [n21, n14, n3,
  n2, n1] (67 : Nat) #[Value.agg #[Value.int IntKind.i64 x9, Value.slice a10 n11 n12], Value.agg cs19, Value.int IntKind.i64 p1] (fun v23 w24 => opTu v23 fun cs25 => opAg
  (nthD (Array.toList cs25) (0 : Nat)) fun cs26 => opI IntKind.i64 (nthD (Array.toList cs26) (0 : Nat)) fun x27 => opL (nthD (Array.toList cs26) (1 : Nat)) fun a28 n29
  n30 => opL (nthD (Array.toList cs26) (2 : Nat)) fun a31 n32 n33 => SzIs (Array.size cs26) (3 : Nat) (opI IntKind.i64 (nthD (Array.toList cs25) (1 : Nat)) fun x34 =>
  SzIs (Array.size cs25) (2 : Nat) (Rg w24 fun n35 => Jn (fun l36 l37 w38 => opB (nthD l36 (0 : Nat)) fun b39 => opAg (nthD l37 (0 : Nat)) fun cs40 => opI IntKind.i64
  (nthD (Array.toList cs40) (0 : Nat)) fun x41 => opL (nthD (Array.toList cs40) (1 : Nat)) fun a42 n43 n44 => opL (nthD (Array.toList cs40) (2 : Nat)) fun a45 n46 n47 =>
  SzIs (Array.size cs40) (3 : Nat) (opBig (nthD l37 (1 : Nat)) fun cs48 => opAg (nthD l37 (2 : Nat)) fun cs49 => opI IntKind.i64 (nthD (Array.toList cs49) (0 : Nat)) fun
  x50 => opL (nthD (Array.toList cs49) (1 : Nat)) fun a51 n52 n53 => SzIs (Array.size cs49) (2 : Nat) (Array.size cs48 = (257 : Nat) ∧ R (Value.tuple #[Value.agg
  #[Value.int IntKind.i64 x50, Value.slice a51 n52 n53], Value.agg cs48, Value.agg #[Value.int IntKind.i64 x41, Value.slice a42 n43 n44, Value.slice a45 n46 n47],
  Value.bool b39]) w38))) fun J54 => Up [n35] [n35, n21, n14, n3, n2, n1] w24 fun w55 => Array.size cs19 = (257 : Nat) ∧ Bd (x13 == (0 : Int)) fun b56 => Bd (x20 == (0 :
  Int)) fun b57 => Bd (bif b56 then b57 else false) fun b58 => Bd (x34 == (0 : Int)) fun b59 => Bd (bif b58 then b59 else false) fun b60 => Up [n1] [n35, n21, n14, n3,
  n2, n1] (World.drew w55) fun w61 => OkC (Array.toList cs19) (257 : Nat) (Up [n2] [n35, n21, n14, n3, n2, n1] w61 fun w62 => Up [n3] [n35, n21, n14, n3, n2, n1] w62 fun
  w63 => J54 [Value.bool b60] [Value.agg #[Value.int IntKind.i64 x27, Value.slice a28 n29 n30, Value.slice a31 n32 n33], Value.agg cs19, Value.agg #[Value.int IntKind.i64
  x9, Value.slice a10 n11 n12]] w63)))) w22))) w15))) w4
theorem f85_eq (p0a : Option Addr) (p0n : Nat) (p0c : Nat) (p1 : Int) (R : Value → World → Prop) (w : World) : fnW Try.prog [4, 5, 6, 8, 10, 12, 400004] Try.f85
  [Value.slice p0a p0n p0c, Value.int IntKind.i64 p1] R w = f85_vc p0a p0n p0c p1 R w := by kernel_rfl
theorem f85_in (p0a : Option Addr) (p0n : Nat) (p0c : Nat) (p1 : Int) (R : Value → World → Prop) (w : World) (h : f85_vc p0a p0n p0c p1 R w) : Ct Try.prog 85
  #[Value.slice p0a p0n p0c, Value.int IntKind.i64 p1] w R := by
  refine Ct_of (rk := [4, 5, 6, 8, 10, 12, 400004]) (fn := Try.f85) (args := [Value.slice p0a p0n p0c, Value.int IntKind.i64 p1]) mixedT Try.func85 (by kernel_rfl) ?_
  rw [f85_eq]
  exact h
def f161_vc (p0 : Int) (R : Value → World → Prop) (w : World) : Prop := Rg w fun n1 => Up [] [n1] w fun w2 => Nw (Obj.cells #[Value.int IntKind.u8 (0 : Int), Value.int
  IntKind.u64 (0 : Int), Value.int IntKind.u64 (0 : Int), Value.int IntKind.u64 (0 : Int), Value.int IntKind.u64 (0 : Int), Value.slice none (0 : Nat) (0 : Nat)] (42 :
  Nat)) w2 fun n3 w4 => ¬n3 ∈ [n1] ∧ Wr w4 (Addr.mk n3 (0 : Nat) none) (6 : Nat) ∧ Bd (IntKind.wrap IntKind.u8 (Int.tdiv p0 (64 : Int))) fun x5 => Bd (Int.tmod p0 (64 :
  Int)) fun x6 => (0 : Int) ≤ x6 ∧ Bd (IntKind.wrap IntKind.u64 ((1 : Int) * (2 : Int) ^ min (Int.toNat x6) (64 : Nat))) fun x7 => ((0 : Int) ≤ x5 ∧ x5 < ↑(4 : Nat)) ∧
  ¬Addr.block (Addr.add (Addr.add (Addr.mk n3 (0 : Nat) none) (1 : Nat)) (Int.toNat x5 * (1 : Nat))) ∈ [n1] ∧ Wr (setCells w4 (Addr.mk n3 (0 : Nat) none) (0 : Nat)
  [Value.int IntKind.u8 (1 : Int), Value.int IntKind.u64 (0 : Int), Value.int IntKind.u64 (0 : Int), Value.int IntKind.u64 (0 : Int), Value.int IntKind.u64 (0 : Int),
  Value.slice none (0 : Nat) (0 : Nat)]) (Addr.add (Addr.add (Addr.mk n3 (0 : Nat) none) (1 : Nat)) (Int.toNat x5 * (1 : Nat))) (1 : Nat) ∧ Ld (setCells (setCells w4
  (Addr.mk n3 (0 : Nat) none) (0 : Nat) [Value.int IntKind.u8 (1 : Int), Value.int IntKind.u64 (0 : Int), Value.int IntKind.u64 (0 : Int), Value.int IntKind.u64 (0 :
  Int), Value.int IntKind.u64 (0 : Int), Value.slice none (0 : Nat) (0 : Nat)]) (Addr.add (Addr.add (Addr.mk n3 (0 : Nat) none) (1 : Nat)) (Int.toNat x5 * (1 : Nat))) (0
  : Nat) [Value.int IntKind.u64 x7]) (Addr.add (Addr.mk n3 (0 : Nat) none) (0 : Nat)) fun v8 => Ld (setCells (setCells w4 (Addr.mk n3 (0 : Nat) none) (0 : Nat) [Value.int
  IntKind.u8 (1 : Int), Value.int IntKind.u64 (0 : Int), Value.int IntKind.u64 (0 : Int), Value.int IntKind.u64 (0 : Int), Value.int IntKind.u64 (0 : Int), Value.slice
  none (0 : Nat) (0 : Nat)]) (Addr.add (Addr.add (Addr.mk n3 (0 : Nat) none) (1 : Nat)) (Int.toNat x5 * (1 : Nat))) (0 : Nat) [Value.int IntKind.u64 x7]) (Addr.add
  (Addr.mk n3 (0 : Nat) none) (1 : Nat)) fun v9 => Ld (setCells (setCells w4 (Addr.mk n3 (0 : Nat) none) (0 : Nat) [Value.int IntKind.u8 (1 : Int), Value.int IntKind.u64
  (0 : Int), Value.int IntKind.u64 (0 : Int), Value.int IntKind.u64 (0 : Int), Value.int IntKind.u64 (0 : Int), Value.slice none (0 : Nat) (0 : Nat)]) (Addr.add (Addr.add
  (Addr.mk n3 (0 : Nat) none) (1 : Nat)) (Int.toNat x5 * (1 : Nat))) (0 : Nat) [Value.int IntKind.u64 x7]) (Addr.add (Addr.mk n3 (0 : Nat) none) (2 : Nat)) fun v10 => Ld
  (setCells (setCells w4 (Addr.mk n3 (0 : Nat) none) (0 : Nat) [Value.int IntKind.u8 (1 : Int), Value.int IntKind.u64 (0 : Int), Value.int IntKind.u64 (0 : Int),
  Value.int IntKind.u64 (0 : Int), Value.int IntKind.u64 (0 : Int), Value.slice none (0 : Nat) (0 : Nat)]) (Addr.add (Addr.add (Addr.mk n3 (0 : Nat) none) (1 : Nat))
  (Int.toNat x5 * (1 : Nat))) (0 : Nat) [Value.int IntKind.u64 x7]) (Addr.add (Addr.mk n3 (0 : Nat) none) (3 : Nat)) fun v11 => Ld (setCells (setCells w4 (Addr.mk n3 (0 :
  Nat) none) (0 : Nat) [Value.int IntKind.u8 (1 : Int), Value.int IntKind.u64 (0 : Int), Value.int IntKind.u64 (0 : Int), Value.int IntKind.u64 (0 : Int), Value.int
  IntKind.u64 (0 : Int), Value.slice none (0 : Nat) (0 : Nat)]) (Addr.add (Addr.add (Addr.mk n3 (0 : Nat) none) (1 : Nat)) (Int.toNat x5 * (1 : Nat))) (0 : Nat)
  [Value.int IntKind.u64 x7]) (Addr.add (Addr.mk n3 (0 : Nat) none) (4 : Nat)) fun v12 => Ld (setCells (setCells w4 (Addr.mk n3 (0 : Nat) none) (0 : Nat) [Value.int
  IntKind.u8 (1 : Int), Value.int IntKind.u64 (0 : Int), Value.int IntKind.u64 (0 : Int), Value.int IntKind.u64 (0 : Int), Value.int IntKind.u64 (0 : Int), Value.slice
  none (0 : Nat) (0 : Nat)]) (Addr.add (Addr.add (Addr.mk n3 (0 : Nat) none) (1 : Nat)) (Int.toNat x5 * (1 : Nat))) (0 : Nat) [Value.int IntKind.u64 x7]) (Addr.add
  (Addr.mk n3 (0 : Nat) none) (5 : Nat)) fun v13 => opI IntKind.u8 v8 fun x14 => opI IntKind.u64 v9 fun x15 => opI IntKind.u64 v10 fun x16 => opI IntKind.u64 v11 fun x17
  => opI IntKind.u64 v12 fun x18 => opL v13 fun a19 n20 n21 => Up [n1] [n1] (setCells (setCells w4 (Addr.mk n3 (0 : Nat) none) (0 : Nat) [Value.int IntKind.u8 (1 : Int),
  Value.int IntKind.u64 (0 : Int), Value.int IntKind.u64 (0 : Int), Value.int IntKind.u64 (0 : Int), Value.int IntKind.u64 (0 : Int), Value.slice none (0 : Nat) (0 :
  Nat)]) (Addr.add (Addr.add (Addr.mk n3 (0 : Nat) none) (1 : Nat)) (Int.toNat x5 * (1 : Nat))) (0 : Nat) [Value.int IntKind.u64 x7]) fun w22 => R (Value.agg #[Value.int
  IntKind.u8 x14, Value.int IntKind.u64 x15, Value.int IntKind.u64 x16, Value.int IntKind.u64 x17, Value.int IntKind.u64 x18, Value.slice a19 n20 n21]) w22
theorem f161_eq (p0 : Int) (R : Value → World → Prop) (w : World) : fnW Try.prog [2] Try.f161 [Value.int IntKind.u8 p0] R w = f161_vc p0 R w := by kernel_rfl
theorem f161_in (p0 : Int) (R : Value → World → Prop) (w : World) (h : f161_vc p0 R w) : Ct Try.prog 161 #[Value.int IntKind.u8 p0] w R := by
  refine Ct_of (rk := [2]) (fn := Try.f161) (args := [Value.int IntKind.u8 p0]) mixedT Try.func161 (by kernel_rfl) ?_
  rw [f161_eq]
  exact h
def f162_vc (p0_0 : Int) (p0_1a : Option Addr) (p0_1n : Nat) (p0_1c : Nat) (p0_2a : Option Addr) (p0_2n : Nat) (p0_2c : Nat) (p1a : Option Addr) (p1n : Nat) (p1c : Nat)
  (p2a : Option Addr) (p2n : Nat) (p2c : Nat) (R : Value → World → Prop) (w : World) : Prop := Rg w fun n1 => Up [] [n1] w fun w2 => CallW Try.prog [n1] (70 : Nat)
  #[Value.agg #[Value.int IntKind.i64 p0_0, Value.slice p0_1a p0_1n p0_1c, Value.slice p0_2a p0_2n p0_2c], Value.slice p1a p1n p1c] (fun v3 w4 => opTu v3 fun cs5 => opL
  (nthD (Array.toList cs5) (0 : Nat)) fun a6 n7 n8 => opI IntKind.i64 (nthD (Array.toList cs5) (1 : Nat)) fun x9 => SzIs (Array.size cs5) (2 : Nat) (Bd (x9 == (0 : Int))
  fun b10 => Gd b10 false (fun J11 => CallW Try.prog [n1] (73 : Nat) #[Value.slice a6 n7 n8, Value.slice p2a p2n p2c] (fun v12 w13 => opB v12 fun b14 => J11 b14 w13) w4)
  (fun b15 w16 => Bd (bif b10 then b15 else false) fun b17 => R (Value.bool b17) w16) w4)) w2
theorem f162_eq (p0_0 : Int) (p0_1a : Option Addr) (p0_1n : Nat) (p0_1c : Nat) (p0_2a : Option Addr) (p0_2n : Nat) (p0_2c : Nat) (p1a : Option Addr) (p1n : Nat) (p1c :
  Nat) (p2a : Option Addr) (p2n : Nat) (p2c : Nat) (R : Value → World → Prop) (w : World) : fnW Try.prog [3] Try.f162 [Value.agg #[Value.int IntKind.i64 p0_0, Value.slice
  p0_1a p0_1n p0_1c, Value.slice p0_2a p0_2n p0_2c], Value.slice p1a p1n p1c, Value.slice p2a p2n p2c] R w = f162_vc p0_0 p0_1a p0_1n p0_1c p0_2a p0_2n p0_2c p1a p1n p1c
  p2a p2n p2c R w := by kernel_rfl
theorem f162_in (p0_0 : Int) (p0_1a : Option Addr) (p0_1n : Nat) (p0_1c : Nat) (p0_2a : Option Addr) (p0_2n : Nat) (p0_2c : Nat) (p1a : Option Addr) (p1n : Nat) (p1c :
  Nat) (p2a : Option Addr) (p2n : Nat) (p2c : Nat) (R : Value → World → Prop) (w : World) (h : f162_vc p0_0 p0_1a p0_1n p0_1c p0_2a p0_2n p0_2c p1a p1n p1c p2a p2n p2c R
  w) : Ct Try.prog 162 #[Value.agg #[Value.int IntKind.i64 p0_0, Value.slice p0_1a p0_1n p0_1c, Value.slice p0_2a p0_2n p0_2c], Value.slice p1a p1n p1c, Value.slice p2a
  p2n p2c] w R := by
  refine Ct_of (rk := [3]) (fn := Try.f162) (args := [Value.agg #[Value.int IntKind.i64 p0_0, Value.slice p0_1a p0_1n p0_1c, Value.slice p0_2a p0_2n p0_2c], Value.slice p1a p1n p1c, Value.slice p2a p2n p2c]) mixedT Try.func162 (by kernel_rfl) ?_
  rw [f162_eq]
  exact h
end Fk
set_option linter.unusedVariables false
set_option maxRecDepth 1000000
set_option maxHeartbeats 4000000
namespace Fk
open Go Go.Proofs Go.RowKit
def f32_vc (p0a : Option Addr) (p0n : Nat) (p0c : Nat) (p1_0 : Int) (p1_1a : Option Addr) (p1_1n : Nat) (p1_1c : Nat) (p2 : Array Value) (p3 : Int) (p4_0 : Int) (p4_1a :
  Option Addr) (p4_1n : Nat) (p4_1c : Nat) (p4_2a : Option Addr) (p4_2n : Nat) (p4_2c : Nat) (p5a : Option Addr) (p5n : Nat) (p5c : Nat) (R : Value → World → Prop) (w :
  World) : Prop := Rg w fun n1 => Rg w fun n2 => Rg w fun n3 => Up [] [n3, n2, n1] w fun w4 => CallW Try.prog [n3, n2, n1] (38 : Nat) #[Value.slice p0a p0n p0c] (fun v5
  w6 => opB v5 fun b7 => Bd (!b7) fun b8 => Gd (!b8) false (fun J9 => CallW Try.prog [n3, n2, n1] (76 : Nat) #[Value.agg #[Value.int IntKind.i64 p1_0, Value.slice p1_1a
  p1_1n p1_1c]] (fun v10 w11 => opB v10 fun b12 => J9 b12 w11) w6) (fun b13 w14 => Bd (!b13) fun b15 => Bd (bif b8 then true else b15) fun b16 => Gd (!b16) false (fun J17
  => CallW Try.prog [n3, n2, n1] (90 : Nat) #[Value.agg #[Value.int IntKind.i64 p4_0, Value.slice p4_1a p4_1n p4_1c, Value.slice p4_2a p4_2n p4_2c]] (fun v18 w19 => opB
  v18 fun b20 => J17 b20 w19) w14) (fun b21 w22 => Bd (!b21) fun b23 => Bd (bif b16 then true else b23) fun b24 => Bd ((p5n : Nat) : Int) fun x25 => Bd (decide (x25 > (20
  : Int))) fun b26 => Bd (bif b24 then true else b26) fun b27 => If b27 (CallW Try.prog [n3, n2, n1] (65 : Nat) #[] (fun v28 w29 => opB v28 fun b30 => R (Value.bool b30)
  w29) w22) (Jn (fun l31 l32 w33 => opI IntKind.i64 (nthD l31 (0 : Nat)) fun x34 => CallW Try.prog [n3, n2, n1] (66 : Nat) #[Value.slice p0a p0n p0c, Value.int
  IntKind.i64 (20000 : Int)] (fun v35 w36 => opTu v35 fun cs37 => opAg (nthD (Array.toList cs37) (0 : Nat)) fun cs38 => opI IntKind.i64 (nthD (Array.toList cs38) (0 :
  Nat)) fun x39 => opL (nthD (Array.toList cs38) (1 : Nat)) fun a40 n41 n42 => SzIs (Array.size cs38) (2 : Nat) (opI IntKind.i64 (nthD (Array.toList cs37) (1 : Nat)) fun
  x43 => SzIs (Array.size cs37) (2 : Nat) (Rg w36 fun n44 => Up [n44] [n44, n3, n2, n1] w36 fun w45 => CallW Try.prog [n44, n3, n2, n1] (40 : Nat) #[Value.slice p0a p0n
  p0c] (fun v46 w47 => opTu v46 fun cs48 => opBig (nthD (Array.toList cs48) (0 : Nat)) fun cs49 => Array.size cs49 = (257 : Nat) ∧ opI IntKind.i64 (nthD (Array.toList
  cs48) (1 : Nat)) fun x50 => SzIs (Array.size cs48) (2 : Nat) (Array.size cs49 = (257 : Nat) ∧ Rg w47 fun n51 => OkC (Array.toList cs49) (257 : Nat) (Array.size cs49 =
  (257 : Nat) ∧ Rg w47 fun n52 => OkC (Array.toList cs49) (257 : Nat) (Jn (fun l53 l54 w55 => opBig (nthD l54 (0 : Nat)) fun cs56 => opAg (nthD l54 (1 : Nat)) fun cs57 =>
  opI IntKind.i64 (nthD (Array.toList cs57) (0 : Nat)) fun x58 => opL (nthD (Array.toList cs57) (1 : Nat)) fun a59 n60 n61 => SzIs (Array.size cs57) (2 : Nat) (Array.size
  p2 = (257 : Nat) ∧ RunW Try.prog [n52, n51, n44, n3, n2, n1] (Instr.build (174 : Nat) #[((0 : Nat), Value.agg #[Value.int IntKind.i64 p1_0, Value.slice p1_1a p1_1n
  p1_1c]), ((1 : Nat), Value.agg p2)]) (fun v62 w63 => opBig v62 fun cs64 => Array.size cs64 = (259 : Nat) ∧ Array.size cs49 = (257 : Nat) ∧ RunW Try.prog [n52, n51, n44,
  n3, n2, n1] (Instr.build (174 : Nat) #[((0 : Nat), Value.agg #[Value.int IntKind.i64 p1_0, Value.slice p1_1a p1_1n p1_1c]), ((1 : Nat), Value.agg cs49)]) (fun v65 w66
  => opBig v65 fun cs67 => Array.size cs67 = (259 : Nat) ∧ Array.size cs56 = (257 : Nat) ∧ RunW Try.prog [n52, n51, n44, n3, n2, n1] (Instr.build (174 : Nat) #[((0 :
  Nat), Value.agg #[Value.int IntKind.i64 x58, Value.slice a59 n60 n61]), ((1 : Nat), Value.agg cs56)]) (fun v68 w69 => opBig v68 fun cs70 => Array.size cs70 = (259 :
  Nat) ∧ Array.size p2 = (257 : Nat) ∧ RunW Try.prog [n52, n51, n44, n3, n2, n1] (Instr.build (174 : Nat) #[((0 : Nat), Value.agg #[Value.int IntKind.i64 x58, Value.slice
  a59 n60 n61]), ((1 : Nat), Value.agg p2)]) (fun v71 w72 => opBig v71 fun cs73 => Array.size cs73 = (259 : Nat) ∧ SzIs (Array.size cs64) (259 : Nat) (SzIs (Array.size
  cs67) (259 : Nat) (SzIs (Array.size cs70) (259 : Nat) (SzIs (Array.size cs73) (259 : Nat) (Nw (Obj.cells (List.toArray (flat [((0 : Nat), Value.agg cs64), ((1 : Nat),
  Value.agg cs67), ((2 : Nat), Value.agg cs70), ((3 : Nat), Value.agg cs73)])) (174 : Nat)) w72 fun n74 w75 => Bd (((4 : Nat) : Nat) : Int) fun x76 => LoopP (fun l77 l78
  J79 w80 => opB (nthD l77 (0 : Nat)) fun b81 => opI IntKind.i64 (nthD l77 (1 : Nat)) fun x82 => Bd (decide (x82 < x76)) fun b83 => If b83 (IxOk x82 (4 : Nat) (some
  (Addr.mk n74 (0 : Nat) none)) ∧ LdN w80 (adAt (some (Addr.mk n74 (0 : Nat) none)) x82 (259 : Nat)) (259 : Nat) fun l84 => Bd (List.toArray l84) fun cs85 => Array.size
  cs85 = (259 : Nat) ∧ Rg w80 fun n86 => OkC (Array.toList cs85) (259 : Nat) ((2 : Nat) ≤ Array.size cs85 ∧ Bd (List.toArray (List.take (2 : Nat) (List.drop (0 : Nat)
  (Array.toList cs85)))) fun cs87 => opI IntKind.i64 (nthD (Array.toList cs87) (0 : Nat)) fun x88 => opL (nthD (Array.toList cs87) (1 : Nat)) fun a89 n90 n91 => SzIs
  (Array.size cs87) (2 : Nat) ((259 : Nat) ≤ Array.size cs85 ∧ Bd (List.toArray (List.take (257 : Nat) (List.drop (2 : Nat) (Array.toList cs85)))) fun cs92 => Array.size
  cs92 = (257 : Nat) ∧ Up [n86] [n86, n52, n51, n44, n3, n2, n1] w80 fun w93 => CallW Try.prog [n86, n52, n51, n44, n3, n2, n1] (67 : Nat) #[Value.agg #[Value.int
  IntKind.i64 x88, Value.slice a89 n90 n91], Value.agg cs92, Value.int IntKind.i64 x34] (fun v94 w95 => opTu v94 fun cs96 => opAg (nthD (Array.toList cs96) (0 : Nat)) fun
  cs97 => opI IntKind.i64 (nthD (Array.toList cs97) (0 : Nat)) fun x98 => opL (nthD (Array.toList cs97) (1 : Nat)) fun a99 n100 n101 => opL (nthD (Array.toList cs97) (2 :
  Nat)) fun a102 n103 n104 => SzIs (Array.size cs97) (3 : Nat) (opI IntKind.i64 (nthD (Array.toList cs96) (1 : Nat)) fun x105 => SzIs (Array.size cs96) (2 : Nat) (Rg w95
  fun n106 => (2 : Nat) ≤ Array.size cs85 ∧ Bd (List.toArray (List.take (2 : Nat) (List.drop (0 : Nat) (Array.toList cs85)))) fun cs107 => opI IntKind.i64 (nthD
  (Array.toList cs107) (0 : Nat)) fun x108 => opL (nthD (Array.toList cs107) (1 : Nat)) fun a109 n110 n111 => SzIs (Array.size cs107) (2 : Nat) ((259 : Nat) ≤ Array.size
  cs85 ∧ Bd (List.toArray (List.take (257 : Nat) (List.drop (2 : Nat) (Array.toList cs85)))) fun cs112 => Array.size cs112 = (257 : Nat) ∧ Up [n106] [n106, n86, n52, n51,
  n44, n3, n2, n1] w95 fun w113 => CallW Try.prog [n106, n86, n52, n51, n44, n3, n2, n1] (131 : Nat) #[Value.agg #[Value.int IntKind.i64 x108, Value.slice a109 n110
  n111], Value.agg cs112, Value.int IntKind.i64 x34] (fun v114 w115 => opTu v114 fun cs116 => opAg (nthD (Array.toList cs116) (0 : Nat)) fun cs117 => opI IntKind.i64
  (nthD (Array.toList cs117) (0 : Nat)) fun x118 => opL (nthD (Array.toList cs117) (1 : Nat)) fun a119 n120 n121 => opL (nthD (Array.toList cs117) (2 : Nat)) fun a122
  n123 n124 => SzIs (Array.size cs117) (3 : Nat) (opI IntKind.i64 (nthD (Array.toList cs116) (1 : Nat)) fun x125 => SzIs (Array.size cs116) (2 : Nat) (Rg w115 fun n126 =>
  Up [n126] [n126, n106, n86, n52, n51, n44, n3, n2, n1] w115 fun w127 => CallW Try.prog [n126, n106, n86, n52, n51, n44, n3, n2, n1] (96 : Nat) #[Value.agg #[Value.int
  IntKind.i64 x98, Value.slice a99 n100 n101, Value.slice a102 n103 n104], Value.agg #[Value.int IntKind.i64 x118, Value.slice a119 n120 n121, Value.slice a122 n123
  n124]] (fun v128 w129 => opB v128 fun b130 => Bd (!b130) fun b131 => Bd (x105 != x125) fun b132 => Bd (bif b131 then true else b132) fun b133 => If b133 (R (Value.bool
  false) w129) (Bd (IntKind.wrap IntKind.i64 (x82 + (1 : Int))) fun x134 => J79 [Value.bool b81, Value.int IntKind.i64 x134] [] w129)) w127))) w113)))) w93))) (CallW
  Try.prog [n52, n51, n44, n3, n2, n1] (70 : Nat) #[Value.agg #[Value.int IntKind.i64 p4_0, Value.slice p4_1a p4_1n p4_1c, Value.slice p4_2a p4_2n p4_2c], Value.slice p5a
  p5n p5c] (fun v135 w136 => opTu v135 fun cs137 => opL (nthD (Array.toList cs137) (0 : Nat)) fun a138 n139 n140 => opI IntKind.i64 (nthD (Array.toList cs137) (1 : Nat))
  fun x141 => SzIs (Array.size cs137) (2 : Nat) (CallW Try.prog [n52, n51, n44, n3, n2, n1] (132 : Nat) #[Value.agg #[Value.int IntKind.i64 p4_0, Value.slice p4_1a p4_1n
  p4_1c, Value.slice p4_2a p4_2n p4_2c], Value.slice p5a p5n p5c] (fun v142 w143 => opTu v142 fun cs144 => opL (nthD (Array.toList cs144) (0 : Nat)) fun a145 n146 n147 =>
  opI IntKind.i64 (nthD (Array.toList cs144) (1 : Nat)) fun x148 => SzIs (Array.size cs144) (2 : Nat) (Jn (fun l149 l150 w151 => opB (nthD l149 (0 : Nat)) fun b152 => R
  (Value.bool b152) w151) fun J153 => Dr (World.drew w143) fun J154 => CallW Try.prog [n52, n51, n44, n3, n2, n1] (72 : Nat) #[Value.agg #[Value.int IntKind.i64 p4_0,
  Value.slice p4_1a p4_1n p4_1c, Value.slice p4_2a p4_2n p4_2c]] (fun v155 w156 => opB v155 fun b157 => J154 w156 ∧ CallW Try.prog [n52, n51, n44, n3, n2, n1] (133 : Nat)
  #[Value.agg #[Value.int IntKind.i64 p4_0, Value.slice p4_1a p4_1n p4_1c, Value.slice p4_2a p4_2n p4_2c]] (fun v158 w159 => opB v158 fun b160 => J154 w159 ∧ Bd (b157 ==
  b160) fun b161 => Gd b161 false (fun J162 => CallW Try.prog [n52, n51, n44, n3, n2, n1] (73 : Nat) #[Value.slice a138 n139 n140, Value.slice a145 n146 n147] (fun v163
  w164 => opB v163 fun b165 => J162 b165 w164) w159) (fun b166 w167 => J154 w167 ∧ Bd (bif b161 then b166 else false) fun b168 => Bd (x141 == x148) fun b169 => Bd (bif
  b168 then b169 else false) fun b170 => Gd b170 false (fun J171 => CallW Try.prog [n52, n51, n44, n3, n2, n1] (65 : Nat) #[] (fun v172 w173 => opB v172 fun b174 => J171
  b174 w173) w167) (fun b175 w176 => J154 w176 ∧ Bd (bif b170 then b175 else false) fun b177 => J153 [Value.bool b177] [] w176) w167) w159) w156) (World.drew w143)))
  w136)) w80)) [Value.bool false, Value.int IntKind.i64 (0 : Int)] [] w75))))) w69) w66) w63) w55)) fun J178 => Bd ((n41 : Nat) : Int) fun x179 => Bd (x179 == (0 : Int))
  fun b180 => Bd ((n41 : Nat) : Int) fun x181 => Bd (decide (x181 > (600 : Int))) fun b182 => Bd (bif b180 then true else b182) fun b183 => If b183 (Up [n52, n51] [n52,
  n51, n44, n3, n2, n1] w47 fun w184 => Array.size p2 = (257 : Nat) ∧ Up [n44] [n52, n51, n44, n3, n2, n1] (World.drew w184) fun w185 => OkC (Array.toList p2) (257 : Nat)
  (SzIs (Array.size cs49) (257 : Nat) (Up [n52] [n52, n51, n44, n3, n2, n1] w185 fun w186 => J178 [] [Value.agg p2, Value.agg #[Value.int IntKind.i64 p1_0, Value.slice
  p1_1a p1_1n p1_1c]] w186))) (Up [n52, n51] [n52, n51, n44, n3, n2, n1] w47 fun w187 => J178 [] [Value.agg cs49, Value.agg #[Value.int IntKind.i64 x39, Value.slice a40
  n41 n42]] w187))))) w45))) w33) fun J188 => Bd (decide (p3 > (60 : Int))) fun b189 => Bd (decide (p3 ≤ (5000 : Int))) fun b190 => Bd (bif b189 then b190 else false) fun
  b191 => If b191 (J188 [Value.int IntKind.i64 (60 : Int)] [] w22) (J188 [Value.int IntKind.i64 p3] [] w22))) w14) w6) w4
theorem f32_eq (p0a : Option Addr) (p0n : Nat) (p0c : Nat) (p1_0 : Int) (p1_1a : Option Addr) (p1_1n : Nat) (p1_1c : Nat) (p2 : Array Value) (p3 : Int) (p4_0 : Int)
  (p4_1a : Option Addr) (p4_1n : Nat) (p4_1c : Nat) (p4_2a : Option Addr) (p4_2n : Nat) (p4_2c : Nat) (p5a : Option Addr) (p5n : Nat) (p5c : Nat) (R : Value → World →
  Prop) (w : World) : fnW Try.prog [7, 8, 10, 13, 15, 17, 19, 20, 22, 400009, 100020] Try.f32 [Value.slice p0a p0n p0c, Value.agg #[Value.int IntKind.i64 p1_0,
  Value.slice p1_1a p1_1n p1_1c], Value.agg p2, Value.int IntKind.i64 p3, Value.agg #[Value.int IntKind.i64 p4_0, Value.slice p4_1a p4_1n p4_1c, Value.slice p4_2a p4_2n
  p4_2c], Value.slice p5a p5n p5c] R w = f32_vc p0a p0n p0c p1_0 p1_1a p1_1n p1_1c p2 p3 p4_0 p4_1a p4_1n p4_1c p4_2a p4_2n p4_2c p5a p5n p5c R w := by kernel_rfl
theorem f32_in (p0a : Option Addr) (p0n : Nat) (p0c : Nat) (p1_0 : Int) (p1_1a : Option Addr) (p1_1n : Nat) (p1_1c : Nat) (p2 : Array Value) (p3 : Int) (p4_0 : Int)
  (p4_1a : Option Addr) (p4_1n : Nat) (p4_1c : Nat) (p4_2a : Option Addr) (p4_2n : Nat) (p4_2c : Nat) (p5a : Option Addr) (p5n : Nat) (p5c : Nat) (R : Value → World →
  Prop) (w : World) (h : f32_vc p0a p0n p0c p1_0 p1_1a p1_1n p1_1c p2 p3 p4_0 p4_1a p4_1n p4_1c p4_2a p4_2n p4_2c p5a p5n p5c R w) : Ct Try.prog 32 #[Value.slice p0a p0n
  p0c, Value.agg #[Value.int IntKind.i64 p1_0, Value.slice p1_1a p1_1n p1_1c], Value.agg p2, Value.int IntKind.i64 p3, Value.agg #[Value.int IntKind.i64 p4_0, Value.slice
  p4_1a p4_1n p4_1c, Value.slice p4_2a p4_2n p4_2c], Value.slice p5a p5n p5c] w R := by
  refine Ct_of (rk := [7, 8, 10, 13, 15, 17, 19, 20, 22, 400009, 100020]) (fn := Try.f32) (args := [Value.slice p0a p0n p0c, Value.agg #[Value.int IntKind.i64 p1_0, Value.slice p1_1a p1_1n p1_1c], Value.agg p2, Value.int IntKind.i64 p3, Value.agg #[Value.int IntKind.i64 p4_0, Value.slice p4_1a p4_1n p4_1c, Value.slice p4_2a p4_2n p4_2c], Value.slice p5a p5n p5c]) mixedT Try.func32 (by kernel_rfl) ?_
  rw [f32_eq]
  exact h
end Fk
