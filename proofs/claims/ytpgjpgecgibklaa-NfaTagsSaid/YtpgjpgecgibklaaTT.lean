/- Tools for conditions: contracts, trees, rows, maps, slices. -/
import Derived.Test.YtpgjpgecgibklaaKK
import Derived.Test.YtpgjpgecgibklaaProg
import Derived.KernelRfl
import Derived.ChangeKeysEq
import Derived.ArgAppend
import Derived.Laws.StructEq
import Derived.MapKept
import Derived.Laws.Slices
/- Tools for conditions: how each of their words is met. -/
set_option linter.unusedVariables false
namespace Fk
open Go Go.RowKit

/-! ### A contract -/
/-- A call comes back, with a value and a world of which R holds. -/
def Ct (P : Program) (f : FuncId) (args : Array Value) (w : World) (R : Value → World → Prop) : Prop :=
  goodFn P f = true ∧ Calls P f args w fun e w' => match e with | .returned v => R v w' | _ => False
theorem Ct.mono {P : Program} {f : FuncId} {args : Array Value} {w : World} {R R' : Value → World → Prop} (h : Ct P f args w R) (hk : ∀ v w', R v w' → R' v w') : Ct P f args w R' :=
  ⟨h.1, h.2.mono fun e w' he => by cases e <;> first | exact hk _ _ he | exact he.elim⟩
theorem Ct_of {P : Program} {rk : List Nat} {fn : Func} {f : FuncId} {args : List Value} {R : Value → World → Prop} {w : World}
    (hm : P.follows .mixedOrders = true) (hf : P.funcs[f]? = some fn) (hg : goodFn P f = true) (h : fnW P rk fn args R w) : Ct P f args.toArray w R :=
  ⟨hg, calls_of_fnW hm hf h⟩
theorem Kept_md {L : List Nat} {w w' : World} (h : Md [] w w') (hL : ∀ b ∈ L, b < w.heap.size) : Kept L w w' := fun b hb => h.blk b (hL b hb) (by simp)
theorem Ct.call {P : Program} {L : List Nat} {f : FuncId} {args : Array Value} {w : World} {Φ K : Value → World → Prop} (h : Ct P f args w fun v w' => Φ v w' ∧ Md [] w w')
    (hL : ∀ b ∈ L, b < w.heap.size) (hk : ∀ v w', Φ v w' → Md [] w w' → K v w') : CallW P L f args K w :=
  ⟨.inl ⟨h.1, h.2.mono fun e w' he => by cases e <;> first | exact ⟨Kept_md he.2 hL, hk _ _ he.1 he.2⟩ | exact he.elim⟩⟩

theorem Ct.callD {P : Program} {D L : List Nat} {f : FuncId} {args : Array Value} {w : World} {Φ K : Value → World → Prop} (h : Ct P f args w fun v w' => Φ v w' ∧ Md D w w')
    (hL : ∀ b ∈ L, b < w.heap.size) (hD : ∀ b ∈ L, b ∉ D) (hk : ∀ v w', Φ v w' → Md D w w' → K v w') : CallW P L f args K w :=
  ⟨.inl ⟨h.1, h.2.mono fun e w' he => by cases e <;> first | exact ⟨fun b hb => he.2.blk b (hL b hb) (hD b hb), hk _ _ he.1 he.2⟩ | exact he.elim⟩⟩

theorem mixedT : Go.Proofs.Try.prog.follows .mixedOrders = true := by kernel_rfl

/-! ### Words -/
theorem Bd_in {α : Type} {x : α} {K : α → Prop} (h : ∀ y, y = x → K y) : Bd x K := h x rfl
theorem Ld_in {w : World} {A : Addr} {v : Value} {K : Value → Prop} (h : w.cell? A = some v) (k : K v) : Ld w A K := by unfold Ld; rw [h]; exact k
theorem Gd_in {α : Type} {c : Bool} {d : α} {op : (α → World → Prop) → Prop} {K : α → World → Prop} {w : World} (h : c = true → op K) (k : c = false → K d w) : Gd c d op K w := ⟨h, k⟩
theorem opI_in {k : IntKind} {x : Int} {K : Int → Prop} (h : K x) : opI k (.int k x) K := by unfold opI; simp [Bd, h]
theorem opB_in {b : Bool} {K : Bool → Prop} (h : K b) : opB (.bool b) K := h
theorem opL_in {a : Option Addr} {n c : Nat} {K : Option Addr → Nat → Nat → Prop} (h : K a n c) : opL (.slice a n c) K := h
theorem opP_in {a : Option Addr} {K : Option Addr → Prop} (h : K a) : opP (.pointer a) K := h
theorem If_in {b : Bool} {A B : Prop} (h : b = true → A) (k : b = false → B) : If b A B := by
  unfold If
  cases b
  · simpa using k rfl
  · simpa using h rfl
theorem Gd_to {α : Type} {c : Bool} {d : α} {op : (α → World → Prop) → Prop} {K : α → World → Prop} {w : World} (J : α → World → Prop) (hJ : ∀ x w, J x w → K x w) (h : (∀ x w, J x w → K x w) → c = true → op K) (k : c = false → J d w) : Gd c d op K w :=
  ⟨h hJ, fun hc => hJ _ _ (k hc)⟩
theorem RunW_in {P : Program} {L : List Nat} {s : Sem Value} {K : Value → World → Prop} {w w' : World} {v : Value} (h : s.run P w = .ok v w') (hL : Kept L w w') (k : K v w') : RunW P L s K w := by
  exact ⟨by rw [h]; exact ⟨hL, k⟩⟩
theorem RunW_in0 {P : Program} {L : List Nat} {s : Sem Value} {K : Value → World → Prop} {w : World} {v : Value} (h : s.run P w = .ok v w) (k : K v w) : RunW P L s K w :=
  RunW_in h (fun _ _ => rfl) k
theorem RunU_in {P : Program} {L : List Nat} {s : Sem Unit} {K : World → Prop} {w w' : World} {u : Unit} (h : s.run P w = .ok u w') (hL : Kept L w w') (k : K w') : RunU P L s K w := by
  exact ⟨by rw [h]; exact ⟨hL, k⟩⟩
theorem Jn_in {A : List Value → List Value → World → Prop} {B : (List Value → List Value → World → Prop) → Prop} (J : List Value → List Value → World → Prop) (h : ∀ us vs w, J us vs w → A us vs w) (k : B J) : Jn A B := ⟨J, h, k⟩
theorem BdO_in {α : Type} {o : Option α} {v : α} {K : α → Prop} (h : o = some v) (k : K v) : BdO o K := by rw [h]; exact k
theorem opBig_in {cs : Array Value} {K : Array Value → Prop} (h : K cs) : opBig (.agg cs) K := h
theorem opAg_in {cs : Array Value} {K : Array Value → Prop} (h : K cs) : opAg (.agg cs) K := h
theorem opTu_in {cs : Array Value} {K : Array Value → Prop} (h : K cs) : opTu (.tuple cs) K := h
theorem opStr_in {s : ByteArray} {K : ByteArray → Prop} (h : K s) : opStr (.string s) K := h
theorem opM_in {s : Option Nat} {K : Option Nat → Prop} (h : K s) : opM (.map s) K := h
theorem LeC_in {a b : Nat} {K : Prop} (h : a ≤ b) (k : K) : LeC a b K := by unfold LeC; rw [Nat.ble_eq_true_of_le h]; exact k
theorem OkC_in {l : List Value} {n : Nat} {K : Prop} (h : okCells l n = true) (k : K) : OkC l n K := by unfold OkC; rw [h]; exact k
/-- A loop: what is so whenever it comes round, and what falls. -/
theorem LoopP_in {F : List Value → List Value → (List Value → List Value → World → Prop) → World → Prop} {us vs : List Value} {w : World}
    (I : Nat → List Value → List Value → World → Prop) (m : Nat) (h : I m us vs w) (k : ∀ m us vs w, I m us vs w → F us vs (fun us' vs' w' => ∃ m', m' < m ∧ I m' us' vs' w') w) : LoopP F us vs w :=
  ⟨I, ⟨m, h⟩, k⟩

theorem Md_drew (w : World) : Md [] w w.drew := ⟨rfl, rfl, rfl, Nat.le_refl _, fun _ _ _ => rfl⟩
/-! ### Memory -/
theorem cell_lt {w : World} {A : Addr} {v : Value} (h : w.cell? A = some v) : A.block < w.heap.size := by
  unfold World.cell? at h
  split at h
  · rename_i hb; exact (Array.getElem?_eq_some_iff.1 hb).1
  · cases h
theorem Md.cell {D : List Nat} {w w' : World} (h : Md D w w') {A : Addr} {v : Value} (hc : w.cell? A = some v) (hD : A.block ∉ D) : w'.cell? A = some v := by
  have hb := h.blk A.block (cell_lt hc) hD
  unfold World.cell? at hc ⊢
  rw [hb]
  exact hc
theorem Md.cell0 {w w' : World} (h : Md [] w w') {A : Addr} {v : Value} (hc : w.cell? A = some v) : w'.cell? A = some v := h.cell hc (by simp)
/-- What is new was not there. -/
theorem Md.fresh {D : List Nat} {w w' : World} (h : Md D w w') (hD : ∀ d ∈ D, w.heap.size ≤ d) : Md [] w w' :=
  ⟨h.os, h.tape, h.output, h.size, fun k hk _ => h.blk k hk fun hm => by have := hD k hm; omega⟩
theorem Md.old {D : List Nat} {w0 w w' : World} (h0 : Md [] w0 w) (h : Md D w w') (hD : ∀ d ∈ D, w0.heap.size ≤ d) : Md [] w0 w' :=
  ⟨h.os.trans h0.os, h.tape.trans h0.tape, h.output.trans h0.output, Nat.le_trans h0.size h.size,
    fun k hk hm => (h.blk k (Nat.lt_of_lt_of_le hk h0.size) fun hm => by have := hD k hm; omega).trans (h0.blk k hk hm)⟩
end Fk

/- Regular trees in memory. -/
set_option linter.unusedVariables false
namespace Fk
open Go Go.RowKit
/-- A row of trees: the first one, its kids, and the others. -/
inductive Fo where
  | nil
  | cons (k a b c d : Int) (kids rest : Fo)
def Fo.len : Fo → Nat
  | .nil => 0
  | .cons _ _ _ _ _ _ r => r.len + 1
def Fo.size : Fo → Nat
  | .nil => 0
  | .cons _ _ _ _ _ q r => q.size + r.size + 1
/-- The cells of a tree. -/
def ReC (w : World) (B : Addr) (k a b c d : Int) (sa : Option Addr) (sn sc : Nat) : Prop :=
  w.cell? (B.add 0) = some (.int .u8 k) ∧ w.cell? (B.add 1) = some (.int .u64 a) ∧ w.cell? (B.add 2) = some (.int .u64 b) ∧ w.cell? (B.add 3) = some (.int .u64 c) ∧
    w.cell? (B.add 4) = some (.int .u64 d) ∧ w.cell? (B.add 5) = some (.slice sa sn sc)
/-- A row of trees lies in memory, from the i-th place of A on. -/
def RepF (w : World) : Option Addr → Nat → Fo → Prop
  | _, _, .nil => True
  | A, i, .cons k a b c d q r => (∃ B sa sc, A = some B ∧ ReC w (B.add (i * 6)) k a b c d sa q.len sc ∧ q.len < 2 ^ 63 ∧ RepF w sa 0 q) ∧ RepF w A (i + 1) r
theorem ReC.md {w w' : World} {B : Addr} {k a b c d : Int} {sa : Option Addr} {sn sc : Nat} (h : ReC w B k a b c d sa sn sc) (hm : Md [] w w') : ReC w' B k a b c d sa sn sc :=
  ⟨hm.cell0 h.1, hm.cell0 h.2.1, hm.cell0 h.2.2.1, hm.cell0 h.2.2.2.1, hm.cell0 h.2.2.2.2.1, hm.cell0 h.2.2.2.2.2⟩
theorem RepF.md {w w' : World} (hm : Md [] w w') : ∀ {A : Option Addr} {i : Nat} {f : Fo}, RepF w A i f → RepF w' A i f
  | _, _, .nil, _ => trivial
  | A, i, .cons k a b c d q r, h => by
    simp only [RepF] at h ⊢
    obtain ⟨⟨B, sa, sc, h1, h2, h3, h4⟩, h5⟩ := h
    exact ⟨⟨B, sa, sc, h1, h2.md hm, h3, RepF.md hm h4⟩, RepF.md hm h5⟩
/-- The tree that comes next. -/
theorem RepF.at {w : World} {A : Option Addr} {i : Nat} {k a b c d : Int} {q r : Fo} (h : RepF w A i (.cons k a b c d q r)) :
    ∃ B sa sc, A = some B ∧ ReC w (B.add (i * 6)) k a b c d sa q.len sc ∧ q.len < 2 ^ 63 ∧ RepF w sa 0 q ∧ RepF w A (i + 1) r := by
  simp only [RepF] at h
  obtain ⟨⟨B, sa, sc, h1, h2, h3, h4⟩, h5⟩ := h
  exact ⟨B, sa, sc, h1, h2, h3, h4, h5⟩
/-- Six cells are read. -/
theorem ReC.ld {w : World} {B : Addr} {k a b c d : Int} {sa : Option Addr} {sn sc : Nat} (h : ReC w B k a b c d sa sn sc) {K : Int → Int → Int → Int → Int → Option Addr → Nat → Nat → Prop}
    (hk : K k a b c d sa sn sc) :
    Ld w (B.add 0) fun v14 => Ld w (B.add 1) fun v15 => Ld w (B.add 2) fun v16 => Ld w (B.add 3) fun v17 => Ld w (B.add 4) fun v18 => Ld w (B.add 5) fun v19 =>
      opI .u8 v14 fun x20 => opI .u64 v15 fun x21 => opI .u64 v16 fun x22 => opI .u64 v17 fun x23 => opI .u64 v18 fun x24 => opL v19 fun a25 n26 n27 => K x20 x21 x22 x23 x24 a25 n26 n27 :=
  Ld_in h.1 <| Ld_in h.2.1 <| Ld_in h.2.2.1 <| Ld_in h.2.2.2.1 <| Ld_in h.2.2.2.2.1 <| Ld_in h.2.2.2.2.2 <| opI_in <| opI_in <| opI_in <| opI_in <| opI_in <| opL_in hk
end Fk

/- Rows of numbers, compared. -/
set_option linter.unusedVariables false
set_option maxRecDepth 100000
namespace Fk
open Go Go.Proofs Go.RowKit
/-- Numbers, as cells. -/
def ints (k : IntKind) (l : List Int) : List Value := l.map (.int k)
theorem run_items {P : Program} {w : World} {e : TypeId} {q : IntKind} (hu : P.underlying e = some (.int q)) (hc : P.cellsOf e = 1) (d : Nat) (k : IntKind) (xs ys : List Int) :
    ∀ (n i : Nat), i + n = xs.length → xs.length = ys.length →
      (Op.eqItems (d + 1) e 1 (ints k xs).toArray (ints k ys).toArray (List.range' i n)).run P w = .ok (decide (xs.drop i = ys.drop i)) w
  | 0, i, h, hl => by
    have h1 : xs.drop i = [] := List.drop_of_length_le (by omega)
    have h2 : ys.drop i = [] := List.drop_of_length_le (by omega)
    simp [Op.eqItems, h1, h2]
  | n + 1, i, h, hl => by
    have hi : i < xs.length := by omega
    have hj : i < ys.length := by omega
    have ha : isAggT P e = false := by simp [isAggT, hu]
    have p1 : (part e (ints k xs).toArray (i * 1)).run P w = .ok (.int k xs[i]) w := by
      simp [part, run_isAgg hu, ha, ints, hi]
    have p2 : (part e (ints k ys).toArray (i * 1)).run P w = .ok (.int k ys[i]) w := by
      simp [part, run_isAgg hu, ha, ints, hj]
    have p3 : (Op.equalIn (d + 1) e (.int k xs[i]) (.int k ys[i])).run P w = .ok (xs[i] == ys[i]) w := by
      simp [Op.equalIn, run_underlying hu]
    rw [List.range'_succ]
    simp only [Op.eqItems, Sem.run_bind, p1, p2, p3, Result.andThen_ok]
    have ex : (xs.drop i = ys.drop i) = (xs[i] = ys[i] ∧ xs.drop (i + 1) = ys.drop (i + 1)) := by
      rw [List.drop_eq_getElem_cons hi, List.drop_eq_getElem_cons hj, List.cons.injEq]
    simp only [ex]
    by_cases he : xs[i] = ys[i]
    · simp only [he, BEq.rfl, Bool.not_true, Bool.false_eq_true, if_false]
      rw [run_items hu hc d k xs ys n (i + 1) (by omega) hl]
      simp
    · simp [he]
theorem run_equal_ints {P : Program} {w : World} {t e : TypeId} {q : IntKind} {n : Nat} {i : TypeInfo} (ht : P.underlying t = some (.array n e)) (hi : P.info? e = some i) (hu : P.underlying e = some (.int q))
    (hc : P.cellsOf e = 1) (k : IntKind) (xs ys : List Int) (hx : xs.length = n) (hy : ys.length = n) (d : Nat) :
    (Op.equalIn (d + 2) t (.agg (ints k xs).toArray) (.agg (ints k ys).toArray)).run P w = .ok (decide (xs = ys)) w := by
  rw [run_equalIn_array w (d + 1) _ _ ht hi, hc, List.range_eq_range', run_items hu hc d k xs ys n 0 (by omega) (by omega)]
  simp
theorem eqS_ints {P : Program} {w : World} {t e : TypeId} {q : IntKind} {n : Nat} (ht : P.underlying t = some (.array n e)) (hi : (P.info? e).isSome = true) (hu : P.underlying e = some (.int q))
    (hc : P.cellsOf e = 1) (hg : P.eqGuardType P.depth t = false) (k : IntKind) (xs ys : List Int) (hx : xs.length = n) (hy : ys.length = n) (o1 o2 : Operand) :
    (eqS .eql t o1 o2 (.agg (ints k xs).toArray) (.agg (ints k ys).toArray)).run P w = .ok (.bool (decide (xs = ys))) w ∧
    (eqS .neq t o1 o2 (.agg (ints k xs).toArray) (.agg (ints k ys).toArray)).run P w = .ok (.bool (!decide (xs = ys))) w := by
  obtain ⟨i, hi⟩ := Option.isSome_iff_exists.1 hi
  have h := run_equal_ints (w := w) ht hi hu hc k xs ys hx hy 9998
  constructor
  · unfold eqS eqGuard binOp Op.equal
    simp only [Sem.run_bind]
    simp [hg, h, Op.maxDepth]
  · unfold eqS eqGuard binOp Op.equal
    simp only [Sem.run_bind]
    simp [hg, h, Op.maxDepth]
/-- Four words of a set, as a value. -/
abbrev setV (a b c d : Int) : Value := .agg #[.int .u64 a, .int .u64 b, .int .u64 c, .int .u64 d]
theorem eq28 (o1 o2 : Operand) (a b c d a' b' c' d' : Int) (w : World) :
    (eqS .eql 28 o1 o2 (setV a b c d) (setV a' b' c' d')).run Try.prog w = .ok (.bool (decide ([a, b, c, d] = [a', b', c', d']))) w :=
  (eqS_ints (t := 28) (e := 26) (q := .u64) (n := 4) (by kernel_rfl) (by kernel_rfl) (by kernel_rfl) (by kernel_rfl) (by kernel_rfl) .u64 [a, b, c, d] [a', b', c', d'] rfl rfl o1 o2).1
theorem ne28 (o1 o2 : Operand) (a b c d a' b' c' d' : Int) (w : World) :
    (eqS .neq 28 o1 o2 (setV a b c d) (setV a' b' c' d')).run Try.prog w = .ok (.bool (!decide ([a, b, c, d] = [a', b', c', d']))) w :=
  (eqS_ints (t := 28) (e := 26) (q := .u64) (n := 4) (by kernel_rfl) (by kernel_rfl) (by kernel_rfl) (by kernel_rfl) (by kernel_rfl) .u64 [a, b, c, d] [a', b', c', d'] rfl rfl o1 o2).2
end Fk

/- Rows of one's own: lists that are made, and appended to. -/
set_option linter.unusedVariables false
namespace Fk
open Go Go.Proofs Go.RowKit
/-- A type of slices, of elements of so many cells and bytes. -/
structure RowT (P : Program) (t e : TypeId) (size bytes : Nat) : Prop where
  ht : P.underlying t = some (.slice e)
  hi : ∃ i z, P.info? e = some i ∧ i.zero = some z ∧ i.size = size ∧ i.bytes = bytes ∧ z.cells.size = size
  pos : 0 < size
theorem RowT.of {P : Program} {t e : TypeId} {size bytes : Nat} (h1 : P.underlying t = some (.slice e)) (h2 : (P.info? e).map (fun i => (i.size, i.bytes)) = some (size, bytes))
    (h3 : ((P.info? e).bind (·.zero)).map (·.cells.size) = some size) (h4 : 0 < size) : RowT P t e size bytes := by
  refine ⟨h1, ?_, h4⟩
  cases hi : P.info? e with
  | none => simp [hi] at h2
  | some i =>
    simp only [hi, Option.map_some, Option.some.injEq, Prod.mk.injEq, Option.bind_some] at h2 h3
    cases hz : i.zero with
    | none => simp [hz] at h3
    | some z => simp only [hz, Option.map_some, Option.some.injEq] at h3; exact ⟨i, z, rfl, hz, h2.1, h2.2, h3⟩
/-- A way to lay out elements. -/
structure Enc {α : Type} (size : Nat) (enc : α → List Value) : Prop where
  len : ∀ x, (enc x).length = size
  one : ∀ x, ∀ v ∈ enc x, v.oneCell' = true
theorem Enc.lenL {α : Type} {size : Nat} {enc : α → List Value} (h : Enc size enc) : ∀ l : List α, (l.flatMap enc).length = l.length * size
  | [] => by simp
  | x :: l => by rw [List.flatMap_cons, List.length_append, h.len, h.lenL l, List.length_cons, Nat.succ_mul]; omega
theorem Enc.oneL {α : Type} {size : Nat} {enc : α → List Value} (h : Enc size enc) (l : List α) : ∀ v ∈ l.flatMap enc, v.oneCell' = true := by
  intro v hv
  obtain ⟨x, _, hx⟩ := List.mem_flatMap.1 hv
  exact h.one x v hx
theorem Enc.at {α : Type} {size : Nat} {enc : α → List Value} (h : Enc size enc) : ∀ (l : List α) (i j : Nat) (x : α), l[i]? = some x → j < size → (l.flatMap enc)[i * size + j]? = (enc x)[j]?
  | [], i, j, x, hx, hj => by simp at hx
  | y :: l, 0, j, x, hx, hj => by
    simp at hx; subst hx
    rw [List.flatMap_cons, Nat.zero_mul, Nat.zero_add, List.getElem?_append_left (by rw [h.len]; exact hj)]
  | y :: l, i + 1, j, x, hx, hj => by
    simp at hx
    rw [List.flatMap_cons, Nat.succ_mul, List.getElem?_append_right (by rw [h.len]; omega), h.len, show i * size + size + j - size = i * size + j by omega]
    exact h.at l i j x hx hj
/-- A row of one's own: no older than 'base'. -/
def OwnL {α : Type} (w : World) (base : Nat) (e : TypeId) (size : Nat) (enc : α → List Value) (a : Option Addr) (c : Nat) (l : List α) : Prop :=
  w.ownsRow base e size (.slice a l.length c) l.length (l.flatMap enc)
theorem Md_of_grown {w w' : World} {row : Option Nat} (h : w.grownBy w' row) : Md row.toList w w' :=
  ⟨h.os, h.tape, h.output, h.size, fun k hk hm => h.block k hk fun e => hm (by rw [← e]; simp)⟩
section
variable {α : Type} {w w' : World} {base : Nat} {e : TypeId} {size : Nat} {enc : α → List Value} {a : Option Addr} {c : Nat} {l : List α}
theorem OwnL.nil (w : World) (base : Nat) (e : TypeId) (size : Nat) (enc : α → List Value) : OwnL w base e size enc none 0 [] := World.ownsRow_nil w base e size
theorem OwnL.lt (h : OwnL w base e size enc a c l) {A : Addr} (ha : a = some A) : base ≤ A.block ∧ A.block < w.heap.size := World.ownsRow.lt h A.block (by subst ha; rfl)
theorem OwnL.mdD {D : List Nat} (h : OwnL w base e size enc a c l) (hm : Md D w w') (hD : ∀ A, a = some A → A.block ∉ D) : OwnL w' base e size enc a c l := by
  refine ⟨h.1, ?_⟩
  rcases h.2 with hn | ⟨g, cap, cur, hv, hb, hg, rest⟩
  · exact .inl hn
  · refine .inr ⟨g, cap, cur, hv, hb, ?_, rest⟩
    simp only [Value.slice.injEq] at hv
    rw [hm.blk g (Array.getElem?_eq_some_iff.1 hg).1 (hD _ hv.1)]
    exact hg
theorem OwnL.md (h : OwnL w base e size enc a c l) (hm : Md [] w w') : OwnL w' base e size enc a c l := h.mdD hm (by simp)
/-- What is made anew elsewhere leaves it. -/
theorem OwnL.mdN {D : List Nat} (h : OwnL w base e size enc a c l) (hm : Md D w w') (hD : ∀ d ∈ D, w.heap.size ≤ d) : OwnL w' base e size enc a c l := h.md (hm.fresh hD)
theorem OwnL.down {b : Nat} (h : OwnL w base e size enc a c l) (hb : b ≤ base) : OwnL w b e size enc a c l := by
  refine ⟨h.1, ?_⟩
  rcases h.2 with hn | ⟨g, cap, cur, hv, hb', rest⟩
  · exact .inl hn
  · exact .inr ⟨g, cap, cur, hv, Nat.le_trans hb hb', rest⟩
/-- Its cells. -/
theorem OwnL.cells (h : OwnL w base e size enc a c l) : ∀ j u, (l.flatMap enc)[j]? = some u → ∃ A, a = some A ∧ w.cell? (A.add j) = some u := by
  intro j u hu
  rcases h.2 with ⟨hv, hn⟩ | ⟨g, cap, cur, hv, _⟩
  · have hl : l = [] := List.eq_nil_of_length_eq_zero hn
    subst hl; simp at hu
  · simp only [Value.slice.injEq] at hv
    refine ⟨⟨g, 0, none⟩, hv.1, ?_⟩
    exact World.ownsRow.cells h (by rw [hv.1]; rfl) j u hu
theorem OwnL.at (h : OwnL w base e size enc a c l) (he : Enc size enc) {i : Nat} {x : α} (hx : l[i]? = some x) :
    ∃ A, a = some A ∧ ∀ j u, (enc x)[j]? = some u → w.cell? ((A.add (i * size)).add j) = some u := by
  rcases h.2 with ⟨hv, hn⟩ | ⟨g, cap, cur, hv, _⟩
  · have hl : l = [] := List.eq_nil_of_length_eq_zero hn
    subst hl; simp at hx
  · simp only [Value.slice.injEq] at hv
    refine ⟨⟨g, 0, none⟩, hv.1, fun j u hu => ?_⟩
    have hj : j < size := by rw [← he.len x]; exact (List.getElem?_eq_some_iff.1 hu).1
    have h1 := World.ownsRow.cells h (g := g) (by rw [hv.1]; rfl) (i * size + j) u (by rw [he.at l i j x hx hj]; exact hu)
    simp only [Addr.add_lit, Nat.zero_add] at h1 ⊢
    exact h1
theorem OwnL.lit {P : Program} (he : Enc size enc) (w : World) (e : TypeId) (l : List α) (cs : Array Value) (hb : base ≤ w.heap.size) (hm : l.length ≤ maxLen) (hs : cs.toList = l.flatMap enc) :
    OwnL (w.alloc (.cells cs e)) base e size enc (some ⟨w.heap.size, 0, none⟩) l.length l := by
  have h := World.ownsRow_lit (w := w) (e := e) (size := size) cs l.length hb hm (by rw [← Array.length_toList, hs, he.lenL])
  unfold OwnL
  rw [← hs]
  exact h
end
theorem own_slice {w : World} {base : Nat} {e : TypeId} {size : Nat} {v : Value} {n : Nat} {xs : List Value} (h : w.ownsRow base e size v n xs) : ∃ a c, v = .slice a n c := by
  rcases h.2 with ⟨rfl, hn0⟩ | ⟨g', cap', cur', rfl, _⟩
  · exact ⟨none, 0, by rw [hn0]⟩
  · exact ⟨_, _, rfl⟩
theorem own_blk {w : World} {base : Nat} {e : TypeId} {size : Nat} {a : Option Addr} {m c : Nat} {n : Nat} {xs : List Value} (h : w.ownsRow base e size (.slice a m c) n xs) : ∀ A, a = some A → base ≤ A.block :=
  fun A hA => (World.ownsRow.lt h A.block (by subst hA; rfl)).1
/-- The append itself. -/
theorem run_app {P : Program} {t ty e : TypeId} {size bytes : Nat} (T : RowT P t e size bytes) {w : World} {base : Nat} {a : Option Addr} {n c : Nat} {xs : List Value} (h : w.ownsRow base e size (.slice a n c) n xs)
    (A2 : Addr) (m c2 : Nat) (news : List Value) (hl : news.length = m * size) (hnews : ∀ j u, news[j]? = some u → w.cell? (A2.add j) = some u) (h1 : ∀ u ∈ news, u.oneCell' = true)
    (hn : n + m ≤ maxLen) (hby : (n + m) * bytes ≤ 140737488355328) (hb : base ≤ w.heap.size) :
    ∃ a' c' w', (Builtin.append_ #[t, t] ty #[.slice a n c, .slice (some A2) m c2]).run P w = .ok (.slice a' (n + m) c') w' ∧ w'.ownsRow base e size (.slice a' (n + m) c') (n + m) (xs ++ news) ∧
      Md (a.map (·.block)).toList w w' ∧ (∀ A, a' = some A → a = some A ∨ w.heap.size ≤ A.block) := by
  obtain ⟨i, z, hi, hz, hs, hy, hzs⟩ := T.hi
  have dn : ∀ {w' : World} {v : Value} {k : Nat} {ys : List Value}, w'.ownsRow w.heap.size e size v k ys → w'.ownsRow base e size v k ys := by
    intro w' v k ys h
    refine ⟨h.1, ?_⟩
    rcases h.2 with hn | ⟨g, cap, cur, hv, hb', rest⟩
    · exact .inl hn
    · exact .inr ⟨g, cap, cur, hv, Nat.le_trans hb hb', rest⟩
  rcases h.2 with ⟨hv, hn0⟩ | ⟨g, cap, cur, hv, hbg, hg, hnc, hrest⟩
  · simp only [Value.slice.injEq] at hv
    obtain ⟨rfl, _, rfl⟩ := hv
    subst hn0
    have hx : xs = [] := List.eq_nil_of_length_eq_zero (by simpa using h.1)
    subst hx
    obtain ⟨v', w', hr, ho, hgr, _⟩ := run_append_own (P := P) w (ty := ty) w.heap.size t e i z size bytes T.ht hi hz hs hy hzs T.pos _ 0 [] (World.ownsRow_nil w _ e size) A2 m c2 news hl hnews h1 hn hby (Nat.le_refl _)
    obtain ⟨a', c', rfl⟩ := own_slice ho
    exact ⟨a', c', w', hr, dn ho, Md_of_grown hgr, fun A hA => .inr (own_blk ho A hA)⟩
  · simp only [Value.slice.injEq] at hv
    obtain ⟨rfl, _, rfl⟩ := hv
    by_cases hroom : n + m ≤ c
    · obtain ⟨w', hr, ho, hgr⟩ := run_append_fits (P := P) w (ty := ty) base t e i size T.ht hi hs g n c xs h A2 m c2 news hl hnews h1 hroom
      exact ⟨_, _, w', hr, ho, Md_of_grown hgr, fun A hA => .inl hA⟩
    · have hsz : 0 < size := T.pos
      obtain ⟨v', w', hr, ho, hgr⟩ := run_append_arg_grows (P := P) w (ty := ty) t e i z size bytes T.ht hi hz hs hy hzs T.pos ⟨g, 0, none⟩ n c xs h.1 (World.ownsRow.cells h rfl) A2 m c2 news hl hnews (by omega) hn hby
      obtain ⟨a', c', rfl⟩ := own_slice ho
      exact ⟨a', c', w', hr, dn ho, (Md_of_grown hgr).mono (by simp), fun A hA => .inr (own_blk ho A hA)⟩
/-- Behind a row of one's own comes what another one has. -/
theorem app_own {α : Type} {P : Program} {t ty e : TypeId} {size bytes : Nat} (T : RowT P t e size bytes) {enc : α → List Value} (he : Enc size enc) {w : World} {base base2 : Nat} {a a2 : Option Addr} {c c2 : Nat} {l l2 : List α} {L : List Nat}
    (h : OwnL w base e size enc a c l) (h2 : OwnL w base2 e size enc a2 c2 l2) (hb : base ≤ w.heap.size) (hL : ∀ b ∈ L, b < w.heap.size) (hLa : ∀ b ∈ L, ∀ A, a = some A → A.block ≠ b)
    (hn : l.length + l2.length ≤ maxLen) (hby : (l.length + l2.length) * bytes ≤ 140737488355328) {K : Value → World → Prop}
    (k : ∀ (a' : Option Addr) (c' : Nat) (w' : World), OwnL w' base e size enc a' c' (l ++ l2) → Md (a.map (·.block)).toList w w' → (∀ A, a' = some A → a = some A ∨ w.heap.size ≤ A.block) → K (.slice a' (l ++ l2).length c') w') :
    RunW P L (Builtin.append_ #[t, t] ty #[.slice a l.length c, .slice a2 l2.length c2]) K w := by
  rcases h2.2 with ⟨hv, hn0⟩ | ⟨g, cap, cur, hv, _⟩
  · have hl : l2 = [] := List.eq_nil_of_length_eq_zero hn0
    subst hl
    obtain ⟨i, z, hi, hz, hs, hy, hzs⟩ := T.hi
    have := run_append_owned_none (P := P) w (ty := ty) base t e i size T.ht hi _ _ _ h
    rw [hv]
    refine RunW_in0 this ?_
    have hk := k a c w (by simpa using h) (Md.refl _ _) (fun A hA => .inl hA)
    simpa using hk
  · simp only [Value.slice.injEq] at hv
    obtain ⟨rfl, _, rfl⟩ := hv
    obtain ⟨a', c', w', hr, ho, hm, hA⟩ := run_app (ty := ty) T h ⟨g, 0, none⟩ l2.length c2 (l2.flatMap enc) (he.lenL l2) (World.ownsRow.cells h2 rfl) (he.oneL l2) hn hby hb
    refine RunW_in hr (fun b hbL => hm.blk b (hL b hbL) fun hmem => ?_) ?_
    · cases a with
      | none => simp at hmem
      | some A => simp at hmem; exact hLa b hbL A rfl hmem.symm
    · have := k a' c' w' (by unfold OwnL; rw [List.flatMap_append, List.length_append]; exact ho) hm hA
      rwa [List.length_append] at this
/-- One element more, from where it has just been laid. -/
theorem app_one {α : Type} {P : Program} {t ty e : TypeId} {size bytes : Nat} (T : RowT P t e size bytes) {enc : α → List Value} (he : Enc size enc) {w : World} {base : Nat} {a : Option Addr} {c : Nat} {l : List α} {L : List Nat} {cs : Array Value} (x : α) (hcs : cs.toList = enc x)
    (h : OwnL w base e size enc a c l) (hb : base ≤ w.heap.size) (hL : ∀ b ∈ L, b < w.heap.size) (hLa : ∀ b ∈ L, ∀ A, a = some A → A.block ≠ b)
    (hn : l.length + 1 ≤ maxLen) (hby : (l.length + 1) * bytes ≤ 140737488355328) {K : Value → World → Prop}
    (k : ∀ (a' : Option Addr) (c' : Nat) (w' : World), OwnL w' base e size enc a' c' (l ++ [x]) → Md (a.map (·.block)).toList w w' → (∀ A, a' = some A → a = some A ∨ w.heap.size ≤ A.block) → K (.slice a' (l ++ [x]).length c') w') :
    Nw (.cells cs e) w fun b w' => RunW P L (Builtin.append_ #[t, t] ty #[.slice a l.length c, .slice (some { block := b, off := 0 }) 1 1]) K w' := by
  intro b w1 eb e1
  subst eb; subst e1
  have h2 := OwnL.lit (P := P) (base := w.heap.size) he w e [x] cs (Nat.le_refl _) (by simp [maxLen]) (by simpa using hcs)
  have hs : w.heap.size ≤ (w.alloc (.cells cs e)).heap.size := by simp
  refine app_own T he (h.md (Md.alloc w _)) h2 (Nat.le_trans hb hs) (fun b hbL => Nat.lt_of_lt_of_le (hL b hbL) hs) hLa hn hby fun a' c' w' ho hm hA => k a' c' w' ho ?_ fun A hA' => (hA A hA').imp id (Nat.le_trans hs)
  exact (Md.alloc w _).trans hm
/-! ### Rows of sets -/
abbrev Q4 := Int × Int × Int × Int
def q4 (q : Q4) : List Value := [.int .u64 q.1, .int .u64 q.2.1, .int .u64 q.2.2.1, .int .u64 q.2.2.2]
theorem enc4 : Enc 4 q4 := ⟨fun _ => rfl, by intro x v hv; simp [q4] at hv; rcases hv with rfl | rfl | rfl | rfl <;> rfl⟩
theorem rowT43 : RowT Try.prog 43 28 4 32 := RowT.of (by kernel_rfl) (by kernel_rfl) (by kernel_rfl) (by omega)
abbrev OwnS (w : World) (base : Nat) (a : Option Addr) (c : Nat) (l : List Q4) : Prop := OwnL w base 28 4 q4 a c l
end Fk

/- What is compared, and maps. -/
set_option linter.unusedVariables false
set_option linter.unusedSimpArgs false
set_option linter.unusedSectionVars false
set_option maxRecDepth 100000
namespace Fk
open Go Go.Proofs Go.RowKit
/-- What is compared as what it stands for. -/
def EqT {α : Type} [DecidableEq α] (P : Program) (t : TypeId) (v : α → Value) (n : Nat) : Prop :=
  ∀ (d : Nat) (w : World) (a b : α), n ≤ d → (Op.equalIn d t (v a) (v b)).run P w = .ok (decide (a = b)) w
theorem EqT.int {P : Program} {t : TypeId} {q : IntKind} (hu : P.underlying t = some (.int q)) (k : IntKind) : EqT P t (fun x : Int => .int k x) 1 := by
  intro d w a b hd
  obtain ⟨d, rfl⟩ := Nat.exists_eq_add_of_le' hd
  simp only [Op.equalIn, Sem.run_bind, run_underlying hu, Result.andThen_ok]
  simp [Bool.beq_eq_decide_eq]
theorem EqT.bool {P : Program} {t : TypeId} (hu : P.underlying t = some .bool) : EqT P t (fun x : Bool => .bool x) 1 := by
  intro d w a b hd
  obtain ⟨d, rfl⟩ := Nat.exists_eq_add_of_le' hd
  simp only [Op.equalIn, Sem.run_bind, run_underlying hu, Result.andThen_ok]
  simp [Bool.beq_eq_decide_eq]
/-- Two structs, field by field. -/
theorem run_eqFields_cons {P : Program} {w : World} {d : Nat} {xs ys : Array Value} {f : Field} {fs : List Field} {a b : Value} {r s : Bool} (hn : f.name ≠ "_")
    (ha : (part f.type xs f.offset).run P w = .ok a w) (hb : (part f.type ys f.offset).run P w = .ok b w) (he : (Op.equalIn d f.type a b).run P w = .ok r w)
    (hr : (Op.eqFields d xs ys fs).run P w = .ok s w) : (Op.eqFields d xs ys (f :: fs)).run P w = .ok (r && s) w := by
  simp only [Op.eqFields, hn, ne_eq, not_false_eq_true, if_true, Sem.run_bind, ha, hb, he, Result.andThen_ok]
  cases r <;> simp [hr]
theorem eqS_of {P : Program} {w : World} {t : TypeId} {xs ys : Array Value} {r : Bool} (hg : P.eqGuardType P.depth t = false) (h : (Op.equalIn 10000 t (.agg xs) (.agg ys)).run P w = .ok r w) (o1 o2 : Operand) :
    (eqS .eql t o1 o2 (.agg xs) (.agg ys)).run P w = .ok (.bool r) w ∧ (eqS .neq t o1 o2 (.agg xs) (.agg ys)).run P w = .ok (.bool (!r)) w := by
  constructor
  · unfold eqS eqGuard binOp Op.equal
    simp only [Sem.run_bind]
    simp [hg, h, Op.maxDepth]
  · unfold eqS eqGuard binOp Op.equal
    simp only [Sem.run_bind]
    simp [hg, h, Op.maxDepth]

/-! ### Maps -/
/-- A kind of maps: how keys and values are laid. -/
structure MapT {K V : Type} [DecidableEq K] (P : Program) (mt kt et : TypeId) (d : TypeDesc) (kv : K → Value) (vv : V → Value) : Prop where
  hm : P.underlying mt = some (.map kt et)
  hk : P.underlying kt = some d
  check : ∀ (em : Bool) (w : World) (k : K), (Instr.checkKey em 10000 kt (kv k)).run P w = .ok () w
  eq : EqT P kt kv 10000
  now : ∀ a b, Instr.sameNow d (kv a) (kv b) = none ∨ Instr.sameNow d (kv a) (kv b) = some (decide (a = b))
def findI {K V : Type} [DecidableEq K] (k : K) : List (K × V) → Nat → Option (Nat × V)
  | [], _ => none
  | p :: l, i => if k = p.1 then some (i, p.2) else findI k l (i + 1)
/-- What a map has, the eldest first. -/
def MapAt {K V : Type} (w : World) (r : Nat) (kv : K → Value) (vv : V → Value) (l : List (K × V)) : Prop :=
  ∃ es clock, w.heap[r]? = some (.map es clock) ∧ es.toList.map (fun e => (e.key, e.val)) = l.map (fun p => (kv p.1, vv p.2))
section
variable {K V : Type} [DecidableEq K] {P : Program} {mt kt et : TypeId} {d : TypeDesc} {kv : K → Value} {vv : V → Value}
theorem MapT.asking (T : MapT P mt kt et d kv vv) (w : World) (k : K) : ∀ (es : List MapEntry) (l : List (K × V)) (i : Nat), es.map (fun e => (e.key, e.val)) = l.map (fun p => (kv p.1, vv p.2)) →
    (Instr.findAsking kt (kv k) es i).run P w = .ok ((findI k l i).map fun p => (p.1, vv p.2)) w
  | [], [], i, _ => by simp [Instr.findAsking, findI]
  | [], _ :: _, _, h => by simp at h
  | _ :: _, [], _, h => by simp at h
  | e :: es, p :: l, i, h => by
    simp only [List.map_cons, List.cons.injEq, Prod.mk.injEq] at h
    have he := T.eq 10000 w k p.1 (Nat.le_refl _)
    simp only [Instr.findAsking, Sem.run_bind, Op.equal, Op.maxDepth, h.1.1, he, Result.andThen_ok, findI]
    by_cases hc : k = p.1
    · simp [hc, h.1.2]
    · simp only [hc, decide_false, Bool.false_eq_true, if_false]
      exact T.asking w k es l (i + 1) h.2
theorem MapT.now' (T : MapT P mt kt et d kv vv) (k : K) : ∀ (es : List MapEntry) (l : List (K × V)) (i : Nat), es.map (fun e => (e.key, e.val)) = l.map (fun p => (kv p.1, vv p.2)) →
    Instr.findNow d (kv k) es i = none ∨ Instr.findNow d (kv k) es i = some ((findI k l i).map fun p => (p.1, vv p.2))
  | [], [], i, _ => by simp [Instr.findNow, findI]
  | [], _ :: _, _, h => by simp at h
  | _ :: _, [], _, h => by simp at h
  | e :: es, p :: l, i, h => by
    simp only [List.map_cons, List.cons.injEq, Prod.mk.injEq] at h
    simp only [Instr.findNow, findI, h.1.1]
    rcases T.now k p.1 with hn | hn
    · left; rw [hn]
    · rw [hn]
      by_cases hc : k = p.1
      · right; simp [hc, h.1.2]
      · simp only [hc, decide_false, if_false]
        exact T.now' k es l (i + 1) h.2
theorem MapT.find (T : MapT P mt kt et d kv vv) (w : World) (k : K) (es : List MapEntry) (l : List (K × V)) (h : es.map (fun e => (e.key, e.val)) = l.map (fun p => (kv p.1, vv p.2))) :
    (Instr.findKey kt (kv k) es).run P w = .ok ((findI k l 0).map fun p => (p.1, vv p.2)) w := by
  unfold Instr.findKey
  simp only [Sem.run_bind, run_underlying T.hk, Result.andThen_ok]
  rcases T.now' k es l 0 h with hn | hn
  · rw [hn]; exact T.asking w k es l 0 h
  · rw [hn]; simp
theorem MapT.lookup (T : MapT P mt kt et d kv vv) {w : World} {r : Nat} {l : List (K × V)} (h : MapAt w r kv vv l) (k : K) (z : Value) (hz : (zeroValue et).run P w = .ok z w) :
    (Instr.lookup mt (.map (some r)) (kv k) true).run P w = .ok (.tuple #[((findI k l 0).map fun p => vv p.2).getD z, .bool (findI k l 0).isSome]) w := by
  obtain ⟨es, clock, hb, he⟩ := h
  have hf := T.find w k es.toList l he
  cases hfi : findI k l 0 with
  | none => simp [Instr.lookup, run_underlying T.hm, MapKept.run_getObj_map hb, T.check, hf, hfi, hz, Result.andThen]
  | some p => simp [Instr.lookup, run_underlying T.hm, MapKept.run_getObj_map hb, T.check, hf, hfi, hz, Result.andThen]
theorem Md_set {w : World} {r : Nat} (o : Obj) : Md [r] w { w with heap := w.heap.setIfInBounds r o } := by
  refine ⟨rfl, rfl, rfl, by simp, fun k hk hm => ?_⟩
  have : k ≠ r := by simpa using hm
  simp [Array.getElem?_setIfInBounds, Ne.symm this]
theorem MapT.add (T : MapT P mt kt et d kv vv) {w : World} {r : Nat} {l : List (K × V)} (h : MapAt w r kv vv l) (k : K) (v : V) (hf : findI k l 0 = none) :
    ∃ w', (Instr.mapUpdate mt (.map (some r)) (kv k) (vv v)).run P w = .ok () w' ∧ MapAt w' r kv vv (l ++ [(k, v)]) ∧ Md [r] w w' := by
  obtain ⟨es, clock, hb, he⟩ := h
  have hf' := T.find w k es.toList l he
  rw [hf] at hf'
  refine ⟨{ w with heap := w.heap.setIfInBounds r (.map (es.push { key := kv k, val := vv v, born := clock }) (clock + 1)) }, ?_, ⟨_, _, (MapKept.heap_set hb).1, ?_⟩, Md_set _⟩
  · simp [Instr.mapUpdate, run_underlying T.hm, MapKept.run_getObj_map hb, T.check, hf', MapKept.run_setObj_map _ hb, Result.andThen]
  · simp [he]
theorem run_len_map {a c kt et : TypeId} (ha : P.underlying a = some (.map kt et)) {w : World} {r : Nat} {l : List (K × V)} (h : MapAt w r kv vv l) : (Builtin.len_ #[a] c #[.map (some r)]).run P w = .ok (.int .i64 l.length) w := by
  obtain ⟨es, clock, hb, he⟩ := h
  have : es.size = l.length := by have := congrArg List.length he; simpa using this
  simp [Builtin.len_, run_underlying ha, MapKept.run_getObj_map hb, this, Result.andThen, goInt]
theorem MapAt.md {w w' : World} {D : List Nat} {r : Nat} {l : List (K × V)} (h : MapAt w r kv vv l) (hm : Md D w w') (hr : r ∉ D) : MapAt w' r kv vv l := by
  obtain ⟨es, clock, hb, he⟩ := h
  exact ⟨es, clock, by rw [hm.blk r (Array.getElem?_eq_some_iff.1 hb).1 hr]; exact hb, he⟩
theorem MapAt.lt {w : World} {r : Nat} {l : List (K × V)} (h : MapAt w r kv vv l) : r < w.heap.size := by
  obtain ⟨es, clock, hb, he⟩ := h
  exact (Array.getElem?_eq_some_iff.1 hb).1
theorem MapAt.new (w : World) (kv : K → Value) (vv : V → Value) : MapAt (w.alloc (.map #[] 0)) w.heap.size kv vv ([] : List (K × V)) :=
  ⟨#[], 0, heap_alloc_new w _, rfl⟩
end

/-! ### Structs of two fields -/
theorem part_cell {P : Program} {w : World} {t : TypeId} {d : TypeDesc} (hu : P.underlying t = some d) (ha : isAggT P t = false) {xs : Array Value} {o : Nat} {v : Value} (h : xs[o]? = some v) : (part t xs o).run P w = .ok v w := by
  simp [part, run_isAgg hu, ha, h]
theorem part_agg {P : Program} {w : World} {t : TypeId} {d : TypeDesc} (hu : P.underlying t = some d) (ha : isAggT P t = true) {n : Nat} (hs : (Go.sizeOf t).run P w = .ok n w) {xs : Array Value} {o : Nat} : (part t xs o).run P w = .ok (.agg (xs.extract o (o + n))) w := by
  simp [part, run_isAgg hu, ha, hs]
def fieldsL (P : Program) (t : TypeId) : List (Bool × TypeId × Nat) := (P.fieldsOf t).toList.map fun f => (decide (f.name = "_"), f.type, f.offset)
theorem two_fields {fs : Array Field} {t1 t2 : TypeId} {o1 o2 : Nat} (hF : fs.toList.map (fun f => (decide (f.name = "_"), f.type, f.offset)) = [(false, t1, o1), (false, t2, o2)]) :
    ∃ f1 f2, fs = #[f1, f2] ∧ f1.name ≠ "_" ∧ f1.type = t1 ∧ f1.offset = o1 ∧ f2.name ≠ "_" ∧ f2.type = t2 ∧ f2.offset = o2 := by
  obtain ⟨l⟩ := fs
  cases l with
  | nil => simp at hF
  | cons f1 l =>
    cases l with
    | nil => simp at hF
    | cons f2 l =>
      cases l with
      | nil =>
        simp only [List.map_cons, List.map_nil, List.cons.injEq, Prod.mk.injEq, decide_eq_false_iff_not, and_true] at hF
        exact ⟨f1, f2, rfl, hF.1.1, hF.1.2.1, hF.1.2.2, hF.2.1, hF.2.2.1, hF.2.2.2⟩
      | cons f3 l => simp at hF
theorem run_struct2 {P : Program} {w : World} {t t1 t2 : TypeId} {o1 o2 : Nat} (ht : P.underlying t = some (.struct (P.fieldsOf t))) (hp : P.stoodInHeld t = false) (hF : fieldsL P t = [(false, t1, o1), (false, t2, o2)]) {d : Nat} {xs ys : Array Value}
    {a1 b1 a2 b2 : Value} {r1 r2 : Bool} (ha1 : (part t1 xs o1).run P w = .ok a1 w) (hb1 : (part t1 ys o1).run P w = .ok b1 w) (he1 : (Op.equalIn d t1 a1 b1).run P w = .ok r1 w)
    (ha2 : (part t2 xs o2).run P w = .ok a2 w) (hb2 : (part t2 ys o2).run P w = .ok b2 w) (he2 : (Op.equalIn d t2 a2 b2).run P w = .ok r2 w) :
    (Op.equalIn (d + 1) t (.agg xs) (.agg ys)).run P w = .ok (r1 && r2) w := by
  rw [run_equalIn_struct w d t xs ys ht hp]
  unfold fieldsL at hF
  generalize P.fieldsOf t = fs at hF ⊢
  obtain ⟨f1, f2, rfl, n1, rfl, rfl, n2, rfl, rfl⟩ := two_fields hF
  · have := run_eqFields_cons (d := d) n1 ha1 hb1 he1 (run_eqFields_cons n2 ha2 hb2 he2 (show (Op.eqFields d xs ys []).run P w = .ok true w by simp [Op.eqFields]))
    simpa using this
/-! ### The keys of classes -/
abbrev keyV (p : Nat × Bool) : Value := .agg #[.int .u8 (p.1 : Int), .bool p.2]
theorem eqKey : EqT Try.prog 276 keyV 2 := by
  intro d w a b hd
  obtain ⟨d, rfl⟩ := Nat.exists_eq_add_of_le' hd
  have h1 := EqT.int (P := Try.prog) (t := 5) (q := .u8) (by kernel_rfl) .u8 (d + 1) w (a.1 : Int) (b.1 : Int) (by omega)
  have h2 := EqT.bool (P := Try.prog) (t := 4) (by kernel_rfl) (d + 1) w a.2 b.2 (by omega)
  have u5 : Try.prog.underlying 5 = some (.int .u8) := by kernel_rfl
  have u4 : Try.prog.underlying 4 = some .bool := by kernel_rfl
  have h := run_struct2 (P := Try.prog) (w := w) (t := 276) (t1 := 5) (t2 := 4) (o1 := 0) (o2 := 1) (d := d + 1) (xs := #[.int .u8 (a.1 : Int), .bool a.2]) (ys := #[.int .u8 (b.1 : Int), .bool b.2]) (by kernel_rfl) (by kernel_rfl) (by kernel_rfl)
    (part_cell u5 (by kernel_rfl) rfl) (part_cell u5 (by kernel_rfl) rfl) h1 (part_cell u4 (by kernel_rfl) rfl) (part_cell u4 (by kernel_rfl) rfl) h2
  refine h.trans ?_
  congr 1
  rw [Bool.eq_iff_iff]
  simp [Prod.ext_iff]
  intro _
  omega
theorem check2 {P : Program} {t t1 t2 : TypeId} {q : IntKind} (u : P.underlying t = some (.struct (P.fieldsOf t))) (hF : fieldsL P t = [(false, t1, 0), (false, t2, 1)]) (u5 : P.underlying t1 = some (.int q)) (u4 : P.underlying t2 = some .bool)
    (em : Bool) (w : World) (k : Nat × Bool) : (Instr.checkKey em (9999 + 1) t (keyV k)).run P w = .ok () w := by
  have p1 : (part t1 #[Value.int .u8 (k.1 : Int), .bool k.2] 0).run P w = .ok (.int .u8 (k.1 : Int)) w := part_cell u5 (by simp [isAggT, u5]) rfl
  have p2 : (part t2 #[Value.int .u8 (k.1 : Int), .bool k.2] 1).run P w = .ok (.bool k.2) w := part_cell u4 (by simp [isAggT, u4]) rfl
  unfold Instr.checkKey
  simp only [Sem.run_bind, run_underlying u, Result.andThen_ok]
  unfold fieldsL at hF
  generalize P.fieldsOf t = fs at hF ⊢
  obtain ⟨f1, f2, rfl, n1, rfl, e1', n2, rfl, e2'⟩ := two_fields hF
  rw [← Array.forIn_toList]
  have c1 : ∀ n, (Instr.checkKey em (n + 1) f1.type (.int .u8 (k.1 : Int))).run P w = .ok () w := fun n => by simp [Instr.checkKey, run_underlying u5, Result.andThen]
  have c2 : ∀ n, (Instr.checkKey em (n + 1) f2.type (.bool k.2)).run P w = .ok () w := fun n => by simp [Instr.checkKey, run_underlying u4, Result.andThen]
  have c1' := c1 9998
  have c2' := c2 9998
  simp [n1, n2, e1', e2', p1, p2, Result.andThen]
  simp only [c1', Result.andThen]
  rw [p2]
  simp only [c2']
theorem sameNow_struct (fs : Array Field) (xs ys : Array Value) : Instr.sameNow (.struct fs) (.agg xs) (.agg ys) = none := rfl
theorem mapKey : MapT Try.prog 274 276 5 (.struct (Try.prog.fieldsOf 276)) keyV (fun x : Nat => .int .u8 (x : Int)) where
  hm := by kernel_rfl
  hk := by kernel_rfl
  eq := fun d w a b hd => eqKey d w a b (by omega)
  now := fun a b => .inl (sameNow_struct _ _ _)
  check := fun em w k => check2 (by kernel_rfl) (by kernel_rfl) (t1 := 5) (t2 := 4) (q := .u8) (by kernel_rfl) (by kernel_rfl) em w k
end Fk

/- Slices: their first elements. -/
set_option linter.unusedVariables false
set_option linter.unusedSimpArgs false
set_option maxRecDepth 100000
namespace Fk
open Go Go.Proofs Go.RowKit
theorem addr_add0 (A : Addr) : A.add 0 = A := by unfold Addr.add; simp
/-- The first ones of a slice. -/
theorem slice_front {P : Program} {t e : TypeId} (ht : P.underlying t = some (.slice e)) (hs : ∀ w, ∃ s, (Go.sizeOf e).run P w = .ok s w) (w : World) (a : Option Addr) (n c m : Nat) (h : m ≤ c) :
    (Instr.sliceAt t (.slice a n c) none (some (.int .i64 (m : Int))) none).run P w = .ok (.slice a m c) w := by
  have he : P.elem t = e := by simp [Program.elem, ht]
  have ht' : P.underlying t = some (.slice (P.elem t)) := by rw [he]; exact ht
  rw [run_sliceAt_slice w t _ _ _ _ ht', run_slice_h w t a n c ht' .i64 m (by omega) (by omega), he]
  obtain ⟨s, hs⟩ := hs w
  rw [hs]
  simp only [Result.andThen, sliced, Int.toNat_natCast, Nat.sub_zero, Nat.zero_mul]
  congr 2
  split
  · rfl
  · cases a with
    | none => rfl
    | some A => simp [addr_add0]
end Fk

