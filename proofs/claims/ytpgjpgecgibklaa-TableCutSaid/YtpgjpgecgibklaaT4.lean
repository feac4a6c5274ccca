/- What is compared, and maps. -/
import Derived.Test.YtpgjpgecgibklaaT2
import Derived.Laws.StructEq
import Derived.MapKept
set_option linter.unusedVariables false
set_option linter.unusedSimpArgs false
set_option linter.unusedSectionVars false
set_option maxRecDepth 100000
namespace Fk
open Go Go.Proofs Go.RowKit
/-- What is compared as what it stands for. -/
def EqT {α : Type} [DecidableEq α] (P : Program) (t : TypeId) (v : α → Value) (n : Nat) : Prop :=
  ∀ (d : Nat) (w : World) (a b : α), n ≤ d → (Op.equalIn d t (v a) (v b)).run P w = .ok (decide (a = b)) w
theorem EqT.int {P : Program} {t : TypeId} {q : IntKind} (hu : P.underlying t = some (.int q)) (k : IntKind) : EqT P t (fun x : Int => .int k x) 1 := by
  intro d w a b hd
  obtain ⟨d, rfl⟩ := Nat.exists_eq_add_of_le' hd
  simp only [Op.equalIn, Sem.run_bind, run_underlying hu, Result.andThen_ok]
  simp [Bool.beq_eq_decide_eq]
theorem EqT.bool {P : Program} {t : TypeId} (hu : P.underlying t = some .bool) : EqT P t (fun x : Bool => .bool x) 1 := by
  intro d w a b hd
  obtain ⟨d, rfl⟩ := Nat.exists_eq_add_of_le' hd
  simp only [Op.equalIn, Sem.run_bind, run_underlying hu, Result.andThen_ok]
  simp [Bool.beq_eq_decide_eq]
/-- Two structs, field by field. -/
theorem run_eqFields_cons {P : Program} {w : World} {d : Nat} {xs ys : Array Value} {f : Field} {fs : List Field} {a b : Value} {r s : Bool} (hn : f.name ≠ "_")
    (ha : (part f.type xs f.offset).run P w = .ok a w) (hb : (part f.type ys f.offset).run P w = .ok b w) (he : (Op.equalIn d f.type a b).run P w = .ok r w)
    (hr : (Op.eqFields d xs ys fs).run P w = .ok s w) : (Op.eqFields d xs ys (f :: fs)).run P w = .ok (r && s) w := by
  simp only [Op.eqFields, hn, ne_eq, not_false_eq_true, if_true, Sem.run_bind, ha, hb, he, Result.andThen_ok]
  cases r <;> simp [hr]
theorem eqS_of {P : Program} {w : World} {t : TypeId} {xs ys : Array Value} {r : Bool} (hg : P.eqGuardType P.depth t = false) (h : (Op.equalIn 10000 t (.agg xs) (.agg ys)).run P w = .ok r w) (o1 o2 : Operand) :
    (eqS .eql t o1 o2 (.agg xs) (.agg ys)).run P w = .ok (.bool r) w ∧ (eqS .neq t o1 o2 (.agg xs) (.agg ys)).run P w = .ok (.bool (!r)) w := by
  constructor
  · unfold eqS eqGuard binOp Op.equal
    simp only [Sem.run_bind]
    simp [hg, h, Op.maxDepth]
  · unfold eqS eqGuard binOp Op.equal
    simp only [Sem.run_bind]
    simp [hg, h, Op.maxDepth]

/-! ### Maps -/
/-- A kind of maps: how keys and values are laid. -/
structure MapT {K V : Type} [DecidableEq K] (P : Program) (mt kt et : TypeId) (d : TypeDesc) (kv : K → Value) (vv : V → Value) : Prop where
  hm : P.underlying mt = some (.map kt et)
  hk : P.underlying kt = some d
  check : ∀ (em : Bool) (w : World) (k : K), (Instr.checkKey em 10000 kt (kv k)).run P w = .ok () w
  eq : EqT P kt kv 10000
  now : ∀ a b, Instr.sameNow d (kv a) (kv b) = none ∨ Instr.sameNow d (kv a) (kv b) = some (decide (a = b))
def findI {K V : Type} [DecidableEq K] (k : K) : List (K × V) → Nat → Option (Nat × V)
  | [], _ => none
  | p :: l, i => if k = p.1 then some (i, p.2) else findI k l (i + 1)
/-- What a map has, the eldest first. -/
def MapAt {K V : Type} (w : World) (r : Nat) (kv : K → Value) (vv : V → Value) (l : List (K × V)) : Prop :=
  ∃ es clock, w.heap[r]? = some (.map es clock) ∧ es.toList.map (fun e => (e.key, e.val)) = l.map (fun p => (kv p.1, vv p.2))
section
variable {K V : Type} [DecidableEq K] {P : Program} {mt kt et : TypeId} {d : TypeDesc} {kv : K → Value} {vv : V → Value}
theorem MapT.asking (T : MapT P mt kt et d kv vv) (w : World) (k : K) : ∀ (es : List MapEntry) (l : List (K × V)) (i : Nat), es.map (fun e => (e.key, e.val)) = l.map (fun p => (kv p.1, vv p.2)) →
    (Instr.findAsking kt (kv k) es i).run P w = .ok ((findI k l i).map fun p => (p.1, vv p.2)) w
  | [], [], i, _ => by simp [Instr.findAsking, findI]
  | [], _ :: _, _, h => by simp at h
  | _ :: _, [], _, h => by simp at h
  | e :: es, p :: l, i, h => by
    simp only [List.map_cons, List.cons.injEq, Prod.mk.injEq] at h
    have he := T.eq 10000 w k p.1 (Nat.le_refl _)
    simp only [Instr.findAsking, Sem.run_bind, Op.equal, Op.maxDepth, h.1.1, he, Result.andThen_ok, findI]
    by_cases hc : k = p.1
    · simp [hc, h.1.2]
    · simp only [hc, decide_false, Bool.false_eq_true, if_false]
      exact T.asking w k es l (i + 1) h.2
theorem MapT.now' (T : MapT P mt kt et d kv vv) (k : K) : ∀ (es : List MapEntry) (l : List (K × V)) (i : Nat), es.map (fun e => (e.key, e.val)) = l.map (fun p => (kv p.1, vv p.2)) →
    Instr.findNow d (kv k) es i = none ∨ Instr.findNow d (kv k) es i = some ((findI k l i).map fun p => (p.1, vv p.2))
  | [], [], i, _ => by simp [Instr.findNow, findI]
  | [], _ :: _, _, h => by simp at h
  | _ :: _, [], _, h => by simp at h
  | e :: es, p :: l, i, h => by
    simp only [List.map_cons, List.cons.injEq, Prod.mk.injEq] at h
    simp only [Instr.findNow, findI, h.1.1]
    rcases T.now k p.1 with hn | hn
    · left; rw [hn]
    · rw [hn]
      by_cases hc : k = p.1
      · right; simp [hc, h.1.2]
      · simp only [hc, decide_false, if_false]
        exact T.now' k es l (i + 1) h.2
theorem MapT.find (T : MapT P mt kt et d kv vv) (w : World) (k : K) (es : List MapEntry) (l : List (K × V)) (h : es.map (fun e => (e.key, e.val)) = l.map (fun p => (kv p.1, vv p.2))) :
    (Instr.findKey kt (kv k) es).run P w = .ok ((findI k l 0).map fun p => (p.1, vv p.2)) w := by
  unfold Instr.findKey
  simp only [Sem.run_bind, run_underlying T.hk, Result.andThen_ok]
  rcases T.now' k es l 0 h with hn | hn
  · rw [hn]; exact T.asking w k es l 0 h
  · rw [hn]; simp
theorem MapT.lookup (T : MapT P mt kt et d kv vv) {w : World} {r : Nat} {l : List (K × V)} (h : MapAt w r kv vv l) (k : K) (z : Value) (hz : (zeroValue et).run P w = .ok z w) :
    (Instr.lookup mt (.map (some r)) (kv k) true).run P w = .ok (.tuple #[((findI k l 0).map fun p => vv p.2).getD z, .bool (findI k l 0).isSome]) w := by
  obtain ⟨es, clock, hb, he⟩ := h
  have hf := T.find w k es.toList l he
  cases hfi : findI k l 0 with
  | none => simp [Instr.lookup, run_underlying T.hm, MapKept.run_getObj_map hb, T.check, hf, hfi, hz, Result.andThen]
  | some p => simp [Instr.lookup, run_underlying T.hm, MapKept.run_getObj_map hb, T.check, hf, hfi, hz, Result.andThen]
theorem Md_set {w : World} {r : Nat} (o : Obj) : Md [r] w { w with heap := w.heap.setIfInBounds r o } := by
  refine ⟨rfl, rfl, rfl, by simp, fun k hk hm => ?_⟩
  have : k ≠ r := by simpa using hm
  simp [Array.getElem?_setIfInBounds, Ne.symm this]
theorem MapT.add (T : MapT P mt kt et d kv vv) {w : World} {r : Nat} {l : List (K × V)} (h : MapAt w r kv vv l) (k : K) (v : V) (hf : findI k l 0 = none) :
    ∃ w', (Instr.mapUpdate mt (.map (some r)) (kv k) (vv v)).run P w = .ok () w' ∧ MapAt w' r kv vv (l ++ [(k, v)]) ∧ Md [r] w w' := by
  obtain ⟨es, clock, hb, he⟩ := h
  have hf' := T.find w k es.toList l he
  rw [hf] at hf'
  refine ⟨{ w with heap := w.heap.setIfInBounds r (.map (es.push { key := kv k, val := vv v, born := clock }) (clock + 1)) }, ?_, ⟨_, _, (MapKept.heap_set hb).1, ?_⟩, Md_set _⟩
  · simp [Instr.mapUpdate, run_underlying T.hm, MapKept.run_getObj_map hb, T.check, hf', MapKept.run_setObj_map _ hb, Result.andThen]
  · simp [he]
theorem run_len_map {a c kt et : TypeId} (ha : P.underlying a = some (.map kt et)) {w : World} {r : Nat} {l : List (K × V)} (h : MapAt w r kv vv l) : (Builtin.len_ #[a] c #[.map (some r)]).run P w = .ok (.int .i64 l.length) w := by
  obtain ⟨es, clock, hb, he⟩ := h
  have : es.size = l.length := by have := congrArg List.length he; simpa using this
  simp [Builtin.len_, run_underlying ha, MapKept.run_getObj_map hb, this, Result.andThen, goInt]
theorem MapAt.md {w w' : World} {D : List Nat} {r : Nat} {l : List (K × V)} (h : MapAt w r kv vv l) (hm : Md D w w') (hr : r ∉ D) : MapAt w' r kv vv l := by
  obtain ⟨es, clock, hb, he⟩ := h
  exact ⟨es, clock, by rw [hm.blk r (Array.getElem?_eq_some_iff.1 hb).1 hr]; exact hb, he⟩
theorem MapAt.lt {w : World} {r : Nat} {l : List (K × V)} (h : MapAt w r kv vv l) : r < w.heap.size := by
  obtain ⟨es, clock, hb, he⟩ := h
  exact (Array.getElem?_eq_some_iff.1 hb).1
theorem MapAt.new (w : World) (kv : K → Value) (vv : V → Value) : MapAt (w.alloc (.map #[] 0)) w.heap.size kv vv ([] : List (K × V)) :=
  ⟨#[], 0, heap_alloc_new w _, rfl⟩
end

/-! ### Structs of two fields -/
theorem part_cell {P : Program} {w : World} {t : TypeId} {d : TypeDesc} (hu : P.underlying t = some d) (ha : isAggT P t = false) {xs : Array Value} {o : Nat} {v : Value} (h : xs[o]? = some v) : (part t xs o).run P w = .ok v w := by
  simp [part, run_isAgg hu, ha, h]
theorem part_agg {P : Program} {w : World} {t : TypeId} {d : TypeDesc} (hu : P.underlying t = some d) (ha : isAggT P t = true) {n : Nat} (hs : (Go.sizeOf t).run P w = .ok n w) {xs : Array Value} {o : Nat} : (part t xs o).run P w = .ok (.agg (xs.extract o (o + n))) w := by
  simp [part, run_isAgg hu, ha, hs]
def fieldsL (P : Program) (t : TypeId) : List (Bool × TypeId × Nat) := (P.fieldsOf t).toList.map fun f => (decide (f.name = "_"), f.type, f.offset)
theorem two_fields {fs : Array Field} {t1 t2 : TypeId} {o1 o2 : Nat} (hF : fs.toList.map (fun f => (decide (f.name = "_"), f.type, f.offset)) = [(false, t1, o1), (false, t2, o2)]) :
    ∃ f1 f2, fs = #[f1, f2] ∧ f1.name ≠ "_" ∧ f1.type = t1 ∧ f1.offset = o1 ∧ f2.name ≠ "_" ∧ f2.type = t2 ∧ f2.offset = o2 := by
  obtain ⟨l⟩ := fs
  cases l with
  | nil => simp at hF
  | cons f1 l =>
    cases l with
    | nil => simp at hF
    | cons f2 l =>
      cases l with
      | nil =>
        simp only [List.map_cons, List.map_nil, List.cons.injEq, Prod.mk.injEq, decide_eq_false_iff_not, and_true] at hF
        exact ⟨f1, f2, rfl, hF.1.1, hF.1.2.1, hF.1.2.2, hF.2.1, hF.2.2.1, hF.2.2.2⟩
      | cons f3 l => simp at hF
theorem run_struct2 {P : Program} {w : World} {t t1 t2 : TypeId} {o1 o2 : Nat} (ht : P.underlying t = some (.struct (P.fieldsOf t))) (hp : P.stoodInHeld t = false) (hF : fieldsL P t = [(false, t1, o1), (false, t2, o2)]) {d : Nat} {xs ys : Array Value}
    {a1 b1 a2 b2 : Value} {r1 r2 : Bool} (ha1 : (part t1 xs o1).run P w = .ok a1 w) (hb1 : (part t1 ys o1).run P w = .ok b1 w) (he1 : (Op.equalIn d t1 a1 b1).run P w = .ok r1 w)
    (ha2 : (part t2 xs o2).run P w = .ok a2 w) (hb2 : (part t2 ys o2).run P w = .ok b2 w) (he2 : (Op.equalIn d t2 a2 b2).run P w = .ok r2 w) :
    (Op.equalIn (d + 1) t (.agg xs) (.agg ys)).run P w = .ok (r1 && r2) w := by
  rw [run_equalIn_struct w d t xs ys ht hp]
  unfold fieldsL at hF
  generalize P.fieldsOf t = fs at hF ⊢
  obtain ⟨f1, f2, rfl, n1, rfl, rfl, n2, rfl, rfl⟩ := two_fields hF
  · have := run_eqFields_cons (d := d) n1 ha1 hb1 he1 (run_eqFields_cons n2 ha2 hb2 he2 (show (Op.eqFields d xs ys []).run P w = .ok true w by simp [Op.eqFields]))
    simpa using this
/-! ### The keys of classes -/
abbrev keyV (p : Nat × Bool) : Value := .agg #[.int .u8 (p.1 : Int), .bool p.2]
theorem eqKey : EqT Try.prog 276 keyV 2 := by
  intro d w a b hd
  obtain ⟨d, rfl⟩ := Nat.exists_eq_add_of_le' hd
  have h1 := EqT.int (P := Try.prog) (t := 5) (q := .u8) (by kernel_rfl) .u8 (d + 1) w (a.1 : Int) (b.1 : Int) (by omega)
  have h2 := EqT.bool (P := Try.prog) (t := 4) (by kernel_rfl) (d + 1) w a.2 b.2 (by omega)
  have u5 : Try.prog.underlying 5 = some (.int .u8) := by kernel_rfl
  have u4 : Try.prog.underlying 4 = some .bool := by kernel_rfl
  have h := run_struct2 (P := Try.prog) (w := w) (t := 276) (t1 := 5) (t2 := 4) (o1 := 0) (o2 := 1) (d := d + 1) (xs := #[.int .u8 (a.1 : Int), .bool a.2]) (ys := #[.int .u8 (b.1 : Int), .bool b.2]) (by kernel_rfl) (by kernel_rfl) (by kernel_rfl)
    (part_cell u5 (by kernel_rfl) rfl) (part_cell u5 (by kernel_rfl) rfl) h1 (part_cell u4 (by kernel_rfl) rfl) (part_cell u4 (by kernel_rfl) rfl) h2
  refine h.trans ?_
  congr 1
  rw [Bool.eq_iff_iff]
  simp [Prod.ext_iff]
  intro _
  omega
theorem check2 {P : Program} {t t1 t2 : TypeId} {q : IntKind} (u : P.underlying t = some (.struct (P.fieldsOf t))) (hF : fieldsL P t = [(false, t1, 0), (false, t2, 1)]) (u5 : P.underlying t1 = some (.int q)) (u4 : P.underlying t2 = some .bool)
    (em : Bool) (w : World) (k : Nat × Bool) : (Instr.checkKey em (9999 + 1) t (keyV k)).run P w = .ok () w := by
  have p1 : (part t1 #[Value.int .u8 (k.1 : Int), .bool k.2] 0).run P w = .ok (.int .u8 (k.1 : Int)) w := part_cell u5 (by simp [isAggT, u5]) rfl
  have p2 : (part t2 #[Value.int .u8 (k.1 : Int), .bool k.2] 1).run P w = .ok (.bool k.2) w := part_cell u4 (by simp [isAggT, u4]) rfl
  unfold Instr.checkKey
  simp only [Sem.run_bind, run_underlying u, Result.andThen_ok]
  unfold fieldsL at hF
  generalize P.fieldsOf t = fs at hF ⊢
  obtain ⟨f1, f2, rfl, n1, rfl, e1', n2, rfl, e2'⟩ := two_fields hF
  rw [← Array.forIn_toList]
  have c1 : ∀ n, (Instr.checkKey em (n + 1) f1.type (.int .u8 (k.1 : Int))).run P w = .ok () w := fun n => by simp [Instr.checkKey, run_underlying u5, Result.andThen]
  have c2 : ∀ n, (Instr.checkKey em (n + 1) f2.type (.bool k.2)).run P w = .ok () w := fun n => by simp [Instr.checkKey, run_underlying u4, Result.andThen]
  have c1' := c1 9998
  have c2' := c2 9998
  simp [n1, n2, e1', e2', p1, p2, Result.andThen]
  simp only [c1', Result.andThen]
  rw [p2]
  simp only [c2']
theorem sameNow_struct (fs : Array Field) (xs ys : Array Value) : Instr.sameNow (.struct fs) (.agg xs) (.agg ys) = none := rfl
theorem mapKey : MapT Try.prog 274 276 5 (.struct (Try.prog.fieldsOf 276)) keyV (fun x : Nat => .int .u8 (x : Int)) where
  hm := by kernel_rfl
  hk := by kernel_rfl
  eq := fun d w a b hd => eqKey d w a b (by omega)
  now := fun a b => .inl (sameNow_struct _ _ _)
  check := fun em w k => check2 (by kernel_rfl) (by kernel_rfl) (t1 := 5) (t2 := 4) (q := .u8) (by kernel_rfl) (by kernel_rfl) em w k
end Fk
