/- A generator of conditions, part 1: one operation. -/
import Derived.Test.YtpgjpgecgibklaaK0
set_option linter.unusedVariables false
set_option linter.unusedSimpArgs false
namespace Fk
open Go Go.RowKit

/-! ### Words -/
/-- The blocks of L are as they were. -/
def Kept (L : List Nat) (w w' : World) : Prop := ∀ b ∈ L, w'.heap[b]? = w.heap[b]?
structure RunW (P : Program) (L : List Nat) (s : Sem Value) (K : Value → World → Prop) (w : World) : Prop where
  out : match s.run P w with | .ok v w' => Kept L w w' ∧ K v w' | .halt _ _ => False
structure RunU (P : Program) (L : List Nat) (s : Sem Unit) (K : World → Prop) (w : World) : Prop where
  out : match s.run P w with | .ok _ w' => Kept L w w' ∧ K w' | .halt _ _ => False
def goodFn (P : Program) (f : FuncId) : Bool := match P.funcs[f]? with | some fn => !(fn.name == "runtime.NumGoroutine") && fn.body.isSome | none => false
/-- A call that comes back; the blocks of L are as they were. -/
def CallW (P : Program) (L : List Nat) (f : FuncId) (args : Array Value) (K : Value → World → Prop) (w : World) : Prop :=
  goodFn P f = true ∧ Calls P f args w fun e w' => match e with | .returned v => Kept L w w' ∧ K v w' | _ => False
def Up (D L : List Nat) (w : World) (K : World → Prop) : Prop := ∀ w', Md D w w' → (∀ b ∈ L, b < w'.heap.size) → K w'
def Rg (w : World) (K : Nat → Prop) : Prop := ∀ b, w.heap.size ≤ b → K b
/-- A new block. -/
def Nw (o : Obj) (w : World) (K : Nat → World → Prop) : Prop := ∀ b w', b = w.heap.size → w' = w.alloc o → K b w'
def Ld (w : World) (A : Addr) (K : Value → Prop) : Prop := match w.cell? A with | some v => K v | none => False
def cellsAt (w : World) (A : Addr) : Nat → Nat → Option (List Value)
  | _, 0 => some []
  | i, n + 1 => match w.cell? (A.add i), cellsAt w A (i + 1) n with | some v, some l => some (v :: l) | _, _ => none
def LdN (w : World) (A : Addr) (n : Nat) (K : List Value → Prop) : Prop := match cellsAt w A 0 n with | some l => K l | none => False
/-- A few cells, one after another. -/
def LdK (w : World) (A : Addr) : Nat → Nat → (List Value → Prop) → Prop
  | _, 0, K => K []
  | i, n + 1, K => Ld w (A.add i) fun v => LdK w A (i + 1) n fun l => K (v :: l)
def LdG (w : World) (A : Addr) (n : Nat) (K : List Value → Prop) : Prop := bif Nat.ble n 16 then LdK w A 0 n K else LdN w A n K
theorem LdK_out {w : World} {A : Addr} : ∀ (n i : Nat) (K : List Value → Prop), LdK w A i n K → ∃ l, cellsAt w A i n = some l ∧ K l
  | 0, i, K, h => ⟨[], rfl, h⟩
  | n + 1, i, K, h => by
    simp only [LdK, Ld] at h
    split at h
    · rename_i v hv
      obtain ⟨l, hl, hk⟩ := LdK_out n (i + 1) _ h
      exact ⟨v :: l, by simp [cellsAt, hv, hl], hk⟩
    · exact h.elim
theorem LdG_out {w : World} {A : Addr} {n : Nat} {K : List Value → Prop} (h : LdG w A n K) : ∃ l, cellsAt w A 0 n = some l ∧ K l := by
  unfold LdG at h
  cases hb : Nat.ble n 16 with
  | true => simp only [hb, cond_true] at h; exact LdK_out _ _ _ h
  | false =>
    simp only [hb, cond_false] at h
    unfold LdN at h
    split at h
    · rename_i l hl; exact ⟨l, hl, h⟩
    · exact h.elim
def setCells (w : World) (A : Addr) : Nat → List Value → World
  | _, [] => w
  | i, v :: l => setCells (w.setCell (A.add i) v) A (i + 1) l
/-- These cells are there, and may be written. -/
def Wr (w : World) (A : Addr) (n : Nat) : Prop := ∀ j, j < n → (∃ u, w.cell? (A.add j) = some u) ∧ w.frozen? (A.add j) = false
def allOne (l : List Value) : Bool := l.all Value.oneCell'
def cL (v : Value) : List Value := v.cells.toList
def okCells (l : List Value) (n : Nat) : Bool := bif Nat.beq l.length n then allOne l else false
def OkC (l : List Value) (n : Nat) (K : Prop) : Prop := bif okCells l n then K else False
def LeC (a b : Nat) (K : Prop) : Prop := bif Nat.ble a b then K else False
/-- A guarded operation: where its guard says no, K has a value that counts for nothing. -/
def Gd {α : Type} (c : Bool) (d : α) (op : (α → World → Prop) → Prop) (K : α → World → Prop) (w : World) : Prop := (c = true → op K) ∧ (c = false → K d w)
def Cn (g : Option Bool) (p A : Prop) : Prop := match g with | none => p ∧ A | some c => (c = true → p) ∧ A
def byteAt (s : ByteArray) (i : Int) : Int := match s.data[i.toNat]? with | some b => (b.toNat : Int) | none => 0
def IxOk (i : Int) (n : Nat) (a : Option Addr) : Prop := 0 ≤ i ∧ i < n ∧ a.isSome = true
def adAt (a : Option Addr) (i : Int) (sz : Nat) : Addr := (a.getD default).add (i.toNat * sz)

/-! ### Facts of types -/
def fieldOff (P : Program) (t : TypeId) (f : Nat) : Option Nat := match P.underlying t with
  | some (.struct fs) => match fs[f]? with
    | some fd => match P.info? fd.type with
      | some i => bif Nat.beq i.size 0 then none else some fd.offset
      | none => none
    | none => none
  | _ => none
def szOf (P : Program) (t : TypeId) : Option Nat := match P.info? t with | some i => some i.size | none => none
def zeroL (P : Program) (t : TypeId) : List Value := match P.info? t with | some i => (match i.zero with | some v => v.cells.toList | none => []) | none => []
def hasZero (P : Program) (t : TypeId) : Bool := match P.info? t with | some i => i.zero.isSome | none => false
def sizeIs (P : Program) (t : TypeId) (n : Nat) : Bool := match P.info? t with | some i => Nat.beq i.size n | none => false

inductive TK where | int | bool | str | other
def tk (P : Program) (t : TypeId) : TK := match P.underlying t with | some (.int _) => .int | some .bool => .bool | some .string => .str | _ => .other
def constNZ : Operand → Bool | .const (.int _ n) => !(decide (n = 0)) | _ => false
def constNN : Operand → Bool | .const (.int _ n) => decide (0 ≤ n) | _ => false
/-- Operations that the kernel can work out. -/
def isT (P : Program) (o : Oper) : Bool := match o.op with
  | .binOp op t x y _ => match op, tk P t with
    | .quo, .int | .rem, .int => constNZ y
    | .shl, .int | .shr, .int => constNN y
    | .add, .str => false
    | _, .int | _, .str => true
    | .eql, .bool | .neq, .bool => true
    | _, _ => false
  | .unOp _ _ _ => true
  | .convert s d _ => match tk P s, tk P d with | .int, .int => true | _, _ => false
  | .extract _ _ => true
  | .makeFunc _ _ _ => true
  | .field _ _ _ => true
  | .call { callee := .builtin .len, argTypes, .. } => match argTypes[0]? with
    | some t => match P.underlying t with | some .string | some (.slice _) | some (.array _ _) => true | _ => false
    | none => false
  | .call { callee := .builtin .min, .. } | .call { callee := .builtin .max, .. } => match tk P o.type with | .int => true | _ => false
  | _ => false

/-! ### The state's small turns -/
def memN (l : List Nat) (d : Nat) : Bool := l.any (Nat.beq d)
def putS (n : Nat) (fw : List Nat) (s : St) (dst : Option Tmp) (tag : Option GKey) (sv : SV) (K : St → Prop) : Prop := match dst with
  | none => K s
  | some d => bif Nat.blt d n then (bif s.gs.all (fun g => !(Nat.beq g.slot d)) then (bif memN fw d then False else K { s with fr := ⟨d, tag, sv⟩ :: s.fr }) else False) else False
def sync (s : St) (w : World) (K : St → World → Prop) : Prop :=
  bif s.chg then Up s.dirty (regIds s.rg) w (fun w' => K { s with dirty := [], chg := false } w') else K s w

theorem findG_mem : ∀ {l : List GEnt} {k : GKey} {r : GEnt}, findG l k = some r → r ∈ l
  | [], _, _, h => by cases h
  | e :: l, k, r, h => by
    simp only [findG] at h
    cases hb : gkEq e.key k with
    | true => simp [hb] at h; subst h; exact List.mem_cons_self
    | false => simp [hb] at h; exact List.mem_cons_of_mem _ (findG_mem h)
theorem Rel.put {n : Nat} {s : St} {w : World} {a : Act} {cw : World} (h : Rel n s w a cw) {d : Nat} {tag : Option GKey} {sv : SV} {x : Value} {c : Bool}
    (hd : d < n) (hgs : s.gs.all (fun g => !(Nat.beq g.slot d)) = true) (ht : tagCond s.gs tag = some c) (hx : c = true → svVal s.rg sv x) (hu : c = false → x = undef) :
    Rel n { s with fr := ⟨d, tag, sv⟩ :: s.fr } w (a.put (some d) x) cw := by
  refine ⟨h.dfr, by simpa [Act.put] using h.sz, ?_, h.anc, h.gbase, ?_, h.reg, h.dis, h.wfr, h.wfg, h.wor, h.syn⟩
  case refine_2 =>
    intro k g hg
    have hm := findG_mem hg
    have hs := List.all_eq_true.1 hgs g hm
    have hne : d ≠ g.slot := fun e => by subst e; simp at hs
    have : (a.put (some d) x).tmps[g.slot]? = a.tmps[g.slot]? := by simp [Act.put, Array.getElem?_setIfInBounds_ne hne]
    rw [this]
    exact h.gslot k g hg
  intro t e he
  simp only [findE] at he
  have hsz : d < a.tmps.size := by rw [h.sz]; exact hd
  cases hb : Nat.beq d t with
  | true =>
    have := Nat.eq_of_beq_eq_true hb
    subst this
    simp only [hb, cond_true, Option.some.injEq] at he
    subst he
    refine ⟨c, ht, hd, fun hc => ⟨x, hx hc, ?_⟩, fun hc => ?_⟩
    · simp [Act.put, hsz]
    · simp [Act.put, hsz, hu hc]
  | false =>
    simp only [hb, cond_false] at he
    have hne : d ≠ t := fun e => by subst e; simp at hb
    obtain ⟨c', h1, h2, h3, h4⟩ := h.ent t e he
    have : (a.put (some d) x).tmps[t]? = a.tmps[t]? := by simp [Act.put, Array.getElem?_setIfInBounds_ne hne]
    rw [this]
    exact ⟨c', h1, h2, h3, h4⟩
theorem Rel.world {n : Nat} {s : St} {w : World} {a : Act} {cw : World} (h : Rel n s w a cw) {cw' : World}
    (hr : ∀ k r, findR s.rg k = some r → cw'.heap[r.blk]? = cw.heap[r.blk]?) : Rel n { s with dirty := [], chg := false } cw' a cw' :=
  ⟨h.dfr, h.sz, h.ent, h.anc, h.gbase, h.gslot, fun k r hk => (hr k r hk).trans (h.reg k r hk), h.dis, h.wfr, h.wfg, Md.refl _ _, fun _ => rfl⟩
theorem findR_mem : ∀ {l : List Reg} {k : Nat} {r : Reg}, findR l k = some r → r ∈ l
  | [], _, _, h => by cases h
  | e :: l, k, r, h => by
    simp only [findR] at h
    cases hb : Nat.beq e.key k with
    | true => simp [hb] at h; subst h; exact List.mem_cons_self
    | false => simp [hb] at h; exact List.mem_cons_of_mem _ (findR_mem h)
theorem findR_of_mem : ∀ {l : List Reg} {r : Reg}, nodupR l = true → r ∈ l → findR l r.key = some r
  | [], _, _, h => by cases h
  | e :: l, r, hn, h => by
    simp only [nodupR] at hn
    simp only [findR]
    cases h with
    | head => simp
    | tail _ h =>
      cases hf : findR l e.key with
      | some _ => simp [hf] at hn
      | none =>
        simp only [hf] at hn
        have ih := findR_of_mem hn h
        cases hb : Nat.beq e.key r.key with
        | true => rw [Nat.eq_of_beq_eq_true hb, ih] at hf; cases hf
        | false => simpa using ih
/-- What may not turn has not turned. -/
structure Ag (fw : List Nat) (fs : Nat → Bool) (s s' : St) : Prop where
  fr : ∀ t ∈ fw, ∀ e, findE s.fr t = some e → e.tag = none → findE s'.fr t = some e
  rg : ∀ k, fs k = true → findR s'.rg k = findR s.rg k
  bk : ∀ k r, findR s.rg k = some r → ∃ r', findR s'.rg k = some r' ∧ r'.blk = r.blk ∧ r'.ty = r.ty ∧ r'.big = r.big
theorem Ag.refl (fw : List Nat) (fs : Nat → Bool) (s : St) : Ag fw fs s s := ⟨fun _ _ _ h _ => h, fun _ _ => rfl, fun _ r h => ⟨r, h, rfl, rfl, rfl⟩⟩
theorem Ag.trans {fw : List Nat} {fs : Nat → Bool} {a b c : St} (h : Ag fw fs a b) (k : Ag fw fs b c) : Ag fw fs a c :=
  ⟨fun t ht e he hn => k.fr t ht e (h.fr t ht e he hn) hn, fun q hq => (k.rg q hq).trans (h.rg q hq),
    fun q r hr => by
      obtain ⟨r1, h1, e1, e2, e3⟩ := h.bk q r hr
      obtain ⟨r2, h2, f1, f2, f3⟩ := k.bk q r1 h1
      exact ⟨r2, h2, f1.trans e1, f2.trans e2, f3.trans e3⟩⟩
theorem Ag.same {fw : List Nat} {fs : Nat → Bool} {a b : St} (h1 : b.fr = a.fr) (h2 : b.rg = a.rg) : Ag fw fs a b := ⟨fun t _ e he _ => by rw [h1]; exact he, fun _ _ => by rw [h2], fun _ r hr => ⟨r, by rw [h2]; exact hr, rfl, rfl, rfl⟩⟩
theorem Ag.put {fw : List Nat} {fs : Nat → Bool} {s : St} {d : Nat} {tag : Option GKey} {sv : SV} (h : memN fw d = false) : Ag fw fs s { s with fr := ⟨d, tag, sv⟩ :: s.fr } := by
  refine ⟨fun t ht e he _ => ?_, fun _ _ => rfl, fun _ r h => ⟨r, h, rfl, rfl, rfl⟩⟩
  have hne : Nat.beq d t = false := by
    cases hb : Nat.beq d t with
    | false => rfl
    | true =>
      exfalso
      have : memN fw d = true := List.any_eq_true.2 ⟨t, ht, hb⟩
      rw [h] at this; cases this
  simp [findE, hne, he]
theorem sync_sound {n : Nat} {s : St} {w : World} {a : Act} {cw : World} (h : Rel n s w a cw) {K : St → World → Prop} (hk : sync s w K) :
    ∃ s', Rel n s' cw a cw ∧ K s' cw ∧ s'.fr = s.fr ∧ s'.gs = s.gs ∧ s'.rg = s.rg := by
  unfold sync at hk
  cases hc : s.chg with
  | true =>
    simp only [hc, cond_true] at hk
    refine ⟨_, h.world (fun _ _ _ => rfl), hk cw h.wor ?_, rfl, rfl, rfl⟩
    intro b hb
    simp only [regIds, List.mem_map] at hb
    obtain ⟨r, hr, rfl⟩ := hb
    exact (Array.getElem?_eq_some_iff.1 (h.reg r.key r (findR_of_mem h.wfr hr))).1
  | false =>
    simp only [hc, cond_false] at hk
    have := h.syn hc
    subst this
    exact ⟨s, h, hk, rfl, rfl, rfl⟩

/-! ### Runs -/
theorem cellsAt_run {P : Program} {w : World} {A : Addr} : ∀ (n i : Nat) (l : List Value) (acc : Array Value), cellsAt w A i n = some l →
    (loadCellsFrom A i n acc).run P w = .ok (acc ++ l.toArray) w
  | 0, i, l, acc, h => by simp [cellsAt] at h; subst h; simp [loadCellsFrom]
  | n + 1, i, l, acc, h => by
    simp only [cellsAt] at h
    split at h
    · rename_i v l' hv hl'
      simp only [Option.some.injEq] at h
      subst h
      simp only [loadCellsFrom, load, Sem.run_bind]
      have : (Sem.load Mode.plain (A.add i) Sem.pure).run P w = .ok v w := by simp [Sem.run, hv]
      rw [this]
      simp only [Result.andThen_ok]
      rw [cellsAt_run n (i + 1) l' (acc.push v) hl']
      simp
    · cases h
theorem cellsAt_length {w : World} {A : Addr} : ∀ (n i : Nat) (l : List Value), cellsAt w A i n = some l → l.length = n
  | 0, i, l, h => by simp [cellsAt] at h; subst h; rfl
  | n + 1, i, l, h => by
    simp only [cellsAt] at h
    split at h
    · rename_i v l' hv hl'
      simp only [Option.some.injEq] at h
      subst h
      simp [cellsAt_length n (i + 1) l' hl']
    · cases h
theorem cellsAt_get {w : World} {A : Addr} : ∀ (n i : Nat) (l : List Value), (∀ j, j < n → w.cell? (A.add (i + j)) = l[j]?) → l.length = n → cellsAt w A i n = some l
  | 0, i, l, h, hl => by simp at hl; subst hl; rfl
  | n + 1, i, [], h, hl => by cases hl
  | n + 1, i, v :: l, h, hl => by
    have h0 := h 0 (by omega)
    have ih := cellsAt_get n (i + 1) l (fun j hj => by have := h (j + 1) (by omega); rw [show i + 1 + j = i + (j + 1) by omega, this]; rfl) (by simpa using hl)
    simp only [Nat.add_zero, List.getElem?_cons_zero] at h0
    simp [cellsAt, h0, ih]
theorem run_isAgg {P : Program} {t : TypeId} {w : World} {d : TypeDesc} (h : P.underlying t = some d) : (isAgg t).run P w = .ok (isAggT P t) w := by
  unfold isAgg isAggT
  simp only [Sem.run_bind, run_underlying h, Result.andThen_ok, h]
  cases d <;> rfl
theorem run_size {P : Program} {t : TypeId} {w : World} {n : Nat} (h : szOf P t = some n) : (Go.sizeOf t).run P w = .ok n w := by
  unfold szOf at h
  cases hi : P.info? t with
  | none => simp [hi] at h
  | some i =>
    simp [hi] at h
    subst h
    simp [Go.sizeOf, typeInfo, hi]
/-- A variable is read out of memory. -/
def LdV (P : Program) (t : TypeId) (w : World) (A : Addr) (K : Value → Prop) : Prop := match P.underlying t with
  | some _ => match isAggT P t with
    | true => match szOf P t with | some n => LdG w A n fun l => K (.agg l.toArray) | none => False
    | false => Ld w A K
  | none => False
theorem LdV_sound {P : Program} {t : TypeId} {w : World} {A : Addr} {K : Value → Prop} (h : LdV P t w A K) : ∃ v, (loadVar t A).run P w = .ok v w ∧ K v := by
  unfold LdV at h
  split at h
  · rename_i d hd
    split at h
    · rename_i ha
      split at h
      · rename_i n hn
        obtain ⟨l, hl, h⟩ := LdG_out h
        refine ⟨_, ?_, h⟩
        have := cellsAt_run (P := P) n 0 l #[] hl
        simp only [loadVar, Sem.run_bind, run_isAgg hd, Result.andThen_ok, ha, if_true, run_size hn, loadCells, this]
        simp
      · exact h.elim
    · rename_i ha
      unfold Ld at h
      split at h
      · rename_i v hv
        refine ⟨v, ?_, h⟩
        simp only [loadVar, Sem.run_bind, run_isAgg hd, Result.andThen_ok, ha]
        simp [load, Sem.run, hv]
      · exact h.elim
  · exact h.elim
theorem setCells_frame {A : Addr} : ∀ (l : List Value) (i : Nat) (w : World) (B : Addr), (∃ u, w.cell? B = some u) → (∃ u, (setCells w A i l).cell? B = some u)
  | [], _, _, _, h => h
  | v :: l, i, w, B, h => by
    obtain ⟨u, hu⟩ := h
    exact setCells_frame l (i + 1) _ B (cell?_setCell_some (w := w) (p := A.add i) (x := v) (q := B) (v := u) hu)
theorem add_block (A : Addr) (i : Nat) : (A.add i).block = A.block := by
  unfold Addr.add
  split <;> rfl
theorem setCells_heap {A : Addr} : ∀ (l : List Value) (i : Nat) (w : World) (b : Nat), b ≠ A.block → (setCells w A i l).heap[b]? = w.heap[b]? := by
  intro l
  induction l with
  | nil => intro i w b _; rfl
  | cons v l ih =>
    intro i w b h
    simp only [setCells]
    rw [ih (i + 1) _ b h]
    exact Below.heap_setCell w (A.add i) v b (by rw [add_block]; exact h)
theorem frozen_setCell (w : World) (A B : Addr) (v : Value) : (w.setCell A v).frozen? B = w.frozen? B := by
  unfold World.frozen? World.setCell
  simp only [Array.getElem?_modify]
  by_cases h : A.block = B.block
  · rw [if_pos h]
    cases hb : w.heap[B.block]? with
    | none => simp
    | some o => cases o <;> simp
  · rw [if_neg h]
theorem storeCells_run {P : Program} {A : Addr} : ∀ (l : List Value) (i : Nat) (w : World), allOne l = true →
    (∀ j, j < l.length → (∃ u, w.cell? (A.add (i + j)) = some u) ∧ w.frozen? (A.add (i + j)) = false) →
    (storeCells A l i).run P w = .ok () (setCells w A i l)
  | [], i, w, _, _ => by simp [storeCells, setCells]
  | v :: l, i, w, h1, h2 => by
    have hv : v.oneCell' = true := by simp [allOne] at h1; exact h1.1
    have hl : allOne l = true := by simp [allOne] at h1 ⊢; exact h1.2
    obtain ⟨⟨u, hu⟩, hf⟩ := h2 0 (by simp)
    simp only [Nat.add_zero] at hu hf
    simp only [storeCells, Sem.run_bind]
    have : (store (A.add i) v).run P w = .ok () (w.setCell (A.add i) v) := by
      unfold store
      cases v <;> simp [Value.oneCell'] at hv <;> simp [Sem.run, hu, hf]
    rw [this]
    simp only [Result.andThen_ok, setCells]
    exact storeCells_run l (i + 1) _ hl fun j hj => by
      obtain ⟨⟨u', hu'⟩, hf'⟩ := h2 (j + 1) (by simp; omega)
      rw [show i + 1 + j = i + (j + 1) by omega]
      refine ⟨cell?_setCell_some (w := w) (p := A.add i) (x := v) hu', ?_⟩
      rw [frozen_setCell]; exact hf'
/-- A variable is written. -/
def StV (P : Program) (L : List Nat) (t : TypeId) (w : World) (A : Addr) (l : List Value) (K : World → Prop) : Prop := match szOf P t with
  | some n => OkC l n (A.block ∉ L ∧ Wr w A n ∧ K (setCells w A 0 l))
  | none => False
theorem StV_sound {P : Program} {t : TypeId} {w : World} {A : Addr} {v : Value} {K : World → Prop} {L : List Nat} (h : StV P L t w A (cL v) K) :
    ∃ w', (storeVar t A v).run P w = .ok () w' ∧ Kept L w w' ∧ K w' := by
  unfold StV at h
  split at h
  · rename_i n hn
    unfold OkC at h
    cases ho : okCells (cL v) n with
    | false => simp [ho] at h
    | true =>
      simp only [ho, cond_true] at h
      obtain ⟨hL, hw, hk⟩ := h
      unfold okCells at ho
      cases hb : Nat.beq (cL v).length n with
      | false => simp [hb] at ho
      | true =>
        simp only [hb, cond_true] at ho
        have hlen := Nat.eq_of_beq_eq_true hb
        refine ⟨_, ?_, fun b hb => setCells_heap _ _ _ _ (fun e => hL (e ▸ hb)), hk⟩
        have hsz : v.cells.size = n := by simpa [cL] using hlen
        simp only [storeVar, Sem.run_bind, run_size hn, Result.andThen_ok, hsz]
        have hr := storeCells_run (P := P) (A := A) (cL v) 0 w ho (fun j hj => by simpa using hw j (by omega))
        have hl : v.cells.toList = cL v := rfl
        rw [hl]
        simpa using hr
  · exact h.elim
end Fk
