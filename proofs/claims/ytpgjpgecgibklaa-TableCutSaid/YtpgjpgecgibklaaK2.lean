/- A generator of conditions, part 2: operations that turn no memory. -/
import Derived.Test.YtpgjpgecgibklaaK1
import Derived.Laws.Tables
set_option linter.unusedVariables false
set_option linter.unusedSimpArgs false
namespace Fk
open Go Go.RowKit

def nthV (l : List Value) (o : Nat) : Option Value := l[o]?
def rdI (l : List Value) (o : Nat) : Int := match l[o]? with | some (.int _ x) => x | _ => 0
def isI (k : IntKind) (l : List Value) (o : Nat) : Prop := ∃ x, l[o]? = some (.int k x)
def pm (ρ : Operand → Value) (ps : Array (Nat × Operand)) : List (Nat × Value) := ps.toList.map fun p => (p.1, ρ p.2)
/-- A small type's cells. -/
def smallT (P : Program) (t : TypeId) : Bool := match shOf P t with | .big _ => false | _ => true
def findGS : List GEnt → Nat → Option GEnt
  | [], _ => none
  | e :: l, t => bif Nat.beq e.slot t then some e else findGS l t
def scI (P : Program) (t : TypeId) : Option IntKind := match P.underlying t with | some (.int k) => some k | _ => none
def arrOf (P : Program) (t : TypeId) : Option (Nat × Nat) := match P.underlying t with
  | some (.array n e) => match szOf P e with | some sz => some (n, sz) | none => none
  | _ => none
def sliceSz (P : Program) (t : TypeId) : Option Nat := match P.underlying t with
  | some (.slice e) => szOf P e
  | _ => none
def isStrT (P : Program) (t : TypeId) : Bool := match P.underlying t with | some .string => true | _ => false
/-- A cell that is read where its guard says so: what it is stands behind 'there is'. -/
def gCell (P : Program) (t : TypeId) (l : List Value) (o : Nat) (g : Option Bool) (K : SV → Prop) : Prop := match csOf P t with
  | .l => ∃ a n c, Cn g (nthV l o = some (.slice a n c)) (K (.v (.slice a n c)))
  | .s => ∃ s, Cn g (nthV l o = some (.string s)) (K (.v (.string s)))
  | .b => ∃ b, Cn g (nthV l o = some (.bool b)) (K (.v (.bool b)))
  | .p => ∃ a, Cn g (nthV l o = some (.pointer a)) (K (.v (.pointer a)))
  | _ => False
/-- A register's part is read. -/
def regLd (P : Program) (t : TypeId) (r : Reg) (o : Nat) (g : Option Bool) (K : SV → Prop) : Prop :=
  match P.underlying t with
  | none => False
  | some _ => match r.big with
    | false => match isAggT P t with
      | true => match szOf P t with
        | some n => bif Nat.ble (o + n) r.cells.length then K (.v (.agg ((r.cells.drop o).take n).toArray)) else False
        | none => False
      | false => BdO (nthV r.cells o) fun v => opS (shpOf P t) v fun v => K (.v v)
    | true => match isAggT P t with
      | true => match szOf P t with
        | some n => bif (bif Nat.beq r.ty t then Nat.beq o 0 else false) then Cn g (r.cells.length = n) (K (.v (.agg r.cells.toArray)))
          else Cn g (o + n ≤ r.cells.length) (Bd ((r.cells.drop o).take n).toArray fun cs => match g with
            | none => opS (shpOf P t) (.agg cs) fun v => K (.v v)
            | some _ => K (.v (.agg cs)))
        | none => False
      | false => match g with
        | none => BdO (nthV r.cells o) fun v => opS (shpOf P t) v fun v => K (.v v)
        | some _ => match scI P t with
          | some k => Cn g (isI k r.cells o) (Bd (rdI r.cells o) fun x => K (.v (.int k x)))
          | none => gCell P t r.cells o g K
def fieldTy (P : Program) (t : TypeId) (f : Nat) : Option (TypeId × Nat) := match P.underlying t with
  | some (.struct fs) => match fs[f]? with | some fd => some (fd.type, fd.offset) | none => none
  | _ => none
/-- A field of a great value. -/
def fieldW (P : Program) (s : St) (γ : List GKey) (g : Option Bool) (t : TypeId) (x : Operand) (f : Nat) (K : SV → Prop) (N : Prop) : Prop := bif smallT P t then N else
  match evV s γ x, fieldTy P t f with
  | some (.agg cs), some (ft, off) => match scI P ft with
    | some k => Cn g (isI k cs.toList off) (Bd (rdI cs.toList off) fun x => K (.v (.int k x)))
    | none => False
  | _, _ => False
def pickW (s : St) (γ : List GKey) (c a b : Operand) (K : SV → Prop) : Prop := match c with
  | .tmp t => match findGS s.gs t with
    | some g => bif g.anc.all (fun k => γ.any (gkEq k)) then
        (match evV s (bif g.key.2 then g.key :: γ else γ) a, evV s (bif g.key.2 then γ else g.key :: γ) b with
          | some (.bool x), some (.bool y) => Bd (bif g.b then x else y) fun z => K (.v (.bool z))
          | _, _ => False)
        else False
    | none => match evV s γ c, evV s γ a, evV s γ b with
      | some (.bool t), some (.bool x), some (.bool y) => Bd (bif t then x else y) fun z => K (.v (.bool z))
      | _, _, _ => False
  | _ => False
/-- The shape of what an operation that turns no memory gives. -/
def outS (P : Program) (o : Oper) : Shp := match o.op with
  | .binOp .eql _ _ _ _ | .binOp .neq _ _ _ _ | .binOp .lss _ _ _ _ | .binOp .leq _ _ _ _ | .binOp .gtr _ _ _ _ | .binOp .geq _ _ _ _ => .one (.one .b)
  | _ => shpOf P o.type
def cmT (P : Program) (n : Nat) (o : Oper) (s : St) (γ : List GKey) (K : SV → Prop) : Prop :=
  bif kn s γ o.op.operands.toList then
    (match pureEval P (execOp (rho s γ) o) with
      | some (.value v) => opS (outS P o) v fun v => K (.v v)
      | _ => False)
  else False
/-- Operations that turn no memory: this says what follows; 'N' is left to others. -/
def opCore (P : Program) (fz : Nat → Bool) (s : St) (γ : List GKey) (g : Option Bool) (o : Oper) (K : SV → Prop) (N : Prop) : Prop := match o.op with
  | .move x | .assign x => match evS s γ x with | some sv => K sv | none => False
  | .pick c a b => pickW s γ c a b K
  | .fieldAddr t x f => match fieldOff P t f, evS s γ x with
    | some off, some (.p k o') => K (.p k (o' + off))
    | some off, some (.v (.pointer (some A))) => K (.v (.pointer (some (A.add off))))
    | _, _ => False
  | .indexAddr t x i => match evV s γ i with
    | some (.int ik iv) => match evS s γ x, arrOf P t, sliceSz P t with
      | some (.p k o'), some (n, sz), _ => match constNN i with
        | true => bif decide (iv < n) then K (.p k (o' + iv.toNat * sz)) else False
        | false => Cn g (0 ≤ iv ∧ iv < n) (K (.p k (o' + iv.toNat * sz)))
      | some (.v (.pointer (some A))), some (n, sz), _ => Cn g (0 ≤ iv ∧ iv < n) (K (.v (.pointer (some (A.add (iv.toNat * sz))))))
      | some (.v (.slice a n _)), none, some sz => Cn g (IxOk iv n a) (K (.v (.pointer (some (adAt a iv sz)))))
      | _, _, _ => False
    | _ => False
  | .nilCheck x => match evS s γ x with
    | some (.p k o') => K (.p k o')
    | some (.v (.pointer a)) => match g with
      | none => NN a fun ad => K (.v (.pointer (some ad)))
      | some c => (c = true → a.isSome = true) ∧ Bd (a.getD default) fun ad => K (.v (.pointer (some ad)))
    | some (.v (.func (.func f) x y)) => K (.v (.func (.func f) x y))
    | _ => False
  | .load t x => match evS s γ x with
    | some (.p k o') => bif fz k then (match findR s.rg k with | some r => regLd P t r o' g K | none => False) else N
    | _ => N
  | .index t x i => match evV s γ x, evV s γ i, isStrT P t with
    | some (.string s), some (.int _ iv), true => Cn g (0 ≤ iv ∧ iv < s.size) (Bd (byteAt s iv) fun b => K (.v (.int .u8 b)))
    | _, _, _ => N
  | .build t ps => bif smallT P t then (bif kn s γ o.op.operands.toList then
      (match P.built t (pm (rho s γ) ps) with | some cs => K (.v (.agg cs)) | none => False) else False) else N
  | .field t x f => fieldW P s γ g t x f K (cmT P 0 o s γ K)
  | .binOp .quo t x y _ => match scI P t, constNZ y with
    | some _, true => cmT P 0 o s γ K
    | some k, false => match evV s γ x, evV s γ y with
      | some (.int k1 a), some (.int k2 b) => bif decide (k1 = k2) then Cn g (b ≠ 0) (Bd (k1.wrap (a.tdiv b)) fun r => K (.v (.int k1 r))) else False
      | _, _ => False
    | none, _ => N
  | .binOp .rem t x y _ => match scI P t, constNZ y with
    | some _, true => cmT P 0 o s γ K
    | some k, false => match evV s γ x, evV s γ y with
      | some (.int k1 a), some (.int k2 b) => bif decide (k1 = k2) then Cn g (b ≠ 0) (Bd (a.tmod b) fun r => K (.v (.int k1 r))) else False
      | _, _ => False
    | none, _ => N
  | .binOp .shl t x y _ => match constNN y with
    | true => cmT P 0 o s γ K
    | false => match evV s γ x, evV s γ y with
      | some (.int k1 a), some (.int k2 b) => Cn g (0 ≤ b) (Bd (k1.wrap (a * 2 ^ (min b.toNat k1.bits))) fun r => K (.v (.int k1 r)))
      | _, _ => False
  | .binOp .shr t x y _ => match constNN y with
    | true => cmT P 0 o s γ K
    | false => match evV s γ x, evV s γ y with
      | some (.int k1 a), some (.int k2 b) => Cn g (0 ≤ b) (Bd (a.fdiv (2 ^ (min b.toNat k1.bits))) fun r => K (.v (.int k1 r)))
      | _, _ => False
  | _ => bif isT P o then cmT P 0 o s γ K else N

/-- What an operation comes to, in whatever world has the registers that may be read. -/
def Gives (P : Program) (fz : Nat → Bool) (s : St) (γ : List GKey) (g : Option Bool) (o : Oper) (a : Act) (sv : SV) : Prop :=
  Ctx s.gs γ → (g ≠ some false) → ∃ x, svVal s.rg sv x ∧ ∀ cw' : World, (∀ k r, fz k = true → findR s.rg k = some r → cw'.heap[r.blk]? = some (.cells r.cells.toArray r.ty (0, 0))) →
    (execOp a.eval o).run P cw' = .ok (.value x) cw'

theorem Cn_out {g : Option Bool} {p A : Prop} (h : Cn g p A) : A ∧ (g ≠ some false → p) := by
  unfold Cn at h
  split at h
  · exact ⟨h.2, fun _ => h.1⟩
  · rename_i c
    refine ⟨h.2, fun hg => h.1 ?_⟩
    cases c
    · exact absurd rfl hg
    · rfl
theorem operands_eq {o : Oper} {s : St} {γ : List GKey} {n : Nat} {w cw : World} {a : Act} (h : Rel n s w a cw) (hc : Ctx s.gs γ)
    (hs : ∀ cs b, o.op ≠ .select cs b) (hk : kn s γ o.op.operands.toList = true) : execOp a.eval o = execOp (rho s γ) o :=
  execOp_congr o hs fun x hx => (h.rho hc _ hk x (by simpa using hx)).symm
theorem cmT_sound {P : Program} {fz : Nat → Bool} {n : Nat} {s : St} {w cw : World} {a : Act} (h : Rel n s w a cw) {γ : List GKey} {g : Option Bool} {o : Oper} {K : SV → Prop}
    (hs : ∀ cs b, o.op ≠ .select cs b) {m : Nat} (hop : cmT P m o s γ K) : ∃ sv, K sv ∧ Gives P fz s γ g o a sv := by
  unfold cmT at hop
  cases hk : kn s γ o.op.operands.toList with
  | false => simp [hk] at hop
  | true =>
    simp only [hk, cond_true] at hop
    split at hop
    · rename_i v hv
      refine ⟨_, opS_sound hop, fun hc _ => ⟨v, rfl, fun cw' _ => ?_⟩⟩
      rw [operands_eq h hc hs hk]
      exact pureEval_run hv cw'
    · exact hop.elim
theorem regLd_sound {P : Program} {t : TypeId} {r : Reg} {o : Nat} {g : Option Bool} {K : SV → Prop} (h : regLd P t r o g K) :
    ∃ v, K (.v v) ∧ (g ≠ some false → ∀ cw' : World, cw'.heap[r.blk]? = some (.cells r.cells.toArray r.ty (0, 0)) → (loadVar t ⟨r.blk, o, none⟩).run P cw' = .ok v cw') := by
  have hcell : ∀ (cw' : World) (j : Nat), cw'.heap[r.blk]? = some (.cells r.cells.toArray r.ty (0, 0)) → cw'.cell? ((⟨r.blk, o, none⟩ : Addr).add j) = r.cells[o + j]? := by
    intro cw' j hb
    have e : ((⟨r.blk, o, none⟩ : Addr).add j) = ⟨r.blk, o + j, none⟩ := by
      unfold Addr.add
      split
      · rename_i h0; simp [h0]
      · rfl
    rw [e]
    simp [World.cell?, hb]
  have hagg : ∀ (d : TypeDesc) (n : Nat), P.underlying t = some d → isAggT P t = true → szOf P t = some n → o + n ≤ r.cells.length → ∀ cw' : World, cw'.heap[r.blk]? = some (.cells r.cells.toArray r.ty (0, 0)) →
      (loadVar t ⟨r.blk, o, none⟩).run P cw' = .ok (.agg ((r.cells.drop o).take n).toArray) cw' := by
    intro d n hd ha hn hlen cw' hb
    have hc : cellsAt cw' ⟨r.blk, o, none⟩ 0 n = some ((r.cells.drop o).take n) := by
      refine cellsAt_get n 0 _ (fun j hj => ?_) (by simp; omega)
      rw [hcell cw' _ hb]
      simp [List.getElem?_take, hj]
    have := cellsAt_run (P := P) n 0 _ #[] hc
    simp only [loadVar, Sem.run_bind, run_isAgg hd, Result.andThen_ok, ha, if_true, run_size hn, loadCells, this]
    simp
  have hone : ∀ (d : TypeDesc) (v : Value), P.underlying t = some d → isAggT P t = false → r.cells[o]? = some v → ∀ cw' : World, cw'.heap[r.blk]? = some (.cells r.cells.toArray r.ty (0, 0)) →
      (loadVar t ⟨r.blk, o, none⟩).run P cw' = .ok v cw' := by
    intro d v hd ha hv cw' hb
    have hc := hcell cw' 0 hb
    have e : ((⟨r.blk, o, none⟩ : Addr).add 0) = ⟨r.blk, o, none⟩ := rfl
    rw [e, Nat.add_zero, hv] at hc
    simp only [loadVar, Sem.run_bind, run_isAgg hd, Result.andThen_ok, ha]
    simp [load, Sem.run, hc]
  unfold regLd at h
  split at h
  · exact h.elim
  rename_i d hd
  split at h
  · split at h
    · rename_i ha
      split at h
      · rename_i n hn
        cases hb : Nat.ble (o + n) r.cells.length with
        | false => simp [hb] at h
        | true =>
          simp only [hb, cond_true] at h
          exact ⟨_, h, fun _ => hagg d n hd ha hn (Nat.le_of_ble_eq_true hb)⟩
      · exact h.elim
    · rename_i ha
      unfold BdO at h
      split at h
      · rename_i v hv
        exact ⟨v, opS_sound h, fun _ => hone d v hd ha hv⟩
      · exact h.elim
  · split at h
    · rename_i ha
      split at h
      · rename_i n hn
        cases hw : (bif Nat.beq r.ty t then Nat.beq o 0 else false) with
        | true =>
          simp only [hw, cond_true] at h
          have ho0 : o = 0 := by
            cases hb : Nat.beq r.ty t with
            | false => simp [hb] at hw
            | true => exact Nat.eq_of_beq_eq_true (by simpa [hb] using hw)
          subst ho0
          obtain ⟨h1, h2⟩ := Cn_out h
          refine ⟨_, h1, fun hg cw' hb => ?_⟩
          have := hagg d n hd ha hn (by have := h2 hg; omega) cw' hb
          rw [List.drop_zero, List.take_of_length_le (by have := h2 hg; omega)] at this
          exact this
        | false =>
        simp only [hw, cond_false] at h
        obtain ⟨h1, h2⟩ := Cn_out h
        simp only [Bd] at h1
        split at h1
        · exact ⟨_, opS_sound h1, fun hg => hagg d n hd ha hn (h2 hg)⟩
        · exact ⟨_, h1, fun hg => hagg d n hd ha hn (h2 hg)⟩
      · exact h.elim
    · rename_i ha
      split at h
      · unfold BdO at h
        split at h
        · rename_i v hv
          exact ⟨v, opS_sound h, fun _ => hone d v hd ha hv⟩
        · exact h.elim
      · split at h
        · rename_i k hk
          obtain ⟨h1, h2⟩ := Cn_out h
          refine ⟨_, h1, fun hg cw' hb => ?_⟩
          obtain ⟨x, hx⟩ := h2 hg
          have e : rdI r.cells o = x := by simp [rdI, hx]
          rw [e]
          exact hone d _ hd ha hx cw' hb
        · unfold gCell at h
          split at h
          · obtain ⟨a, n, c, h⟩ := h
            obtain ⟨h1, h2⟩ := Cn_out h
            exact ⟨_, h1, fun hg => hone d _ hd ha (h2 hg)⟩
          · obtain ⟨x, h⟩ := h
            obtain ⟨h1, h2⟩ := Cn_out h
            exact ⟨_, h1, fun hg => hone d _ hd ha (h2 hg)⟩
          · obtain ⟨x, h⟩ := h
            obtain ⟨h1, h2⟩ := Cn_out h
            exact ⟨_, h1, fun hg => hone d _ hd ha (h2 hg)⟩
          · obtain ⟨x, h⟩ := h
            obtain ⟨h1, h2⟩ := Cn_out h
            exact ⟨_, h1, fun hg => hone d _ hd ha (h2 hg)⟩
          · exact h.elim
theorem kEq_of {k1 k2 : IntKind} (h : decide (k1 = k2) = true) : k1 = k2 := of_decide_eq_true h
end Fk
