/- A generator of conditions for the code of the translation, proved sound over the kit's Code.wp: part 0, the words. -/
import Derived.Tactics
import Derived.OrdersHeld
import Derived.Laws.Sem
import Derived.Laws.World
import Derived.Below
set_option linter.unusedVariables false
set_option linter.unusedSimpArgs false
namespace Fk
open Go

/-! ### Computations that touch no memory -/
def pureEval {α : Type} (P : Program) : Sem α → Option α
  | .pure a => some a
  | .program k => pureEval P (k P)
  | _ => none

theorem pureEval_run {α : Type} {P : Program} {s : Sem α} {a : α} (h : pureEval P s = some a) (w : World) : s.run P w = .ok a w := by
  induction s with
  | pure b => simp [pureEval] at h; subst h; rfl
  | program k ih => exact ih P h
  | _ => simp [pureEval] at h

/-! ### What changed between two worlds -/
structure Md (M : List Nat) (w w' : World) : Prop where
  os : w'.os = w.os
  tape : w'.tape = w.tape
  output : w'.output = w.output
  size : w.heap.size ≤ w'.heap.size
  blk : ∀ k, k < w.heap.size → k ∉ M → w'.heap[k]? = w.heap[k]?

theorem Md.refl (M : List Nat) (w : World) : Md M w w := ⟨rfl, rfl, rfl, Nat.le_refl _, fun _ _ _ => rfl⟩
theorem Md.trans {M : List Nat} {a b c : World} (h : Md M a b) (k : Md M b c) : Md M a c :=
  ⟨k.os.trans h.os, k.tape.trans h.tape, k.output.trans h.output, Nat.le_trans h.size k.size,
    fun i hi hm => (k.blk i (Nat.lt_of_lt_of_le hi h.size) hm).trans (h.blk i hi hm)⟩
theorem Md.mono {M M' : List Nat} {a b : World} (h : Md M a b) (hs : ∀ x ∈ M, x ∈ M') : Md M' a b :=
  ⟨h.os, h.tape, h.output, h.size, fun i hi hm => h.blk i hi fun hx => hm (hs i hx)⟩
/-- What was not there counts for nothing. -/
theorem Md.drop {M M' : List Nat} {a b : World} (h : Md M a b) (hs : ∀ x ∈ M, x < a.heap.size → x ∈ M') : Md M' a b :=
  ⟨h.os, h.tape, h.output, h.size, fun i hi hm => h.blk i hi fun hx => hm (hs i hx hi)⟩
theorem Md.alloc {M : List Nat} (w : World) (o : Obj) : Md M w (w.alloc o) :=
  ⟨rfl, rfl, rfl, by simp, fun k hk _ => Go.RowKit.Below.heap_alloc w o k hk⟩
theorem Md.setCell {M : List Nat} (w : World) (a : Addr) (v : Value) (h : a.block ∈ M) : Md M w (w.setCell a v) :=
  ⟨rfl, rfl, rfl, by simp [World.setCell], fun k hk hm => Go.RowKit.Below.heap_setCell w a v k (fun e => hm (e ▸ h))⟩
theorem Md.drew {M : List Nat} (w : World) : Md M w { w with drawn := w.drawn + 1 } := ⟨rfl, rfl, rfl, Nat.le_refl _, fun _ _ _ => rfl⟩

/-! ### Words of the conditions -/
def Bd {α : Type} (e : α) (k : α → Prop) : Prop := k e
def If (c : Bool) (A B : Prop) : Prop := (c = true → A) ∧ (c = false → B)
def NN (a : Option Addr) (k : Addr → Prop) : Prop := match a with | some x => k x | none => False
def BdO {α : Type} (o : Option α) (k : α → Prop) : Prop := match o with | some v => k v | none => False

def opI (k : IntKind) (v : Value) (K : Int → Prop) : Prop := match v with | .int k' x => bif decide (k' = k) then Bd x K else False | _ => False
def opB (v : Value) (K : Bool → Prop) : Prop := match v with | .bool b => Bd b K | _ => False
def opStr (v : Value) (K : ByteArray → Prop) : Prop := match v with | .string s => Bd s K | _ => False
def opP (v : Value) (K : Option Addr → Prop) : Prop := match v with | .pointer a => Bd a K | _ => False
def opL (v : Value) (K : Option Addr → Nat → Nat → Prop) : Prop := match v with | .slice a n c => Bd a fun a => Bd n fun n => Bd c fun c => K a n c | _ => False
def opM (v : Value) (K : Option Nat → Prop) : Prop := match v with | .map r => Bd r K | _ => False
def opAg (v : Value) (K : Array Value → Prop) : Prop := match v with | .agg cs => K cs | _ => False
def opBig (v : Value) (K : Array Value → Prop) : Prop := match v with | .agg cs => Bd cs K | _ => False
def opTu (v : Value) (K : Array Value → Prop) : Prop := match v with | .tuple cs => K cs | _ => False

inductive Cs where
  | i (k : IntKind) | b | s | p | l | m | any
inductive Sh where
  | one (c : Cs)
  | agg (l : List Cs)
  | big (n : Nat)
  | raw
inductive Shp where
  | one (s : Sh)
  | tup (l : List Sh)

def opC : Cs → Value → (Value → Prop) → Prop
  | .i k, v, K => opI k v fun x => K (.int k x)
  | .b, v, K => opB v fun x => K (.bool x)
  | .s, v, K => opStr v fun x => K (.string x)
  | .p, v, K => opP v fun a => K (.pointer a)
  | .l, v, K => opL v fun a n c => K (.slice a n c)
  | .m, v, K => opM v fun r => K (.map r)
  | .any, v, K => Bd v K
def nthD (l : List Value) (i : Nat) : Value := l.getD i undef
/-- So long, and no longer. -/
def SzIs (n i : Nat) (K : Prop) : Prop := match Nat.beq n i with | true => K | false => False
theorem SzIs_out {n i : Nat} {K : Prop} (h : SzIs n i K) : n = i ∧ K := by
  unfold SzIs at h
  split at h
  · rename_i e; exact ⟨Nat.eq_of_beq_eq_true e, h⟩
  · exact h.elim
theorem SzIs_in {n i : Nat} {K : Prop} (e : n = i) (h : K) : SzIs n i K := by subst e; simpa [SzIs] using h
def opCs : List Cs → Array Value → Nat → (List Value → Prop) → Prop
  | [], cs, i, K => SzIs cs.toList.length i (K [])
  | c :: r, cs, i, K => opC c (nthD cs.toList i) fun v => opCs r cs (i + 1) fun l => K (v :: l)
def opH : Sh → Value → (Value → Prop) → Prop
  | .one c, v, K => opC c v K
  | .agg l, v, K => opAg v fun cs => opCs l cs 0 fun vs => K (.agg vs.toArray)
  | .big n, v, K => opBig v fun cs => cs.size = n ∧ K (.agg cs)
  | .raw, v, K => opBig v fun cs => K (.agg cs)
def opHs : List Sh → Array Value → Nat → (List Value → Prop) → Prop
  | [], cs, i, K => SzIs cs.toList.length i (K [])
  | c :: r, cs, i, K => opH c (nthD cs.toList i) fun v => opHs r cs (i + 1) fun l => K (v :: l)
def opS : Shp → Value → (Value → Prop) → Prop
  | .one s, v, K => opH s v K
  | .tup l, v, K => opTu v fun cs => opHs l cs 0 fun vs => K (.tuple vs.toArray)

theorem opI_sound {k : IntKind} {v : Value} {K : Int → Prop} (h : opI k v K) : ∃ x, v = .int k x ∧ K x := by
  unfold opI at h
  split at h
  · rename_i k' x
    by_cases e : k' = k
    · subst e; simp [Bd] at h; exact ⟨x, rfl, h⟩
    · simp [e] at h
  · exact h.elim
theorem opC_sound {c : Cs} {v : Value} {K : Value → Prop} (h : opC c v K) : K v := by
  cases c <;> simp only [opC] at h
  case i k =>
    obtain ⟨x, rfl, h'⟩ := opI_sound h
    exact h'
  case any => exact h
  all_goals (first
    | (unfold opB at h) | (unfold opStr at h) | (unfold opP at h) | (unfold opL at h) | (unfold opM at h))
  all_goals (split at h <;> first | exact h | exact h.elim)
theorem opCs_sound : ∀ (l : List Cs) (cs : Array Value) (i : Nat) (K : List Value → Prop), opCs l cs i K → i + l.length = cs.size ∧ K (cs.toList.drop i)
  | [], cs, i, K, h => by
    simp only [opCs] at h
    have hz := SzIs_out h
    have e := hz.1
    subst e
    exact ⟨by simp, by rw [List.drop_of_length_le (by simp)]; exact hz.2⟩
  | c :: r, cs, i, K, h => by
    simp only [opCs] at h
    have h1 := opC_sound h
    obtain ⟨h2, h3⟩ := opCs_sound r cs (i + 1) _ h1
    refine ⟨by simp only [List.length_cons]; omega, ?_⟩
    have hi : i < cs.toList.length := by simp; omega
    rw [List.drop_eq_getElem_cons hi]
    have : nthD cs.toList i = cs.toList[i] := by simp only [nthD, List.getD_eq_getElem?_getD, List.getElem?_eq_getElem hi, Option.getD_some]
    rw [← this]; exact h3
theorem opH_sound {c : Sh} {v : Value} {K : Value → Prop} (h : opH c v K) : K v := by
  cases c <;> simp only [opH] at h
  case one c => exact opC_sound h
  case agg l =>
    unfold opAg at h
    split at h
    · rename_i cs
      obtain ⟨_, h2⟩ := opCs_sound _ _ _ _ h
      simpa using h2
    · exact h.elim
  case big n =>
    unfold opBig at h
    split at h
    · exact h.2
    · exact h.elim
  case raw =>
    unfold opBig at h
    split at h
    · exact h
    · exact h.elim
theorem opHs_sound : ∀ (l : List Sh) (cs : Array Value) (i : Nat) (K : List Value → Prop), opHs l cs i K → i + l.length = cs.size ∧ K (cs.toList.drop i)
  | [], cs, i, K, h => by
    simp only [opHs] at h
    have hz := SzIs_out h
    have e := hz.1
    subst e
    exact ⟨by simp, by rw [List.drop_of_length_le (by simp)]; exact hz.2⟩
  | c :: r, cs, i, K, h => by
    simp only [opHs] at h
    have h1 := opH_sound h
    obtain ⟨h2, h3⟩ := opHs_sound r cs (i + 1) _ h1
    refine ⟨by simp only [List.length_cons]; omega, ?_⟩
    have hi : i < cs.toList.length := by simp; omega
    rw [List.drop_eq_getElem_cons hi]
    have : nthD cs.toList i = cs.toList[i] := by simp only [nthD, List.getD_eq_getElem?_getD, List.getElem?_eq_getElem hi, Option.getD_some]
    rw [← this]; exact h3
theorem opS_sound {s : Shp} {v : Value} {K : Value → Prop} (h : opS s v K) : K v := by
  cases s <;> simp only [opS] at h
  case one s => exact opH_sound h
  case tup l =>
    unfold opTu at h
    split at h
    · obtain ⟨_, h2⟩ := opHs_sound _ _ _ _ h
      simpa using h2
    · exact h.elim

/-! ### Shapes of types -/
def csOf (P : Program) (t : TypeId) : Cs := match P.underlying t with
  | some (.int k) => .i k | some .bool => .b | some .string => .s | some (.pointer _) => .p | some (.slice _) => .l | some (.map _ _) => .m | _ => .any
/-- The shapes of a type's cells, 'none' where there are too many. -/
def cellShapes (P : Program) : Nat → TypeId → Option (List Cs)
  | 0, _ => none
  | d + 1, t =>
    bif Nat.ble (P.cellsOf t) 12 then
      match P.underlying t with
      | some (.struct fs) => fs.toList.foldr (fun f acc => match cellShapes P d f.type, acc with | some a, some b => some (a ++ b) | _, _ => none) (some [])
      | some (.array n e) => match cellShapes P d e with
        | some a => some ((List.replicate n a).flatten)
        | none => none
      | _ => some [csOf P t]
    else none
def isAggT (P : Program) (t : TypeId) : Bool := match P.underlying t with | some (.struct _) | some (.array _ _) => true | _ => false
def shOf (P : Program) (t : TypeId) : Sh := match isAggT P t with
  | true => match cellShapes P 6 t with | some l => .agg l | none => .big (P.cellsOf t)
  | false => .one (csOf P t)
def shpOf (P : Program) (t : TypeId) : Shp := match P.underlying t with
  | some (.tuple ts) => .tup (ts.toList.map (shOf P))
  | _ => .one (shOf P t)
def dfC : Cs → Value
  | .i k => .int k 0 | .b => .bool false | .s => .string .empty | .p => .pointer none | .l => .slice none 0 0 | .m => .map none | .any => undef
def dfH : Sh → Value
  | .one c => dfC c | .agg l => .agg (l.map dfC).toArray | .big _ => .agg #[] | .raw => .agg #[]
def dfS : Shp → Value
  | .one s => dfH s | .tup l => .tuple (l.map dfH).toArray

/-! ### Frames -/
inductive SV where
  | v (x : Value)
  | p (key off : Nat)
abbrev GKey := Nat × Bool
structure Ent where
  slot : Nat
  tag : Option GKey
  sv : SV
structure GEnt where
  key : GKey
  slot : Nat
  base : Bool
  b : Bool
  anc : List GKey
def GEnt.cond (g : GEnt) : Bool := g.base && (bif g.key.2 then g.b else !g.b)
structure Reg where
  key : Nat
  blk : Nat
  ty : TypeId
  big : Bool
  cells : List Value
structure St where
  fr : List Ent
  gs : List GEnt
  rg : List Reg
  dirty : List Nat
  chg : Bool
def findE : List Ent → Nat → Option Ent
  | [], _ => none
  | e :: l, t => bif Nat.beq e.slot t then some e else findE l t
def bEq : Bool → Bool → Bool | true, b => b | false, b => !b
def gkEq (a b : GKey) : Bool := bif Nat.beq a.1 b.1 then bEq a.2 b.2 else false
theorem gkEq_iff {a b : GKey} : gkEq a b = true ↔ a = b := by
  obtain ⟨a1, a2⟩ := a
  obtain ⟨b1, b2⟩ := b
  unfold gkEq
  cases e : Nat.beq a1 b1 with
  | true =>
    have := Nat.eq_of_beq_eq_true e
    cases a2 <;> cases b2 <;> simp [bEq, this]
  | false =>
    have : a1 ≠ b1 := fun h => by subst h; simp at e
    simp [this]
def findG : List GEnt → GKey → Option GEnt
  | [], _ => none
  | e :: l, k => bif gkEq e.key k then some e else findG l k
def findR : List Reg → Nat → Option Reg
  | [], _ => none
  | e :: l, k => bif Nat.beq e.key k then some e else findR l k
def tagOk (γ : List GKey) : Option GKey → Bool
  | none => true
  | some k => γ.any (gkEq k)
def lookS (s : St) (γ : List GKey) (t : Nat) : Option SV := match findE s.fr t with
  | some e => bif tagOk γ e.tag then some e.sv else none
  | none => none
def evS (s : St) (γ : List GKey) : Operand → Option SV
  | .tmp t => lookS s γ t
  | .const v => some (.v v)
  | .global g => some (.v (.pointer (some ⟨g, 0, none⟩)))
  | .func f => some (.v (.func (.func f) #[] #[]))
def evV (s : St) (γ : List GKey) (x : Operand) : Option Value := match evS s γ x with
  | some (.v x) => some x
  | _ => none
def rho (s : St) (γ : List GKey) (x : Operand) : Value := match evV s γ x with
  | some v => v
  | none => undef
def kn (s : St) (γ : List GKey) : List Operand → Bool
  | [] => true
  | x :: l => match evV s γ x with | some _ => kn s γ l | none => false
def setR : List Reg → Nat → (Reg → Reg) → List Reg
  | [], _, _ => []
  | e :: l, k, f => bif Nat.beq e.key k then f e :: l else e :: setR l k f
def regIds (l : List Reg) : List Nat := l.map (·.blk)

def tagCond (gs : List GEnt) : Option GKey → Option Bool
  | none => some true
  | some k => match findG gs k with | some g => some g.cond | none => none
def svVal (rg : List Reg) : SV → Value → Prop
  | .v y, x => x = y
  | .p k o, x => ∃ r, findR rg k = some r ∧ x = .pointer (some ⟨r.blk, o, none⟩)

/-- Each register, each guard stands once. -/
def nodupR : List Reg → Bool
  | [] => true
  | e :: l => match findR l e.key with | some _ => false | none => nodupR l
def nodupG : List GEnt → Bool
  | [] => true
  | e :: l => match findG l e.key with | some _ => false | none => nodupG l
/-- The frame 'a' and the world 'cw' are what the state says; 'w' is the world that was told last. -/
structure Rel (n : Nat) (s : St) (w : World) (a : Act) (cw : World) : Prop where
  dfr : a.defers = []
  sz : a.tmps.size = n
  ent : ∀ t e, findE s.fr t = some e → ∃ c, tagCond s.gs e.tag = some c ∧ t < n ∧
    (c = true → ∃ x, svVal s.rg e.sv x ∧ a.tmps[t]? = some x) ∧ (c = false → a.tmps[t]? = some undef)
  anc : ∀ k g, findG s.gs k = some g → ∀ k' ∈ g.anc, ∃ g', findG s.gs k' = some g' ∧ (g.cond = true → g'.cond = true)
  gbase : ∀ k g, findG s.gs k = some g → (∀ k' ∈ g.anc, ∃ g', findG s.gs k' = some g' ∧ g'.cond = true) → g.base = true
  gslot : ∀ k g, findG s.gs k = some g → (g.base = true → a.tmps[g.slot]? = some (.bool g.b)) ∧ (g.base = false → a.tmps[g.slot]? = some undef)
  reg : ∀ k r, findR s.rg k = some r → cw.heap[r.blk]? = some (.cells r.cells.toArray r.ty (0, 0))
  dis : ∀ k k' r r', findR s.rg k = some r → findR s.rg k' = some r' → k ≠ k' → r.blk ≠ r'.blk
  wfr : nodupR s.rg = true
  wfg : nodupG s.gs = true
  wor : Md s.dirty w cw
  syn : s.chg = false → cw = w

/-- What is known to be so while an operation under these guards is carried out. -/
def Ctx (gs : List GEnt) (γ : List GKey) : Prop := ∀ k ∈ γ, ∃ g, findG gs k = some g ∧ g.cond = true

theorem Rel.lookS {n : Nat} {s : St} {w : World} {a : Act} {cw : World} (h : Rel n s w a cw) {γ : List GKey} (hc : Ctx s.gs γ) {t : Nat} {sv : SV}
    (hl : Fk.lookS s γ t = some sv) : ∃ x, svVal s.rg sv x ∧ a.tmps[t]? = some x := by
  unfold Fk.lookS at hl
  cases he : findE s.fr t with
  | none => simp [he] at hl
  | some e =>
    simp only [he] at hl
    cases htg : tagOk γ e.tag with
    | false => simp [htg] at hl
    | true =>
      simp only [htg, cond_true, Option.some.injEq] at hl
      subst hl
      obtain ⟨c, h1, _, h3, _⟩ := h.ent t e he
      refine h3 ?_
      cases hk : e.tag with
      | none => simp [hk, tagCond] at h1; exact h1
      | some k =>
        simp only [hk, tagOk, List.any_eq_true] at htg
        obtain ⟨k', hk', hkk⟩ := htg
        have := gkEq_iff.1 hkk
        subst this
        obtain ⟨g, hg, hgc⟩ := hc k hk'
        simp only [hk, tagCond, hg, Option.some.injEq] at h1
        rw [← h1]; exact hgc
theorem Rel.evS {n : Nat} {s : St} {w : World} {a : Act} {cw : World} (h : Rel n s w a cw) {γ : List GKey} (hc : Ctx s.gs γ) {x : Operand} {sv : SV}
    (hl : Fk.evS s γ x = some sv) : svVal s.rg sv (a.eval x) := by
  cases x with
  | tmp t =>
    obtain ⟨x, h1, h2⟩ := h.lookS hc (t := t) hl
    have : a.eval (.tmp t) = x := by
      obtain ⟨hlt, hx⟩ := Array.getElem?_eq_some_iff.1 h2
      simp [Act.eval, Array.getD, hlt, hx]
    rw [this]; exact h1
  | const v => simp [Fk.evS] at hl; subst hl; rfl
  | global g => simp [Fk.evS] at hl; subst hl; rfl
  | func f => simp [Fk.evS] at hl; subst hl; rfl
theorem Rel.evV {n : Nat} {s : St} {w : World} {a : Act} {cw : World} (h : Rel n s w a cw) {γ : List GKey} (hc : Ctx s.gs γ) {x : Operand} {v : Value}
    (hl : Fk.evV s γ x = some v) : a.eval x = v := by
  unfold Fk.evV at hl
  split at hl
  · rename_i y hy
    have := h.evS hc hy
    simp only [Option.some.injEq] at hl
    subst hl; exact this
  · cases hl
theorem Rel.rho {n : Nat} {s : St} {w : World} {a : Act} {cw : World} (h : Rel n s w a cw) {γ : List GKey} (hc : Ctx s.gs γ) :
    ∀ (l : List Operand), kn s γ l = true → ∀ x ∈ l, Fk.rho s γ x = a.eval x
  | [], _, x, hx => by cases hx
  | y :: l, hk, x, hx => by
    simp only [kn] at hk
    cases hy : Fk.evV s γ y with
    | none => simp [hy] at hk
    | some v =>
      simp only [hy] at hk
      cases hx with
      | head => simp [Fk.rho, hy, h.evV hc hy]
      | tail _ hx => exact h.rho hc l hk x hx
end Fk
