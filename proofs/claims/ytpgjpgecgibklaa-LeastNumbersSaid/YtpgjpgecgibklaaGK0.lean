/- A generator of conditions, proved sound over the kit. -/
import Derived.Tactics
import Derived.OrdersHeld
import Derived.Laws.Sem
import Derived.Laws.World
import Derived.Below
import Derived.Laws.Tables
set_option linter.unusedVariables false
set_option linter.unusedSimpArgs false
namespace Fk
open Go
def pureEval {α : Type} (P : Program) : Sem α → Option α
  | .pure a => some a
  | .program k => pureEval P (k P)
  | _ => none
theorem pureEval_run {α : Type} {P : Program} {s : Sem α} {a : α} (h : pureEval P s = some a) (w : World) : s.run P w = .ok a w := by
  induction s with
  | pure b => simp [pureEval] at h; subst h; rfl
  | program k ih => exact ih P h
  | _ => simp [pureEval] at h
structure Md (M : List Nat) (w w' : World) : Prop where
  os : w'.os = w.os
  tape : w'.tape = w.tape
  output : w'.output = w.output
  size : w.heap.size ≤ w'.heap.size
  blk : ∀ k, k < w.heap.size → k ∉ M → w'.heap[k]? = w.heap[k]?
theorem Md.refl (M : List Nat) (w : World) : Md M w w := ⟨rfl, rfl, rfl, Nat.le_refl _, fun _ _ _ => rfl⟩
theorem Md.trans {M : List Nat} {a b c : World} (h : Md M a b) (k : Md M b c) : Md M a c :=
  ⟨k.os.trans h.os, k.tape.trans h.tape, k.output.trans h.output, Nat.le_trans h.size k.size,
    fun i hi hm => (k.blk i (Nat.lt_of_lt_of_le hi h.size) hm).trans (h.blk i hi hm)⟩
theorem Md.mono {M M' : List Nat} {a b : World} (h : Md M a b) (hs : ∀ x ∈ M, x ∈ M') : Md M' a b :=
  ⟨h.os, h.tape, h.output, h.size, fun i hi hm => h.blk i hi fun hx => hm (hs i hx)⟩
/-- What was not there counts for nothing. -/
theorem Md.drop {M M' : List Nat} {a b : World} (h : Md M a b) (hs : ∀ x ∈ M, x < a.heap.size → x ∈ M') : Md M' a b :=
  ⟨h.os, h.tape, h.output, h.size, fun i hi hm => h.blk i hi fun hx => hm (hs i hx hi)⟩
theorem Md.alloc {M : List Nat} (w : World) (o : Obj) : Md M w (w.alloc o) :=
  ⟨rfl, rfl, rfl, by simp, fun k hk _ => Go.RowKit.Below.heap_alloc w o k hk⟩
theorem Md.setCell {M : List Nat} (w : World) (a : Addr) (v : Value) (h : a.block ∈ M) : Md M w (w.setCell a v) :=
  ⟨rfl, rfl, rfl, by simp [World.setCell], fun k hk hm => Go.RowKit.Below.heap_setCell w a v k (fun e => hm (e ▸ h))⟩
theorem Md.drew {M : List Nat} (w : World) : Md M w { w with drawn := w.drawn + 1 } := ⟨rfl, rfl, rfl, Nat.le_refl _, fun _ _ _ => rfl⟩
def Bd {α : Type} (e : α) (k : α → Prop) : Prop := k e
def If (c : Bool) (A B : Prop) : Prop := (c = true → A) ∧ (c = false → B)
def NN (a : Option Addr) (k : Addr → Prop) : Prop := match a with | some x => k x | none => False
def BdO {α : Type} (o : Option α) (k : α → Prop) : Prop := match o with | some v => k v | none => False
def opI (k : IntKind) (v : Value) (K : Int → Prop) : Prop := match v with | .int k' x => bif decide (k' = k) then Bd x K else False | _ => False
def opB (v : Value) (K : Bool → Prop) : Prop := match v with | .bool b => Bd b K | _ => False
def opStr (v : Value) (K : ByteArray → Prop) : Prop := match v with | .string s => Bd s K | _ => False
def opP (v : Value) (K : Option Addr → Prop) : Prop := match v with | .pointer a => Bd a K | _ => False
def opL (v : Value) (K : Option Addr → Nat → Nat → Prop) : Prop := match v with | .slice a n c => Bd a fun a => Bd n fun n => Bd c fun c => K a n c | _ => False
def opM (v : Value) (K : Option Nat → Prop) : Prop := match v with | .map r => Bd r K | _ => False
def opAg (v : Value) (K : Array Value → Prop) : Prop := match v with | .agg cs => K cs | _ => False
def opBig (v : Value) (K : Array Value → Prop) : Prop := match v with | .agg cs => Bd cs K | _ => False
def opTu (v : Value) (K : Array Value → Prop) : Prop := match v with | .tuple cs => K cs | _ => False
inductive Cs where
  | i (k : IntKind) | b | s | p | l | m | any
inductive Sh where
  | one (c : Cs)
  | agg (l : List Cs)
  | big (n : Nat)
  | raw
inductive Shp where
  | one (s : Sh)
  | tup (l : List Sh)
def opC : Cs → Value → (Value → Prop) → Prop
  | .i k, v, K => opI k v fun x => K (.int k x)
  | .b, v, K => opB v fun x => K (.bool x)
  | .s, v, K => opStr v fun x => K (.string x)
  | .p, v, K => opP v fun a => K (.pointer a)
  | .l, v, K => opL v fun a n c => K (.slice a n c)
  | .m, v, K => opM v fun r => K (.map r)
  | .any, v, K => Bd v K
def nthD (l : List Value) (i : Nat) : Value := l.getD i undef
/-- So long, and no longer. -/
def SzIs (n i : Nat) (K : Prop) : Prop := match Nat.beq n i with | true => K | false => False
theorem SzIs_out {n i : Nat} {K : Prop} (h : SzIs n i K) : n = i ∧ K := by
  unfold SzIs at h
  split at h
  · rename_i e; exact ⟨Nat.eq_of_beq_eq_true e, h⟩
  · exact h.elim
theorem SzIs_in {n i : Nat} {K : Prop} (e : n = i) (h : K) : SzIs n i K := by subst e; simpa [SzIs] using h
def opCs : List Cs → Array Value → Nat → (List Value → Prop) → Prop
  | [], cs, i, K => SzIs cs.toList.length i (K [])
  | c :: r, cs, i, K => opC c (nthD cs.toList i) fun v => opCs r cs (i + 1) fun l => K (v :: l)
def opH : Sh → Value → (Value → Prop) → Prop
  | .one c, v, K => opC c v K
  | .agg l, v, K => opAg v fun cs => opCs l cs 0 fun vs => K (.agg vs.toArray)
  | .big n, v, K => opBig v fun cs => cs.size = n ∧ K (.agg cs)
  | .raw, v, K => opBig v fun cs => K (.agg cs)
def opHs : List Sh → Array Value → Nat → (List Value → Prop) → Prop
  | [], cs, i, K => SzIs cs.toList.length i (K [])
  | c :: r, cs, i, K => opH c (nthD cs.toList i) fun v => opHs r cs (i + 1) fun l => K (v :: l)
def opS : Shp → Value → (Value → Prop) → Prop
  | .one s, v, K => opH s v K
  | .tup l, v, K => opTu v fun cs => opHs l cs 0 fun vs => K (.tuple vs.toArray)
theorem opI_sound {k : IntKind} {v : Value} {K : Int → Prop} (h : opI k v K) : ∃ x, v = .int k x ∧ K x := by
  unfold opI at h
  split at h
  · rename_i k' x
    by_cases e : k' = k
    · subst e; simp [Bd] at h; exact ⟨x, rfl, h⟩
    · simp [e] at h
  · exact h.elim
theorem opC_sound {c : Cs} {v : Value} {K : Value → Prop} (h : opC c v K) : K v := by
  cases c <;> simp only [opC] at h
  case i k =>
    obtain ⟨x, rfl, h'⟩ := opI_sound h
    exact h'
  case any => exact h
  all_goals (first
    | (unfold opB at h) | (unfold opStr at h) | (unfold opP at h) | (unfold opL at h) | (unfold opM at h))
  all_goals (split at h <;> first | exact h | exact h.elim)
theorem opCs_sound : ∀ (l : List Cs) (cs : Array Value) (i : Nat) (K : List Value → Prop), opCs l cs i K → i + l.length = cs.size ∧ K (cs.toList.drop i)
  | [], cs, i, K, h => by
    simp only [opCs] at h
    have hz := SzIs_out h
    have e := hz.1
    subst e
    exact ⟨by simp, by rw [List.drop_of_length_le (by simp)]; exact hz.2⟩
  | c :: r, cs, i, K, h => by
    simp only [opCs] at h
    have h1 := opC_sound h
    obtain ⟨h2, h3⟩ := opCs_sound r cs (i + 1) _ h1
    refine ⟨by simp only [List.length_cons]; omega, ?_⟩
    have hi : i < cs.toList.length := by simp; omega
    rw [List.drop_eq_getElem_cons hi]
    have : nthD cs.toList i = cs.toList[i] := by simp only [nthD, List.getD_eq_getElem?_getD, List.getElem?_eq_getElem hi, Option.getD_some]
    rw [← this]; exact h3
theorem opH_sound {c : Sh} {v : Value} {K : Value → Prop} (h : opH c v K) : K v := by
  cases c <;> simp only [opH] at h
  case one c => exact opC_sound h
  case agg l =>
    unfold opAg at h
    split at h
    · rename_i cs
      obtain ⟨_, h2⟩ := opCs_sound _ _ _ _ h
      simpa using h2
    · exact h.elim
  case big n =>
    unfold opBig at h
    split at h
    · exact h.2
    · exact h.elim
  case raw =>
    unfold opBig at h
    split at h
    · exact h
    · exact h.elim
theorem opHs_sound : ∀ (l : List Sh) (cs : Array Value) (i : Nat) (K : List Value → Prop), opHs l cs i K → i + l.length = cs.size ∧ K (cs.toList.drop i)
  | [], cs, i, K, h => by
    simp only [opHs] at h
    have hz := SzIs_out h
    have e := hz.1
    subst e
    exact ⟨by simp, by rw [List.drop_of_length_le (by simp)]; exact hz.2⟩
  | c :: r, cs, i, K, h => by
    simp only [opHs] at h
    have h1 := opH_sound h
    obtain ⟨h2, h3⟩ := opHs_sound r cs (i + 1) _ h1
    refine ⟨by simp only [List.length_cons]; omega, ?_⟩
    have hi : i < cs.toList.length := by simp; omega
    rw [List.drop_eq_getElem_cons hi]
    have : nthD cs.toList i = cs.toList[i] := by simp only [nthD, List.getD_eq_getElem?_getD, List.getElem?_eq_getElem hi, Option.getD_some]
    rw [← this]; exact h3
theorem opS_sound {s : Shp} {v : Value} {K : Value → Prop} (h : opS s v K) : K v := by
  cases s <;> simp only [opS] at h
  case one s => exact opH_sound h
  case tup l =>
    unfold opTu at h
    split at h
    · obtain ⟨_, h2⟩ := opHs_sound _ _ _ _ h
      simpa using h2
    · exact h.elim
def csOf (P : Program) (t : TypeId) : Cs := match P.underlying t with
  | some (.int k) => .i k | some .bool => .b | some .string => .s | some (.pointer _) => .p | some (.slice _) => .l | some (.map _ _) => .m | _ => .any
/-- The shapes of a type's cells, 'none' where there are too many. -/
def cellShapes (P : Program) : Nat → TypeId → Option (List Cs)
  | 0, _ => none
  | d + 1, t =>
    bif Nat.ble (P.cellsOf t) 12 then
      match P.underlying t with
      | some (.struct fs) => fs.toList.foldr (fun f acc => match cellShapes P d f.type, acc with | some a, some b => some (a ++ b) | _, _ => none) (some [])
      | some (.array n e) => match cellShapes P d e with
        | some a => some ((List.replicate n a).flatten)
        | none => none
      | _ => some [csOf P t]
    else none
def isAggT (P : Program) (t : TypeId) : Bool := match P.underlying t with | some (.struct _) | some (.array _ _) => true | _ => false
def shOf (P : Program) (t : TypeId) : Sh := match isAggT P t with
  | true => match cellShapes P 6 t with | some l => .agg l | none => .big (P.cellsOf t)
  | false => .one (csOf P t)
def shpOf (P : Program) (t : TypeId) : Shp := match P.underlying t with
  | some (.tuple ts) => .tup (ts.toList.map (shOf P))
  | _ => .one (shOf P t)
def dfC : Cs → Value
  | .i k => .int k 0 | .b => .bool false | .s => .string .empty | .p => .pointer none | .l => .slice none 0 0 | .m => .map none | .any => undef
inductive SV where
  | v (x : Value)
  | p (key off : Nat)
abbrev GKey := Nat × Bool
structure Ent where
  slot : Nat
  tag : Option GKey
  sv : SV
structure GEnt where
  key : GKey
  slot : Nat
  base : Bool
  b : Bool
  anc : List GKey
def GEnt.cond (g : GEnt) : Bool := g.base && (bif g.key.2 then g.b else !g.b)
structure Reg where
  key : Nat
  blk : Nat
  ty : TypeId
  big : Bool
  cells : List Value
structure St where
  fr : List Ent
  gs : List GEnt
  rg : List Reg
  dirty : List Nat
  chg : Bool
def findE : List Ent → Nat → Option Ent
  | [], _ => none
  | e :: l, t => bif Nat.beq e.slot t then some e else findE l t
def bEq : Bool → Bool → Bool | true, b => b | false, b => !b
def gkEq (a b : GKey) : Bool := bif Nat.beq a.1 b.1 then bEq a.2 b.2 else false
theorem gkEq_iff {a b : GKey} : gkEq a b = true ↔ a = b := by
  obtain ⟨a1, a2⟩ := a
  obtain ⟨b1, b2⟩ := b
  unfold gkEq
  cases e : Nat.beq a1 b1 with
  | true =>
    have := Nat.eq_of_beq_eq_true e
    cases a2 <;> cases b2 <;> simp [bEq, this]
  | false =>
    have : a1 ≠ b1 := fun h => by subst h; simp at e
    simp [this]
def findG : List GEnt → GKey → Option GEnt
  | [], _ => none
  | e :: l, k => bif gkEq e.key k then some e else findG l k
def findR : List Reg → Nat → Option Reg
  | [], _ => none
  | e :: l, k => bif Nat.beq e.key k then some e else findR l k
def tagOk (γ : List GKey) : Option GKey → Bool
  | none => true
  | some k => γ.any (gkEq k)
def lookS (s : St) (γ : List GKey) (t : Nat) : Option SV := match findE s.fr t with
  | some e => bif tagOk γ e.tag then some e.sv else none
  | none => none
def evS (s : St) (γ : List GKey) : Operand → Option SV
  | .tmp t => lookS s γ t
  | .const v => some (.v v)
  | .global g => some (.v (.pointer (some ⟨g, 0, none⟩)))
  | .func f => some (.v (.func (.func f) #[] #[]))
def evV (s : St) (γ : List GKey) (x : Operand) : Option Value := match evS s γ x with
  | some (.v x) => some x
  | _ => none
def rho (s : St) (γ : List GKey) (x : Operand) : Value := match evV s γ x with
  | some v => v
  | none => undef
def kn (s : St) (γ : List GKey) : List Operand → Bool
  | [] => true
  | x :: l => match evV s γ x with | some _ => kn s γ l | none => false
def setR : List Reg → Nat → (Reg → Reg) → List Reg
  | [], _, _ => []
  | e :: l, k, f => bif Nat.beq e.key k then f e :: l else e :: setR l k f
def regIds (l : List Reg) : List Nat := l.map (·.blk)
def tagCond (gs : List GEnt) : Option GKey → Option Bool
  | none => some true
  | some k => match findG gs k with | some g => some g.cond | none => none
def svVal (rg : List Reg) : SV → Value → Prop
  | .v y, x => x = y
  | .p k o, x => ∃ r, findR rg k = some r ∧ x = .pointer (some ⟨r.blk, o, none⟩)
/-- Each register, each guard stands once. -/
def nodupR : List Reg → Bool
  | [] => true
  | e :: l => match findR l e.key with | some _ => false | none => nodupR l
def nodupG : List GEnt → Bool
  | [] => true
  | e :: l => match findG l e.key with | some _ => false | none => nodupG l
/-- The frame 'a' and the world 'cw' are what the state says; 'w' is the world that was told last. -/
structure Rel (n : Nat) (s : St) (w : World) (a : Act) (cw : World) : Prop where
  dfr : a.defers = []
  sz : a.tmps.size = n
  ent : ∀ t e, findE s.fr t = some e → ∃ c, tagCond s.gs e.tag = some c ∧ t < n ∧
    (c = true → ∃ x, svVal s.rg e.sv x ∧ a.tmps[t]? = some x) ∧ (c = false → a.tmps[t]? = some undef)
  anc : ∀ k g, findG s.gs k = some g → ∀ k' ∈ g.anc, ∃ g', findG s.gs k' = some g' ∧ (g.cond = true → g'.cond = true)
  gbase : ∀ k g, findG s.gs k = some g → (∀ k' ∈ g.anc, ∃ g', findG s.gs k' = some g' ∧ g'.cond = true) → g.base = true
  gslot : ∀ k g, findG s.gs k = some g → (g.base = true → a.tmps[g.slot]? = some (.bool g.b)) ∧ (g.base = false → a.tmps[g.slot]? = some undef)
  reg : ∀ k r, findR s.rg k = some r → cw.heap[r.blk]? = some (.cells r.cells.toArray r.ty (0, 0))
  dis : ∀ k k' r r', findR s.rg k = some r → findR s.rg k' = some r' → k ≠ k' → r.blk ≠ r'.blk
  wfr : nodupR s.rg = true
  wfg : nodupG s.gs = true
  wor : Md s.dirty w cw
  syn : s.chg = false → cw = w
/-- What is known to be so while an operation under these guards is carried out. -/
def Ctx (gs : List GEnt) (γ : List GKey) : Prop := ∀ k ∈ γ, ∃ g, findG gs k = some g ∧ g.cond = true
theorem Rel.lookS {n : Nat} {s : St} {w : World} {a : Act} {cw : World} (h : Rel n s w a cw) {γ : List GKey} (hc : Ctx s.gs γ) {t : Nat} {sv : SV}
    (hl : Fk.lookS s γ t = some sv) : ∃ x, svVal s.rg sv x ∧ a.tmps[t]? = some x := by
  unfold Fk.lookS at hl
  cases he : findE s.fr t with
  | none => simp [he] at hl
  | some e =>
    simp only [he] at hl
    cases htg : tagOk γ e.tag with
    | false => simp [htg] at hl
    | true =>
      simp only [htg, cond_true, Option.some.injEq] at hl
      subst hl
      obtain ⟨c, h1, _, h3, _⟩ := h.ent t e he
      refine h3 ?_
      cases hk : e.tag with
      | none => simp [hk, tagCond] at h1; exact h1
      | some k =>
        simp only [hk, tagOk, List.any_eq_true] at htg
        obtain ⟨k', hk', hkk⟩ := htg
        have := gkEq_iff.1 hkk
        subst this
        obtain ⟨g, hg, hgc⟩ := hc k hk'
        simp only [hk, tagCond, hg, Option.some.injEq] at h1
        rw [← h1]; exact hgc
theorem Rel.evS {n : Nat} {s : St} {w : World} {a : Act} {cw : World} (h : Rel n s w a cw) {γ : List GKey} (hc : Ctx s.gs γ) {x : Operand} {sv : SV}
    (hl : Fk.evS s γ x = some sv) : svVal s.rg sv (a.eval x) := by
  cases x with
  | tmp t =>
    obtain ⟨x, h1, h2⟩ := h.lookS hc (t := t) hl
    have : a.eval (.tmp t) = x := by
      obtain ⟨hlt, hx⟩ := Array.getElem?_eq_some_iff.1 h2
      simp [Act.eval, Array.getD, hlt, hx]
    rw [this]; exact h1
  | const v => simp [Fk.evS] at hl; subst hl; rfl
  | global g => simp [Fk.evS] at hl; subst hl; rfl
  | func f => simp [Fk.evS] at hl; subst hl; rfl
theorem Rel.evV {n : Nat} {s : St} {w : World} {a : Act} {cw : World} (h : Rel n s w a cw) {γ : List GKey} (hc : Ctx s.gs γ) {x : Operand} {v : Value}
    (hl : Fk.evV s γ x = some v) : a.eval x = v := by
  unfold Fk.evV at hl
  split at hl
  · rename_i y hy
    have := h.evS hc hy
    simp only [Option.some.injEq] at hl
    subst hl; exact this
  · cases hl
theorem Rel.rho {n : Nat} {s : St} {w : World} {a : Act} {cw : World} (h : Rel n s w a cw) {γ : List GKey} (hc : Ctx s.gs γ) :
    ∀ (l : List Operand), kn s γ l = true → ∀ x ∈ l, Fk.rho s γ x = a.eval x
  | [], _, x, hx => by cases hx
  | y :: l, hk, x, hx => by
    simp only [kn] at hk
    cases hy : Fk.evV s γ y with
    | none => simp [hy] at hk
    | some v =>
      simp only [hy] at hk
      cases hx with
      | head => simp [Fk.rho, hy, h.evV hc hy]
      | tail _ hx => exact h.rho hc l hk x hx
end Fk
set_option linter.unusedVariables false
set_option linter.unusedSimpArgs false
namespace Fk
open Go Go.RowKit
/-- The blocks of L are as they were. -/
def Kept (L : List Nat) (w w' : World) : Prop := ∀ b ∈ L, w'.heap[b]? = w.heap[b]?
structure RunW (P : Program) (L : List Nat) (s : Sem Value) (K : Value → World → Prop) (w : World) : Prop where
  out : match s.run P w with | .ok v w' => Kept L w w' ∧ K v w' | .halt _ _ => False
structure RunU (P : Program) (L : List Nat) (s : Sem Unit) (K : World → Prop) (w : World) : Prop where
  out : match s.run P w with | .ok _ w' => Kept L w w' ∧ K w' | .halt _ _ => False
def goodFn (P : Program) (f : FuncId) : Bool := match P.funcs[f]? with | some fn => !(fn.name == "runtime.NumGoroutine") && fn.body.isSome | none => false
/-- A call that comes back. (A structure: nothing unfolds it.) -/
structure CallR (P : Program) (f : FuncId) (args : Array Value) (w : World) (Φ : Value → World → Prop) : Prop where
  out : (goodFn P f = true ∧ Calls P f args w fun e w' => match e with | .returned v => Φ v w' | _ => False) ∨ ∃ v w', (callFunc f args).run P w = .ok (.value v) w' ∧ Φ v w'
/-- A call that comes back; the blocks of L are as they were. -/
def CallW (P : Program) (L : List Nat) (f : FuncId) (args : Array Value) (K : Value → World → Prop) (w : World) : Prop := CallR P f args w fun v w' => Kept L w w' ∧ K v w'
def Up (D L : List Nat) (w : World) (K : World → Prop) : Prop := ∀ w', Md D w w' → (∀ b ∈ L, b < w'.heap.size) → K w'
def Rg (w : World) (K : Nat → Prop) : Prop := ∀ b, w.heap.size ≤ b → K b
/-- A new block. -/
def Nw (o : Obj) (w : World) (K : Nat → World → Prop) : Prop := ∀ b w', b = w.heap.size → w' = w.alloc o → K b w'
def Ld (w : World) (A : Addr) (K : Value → Prop) : Prop := match w.cell? A with | some v => K v | none => False
def cellsAt (w : World) (A : Addr) : Nat → Nat → Option (List Value)
  | _, 0 => some []
  | i, n + 1 => match w.cell? (A.add i), cellsAt w A (i + 1) n with | some v, some l => some (v :: l) | _, _ => none
def LdN (w : World) (A : Addr) (n : Nat) (K : List Value → Prop) : Prop := match cellsAt w A 0 n with | some l => K l | none => False
/-- A few cells, one after another. -/
def LdK (w : World) (A : Addr) : Nat → Nat → (List Value → Prop) → Prop
  | _, 0, K => K []
  | i, n + 1, K => Ld w (A.add i) fun v => LdK w A (i + 1) n fun l => K (v :: l)
def LdG (w : World) (A : Addr) (n : Nat) (K : List Value → Prop) : Prop := bif Nat.ble n 16 then LdK w A 0 n K else LdN w A n K
theorem LdK_out {w : World} {A : Addr} : ∀ (n i : Nat) (K : List Value → Prop), LdK w A i n K → ∃ l, cellsAt w A i n = some l ∧ K l
  | 0, i, K, h => ⟨[], rfl, h⟩
  | n + 1, i, K, h => by
    simp only [LdK, Ld] at h
    split at h
    · rename_i v hv
      obtain ⟨l, hl, hk⟩ := LdK_out n (i + 1) _ h
      exact ⟨v :: l, by simp [cellsAt, hv, hl], hk⟩
    · exact h.elim
theorem LdG_out {w : World} {A : Addr} {n : Nat} {K : List Value → Prop} (h : LdG w A n K) : ∃ l, cellsAt w A 0 n = some l ∧ K l := by
  unfold LdG at h
  cases hb : Nat.ble n 16 with
  | true => simp only [hb, cond_true] at h; exact LdK_out _ _ _ h
  | false =>
    simp only [hb, cond_false] at h
    unfold LdN at h
    split at h
    · rename_i l hl; exact ⟨l, hl, h⟩
    · exact h.elim
def setCells (w : World) (A : Addr) : Nat → List Value → World
  | _, [] => w
  | i, v :: l => setCells (w.setCell (A.add i) v) A (i + 1) l
/-- These cells are there, and may be written. -/
def Wr (w : World) (A : Addr) (n : Nat) : Prop := ∀ j, j < n → (∃ u, w.cell? (A.add j) = some u) ∧ w.frozen? (A.add j) = false
def allOne (l : List Value) : Bool := l.all Value.oneCell'
def cL (v : Value) : List Value := v.cells.toList
def okCells (l : List Value) (n : Nat) : Bool := bif Nat.beq l.length n then allOne l else false
def OkC (l : List Value) (n : Nat) (K : Prop) : Prop := bif okCells l n then K else False
def LeC (a b : Nat) (K : Prop) : Prop := bif Nat.ble a b then K else False
/-- A guarded operation: where its guard says no, K has a value that counts for nothing. -/
def Gd {α : Type} (c : Bool) (d : α) (op : (α → World → Prop) → Prop) (K : α → World → Prop) (w : World) : Prop := (c = true → op K) ∧ (c = false → K d w)
def Cn (g : Option Bool) (p A : Prop) : Prop := match g with | none => p ∧ A | some c => (c = true → p) ∧ A
def byteAt (s : ByteArray) (i : Int) : Int := match s.data[i.toNat]? with | some b => (b.toNat : Int) | none => 0
def IxOk (i : Int) (n : Nat) (a : Option Addr) : Prop := 0 ≤ i ∧ i < n ∧ a.isSome = true
def adAt (a : Option Addr) (i : Int) (sz : Nat) : Addr := (a.getD default).add (i.toNat * sz)
def fieldOff (P : Program) (t : TypeId) (f : Nat) : Option Nat := match P.underlying t with
  | some (.struct fs) => match fs[f]? with
    | some fd => match P.info? fd.type with
      | some i => bif Nat.beq i.size 0 then none else some fd.offset
      | none => none
    | none => none
  | _ => none
def szOf (P : Program) (t : TypeId) : Option Nat := match P.info? t with | some i => some i.size | none => none
def zeroL (P : Program) (t : TypeId) : List Value := match P.info? t with | some i => (match i.zero with | some v => v.cells.toList | none => []) | none => []
def hasZero (P : Program) (t : TypeId) : Bool := match P.info? t with | some i => i.zero.isSome | none => false
inductive TK where | int | bool | str | other
def tk (P : Program) (t : TypeId) : TK := match P.underlying t with | some (.int _) => .int | some .bool => .bool | some .string => .str | _ => .other
def constNZ : Operand → Bool | .const (.int _ n) => !(decide (n = 0)) | _ => false
def constNN : Operand → Bool | .const (.int _ n) => decide (0 ≤ n) | _ => false
/-- Operations that the kernel can work out. -/
def isT (P : Program) (o : Oper) : Bool := match o.op with
  | .binOp op t x y _ => match op, tk P t with
    | .quo, .int | .rem, .int => constNZ y
    | .shl, .int | .shr, .int => constNN y
    | .add, .str => false
    | _, .int | _, .str => true
    | .eql, .bool | .neq, .bool => true
    | _, _ => false
  | .unOp _ _ _ => true
  | .convert s d _ => match tk P s, tk P d with | .int, .int => true | _, _ => false
  | .extract _ _ => true
  | .makeFunc _ _ _ => true
  | .field _ _ _ => true
  | .call { callee := .builtin .len, argTypes, .. } => match argTypes[0]? with
    | some t => match P.underlying t with | some .string | some (.slice _) | some (.array _ _) => true | _ => false
    | none => false
  | .call { callee := .builtin .min, .. } | .call { callee := .builtin .max, .. } => match tk P o.type with | .int => true | _ => false
  | _ => false
def memN (l : List Nat) (d : Nat) : Bool := l.any (Nat.beq d)
def putS (n : Nat) (fw : List Nat) (s : St) (dst : Option Tmp) (tag : Option GKey) (sv : SV) (K : St → Prop) : Prop := match dst with
  | none => K s
  | some d => bif Nat.blt d n then (bif s.gs.all (fun g => !(Nat.beq g.slot d)) then (bif memN fw d then False else K { s with fr := ⟨d, tag, sv⟩ :: s.fr }) else False) else False
def sync (s : St) (w : World) (K : St → World → Prop) : Prop :=
  bif s.chg then Up s.dirty (regIds s.rg) w (fun w' => K { s with dirty := [], chg := false } w') else K s w
theorem findG_mem : ∀ {l : List GEnt} {k : GKey} {r : GEnt}, findG l k = some r → r ∈ l
  | [], _, _, h => by cases h
  | e :: l, k, r, h => by
    simp only [findG] at h
    cases hb : gkEq e.key k with
    | true => simp [hb] at h; subst h; exact List.mem_cons_self
    | false => simp [hb] at h; exact List.mem_cons_of_mem _ (findG_mem h)
theorem Rel.put {n : Nat} {s : St} {w : World} {a : Act} {cw : World} (h : Rel n s w a cw) {d : Nat} {tag : Option GKey} {sv : SV} {x : Value} {c : Bool}
    (hd : d < n) (hgs : s.gs.all (fun g => !(Nat.beq g.slot d)) = true) (ht : tagCond s.gs tag = some c) (hx : c = true → svVal s.rg sv x) (hu : c = false → x = undef) :
    Rel n { s with fr := ⟨d, tag, sv⟩ :: s.fr } w (a.put (some d) x) cw := by
  refine ⟨h.dfr, by simpa [Act.put] using h.sz, ?_, h.anc, h.gbase, ?_, h.reg, h.dis, h.wfr, h.wfg, h.wor, h.syn⟩
  case refine_2 =>
    intro k g hg
    have hm := findG_mem hg
    have hs := List.all_eq_true.1 hgs g hm
    have hne : d ≠ g.slot := fun e => by subst e; simp at hs
    have : (a.put (some d) x).tmps[g.slot]? = a.tmps[g.slot]? := by simp [Act.put, Array.getElem?_setIfInBounds_ne hne]
    rw [this]
    exact h.gslot k g hg
  intro t e he
  simp only [findE] at he
  have hsz : d < a.tmps.size := by rw [h.sz]; exact hd
  cases hb : Nat.beq d t with
  | true =>
    have := Nat.eq_of_beq_eq_true hb
    subst this
    simp only [hb, cond_true, Option.some.injEq] at he
    subst he
    refine ⟨c, ht, hd, fun hc => ⟨x, hx hc, ?_⟩, fun hc => ?_⟩
    · simp [Act.put, hsz]
    · simp [Act.put, hsz, hu hc]
  | false =>
    simp only [hb, cond_false] at he
    have hne : d ≠ t := fun e => by subst e; simp at hb
    obtain ⟨c', h1, h2, h3, h4⟩ := h.ent t e he
    have : (a.put (some d) x).tmps[t]? = a.tmps[t]? := by simp [Act.put, Array.getElem?_setIfInBounds_ne hne]
    rw [this]
    exact ⟨c', h1, h2, h3, h4⟩
theorem Rel.world {n : Nat} {s : St} {w : World} {a : Act} {cw : World} (h : Rel n s w a cw) {cw' : World}
    (hr : ∀ k r, findR s.rg k = some r → cw'.heap[r.blk]? = cw.heap[r.blk]?) : Rel n { s with dirty := [], chg := false } cw' a cw' :=
  ⟨h.dfr, h.sz, h.ent, h.anc, h.gbase, h.gslot, fun k r hk => (hr k r hk).trans (h.reg k r hk), h.dis, h.wfr, h.wfg, Md.refl _ _, fun _ => rfl⟩
theorem findR_mem : ∀ {l : List Reg} {k : Nat} {r : Reg}, findR l k = some r → r ∈ l
  | [], _, _, h => by cases h
  | e :: l, k, r, h => by
    simp only [findR] at h
    cases hb : Nat.beq e.key k with
    | true => simp [hb] at h; subst h; exact List.mem_cons_self
    | false => simp [hb] at h; exact List.mem_cons_of_mem _ (findR_mem h)
theorem findR_of_mem : ∀ {l : List Reg} {r : Reg}, nodupR l = true → r ∈ l → findR l r.key = some r
  | [], _, _, h => by cases h
  | e :: l, r, hn, h => by
    simp only [nodupR] at hn
    simp only [findR]
    cases h with
    | head => simp
    | tail _ h =>
      cases hf : findR l e.key with
      | some _ => simp [hf] at hn
      | none =>
        simp only [hf] at hn
        have ih := findR_of_mem hn h
        cases hb : Nat.beq e.key r.key with
        | true => rw [Nat.eq_of_beq_eq_true hb, ih] at hf; cases hf
        | false => simpa using ih
/-- What may not turn has not turned. -/
structure Ag (fw : List Nat) (fs : Nat → Bool) (s s' : St) : Prop where
  fr : ∀ t ∈ fw, ∀ e, findE s.fr t = some e → e.tag = none → findE s'.fr t = some e
  rg : ∀ k, fs k = true → findR s'.rg k = findR s.rg k
  bk : ∀ k r, findR s.rg k = some r → ∃ r', findR s'.rg k = some r' ∧ r'.blk = r.blk ∧ r'.ty = r.ty ∧ r'.big = r.big
theorem Ag.refl (fw : List Nat) (fs : Nat → Bool) (s : St) : Ag fw fs s s := ⟨fun _ _ _ h _ => h, fun _ _ => rfl, fun _ r h => ⟨r, h, rfl, rfl, rfl⟩⟩
theorem Ag.trans {fw : List Nat} {fs : Nat → Bool} {a b c : St} (h : Ag fw fs a b) (k : Ag fw fs b c) : Ag fw fs a c :=
  ⟨fun t ht e he hn => k.fr t ht e (h.fr t ht e he hn) hn, fun q hq => (k.rg q hq).trans (h.rg q hq),
    fun q r hr => by
      obtain ⟨r1, h1, e1, e2, e3⟩ := h.bk q r hr
      obtain ⟨r2, h2, f1, f2, f3⟩ := k.bk q r1 h1
      exact ⟨r2, h2, f1.trans e1, f2.trans e2, f3.trans e3⟩⟩
theorem Ag.same {fw : List Nat} {fs : Nat → Bool} {a b : St} (h1 : b.fr = a.fr) (h2 : b.rg = a.rg) : Ag fw fs a b := ⟨fun t _ e he _ => by rw [h1]; exact he, fun _ _ => by rw [h2], fun _ r hr => ⟨r, by rw [h2]; exact hr, rfl, rfl, rfl⟩⟩
theorem Ag.put {fw : List Nat} {fs : Nat → Bool} {s : St} {d : Nat} {tag : Option GKey} {sv : SV} (h : memN fw d = false) : Ag fw fs s { s with fr := ⟨d, tag, sv⟩ :: s.fr } := by
  refine ⟨fun t ht e he _ => ?_, fun _ _ => rfl, fun _ r h => ⟨r, h, rfl, rfl, rfl⟩⟩
  have hne : Nat.beq d t = false := by
    cases hb : Nat.beq d t with
    | false => rfl
    | true =>
      exfalso
      have : memN fw d = true := List.any_eq_true.2 ⟨t, ht, hb⟩
      rw [h] at this; cases this
  simp [findE, hne, he]
theorem sync_sound {n : Nat} {s : St} {w : World} {a : Act} {cw : World} (h : Rel n s w a cw) {K : St → World → Prop} (hk : sync s w K) :
    ∃ s', Rel n s' cw a cw ∧ K s' cw ∧ s'.fr = s.fr ∧ s'.gs = s.gs ∧ s'.rg = s.rg := by
  unfold sync at hk
  cases hc : s.chg with
  | true =>
    simp only [hc, cond_true] at hk
    refine ⟨_, h.world (fun _ _ _ => rfl), hk cw h.wor ?_, rfl, rfl, rfl⟩
    intro b hb
    simp only [regIds, List.mem_map] at hb
    obtain ⟨r, hr, rfl⟩ := hb
    exact (Array.getElem?_eq_some_iff.1 (h.reg r.key r (findR_of_mem h.wfr hr))).1
  | false =>
    simp only [hc, cond_false] at hk
    have := h.syn hc
    subst this
    exact ⟨s, h, hk, rfl, rfl, rfl⟩
theorem cellsAt_run {P : Program} {w : World} {A : Addr} : ∀ (n i : Nat) (l : List Value) (acc : Array Value), cellsAt w A i n = some l →
    (loadCellsFrom A i n acc).run P w = .ok (acc ++ l.toArray) w
  | 0, i, l, acc, h => by simp [cellsAt] at h; subst h; simp [loadCellsFrom]
  | n + 1, i, l, acc, h => by
    simp only [cellsAt] at h
    split at h
    · rename_i v l' hv hl'
      simp only [Option.some.injEq] at h
      subst h
      simp only [loadCellsFrom, load, Sem.run_bind]
      have : (Sem.load Mode.plain (A.add i) Sem.pure).run P w = .ok v w := by simp [Sem.run, hv]
      rw [this]
      simp only [Result.andThen_ok]
      rw [cellsAt_run n (i + 1) l' (acc.push v) hl']
      simp
    · cases h
theorem cellsAt_get {w : World} {A : Addr} : ∀ (n i : Nat) (l : List Value), (∀ j, j < n → w.cell? (A.add (i + j)) = l[j]?) → l.length = n → cellsAt w A i n = some l
  | 0, i, l, h, hl => by simp at hl; subst hl; rfl
  | n + 1, i, [], h, hl => by cases hl
  | n + 1, i, v :: l, h, hl => by
    have h0 := h 0 (by omega)
    have ih := cellsAt_get n (i + 1) l (fun j hj => by have := h (j + 1) (by omega); rw [show i + 1 + j = i + (j + 1) by omega, this]; rfl) (by simpa using hl)
    simp only [Nat.add_zero, List.getElem?_cons_zero] at h0
    simp [cellsAt, h0, ih]
theorem run_isAgg {P : Program} {t : TypeId} {w : World} {d : TypeDesc} (h : P.underlying t = some d) : (isAgg t).run P w = .ok (isAggT P t) w := by
  unfold isAgg isAggT
  simp only [Sem.run_bind, run_underlying h, Result.andThen_ok, h]
  cases d <;> rfl
theorem run_size {P : Program} {t : TypeId} {w : World} {n : Nat} (h : szOf P t = some n) : (Go.sizeOf t).run P w = .ok n w := by
  unfold szOf at h
  cases hi : P.info? t with
  | none => simp [hi] at h
  | some i =>
    simp [hi] at h
    subst h
    simp [Go.sizeOf, typeInfo, hi]
/-- A variable is read out of memory. -/
def LdV (P : Program) (t : TypeId) (w : World) (A : Addr) (K : Value → Prop) : Prop := match P.underlying t with
  | some _ => match isAggT P t with
    | true => match szOf P t with | some n => LdG w A n fun l => K (.agg l.toArray) | none => False
    | false => Ld w A K
  | none => False
theorem LdV_sound {P : Program} {t : TypeId} {w : World} {A : Addr} {K : Value → Prop} (h : LdV P t w A K) : ∃ v, (loadVar t A).run P w = .ok v w ∧ K v := by
  unfold LdV at h
  split at h
  · rename_i d hd
    split at h
    · rename_i ha
      split at h
      · rename_i n hn
        obtain ⟨l, hl, h⟩ := LdG_out h
        refine ⟨_, ?_, h⟩
        have := cellsAt_run (P := P) n 0 l #[] hl
        simp only [loadVar, Sem.run_bind, run_isAgg hd, Result.andThen_ok, ha, if_true, run_size hn, loadCells, this]
        simp
      · exact h.elim
    · rename_i ha
      unfold Ld at h
      split at h
      · rename_i v hv
        refine ⟨v, ?_, h⟩
        simp only [loadVar, Sem.run_bind, run_isAgg hd, Result.andThen_ok, ha]
        simp [load, Sem.run, hv]
      · exact h.elim
  · exact h.elim
theorem add_block (A : Addr) (i : Nat) : (A.add i).block = A.block := by
  unfold Addr.add
  split <;> rfl
theorem setCells_heap {A : Addr} : ∀ (l : List Value) (i : Nat) (w : World) (b : Nat), b ≠ A.block → (setCells w A i l).heap[b]? = w.heap[b]? := by
  intro l
  induction l with
  | nil => intro i w b _; rfl
  | cons v l ih =>
    intro i w b h
    simp only [setCells]
    rw [ih (i + 1) _ b h]
    exact Below.heap_setCell w (A.add i) v b (by rw [add_block]; exact h)
theorem frozen_setCell (w : World) (A B : Addr) (v : Value) : (w.setCell A v).frozen? B = w.frozen? B := by
  unfold World.frozen? World.setCell
  simp only [Array.getElem?_modify]
  by_cases h : A.block = B.block
  · rw [if_pos h]
    cases hb : w.heap[B.block]? with
    | none => simp
    | some o => cases o <;> simp
  · rw [if_neg h]
theorem storeCells_run {P : Program} {A : Addr} : ∀ (l : List Value) (i : Nat) (w : World), allOne l = true →
    (∀ j, j < l.length → (∃ u, w.cell? (A.add (i + j)) = some u) ∧ w.frozen? (A.add (i + j)) = false) →
    (storeCells A l i).run P w = .ok () (setCells w A i l)
  | [], i, w, _, _ => by simp [storeCells, setCells]
  | v :: l, i, w, h1, h2 => by
    have hv : v.oneCell' = true := by simp [allOne] at h1; exact h1.1
    have hl : allOne l = true := by simp [allOne] at h1 ⊢; exact h1.2
    obtain ⟨⟨u, hu⟩, hf⟩ := h2 0 (by simp)
    simp only [Nat.add_zero] at hu hf
    simp only [storeCells, Sem.run_bind]
    have : (store (A.add i) v).run P w = .ok () (w.setCell (A.add i) v) := by
      unfold store
      cases v <;> simp [Value.oneCell'] at hv <;> simp [Sem.run, hu, hf]
    rw [this]
    simp only [Result.andThen_ok, setCells]
    exact storeCells_run l (i + 1) _ hl fun j hj => by
      obtain ⟨⟨u', hu'⟩, hf'⟩ := h2 (j + 1) (by simp; omega)
      rw [show i + 1 + j = i + (j + 1) by omega]
      refine ⟨cell?_setCell_some (w := w) (p := A.add i) (x := v) hu', ?_⟩
      rw [frozen_setCell]; exact hf'
/-- A variable is written. -/
def StV (P : Program) (L : List Nat) (t : TypeId) (w : World) (A : Addr) (l : List Value) (K : World → Prop) : Prop := match szOf P t with
  | some n => OkC l n (A.block ∉ L ∧ Wr w A n ∧ K (setCells w A 0 l))
  | none => False
theorem StV_sound {P : Program} {t : TypeId} {w : World} {A : Addr} {v : Value} {K : World → Prop} {L : List Nat} (h : StV P L t w A (cL v) K) :
    ∃ w', (storeVar t A v).run P w = .ok () w' ∧ Kept L w w' ∧ K w' := by
  unfold StV at h
  split at h
  · rename_i n hn
    unfold OkC at h
    cases ho : okCells (cL v) n with
    | false => simp [ho] at h
    | true =>
      simp only [ho, cond_true] at h
      obtain ⟨hL, hw, hk⟩ := h
      unfold okCells at ho
      cases hb : Nat.beq (cL v).length n with
      | false => simp [hb] at ho
      | true =>
        simp only [hb, cond_true] at ho
        have hlen := Nat.eq_of_beq_eq_true hb
        refine ⟨_, ?_, fun b hb => setCells_heap _ _ _ _ (fun e => hL (e ▸ hb)), hk⟩
        have hsz : v.cells.size = n := by simpa [cL] using hlen
        simp only [storeVar, Sem.run_bind, run_size hn, Result.andThen_ok, hsz]
        have hr := storeCells_run (P := P) (A := A) (cL v) 0 w ho (fun j hj => by simpa using hw j (by omega))
        have hl : v.cells.toList = cL v := rfl
        rw [hl]
        simpa using hr
  · exact h.elim
end Fk
set_option linter.unusedVariables false
set_option linter.unusedSimpArgs false
namespace Fk
open Go Go.RowKit
def nthV (l : List Value) (o : Nat) : Option Value := l[o]?
def rdI (l : List Value) (o : Nat) : Int := match l[o]? with | some (.int _ x) => x | _ => 0
def isI (k : IntKind) (l : List Value) (o : Nat) : Prop := ∃ x, l[o]? = some (.int k x)
def pm (ρ : Operand → Value) (ps : Array (Nat × Operand)) : List (Nat × Value) := ps.toList.map fun p => (p.1, ρ p.2)
/-- A small type's cells. -/
def smallT (P : Program) (t : TypeId) : Bool := match shOf P t with | .big _ => false | _ => true
def findGS : List GEnt → Nat → Option GEnt
  | [], _ => none
  | e :: l, t => bif Nat.beq e.slot t then some e else findGS l t
def scI (P : Program) (t : TypeId) : Option IntKind := match P.underlying t with | some (.int k) => some k | _ => none
def arrOf (P : Program) (t : TypeId) : Option (Nat × Nat) := match P.underlying t with
  | some (.array n e) => match szOf P e with | some sz => some (n, sz) | none => none
  | _ => none
def sliceSz (P : Program) (t : TypeId) : Option Nat := match P.underlying t with
  | some (.slice e) => szOf P e
  | _ => none
def isStrT (P : Program) (t : TypeId) : Bool := match P.underlying t with | some .string => true | _ => false
/-- A cell that is read where its guard says so: what it is stands behind 'there is'. -/
def gCell (P : Program) (t : TypeId) (l : List Value) (o : Nat) (g : Option Bool) (K : SV → Prop) : Prop := match csOf P t with
  | .l => ∃ a n c, Cn g (nthV l o = some (.slice a n c)) (K (.v (.slice a n c)))
  | .s => ∃ s, Cn g (nthV l o = some (.string s)) (K (.v (.string s)))
  | .b => ∃ b, Cn g (nthV l o = some (.bool b)) (K (.v (.bool b)))
  | .p => ∃ a, Cn g (nthV l o = some (.pointer a)) (K (.v (.pointer a)))
  | _ => False
/-- A register's part is read. -/
def regLd (P : Program) (t : TypeId) (r : Reg) (o : Nat) (g : Option Bool) (K : SV → Prop) : Prop :=
  match P.underlying t with
  | none => False
  | some _ => match r.big with
    | false => match isAggT P t with
      | true => match szOf P t with
        | some n => bif Nat.ble (o + n) r.cells.length then K (.v (.agg ((r.cells.drop o).take n).toArray)) else False
        | none => False
      | false => BdO (nthV r.cells o) fun v => opS (shpOf P t) v fun v => K (.v v)
    | true => match isAggT P t with
      | true => match szOf P t with
        | some n => bif (bif Nat.beq r.ty t then Nat.beq o 0 else false) then Cn g (r.cells.length = n) (K (.v (.agg r.cells.toArray)))
          else Cn g (o + n ≤ r.cells.length) (Bd ((r.cells.drop o).take n).toArray fun cs => match g with
            | none => opS (shpOf P t) (.agg cs) fun v => K (.v v)
            | some _ => K (.v (.agg cs)))
        | none => False
      | false => match g with
        | none => BdO (nthV r.cells o) fun v => opS (shpOf P t) v fun v => K (.v v)
        | some _ => match scI P t with
          | some k => Cn g (isI k r.cells o) (Bd (rdI r.cells o) fun x => K (.v (.int k x)))
          | none => gCell P t r.cells o g K
def fieldTy (P : Program) (t : TypeId) (f : Nat) : Option (TypeId × Nat) := match P.underlying t with
  | some (.struct fs) => match fs[f]? with | some fd => some (fd.type, fd.offset) | none => none
  | _ => none
/-- A field of a great value. -/
def fieldW (P : Program) (s : St) (γ : List GKey) (g : Option Bool) (t : TypeId) (x : Operand) (f : Nat) (K : SV → Prop) (N : Prop) : Prop := bif smallT P t then N else
  match evV s γ x, fieldTy P t f with
  | some (.agg cs), some (ft, off) => match scI P ft with
    | some k => Cn g (isI k cs.toList off) (Bd (rdI cs.toList off) fun x => K (.v (.int k x)))
    | none => False
  | _, _ => False
def pickW (s : St) (γ : List GKey) (c a b : Operand) (K : SV → Prop) : Prop := match c with
  | .tmp t => match findGS s.gs t with
    | some g => bif g.anc.all (fun k => γ.any (gkEq k)) then
        (match evV s (bif g.key.2 then g.key :: γ else γ) a, evV s (bif g.key.2 then γ else g.key :: γ) b with
          | some (.bool x), some (.bool y) => Bd (bif g.b then x else y) fun z => K (.v (.bool z))
          | _, _ => False)
        else False
    | none => match evV s γ c, evV s γ a, evV s γ b with
      | some (.bool t), some (.bool x), some (.bool y) => Bd (bif t then x else y) fun z => K (.v (.bool z))
      | _, _, _ => False
  | _ => False
/-- The shape of what an operation that turns no memory gives. -/
def outS (P : Program) (o : Oper) : Shp := match o.op with
  | .binOp .eql _ _ _ _ | .binOp .neq _ _ _ _ | .binOp .lss _ _ _ _ | .binOp .leq _ _ _ _ | .binOp .gtr _ _ _ _ | .binOp .geq _ _ _ _ => .one (.one .b)
  | .sliceToArrayPointer _ _ => .one (.one .p)
  | _ => shpOf P o.type
def cmT (P : Program) (n : Nat) (o : Oper) (s : St) (γ : List GKey) (K : SV → Prop) : Prop :=
  bif kn s γ o.op.operands.toList then
    (match pureEval P (execOp (rho s γ) o) with
      | some (.value v) => opS (outS P o) v fun v => K (.v v)
      | _ => False)
  else False
/-- Operations that turn no memory: this says what follows; 'N' is left to others. -/
def opCore (P : Program) (fz : Nat → Bool) (s : St) (γ : List GKey) (g : Option Bool) (o : Oper) (K : SV → Prop) (N : Prop) : Prop := match o.op with
  | .move x | .assign x => match evS s γ x with | some sv => K sv | none => False
  | .pick c a b => pickW s γ c a b K
  | .fieldAddr t x f => match fieldOff P t f, evS s γ x with
    | some off, some (.p k o') => K (.p k (o' + off))
    | some off, some (.v (.pointer (some A))) => K (.v (.pointer (some (A.add off))))
    | _, _ => False
  | .indexAddr t x i => match evV s γ i with
    | some (.int ik iv) => match evS s γ x, arrOf P t, sliceSz P t with
      | some (.p k o'), some (n, sz), _ => match constNN i with
        | true => bif decide (iv < n) then K (.p k (o' + iv.toNat * sz)) else False
        | false => Cn g (0 ≤ iv ∧ iv < n) (K (.p k (o' + iv.toNat * sz)))
      | some (.v (.pointer (some A))), some (n, sz), _ => Cn g (0 ≤ iv ∧ iv < n) (K (.v (.pointer (some (A.add (iv.toNat * sz))))))
      | some (.v (.slice a n _)), none, some sz => Cn g (IxOk iv n a) (K (.v (.pointer (some (adAt a iv sz)))))
      | _, _, _ => False
    | _ => False
  | .nilCheck x => match evS s γ x with
    | some (.p k o') => K (.p k o')
    | some (.v (.pointer a)) => match g with
      | none => NN a fun ad => K (.v (.pointer (some ad)))
      | some c => (c = true → a.isSome = true) ∧ Bd (a.getD default) fun ad => K (.v (.pointer (some ad)))
    | some (.v (.func (.func f) x y)) => K (.v (.func (.func f) x y))
    | _ => False
  | .load t x => match evS s γ x with
    | some (.p k o') => bif fz k then (match findR s.rg k with | some r => regLd P t r o' g K | none => False) else N
    | _ => N
  | .index t x i => match evV s γ x, evV s γ i, isStrT P t with
    | some (.string s), some (.int _ iv), true => Cn g (0 ≤ iv ∧ iv < s.size) (Bd (byteAt s iv) fun b => K (.v (.int .u8 b)))
    | _, _, _ => N
  | .build t ps => bif smallT P t then (bif kn s γ o.op.operands.toList then
      (match P.built t (pm (rho s γ) ps) with | some cs => K (.v (.agg cs)) | none => False) else False) else N
  | .field t x f => fieldW P s γ g t x f K (cmT P 0 o s γ K)
  | .binOp .quo t x y _ => match scI P t, constNZ y with
    | some _, true => cmT P 0 o s γ K
    | some k, false => match evV s γ x, evV s γ y with
      | some (.int k1 a), some (.int k2 b) => bif decide (k1 = k2) then Cn g (b ≠ 0) (Bd (k1.wrap (a.tdiv b)) fun r => K (.v (.int k1 r))) else False
      | _, _ => False
    | none, _ => N
  | .binOp .rem t x y _ => match scI P t, constNZ y with
    | some _, true => cmT P 0 o s γ K
    | some k, false => match evV s γ x, evV s γ y with
      | some (.int k1 a), some (.int k2 b) => bif decide (k1 = k2) then Cn g (b ≠ 0) (Bd (a.tmod b) fun r => K (.v (.int k1 r))) else False
      | _, _ => False
    | none, _ => N
  | .binOp .shl t x y _ => match constNN y with
    | true => cmT P 0 o s γ K
    | false => match evV s γ x, evV s γ y with
      | some (.int k1 a), some (.int k2 b) => Cn g (0 ≤ b) (Bd (k1.wrap (a * 2 ^ (min b.toNat k1.bits))) fun r => K (.v (.int k1 r)))
      | _, _ => False
  | .binOp .shr t x y _ => match constNN y with
    | true => cmT P 0 o s γ K
    | false => match evV s γ x, evV s γ y with
      | some (.int k1 a), some (.int k2 b) => Cn g (0 ≤ b) (Bd (a.fdiv (2 ^ (min b.toNat k1.bits))) fun r => K (.v (.int k1 r)))
      | _, _ => False
  | _ => bif isT P o then cmT P 0 o s γ K else N
/-- What an operation comes to, in whatever world has the registers that may be read. -/
def Gives (P : Program) (fz : Nat → Bool) (s : St) (γ : List GKey) (g : Option Bool) (o : Oper) (a : Act) (sv : SV) : Prop :=
  Ctx s.gs γ → (g ≠ some false) → ∃ x, svVal s.rg sv x ∧ ∀ cw' : World, (∀ k r, fz k = true → findR s.rg k = some r → cw'.heap[r.blk]? = some (.cells r.cells.toArray r.ty (0, 0))) →
    (execOp a.eval o).run P cw' = .ok (.value x) cw'
theorem Cn_out {g : Option Bool} {p A : Prop} (h : Cn g p A) : A ∧ (g ≠ some false → p) := by
  unfold Cn at h
  split at h
  · exact ⟨h.2, fun _ => h.1⟩
  · rename_i c
    refine ⟨h.2, fun hg => h.1 ?_⟩
    cases c
    · exact absurd rfl hg
    · rfl
theorem operands_eq {o : Oper} {s : St} {γ : List GKey} {n : Nat} {w cw : World} {a : Act} (h : Rel n s w a cw) (hc : Ctx s.gs γ)
    (hs : ∀ cs b, o.op ≠ .select cs b) (hk : kn s γ o.op.operands.toList = true) : execOp a.eval o = execOp (rho s γ) o :=
  execOp_congr o hs fun x hx => (h.rho hc _ hk x (by simpa using hx)).symm
theorem cmT_sound {P : Program} {fz : Nat → Bool} {n : Nat} {s : St} {w cw : World} {a : Act} (h : Rel n s w a cw) {γ : List GKey} {g : Option Bool} {o : Oper} {K : SV → Prop}
    (hs : ∀ cs b, o.op ≠ .select cs b) {m : Nat} (hop : cmT P m o s γ K) : ∃ sv, K sv ∧ Gives P fz s γ g o a sv := by
  unfold cmT at hop
  cases hk : kn s γ o.op.operands.toList with
  | false => simp [hk] at hop
  | true =>
    simp only [hk, cond_true] at hop
    split at hop
    · rename_i v hv
      refine ⟨_, opS_sound hop, fun hc _ => ⟨v, rfl, fun cw' _ => ?_⟩⟩
      rw [operands_eq h hc hs hk]
      exact pureEval_run hv cw'
    · exact hop.elim
theorem regLd_sound {P : Program} {t : TypeId} {r : Reg} {o : Nat} {g : Option Bool} {K : SV → Prop} (h : regLd P t r o g K) :
    ∃ v, K (.v v) ∧ (g ≠ some false → ∀ cw' : World, cw'.heap[r.blk]? = some (.cells r.cells.toArray r.ty (0, 0)) → (loadVar t ⟨r.blk, o, none⟩).run P cw' = .ok v cw') := by
  have hcell : ∀ (cw' : World) (j : Nat), cw'.heap[r.blk]? = some (.cells r.cells.toArray r.ty (0, 0)) → cw'.cell? ((⟨r.blk, o, none⟩ : Addr).add j) = r.cells[o + j]? := by
    intro cw' j hb
    have e : ((⟨r.blk, o, none⟩ : Addr).add j) = ⟨r.blk, o + j, none⟩ := by
      unfold Addr.add
      split
      · rename_i h0; simp [h0]
      · rfl
    rw [e]
    simp [World.cell?, hb]
  have hagg : ∀ (d : TypeDesc) (n : Nat), P.underlying t = some d → isAggT P t = true → szOf P t = some n → o + n ≤ r.cells.length → ∀ cw' : World, cw'.heap[r.blk]? = some (.cells r.cells.toArray r.ty (0, 0)) →
      (loadVar t ⟨r.blk, o, none⟩).run P cw' = .ok (.agg ((r.cells.drop o).take n).toArray) cw' := by
    intro d n hd ha hn hlen cw' hb
    have hc : cellsAt cw' ⟨r.blk, o, none⟩ 0 n = some ((r.cells.drop o).take n) := by
      refine cellsAt_get n 0 _ (fun j hj => ?_) (by simp; omega)
      rw [hcell cw' _ hb]
      simp [List.getElem?_take, hj]
    have := cellsAt_run (P := P) n 0 _ #[] hc
    simp only [loadVar, Sem.run_bind, run_isAgg hd, Result.andThen_ok, ha, if_true, run_size hn, loadCells, this]
    simp
  have hone : ∀ (d : TypeDesc) (v : Value), P.underlying t = some d → isAggT P t = false → r.cells[o]? = some v → ∀ cw' : World, cw'.heap[r.blk]? = some (.cells r.cells.toArray r.ty (0, 0)) →
      (loadVar t ⟨r.blk, o, none⟩).run P cw' = .ok v cw' := by
    intro d v hd ha hv cw' hb
    have hc := hcell cw' 0 hb
    have e : ((⟨r.blk, o, none⟩ : Addr).add 0) = ⟨r.blk, o, none⟩ := rfl
    rw [e, Nat.add_zero, hv] at hc
    simp only [loadVar, Sem.run_bind, run_isAgg hd, Result.andThen_ok, ha]
    simp [load, Sem.run, hc]
  unfold regLd at h
  split at h
  · exact h.elim
  rename_i d hd
  split at h
  · split at h
    · rename_i ha
      split at h
      · rename_i n hn
        cases hb : Nat.ble (o + n) r.cells.length with
        | false => simp [hb] at h
        | true =>
          simp only [hb, cond_true] at h
          exact ⟨_, h, fun _ => hagg d n hd ha hn (Nat.le_of_ble_eq_true hb)⟩
      · exact h.elim
    · rename_i ha
      unfold BdO at h
      split at h
      · rename_i v hv
        exact ⟨v, opS_sound h, fun _ => hone d v hd ha hv⟩
      · exact h.elim
  · split at h
    · rename_i ha
      split at h
      · rename_i n hn
        cases hw : (bif Nat.beq r.ty t then Nat.beq o 0 else false) with
        | true =>
          simp only [hw, cond_true] at h
          have ho0 : o = 0 := by
            cases hb : Nat.beq r.ty t with
            | false => simp [hb] at hw
            | true => exact Nat.eq_of_beq_eq_true (by simpa [hb] using hw)
          subst ho0
          obtain ⟨h1, h2⟩ := Cn_out h
          refine ⟨_, h1, fun hg cw' hb => ?_⟩
          have := hagg d n hd ha hn (by have := h2 hg; omega) cw' hb
          rw [List.drop_zero, List.take_of_length_le (by have := h2 hg; omega)] at this
          exact this
        | false =>
        simp only [hw, cond_false] at h
        obtain ⟨h1, h2⟩ := Cn_out h
        simp only [Bd] at h1
        split at h1
        · exact ⟨_, opS_sound h1, fun hg => hagg d n hd ha hn (h2 hg)⟩
        · exact ⟨_, h1, fun hg => hagg d n hd ha hn (h2 hg)⟩
      · exact h.elim
    · rename_i ha
      split at h
      · unfold BdO at h
        split at h
        · rename_i v hv
          exact ⟨v, opS_sound h, fun _ => hone d v hd ha hv⟩
        · exact h.elim
      · split at h
        · rename_i k hk
          obtain ⟨h1, h2⟩ := Cn_out h
          refine ⟨_, h1, fun hg cw' hb => ?_⟩
          obtain ⟨x, hx⟩ := h2 hg
          have e : rdI r.cells o = x := by simp [rdI, hx]
          rw [e]
          exact hone d _ hd ha hx cw' hb
        · unfold gCell at h
          split at h
          · obtain ⟨a, n, c, h⟩ := h
            obtain ⟨h1, h2⟩ := Cn_out h
            exact ⟨_, h1, fun hg => hone d _ hd ha (h2 hg)⟩
          · obtain ⟨x, h⟩ := h
            obtain ⟨h1, h2⟩ := Cn_out h
            exact ⟨_, h1, fun hg => hone d _ hd ha (h2 hg)⟩
          · obtain ⟨x, h⟩ := h
            obtain ⟨h1, h2⟩ := Cn_out h
            exact ⟨_, h1, fun hg => hone d _ hd ha (h2 hg)⟩
          · obtain ⟨x, h⟩ := h
            obtain ⟨h1, h2⟩ := Cn_out h
            exact ⟨_, h1, fun hg => hone d _ hd ha (h2 hg)⟩
          · exact h.elim
theorem kEq_of {k1 k2 : IntKind} (h : decide (k1 = k2) = true) : k1 = k2 := of_decide_eq_true h
end Fk
set_option linter.unusedVariables false
set_option linter.unusedSimpArgs false
namespace Fk
open Go Go.RowKit
section
variable {P : Program} {w : World}
theorem fieldOff_run {t : TypeId} {f off : Nat} (h : fieldOff P t f = some off) (A : Addr) :
    (Instr.fieldAt t (.pointer (some A)) f).run P w = .ok (.pointer (some (A.add off))) w := by
  unfold fieldOff at h
  split at h
  · rename_i fs hu
    split at h
    · rename_i fd hf
      split at h
      · rename_i i hi
        cases hb : Nat.beq i.size 0 with
        | true => simp [hb] at h
        | false =>
          simp only [hb, cond_false, Option.some.injEq] at h
          subst h
          have hne : i.size ≠ 0 := fun e => by rw [e] at hb; simp at hb
          have hs : (Go.sizeOf fd.type).run P w = .ok i.size w := run_size (by simp [szOf, hi])
          simp only [Instr.fieldAt, Sem.run_bind, run_underlying hu, Result.andThen_ok, hf, Instr.sureAddr, Sem.run_pure, fieldPlace, hs]
          simp [hne]
      · cases h
    · cases h
  · cases h
theorem add_reg (b o off : Nat) : (⟨b, o, none⟩ : Addr).add off = ⟨b, o + off, none⟩ := by
  unfold Addr.add
  split
  · rename_i h; simp [h]
  · rfl
theorem arr_run {t : TypeId} {n sz : Nat} (h : arrOf P t = some (n, sz)) (A : Addr) (k : IntKind) (i : Int) (h0 : 0 ≤ i) (h1 : i < n) :
    (Instr.indexAt t (.pointer (some A)) (.int k i)).run P w = .ok (.pointer (some (A.add (i.toNat * sz)))) w := by
  unfold arrOf at h
  split at h
  · rename_i n' e hu
    split at h
    · rename_i sz' hsz
      simp only [Option.some.injEq, Prod.mk.injEq] at h
      obtain ⟨rfl, rfl⟩ := h
      simp only [Instr.indexAt, asIntOf, Sem.run_bind, Sem.run_pure, Result.andThen_ok, run_underlying hu, Instr.sureAddr]
      simp [h0, h1, run_size hsz]
    · cases h
  · cases h
theorem slice_run {t : TypeId} {sz : Nat} (h : sliceSz P t = some sz) (a : Option Addr) (n c : Nat) (k : IntKind) (i : Int) (hi : IxOk i n a) :
    (Instr.indexAt t (.slice a n c) (.int k i)).run P w = .ok (.pointer (some (adAt a i sz))) w := by
  obtain ⟨h0, h1, h2⟩ := hi
  obtain ⟨A, rfl⟩ := Option.isSome_iff_exists.1 h2
  unfold sliceSz at h
  split at h
  · rename_i e hu
    simp only [Instr.indexAt, asIntOf, Sem.run_bind, Sem.run_pure, Result.andThen_ok, run_underlying hu]
    simp [h0, h1, run_size h, adAt]
  · cases h
theorem str_run {t : TypeId} (h : isStrT P t = true) (s : ByteArray) (k : IntKind) (i : Int) (h0 : 0 ≤ i) (h1 : i < s.size) :
    (Instr.index t (.string s) (.int k i)).run P w = .ok (.int .u8 (byteAt s i)) w := by
  unfold isStrT at h
  split at h
  · rename_i hu
    have hlt : i.toNat < s.size := by omega
    have e : s[i.toNat]? = some (s[i.toNat]'hlt) := by simp [hlt]
    have e2 : byteAt s i = ((s[i.toNat]'hlt).toNat : Int) := by
      have hd : i.toNat < s.data.size := hlt
      have : s.data[i.toNat]? = some (s.data[i.toNat]'hd) := by simp [hd]
      simp only [byteAt, this]
      rfl
    simp only [Instr.index, asIntOf, Sem.run_bind, Sem.run_pure, Result.andThen_ok, run_underlying hu]
    simp [h0, e, e2]
  · cases h
theorem quo_run (k : IntKind) (t : TypeId) (a b : Int) (h : b ≠ 0) : (binOp .quo t (.int k a) (.int k b)).run P w = .ok (.int k (k.wrap (a.tdiv b))) w := by
  simp [binOp, Op.intDiv, h]
theorem rem_run (k : IntKind) (t : TypeId) (a b : Int) (h : b ≠ 0) : (binOp .rem t (.int k a) (.int k b)).run P w = .ok (.int k (a.tmod b)) w := by
  simp [binOp, Op.intDiv, h]
theorem shl_run (k k' : IntKind) (t : TypeId) (a b : Int) (h : 0 ≤ b) : (binOp .shl t (.int k a) (.int k' b)).run P w = .ok (.int k (k.wrap (a * 2 ^ (min b.toNat k.bits)))) w := by
  simp [binOp, Op.shift, show ¬ b < 0 by omega]
theorem shr_run (k k' : IntKind) (t : TypeId) (a b : Int) (h : 0 ≤ b) : (binOp .shr t (.int k a) (.int k' b)).run P w = .ok (.int k (a.fdiv (2 ^ (min b.toNat k.bits)))) w := by
  simp [binOp, Op.shift, show ¬ b < 0 by omega]
theorem eqGuard_run (op : BinOp) (t : TypeId) (x y : Operand) (a b : Value) (h : op ≠ .eql) (h' : op ≠ .neq) : (eqGuard op t x y a b).run P w = .ok () w := by
  unfold eqGuard
  cases op <;> first | exact absurd rfl h | exact absurd rfl h' | simp
end
theorem ctx_cons {gs : List GEnt} {γ : List GKey} {g : GEnt} (hc : Ctx gs γ) (hg : findG gs g.key = some g) (h : g.cond = true) : Ctx gs (g.key :: γ) := by
  intro k hk
  cases hk with
  | head => exact ⟨g, hg, h⟩
  | tail _ hk => exact hc k hk
theorem findGS_mem : ∀ {l : List GEnt} {t : Nat} {g : GEnt}, findGS l t = some g → g ∈ l ∧ g.slot = t
  | [], _, _, h => by cases h
  | e :: l, t, g, h => by
    simp only [findGS] at h
    cases hb : Nat.beq e.slot t with
    | true =>
      simp [hb] at h
      subst h
      exact ⟨List.mem_cons_self, Nat.eq_of_beq_eq_true hb⟩
    | false =>
      simp [hb] at h
      obtain ⟨h1, h2⟩ := findGS_mem h
      exact ⟨List.mem_cons_of_mem _ h1, h2⟩
theorem findG_key : ∀ {l : List GEnt} {k : GKey} {g : GEnt}, findG l k = some g → g.key = k
  | [], _, _, h => by cases h
  | e :: l, k, g, h => by
    simp only [findG] at h
    cases hb : gkEq e.key k with
    | true => simp [hb] at h; subst h; exact gkEq_iff.1 hb
    | false => simp [hb] at h; exact findG_key h
theorem findG_of_mem : ∀ {l : List GEnt} {g : GEnt}, nodupG l = true → g ∈ l → findG l g.key = some g
  | [], _, _, h => by cases h
  | e :: l, g, hn, h => by
    simp only [nodupG] at hn
    simp only [findG]
    cases h with
    | head => simp [gkEq_iff.2 rfl]
    | tail _ h =>
      cases hf : findG l e.key with
      | some _ => simp [hf] at hn
      | none =>
        simp only [hf] at hn
        have ih := findG_of_mem hn h
        cases hb : gkEq e.key g.key with
        | true => rw [gkEq_iff.1 hb, ih] at hf; cases hf
        | false => simpa using ih
theorem any_mem {γ : List GKey} {k : GKey} (h : γ.any (gkEq k) = true) : k ∈ γ := by
  simp only [List.any_eq_true] at h
  obtain ⟨k', hk', h⟩ := h
  rw [gkEq_iff.1 h]; exact hk'
section
variable {P : Program} {fz : Nat → Bool} {n : Nat} {s : St} {w cw : World} {a : Act} {γ : List GKey} {g : Option Bool} {o : Oper} {K : SV → Prop}
theorem pickW_sound (h : Rel n s w a cw) {c x y : Operand} (ho : o.op = .pick c x y) (hop : pickW s γ c x y K) : ∃ sv, K sv ∧ Gives P fz s γ g o a sv := by
  have key : ∀ (t : Bool) (u v : Value) , a.eval c = .bool t → (t = true → a.eval x = u) → (t = false → a.eval y = v) → ∀ cw' : World, (execOp a.eval o).run P cw' = .ok (.value (bif t then u else v)) cw' := by
    intro t u v h1 h2 h3 cw'
    simp only [execOp, ho, h1, asBool]
    cases t
    · simp [h3 rfl]
    · simp [h2 rfl]
  unfold pickW at hop
  split at hop
  · rename_i t
    split at hop
    · rename_i G hG
      obtain ⟨hmem, hslot⟩ := findGS_mem hG
      have hfind := findG_of_mem h.wfg hmem
      cases hanc : G.anc.all (fun k => γ.any (gkEq k)) with
      | false => simp [hanc] at hop
      | true =>
        simp only [hanc, cond_true] at hop
        split at hop
        · rename_i p q hx hy
          refine ⟨_, hop, fun hc _ => ⟨_, rfl, fun cw' _ => ?_⟩⟩
          have hbase : G.base = true := h.gbase _ _ hfind fun k' hk' => hc k' (any_mem (List.all_eq_true.1 hanc k' hk'))
          have hsl := (h.gslot _ _ hfind).1 hbase
          rw [hslot] at hsl
          have hev : a.eval (.tmp t) = .bool G.b := by
            obtain ⟨hlt, hx⟩ := Array.getElem?_eq_some_iff.1 hsl
            simp [Act.eval, Array.getD, hlt, hx]
          have sideT : ∀ (z : Operand) (v : Value), G.b = true → evV s (bif G.key.2 then G.key :: γ else γ) z = some v → a.eval z = v := by
            intro z v hb hz
            cases h2 : G.key.2 with
            | true =>
              simp only [h2, cond_true] at hz
              exact h.evV (ctx_cons hc (g := G) hfind (by unfold GEnt.cond; rw [hbase, h2, hb]; rfl)) hz
            | false => simp only [h2, cond_false] at hz; exact h.evV hc hz
          have sideF : ∀ (z : Operand) (v : Value), G.b = false → evV s (bif G.key.2 then γ else G.key :: γ) z = some v → a.eval z = v := by
            intro z v hb hz
            cases h2 : G.key.2 with
            | false =>
              simp only [h2, cond_false] at hz
              exact h.evV (ctx_cons hc (g := G) hfind (by unfold GEnt.cond; rw [hbase, h2, hb]; rfl)) hz
            | true => simp only [h2, cond_true] at hz; exact h.evV hc hz
          have := key G.b (.bool p) (.bool q) hev (fun hb => sideT x _ hb hx) (fun hb => sideF y _ hb hy) cw'
          rw [this]
          cases G.b <;> rfl
        · exact hop.elim
    · split at hop
      · rename_i t' p q h1 h2 h3
        refine ⟨_, hop, fun hc _ => ⟨_, rfl, fun cw' _ => ?_⟩⟩
        have := key t' _ _ (h.evV hc h1) (fun _ => h.evV hc h2) (fun _ => h.evV hc h3) cw'
        rw [this]
        cases t' <;> rfl
      · exact hop.elim
  · exact hop.elim
theorem opCore_sound (h : Rel n s w a cw) {N : Prop} (hop : opCore P fz s γ g o K N) : N ∨ ∃ sv, K sv ∧ Gives P fz s γ g o a sv := by
  have val : ∀ (sm : Sem Value) (v : Value), (∀ cw', execOp a.eval o = (do pure (.value (← sm)) : Sem Next) → sm.run P cw' = .ok v cw' → (execOp a.eval o).run P cw' = .ok (.value v) cw') := by
    intro sm v cw' he hr
    rw [he]
    simp [hr]
  unfold opCore at hop
  split at hop
  case h_1 x ho =>
    split at hop
    · rename_i sv hx
      exact .inr ⟨sv, hop, fun hc _ => ⟨a.eval x, h.evS hc hx, fun cw' _ => by simp [execOp, ho]⟩⟩
    · exact hop.elim
  case h_2 x ho =>
    split at hop
    · rename_i sv hx
      exact .inr ⟨sv, hop, fun hc _ => ⟨a.eval x, h.evS hc hx, fun cw' _ => by simp [execOp, ho]⟩⟩
    · exact hop.elim
  case h_3 c x y ho => exact .inr (pickW_sound h ho hop)
  case h_4 t x f ho =>
    split at hop
    · rename_i off k o' hf hx
      refine .inr ⟨_, hop, fun hc _ => ?_⟩
      obtain ⟨r, hr, he⟩ := h.evS hc hx
      refine ⟨_, ⟨r, hr, rfl⟩, fun cw' _ => ?_⟩
      refine val (Instr.fieldAt t (a.eval x) f) _ cw' (by simp [execOp, ho]) ?_
      rw [he, fieldOff_run hf, add_reg]
    · rename_i off A hf hx
      refine .inr ⟨_, hop, fun hc _ => ⟨_, rfl, fun cw' _ => ?_⟩⟩
      have he : a.eval x = _ := h.evS hc hx
      refine val (Instr.fieldAt t (a.eval x) f) _ cw' (by simp [execOp, ho]) ?_
      rw [he, fieldOff_run hf]
    · exact hop.elim
  case h_5 t x i ho =>
    split at hop
    case h_2 => exact hop.elim
    rename_i ik iv hi
    split at hop
    · rename_i so k o' n' sz hx ha
      split at hop
      · rename_i hcn
        cases hlt : decide (iv < (n' : Int)) with
        | false => simp [hlt] at hop
        | true =>
          simp only [hlt, cond_true] at hop
          refine .inr ⟨_, hop, fun hc _ => ?_⟩
          obtain ⟨r, hr, he⟩ := h.evS hc hx
          have h0 : 0 ≤ iv := by
            cases i with
            | const v =>
              simp only [evV, evS] at hi
              cases v <;> simp at hi <;> first | (obtain ⟨rfl, rfl⟩ := hi; simpa [constNN] using hcn) | skip
            | _ => simp [constNN] at hcn
          refine ⟨_, ⟨r, hr, rfl⟩, fun cw' _ => ?_⟩
          refine val (Instr.indexAt t (a.eval x) (a.eval i)) _ cw' (by simp [execOp, ho]) ?_
          rw [he, h.evV hc hi, arr_run ha _ _ _ h0 (of_decide_eq_true hlt), add_reg]
      · obtain ⟨h1, h2⟩ := Cn_out hop
        refine .inr ⟨_, h1, fun hc hg => ?_⟩
        obtain ⟨r, hr, he⟩ := h.evS hc hx
        refine ⟨_, ⟨r, hr, rfl⟩, fun cw' _ => ?_⟩
        refine val (Instr.indexAt t (a.eval x) (a.eval i)) _ cw' (by simp [execOp, ho]) ?_
        rw [he, h.evV hc hi, arr_run ha _ _ _ (h2 hg).1 (h2 hg).2, add_reg]
    · rename_i A n' sz _ hx ha
      obtain ⟨h1, h2⟩ := Cn_out hop
      refine .inr ⟨_, h1, fun hc hg => ⟨_, rfl, fun cw' _ => ?_⟩⟩
      have he : a.eval x = _ := h.evS hc hx
      refine val (Instr.indexAt t (a.eval x) (a.eval i)) _ cw' (by simp [execOp, ho]) ?_
      rw [he, h.evV hc hi, arr_run ha _ _ _ (h2 hg).1 (h2 hg).2]
    · rename_i a' n' _ sz hx _ hs
      obtain ⟨h1, h2⟩ := Cn_out hop
      refine .inr ⟨_, h1, fun hc hg => ⟨_, rfl, fun cw' _ => ?_⟩⟩
      have he : a.eval x = _ := h.evS hc hx
      refine val (Instr.indexAt t (a.eval x) (a.eval i)) _ cw' (by simp [execOp, ho]) ?_
      rw [he, h.evV hc hi, slice_run hs _ _ _ _ _ (h2 hg)]
    · exact hop.elim
  case h_6 x ho =>
    split at hop
    · rename_i k o' hx
      refine .inr ⟨_, hop, fun hc _ => ?_⟩
      obtain ⟨r, hr, he⟩ := h.evS hc hx
      exact ⟨_, ⟨r, hr, rfl⟩, fun cw' _ => by simp [execOp, ho, he]⟩
    · rename_i a' hx
      split at hop
      · unfold NN at hop
        split at hop
        · rename_i A
          refine .inr ⟨_, hop, fun hc _ => ⟨_, rfl, fun cw' _ => ?_⟩⟩
          have he : a.eval x = _ := h.evS hc hx
          simp [execOp, ho, he]
        · exact hop.elim
      · rename_i c
        refine .inr ⟨_, hop.2, fun hc hg => ⟨_, rfl, fun cw' _ => ?_⟩⟩
        have he : a.eval x = _ := h.evS hc hx
        have hcc : c = true := by cases c; exact absurd rfl hg; rfl
        obtain ⟨A, rfl⟩ := Option.isSome_iff_exists.1 (hop.1 hcc)
        simp [execOp, ho, he]
    · rename_i f x' y' hx
      refine .inr ⟨_, hop, fun hc _ => ⟨_, rfl, fun cw' _ => ?_⟩⟩
      have he : a.eval x = _ := h.evS hc hx
      simp [execOp, ho, he]
    · exact hop.elim
  case h_7 t x ho =>
    split at hop
    · rename_i k o' hx
      cases hf : fz k with
      | false => simp only [hf, cond_false] at hop; exact .inl hop
      | true =>
        simp only [hf, cond_true] at hop
        split at hop
        · rename_i r hr
          obtain ⟨v, hv, hrun⟩ := regLd_sound hop
          refine .inr ⟨_, hv, fun hc hg => ⟨_, rfl, fun cw' hreg => ?_⟩⟩
          obtain ⟨r', hr', he⟩ := h.evS hc hx
          rw [hr] at hr'
          cases hr'
          refine val (Instr.loadAt t (a.eval x)) _ cw' (by simp [execOp, ho]) ?_
          rw [he]
          simpa [Instr.loadAt, Instr.sureAddr] using hrun hg cw' (hreg k r hf hr)
        · exact hop.elim
    · exact .inl hop
  case h_8 t x i ho =>
    split at hop
    · rename_i sx ik iv hx hi hst
      obtain ⟨h1, h2⟩ := Cn_out hop
      refine .inr ⟨_, h1, fun hc hg => ⟨_, rfl, fun cw' _ => ?_⟩⟩
      refine val (Instr.index t (a.eval x) (a.eval i)) _ cw' (by simp [execOp, ho]) ?_
      rw [h.evV hc hx, h.evV hc hi, str_run hst _ _ _ (h2 hg).1 (h2 hg).2]
    · exact .inl hop
  case h_9 t ps ho =>
    cases hs : smallT P t with
    | false => simp only [hs, cond_false] at hop; exact .inl hop
    | true =>
      simp only [hs, cond_true] at hop
      cases hk : kn s γ o.op.operands.toList with
      | false => simp [hk] at hop
      | true =>
        simp only [hk, cond_true] at hop
        split at hop
        · rename_i cs hb
          refine .inr ⟨_, hop, fun hc _ => ⟨_, rfl, fun cw' _ => ?_⟩⟩
          rw [operands_eq h hc (by simp [ho]) hk]
          have e : (ps.map fun (i, x) => (i, rho s γ x)).toList = pm (rho s γ) ps := by simp [pm]
          simp [execOp, ho, run_build cw' t _ cs (by rw [e]; exact hb)]
        · exact hop.elim
  case h_10 t x f ho =>
    unfold fieldW at hop
    cases hsm : smallT P t with
    | true =>
      simp only [hsm, cond_true] at hop
      exact .inr (cmT_sound h (by simp [ho]) hop)
    | false =>
      simp only [hsm, cond_false] at hop
      split at hop
      · rename_i cs ft off hx hf
        split at hop
        · rename_i k hk
          obtain ⟨h1, h2⟩ := Cn_out hop
          refine .inr ⟨_, h1, fun hc hg => ⟨_, rfl, fun cw' _ => ?_⟩⟩
          obtain ⟨z, hz⟩ := h2 hg
          have hz' : cs[off]? = some (.int k z) := by simpa using hz
          refine val (Instr.field t (a.eval x) f) _ cw' (by simp [execOp, ho]) ?_
          rw [h.evV hc hx]
          unfold fieldTy at hf
          split at hf
          · rename_i fs hu
            split at hf
            · rename_i fd hfd
              simp only [Option.some.injEq, Prod.mk.injEq] at hf
              obtain ⟨rfl, rfl⟩ := hf
              unfold scI at hk
              split at hk
              · rename_i k' hku
                simp only [Option.some.injEq] at hk
                subst hk
                have ha : isAggT P fd.type = false := by simp [isAggT, hku]
                simp [Instr.field, run_underlying hu, hfd, asAgg, part, run_isAgg hku, ha, hz', rdI]
              · cases hk
            · cases hf
          · cases hf
        · exact hop.elim
      · exact hop.elim
  case h_11 t x y t' ho =>
    split at hop
    · exact .inr (cmT_sound h (by simp [ho]) hop)
    · rename_i k hk hz
      split at hop
      · rename_i k1 a1 k2 b1 hx hy
        cases hd : decide (k1 = k2) with
        | false => simp [hd] at hop
        | true =>
          simp only [hd, cond_true] at hop
          obtain rfl := kEq_of hd
          obtain ⟨h1, h2⟩ := Cn_out hop
          refine .inr ⟨_, h1, fun hc hg => ⟨_, rfl, fun cw' _ => ?_⟩⟩
          simp [execOp, ho, h.evV hc hx, h.evV hc hy, eqGuard_run, quo_run _ _ _ _ (h2 hg)]
      · exact hop.elim
    · exact .inl hop
  case h_12 t x y t' ho =>
    split at hop
    · exact .inr (cmT_sound h (by simp [ho]) hop)
    · rename_i k hk hz
      split at hop
      · rename_i k1 a1 k2 b1 hx hy
        cases hd : decide (k1 = k2) with
        | false => simp [hd] at hop
        | true =>
          simp only [hd, cond_true] at hop
          obtain rfl := kEq_of hd
          obtain ⟨h1, h2⟩ := Cn_out hop
          refine .inr ⟨_, h1, fun hc hg => ⟨_, rfl, fun cw' _ => ?_⟩⟩
          simp [execOp, ho, h.evV hc hx, h.evV hc hy, eqGuard_run, rem_run _ _ _ _ (h2 hg)]
      · exact hop.elim
    · exact .inl hop
  case h_13 t x y t' ho =>
    split at hop
    · exact .inr (cmT_sound h (by simp [ho]) hop)
    · split at hop
      · rename_i k1 a1 k2 b1 hx hy
        obtain ⟨h1, h2⟩ := Cn_out hop
        refine .inr ⟨_, h1, fun hc hg => ⟨_, rfl, fun cw' _ => ?_⟩⟩
        simp [execOp, ho, h.evV hc hx, h.evV hc hy, eqGuard_run, shl_run _ _ _ _ _ (h2 hg)]
      · exact hop.elim
  case h_14 t x y t' ho =>
    split at hop
    · exact .inr (cmT_sound h (by simp [ho]) hop)
    · split at hop
      · rename_i k1 a1 k2 b1 hx hy
        obtain ⟨h1, h2⟩ := Cn_out hop
        refine .inr ⟨_, h1, fun hc hg => ⟨_, rfl, fun cw' _ => ?_⟩⟩
        simp [execOp, ho, h.evV hc hx, h.evV hc hy, eqGuard_run, shr_run _ _ _ _ _ (h2 hg)]
      · exact hop.elim
  case h_15 =>
    cases hT : isT P o with
    | false => simp only [hT, cond_false] at hop; exact .inl hop
    | true =>
      simp only [hT, cond_true] at hop
      exact .inr (cmT_sound h (fun cs b e => by simp [isT, e] at hT) hop)
end
end Fk
set_option linter.unusedVariables false
set_option linter.unusedSimpArgs false
namespace Fk
open Go Go.RowKit
def eqS (op : BinOp) (t : TypeId) (x y : Operand) (a b : Value) : Sem Value := do eqGuard op t x y a b; binOp op t a b
def bsem (b : Builtin) (ts : Array TypeId) (ty : TypeId) (args : Array Value) : Option (Sem Value) := match b with
  | .append => some (Builtin.append_ ts ty args)
  | .clear => some (Builtin.clear_ ts ty args)
  | .copy => some (Builtin.copy_ ts ty args)
  | .delete => some (Builtin.delete_ ts ty args)
  | .len => some (Builtin.len_ ts ty args)
  | .max => some (Builtin.max_ ts ty args)
  | .min => some (Builtin.min_ ts ty args)
  | .unsafeSliceData => some (Builtin.unsafeSliceData_ ts ty args)
  | .unsafeString => some (Builtin.unsafeString_ ts ty args)
  | _ => none
def vals (ρ : Operand → Value) (l : Array Operand) : List Value := l.toList.map ρ
def om (ρ : Operand → Value) (o : Option Operand) : Option Value := match o with | some x => some (ρ x) | none => none
def semOf (ρ : Operand → Value) (o : Oper) : Option (Sem Value) := match o.op with
  | .binOp op t x y _ => some (eqS op t x y (ρ x) (ρ y))
  | .convert s d x => some (convert s d (ρ x))
  | .build t ps => some (Instr.build t (pm ρ ps).toArray)
  | .buildSlice t n ps => some (Instr.buildSlice t n (pm ρ ps).toArray)
  | .makeSlice t l c => some (Instr.makeSlice t (ρ l) (ρ c))
  | .slice t x lo hi mx => some (Instr.sliceAt t (ρ x) (om ρ lo) (om ρ hi) (om ρ mx))
  | .index t x i => some (Instr.index t (ρ x) (ρ i))
  | .lookup t x i ok => some (Instr.lookup t (ρ x) (ρ i) ok)
  | .sliceToArrayPointer t x => some (Instr.arrayAt t (ρ x))
  | .panic x => some (Instr.panic (ρ x))
  | .makeInterface t x => some (Instr.makeInterface t (ρ x))
  | .call { callee := .builtin b, args, argTypes } => bsem b argTypes o.type (vals ρ args).toArray
  | _ => none
theorem pm_eq (ρ : Operand → Value) (ps : Array (Nat × Operand)) : (ps.map fun (i, x) => (i, ρ x)) = (pm ρ ps).toArray := by
  apply Array.toList_inj.1
  simp [pm]
theorem semOf_exec {ρ : Operand → Value} {o : Oper} {sm : Sem Value} (h : semOf ρ o = some sm) (P : Program) (w : World) :
    (execOp ρ o).run P w = (sm.run P w).andThen fun v w' => .ok (.value v) w' := by
  unfold semOf at h
  split at h
  case h_1 op t x y _ ho => simp only [Option.some.injEq] at h; subst h; simp only [execOp, ho, eqS, Sem.run_bind]; cases (eqGuard op t x y (ρ x) (ρ y)).run P w <;> simp
  case h_4 t n ps ho => simp only [Option.some.injEq] at h; subst h; simp [execOp, ho, pm_eq]
  case h_3 t ps ho => simp only [Option.some.injEq] at h; subst h; simp [execOp, ho, pm_eq]
  case h_6 t x lo hi mx ho =>
    simp only [Option.some.injEq] at h
    subst h
    have e : ∀ q : Option Operand, q.map ρ = om ρ q := fun q => by cases q <;> rfl
    simp [execOp, ho, e]
  case h_12 b args ts ho =>
    have e : args.map ρ = (vals ρ args).toArray := by apply Array.toList_inj.1; simp [vals]
    cases b <;> simp only [bsem, Option.some.injEq] at h <;> first | (cases h; done) | (subst h; simp [execOp, ho, resolve, invoke, builtin, e])
  case h_13 => cases h
  all_goals (rename_i ho; simp only [Option.some.injEq] at h; subst h; simp [execOp, ho, eqS])
/-- A literal row whose elements stand in order. -/
def seqIdx : Nat → List (Nat × Value) → Bool
  | _, [] => true
  | i, p :: l => bif Nat.beq p.1 i then seqIdx (i + 1) l else false
def sizesOk (sz : Nat) : List (Nat × Value) → Bool
  | [] => true
  | p :: l => bif Nat.beq p.2.cells.size sz then sizesOk sz l else false
def flat : List (Nat × Value) → List Value
  | [] => []
  | p :: l => cL p.2 ++ flat l
def elemT (P : Program) (t : TypeId) : Option TypeId := match P.underlying t with | some (.slice e) => some e | _ => none
def rowPre (P : Program) (t : TypeId) (n : Nat) (ps : List (Nat × Value)) : Option (TypeId × Nat) := match elemT P t with
  | some e => match szOf P e with
    | some sz => bif seqIdx 0 ps && Nat.beq ps.length n && hasZero P e && Nat.ble (n * sz) 16777216 then some (e, sz) else none
    | none => none
  | none => none
def SzAll (sz : Nat) : List (Nat × Value) → Prop → Prop
  | [], Q => Q
  | p :: l, Q => SzIs (cL p.2).length sz (SzAll sz l Q)
theorem SzAll_out {sz : Nat} : ∀ {ps : List (Nat × Value)} {Q : Prop}, SzAll sz ps Q → sizesOk sz ps = true ∧ Q
  | [], _, h => ⟨rfl, h⟩
  | p :: l, Q, h => by
    simp only [SzAll] at h
    obtain ⟨h1, h2⟩ := SzIs_out h
    obtain ⟨h3, h4⟩ := SzAll_out h2
    refine ⟨?_, h4⟩
    simp only [sizesOk]
    have : Nat.beq p.2.cells.size sz = true := Nat.beq_eq.mpr (by simpa [cL] using h1)
    rw [this]
    exact h3
def rowLit (P : Program) (t : TypeId) (n : Nat) (ps : List (Nat × Value)) : Option (TypeId × List Value) := match elemT P t with
  | some e => match szOf P e with
    | some sz => bif seqIdx 0 ps && Nat.beq ps.length n && sizesOk sz ps && hasZero P e && Nat.ble (n * sz) 16777216 then some (e, flat ps) else none
    | none => none
  | none => none
/-- An operation that gives a value, in a world that is told. -/
def effVal (P : Program) (L : List Nat) (s : St) (γ : List GKey) (o : Oper) (KV : Value → World → Prop) (w : World) : Prop := match o.op with
  | .load t x => match evV s γ x with | some (.pointer (some A)) => LdV P t w A (fun v => KV v w) | _ => False
  | .alloc t => bif hasZero P t then Nw (.cells (zeroL P t).toArray t) w (fun b w' => KV (.pointer (some ⟨b, 0, none⟩)) w') else False
  | .box t x => match evV s γ x with | some v => Nw (.cells (cL v).toArray t) w (fun b w' => KV (.pointer (some ⟨b, 0, none⟩)) w') | none => False
  | .makeMap t none => Nw (.map #[] 0) w (fun b w' => KV (.map (some b)) w')
  | .call { callee := .value f, args, .. } => bif kn s γ args.toList then
      (match evV s γ f with | some (.func (.func k) first cap) => CallW P L k (first.toList ++ vals (rho s γ) args ++ cap.toList).toArray KV w | _ => False) else False
  | .buildSlice t n ps => bif kn s γ o.op.operands.toList then
      (match rowPre P t n (pm (rho s γ) ps) with
        | some (e, sz) => SzAll sz (pm (rho s γ) ps) (Nw (.cells (flat (pm (rho s γ) ps)).toArray e) w (fun b w' => KV (.slice (some ⟨b, 0, none⟩) n n) w'))
        | none => False) else False
  | _ => bif kn s γ o.op.operands.toList then (match semOf (rho s γ) o with | some sm => RunW P L sm KV w | none => False) else False
theorem fill_seq (sz : Nat) : ∀ (ps : List (Nat × Value)) (i : Nat) (done rest : List Value), seqIdx i ps = true → sizesOk sz ps = true → done.length = i * sz → rest.length = ps.length * sz →
    Instr.fill (fun i => some (i * sz, sz)) (done ++ rest).toArray ps = some (done ++ flat ps).toArray
  | [], i, done, rest, _, _, _, hr => by
    have : rest = [] := List.eq_nil_of_length_eq_zero (by simpa using hr)
    simp [Instr.fill, flat, this]
  | p :: l, i, done, rest, h1, h2, hd, hr => by
    obtain ⟨pi, pv⟩ := p
    simp only [seqIdx] at h1
    simp only [sizesOk] at h2
    cases hb : Nat.beq pi i with
    | false => simp [hb] at h1
    | true =>
      have hpi := Nat.eq_of_beq_eq_true hb
      subst hpi
      simp only [hb, cond_true] at h1
      cases hb2 : Nat.beq pv.cells.size sz with
      | false => simp [hb2] at h2
      | true =>
        have hsz := Nat.eq_of_beq_eq_true hb2
        simp only [hb2, cond_true] at h2
        simp only [List.length_cons, Nat.add_mul, Nat.one_mul] at hr
        have hlen : ¬(pv.cells.size ≠ sz ∨ pi * sz + pv.cells.size > (done ++ rest).toArray.size) := by
          simp only [List.size_toArray, List.length_append]
          omega
        have hcells : (pv.cells.zipIdx.foldl (fun cs (c, j) => cs.setIfInBounds (pi * sz + j) c) (done ++ rest).toArray) = (done ++ cL pv ++ rest.drop sz).toArray := by
          have gen : ∀ (vs : List Value) (k : Nat) (pre post : List Value), pre.length = pi * sz + k → vs.length ≤ post.length →
              (vs.zipIdx k).foldl (fun cs (c, j) => cs.setIfInBounds (pi * sz + j) c) (pre ++ post).toArray = (pre ++ vs ++ post.drop vs.length).toArray := by
            intro vs
            induction vs with
            | nil => intro k pre post _ _; simp
            | cons v vs ih =>
              intro k pre post hp hl
              cases post with
              | nil => simp at hl
              | cons q post =>
                simp only [List.zipIdx_cons, List.foldl_cons]
                have e : ((pre ++ q :: post).toArray.setIfInBounds (pi * sz + k) v) = ((pre ++ [v]) ++ post).toArray := by
                  simp [← hp]
                rw [e, ih (k + 1) (pre ++ [v]) post (by simp [hp]; omega) (by simpa using hl)]
                simp
          have := gen pv.cells.toList 0 done rest (by simp [hd]) (by simp [hsz]; omega)
          rw [← Array.foldl_toList, Array.toList_zipIdx]
          rw [this]
          simp [cL, hsz]
        simp only [Instr.fill]
        rw [if_neg (by simpa using hlen)]
        rw [hcells]
        have := fill_seq sz l (pi + 1) (done ++ cL pv) (rest.drop sz) h1 h2 (by simp [cL, hd, hsz, Nat.add_mul]) (by simp; omega)
        rw [this]
        simp [flat]
theorem rowLit_run {P : Program} {t : TypeId} {n : Nat} {ps : List (Nat × Value)} {e : TypeId} {cs : List Value} (h : rowLit P t n ps = some (e, cs)) (w : World) :
    (Instr.buildSlice t n ps.toArray).run P w = .ok (.slice (some ⟨w.heap.size, 0, none⟩) n n) (w.alloc (.cells cs.toArray e)) := by
  unfold rowLit at h
  split at h
  · rename_i e' he
    unfold elemT at he
    split at he
    · rename_i e'' hu
      simp only [Option.some.injEq] at he
      subst he
      split at h
      · rename_i sz hsz
        cases hb : seqIdx 0 ps && Nat.beq ps.length n && sizesOk sz ps && hasZero P e'' && Nat.ble (n * sz) 16777216 with
        | false => simp [hb] at h
        | true =>
          simp only [hb, cond_true, Option.some.injEq, Prod.mk.injEq] at h
          obtain ⟨rfl, rfl⟩ := h
          simp only [Bool.and_eq_true] at hb
          obtain ⟨⟨⟨⟨h1, h2⟩, h3⟩, h4⟩, h5⟩ := hb
          have hl := Nat.eq_of_beq_eq_true h2
          have h5 := Nat.le_of_ble_eq_true h5
          have hz : ∃ z, P.info? e'' = some z ∧ ∃ v, z.zero = some v := by
            unfold hasZero at h4
            cases hi : P.info? e'' with
            | none => simp [hi] at h4
            | some z => simp [hi] at h4; exact ⟨z, rfl, Option.isSome_iff_exists.1 h4⟩
          obtain ⟨z, hi, v, hv⟩ := hz
          have hzero : (zeroValue e'').run P w = .ok v w := by simp [zeroValue, typeInfo, hi, hv]
          simp only [Instr.buildSlice, Sem.run_bind, run_underlying hu, Result.andThen_ok, run_size hsz]
          rw [if_neg (by simp; omega)]
          have fin : ∀ (zs : Array Value), (Instr.fill (fun i => some (i * sz, sz)) ((Array.range (n * sz)).map (fun x => zs[x % zs.size]!)) ps) = some (flat ps).toArray := by
            intro zs
            have := fill_seq sz ps 0 [] ((Array.range (n * sz)).map (fun x => zs[x % zs.size]!)).toList h1 h3 (by simp) (by simp [hl])
            rw [List.nil_append, List.nil_append, Array.toArray_toList] at this
            exact this
          by_cases h0 : n * sz = 0
          · simp only [h0, if_true]
            have := fin #[]
            rw [h0] at this
            simp only [Sem.run_pure, Sem.run_bind, Result.andThen_ok]
            simp only [this]
            simp [newRow, newObj, Sem.run]
          · simp only [h0, if_false]
            simp only [Sem.run_pure, Sem.run_bind, hzero, Result.andThen_ok]
            have := fin v.cells
            simp [hzero, this, newRow, newObj, Sem.run]
      · cases h
    · cases he
  · cases h
section
variable {P : Program} {n : Nat} {s : St} {w : World} {a : Act} {γ : List GKey} {o : Oper} {KV : Value → World → Prop} {Q : Exit → Act → World → Prop}
/-- What follows such an operation. -/
def Aft (P : Program) (s : St) (w : World) (a : Act) (o : Oper) (KV : Value → World → Prop) (a' : Act) (w' : World) : Prop :=
  ∃ v, a' = a.put o.dst v ∧ (∀ b ∈ regIds s.rg, w'.heap[b]? = w.heap[b]?) ∧ KV v w'
theorem new_run (c : Array Value) (t : TypeId) : (newRow t c).run P w = .ok ⟨w.heap.size, 0, none⟩ (w.alloc (.cells c t)) := by
  simp [newRow, newObj, Sem.run]
theorem kept_alloc (h : Rel n s w a w) (ob : Obj) : ∀ b ∈ regIds s.rg, (w.alloc ob).heap[b]? = w.heap[b]? := by
  intro b hb
  simp only [regIds, List.mem_map] at hb
  obtain ⟨r, hr, rfl⟩ := hb
  exact Below.heap_alloc w ob _ (Array.getElem?_eq_some_iff.1 (h.reg r.key r (findR_of_mem h.wfr hr))).1
theorem runW_sound {sm : Sem Value} (he : ∀ w, (execOp a.eval o).run P w = (sm.run P w).andThen fun v w' => .ok (.value v) w') (h : RunW P (regIds s.rg) sm KV w) :
    o.wp P a w (Aft P s w a o KV) Q := by
  replace h := h.out
  unfold Oper.wp
  rw [he]
  split at h
  · rename_i v w' hr
    rw [hr]
    exact ⟨v, rfl, h.1, h.2⟩
  · exact h.elim
theorem effVal_sound (h : Rel n s w a w) (hc : Ctx s.gs γ) (hop : effVal P (regIds s.rg) s γ o KV w) : o.wp P a w (Aft P s w a o KV) Q := by
  have refl : ∀ b ∈ regIds s.rg, w.heap[b]? = w.heap[b]? := fun _ _ => rfl
  unfold effVal at hop
  split at hop
  case h_1 t x ho =>
    split at hop
    · rename_i A hx
      obtain ⟨v, hr, hk⟩ := LdV_sound hop
      unfold Oper.wp
      have : (execOp a.eval o).run P w = .ok (.value v) w := by
        simp [execOp, ho, h.evV hc hx, Instr.loadAt, Instr.sureAddr, hr]
      rw [this]
      exact ⟨v, rfl, refl, hk⟩
    · exact hop.elim
  case h_2 t ho =>
    cases hz : hasZero P t with
    | false => simp [hz] at hop
    | true =>
      simp only [hz, cond_true] at hop
      have hop := hop _ _ rfl rfl
      unfold Oper.wp
      have : (execOp a.eval o).run P w = .ok (.value (.pointer (some ⟨w.heap.size, 0, none⟩))) (w.alloc (.cells (zeroL P t).toArray t)) := by
        unfold hasZero at hz
        cases hi : P.info? t with
        | none => simp [hi] at hz
        | some z =>
          simp [hi] at hz
          obtain ⟨v, hv⟩ := Option.isSome_iff_exists.1 hz
          simp [execOp, ho, Instr.alloc, zeroValue, typeInfo, hi, hv, newVar, new_run, zeroL]
      rw [this]
      exact ⟨_, rfl, kept_alloc h _, hop⟩
  case h_3 t x ho =>
    split at hop
    · rename_i v hx
      have hop := hop _ _ rfl rfl
      unfold Oper.wp
      have : (execOp a.eval o).run P w = .ok (.value (.pointer (some ⟨w.heap.size, 0, none⟩))) (w.alloc (.cells (cL v).toArray t)) := by
        simp [execOp, ho, h.evV hc hx, Instr.box, newVar, new_run, cL]
      rw [this]
      exact ⟨_, rfl, kept_alloc h _, hop⟩
    · exact hop.elim
  case h_4 t ho =>
    have hop := hop _ _ rfl rfl
    unfold Oper.wp
    have : (execOp a.eval o).run P w = .ok (.value (.map (some w.heap.size))) (w.alloc (.map #[] 0)) := by
      simp [execOp, ho, Instr.makeMap, newObj, Sem.run]
    rw [this]
    exact ⟨_, rfl, kept_alloc h _, hop⟩
  case h_5 f args ts ho =>
    cases hk : kn s γ args.toList with
    | false => simp [hk] at hop
    | true =>
      simp only [hk, cond_true] at hop
      split at hop
      · rename_i k first cap hf
        have hargs : args.map a.eval = (vals (rho s γ) args).toArray := by
          apply Array.toList_inj.1
          simp only [vals, Array.toList_map, List.toList_toArray]
          exact List.map_congr_left fun x hx => (h.rho hc _ hk x hx).symm
        rcases hop.out with ⟨hg, hcall⟩ | ⟨v, w', hrun, hkept, hk'⟩
        case inr =>
          have e : first ++ (vals (rho s γ) args).toArray ++ cap = (first.toList ++ vals (rho s γ) args ++ cap.toList).toArray := by
            apply Array.toList_inj.1
            simp
          unfold Oper.wp
          have : (execOp a.eval o).run P w = .ok (.value v) w' := by
            simp only [execOp, ho, resolve, h.evV hc hf, Deferred.ofValue, Sem.run_bind, Sem.run_pure, Result.andThen_ok, invoke, hargs]
            rw [e]
            exact hrun
          rw [this]
          exact ⟨v, rfl, hkept, hk'⟩
        unfold goodFn at hg
        cases hfn : P.funcs[k]? with
        | none => simp [hfn] at hg
        | some fn =>
          simp only [hfn, Bool.and_eq_true, Bool.not_eq_true'] at hg
          obtain ⟨hg1, hg2⟩ := hg
          have hnone : fn.body.isNone = false := by cases hb : fn.body <;> simp [hb] at hg2 ⊢
          unfold Oper.wp
          have e : first ++ (vals (rho s γ) args).toArray ++ cap = (first.toList ++ vals (rho s γ) args ++ cap.toList).toArray := by
            apply Array.toList_inj.1
            simp
          have : (execOp a.eval o).run P w = .ok (.enter k (first.toList ++ vals (rho s γ) args ++ cap.toList).toArray) w := by
            have hnm : (fn.name = "runtime.NumGoroutine") = False := by
              simpa using hg1
            simp only [execOp, ho, resolve, h.evV hc hf, Deferred.ofValue, Sem.run_bind, Sem.run_pure, Result.andThen_ok, invoke, hargs, callFunc]
            have hnn : fn.body ≠ none := fun e => by simp [e] at hg2
            rw [← e]
            simp [program, Sem.run, hfn, hnn, hg1, hnm]
          rw [this]
          rw [Oper.upon_enter]
          refine Calls.mono hcall fun e' w' he' => ?_
          cases e' with
          | returned v => exact ⟨v, rfl, he'.1, he'.2⟩
          | panicked c => exact he'.elim
          | outgrown => exact he'.elim
      · exact hop.elim
  case h_6 t m ps ho =>
    cases hk : kn s γ o.op.operands.toList with
    | false => simp [hk] at hop
    | true =>
      simp only [hk, cond_true] at hop
      have he : execOp a.eval o = execOp (rho s γ) o := operands_eq h hc (by simp [ho]) hk
      split at hop
      · rename_i e sz hrow
        obtain ⟨hsz, hop⟩ := SzAll_out hop
        have hrow' : rowLit P t m (pm (rho s γ) ps) = some (e, flat (pm (rho s γ) ps)) := by
          unfold rowPre at hrow
          unfold rowLit
          split at hrow
          · split at hrow
            · rename_i e' _ _ sz' hsz'
              cases hb : seqIdx 0 (pm (rho s γ) ps) && Nat.beq (pm (rho s γ) ps).length m && hasZero P e' && Nat.ble (m * sz') 16777216 with
              | false => rw [hb] at hrow; cases hrow
              | true =>
                rw [hb] at hrow
                simp only [cond_true, Option.some.injEq, Prod.mk.injEq] at hrow
                obtain ⟨rfl, rfl⟩ := hrow
                simp only [Bool.and_eq_true] at hb
                obtain ⟨⟨⟨h1, h2⟩, h3⟩, h4⟩ := hb
                simp only [hsz', h1, h2, h3, h4, hsz, Bool.and_self, cond_true]
            · cases hrow
          · cases hrow
        have hop := hop _ _ rfl rfl
        unfold Oper.wp
        have : (execOp a.eval o).run P w = .ok (.value (.slice (some ⟨w.heap.size, 0, none⟩) m m)) (w.alloc (.cells (flat (pm (rho s γ) ps)).toArray e)) := by
          rw [he]
          simp [execOp, ho, pm_eq, rowLit_run hrow']
        rw [this]
        exact ⟨_, rfl, kept_alloc h _, hop⟩
      · exact hop.elim
  case h_7 =>
    cases hk : kn s γ o.op.operands.toList with
    | false => simp [hk] at hop
    | true =>
      simp only [hk, cond_true] at hop
      split at hop
      · rename_i sm hsm
        have hsel : ∀ cs b, o.op ≠ .select cs b := fun cs b e => by simp [semOf, e] at hsm
        have he : execOp a.eval o = execOp (rho s γ) o := operands_eq h hc hsel hk
        exact runW_sound (fun w' => by rw [he]; exact semOf_exec hsm P w') hop
      · exact hop.elim
end
end Fk
