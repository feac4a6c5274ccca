/- A generator of conditions, part 8: code, loops, functions. -/
import Derived.Test.YtpgjpgecgibklaaK7
set_option linter.unusedVariables false
set_option linter.unusedSimpArgs false
namespace Fk
open Go Go.RowKit

/-! ### What a piece of code writes -/
def wrOps : List Oper → List Nat
  | [] => []
  | o :: r => match o.dst with | some d => d :: wrOps r | none => wrOps r
def wrC : Code → List Nat
  | .region _ ops _ => wrOps ops.toList
  | .seq a b => wrC a ++ wrC b
  | .cond _ a b => wrC a ++ wrC b
  | .block _ c => wrC c
  | .loop c => wrC c
  | _ => []
def ddp : List Nat → List Nat
  | [] => []
  | a :: r => bif memN r a then ddp r else a :: ddp r
def lkp : List (Nat × Nat) → Nat → Option Nat
  | [], _ => none
  | p :: l, t => bif Nat.beq p.1 t then some p.2 else lkp l t
abbrev Fl := List (Nat × Nat) × List Nat
def flP (f : Fl) (x : Operand) (d : Option Tmp) : Fl := match x, d with
  | .tmp t, some d => match lkp f.1 t with | some k => ((d, k) :: f.1, f.2) | none => f
  | _, _ => f
def flowO (f : Fl) (o : Oper) : Fl := match o.op with
  | .fieldAddr _ x _ | .indexAddr _ x _ | .nilCheck x | .move x | .assign x => flP f x o.dst
  | .alloc _ | .box _ _ => match o.dst with | some d => ((d, d) :: f.1, f.2) | none => f
  | .store _ x _ => match x with
    | .tmp t => match lkp f.1 t with | some k => (f.1, k :: f.2) | none => f
    | _ => f
  | _ => f
def flowOps : List Oper → Fl → Fl
  | [], f => f
  | o :: r, f => flowOps r (flowO f o)
def flowC : Code → Fl → Fl
  | .region _ ops _, f => flowOps ops.toList f
  | .seq a b, f => flowC b (flowC a f)
  | .cond _ a b, f => flowC b (flowC a f)
  | .block _ c, f => flowC c f
  | .loop c, f => flowC c f
  | _, f => f
def envOf : List Ent → List (Nat × Nat)
  | [] => []
  | e :: l => match e.sv with | .p k _ => (e.slot, k) :: envOf l | _ => envOf l
def modS (fw : List Nat) (s : St) (c : Code) : List Nat := (ddp (wrC c)).filter fun t => match findE s.fr t with | some _ => !memN fw t | none => false
def modR (fs : Nat → Bool) (s : St) (c : Code) : List Nat := (ddp (flowC c (envOf s.fr, [])).2).filter fun k => keyIn s.rg k && !fs k
/-- How many ways lead through. -/
def exitsTo (id : Nat) : Code → Nat
  | .exit i => bif Nat.beq i id then 1 else 0
  | .seq a b => exitsTo id a + exitsTo id b
  | .cond _ a b => exitsTo id a + exitsTo id b
  | .block _ c => exitsTo id c
  | .loop c => exitsTo id c
  | _ => 0
/-- Does a step hang on where it stands among others? -/
def unitO (o : Oper) : Bool := match o.op with
  | .call c => match c.callee with | .builtin _ => false | _ => true
  | .lookup _ _ _ _ | .alloc _ | .box _ _ | .makeMap _ _ | .makeSlice _ _ _ | .buildSlice _ _ _ | .mapUpdate _ _ _ _ | .store _ _ _ => true
  | _ => false
def unitsO : List Oper → Nat
  | [] => 0
  | o :: r => bif unitO o then unitsO r + 1 else unitsO r
/-- Do a row of steps make a register? -/
def newR (rk : List Nat) : List Oper → Bool
  | [] => false
  | o :: r => match o.op, o.dst with
    | .box _ _, some d | .alloc _, some d => bif memN rk d then true else newR rk r
    | _, _ => newR rk r
def ways : Code → Nat
  | .ret | .exit _ | .loop _ => 0
  | .seq a b => bif Nat.beq (ways a) 0 then 0 else ways b
  | .cond _ a b => ways a + ways b
  | .block id c => ways c + exitsTo id c
  | _ => 1
/-- The variables that are surely given a value, on every way through. -/
def asgnS (P : Program) : List Oper → List (Nat × Sh)
  | [] => []
  | o :: r => match o.op, o.guard, o.dst with
    | .assign _, none, some d => (d, shOf P o.type) :: asgnS P r
    | _, _, _ => asgnS P r
def inS (l : List (Nat × Sh)) (t : Nat) : Bool := l.any fun p => Nat.beq p.1 t
def mustC (P : Program) : Code → List (Nat × Sh)
  | .region _ ops _ => asgnS P ops.toList
  | .seq a b => mustC P a ++ mustC P b
  | .cond _ a b => match ways a, ways b with
    | 0, _ => mustC P b
    | _, 0 => mustC P a
    | _, _ => (mustC P a).filter fun p => inS (mustC P b) p.1
  | .block id c => bif Nat.beq (exitsTo id c) 0 then mustC P c else []
  | _ => []
def ddS : List (Nat × Sh) → List (Nat × Sh)
  | [] => []
  | a :: r => bif inS r a.1 then ddS r else a :: ddS r
/-- What a code's steps name. -/
def tmpsO : List Operand → List Nat → List Nat
  | [], K => K
  | .tmp t :: r, K => t :: tmpsO r K
  | _ :: r, K => tmpsO r K
def usesOps : List Oper → List Nat → List Nat
  | [], K => K
  | o :: r, K => tmpsO o.op.operands.toList (usesOps r K)
def usesC : Code → List Nat → List Nat
  | .region _ ops _, K => usesOps ops.toList K
  | .seq a b, K => usesC a (usesC b K)
  | .cond c a b, K => tmpsO [c] (usesC a (usesC b K))
  | .block _ c, K => usesC c K
  | .loop c, K => usesC c K
  | _, K => K
/-- The values that a row of regions leaves. -/
def drT (P : Program) : Code → List (Nat × Sh)
  | .region _ ops _ => (ops.toList.filter fun o => match o.guard with | none => true | some _ => false).filterMap fun o => match o.dst with | some d => some (d, shOf P o.type) | none => none
  | .seq a b => drT P a ++ drT P b
  | _ => []
def drU (P : Program) (x y : Code) : List (Nat × Sh) := (drT P x).filter fun p => memN (usesC y []) p.1
def newA (P : Program) (fw : List Nat) (s : St) (x y : Code) : List (Nat × Sh) := (ddS (mustC P x ++ drU P x y)).filter fun p => match findE s.fr p.1 with | some _ => false | none => !memN fw p.1
def waysD (rk : List Nat) : Code → Nat
  | .ret | .exit _ | .loop _ => 0
  | .region _ ops true => bif newR rk ops.toList then 1 else bif Nat.blt 1 (unitsO ops.toList) then 2 else 1
  | .seq a b => bif Nat.beq (ways a) 0 then 0 else waysD rk b
  | .cond _ a b => ways a + ways b
  | .block id c => ways c + exitsTo id c
  | _ => 1
def needJ (rk : List Nat) (x : Code) : Bool := Nat.blt 1 (waysD rk x)

/-! ### The state at a loop's head, at a join -/
def cOf : Value → Cs
  | .int k _ => .i k | .bool _ => .b | .string _ => .s | .pointer _ => .p | .slice _ _ _ => .l | .map _ => .m | _ => .any
def slotVals (s : St) : List Nat → Option (List Value)
  | [] => some []
  | t :: r => match evV s [] (.tmp t), slotVals s r with | some v, some l => some (v :: l) | _, _ => none
def regVals (s : St) : List Nat → Option (List Value)
  | [] => some []
  | k :: r => match findR s.rg k, regVals s r with | some g, some l => some (.agg g.cells.toArray :: l) | _, _ => none
def slotSh (s : St) : List Nat → List Sh
  | [] => []
  | t :: r => (match evV s [] (.tmp t) with | some v => .one (cOf v) | none => .one .any) :: slotSh s r
def regSh (s : St) : List Nat → List Sh
  | [] => []
  | k :: r => (match findR s.rg k with | some g => (bif g.big then .raw else .agg (g.cells.map cOf)) | none => .raw) :: regSh s r
def frOf : List Nat → List Value → List Ent → List Ent
  | t :: ms, v :: vs, fr => ⟨t, none, .v v⟩ :: frOf ms vs fr
  | _, _, fr => fr
def lkV : List Nat → List Value → Nat → Option Value
  | k :: ks, v :: vs, t => bif Nat.beq k t then some v else lkV ks vs t
  | _, _, _ => none
def rgOf (rms : List Nat) (vs : List Value) : List Reg → List Reg
  | [] => []
  | r :: l => (match lkV rms vs r.key with | some (.agg cs) => { r with cells := cs.toList } | _ => r) :: rgOf rms vs l
def mkSt (s : St) (ms rms : List Nat) (us vs : List Value) : St := { fr := frOf ms us s.fr, gs := [], rg := rgOf rms vs s.rg, dirty := [], chg := false }
def opHl : List Sh → List Value → Nat → (List Value → Prop) → Prop
  | [], _, _, K => K []
  | c :: r, vs, i, K => opH c (nthD vs i) fun v => opHl r vs (i + 1) fun l => K (v :: l)
def LoopP (F : List Value → List Value → (List Value → List Value → World → Prop) → World → Prop) (us vs : List Value) (w : World) : Prop :=
  ∃ I : Nat → List Value → List Value → World → Prop, (∃ m, I m us vs w) ∧ ∀ m us vs w, I m us vs w → F us vs (fun us' vs' w' => ∃ m', m' < m ∧ I m' us' vs' w') w
/-- A join: what is to hold where ways meet, and what follows from it. -/
def Jn (A : List Value → List Value → World → Prop) (B : (List Value → List Value → World → Prop) → Prop) : Prop :=
  ∃ J : List Value → List Value → World → Prop, (∀ us vs w, J us vs w → A us vs w) ∧ B J
def jS (P : Program) (fw : List Nat) (s : St) (x y : Code) : List Nat := modS fw s x ++ (newA P fw s x y).map (·.1)
def jH (P : Program) (fw : List Nat) (s : St) (x y : Code) : List Sh := slotSh s (modS fw s x) ++ (newA P fw s x y).map (·.2)
def fwOf (s : St) (ms fw : List Nat) : List Nat := (s.fr.map (·.slot)).filter (fun t => !memN ms t) ++ fw
def fsOf (s : St) (rms : List Nat) (fs : Nat → Bool) (k : Nat) : Bool := fs k || (keyIn s.rg k && !memN rms k)
def lenOk (a b : List Value) : Bool := Nat.beq a.length b.length
/-- The values at a meeting point are handed on. -/
def meet (ms rms : List Nat) (s' : St) (w' : World) (J : List Value → List Value → World → Prop) : Prop := sync s' w' fun s' w' =>
  match slotVals s' ms, regVals s' rms with
  | some us, some vs => J us vs w'
  | _, _ => False

/-- A state, laid out as it is. -/
def fcSV : SV → (SV → Prop) → Prop
  | .v x, K => K (.v x)
  | .p k o, K => K (.p k o)
def fcFr : List Ent → (List Ent → Prop) → Prop
  | [], K => K []
  | ⟨t, g, sv⟩ :: l, K => fcSV sv fun sv => fcFr l fun l => K (⟨t, g, sv⟩ :: l)
def fcCl : List Value → (List Value → Prop) → Prop
  | [], K => K []
  | v :: l, K => fcCl l fun l => K (v :: l)
def fcRg : List Reg → (List Reg → Prop) → Prop
  | [], K => K []
  | ⟨k, b, t, true, cs⟩ :: l, K => fcRg l fun l => K (⟨k, b, t, true, cs⟩ :: l)
  | ⟨k, b, t, false, cs⟩ :: l, K => fcRg l fun l => K (⟨k, b, t, false, cs⟩ :: l)
def fcN : List Nat → (List Nat → Prop) → Prop
  | [], K => K []
  | v :: l, K => fcN l fun l => K (v :: l)
def fcSt (s : St) (K : St → Prop) : Prop := match s with
  | ⟨fr, gs, rg, dirty, true⟩ => fcFr fr fun fr => fcRg rg fun rg => fcN dirty fun dirty => K ⟨fr, gs, rg, dirty, true⟩
  | ⟨fr, gs, rg, dirty, false⟩ => fcFr fr fun fr => fcRg rg fun rg => fcN dirty fun dirty => K ⟨fr, gs, rg, dirty, false⟩
theorem fcFr_eq : ∀ (l : List Ent) (K : List Ent → Prop), fcFr l K = K l
  | [], K => rfl
  | ⟨t, g, sv⟩ :: l, K => by cases sv <;> simp only [fcFr, fcSV, fcFr_eq l]
theorem fcCl_eq : ∀ (l : List Value) (K : List Value → Prop), fcCl l K = K l
  | [], K => rfl
  | v :: l, K => by simp only [fcCl, fcCl_eq l]
theorem fcRg_eq : ∀ (l : List Reg) (K : List Reg → Prop), fcRg l K = K l
  | [], K => rfl
  | ⟨k, b, t, true, cs⟩ :: l, K => by simp only [fcRg, fcRg_eq l]
  | ⟨k, b, t, false, cs⟩ :: l, K => by simp only [fcRg, fcRg_eq l]
theorem fcN_eq : ∀ (l : List Nat) (K : List Nat → Prop), fcN l K = K l
  | [], K => rfl
  | v :: l, K => by simp only [fcN, fcN_eq l]
theorem fcSt_eq (s : St) (K : St → Prop) : fcSt s K = K s := by
  cases s with
  | mk fr gs rg dirty chg => cases chg <;> simp only [fcSt, fcFr_eq, fcRg_eq, fcN_eq]

/-- **The condition of a piece of code.** -/
def wpc (P : Program) (n : Nat) (rk : List Nat) : Code → (Exit → St → World → Prop) → (Nat → Bool) → List Nat → St → World → Prop
  | .skip, Q, _, _, s, w => Q .normal s w
  | .ret, Q, _, _, s, w => Q .ret s w
  | .exit id, Q, _, _, s, w => Q (.exit id) s w
  | .region _ ops d, Q, fs, fw, s, w => match d with
    | false => seqOps P n rk ops.toList fs fw ops.toList s w fun s w => fcSt (clearT s) fun s => Q .normal s w
    | true => drawW P n rk ops.toList fs fw s w fun s w => fcSt (clearT s) fun s => Q .normal s w
  | .seq x y, Q, fs, fw, s, w => match needJ rk x with
    | false => wpc P n rk x (fun e s w => match e with | .normal => wpc P n rk y Q fs fw s w | e => Q e s w) fs fw s w
    | true => match s.gs with
      | _ :: _ => False
      | [] => Jn (fun us vs w => opHl (jH P fw s x y) us 0 fun us => opHl (regSh s (modR fs s x)) vs 0 fun vs => fcSt (mkSt s (jS P fw s x y) (modR fs s x) us vs) fun s => wpc P n rk y Q fs fw s w)
          fun J => wpc P n rk x (fun e s' w' => match e with | .normal => meet (jS P fw s x y) (modR fs s x) s' w' J | e => Q e s' w') (fsOf s (modR fs s x) fs) (fwOf s (jS P fw s x y) fw) s w
  | .cond c x y, Q, fs, fw, s, w => match evV s [] c with
    | some (.bool b) => If b (wpc P n rk x Q fs fw s w) (wpc P n rk y Q fs fw s w)
    | _ => False
  | .block id c, Q, fs, fw, s, w => wpc P n rk c (fun e s w => match e with | .exit i => (bif Nat.beq i id then Q .normal s w else Q (.exit i) s w) | e => Q e s w) fs fw s w
  | .loop c, Q, fs, fw, s, w => match s.gs with
    | _ :: _ => False
    | [] => sync s w fun s w => match slotVals s (modS fw s c), regVals s (modR fs s c) with
      | some us0, some vs0 => LoopP (fun us vs Rec w => opHl (slotSh s (modS fw s c)) us 0 fun us => opHl (regSh s (modR fs s c)) vs 0 fun vs =>
          fcSt (mkSt s (modS fw s c) (modR fs s c) us vs) fun s1 => wpc P n rk c (fun e s' w' => match e with | .normal => meet (modS fw s c) (modR fs s c) s' w' Rec | e => Q e s' w') (fsOf s (modR fs s c) fs) (fwOf s (modS fw s c) fw) s1 w) us0 vs0 w
      | _, _ => False
  | _, _, _, _, _, _ => False

/-! ### Functions -/
def initFr : List Value → Nat → List Ent
  | [], _ => []
  | v :: l, i => ⟨i, none, .v v⟩ :: initFr l (i + 1)
def initSt (args : List Value) : St := { fr := initFr args 0, gs := [], rg := [], dirty := [], chg := false }
def tupV : List Value → Value
  | [v] => v
  | l => .tuple l.toArray
def resW (P : Program) (s : St) (w : World) : List ResultVar → (List Value → Prop) → Prop
  | [], K => K []
  | .tmp t :: r, K => match evV s [] (.tmp t) with | some v => resW P s w r fun l => K (v :: l) | none => False
  | .cell t ty :: r, K => match lookS s [] t with
    | some (.p k o) => match findR s.rg k with
      | some g => regLd P ty g o none fun sv => match sv with | .v v => resW P s w r fun l => K (v :: l) | _ => False
      | none => False
    | some (.v (.pointer (some A))) => LdV P ty w A fun v => resW P s w r fun l => K (v :: l)
    | _ => False
def bodyQ (P : Program) (rs : List ResultVar) (R : Value → World → Prop) (e : Exit) (s : St) (w : World) : Prop := match e with
  | .normal | .ret => sync s w fun s w => resW P s w rs fun l => R (tupV l) w
  | _ => False
def fnW (P : Program) (rk : List Nat) (fn : Func) (args : List Value) (R : Value → World → Prop) (w : World) : Prop := match fn.body with
  | some c => bif Nat.ble args.length fn.ntmps then wpc P fn.ntmps rk c (bodyQ P fn.results.toList R) (fun _ => false) [] (initSt args) w else False
  | none => False
end Fk
