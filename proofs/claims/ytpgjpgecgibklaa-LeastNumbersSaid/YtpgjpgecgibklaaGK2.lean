/- A generator of conditions, proved sound over the kit. -/
import Derived.Test.YtpgjpgecgibklaaGK1
import Derived.Test.YtpgjpgecgibklaaProg
import Derived.KernelRfl
set_option linter.unusedVariables false
set_option linter.unusedSimpArgs false
namespace Fk
open Go Go.RowKit
def wrOps : List Oper → List Nat
  | [] => []
  | o :: r => match o.dst with | some d => d :: wrOps r | none => wrOps r
def wrC : Code → List Nat
  | .region _ ops _ => wrOps ops.toList
  | .seq a b => wrC a ++ wrC b
  | .cond _ a b => wrC a ++ wrC b
  | .block _ c => wrC c
  | .loop c => wrC c
  | _ => []
def ddp : List Nat → List Nat
  | [] => []
  | a :: r => bif memN r a then ddp r else a :: ddp r
def flowC : Code → Fl → Fl
  | .region _ ops _, f => flowOps ops.toList f
  | .seq a b, f => flowC b (flowC a f)
  | .cond _ a b, f => flowC b (flowC a f)
  | .block _ c, f => flowC c f
  | .loop c, f => flowC c f
  | _, f => f
def modS (fw : List Nat) (s : St) (c : Code) : List Nat := (ddp (wrC c)).filter fun t => match findE s.fr t with | some _ => !memN fw t | none => false
def modR (fs : Nat → Bool) (s : St) (c : Code) : List Nat := (ddp (flowC c (envOf s.fr, [])).2).filter fun k => keyIn s.rg k && !fs k
/-- How many ways lead through. -/
def exitsTo (id : Nat) : Code → Nat
  | .exit i => bif Nat.beq i id then 1 else 0
  | .seq a b => exitsTo id a + exitsTo id b
  | .cond _ a b => exitsTo id a + exitsTo id b
  | .block _ c => exitsTo id c
  | .loop c => exitsTo id c
  | _ => 0
/-- Does a step hang on where it stands among others? -/
def unitO (o : Oper) : Bool := match o.op with
  | .call c => match c.callee with | .builtin _ => false | _ => true
  | .lookup _ _ _ _ | .alloc _ | .box _ _ | .makeMap _ _ | .makeSlice _ _ _ | .buildSlice _ _ _ | .mapUpdate _ _ _ _ | .store _ _ _ => true
  | _ => false
def unitsO : List Oper → Nat
  | [] => 0
  | o :: r => bif unitO o then unitsO r + 1 else unitsO r
/-- Do a row of steps make a register? -/
def newR (rk : List Nat) : List Oper → Bool
  | [] => false
  | o :: r => match o.op, o.dst with
    | .box _ _, some d | .alloc _, some d => bif memN rk d then true else newR rk r
    | _, _ => newR rk r
def ways : Code → Nat
  | .ret | .exit _ | .loop _ => 0
  | .seq a b => bif Nat.beq (ways a) 0 then 0 else ways b
  | .cond _ a b => ways a + ways b
  | .block id c => ways c + exitsTo id c
  | _ => 1
/-- The variables that are surely given a value, on every way through. -/
def asgnS (P : Program) : List Oper → List (Nat × Sh)
  | [] => []
  | o :: r => match o.op, o.guard, o.dst with
    | .assign _, none, some d => (d, shOf P o.type) :: asgnS P r
    | _, _, _ => asgnS P r
def inS (l : List (Nat × Sh)) (t : Nat) : Bool := l.any fun p => Nat.beq p.1 t
def mustC (P : Program) : Code → List (Nat × Sh)
  | .region _ ops _ => asgnS P ops.toList
  | .seq a b => mustC P a ++ mustC P b
  | .cond _ a b => match ways a, ways b with
    | 0, _ => mustC P b
    | _, 0 => mustC P a
    | _, _ => (mustC P a).filter fun p => inS (mustC P b) p.1
  | .block id c => bif Nat.beq (exitsTo id c) 0 then mustC P c else []
  | _ => []
def ddS : List (Nat × Sh) → List (Nat × Sh)
  | [] => []
  | a :: r => bif inS r a.1 then ddS r else a :: ddS r
/-- What a code's steps name. -/
def tmpsO : List Operand → List Nat → List Nat
  | [], K => K
  | .tmp t :: r, K => t :: tmpsO r K
  | _ :: r, K => tmpsO r K
def usesOps : List Oper → List Nat → List Nat
  | [], K => K
  | o :: r, K => tmpsO o.op.operands.toList (usesOps r K)
def usesC : Code → List Nat → List Nat
  | .region _ ops _, K => usesOps ops.toList K
  | .seq a b, K => usesC a (usesC b K)
  | .cond c a b, K => tmpsO [c] (usesC a (usesC b K))
  | .block _ c, K => usesC c K
  | .loop c, K => usesC c K
  | _, K => K
/-- The values that a row of regions leaves. -/
def drT (P : Program) : Code → List (Nat × Sh)
  | .region _ ops _ => (ops.toList.filter fun o => match o.guard with | none => true | some _ => false).filterMap fun o => match o.dst with | some d => some (d, shOf P o.type) | none => none
  | .seq a b => drT P a ++ drT P b
  | _ => []
def drU (P : Program) (x y : Code) : List (Nat × Sh) := (drT P x).filter fun p => memN (usesC y []) p.1
def newA (P : Program) (fw : List Nat) (s : St) (x y : Code) : List (Nat × Sh) := (ddS (mustC P x ++ drU P x y)).filter fun p => match findE s.fr p.1 with | some _ => false | none => !memN fw p.1
def waysD (rk : List Nat) : Code → Nat
  | .ret | .exit _ | .loop _ => 0
  | .region id ops true => bif memN rk (200000 + id) then 1 else bif memN rk (300000 + id) then 2 else bif newR rk ops.toList then 1 else bif Nat.blt 1 (unitsO ops.toList) then 2 else 1
  | .seq a b => bif Nat.beq (ways a) 0 then 0 else waysD rk b
  | .cond _ a b => ways a + ways b
  | .block id c => ways c + exitsTo id c
  | _ => 1
def needJ (rk : List Nat) (x : Code) : Bool := Nat.blt 1 (waysD rk x)
def cOf : Value → Cs
  | .int k _ => .i k | .bool _ => .b | .string _ => .s | .pointer _ => .p | .slice _ _ _ => .l | .map _ => .m | _ => .any
def slotVals (s : St) : List Nat → Option (List Value)
  | [] => some []
  | t :: r => match evV s [] (.tmp t), slotVals s r with | some v, some l => some (v :: l) | _, _ => none
def regVals (s : St) : List Nat → Option (List Value)
  | [] => some []
  | k :: r => match findR s.rg k, regVals s r with | some g, some l => some (.agg g.cells.toArray :: l) | _, _ => none
def slotSh (s : St) : List Nat → List Sh
  | [] => []
  | t :: r => (match evV s [] (.tmp t) with | some v => .one (cOf v) | none => .one .any) :: slotSh s r
def regSh (s : St) : List Nat → List Sh
  | [] => []
  | k :: r => (match findR s.rg k with | some g => (bif g.big then .raw else .agg (g.cells.map cOf)) | none => .raw) :: regSh s r
def frOf : List Nat → List Value → List Ent → List Ent
  | t :: ms, v :: vs, fr => ⟨t, none, .v v⟩ :: frOf ms vs fr
  | _, _, fr => fr
def lkV : List Nat → List Value → Nat → Option Value
  | k :: ks, v :: vs, t => bif Nat.beq k t then some v else lkV ks vs t
  | _, _, _ => none
def rgOf (rms : List Nat) (vs : List Value) : List Reg → List Reg
  | [] => []
  | r :: l => (match lkV rms vs r.key with | some (.agg cs) => { r with cells := cs.toList } | _ => r) :: rgOf rms vs l
def mkSt (s : St) (ms rms : List Nat) (us vs : List Value) : St := { fr := frOf ms us s.fr, gs := [], rg := rgOf rms vs s.rg, dirty := [], chg := false }
def opHl : List Sh → List Value → Nat → (List Value → Prop) → Prop
  | [], _, _, K => K []
  | c :: r, vs, i, K => opH c (nthD vs i) fun v => opHl r vs (i + 1) fun l => K (v :: l)
def LoopP (F : List Value → List Value → (List Value → List Value → World → Prop) → World → Prop) (us vs : List Value) (w : World) : Prop :=
  ∃ I : Nat → List Value → List Value → World → Prop, (∃ m, I m us vs w) ∧ ∀ m us vs w, I m us vs w → F us vs (fun us' vs' w' => ∃ m', m' < m ∧ I m' us' vs' w') w
/-- A join: what is to hold where ways meet, and what follows from it. -/
def Jn (A : List Value → List Value → World → Prop) (B : (List Value → List Value → World → Prop) → Prop) : Prop :=
  ∃ J : List Value → List Value → World → Prop, (∀ us vs w, J us vs w → A us vs w) ∧ B J
def jS (P : Program) (fw : List Nat) (s : St) (x y : Code) : List Nat := modS fw s x ++ (newA P fw s x y).map (·.1)
def jH (P : Program) (fw : List Nat) (s : St) (x y : Code) : List Sh := slotSh s (modS fw s x) ++ (newA P fw s x y).map (·.2)
def fwOf (s : St) (ms fw : List Nat) : List Nat := (s.fr.map (·.slot)).filter (fun t => !memN ms t) ++ fw
def fsOf (s : St) (rms : List Nat) (fs : Nat → Bool) (k : Nat) : Bool := fs k || (keyIn s.rg k && !memN rms k)
/-- The values at a meeting point are handed on. -/
def meet (ms rms : List Nat) (s' : St) (w' : World) (J : List Value → List Value → World → Prop) : Prop := sync s' w' fun s' w' =>
  match slotVals s' ms, regVals s' rms with
  | some us, some vs => J us vs w'
  | _, _ => False
/-- A state, laid out as it is. -/
def fcSV : SV → (SV → Prop) → Prop
  | .v x, K => K (.v x)
  | .p k o, K => K (.p k o)
def fcFr : List Ent → (List Ent → Prop) → Prop
  | [], K => K []
  | ⟨t, g, sv⟩ :: l, K => fcSV sv fun sv => fcFr l fun l => K (⟨t, g, sv⟩ :: l)
def fcRg : List Reg → (List Reg → Prop) → Prop
  | [], K => K []
  | ⟨k, b, t, true, cs⟩ :: l, K => fcRg l fun l => K (⟨k, b, t, true, cs⟩ :: l)
  | ⟨k, b, t, false, cs⟩ :: l, K => fcRg l fun l => K (⟨k, b, t, false, cs⟩ :: l)
def fcN : List Nat → (List Nat → Prop) → Prop
  | [], K => K []
  | v :: l, K => fcN l fun l => K (v :: l)
def fcSt (s : St) (K : St → Prop) : Prop := match s with
  | ⟨fr, gs, rg, dirty, true⟩ => fcFr fr fun fr => fcRg rg fun rg => fcN dirty fun dirty => K ⟨fr, gs, rg, dirty, true⟩
  | ⟨fr, gs, rg, dirty, false⟩ => fcFr fr fun fr => fcRg rg fun rg => fcN dirty fun dirty => K ⟨fr, gs, rg, dirty, false⟩
theorem fcFr_eq : ∀ (l : List Ent) (K : List Ent → Prop), fcFr l K = K l
  | [], K => rfl
  | ⟨t, g, sv⟩ :: l, K => by cases sv <;> simp only [fcFr, fcSV, fcFr_eq l]
theorem fcRg_eq : ∀ (l : List Reg) (K : List Reg → Prop), fcRg l K = K l
  | [], K => rfl
  | ⟨k, b, t, true, cs⟩ :: l, K => by simp only [fcRg, fcRg_eq l]
  | ⟨k, b, t, false, cs⟩ :: l, K => by simp only [fcRg, fcRg_eq l]
theorem fcN_eq : ∀ (l : List Nat) (K : List Nat → Prop), fcN l K = K l
  | [], K => rfl
  | v :: l, K => by simp only [fcN, fcN_eq l]
theorem fcSt_eq (s : St) (K : St → Prop) : fcSt s K = K s := by
  cases s with
  | mk fr gs rg dirty chg => cases chg <;> simp only [fcSt, fcFr_eq, fcRg_eq, fcN_eq]
/-- **The condition of a piece of code.** -/
def wpc (P : Program) (n : Nat) (rk : List Nat) : Code → (Exit → St → World → Prop) → (Nat → Bool) → List Nat → St → World → Prop
  | .skip, Q, _, _, s, w => Q .normal s w
  | .ret, Q, _, _, s, w => Q .ret s w
  | .exit id, Q, _, _, s, w => Q (.exit id) s w
  | .region id ops d, Q, fs, fw, s, w => match d with
    | false => seqOps P n rk ops.toList fs fw ops.toList s w fun s w => fcSt (clearT s) fun s => Q .normal s w
    | true => drawW P n rk id ops.toList fs fw s w fun s w => fcSt (clearT s) fun s => Q .normal s w
  | .seq x y, Q, fs, fw, s, w => match needJ rk x with
    | false => wpc P n rk x (fun e s w => match e with | .normal => wpc P n rk y Q fs fw s w | e => Q e s w) fs fw s w
    | true => match s.gs with
      | _ :: _ => False
      | [] => Jn (fun us vs w => opHl (jH P fw s x y) us 0 fun us => opHl (regSh s (modR fs s x)) vs 0 fun vs => fcSt (mkSt s (jS P fw s x y) (modR fs s x) us vs) fun s => wpc P n rk y Q fs fw s w)
          fun J => wpc P n rk x (fun e s' w' => match e with | .normal => meet (jS P fw s x y) (modR fs s x) s' w' J | e => Q e s' w') (fsOf s (modR fs s x) fs) (fwOf s (jS P fw s x y) fw) s w
  | .cond c x y, Q, fs, fw, s, w => match evV s [] c with
    | some (.bool b) => If b (wpc P n rk x Q fs fw s w) (wpc P n rk y Q fs fw s w)
    | _ => False
  | .block id c, Q, fs, fw, s, w => wpc P n rk c (fun e s w => match e with | .exit i => (bif Nat.beq i id then Q .normal s w else Q (.exit i) s w) | e => Q e s w) fs fw s w
  | .loop c, Q, fs, fw, s, w => match s.gs with
    | _ :: _ => False
    | [] => sync s w fun s w => match slotVals s (modS fw s c), regVals s (modR fs s c) with
      | some us0, some vs0 => LoopP (fun us vs Rec w => opHl (slotSh s (modS fw s c)) us 0 fun us => opHl (regSh s (modR fs s c)) vs 0 fun vs =>
          fcSt (mkSt s (modS fw s c) (modR fs s c) us vs) fun s1 => wpc P n rk c (fun e s' w' => match e with | .normal => meet (modS fw s c) (modR fs s c) s' w' Rec | e => Q e s' w') (fsOf s (modR fs s c) fs) (fwOf s (modS fw s c) fw) s1 w) us0 vs0 w
      | _, _ => False
  | _, _, _, _, _, _ => False
def initFr : List Value → Nat → List Ent
  | [], _ => []
  | v :: l, i => ⟨i, none, .v v⟩ :: initFr l (i + 1)
def initSt (args : List Value) : St := { fr := initFr args 0, gs := [], rg := [], dirty := [], chg := false }
def tupV : List Value → Value
  | [v] => v
  | l => .tuple l.toArray
def resW (P : Program) (s : St) (w : World) : List ResultVar → (List Value → Prop) → Prop
  | [], K => K []
  | .tmp t :: r, K => match evV s [] (.tmp t) with | some v => resW P s w r fun l => K (v :: l) | none => False
  | .cell t ty :: r, K => match lookS s [] t with
    | some (.p k o) => match findR s.rg k with
      | some g => regLd P ty g o none fun sv => match sv with | .v v => resW P s w r fun l => K (v :: l) | _ => False
      | none => False
    | some (.v (.pointer (some A))) => LdV P ty w A fun v => resW P s w r fun l => K (v :: l)
    | _ => False
def bodyQ (P : Program) (rs : List ResultVar) (R : Value → World → Prop) (e : Exit) (s : St) (w : World) : Prop := match e with
  | .normal | .ret => sync s w fun s w => resW P s w rs fun l => R (tupV l) w
  | _ => False
def fnW (P : Program) (rk : List Nat) (fn : Func) (args : List Value) (R : Value → World → Prop) (w : World) : Prop := match fn.body with
  | some c => bif Nat.ble args.length fn.ntmps then wpc P fn.ntmps rk c (bodyQ P fn.results.toList R) (fun _ => false) [] (initSt args) w else False
  | none => False
end Fk
set_option linter.unusedVariables false
set_option linter.unusedSimpArgs false
namespace Fk
open Go Go.RowKit
theorem opHl_sound : ∀ (l : List Sh) (vs : List Value) (i : Nat) (K : List Value → Prop), opHl l vs i K → i + l.length = vs.length → K (vs.drop i)
  | [], vs, i, K, h, hl => by
    simp only [opHl] at h
    rw [List.drop_of_length_le (by simp at hl; omega)]
    exact h
  | c :: r, vs, i, K, h, hl => by
    simp only [opHl] at h
    have h1 := opH_sound h
    have h2 := opHl_sound r vs (i + 1) _ h1 (by simp at hl; omega)
    have hi : i < vs.length := by simp at hl; omega
    rw [List.drop_eq_getElem_cons hi]
    have : nthD vs i = vs[i] := by simp [nthD, List.getD_eq_getElem?_getD, hi]
    rw [← this]; exact h2
theorem opHl_sound0 {l : List Sh} {vs : List Value} {K : List Value → Prop} (h : opHl l vs 0 K) (hl : l.length = vs.length) : K vs := by
  simpa using opHl_sound l vs 0 K h (by omega)
theorem wp_loop_g {P : Program} {Q : Exit → Act → World → Prop} {c : Code} (I : Nat → Act → World → Prop)
    (round : ∀ m a w, I m a w → c.wp P (Exit.then (fun a' w' => ∃ m', m' < m ∧ I m' a' w') Q) a w) : ∀ (m : Nat) (a : Act) (w : World), I m a w → (Code.loop c).wp P Q a w := by
  intro m a w h0 b k cs
  have key : ∀ m a w, I m a w →
      ∃ e a' w', Q e a' w' ∧ Arrives P (lone (b.at a (.code c :: .inLoop c :: k)) cs w) b k cs e a' w' := by
    intro m
    induction m using Nat.strongRecOn with
    | _ m ih =>
      intro a w hI
      obtain ⟨e, a₁, w₁, hq, harr⟩ := round m a w hI b (.inLoop c :: k) cs
      cases e with
      | normal =>
        obtain ⟨m', hlt, hI₁⟩ := hq
        obtain ⟨e₂, a₂, w₂, hq₂, harr₂⟩ := ih m' hlt a₁ w₁ hI₁
        exact ⟨e₂, a₂, w₂, hq₂, .of_steps (Steps.trans harr (.one step_inLoop)) harr₂⟩
      | exit id => exact ⟨_, a₁, w₁, hq, .pass (x := .inLoop c) rfl (fun _ _ => .inl (by simp)) harr⟩
      | goto l => exact ⟨_, a₁, w₁, hq, .pass (x := .inLoop c) rfl (fun _ _ => .inl (by simp)) harr⟩
      | ret => exact ⟨_, a₁, w₁, hq, .pass (x := .inLoop c) rfl (fun _ _ => .inl (by simp)) harr⟩
      | panic ch => exact ⟨_, a₁, w₁, hq, .pass (x := .inLoop c) rfl (fun _ _ => .inl (by simp)) harr⟩
      | outgrown => exact ⟨_, a₁, w₁, hq, .pass (x := .inLoop c) rfl (fun _ _ => .inl (by simp)) harr⟩
  obtain ⟨e, a', w', hq, harr⟩ := key m a w h0
  exact ⟨e, a', w', hq, .of_steps (.one step_loop) harr⟩
theorem memN_iff {l : List Nat} {d : Nat} : memN l d = true ↔ d ∈ l := by
  unfold memN
  rw [List.any_eq_true]
  constructor
  · rintro ⟨x, hx, h⟩
    rw [Nat.eq_of_beq_eq_true h]; exact hx
  · intro h
    exact ⟨d, h, by simp⟩
theorem findE_frOf_not : ∀ {ms : List Nat} {us : List Value} {fr : List Ent} {t : Nat}, t ∉ ms → findE (frOf ms us fr) t = findE fr t
  | [], us, fr, t, h => by cases us <;> rfl
  | m :: ms, [], fr, t, h => rfl
  | m :: ms, u :: us, fr, t, h => by
    simp only [frOf, findE]
    have : Nat.beq m t = false := by
      cases hb : Nat.beq m t with
      | false => rfl
      | true => exact absurd (Nat.eq_of_beq_eq_true hb ▸ List.mem_cons_self) h
    simp only [this, cond_false]
    exact findE_frOf_not fun hm => h (List.mem_cons_of_mem _ hm)
theorem slotVals_spec {s : St} : ∀ {ms : List Nat} {us : List Value}, slotVals s ms = some us → us.length = ms.length ∧ ∀ t v, lkV ms us t = some v → evV s [] (.tmp t) = some v
  | [], us, h => by
    simp [slotVals] at h
    subst h
    exact ⟨rfl, fun t v h => by simp [lkV] at h⟩
  | m :: ms, us, h => by
    simp only [slotVals] at h
    split at h
    · rename_i v l hv hl
      simp only [Option.some.injEq] at h
      subst h
      obtain ⟨h1, h2⟩ := slotVals_spec hl
      refine ⟨by simp [h1], fun t u hu => ?_⟩
      simp only [lkV] at hu
      cases hb : Nat.beq m t with
      | true =>
        have := Nat.eq_of_beq_eq_true hb
        subst this
        simp only [hb, cond_true, Option.some.injEq] at hu
        subst hu
        exact hv
      | false => simp only [hb, cond_false] at hu; exact h2 t u hu
    · cases h
theorem slotVals_all {s : St} : ∀ {ms : List Nat} {us : List Value}, slotVals s ms = some us → ∀ t ∈ ms, ∃ v, lkV ms us t = some v
  | [], us, h, t, ht => by cases ht
  | m :: ms, us, h, t, ht => by
    simp only [slotVals] at h
    split at h
    · rename_i v l hv hl
      simp only [Option.some.injEq] at h
      subst h
      simp only [lkV]
      cases hb : Nat.beq m t with
      | true => exact ⟨v, rfl⟩
      | false =>
        cases ht with
        | head => simp at hb
        | tail _ ht => simpa using slotVals_all hl t ht
    · cases h
theorem regVals_spec {s : St} : ∀ {ks : List Nat} {vs : List Value}, regVals s ks = some vs → vs.length = ks.length ∧
    (∀ k v, lkV ks vs k = some v → ∃ g, findR s.rg k = some g ∧ v = .agg g.cells.toArray)
  | [], vs, h => by
    simp [regVals] at h
    subst h
    exact ⟨rfl, fun t v h => by simp [lkV] at h⟩
  | m :: ms, us, h => by
    simp only [regVals] at h
    split at h
    · rename_i g l hv hl
      simp only [Option.some.injEq] at h
      subst h
      obtain ⟨h1, h2⟩ := regVals_spec hl
      refine ⟨by simp [h1], fun t u hu => ?_⟩
      simp only [lkV] at hu
      cases hb : Nat.beq m t with
      | true =>
        have := Nat.eq_of_beq_eq_true hb
        subst this
        simp only [hb, cond_true, Option.some.injEq] at hu
        subst hu
        exact ⟨g, hv, rfl⟩
      | false => simp only [hb, cond_false] at hu; exact h2 t u hu
    · cases h
theorem findR_key : ∀ {l : List Reg} {k : Nat} {r : Reg}, findR l k = some r → r.key = k
  | [], _, _, h => by cases h
  | e :: l, k, r, h => by
    simp only [findR] at h
    cases hb : Nat.beq e.key k with
    | true => simp [hb] at h; subst h; exact Nat.eq_of_beq_eq_true hb
    | false => simp [hb] at h; exact findR_key h
theorem regVals_all {s : St} : ∀ {ks : List Nat} {vs : List Value}, regVals s ks = some vs → ∀ t ∈ ks, ∃ v, lkV ks vs t = some v
  | [], us, h, t, ht => by cases ht
  | m :: ms, us, h, t, ht => by
    simp only [regVals] at h
    split at h
    · rename_i v l hv hl
      simp only [Option.some.injEq] at h
      subst h
      simp only [lkV]
      cases hb : Nat.beq m t with
      | true => exact ⟨_, rfl⟩
      | false =>
        cases ht with
        | head => simp at hb
        | tail _ ht => simpa using regVals_all hl t ht
    · cases h
theorem lkV_not : ∀ {ks : List Nat} {vs : List Value} {k : Nat}, k ∉ ks → lkV ks vs k = none
  | [], vs, k, h => by cases vs <;> rfl
  | m :: ks, [], k, h => rfl
  | m :: ks, v :: vs, k, h => by
    have : Nat.beq m k = false := by
      cases hb : Nat.beq m k with
      | false => rfl
      | true => exact absurd (Nat.eq_of_beq_eq_true hb ▸ List.mem_cons_self) h
    simp only [lkV, this, cond_false]
    exact lkV_not fun hm => h (List.mem_cons_of_mem _ hm)
def rgOne (rms : List Nat) (vs : List Value) (r : Reg) : Reg := match lkV rms vs r.key with | some (.agg cs) => { r with cells := cs.toList } | _ => r
theorem rgOne_key (rms : List Nat) (vs : List Value) (r : Reg) : (rgOne rms vs r).key = r.key ∧ (rgOne rms vs r).blk = r.blk ∧ (rgOne rms vs r).ty = r.ty ∧ (rgOne rms vs r).big = r.big := by
  unfold rgOne
  split <;> exact ⟨rfl, rfl, rfl, rfl⟩
theorem findR_rgOf {rms : List Nat} {vs : List Value} : ∀ {l : List Reg} {k : Nat}, findR (rgOf rms vs l) k = (findR l k).map (rgOne rms vs)
  | [], k => rfl
  | r :: l, k => by
    show findR (rgOne rms vs r :: rgOf rms vs l) k = _
    simp only [findR, (rgOne_key rms vs r).1]
    cases hb : Nat.beq r.key k with
    | true => simp
    | false => simpa using findR_rgOf
theorem nodupR_rgOf {rms : List Nat} {vs : List Value} : ∀ {l : List Reg}, nodupR l = true → nodupR (rgOf rms vs l) = true
  | [], _ => rfl
  | r :: l, h => by
    show nodupR (rgOne rms vs r :: rgOf rms vs l) = true
    simp only [nodupR, (rgOne_key rms vs r).1, findR_rgOf] at h ⊢
    cases hf : findR l r.key with
    | some _ => simp [hf] at h
    | none =>
      simp only [hf, Option.map_none] at h ⊢
      exact nodupR_rgOf h
theorem findE_mem : ∀ {l : List Ent} {t : Nat} {e : Ent}, findE l t = some e → e ∈ l
  | [], _, _, h => by cases h
  | x :: l, t, e, h => by
    simp only [findE] at h
    cases hb : Nat.beq x.slot t with
    | true => simp [hb] at h; subst h; exact List.mem_cons_self
    | false => simp [hb] at h; exact List.mem_cons_of_mem _ (findE_mem h)
/-- From a state reached, back to the state at the meeting point. -/
theorem mkSt_rel {n : Nat} {s s1 s' : St} {ms rms fw : List Nat} {fs : Nat → Bool} {us vs : List Value} {a : Act} {cw : World} (hgs : s.gs = []) (htag : ∀ t e, findE s.fr t = some e → e.tag = none)
    (hdup : nodupR s.rg = true) (hkey : ∀ t e k o, findE s.fr t = some e → e.sv = .p k o → ∃ r, findR s.rg k = some r)
    (h1fr : ∀ t, t ∉ ms → findE s1.fr t = findE s.fr t) (h1rg : ∀ k, k ∉ rms → findR s1.rg k = findR s.rg k)
    (h1bk : ∀ k r, findR s.rg k = some r → ∃ r1, findR s1.rg k = some r1 ∧ r1.blk = r.blk ∧ r1.ty = r.ty)
    (hag : Ag (fwOf s ms fw) (fsOf s rms fs) s1 s') (h : Rel n s' cw a cw) (hu : slotVals s' ms = some us) (hv : regVals s' rms = some vs) : Rel n (mkSt s ms rms us vs) cw a cw := by
  obtain ⟨hul, hus⟩ := slotVals_spec hu
  obtain ⟨hvl, hvs⟩ := regVals_spec hv
  -- the registers of the state reached
  have regs : ∀ k r, findR s.rg k = some r → ∃ r', findR s'.rg k = some r' ∧ r'.blk = r.blk ∧ r'.ty = r.ty := fun k r hr => by
    obtain ⟨r1, q1, q2, q3⟩ := h1bk k r hr
    obtain ⟨r2, t1, t2, t3, _⟩ := hag.bk k r1 q1
    exact ⟨r2, t1, t2.trans q2, t3.trans q3⟩
  refine ⟨h.dfr, h.sz, ?_, fun k g hk => (by cases hk), fun k g hk => (by cases hk), fun k g hk => (by cases hk), ?_, ?_, nodupR_rgOf hdup, rfl, Md.refl _ _, fun _ => rfl⟩
  · intro t e he
    by_cases htm : t ∈ ms
    · obtain ⟨v, hlk⟩ := slotVals_all hu t htm
      have gen : ∀ (ms : List Nat) (us : List Value) (fr : List Ent) (v : Value), lkV ms us t = some v → findE (frOf ms us fr) t = some ⟨t, none, .v v⟩ := by
        intro ms
        induction ms with
        | nil => intro us fr v h; cases us <;> simp [lkV] at h
        | cons m ms ih =>
          intro us fr v h
          cases us with
          | nil => simp [lkV] at h
          | cons u us =>
            simp only [lkV] at h
            simp only [frOf, findE]
            cases hb : Nat.beq m t with
            | true =>
              have := Nat.eq_of_beq_eq_true hb
              subst this
              simp only [hb, cond_true, Option.some.injEq] at h
              subst h
              rfl
            | false =>
              simp only [hb, cond_false] at h ⊢
              exact ih us fr v h
      have he' : e = ⟨t, none, .v v⟩ := by
        have : findE (mkSt s ms rms us vs).fr t = some ⟨t, none, .v v⟩ := gen ms us s.fr v hlk
        rw [this] at he
        exact (Option.some.inj he).symm
      subst he'
      have hev := hus t v hlk
      have hl : lookS s' [] t = some (.v v) := by
        unfold evV evS at hev
        split at hev
        · rename_i y hy
          simp only [Option.some.injEq] at hev
          subst hev; exact hy
        · cases hev
      obtain ⟨x, hx1, hx2⟩ := h.lookS ctx_nil hl
      simp only [svVal] at hx1
      subst hx1
      have hlt : t < n := by
        have := (Array.getElem?_eq_some_iff.1 hx2).1
        rw [← h.sz]; exact this
      exact ⟨true, rfl, hlt, fun _ => ⟨_, rfl, hx2⟩, fun hf => by cases hf⟩
    · have hold : findE s.fr t = some e := by
        have := findE_frOf_not (us := us) (fr := s.fr) htm
        rw [← this]; exact he
      have htg := htag t e hold
      have hfw : t ∈ fwOf s ms fw := by
        unfold fwOf
        refine List.mem_append_left _ (List.mem_filter.2 ⟨List.mem_map.2 ⟨e, findE_mem hold, findE_slot hold⟩, ?_⟩)
        cases hm : memN ms t with
        | false => rfl
        | true => exact absurd (memN_iff.1 hm) htm
      have hs' := hag.fr t hfw e (by rw [h1fr t htm]; exact hold) htg
      obtain ⟨c, q1, q2, q3, q4⟩ := h.ent t e hs'
      have hc : c = true := by rw [htg] at q1; simpa [tagCond] using q1.symm
      refine ⟨true, by rw [htg]; rfl, q2, fun _ => ?_, fun hf => by cases hf⟩
      obtain ⟨x, hx1, hx2⟩ := q3 hc
      refine ⟨x, ?_, hx2⟩
      cases hsv : e.sv with
      | v y => simpa [hsv, svVal] using hx1
      | p k o =>
        simp only [hsv, svVal] at hx1 ⊢
        obtain ⟨r', hr', hx1⟩ := hx1
        obtain ⟨r, hr⟩ := hkey t e k o hold hsv
        obtain ⟨r2, hr2, hb2, _⟩ := regs k r hr
        rw [hr'] at hr2
        cases hr2
        exact ⟨rgOne rms vs r, by show findR (rgOf rms vs s.rg) k = _; rw [findR_rgOf, hr]; rfl, by rw [(rgOne_key rms vs r).2.1, ← hb2]; exact hx1⟩
  · intro k r hr
    have hr' : (findR s.rg k).map (rgOne rms vs) = some r := by rw [← findR_rgOf]; exact hr
    cases hf : findR s.rg k with
    | none => simp [hf] at hr'
    | some r0 =>
      simp only [hf, Option.map_some, Option.some.injEq] at hr'
      subst hr'
      obtain ⟨r2, hr2, hb2, ht2⟩ := regs k r0 hf
      have hreg := h.reg k r2 hr2
      have hk0 : r0.key = k := findR_key hf
      rw [(rgOne_key rms vs r0).2.1, (rgOne_key rms vs r0).2.2.1, ← hb2, ← ht2]
      have hcells : (rgOne rms vs r0).cells = r2.cells := by
        unfold rgOne
        by_cases hkm : k ∈ rms
        · obtain ⟨v, hlk⟩ := regVals_all hv k hkm
          obtain ⟨g, hg, hve⟩ := hvs k v hlk
          rw [hr2] at hg
          cases hg
          subst hve
          simp [hk0, hlk]
        · have hn := lkV_not (vs := vs) hkm
          rw [hk0, hn]
          have hin : fsOf s rms fs k = true := by
            unfold fsOf
            have h1 : memN rms k = false := by
              cases hm : memN rms k with
              | false => rfl
              | true => exact absurd (memN_iff.1 hm) hkm
            simp [keyIn, hf, h1]
          have := hag.rg k hin
          rw [h1rg k hkm, hf, hr2] at this
          cases this
          rfl
      rw [hcells]
      exact hreg
  · intro k1 k2 r1 r2 h1 h2 hne
    have conv : ∀ k r, findR (mkSt s ms rms us vs).rg k = some r → ∃ r', findR s'.rg k = some r' ∧ r'.blk = r.blk := by
      intro k r hr
      have hr' : (findR s.rg k).map (rgOne rms vs) = some r := by rw [← findR_rgOf]; exact hr
      cases hf : findR s.rg k with
      | none => simp [hf] at hr'
      | some r0 =>
        simp only [hf, Option.map_some, Option.some.injEq] at hr'
        subst hr'
        obtain ⟨r2, hr2, hb2, _⟩ := regs k r0 hf
        exact ⟨r2, hr2, by rw [(rgOne_key rms vs r0).2.1]; exact hb2⟩
    obtain ⟨q1, t1, e1⟩ := conv k1 r1 h1
    obtain ⟨q2, t2, e2⟩ := conv k2 r2 h2
    rw [← e1, ← e2]
    exact h.dis k1 k2 q1 q2 t1 t2 hne
/-- What follows a piece of code. -/
def NQ (n : Nat) (fw : List Nat) (fs : Nat → Bool) (s0 : St) (Q : Exit → St → World → Prop) (e : Exit) (a : Act) (cw : World) : Prop := match e with
  | .normal | .ret | .exit _ => ∃ s w, Rel n s w a cw ∧ Ag fw fs s0 s ∧ Q e s w
  | _ => False
theorem NQ.from {n : Nat} {fw : List Nat} {fs : Nat → Bool} {s0 s1 : St} {Q : Exit → St → World → Prop} {e : Exit} {a : Act} {cw : World} (h : Ag fw fs s0 s1) (k : NQ n fw fs s1 Q e a cw) : NQ n fw fs s0 Q e a cw := by
  unfold NQ at *
  cases e <;> first | exact k | (obtain ⟨s, w, h1, h2, h3⟩ := k; exact ⟨s, w, h1, h.trans h2, h3⟩)
theorem NQ.weak {n : Nat} {s s0 : St} {ms rms fw : List Nat} {fs : Nat → Bool} {Q : Exit → St → World → Prop} {e : Exit} {a : Act} {cw : World} (k : NQ n (fwOf s ms fw) (fsOf s rms fs) s0 Q e a cw) : NQ n fw fs s0 Q e a cw := by
  have w : ∀ {s' : St}, Ag (fwOf s ms fw) (fsOf s rms fs) s0 s' → Ag fw fs s0 s' := fun h =>
    ⟨fun t ht => h.fr t (List.mem_append_right _ ht), fun k hk => h.rg k (by simp [fsOf, hk]), h.bk⟩
  unfold NQ at *
  cases e <;> first | exact k | (obtain ⟨s, w', h1, h2, h3⟩ := k; exact ⟨s, w', h1, w h2, h3⟩)
theorem untagged {n : Nat} {s : St} {w cw : World} {a : Act} (h : Rel n s w a cw) (hg : s.gs = []) : ∀ t e, findE s.fr t = some e → e.tag = none := by
  intro t e he
  obtain ⟨c, q1, _⟩ := h.ent t e he
  cases ht : e.tag with
  | none => rfl
  | some k => rw [ht, hg] at q1; cases q1
theorem keyed {n : Nat} {s : St} {w cw : World} {a : Act} (h : Rel n s w a cw) (hg : s.gs = []) : ∀ t e k o, findE s.fr t = some e → e.sv = .p k o → ∃ r, findR s.rg k = some r := by
  intro t e k o he hsv
  obtain ⟨c, q1, _, q3, _⟩ := h.ent t e he
  have ht := untagged h hg t e he
  rw [ht] at q1
  simp only [tagCond, Option.some.injEq] at q1
  obtain ⟨x, hx, _⟩ := q3 q1.symm
  rw [hsv] at hx
  obtain ⟨r, hr, _⟩ := hx
  exact ⟨r, hr⟩
theorem slotSh_length (s : St) : ∀ l, (slotSh s l).length = l.length
  | [] => rfl
  | t :: r => by simp [slotSh, slotSh_length s r]
theorem regSh_length (s : St) : ∀ l, (regSh s l).length = l.length
  | [] => rfl
  | t :: r => by simp [regSh, regSh_length s r]
theorem meet_sound {n : Nat} {s s1 s' : St} {ms rms fw : List Nat} {fs : Nat → Bool} {a : Act} {w' cw : World} {J : List Value → List Value → World → Prop} (hgs : s.gs = [])
    (htag : ∀ t e, findE s.fr t = some e → e.tag = none) (hdup : nodupR s.rg = true) (hkey : ∀ t e k o, findE s.fr t = some e → e.sv = .p k o → ∃ r, findR s.rg k = some r)
    (h1fr : ∀ t, t ∉ ms → findE s1.fr t = findE s.fr t) (h1rg : ∀ k, k ∉ rms → findR s1.rg k = findR s.rg k)
    (h1bk : ∀ k r, findR s.rg k = some r → ∃ r1, findR s1.rg k = some r1 ∧ r1.blk = r.blk ∧ r1.ty = r.ty)
    (hag : Ag (fwOf s ms fw) (fsOf s rms fs) s1 s') (h : Rel n s' w' a cw) (hm : meet ms rms s' w' J) :
    ∃ us vs, J us vs cw ∧ us.length = ms.length ∧ vs.length = rms.length ∧ Rel n (mkSt s ms rms us vs) cw a cw := by
  unfold meet at hm
  obtain ⟨s2, q1, q2, q3, q4, q5⟩ := sync_sound h hm
  split at q2
  · rename_i us vs hu hv
    exact ⟨us, vs, q2, (slotVals_spec hu).1, (regVals_spec hv).1, mkSt_rel hgs htag hdup hkey h1fr h1rg h1bk (hag.trans (Ag.same q3 q5)) q1 hu hv⟩
  · exact q2.elim
end Fk
set_option linter.unusedVariables false
set_option linter.unusedSimpArgs false
namespace Fk
open Go Go.RowKit
theorem modS_not {fw : List Nat} {s : St} {c : Code} {t : Nat} (ht : t ∈ fw) : t ∉ modS fw s c := by
  intro hm
  unfold modS at hm
  have := (List.mem_filter.1 hm).2
  cases hf : findE s.fr t with
  | none => simp [hf] at this
  | some e => simp [hf, memN_iff.2 ht] at this
theorem jS_not {P : Program} {fw : List Nat} {s : St} {c y : Code} {t : Nat} (ht : t ∈ fw) : t ∉ jS P fw s c y := by
  intro hm
  unfold jS at hm
  rcases List.mem_append.1 hm with h | h
  · exact modS_not ht h
  · obtain ⟨p, hp, rfl⟩ := List.mem_map.1 h
    unfold newA at hp
    have := (List.mem_filter.1 hp).2
    cases hf : findE s.fr p.1 with
    | some e => simp [hf] at this
    | none => simp [hf, memN_iff.2 ht] at this
theorem jH_length (P : Program) (fw : List Nat) (s : St) (c y : Code) : (jH P fw s c y).length = (jS P fw s c y).length := by
  simp [jH, jS, slotSh_length]
theorem modR_not {fs : Nat → Bool} {s : St} {c : Code} {k : Nat} (hk : fs k = true) : k ∉ modR fs s c := by
  intro hm
  unfold modR at hm
  have := (List.mem_filter.1 hm).2
  simp [hk] at this
theorem meet_ag {fw : List Nat} {fs : Nat → Bool} {s : St} {ms rms : List Nat} {us vs : List Value} (h1 : ∀ t ∈ fw, t ∉ ms) (h2 : ∀ k, fs k = true → k ∉ rms) : Ag fw fs s (mkSt s ms rms us vs) := by
  refine ⟨fun t ht e he hn => (findE_frOf_not (h1 t ht)).trans he, fun k hk => ?_, fun k r hr => ?_⟩
  · show findR (rgOf _ _ s.rg) k = _
    rw [findR_rgOf]
    cases hf : findR s.rg k with
    | none => rfl
    | some r => simp [rgOne, findR_key hf, lkV_not (h2 k hk)]
  · exact ⟨_, by show findR (rgOf _ _ s.rg) k = _; rw [findR_rgOf, hr]; rfl, (rgOne_key _ _ r).2⟩
theorem wpc_sound {P : Program} (hm : P.follows .mixedOrders = true) {n : Nat} {rk : List Nat} : ∀ (c : Code) (Q : Exit → St → World → Prop) (fs : Nat → Bool) (fw : List Nat) (s : St) (w cw : World) (a : Act),
    Rel n s w a cw → wpc P n rk c Q fs fw s w → c.wp P (NQ n fw fs s Q) a cw := by
  intro c
  induction c with
  | skip => exact fun Q fs fw s w cw a h hop => wp_skip ⟨s, w, h, Ag.refl _ _ _, hop⟩
  | ret => exact fun Q fs fw s w cw a h hop => wp_ret ⟨s, w, h, Ag.refl _ _ _, hop⟩
  | exit id => exact fun Q fs fw s w cw a h hop => wp_exit ⟨s, w, h, Ag.refl _ _ _, hop⟩
  | region id ops d =>
    intro Q fs fw s w cw a h hop
    have fin : ∀ a' cw', Nx n fw fs s (fun s w => fcSt (clearT s) fun s => Q .normal s w) a' cw' → NQ n fw fs s Q .normal a' cw' := by
      intro a' cw' ⟨s', w', h1, h2, h3⟩
      simp only [fcSt_eq] at h3
      exact ⟨clearT s', w', clearT_rel h1, h2.trans (clearT_ag s'), h3⟩
    have hops : ops = ops.toList.toArray := by simp
    cases d with
    | false =>
      simp only [wpc] at hop
      rw [hops]
      exact wp_region_list (seqOps_sound ops.toList s s w cw a h (Ag.refl _ _ _) hop fin)
    | true =>
      simp only [wpc] at hop
      rw [hops]
      exact drawW_sound hm h fin (fun c a w hp => hp) hop
  | seq x y ihx ihy =>
    intro Q fs fw s w cw a h hop
    simp only [wpc] at hop
    split at hop
    · refine wp_seq (wp_mono (ihx _ fs fw s w cw a h hop) fun e a' w' hq => ?_)
      cases e with
      | normal =>
        obtain ⟨s', w0, h1, h2, h3⟩ := hq
        exact wp_mono (ihy Q fs fw s' w0 w' a' h1 h3) fun e a w hq => NQ.from h2 hq
      | exit id => exact hq
      | goto l => exact hq
      | ret => exact hq
      | panic ch => exact hq
      | outgrown => exact hq
    · split at hop
      · exact hop.elim
      · rename_i hgs
        obtain ⟨J, hJ, hop⟩ := hop
        refine wp_seq (wp_mono (ihx _ _ _ s w cw a h hop) fun e a' w' hq => ?_)
        cases e with
        | normal =>
          obtain ⟨s', w0, h1, h2, h3⟩ := hq
          obtain ⟨us, vs, hj, hul, hvl, hrel⟩ := meet_sound hgs (untagged h hgs) h.wfr (keyed h hgs) (fun _ _ => rfl) (fun _ _ => rfl) (fun k r hr => ⟨r, hr, rfl, rfl⟩) h2 h1 h3
          have hA := hJ us vs w' hj
          have hA := opHl_sound0 hA (by rw [jH_length]; exact hul.symm)
          have hA := opHl_sound0 hA (by rw [regSh_length]; exact hvl.symm)
          rw [fcSt_eq] at hA
          refine wp_mono (ihy Q fs fw _ w' w' a' hrel hA) fun e a w hq => NQ.from ?_ hq
          -- what the join's state says is in agreement with the state ahead
          exact meet_ag (fun t ht => jS_not ht) (fun k hk => modR_not hk)
        | exit id => exact NQ.weak hq
        | goto l => exact hq
        | ret => exact NQ.weak hq
        | panic ch => exact hq
        | outgrown => exact hq
  | cond c x y ihx ihy =>
    intro Q fs fw s w cw a h hop
    simp only [wpc] at hop
    split at hop
    · rename_i b hb
      refine wp_cond_split (t := b) (h.evV ctx_nil hb) (fun hbt => ihx Q fs fw s w cw a h (hop.1 hbt)) (fun hbf => ihy Q fs fw s w cw a h (hop.2 hbf))
    · exact hop.elim
  | block id c ih =>
    intro Q fs fw s w cw a h hop
    simp only [wpc] at hop
    refine wp_block (wp_mono (ih _ fs fw s w cw a h hop) fun e a' w' hq => ?_)
    cases e with
    | normal => exact hq
    | exit i =>
      obtain ⟨s', w0, h1, h2, h3⟩ := hq
      show (if i = id then _ else _)
      cases hb : Nat.beq i id with
      | true =>
        rw [if_pos (Nat.eq_of_beq_eq_true hb)]
        simp only [hb, cond_true] at h3
        exact ⟨s', w0, h1, h2, h3⟩
      | false =>
        rw [if_neg (fun e => by subst e; simp at hb)]
        simp only [hb, cond_false] at h3
        exact ⟨s', w0, h1, h2, h3⟩
    | goto l => exact hq
    | ret => exact hq
    | panic ch => exact hq
    | outgrown => exact hq
  | loop c ih =>
    intro Q fs fw s w cw a h hop
    simp only [wpc] at hop
    split at hop
    · exact hop.elim
    rename_i hgs
    obtain ⟨s1, hrel1, hop, hfr, hgs1, hrg⟩ := sync_sound h hop
    have hg1 : s1.gs = [] := by rw [hgs1]; exact hgs
    split at hop
    · rename_i us0 vs0 hu hv
      obtain ⟨I, ⟨m0, h0⟩, hround⟩ := hop
      have start : Rel n (mkSt s1 (modS fw s1 c) (modR fs s1 c) us0 vs0) cw a cw :=
        mkSt_rel (fw := fw) (fs := fs) hg1 (untagged hrel1 hg1) hrel1.wfr (keyed hrel1 hg1) (fun _ _ => rfl) (fun _ _ => rfl) (fun k r hr => ⟨r, hr, rfl, rfl⟩) (Ag.refl _ _ _) hrel1 hu hv
      refine wp_loop_g (fun m a' w' => ∃ us vs, I m us vs w' ∧ us.length = (modS fw s1 c).length ∧ vs.length = (modR fs s1 c).length ∧ Rel n (mkSt s1 (modS fw s1 c) (modR fs s1 c) us vs) w' a' w') ?_ m0 a cw
        ⟨us0, vs0, h0, (slotVals_spec hu).1, (regVals_spec hv).1, start⟩
      rintro m a' w' ⟨us, vs, hI, hul, hvl, hR⟩
      have hA := hround m us vs w' hI
      have hA := opHl_sound0 hA (by rw [slotSh_length]; exact hul.symm)
      have hA := opHl_sound0 hA (by rw [regSh_length]; exact hvl.symm)
      rw [fcSt_eq] at hA
      have hagm : Ag fw fs s (mkSt s1 (modS fw s1 c) (modR fs s1 c) us vs) := (Ag.same hfr hrg).trans (meet_ag (fun t ht => modS_not ht) (fun k hk => modR_not hk))
      refine wp_mono (ih _ _ _ _ w' w' a' hR hA) fun e a2 w2 hq => ?_
      cases e with
      | normal =>
        obtain ⟨s', w0, q1, q2, q3⟩ := hq
        obtain ⟨us', vs', ⟨m', hlt, hI'⟩, hul', hvl', hR'⟩ := meet_sound (s1 := mkSt s1 (modS fw s1 c) (modR fs s1 c) us vs) hg1 (untagged hrel1 hg1) hrel1.wfr (keyed hrel1 hg1)
          (fun t ht => findE_frOf_not ht)
          (fun k hk => by
            show findR (rgOf _ _ s1.rg) k = _
            rw [findR_rgOf]
            cases hf : findR s1.rg k with
            | none => rfl
            | some r => simp [rgOne, findR_key hf, lkV_not hk])
          (fun k r hr => ⟨_, by show findR (rgOf _ _ s1.rg) k = _; rw [findR_rgOf, hr]; rfl, (rgOne_key _ _ r).2.1, (rgOne_key _ _ r).2.2.1⟩) q2 q1 q3
        exact ⟨m', hlt, us', vs', hI', hul', hvl', hR'⟩
      | exit id => exact NQ.from hagm (NQ.weak hq)
      | goto l => exact hq
      | ret => exact NQ.from hagm (NQ.weak hq)
      | panic ch => exact hq
      | outgrown => exact hq
    · exact hop.elim
  | rangeFunc f ps x y ihx ihy => exact fun Q fs fw s w cw a h hop => by simp only [wpc] at hop
  | scope c ih => exact fun Q fs fw s w cw a h hop => by simp only [wpc] at hop
  | label l => exact fun Q fs fw s w cw a h hop => by simp only [wpc] at hop
  | goto l => exact fun Q fs fw s w cw a h hop => by simp only [wpc] at hop
  | refuse y => exact fun Q fs fw s w cw a h hop => by simp only [wpc] at hop
theorem findE_init : ∀ (l : List Value) (i t : Nat) (e : Ent), findE (initFr l i) t = some e → i ≤ t ∧ ∃ v, l[t - i]? = some v ∧ e = ⟨t, none, .v v⟩
  | [], i, t, e, h => by cases h
  | v :: l, i, t, e, h => by
    simp only [initFr, findE] at h
    cases hb : Nat.beq i t with
    | true =>
      have := Nat.eq_of_beq_eq_true hb
      subst this
      simp only [hb, cond_true, Option.some.injEq] at h
      subst h
      exact ⟨Nat.le_refl _, v, by simp, rfl⟩
    | false =>
      simp only [hb, cond_false] at h
      obtain ⟨h1, u, h2, h3⟩ := findE_init l (i + 1) t e h
      refine ⟨by omega, u, ?_, h3⟩
      rw [show t - i = (t - (i + 1)) + 1 by omega]
      simpa using h2
def resF (tmps : Array Value) : ResultVar → Sem Value
  | .tmp t => pure (tmps.getD t undef)
  | .cell q t => do loadVar t (← asAddr (tmps.getD q undef))
theorem resF_cell {P : Program} {w : World} {tmps : Array Value} {q : Nat} {ty : TypeId} {A : Addr} {v : Value} (he : tmps.getD q undef = .pointer (some A)) (hr : (loadVar ty A).run P w = .ok v w) :
    (resF tmps (.cell q ty)).run P w = .ok v w := by
  have : resF tmps (.cell q ty) = (do loadVar ty (← asAddr (tmps.getD q undef))) := rfl
  rw [this, he]
  simpa [asAddr] using hr
theorem mapM_cons_run {P : Program} {w : World} {tmps : Array Value} {x : ResultVar} {r : List ResultVar} {v : Value} {l : List Value} (h1 : (resF tmps x).run P w = .ok v w) (h2 : (r.mapM (resF tmps)).run P w = .ok l w) :
    ((x :: r).mapM (resF tmps)).run P w = .ok (v :: l) w := by
  simp only [List.mapM_cons, Sem.run_bind, h1, h2, Result.andThen_ok, Sem.run_pure]
theorem resW_run {P : Program} {n : Nat} {s : St} {a : Act} {w : World} (h : Rel n s w a w) : ∀ (rs : List ResultVar) (K : List Value → Prop), resW P s w rs K →
    ∃ l, (rs.mapM (resF a.tmps)).run P w = .ok l w ∧ K l
  | [], K, hk => ⟨[], by simp, hk⟩
  | .tmp t :: r, K, hk => by
    simp only [resW] at hk
    split at hk
    · rename_i v hv
      obtain ⟨l, h1, h2⟩ := resW_run h r _ hk
      have he : a.tmps.getD t undef = v := h.evV ctx_nil hv
      exact ⟨v :: l, mapM_cons_run (by simp [resF, he]) h1, h2⟩
    · exact hk.elim
  | .cell q ty :: r, K, hk => by
    simp only [resW] at hk
    split at hk
    · rename_i k o hq
      obtain ⟨x, hx1, hx2⟩ := h.lookS ctx_nil hq
      obtain ⟨g, hg, hxe⟩ := hx1
      simp only [hg] at hk
      obtain ⟨v, hv, hrun⟩ := regLd_sound hk
      obtain ⟨l, h1, h2⟩ := resW_run h r _ hv
      have he : a.tmps.getD q undef = .pointer (some ⟨g.blk, o, none⟩) := by
        obtain ⟨hlt, hxx⟩ := Array.getElem?_eq_some_iff.1 hx2
        simp [Array.getD, hlt, hxx, hxe]
      have hr := hrun (by simp) w (h.reg k g hg)
      exact ⟨v :: l, mapM_cons_run (resF_cell he hr) h1, h2⟩
    · rename_i A hq
      obtain ⟨x, hx1, hx2⟩ := h.lookS ctx_nil hq
      simp only [svVal] at hx1
      subst hx1
      obtain ⟨v, hrun, hv⟩ := LdV_sound hk
      obtain ⟨l, h1, h2⟩ := resW_run h r _ hv
      have he : a.tmps.getD q undef = .pointer (some A) := by
        obtain ⟨hlt, hxx⟩ := Array.getElem?_eq_some_iff.1 hx2
        simp [Array.getD, hlt, hxx]
      exact ⟨v :: l, mapM_cons_run (resF_cell he hrun) h1, h2⟩
    · exact hk.elim
theorem tupV_eq (l : List Value) : (if h : l.toArray.size = 1 then l.toArray[0] else Value.tuple l.toArray) = tupV l := by
  unfold tupV
  match l with
  | [] => rfl
  | [v] => rfl
  | v :: u :: l => simp
theorem calls_of_fnW {P : Program} (hm : P.follows .mixedOrders = true) {rk : List Nat} {f : FuncId} {fn : Func} (hf : P.funcs[f]? = some fn) {args : List Value} {R : Value → World → Prop} {w : World}
    (h : fnW P rk fn args R w) : Calls P f args.toArray w fun e w' => match e with | .returned v => R v w' | _ => False := by
  unfold fnW at h
  split at h
  · rename_i c hb
    cases hl : Nat.ble args.length fn.ntmps with
    | false => simp [hl] at h
    | true =>
      simp only [hl, cond_true] at h
      have hle := Nat.le_of_ble_eq_true hl
      refine calls_of_wp hf hb ?_
      have hrel : Rel fn.ntmps (initSt args) w { tmps := args.toArray ++ Array.replicate (fn.ntmps - args.toArray.size) undef, defers := [] } w := by
        refine ⟨rfl, by simp; omega, ?_, fun k g hk => (by cases hk), fun k g hk => (by cases hk), fun k g hk => (by cases hk), fun k r hk => (by cases hk), fun k k' r r' hk => (by cases hk), rfl, rfl, Md.refl _ _, fun _ => rfl⟩
        intro t e he
        obtain ⟨_, v, hv, rfl⟩ := findE_init args 0 t e he
        simp only [Nat.sub_zero] at hv
        have hlt : t < args.length := (List.getElem?_eq_some_iff.1 hv).1
        refine ⟨true, rfl, by omega, fun _ => ⟨v, rfl, ?_⟩, fun hf => by cases hf⟩
        rw [Array.getElem?_append_left (by simpa using hlt)]
        simpa using hv
      refine wp_mono (wpc_sound hm c _ _ _ _ w w _ hrel h) fun e a' w' hq => ?_
      have fin : ∀ (s' : St) (w0 : World), Rel fn.ntmps s' w0 a' w' → (sync s' w0 fun s w => resW P s w fn.results.toList fun l => R (tupV l) w) → a'.defers = [] ∧ ∃ v, (results fn a'.tmps).run P w' = .ok v w' ∧ R v w' := by
        intro s' w0 h1 h3
        obtain ⟨s2, q1, q2, _, _, _⟩ := sync_sound h1 h3
        obtain ⟨l, r1, r2⟩ := resW_run q1 _ _ q2
        refine ⟨q1.dfr, tupV l, ?_, r2⟩
        have hres : results fn a'.tmps = (do let vs ← fn.results.mapM (resF a'.tmps); pure (if h : vs.size = 1 then vs[0] else .tuple vs)) := by
          unfold results
          congr 1
          all_goals (try congr 1)
          all_goals (try (funext x; cases x <;> rfl))
        rw [hres, Array.mapM_eq_mapM_toList]
        simp only [Sem.run_bind, Sem.run_map, map_eq_pure_bind, Result.andThen_ok, Sem.run_pure, r1]
        rw [tupV_eq]
      cases e with
      | normal =>
        obtain ⟨s', w0, h1, _, h3⟩ := hq
        exact fin s' w0 h1 h3
      | ret =>
        obtain ⟨s', w0, h1, _, h3⟩ := hq
        exact fin s' w0 h1 h3
      | exit id =>
        obtain ⟨s', w0, h1, _, h3⟩ := hq
        exact h3.elim
      | goto l => exact hq.elim
      | panic ch => exact hq.elim
      | outgrown => exact hq.elim
  · exact h.elim
end Fk
set_option linter.unusedVariables false
namespace Fk
open Go Go.RowKit
/-- A call comes back, with a value and a world of which R holds. -/
def Ct (P : Program) (f : FuncId) (args : Array Value) (w : World) (R : Value → World → Prop) : Prop :=
  goodFn P f = true ∧ Calls P f args w fun e w' => match e with | .returned v => R v w' | _ => False
theorem Ct.mono {P : Program} {f : FuncId} {args : Array Value} {w : World} {R R' : Value → World → Prop} (h : Ct P f args w R) (hk : ∀ v w', R v w' → R' v w') : Ct P f args w R' :=
  ⟨h.1, h.2.mono fun e w' he => by cases e <;> first | exact hk _ _ he | exact he.elim⟩
theorem Ct_of {P : Program} {rk : List Nat} {fn : Func} {f : FuncId} {args : List Value} {R : Value → World → Prop} {w : World}
    (hm : P.follows .mixedOrders = true) (hf : P.funcs[f]? = some fn) (hg : goodFn P f = true) (h : fnW P rk fn args R w) : Ct P f args.toArray w R :=
  ⟨hg, calls_of_fnW hm hf h⟩
theorem Kept_md {L : List Nat} {w w' : World} (h : Md [] w w') (hL : ∀ b ∈ L, b < w.heap.size) : Kept L w w' := fun b hb => h.blk b (hL b hb) (by simp)
theorem Ct.call {P : Program} {L : List Nat} {f : FuncId} {args : Array Value} {w : World} {Φ K : Value → World → Prop} (h : Ct P f args w fun v w' => Φ v w' ∧ Md [] w w')
    (hL : ∀ b ∈ L, b < w.heap.size) (hk : ∀ v w', Φ v w' → Md [] w w' → K v w') : CallW P L f args K w :=
  ⟨.inl ⟨h.1, h.2.mono fun e w' he => by cases e <;> first | exact ⟨Kept_md he.2 hL, hk _ _ he.1 he.2⟩ | exact he.elim⟩⟩
theorem Ct.callD {P : Program} {D L : List Nat} {f : FuncId} {args : Array Value} {w : World} {Φ K : Value → World → Prop} (h : Ct P f args w fun v w' => Φ v w' ∧ Md D w w')
    (hL : ∀ b ∈ L, b < w.heap.size) (hD : ∀ b ∈ L, b ∉ D) (hk : ∀ v w', Φ v w' → Md D w w' → K v w') : CallW P L f args K w :=
  ⟨.inl ⟨h.1, h.2.mono fun e w' he => by cases e <;> first | exact ⟨fun b hb => he.2.blk b (hL b hb) (hD b hb), hk _ _ he.1 he.2⟩ | exact he.elim⟩⟩
theorem mixedT : Go.Proofs.Try.prog.follows .mixedOrders = true := by kernel_rfl
theorem Bd_in {α : Type} {x : α} {K : α → Prop} (h : ∀ y, y = x → K y) : Bd x K := h x rfl
theorem Ld_in {w : World} {A : Addr} {v : Value} {K : Value → Prop} (h : w.cell? A = some v) (k : K v) : Ld w A K := by unfold Ld; rw [h]; exact k
theorem opI_in {k : IntKind} {x : Int} {K : Int → Prop} (h : K x) : opI k (.int k x) K := by unfold opI; simp [Bd, h]
theorem opB_in {b : Bool} {K : Bool → Prop} (h : K b) : opB (.bool b) K := h
theorem opL_in {a : Option Addr} {n c : Nat} {K : Option Addr → Nat → Nat → Prop} (h : K a n c) : opL (.slice a n c) K := h
theorem opP_in {a : Option Addr} {K : Option Addr → Prop} (h : K a) : opP (.pointer a) K := h
theorem If_in {b : Bool} {A B : Prop} (h : b = true → A) (k : b = false → B) : If b A B := by
  unfold If
  cases b
  · simpa using k rfl
  · simpa using h rfl
theorem Gd_to {α : Type} {c : Bool} {d : α} {op : (α → World → Prop) → Prop} {K : α → World → Prop} {w : World} (J : α → World → Prop) (hJ : ∀ x w, J x w → K x w) (h : (∀ x w, J x w → K x w) → c = true → op K) (k : c = false → J d w) : Gd c d op K w :=
  ⟨h hJ, fun hc => hJ _ _ (k hc)⟩
theorem RunW_in {P : Program} {L : List Nat} {s : Sem Value} {K : Value → World → Prop} {w w' : World} {v : Value} (h : s.run P w = .ok v w') (hL : Kept L w w') (k : K v w') : RunW P L s K w := by
  exact ⟨by rw [h]; exact ⟨hL, k⟩⟩
theorem RunW_in0 {P : Program} {L : List Nat} {s : Sem Value} {K : Value → World → Prop} {w : World} {v : Value} (h : s.run P w = .ok v w) (k : K v w) : RunW P L s K w :=
  RunW_in h (fun _ _ => rfl) k
theorem RunU_in {P : Program} {L : List Nat} {s : Sem Unit} {K : World → Prop} {w w' : World} {u : Unit} (h : s.run P w = .ok u w') (hL : Kept L w w') (k : K w') : RunU P L s K w := by
  exact ⟨by rw [h]; exact ⟨hL, k⟩⟩
theorem Jn_in {A : List Value → List Value → World → Prop} {B : (List Value → List Value → World → Prop) → Prop} (J : List Value → List Value → World → Prop) (h : ∀ us vs w, J us vs w → A us vs w) (k : B J) : Jn A B := ⟨J, h, k⟩
theorem opAg_in {cs : Array Value} {K : Array Value → Prop} (h : K cs) : opAg (.agg cs) K := h
theorem opTu_in {cs : Array Value} {K : Array Value → Prop} (h : K cs) : opTu (.tuple cs) K := h
theorem opM_in {s : Option Nat} {K : Option Nat → Prop} (h : K s) : opM (.map s) K := h
/-- A loop: what is so whenever it comes round, and what falls. -/
theorem LoopP_in {F : List Value → List Value → (List Value → List Value → World → Prop) → World → Prop} {us vs : List Value} {w : World}
    (I : Nat → List Value → List Value → World → Prop) (m : Nat) (h : I m us vs w) (k : ∀ m us vs w, I m us vs w → F us vs (fun us' vs' w' => ∃ m', m' < m ∧ I m' us' vs' w') w) : LoopP F us vs w :=
  ⟨I, ⟨m, h⟩, k⟩
theorem Md_drew (w : World) : Md [] w w.drew := ⟨rfl, rfl, rfl, Nat.le_refl _, fun _ _ _ => rfl⟩
theorem cell_lt {w : World} {A : Addr} {v : Value} (h : w.cell? A = some v) : A.block < w.heap.size := by
  unfold World.cell? at h
  split at h
  · rename_i hb; exact (Array.getElem?_eq_some_iff.1 hb).1
  · cases h
theorem Md.cell {D : List Nat} {w w' : World} (h : Md D w w') {A : Addr} {v : Value} (hc : w.cell? A = some v) (hD : A.block ∉ D) : w'.cell? A = some v := by
  have hb := h.blk A.block (cell_lt hc) hD
  unfold World.cell? at hc ⊢
  rw [hb]
  exact hc
theorem Md.cell0 {w w' : World} (h : Md [] w w') {A : Addr} {v : Value} (hc : w.cell? A = some v) : w'.cell? A = some v := h.cell hc (by simp)
/-- What is new was not there. -/
theorem Md.fresh {D : List Nat} {w w' : World} (h : Md D w w') (hD : ∀ d ∈ D, w.heap.size ≤ d) : Md [] w w' :=
  ⟨h.os, h.tape, h.output, h.size, fun k hk _ => h.blk k hk fun hm => by have := hD k hm; omega⟩
theorem Md.old {D : List Nat} {w0 w w' : World} (h0 : Md [] w0 w) (h : Md D w w') (hD : ∀ d ∈ D, w0.heap.size ≤ d) : Md [] w0 w' :=
  ⟨h.os.trans h0.os, h.tape.trans h0.tape, h.output.trans h0.output, Nat.le_trans h0.size h.size,
    fun k hk hm => (h.blk k (Nat.lt_of_lt_of_le hk h0.size) fun hm => by have := hD k hm; omega).trans (h0.blk k hk hm)⟩
end Fk
