/- A generator of conditions, part 6: regions. -/
import Derived.Test.YtpgjpgecgibklaaK5
set_option linter.unusedVariables false
set_option linter.unusedSimpArgs false
namespace Fk
open Go Go.RowKit

def isNoneT : Option GKey → Bool | none => true | some _ => false
def keepE (fr : List Ent) (e : Ent) : Bool := match findE fr e.slot with | some e' => isNoneT e'.tag | none => false
/-- Behind a region no guard stands any more. -/
def clearT (s : St) : St := match s.gs with
  | [] => s
  | _ => { s with fr := s.fr.filter (keepE s.fr), gs := [] }
theorem findE_slot : ∀ {l : List Ent} {t : Nat} {e : Ent}, findE l t = some e → e.slot = t
  | [], _, _, h => by cases h
  | x :: l, t, e, h => by
    simp only [findE] at h
    cases hb : Nat.beq x.slot t with
    | true => simp [hb] at h; subst h; exact Nat.eq_of_beq_eq_true hb
    | false => simp [hb] at h; exact findE_slot h
theorem findE_filter (fr : List Ent) (t : Nat) : ∀ (l : List Ent), findE (l.filter (keepE fr)) t = match findE fr t with
    | some e' => if isNoneT e'.tag then findE l t else none
    | none => none
  | [] => by cases findE fr t <;> simp [findE]
  | x :: l => by
    have ih := findE_filter fr t l
    simp only [List.filter_cons]
    cases hb : Nat.beq x.slot t with
    | true =>
      have hx := Nat.eq_of_beq_eq_true hb
      have hk : keepE fr x = match findE fr t with | some e' => isNoneT e'.tag | none => false := by unfold keepE; rw [hx]
      cases hf : findE fr t with
      | none =>
        simp only [hf] at hk ih ⊢
        simp [hk, ih]
      | some e' =>
        simp only [hf] at hk ih ⊢
        cases hn : isNoneT e'.tag with
        | true => simp [hk, hn, findE, hb]
        | false => simp [hk, hn] at ih ⊢; exact ih
    | false =>
      cases hk : keepE fr x with
      | true =>
        simp only [hk, if_true, findE, hb, cond_false]
        exact ih
      | false =>
        simp only [hk, findE, hb, cond_false]
        exact ih
theorem clearT_find {s : St} {t : Nat} {e : Ent} (h : findE (clearT s).fr t = some e) : findE s.fr t = some e ∧ (s.gs = [] ∨ e.tag = none) := by
  unfold clearT at h
  split at h
  · rename_i hg; exact ⟨h, .inl hg⟩
  · rw [findE_filter] at h
    cases hf : findE s.fr t with
    | none => simp [hf] at h
    | some e' =>
      simp only [hf] at h
      split at h
      · rename_i hn
        have he : e' = e := Option.some.inj h
        subst he
        refine ⟨by first | exact hf | rfl, .inr ?_⟩
        cases ht : e'.tag with
        | none => rfl
        | some k => simp [ht, isNoneT] at hn
      · cases h
theorem clearT_gs (s : St) : (clearT s).gs = [] := by
  unfold clearT
  split
  · assumption
  · rfl
theorem clearT_rg (s : St) : (clearT s).rg = s.rg := by
  unfold clearT
  split <;> rfl
theorem clearT_rel {n : Nat} {s : St} {w cw : World} {a : Act} (h : Rel n s w a cw) : Rel n (clearT s) w a cw := by
  have hg := clearT_gs s
  have hr := clearT_rg s
  have hd : (clearT s).dirty = s.dirty := by unfold clearT; split <;> rfl
  have hc : (clearT s).chg = s.chg := by unfold clearT; split <;> rfl
  refine ⟨h.dfr, h.sz, ?_, ?_, ?_, ?_, ?_, ?_, ?_, ?_, ?_, ?_⟩
  · intro t e he
    obtain ⟨h1, h2⟩ := clearT_find he
    obtain ⟨c, q1, q2, q3, q4⟩ := h.ent t e h1
    refine ⟨c, ?_, q2, by rw [hr]; exact q3, q4⟩
    rcases h2 with h2 | h2
    · rw [hg, ← h2]; exact q1
    · rw [h2] at q1 ⊢; exact q1
  · intro k g hk; rw [hg] at hk; cases hk
  · intro k g hk; rw [hg] at hk; cases hk
  · intro k g hk; rw [hg] at hk; cases hk
  · rw [hr]; exact h.reg
  · rw [hr]; exact h.dis
  · rw [hr]; exact h.wfr
  · rw [hg]; rfl
  · rw [hd]; exact h.wor
  · rw [hc]; exact h.syn
theorem clearT_ag {fw : List Nat} {fs : Nat → Bool} (s : St) : Ag fw fs s (clearT s) := by
  refine ⟨fun t ht e he hn => ?_, fun k _ => by rw [clearT_rg], fun k r hk => ⟨r, by rw [clearT_rg]; exact hk, rfl, rfl, rfl⟩⟩
  unfold clearT
  split
  · exact he
  · show findE (s.fr.filter (keepE s.fr)) t = some e
    rw [findE_filter]
    simp [he, hn, isNoneT]

/-! ### In the order of the text -/
def seqOps (P : Program) (n : Nat) (rk : List Nat) (ops : List Oper) (fs : Nat → Bool) (fw : List Nat) : List Oper → St → World → (St → World → Prop) → Prop
  | [], s, w, K => K s w
  | o :: r, s, w, K => opStep P n rk ops (fun _ => true) fs fw s w o fun s w => seqOps P n rk ops fs fw r s w K
section
variable {P : Program} {n : Nat} {rk : List Nat} {ops : List Oper} {fs : Nat → Bool} {fw : List Nat} {K : St → World → Prop} {Q : Exit → Act → World → Prop}
theorem seqOps_sound : ∀ (l : List Oper) (s0 s : St) (w cw : World) (a : Act), Rel n s w a cw → Ag fw fs s0 s → seqOps P n rk ops fs fw l s w K → (∀ a cw, Nx n fw fs s0 K a cw → Q .normal a cw) →
    wpList P ops.toArray Q l a cw
  | [], s0, s, w, cw, a, h, hag, hk, hQ => hQ a cw ⟨s, w, h, hag, hk⟩
  | o :: r, s0, s, w, cw, a, h, hag, hk, hQ => by
    have h1 := opStep_sound (Q := Q) h hk
    unfold wpList
    split
    · rename_i hw
      rw [if_pos hw] at h1
      exact .inl (Oper.wp_mono (fun a' w' ⟨s', w0, q1, q2, q3⟩ => seqOps_sound r s0 s' w0 w' a' q1 (hag.trans q2) q3 hQ) h1)
    · rename_i hw
      rw [if_neg hw] at h1
      obtain ⟨s', w0, q1, q2, q3⟩ := h1
      exact seqOps_sound r s0 s' w0 cw _ q1 (hag.trans q2) q3 hQ
end

/-! ### In whatever order -/
/-- A load that may be taken first: it reads the same in every world that meets S. -/
def LdS (P : Program) (S : World → Prop) (t : TypeId) (A : Addr) (g : Option Bool) (K : SV → Prop) : Prop := match g with
  | none => ∃ v, (∀ w, S w → LdV P t w A fun u => u = v) ∧ opS (shpOf P t) v fun v => K (.v v)
  | some c => match shpOf P t with
    | .one (.one (.i k)) => ∃ x, (c = true → ∀ w, S w → LdV P t w A fun u => u = .int k x) ∧ K (.v (.int k x))
    | .one (.one .b) => ∃ x, (c = true → ∀ w, S w → LdV P t w A fun u => u = .bool x) ∧ K (.v (.bool x))
    | _ => ∃ v, (c = true → ∀ w, S w → LdV P t w A fun u => u = v) ∧ opS (shpOf P t) v fun v => K (.v v)
def isFloat (P : Program) (fz : Nat → Bool) (hasS : Bool) (s : St) (γ : List GKey) (o : Oper) : Bool := match o.op with
  | .move _ | .assign _ | .pick _ _ _ | .fieldAddr _ _ _ | .indexAddr _ _ _ | .nilCheck _ => true
  | .load _ x => match evS s γ x with | some (.p k _) => fz k | _ => hasS
  | .index t _ _ => isStrT P t
  | .build t _ => smallT P t
  | .binOp .quo t _ _ _ | .binOp .rem t _ _ _ => (scI P t).isSome
  | .binOp .shl _ _ _ _ | .binOp .shr _ _ _ _ => true
  | _ => isT P o
def floatOp (P : Program) (n : Nat) (fw : List Nat) (fz : Nat → Bool) (S : World → Prop) (s : St) (γ : List GKey) (g : Option Bool) (tag : Option GKey) (o : Oper) (K : St → Prop) : Prop := match o.op with
  | .load t x => match evS s γ x with
    | some (.v (.pointer (some A))) => LdS P S t A g fun sv => putS n fw s o.dst tag sv K
    | _ => opCore P fz s γ g o (fun sv => putS n fw s o.dst tag sv K) False
  | _ => opCore P fz s γ g o (fun sv => putS n fw s o.dst tag sv K) False
def floatStep (P : Program) (n : Nat) (ops : List Oper) (fw : List Nat) (fz : Nat → Bool) (S : World → Prop) (s : St) (o : Oper) (K : St → Prop) : Prop := match o.guard with
  | none => floatOp P n fw fz S s [] none none o K
  | some key => match guardOf ops s key with
    | some (s, g) => floatOp P n fw fz S s (key :: g.anc) (some g.cond) (some key) o K
    | none => False
def floats (P : Program) (ops : List Oper) (fz : Nat → Bool) (hasS : Bool) (s : St) (o : Oper) : Bool := match o.guard with
  | none => isFloat P fz hasS s [] o
  | some key => match guardOf ops s key with
    | some (s, g) => isFloat P fz hasS s (key :: g.anc) o
    | none => false
def bindsE (e : Edge) : Bool := Region.binds .any e
def readyL (ops : List Oper) (listed : List Bool) : List Nat := (List.range ops.length).filter fun i =>
  !listed.getD i true && (match ops[i]? with | some o => o.after.toList.all (fun e => !bindsE e || listed.getD e.on false) | none => false)
def freeL (ops : List Oper) (listed : List Bool) (i : Nat) : Bool := match ops[i]? with
  | none => false
  | some oi => (List.range ops.length).all fun j => Nat.beq j i || listed.getD j true || match ops[j]? with
      | some oj => oj.after.toList.any (fun e => bindsE e && Nat.beq e.on i) || oi.apart ops.toArray oj
      | none => true
def firstF (P : Program) (ops : List Oper) (fz : Nat → Bool) (hasS : Bool) (s : St) (listed : List Bool) : List Nat → Option (Nat × Oper)
  | [] => none
  | i :: r => match ops[i]? with
    | some o => bif floats P ops fz hasS s o && freeL ops listed i then some (i, o) else firstF P ops fz hasS s listed r
    | none => firstF P ops fz hasS s listed r
def allE (A : Nat → Prop) : List Nat → Prop
  | [] => True
  | [i] => A i
  | i :: r => A i ∧ allE A r
def drawOps (P : Program) (n : Nat) (rk : List Nat) (ops : List Oper) (fz fs : Nat → Bool) (fw : List Nat) (S : World → Prop) (hasS : Bool) : Nat → List Bool → St → World → (St → World → Prop) → Prop
  | 0, listed, s, w, K => match readyL ops listed with
    | [] => K s w
    | _ => False
  | f + 1, listed, s, w, K => match readyL ops listed with
    | [] => K s w
    | rs => match firstF P ops fz hasS s listed rs with
      | some (i, o) => floatStep P n ops fw fz S s o fun s => drawOps P n rk ops fz fs fw S hasS f (listed.set i true) s w K
      | none => allE (fun i => match ops[i]? with
          | some o => opStep P n rk ops fz fs fw s w o fun s w => sync s w fun s w => match hasS with
            | true => S w ∧ drawOps P n rk ops fz fs fw S hasS f (listed.set i true) s w K
            | false => drawOps P n rk ops fz fs fw S hasS f (listed.set i true) s w K
          | none => False) rs
def hasStore : List Oper → Bool
  | [] => false
  | o :: r => match o.op with | .store _ _ _ => true | _ => hasStore r
/-- Does a region read memory by an address that is no register's? -/
def rawLd (s : St) : List Oper → List Nat → Bool
  | [], _ => false
  | o :: r, ps => match o.op with
    | .load _ (.tmp x) => match findE s.fr x with
      | some ⟨_, _, .p _ _⟩ => rawLd s r ps
      | _ => bif memN ps x then rawLd s r ps else true
    | .load _ _ => true
    | .fieldAddr _ (.tmp x) _ | .indexAddr _ (.tmp x) _ | .nilCheck (.tmp x) | .move (.tmp x) | .assign (.tmp x) => match o.dst with
      | some d => match findE s.fr x with
        | some ⟨_, _, .p _ _⟩ => rawLd s r (d :: ps)
        | _ => bif memN ps x then rawLd s r (d :: ps) else rawLd s r ps
      | none => rawLd s r ps
    | _ => rawLd s r ps
def keyIn (l : List Reg) (k : Nat) : Bool := match findR l k with | some _ => true | none => false
def noSel : List Oper → Bool
  | [] => true
  | o :: r => match o.op with | .select _ _ => false | _ => noSel r
/-- What all worlds have in which a load may be taken. -/
def Dr (w : World) (B : (World → Prop) → Prop) : Prop := ∃ S : World → Prop, S w ∧ B S
def drawW (P : Program) (n : Nat) (rk : List Nat) (ops : List Oper) (fs : Nat → Bool) (fw : List Nat) (s : St) (w : World) (K : St → World → Prop) : Prop :=
  sync s w fun s w =>
    let fz : Nat → Bool := fun k => bif hasStore ops then false else keyIn s.rg k
    bif noSel ops then match (bif hasStore ops then false else rawLd s ops []) with
    | true => Dr w.drew fun S => drawOps P n rk ops fz (fun k => fs k || fz k) fw S true ops.length (List.replicate ops.length false) s w.drew K
    | false => drawOps P n rk ops fz (fun k => fs k || fz k) fw (fun _ => True) false ops.length (List.replicate ops.length false) s w.drew K
    else False
end Fk
