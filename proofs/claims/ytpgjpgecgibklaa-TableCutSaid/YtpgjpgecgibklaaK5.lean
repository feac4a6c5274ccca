/- A generator of conditions, part 5: an operation with its guard; regions. -/
import Derived.Test.YtpgjpgecgibklaaK4
set_option linter.unusedVariables false
set_option linter.unusedSimpArgs false
namespace Fk
open Go Go.RowKit

def wrL (cells : List Value) (o : Nat) (vs : List Value) : List Value := cells.take o ++ (vs ++ cells.drop (o + vs.length))
def wrR (o : Nat) (vs : List Value) (r : Reg) : Reg := { r with cells := wrL r.cells o vs }
theorem wrR_key (o : Nat) (vs : List Value) (r : Reg) : (wrR o vs r).key = r.key := rfl
/-- The value is of a known form: it is not opened. -/
def known : Op → Bool
  | .alloc _ | .box _ _ | .makeMap _ _ | .buildSlice _ _ _ => true
  | _ => false
def openW (P : Program) (o : Oper) (v : Value) (K : Value → Prop) : Prop := bif known o.op then K v else opS (outS P o) v K
def isRegLd (s : St) (γ : List GKey) (o : Oper) : Bool := match o.op with
  | .load _ x => match evS s γ x with | some (.p _ _) => true | _ => false
  | _ => false
def guardOf (ops : List Oper) (s : St) (key : GKey) : Option (St × GEnt) :=
  match findG s.gs key with
  | some g => match ops[key.1]? with
    | some oj => match oj.dst with
      | some t => bif Nat.beq t g.slot then some (s, g) else none
      | none => none
    | none => none
  | none => match ops[key.1]? with
    | some oj => match oj.dst with
      | some t => match findE s.fr t with
        | some ⟨_, none, .v (.bool b)⟩ => some ({ s with gs := ⟨key, t, true, b, []⟩ :: s.gs }, ⟨key, t, true, b, []⟩)
        | some ⟨_, some k, .v (.bool b)⟩ => match findG s.gs k with
          | some gk => some ({ s with gs := ⟨key, t, gk.cond, b, k :: gk.anc⟩ :: s.gs }, ⟨key, t, gk.cond, b, k :: gk.anc⟩)
          | none => none
        | _ => none
      | none => none
    | none => none
/-- A store into a register. -/
def whole (o : Nat) (t : TypeId) (r : Reg) : Bool := bif Nat.beq r.ty t then Nat.beq o 0 else false
def wrA (vs : List Value) (r : Reg) : Reg := { r with cells := vs }
def regSt (P : Program) (fs : Nat → Bool) (s : St) (t : TypeId) (k o : Nat) (y : Value) (w : World) (K : St → World → Prop) : Prop :=
  bif fs k then False else match findR s.rg k, szOf P t with
    | some r, some m => OkC (cL y) m (bif whole o t r then SzIs r.cells.length m (K { s with rg := setR s.rg k (wrA (cL y)), dirty := r.blk :: s.dirty, chg := true } w)
        else LeC (o + m) r.cells.length
        (K { s with rg := setR s.rg k (wrR o (cL y)), dirty := r.blk :: s.dirty, chg := true } w))
    | _, _ => False
def newReg (n : Nat) (fs : Nat → Bool) (fw : List Nat) (s : St) (d : Nat) (t : TypeId) (big : Bool) (cells : List Value) (w : World) (K : St → World → Prop) : Prop :=
  bif fs d then False else match findR s.rg d with
  | some _ => False
  | none => Rg w fun b => putS n fw { s with rg := ⟨d, b, t, big, cells⟩ :: s.rg, chg := true } (some d) none (.p d 0) fun s => K s w
def genU (P : Program) (n : Nat) (fw : List Nat) (s : St) (w : World) (o : Oper) (K : St → World → Prop) : Prop :=
  sync s w fun s w => effVal P (regIds s.rg) s [] o (fun v w' => openW P o v fun v => putS n fw s o.dst none (.v v) fun s => K s w') w
def effU (P : Program) (n : Nat) (rk : List Nat) (fs : Nat → Bool) (fw : List Nat) (s : St) (w : World) (o : Oper) (K : St → World → Prop) : Prop :=
  bif isRegLd s [] o then opCore P (fun _ => true) s [] none o (fun sv => putS n fw s o.dst none sv fun s => K s w) False else
  match o.op with
  | .store t x v => match o.dst with
    | some _ => False
    | none => match evS s [] x, evV s [] v with
      | some (.p k o'), some y => regSt P fs s t k o' y w K
      | some (.v (.pointer (some A))), some y => sync s w fun s w => StV P (regIds s.rg) t w A (cL y) fun w' => K s w'
      | _, _ => False
  | .mapUpdate t m k v | .insert t m k v => match o.dst with
    | some _ => False
    | none => bif kn s [] o.op.operands.toList then sync s w fun s w => RunU P (regIds s.rg) (Instr.mapUpdate t (rho s [] m) (rho s [] k) (rho s [] v)) (fun w' => K s w') w else False
  | .alloc t => match o.dst with
    | some d => bif rk.contains d then (bif hasZero P t then newReg n fs fw s d t (!smallT P t) (zeroL P t) w K else False) else genU P n fw s w o K
    | none => genU P n fw s w o K
  | .box t x => match o.dst with
    | some d => bif rk.contains d then (match evV s [] x with | some v => newReg n fs fw s d t (!smallT P t) (cL v) w K | none => False) else genU P n fw s w o K
    | none => genU P n fw s w o K
  | _ => genU P n fw s w o K
def gOne {α : Type} (P : Program) (n : Nat) (fw : List Nat) (s : St) (γ : List GKey) (key : GKey) (c : Bool) (o : Oper) (d : α) (opn : Value → (α → Prop) → Prop) (mk : α → Value) (w : World) (K : St → World → Prop) : Prop :=
  Gd c d (fun K' => effVal P (regIds s.rg) s γ o (fun v w' => opn v fun x => K' x w') w) (fun x w' => putS n fw s o.dst (some key) (.v (mk x)) fun s => K s w') w
def gAg (P : Program) (n : Nat) (fw : List Nat) (s : St) (γ : List GKey) (key : GKey) (c : Bool) (o : Oper) (l : List Cs) (w : World) (K : St → World → Prop) : Prop :=
  Gd c (l.map dfC) (fun K' => effVal P (regIds s.rg) s γ o (fun v w' => opAg v fun cs => opCs l cs 0 fun x => K' x w') w)
    (fun x w' => opCs l x.toArray 0 fun vs => putS n fw s o.dst (some key) (.v (.agg vs.toArray)) fun s => K s w') w
/-- The shape of what an operation gives. -/
def knS (P : Program) (o : Oper) : Shp := match o.op with
  | .alloc _ | .box _ _ => .one (.one .p)
  | .makeMap _ _ => .one (.one .m)
  | .buildSlice _ _ _ => .one (.one .l)
  | _ => outS P o
def effG (P : Program) (n : Nat) (fw : List Nat) (s : St) (w : World) (key : GKey) (g : GEnt) (o : Oper) (K : St → World → Prop) : Prop :=
  bif isRegLd s (key :: g.anc) o then opCore P (fun _ => true) s (key :: g.anc) (some g.cond) o (fun sv => putS n fw s o.dst (some key) sv fun s => K s w) False else
  sync s w fun s w => match false, knS P o with
    | false, .one (.one (.i k)) => gOne P n fw s (key :: g.anc) key g.cond o (0 : Int) (fun v K => opI k v K) (fun x => .int k x) w K
    | false, .one (.one .b) => gOne P n fw s (key :: g.anc) key g.cond o false (fun v K => opB v K) (fun x => .bool x) w K
    | false, .one (.one .s) => gOne P n fw s (key :: g.anc) key g.cond o ByteArray.empty (fun v K => opStr v K) (fun x => .string x) w K
    | false, .one (.one .p) => gOne P n fw s (key :: g.anc) key g.cond o (none : Option Addr) (fun v K => opP v K) (fun x => .pointer x) w K
    | false, .one (.one .l) => gOne P n fw s (key :: g.anc) key g.cond o ((none, 0, 0) : Option Addr × Nat × Nat) (fun v K => opL v fun a n c => K (a, n, c)) (fun x => .slice x.1 x.2.1 x.2.2) w K
    | false, .one (.one .m) => gOne P n fw s (key :: g.anc) key g.cond o (none : Option Nat) (fun v K => opM v K) (fun x => .map x) w K
    | false, .one (.agg l) => gAg P n fw s (key :: g.anc) key g.cond o l w K
    | false, .one (.big m) => gOne P n fw s (key :: g.anc) key g.cond o (#[] : Array Value) (fun v K => opBig v fun cs => cs.size = m ∧ K cs) (fun x => .agg x) w K
    | _, _ => gOne P n fw s (key :: g.anc) key g.cond o undef (fun v K => K v) (fun x => x) w K
def opStep (P : Program) (n : Nat) (rk : List Nat) (ops : List Oper) (fz fs : Nat → Bool) (fw : List Nat) (s : St) (w : World) (o : Oper) (K : St → World → Prop) : Prop :=
  match o.guard with
  | none => opCore P fz s [] none o (fun sv => putS n fw s o.dst none sv fun s => K s w) (effU P n rk fs fw s w o K)
  | some key => match guardOf ops s key with
    | some (s, g) => opCore P fz s (key :: g.anc) (some g.cond) o (fun sv => putS n fw s o.dst (some key) sv fun s => K s w) (effG P n fw s w key g o K)
    | none => False

/-- What follows, told of frame and world. -/
def Nx (n : Nat) (fw : List Nat) (fs : Nat → Bool) (s0 : St) (K : St → World → Prop) (a : Act) (cw : World) : Prop := ∃ s w, Rel n s w a cw ∧ Ag fw fs s0 s ∧ K s w
theorem Nx.from {n : Nat} {fw : List Nat} {fs : Nat → Bool} {s0 s1 : St} {K : St → World → Prop} {a : Act} {cw : World} (h : Ag fw fs s0 s1) (k : Nx n fw fs s1 K a cw) : Nx n fw fs s0 K a cw :=
  let ⟨s, w, h1, h2, h3⟩ := k; ⟨s, w, h1, h.trans h2, h3⟩

section
variable {P : Program} {n : Nat} {fw : List Nat} {fs : Nat → Bool} {s : St} {w cw : World} {a : Act} {o : Oper} {K : St → World → Prop} {Q : Exit → Act → World → Prop}
theorem putS_nx (h : Rel n s w a cw) {dst : Option Tmp} {tag : Option GKey} {sv : SV} {x : Value} {c : Bool} (ht : tagCond s.gs tag = some c)
    (hx : c = true → svVal s.rg sv x) (hu : c = false → x = undef) {w' : World} (hw : w' = w) (hop : putS n fw s dst tag sv fun s => K s w') : Nx n fw fs s K (a.put dst x) cw := by
  subst hw
  unfold putS at hop
  split at hop
  · exact ⟨s, w', h, Ag.refl _ _ _, hop⟩
  · rename_i d
    cases hd : Nat.blt d n with
    | false => simp [hd] at hop
    | true =>
      simp only [hd, cond_true] at hop
      cases hg : s.gs.all (fun g => !(Nat.beq g.slot d)) with
      | false => simp [hg] at hop
      | true =>
        simp only [hg, cond_true] at hop
        cases hm : memN fw d with
        | true => simp [hm] at hop
        | false =>
          simp only [hm, cond_false] at hop
          exact ⟨_, w', h.put (of_decide_eq_true (by simpa [Nat.blt_eq] using hd)) hg ht hx hu, Ag.put hm, hop⟩
theorem openW_sound {v : Value} {K : Value → Prop} (h : openW P o v K) : K v := by
  unfold openW at h
  cases hk : known o.op with
  | true => simpa [hk] using h
  | false => simp only [hk, cond_false] at h; exact opS_sound h
theorem ctx_nil {gs : List GEnt} : Ctx gs [] := fun _ h => by cases h
/-- A pure operation, carried out. -/
theorem core_wp {fz : Nat → Bool} {γ : List GKey} {g : Option Bool} {sv : SV} {tag : Option GKey} {c : Bool} (h : Rel n s w a cw) (hc : Ctx s.gs γ) (hg : g ≠ some false)
    (ht : tagCond s.gs tag = some c) (hct : c = true) (hgv : Gives P fz s γ g o a sv) (hop : putS n fw s o.dst tag sv fun s => K s w) : o.wp P a cw (Nx n fw fs s K) Q := by
  obtain ⟨x, hx, hrun⟩ := hgv hc hg
  unfold Oper.wp
  rw [hrun cw (fun k r _ hr => h.reg k r hr)]
  exact putS_nx h ht (fun _ => hx) (fun hf => by rw [hct] at hf; cases hf) rfl hop
theorem genU_sound (h : Rel n s w a cw) (hop : genU P n fw s w o K) : o.wp P a cw (Nx n fw fs s K) Q := by
  unfold genU at hop
  obtain ⟨s', h', hop, hfr, hgs, hrg⟩ := sync_sound h hop
  refine Oper.wp_mono (fun a' w' ⟨v, ha, hkept, hk⟩ => ?_) (effVal_sound h' ctx_nil hop)
  subst ha
  have h2 : Rel n { s' with dirty := [], chg := false } w' a w' := h'.world fun k r hr => hkept _ (List.mem_map.2 ⟨r, findR_mem hr, rfl⟩)
  have hk := openW_sound hk
  have h3 : Rel n s' w' a w' := ⟨h2.dfr, h2.sz, h2.ent, h2.anc, h2.gbase, h2.gslot, h2.reg, h2.dis, h2.wfr, h2.wfg, Md.refl _ _, fun _ => rfl⟩
  exact Nx.from (Ag.same hfr hrg) (putS_nx h3 (tag := none) (sv := .v v) (c := true) rfl (fun _ => rfl) (fun hf => by cases hf) rfl hk)
theorem Rel.syncd (h : Rel n s cw a cw) {cw' : World} (hr : ∀ b ∈ regIds s.rg, cw'.heap[b]? = cw.heap[b]?) : Rel n s cw' a cw' := by
  have h2 : Rel n { s with dirty := [], chg := false } cw' a cw' := h.world fun k r hk => hr _ (List.mem_map.2 ⟨r, findR_mem hk, rfl⟩)
  exact ⟨h2.dfr, h2.sz, h2.ent, h2.anc, h2.gbase, h2.gslot, h2.reg, h2.dis, h2.wfr, h2.wfg, Md.refl _ _, fun _ => rfl⟩
theorem findR_setR : ∀ {l : List Reg} {k k' : Nat} {f : Reg → Reg} (hf : ∀ r, (f r).key = r.key), findR (setR l k f) k' = if k' = k then (findR l k').map f else findR l k'
  | [], k, k', f, hf => by simp [setR, findR]
  | e :: l, k, k', f, hf => by
    simp only [setR]
    cases hb : Nat.beq e.key k with
    | true =>
      have he := Nat.eq_of_beq_eq_true hb
      simp only [cond_true, findR, hf]
      cases hb2 : Nat.beq e.key k' with
      | true =>
        have he2 := Nat.eq_of_beq_eq_true hb2
        simp [← he, ← he2]
      | false =>
        have : k' ≠ k := fun e2 => by subst e2; rw [he] at hb2; simp at hb2
        simp [this]
    | false =>
      simp only [cond_false, findR]
      cases hb2 : Nat.beq e.key k' with
      | true =>
        have he2 := Nat.eq_of_beq_eq_true hb2
        have : k' ≠ k := fun e2 => by subst e2; rw [he2] at hb; simp at hb
        simp [this]
      | false =>
        simp only [cond_false]
        exact findR_setR hf
theorem setR_congr : ∀ {l : List Reg} {k : Nat} {f g : Reg → Reg} {r : Reg}, findR l k = some r → f r = g r → setR l k f = setR l k g
  | [], _, _, _, _, h, _ => by cases h
  | e :: l, k, f, g, r, h, hfg => by
    simp only [findR] at h
    simp only [setR]
    cases hb : Nat.beq e.key k with
    | true => simp only [hb, cond_true, Option.some.injEq] at h; subst h; simp only [cond_true, hfg]
    | false => simp only [hb, cond_false] at h; simp only [cond_false, setR_congr h hfg]
theorem nodupR_setR : ∀ {l : List Reg} {k : Nat} {f : Reg → Reg} (hf : ∀ r, (f r).key = r.key), nodupR (setR l k f) = nodupR l
  | [], k, f, hf => rfl
  | e :: l, k, f, hf => by
    simp only [setR]
    cases hb : Nat.beq e.key k with
    | true => simp only [cond_true, nodupR, hf]
    | false =>
      simp only [cond_false, nodupR, findR_setR hf]
      have : e.key ≠ k := fun e2 => by rw [e2] at hb; simp at hb
      simp only [if_neg this, nodupR_setR hf]
theorem wrL_run {cells : List Value} {o m : Nat} {vs : List Value} {b : Nat} {ty : TypeId} : ∀ (vs : List Value) (i : Nat) (cur : List Value) (w : World), w.heap[b]? = some (.cells cur.toArray ty (0, 0)) →
    (setCells w ⟨b, o, none⟩ i vs).heap[b]? = some (.cells (wrL cur (o + i) vs).toArray ty (0, 0)) ∨ cur.length < o + i + vs.length := by
  intro vs
  induction vs with
  | nil =>
    intro i cur w hw
    left
    simp only [setCells, wrL, List.nil_append, List.length_nil, Nat.add_zero, List.take_append_drop]
    exact hw
  | cons v vs ih =>
    intro i cur w hw
    rcases Nat.lt_or_ge cur.length (o + i + (v :: vs).length) with hl | hl
    · exact .inr hl
    left
    simp only [List.length_cons] at hl
    simp only [setCells]
    have e : ((⟨b, o, none⟩ : Addr).add i) = ⟨b, o + i, none⟩ := add_reg b o i
    rw [e]
    have hset : (w.setCell ⟨b, o + i, none⟩ v).heap[b]? = some (.cells (cur.set (o + i) v).toArray ty (0, 0)) := by
      simp only [World.setCell, Array.getElem?_modify]
      simp [hw]
    rcases ih (i + 1) (cur.set (o + i) v) _ hset with h | h
    · rw [h]
      congr 2
      have : wrL (cur.set (o + i) v) (o + (i + 1)) vs = wrL cur (o + i) (v :: vs) := by
        unfold wrL
        simp only [List.length_cons]
        have h1 : (cur.set (o + i) v).take (o + (i + 1)) = cur.take (o + i) ++ [v] := by
          rw [show o + (i + 1) = (o + i) + 1 from by omega, List.take_add_one]
          have : (cur.set (o + i) v)[o + i]? = some v := by rw [List.getElem?_set]; simp; omega
          rw [this]
          simp [List.take_set_of_le]
        have h2 : (cur.set (o + i) v).drop (o + (i + 1) + vs.length) = cur.drop (o + i + (vs.length + 1)) := by
          rw [List.drop_set_of_lt (by omega)]
          congr 1; omega
        rw [h1, h2]
        simp
      rw [this]
    · exfalso
      simp at h
      omega
theorem regSt_sound {t : TypeId} {k o' : Nat} {y : Value} {x v : Operand} (h : Rel n s w a cw) (ho : o.op = .store t x v) (hd : o.dst = none)
    (hx : evS s [] x = some (.p k o')) (hv : evV s [] v = some y) (hop : regSt P fs s t k o' y w K) : o.wp P a cw (Nx n fw fs s K) Q := by
  unfold regSt at hop
  cases hf : fs k with
  | true => simp [hf] at hop
  | false =>
    simp only [hf, cond_false] at hop
    split at hop
    · rename_i r m hr hm
      unfold OkC at hop
      cases hok : okCells (cL y) m with
      | false => simp [hok] at hop
      | true =>
        simp only [hok, cond_true] at hop
        have hlen0 : (cL y).length = m := by
          unfold okCells at hok
          cases hb : Nat.beq (cL y).length m with
          | false => simp [hb] at hok
          | true => exact Nat.eq_of_beq_eq_true hb
        have hop : LeC (o' + m) r.cells.length (K { s with rg := setR s.rg k (wrR o' (cL y)), dirty := r.blk :: s.dirty, chg := true } w) := by
          cases hw : whole o' t r with
          | false => simpa only [hw, cond_false] using hop
          | true =>
            simp only [hw, cond_true] at hop
            obtain ⟨hz, hop⟩ := SzIs_out hop
            have ho0 : o' = 0 := by
              unfold whole at hw
              cases hb : Nat.beq r.ty t with
              | false => simp [hb] at hw
              | true => exact Nat.eq_of_beq_eq_true (by simpa [hb] using hw)
            subst ho0
            have e : wrR 0 (cL y) r = wrA (cL y) r := by
              unfold wrR wrA wrL
              rw [hlen0, ← hz]
              simp
            rw [setR_congr hr e]
            unfold LeC
            have : Nat.ble (0 + m) r.cells.length = true := Nat.ble_eq_true_of_le (by omega)
            rw [this]
            exact hop
        unfold LeC at hop
        cases hbl : Nat.ble (o' + m) r.cells.length with
        | false => simp [hbl] at hop
        | true =>
          simp only [hbl, cond_true] at hop
          have hle := Nat.le_of_ble_eq_true hbl
          obtain ⟨r', hr', he⟩ := h.evS ctx_nil hx
          rw [hr] at hr'
          cases hr'
          have hreg := h.reg k r hr
          have hcell : ∀ j, j < m → cw.cell? ((⟨r.blk, o', none⟩ : Addr).add j) = r.cells[o' + j]? := fun j _ => by
            rw [add_reg]; simp [World.cell?, hreg]
          have hst : StV P [] t cw ⟨r.blk, o', none⟩ (cL y) (fun w' => w' = setCells cw ⟨r.blk, o', none⟩ 0 (cL y)) := by
            unfold StV
            simp only [hm, OkC, hok, cond_true]
            refine ⟨by simp, fun j hj => ⟨⟨r.cells[o' + j]'(by omega), ?_⟩, ?_⟩, trivial⟩
            · rw [hcell j hj]; simp [show o' + j < r.cells.length by omega]
            · rw [add_reg]; simp [World.frozen?, hreg]
          obtain ⟨w', hrun, _, hw'⟩ := StV_sound hst
          subst hw'
          unfold Oper.wp
          have hexec : (execOp a.eval o).run P cw = .ok .skip (setCells cw ⟨r.blk, o', none⟩ 0 (cL y)) := by
            simp only [execOp, ho, he, h.evV ctx_nil hv, Instr.storeAt, Instr.sureAddr]
            simp [hrun]
          rw [hexec]
          show Nx n fw fs s K (a.put o.dst undef) _
          rw [hd]
          have hlen : (cL y).length = m := by
            unfold okCells at hok
            cases hb : Nat.beq (cL y).length m with
            | false => simp [hb] at hok
            | true => exact Nat.eq_of_beq_eq_true hb
          have hnew : (setCells cw ⟨r.blk, o', none⟩ 0 (cL y)).heap[r.blk]? = some (.cells (wrL r.cells o' (cL y)).toArray r.ty (0, 0)) := by
            rcases wrL_run (o := o') (cells := []) (m := 0) (vs := []) (cL y) 0 r.cells cw hreg with h1 | h1
            · exact h1
            · exfalso; omega
          have hother : ∀ b, b ≠ r.blk → (setCells cw ⟨r.blk, o', none⟩ 0 (cL y)).heap[b]? = cw.heap[b]? := fun b hb => setCells_heap _ _ _ _ hb
          refine ⟨{ s with rg := setR s.rg k (wrR o' (cL y)), dirty := r.blk :: s.dirty, chg := true }, w,
            ⟨h.dfr, h.sz, ?_, h.anc, h.gbase, h.gslot, ?_, ?_, ?_, h.wfg, ?_, fun hc => by cases hc⟩,
            ⟨fun _ _ _ he _ => he, fun q hq => by rw [findR_setR (wrR_key _ _), if_neg (fun e => by rw [e, hf] at hq; cases hq)],
              fun q rq hrq => by
                show ∃ r', findR (setR s.rg k (wrR o' (cL y))) q = some r' ∧ _
                rw [findR_setR (wrR_key _ _)]
                by_cases hqk : q = k
                · rw [if_pos hqk, hrq]; exact ⟨_, rfl, rfl, rfl, rfl⟩
                · rw [if_neg hqk]; exact ⟨_, hrq, rfl, rfl, rfl⟩⟩, hop⟩
          · intro t e hte
            obtain ⟨c, h1, h2, h3, h4⟩ := h.ent t e hte
            refine ⟨c, h1, h2, fun hc => ?_, h4⟩
            obtain ⟨z, hz, hz2⟩ := h3 hc
            refine ⟨z, ?_, hz2⟩
            cases hsv : e.sv with
            | v q => simpa [hsv, svVal] using hz
            | p kk oo =>
              simp only [hsv, svVal] at hz ⊢
              obtain ⟨rr, hrr, hz⟩ := hz
              by_cases hkk : kk = k
              · subst hkk
                rw [hr] at hrr; cases hrr
                exact ⟨wrR o' (cL y) r, by rw [findR_setR (wrR_key _ _)]; simp [hr], hz⟩
              · exact ⟨rr, by rw [findR_setR (wrR_key _ _)]; simp [hkk, hrr], hz⟩
          · intro kk rr hrr
            rw [findR_setR (wrR_key _ _)] at hrr
            by_cases hkk : kk = k
            · subst hkk
              simp [hr] at hrr
              subst hrr
              exact hnew
            · simp [hkk] at hrr
              rw [hother _ (h.dis _ _ _ _ hrr hr hkk)]
              exact h.reg kk rr hrr
          · intro k1 k2 r1 r2 h1 h2 hne
            rw [findR_setR (wrR_key _ _)] at h1 h2
            have b1 : ∃ r1', findR s.rg k1 = some r1' ∧ r1.blk = r1'.blk := by
              by_cases hkk : k1 = k
              · subst hkk; simp [hr] at h1; subst h1; exact ⟨r, hr, rfl⟩
              · simp [hkk] at h1; exact ⟨r1, h1, rfl⟩
            have b2 : ∃ r2', findR s.rg k2 = some r2' ∧ r2.blk = r2'.blk := by
              by_cases hkk : k2 = k
              · subst hkk; simp [hr] at h2; subst h2; exact ⟨r, hr, rfl⟩
              · simp [hkk] at h2; exact ⟨r2, h2, rfl⟩
            obtain ⟨r1', q1, e1⟩ := b1
            obtain ⟨r2', q2, e2⟩ := b2
            rw [e1, e2]
            exact h.dis _ _ _ _ q1 q2 hne
          · rw [nodupR_setR (wrR_key _ _)]; exact h.wfr
          · have hm1 : Md (r.blk :: s.dirty) w cw := h.wor.mono (fun x hx => List.mem_cons_of_mem _ hx)
            have hm2 : Md (r.blk :: s.dirty) cw (setCells cw ⟨r.blk, o', none⟩ 0 (cL y)) := by
              have gen : ∀ (vs : List Value) (i : Nat) (cw : World), Md (r.blk :: s.dirty) cw (setCells cw ⟨r.blk, o', none⟩ i vs) := by
                intro vs
                induction vs with
                | nil => intro i cw; exact Md.refl _ _
                | cons v vs ih =>
                  intro i cw
                  exact (Md.setCell cw _ v (by rw [add_block]; exact List.mem_cons_self)).trans (ih (i + 1) _)
              exact gen _ _ _
            exact hm1.trans hm2
    · exact hop.elim
theorem newReg_sound {d : Nat} {t : TypeId} {big : Bool} {cells : List Value} (h : Rel n s w a cw) (hd : o.dst = some d)
    (hrun : (execOp a.eval o).run P cw = .ok (.value (.pointer (some ⟨cw.heap.size, 0, none⟩))) (cw.alloc (.cells cells.toArray t)))
    (hop : newReg n fs fw s d t big cells w K) : o.wp P a cw (Nx n fw fs s K) Q := by
  unfold newReg at hop
  cases hfd : fs d with
  | true => simp [hfd] at hop
  | false =>
  simp only [hfd, cond_false] at hop
  split at hop
  · exact hop.elim
  · rename_i hnone
    have hop := hop cw.heap.size h.wor.size
    unfold Oper.wp
    rw [hrun]
    show Nx n fw fs s K (a.put o.dst _) _
    rw [hd]
    have hold : ∀ (b : Nat) (ob : Obj), cw.heap[b]? = some ob → (cw.alloc (.cells cells.toArray t)).heap[b]? = some ob := fun b ob hb => by
      rw [Below.heap_alloc _ _ _ (Array.getElem?_eq_some_iff.1 hb).1]; exact hb
    have hfind : ∀ k, k ≠ d → findR (⟨d, cw.heap.size, t, big, cells⟩ :: s.rg) k = findR s.rg k := fun k hk => by
      have : Nat.beq d k = false := by
        cases hb : Nat.beq d k with
        | false => rfl
        | true => exact absurd (Nat.eq_of_beq_eq_true hb).symm hk
      simp [findR, this]
    have hfindd : findR (⟨d, cw.heap.size, t, big, cells⟩ :: s.rg) d = some ⟨d, cw.heap.size, t, big, cells⟩ := by simp [findR]
    have hlt : ∀ k r, findR s.rg k = some r → r.blk < cw.heap.size := fun k r hr => (Array.getElem?_eq_some_iff.1 (h.reg k r hr)).1
    have h2 : Rel n { s with rg := ⟨d, cw.heap.size, t, big, cells⟩ :: s.rg, chg := true } w a (cw.alloc (.cells cells.toArray t)) := by
      refine ⟨h.dfr, h.sz, ?_, h.anc, h.gbase, h.gslot, ?_, ?_, ?_, h.wfg, h.wor.trans (Md.alloc _ _), fun hc => by cases hc⟩
      · intro t' e hte
        obtain ⟨c, h1, h2, h3, h4⟩ := h.ent t' e hte
        refine ⟨c, h1, h2, fun hc => ?_, h4⟩
        obtain ⟨z, hz, hz2⟩ := h3 hc
        refine ⟨z, ?_, hz2⟩
        cases hsv : e.sv with
        | v q => simpa [hsv, svVal] using hz
        | p kk oo =>
          simp only [hsv, svVal] at hz ⊢
          obtain ⟨rr, hrr, hz⟩ := hz
          have : kk ≠ d := fun e => by subst e; rw [hnone] at hrr; cases hrr
          exact ⟨rr, by rw [hfind _ this]; exact hrr, hz⟩
      · intro k r hr
        by_cases hk : k = d
        · subst hk
          have e : (⟨k, cw.heap.size, t, big, cells⟩ : Reg) = r := by
            have := hfindd
            exact Option.some.inj (this.symm.trans hr)
          subst e
          show ((cw.heap.push _)[cw.heap.size]?) = _
          simp
        · have hr' : findR s.rg k = some r := by rw [← hfind k hk]; exact hr
          exact hold _ _ (h.reg k r hr')
      · intro k1 k2 r1 r2 h1 h2 hne
        by_cases hk1 : k1 = d
        · subst hk1
          have e : (⟨k1, cw.heap.size, t, big, cells⟩ : Reg) = r1 := Option.some.inj (hfindd.symm.trans h1)
          subst e
          have h2' : findR s.rg k2 = some r2 := by rw [← hfind k2 (Ne.symm hne)]; exact h2
          exact Nat.ne_of_gt (hlt _ _ h2')
        · have h1' : findR s.rg k1 = some r1 := by rw [← hfind k1 hk1]; exact h1
          by_cases hk2 : k2 = d
          · subst hk2
            have e : (⟨k2, cw.heap.size, t, big, cells⟩ : Reg) = r2 := Option.some.inj (hfindd.symm.trans h2)
            subst e
            exact Nat.ne_of_lt (hlt _ _ h1')
          · have h2' : findR s.rg k2 = some r2 := by rw [← hfind k2 hk2]; exact h2
            exact h.dis _ _ _ _ h1' h2' hne
      · simp only [nodupR, hnone]; exact h.wfr
    exact Nx.from (s1 := { s with rg := ⟨d, cw.heap.size, t, big, cells⟩ :: s.rg, chg := true }) ⟨fun _ _ _ he _ => he, fun q hq => hfind q (fun e => by rw [e, hfd] at hq; cases hq),
        fun q rq hrq => ⟨rq, (hfind q (fun e => by rw [e, hnone] at hrq; cases hrq)).trans hrq, rfl, rfl, rfl⟩⟩
      (putS_nx h2 (tag := none) (sv := .p d 0) (c := true) rfl (fun _ => ⟨_, hfindd, rfl⟩) (fun hf => by cases hf) rfl hop)
theorem effU_sound {rk : List Nat} (h : Rel n s w a cw) (hop : effU P n rk fs fw s w o K) : o.wp P a cw (Nx n fw fs s K) Q := by
  unfold effU at hop
  cases hl : isRegLd s [] o with
  | true =>
    simp only [hl, cond_true] at hop
    rcases opCore_sound h hop with hf | ⟨sv, hk, hg⟩
    · exact hf.elim
    · exact core_wp (tag := none) (c := true) h ctx_nil (by simp) rfl rfl hg hk
  | false =>
    simp only [hl, cond_false] at hop
    split at hop
    · rename_i t x v ho
      split at hop
      · exact hop.elim
      · rename_i hd
        split at hop
        · rename_i k o' y hx hv
          exact regSt_sound h ho hd hx hv hop
        · rename_i A y hx hv
          obtain ⟨s', h', hop, hfr, hgs, hrg⟩ := sync_sound h hop
          obtain ⟨w', hrun, hkept, hk⟩ := StV_sound hop
          have he : a.eval x = .pointer (some A) := h.evS ctx_nil hx
          unfold Oper.wp
          have hexec : (execOp a.eval o).run P cw = .ok .skip w' := by
            simp [execOp, ho, he, h.evV ctx_nil hv, Instr.storeAt, Instr.sureAddr, hrun]
          rw [hexec]
          show Nx n fw fs s K (a.put o.dst undef) _
          rw [hd]
          exact ⟨s', w', h'.syncd hkept, Ag.same hfr hrg, hk⟩
        · exact hop.elim
    · rename_i t m k v ho
      split at hop
      · exact hop.elim
      · rename_i hd
        cases hkn : kn s [] o.op.operands.toList with
        | false => simp [hkn] at hop
        | true =>
          simp only [hkn, cond_true] at hop
          have heq := operands_eq h ctx_nil (by simp [ho]) hkn
          obtain ⟨s', h', hop, hfr, hgs, hrg⟩ := sync_sound h hop
          replace hop := hop.out
          split at hop
          · rename_i w' hr
            unfold Oper.wp
            have hexec : (execOp a.eval o).run P cw = .ok .skip w' := by
              rw [heq]
              have e : ∀ x, rho s' [] x = rho s [] x := fun x => by
                unfold rho evV evS
                cases x <;> simp [lookS, hfr]
              simp only [e] at hr
              simp [execOp, ho, hr]
            rw [hexec]
            show Nx n fw fs s K (a.put o.dst undef) _
            rw [hd]
            exact ⟨s', w', h'.syncd hop.1, Ag.same hfr hrg, hop.2⟩
          · exact hop.elim
    · rename_i t m k v ho
      split at hop
      · exact hop.elim
      · rename_i hd
        cases hkn : kn s [] o.op.operands.toList with
        | false => simp [hkn] at hop
        | true =>
          simp only [hkn, cond_true] at hop
          have heq := operands_eq h ctx_nil (by simp [ho]) hkn
          obtain ⟨s', h', hop, hfr, hgs, hrg⟩ := sync_sound h hop
          replace hop := hop.out
          split at hop
          · rename_i w' hr
            unfold Oper.wp
            have hexec : (execOp a.eval o).run P cw = .ok .skip w' := by
              rw [heq]
              have e : ∀ x, rho s' [] x = rho s [] x := fun x => by
                unfold rho evV evS
                cases x <;> simp [lookS, hfr]
              simp only [e] at hr
              simp [execOp, ho, hr]
            rw [hexec]
            show Nx n fw fs s K (a.put o.dst undef) _
            rw [hd]
            exact ⟨s', w', h'.syncd hop.1, Ag.same hfr hrg, hop.2⟩
          · exact hop.elim
    · rename_i t ho
      split at hop
      · rename_i d hd
        cases hrk : rk.contains d with
        | false => simp only [hrk, cond_false] at hop; exact genU_sound h hop
        | true =>
          simp only [hrk, cond_true] at hop
          cases hz : hasZero P t with
          | false => simp [hz] at hop
          | true =>
            simp only [hz, cond_true] at hop
            refine newReg_sound h hd ?_ hop
            unfold hasZero at hz
            cases hi : P.info? t with
            | none => simp [hi] at hz
            | some z =>
              simp [hi] at hz
              obtain ⟨v, hv⟩ := Option.isSome_iff_exists.1 hz
              simp [execOp, ho, Instr.alloc, zeroValue, typeInfo, hi, hv, newVar, new_run, zeroL]
      · exact genU_sound h hop
    · rename_i t x ho
      split at hop
      · rename_i d hd
        cases hrk : rk.contains d with
        | false => simp only [hrk, cond_false] at hop; exact genU_sound h hop
        | true =>
          simp only [hrk, cond_true] at hop
          split at hop
          · rename_i v hx
            refine newReg_sound h hd ?_ hop
            simp [execOp, ho, h.evV ctx_nil hx, Instr.box, newVar, new_run, cL]
          · exact hop.elim
      · exact genU_sound h hop
    · exact genU_sound h hop
theorem gOne_sound {α : Type} {γ : List GKey} {key : GKey} {g : GEnt} {d : α} {opn : Value → (α → Prop) → Prop} {mk : α → Value} (h : Rel n s w a w)
    (hg : findG s.gs key = some g) (hc : g.cond = true → Ctx s.gs γ) (hopn : ∀ v K, opn v K → ∃ x, v = mk x ∧ K x) (hop : gOne P n fw s γ key g.cond o d opn mk w K) :
    if g.cond = true then o.wp P a w (Nx n fw fs s K) Q else Nx n fw fs s K (a.put o.dst undef) w := by
  obtain ⟨h1, h2⟩ := hop
  have ht : tagCond s.gs (some key) = some g.cond := by simp [tagCond, hg]
  split
  · rename_i hcond
    refine Oper.wp_mono (fun a' w' ⟨v, ha, hkept, hk⟩ => ?_) (effVal_sound h (hc hcond) (h1 hcond))
    subst ha
    obtain ⟨x, rfl, hk'⟩ := hopn _ _ hk
    exact putS_nx (h.syncd hkept) (sv := .v (mk x)) ht (fun _ => rfl) (fun hf => by rw [hcond] at hf; cases hf) rfl hk'
  · rename_i hcond
    have hcf : g.cond = false := by simpa using hcond
    exact putS_nx h (sv := .v (mk d)) ht (fun hf => absurd hf hcond) (fun _ => rfl) rfl (h2 hcf)
theorem gAg_sound {γ : List GKey} {key : GKey} {g : GEnt} {l : List Cs} (h : Rel n s w a w)
    (hg : findG s.gs key = some g) (hc : g.cond = true → Ctx s.gs γ) (hop : gAg P n fw s γ key g.cond o l w K) :
    if g.cond = true then o.wp P a w (Nx n fw fs s K) Q else Nx n fw fs s K (a.put o.dst undef) w := by
  obtain ⟨h1, h2⟩ := hop
  have ht : tagCond s.gs (some key) = some g.cond := by simp [tagCond, hg]
  split
  · rename_i hcond
    refine Oper.wp_mono (fun a' w' ⟨v, ha, hkept, hk⟩ => ?_) (effVal_sound h (hc hcond) (h1 hcond))
    subst ha
    have hk : opAg v fun cs => opCs l cs 0 fun x => opCs l x.toArray 0 fun vs => putS n fw s o.dst (some key) (.v (.agg vs.toArray)) fun s => K s w' := hk
    unfold opAg at hk
    split at hk
    · rename_i cs
      have hk1 := (opCs_sound _ _ _ _ hk).2
      have hk2 := (opCs_sound _ _ _ _ hk1).2
      simp only [List.drop_zero] at hk2
      exact putS_nx (h.syncd hkept) ht (fun _ => by simp [svVal]) (fun hf => by rw [hcond] at hf; cases hf) rfl hk2
    · exact hk.elim
  · rename_i hcond
    have hcf : g.cond = false := by simpa using hcond
    exact putS_nx h ht (fun hf => absurd hf hcond) (fun _ => rfl) rfl (opCs_sound _ _ _ _ (h2 hcf)).2
theorem opB_out {v : Value} {K : Bool → Prop} (h : opB v K) : ∃ x, v = .bool x ∧ K x := by
  unfold opB at h
  split at h
  · exact ⟨_, rfl, h⟩
  · exact h.elim
theorem opStr_out {v : Value} {K : ByteArray → Prop} (h : opStr v K) : ∃ x, v = .string x ∧ K x := by
  unfold opStr at h
  split at h
  · exact ⟨_, rfl, h⟩
  · exact h.elim
theorem opP_out {v : Value} {K : Option Addr → Prop} (h : opP v K) : ∃ x, v = .pointer x ∧ K x := by
  unfold opP at h
  split at h
  · exact ⟨_, rfl, h⟩
  · exact h.elim
theorem opM_out {v : Value} {K : Option Nat → Prop} (h : opM v K) : ∃ x, v = .map x ∧ K x := by
  unfold opM at h
  split at h
  · exact ⟨_, rfl, h⟩
  · exact h.elim
theorem opBig_out {v : Value} {m : Nat} {K : Array Value → Prop} (h : opBig v fun cs => cs.size = m ∧ K cs) : ∃ x, v = .agg x ∧ K x := by
  unfold opBig at h
  split at h
  · exact ⟨_, rfl, h.2⟩
  · exact h.elim
theorem opL_out {v : Value} {K : Option Addr × Nat × Nat → Prop} (h : opL v fun a n c => K (a, n, c)) : ∃ x, v = .slice x.1 x.2.1 x.2.2 ∧ K x := by
  unfold opL at h
  split at h
  · exact ⟨_, rfl, h⟩
  · exact h.elim
theorem effG_sound {key : GKey} {g : GEnt} (h : Rel n s w a cw) (hg : findG s.gs key = some g) (hc : g.cond = true → Ctx s.gs (key :: g.anc)) (hop : effG P n fw s w key g o K) :
    if g.cond = true then o.wp P a cw (Nx n fw fs s K) Q else Nx n fw fs s K (a.put o.dst undef) cw := by
  unfold effG at hop
  have ht : tagCond s.gs (some key) = some g.cond := by simp [tagCond, hg]
  cases hl : isRegLd s (key :: g.anc) o with
  | true =>
    simp only [hl, cond_true] at hop
    rcases opCore_sound h hop with hf | ⟨sv, hk, hgv⟩
    · exact hf.elim
    · split
      · rename_i hcond
        exact core_wp h (hc hcond) (by rw [hcond]; simp) ht hcond hgv hk
      · rename_i hcond
        exact putS_nx h ht (fun hf => absurd hf hcond) (fun _ => rfl) rfl hk
  | false =>
    simp only [hl, cond_false] at hop
    obtain ⟨s', h', hop, hfr, hgs, hrg⟩ := sync_sound h hop
    have hg' : findG s'.gs key = some g := by rw [hgs]; exact hg
    have hc' : g.cond = true → Ctx s'.gs (key :: g.anc) := by rw [hgs]; exact hc
    have fin : (if g.cond = true then o.wp P a cw (Nx n fw fs s' K) Q else Nx n fw fs s' K (a.put o.dst undef) cw) → (if g.cond = true then o.wp P a cw (Nx n fw fs s K) Q else Nx n fw fs s K (a.put o.dst undef) cw) := by
      intro hh
      split at hh
      · rw [if_pos ‹_›]; exact Oper.wp_mono (fun a w hx => Nx.from (Ag.same hfr hrg) hx) hh
      · rw [if_neg ‹_›]; exact Nx.from (Ag.same hfr hrg) hh
    split at hop
    · exact fin (gOne_sound h' hg' hc' (fun v K h => opI_sound h) hop)
    · exact fin (gOne_sound h' hg' hc' (fun v K h => opB_out h) hop)
    · exact fin (gOne_sound h' hg' hc' (fun v K h => opStr_out h) hop)
    · exact fin (gOne_sound h' hg' hc' (fun v K h => opP_out h) hop)
    · exact fin (gOne_sound h' hg' hc' (fun v K h => opL_out h) hop)
    · exact fin (gOne_sound h' hg' hc' (fun v K h => opM_out h) hop)
    · exact fin (gAg_sound h' hg' hc' hop)
    · exact fin (gOne_sound h' hg' hc' (fun v K h => opBig_out h) hop)
    · exact fin (gOne_sound h' hg' hc' (fun v K h => ⟨v, rfl, h⟩) hop)
/-- A guard's entry. -/
theorem guardOf_sound {ops : List Oper} {key : GKey} {s' : St} {g : GEnt} (h : Rel n s w a cw) (hgo : guardOf ops s key = some (s', g)) :
    Rel n s' w a cw ∧ findG s'.gs key = some g ∧ (g.cond = true → Ctx s'.gs (key :: g.anc)) ∧
      (o.guard = some key → Region.wanted o (yielded ops.toArray a.tmps) = g.cond) ∧ Ag fw fs s s' := by
  have want : ∀ (oj : Oper) (t : Nat) (g : GEnt), g.key = key → ops[key.1]? = some oj → oj.dst = some t → g.slot = t → (g.base = true → a.tmps[g.slot]? = some (.bool g.b)) →
      (g.base = false → a.tmps[g.slot]? = some undef) → o.guard = some key → Region.wanted o (yielded ops.toArray a.tmps) = g.cond := by
    intro oj t g hk hoj hdst hslot h1 h2 hgd
    unfold Region.wanted
    simp only [hgd]
    have hy : yielded ops.toArray a.tmps key.1 = if g.base then some g.b else none := by
      unfold yielded
      simp only [List.getElem?_toArray, hoj, Option.bind_some, hdst]
      rw [← hslot]
      cases hb : g.base with
      | true => simp [h1 hb]
      | false => simp [h2 hb, undef]
    show (yielded ops.toArray a.tmps key.1 == some key.2) = g.cond
    rw [hy]
    unfold GEnt.cond
    rw [hk]
    cases g.base <;> cases g.b <;> cases key.2 <;> rfl
  unfold guardOf at hgo
  split at hgo
  · rename_i g0 hf
    split at hgo
    · rename_i oj hoj
      split at hgo
      · rename_i t hdst
        cases hb : Nat.beq t g0.slot with
        | false => simp [hb] at hgo
        | true =>
          simp only [hb, cond_true, Option.some.injEq, Prod.mk.injEq] at hgo
          obtain ⟨rfl, rfl⟩ := hgo
          refine ⟨h, hf, fun hc k hk => ?_, want oj t _ (findG_key hf) hoj hdst (Nat.eq_of_beq_eq_true hb).symm (h.gslot _ _ hf).1 (h.gslot _ _ hf).2, Ag.refl _ _ _⟩
          cases hk with
          | head => exact ⟨_, hf, hc⟩
          | tail _ hk =>
            obtain ⟨g', h1, h2⟩ := h.anc _ _ hf k hk
            exact ⟨g', h1, h2 hc⟩
      · cases hgo
    · cases hgo
  · rename_i hnone
    -- the table grows by an entry
    have grow : ∀ (g : GEnt), g.key = key → (∀ k' ∈ g.anc, ∃ g', findG s.gs k' = some g' ∧ (g.cond = true → g'.cond = true)) → ((∀ k' ∈ g.anc, ∃ g', findG s.gs k' = some g' ∧ g'.cond = true) → g.base = true) →
        (g.base = true → a.tmps[g.slot]? = some (.bool g.b)) → (g.base = false → a.tmps[g.slot]? = some undef) →
        Rel n { s with gs := g :: s.gs } w a cw ∧ findG (g :: s.gs) key = some g := by
      intro g hk hanc hbase hs1 hs2
      have hfk : findG (g :: s.gs) key = some g := by simp [findG, hk, gkEq_iff.2 rfl]
      have hother : ∀ k g', findG s.gs k = some g' → findG (g :: s.gs) k = some g' := by
        intro k g' hg'
        have : gkEq g.key k = false := by
          cases hb : gkEq g.key k with
          | false => rfl
          | true => rw [← gkEq_iff.1 hb, hk, hnone] at hg'; cases hg'
        simp [findG, this, hg']
      have hcase : ∀ k g', findG (g :: s.gs) k = some g' → (k = key ∧ g' = g) ∨ findG s.gs k = some g' := by
        intro k g' hg'
        simp only [findG] at hg'
        cases hb : gkEq g.key k with
        | true => simp [hb] at hg'; exact .inl ⟨(gkEq_iff.1 hb ▸ hk).symm ▸ rfl, hg'.symm⟩
        | false => simp [hb] at hg'; exact .inr hg'
      refine ⟨⟨h.dfr, h.sz, ?_, ?_, ?_, ?_, h.reg, h.dis, h.wfr, ?_, h.wor, h.syn⟩, hfk⟩
      · intro t e he
        obtain ⟨c, h1, h2, h3, h4⟩ := h.ent t e he
        refine ⟨c, ?_, h2, h3, h4⟩
        cases htg : e.tag with
        | none => simpa [htg, tagCond] using h1
        | some k =>
          simp only [htg, tagCond] at h1 ⊢
          cases hfg : findG s.gs k with
          | none => simp [hfg] at h1
          | some g' =>
            simp only [hfg] at h1
            simp only [hother _ _ hfg]
            exact h1
      · intro k g' hg' k' hk'
        rcases hcase k g' hg' with ⟨_, rfl⟩ | hold
        · obtain ⟨g2, q1, q2⟩ := hanc k' hk'
          exact ⟨g2, hother _ _ q1, q2⟩
        · obtain ⟨g2, q1, q2⟩ := h.anc k g' hold k' hk'
          exact ⟨g2, hother _ _ q1, q2⟩
      · intro k g' hg' hall
        have back : ∀ k' ∈ g'.anc, (∃ g2, findG s.gs k' = some g2) → ∃ g2, findG s.gs k' = some g2 ∧ g2.cond = true := by
          intro k' hk' ⟨g2, hg2⟩
          obtain ⟨g3, q1, q2⟩ := hall k' hk'
          rw [hother _ _ hg2] at q1
          cases q1
          exact ⟨g2, hg2, q2⟩
        rcases hcase k g' hg' with ⟨_, rfl⟩ | hold
        · exact hbase fun k' hk' => back k' hk' (let ⟨g2, q, _⟩ := hanc k' hk'; ⟨g2, q⟩)
        · exact h.gbase k g' hold fun k' hk' => back k' hk' (let ⟨g2, q, _⟩ := h.anc k g' hold k' hk'; ⟨g2, q⟩)
      · intro k g' hg'
        rcases hcase k g' hg' with ⟨_, rfl⟩ | hold
        · exact ⟨hs1, hs2⟩
        · exact h.gslot k g' hold
      · simp only [nodupG, hk, hnone]
        exact h.wfg
    split at hgo
    · rename_i oj hoj
      split at hgo
      · rename_i t hdst
        split at hgo
        · rename_i sl b he
          simp only [Option.some.injEq, Prod.mk.injEq] at hgo
          obtain ⟨rfl, rfl⟩ := hgo
          obtain ⟨c, h1, h2, h3, h4⟩ := h.ent t _ he
          simp only [tagCond, Option.some.injEq] at h1
          obtain ⟨z, hz, hz2⟩ := h3 h1.symm
          simp only [svVal] at hz
          subst hz
          have hs1 : ∀ (_ : true = true), a.tmps[t]? = some (.bool b) := fun _ => hz2
          obtain ⟨hR, hF⟩ := grow ⟨key, t, true, b, []⟩ rfl (fun _ hk => by cases hk) (fun _ => rfl) hs1 (fun hf => by cases hf)
          refine ⟨hR, hF, fun hc k hk => ?_, want oj t _ rfl hoj hdst rfl hs1 (fun hf => by cases hf), Ag.same rfl rfl⟩
          cases hk with
          | head => exact ⟨_, hF, hc⟩
          | tail _ hk => cases hk
        · rename_i sl k b he
          split at hgo
          · rename_i gk hgk
            simp only [Option.some.injEq, Prod.mk.injEq] at hgo
            obtain ⟨rfl, rfl⟩ := hgo
            obtain ⟨c, h1, h2, h3, h4⟩ := h.ent t _ he
            simp only [tagCond, hgk, Option.some.injEq] at h1
            have hs1 : gk.cond = true → a.tmps[t]? = some (.bool b) := fun hc => by
              obtain ⟨z, hz, hz2⟩ := h3 (h1 ▸ hc)
              simp only [svVal] at hz
              subst hz
              exact hz2
            have hs2 : gk.cond = false → a.tmps[t]? = some undef := fun hc => h4 (h1 ▸ hc)
            have hbs : ∀ g : GEnt, g.base = gk.cond → g.cond = true → gk.cond = true := fun g hb hc => by
              unfold GEnt.cond at hc
              simp only [Bool.and_eq_true] at hc
              rw [← hb]; exact hc.1
            obtain ⟨hR, hF⟩ := grow ⟨key, t, gk.cond, b, k :: gk.anc⟩ rfl (fun k' hk' => by
                cases hk' with
                | head => exact ⟨gk, hgk, fun hc => hbs _ rfl hc⟩
                | tail _ hk' =>
                  obtain ⟨g2, q1, q2⟩ := h.anc k gk hgk k' hk'
                  exact ⟨g2, q1, fun hc => q2 (hbs _ rfl hc)⟩)
              (fun hall => by
                obtain ⟨g2, q1, q2⟩ := hall k List.mem_cons_self
                rw [hgk] at q1
                cases q1
                exact q2) hs1 hs2
            refine ⟨hR, hF, fun hc k' hk' => ?_, want oj t _ rfl hoj hdst rfl hs1 hs2, Ag.same rfl rfl⟩
            cases hk' with
            | head => exact ⟨_, hF, hc⟩
            | tail _ hk' =>
              obtain ⟨g2, q1, q2⟩ := hR.anc key _ hF k' hk'
              exact ⟨g2, q1, q2 hc⟩
          · cases hgo
        · cases hgo
      · cases hgo
    · cases hgo
/-- One operation, with its guard. -/
theorem opStep_sound {rk : List Nat} {ops : List Oper} {fz : Nat → Bool} (h : Rel n s w a cw) (hop : opStep P n rk ops fz fs fw s w o K) :
    if Region.wanted o (yielded ops.toArray a.tmps) = true then o.wp P a cw (Nx n fw fs s K) Q else Nx n fw fs s K (a.put o.dst undef) cw := by
  unfold opStep at hop
  split at hop
  · rename_i hgd
    rw [if_pos (by simp [Region.wanted, hgd])]
    rcases opCore_sound h hop with hf | ⟨sv, hk, hgv⟩
    · exact effU_sound h hf
    · exact core_wp (tag := none) (c := true) h ctx_nil (by simp) rfl rfl hgv hk
  · rename_i key hgd
    split at hop
    · rename_i s' g hgo
      obtain ⟨h', hg, hc, hw, hag⟩ := guardOf_sound (fw := fw) (fs := fs) (o := o) h hgo
      rw [hw hgd]
      have ht : tagCond s'.gs (some key) = some g.cond := by simp [tagCond, hg]
      rcases opCore_sound h' hop with hf | ⟨sv, hk, hgv⟩
      · have := effG_sound (fs := fs) (Q := Q) h' hg hc hf
        split at this
        · rw [if_pos ‹_›]; exact Oper.wp_mono (fun a w hx => Nx.from hag hx) this
        · rw [if_neg ‹_›]; exact Nx.from hag this
      · split
        · rename_i hcond
          exact Oper.wp_mono (fun a w hx => Nx.from hag hx) (core_wp h' (hc hcond) (by rw [hcond]; simp) ht hcond hgv hk)
        · rename_i hcond
          exact Nx.from hag (putS_nx h' ht (fun hf => absurd hf hcond) (fun _ => rfl) rfl hk)
    · exact hop.elim
end
end Fk
