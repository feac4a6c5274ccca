/- A generator of conditions, proved sound over the kit. -/
import Derived.Test.YtpgjpgecgibklaaGK0
set_option linter.unusedVariables false
set_option linter.unusedSimpArgs false
namespace Fk
open Go Go.RowKit
def wrL (cells : List Value) (o : Nat) (vs : List Value) : List Value := cells.take o ++ (vs ++ cells.drop (o + vs.length))
def wrR (o : Nat) (vs : List Value) (r : Reg) : Reg := { r with cells := wrL r.cells o vs }
theorem wrR_key (o : Nat) (vs : List Value) (r : Reg) : (wrR o vs r).key = r.key := rfl
/-- The value is of a known form: it is not opened. -/
def known : Op → Bool
  | .alloc _ | .box _ _ | .makeMap _ _ | .buildSlice _ _ _ => true
  | _ => false
def openW (P : Program) (o : Oper) (v : Value) (K : Value → Prop) : Prop := bif known o.op then K v else opS (outS P o) v K
def isRegLd (s : St) (γ : List GKey) (o : Oper) : Bool := match o.op with
  | .load _ x => match evS s γ x with | some (.p _ _) => true | _ => false
  | _ => false
def guardOf (ops : List Oper) (s : St) (key : GKey) : Option (St × GEnt) :=
  match findG s.gs key with
  | some g => match ops[key.1]? with
    | some oj => match oj.dst with
      | some t => bif Nat.beq t g.slot then some (s, g) else none
      | none => none
    | none => none
  | none => match ops[key.1]? with
    | some oj => match oj.dst with
      | some t => match findE s.fr t with
        | some ⟨_, none, .v (.bool b)⟩ => some ({ s with gs := ⟨key, t, true, b, []⟩ :: s.gs }, ⟨key, t, true, b, []⟩)
        | some ⟨_, some k, .v (.bool b)⟩ => match findG s.gs k with
          | some gk => some ({ s with gs := ⟨key, t, gk.cond, b, k :: gk.anc⟩ :: s.gs }, ⟨key, t, gk.cond, b, k :: gk.anc⟩)
          | none => none
        | _ => none
      | none => none
    | none => none
/-- A store into a register. -/
def whole (o : Nat) (t : TypeId) (r : Reg) : Bool := bif Nat.beq r.ty t then Nat.beq o 0 else false
def wrA (vs : List Value) (r : Reg) : Reg := { r with cells := vs }
def regSt (P : Program) (fs : Nat → Bool) (s : St) (t : TypeId) (k o : Nat) (y : Value) (w : World) (K : St → World → Prop) : Prop :=
  bif fs k then False else match findR s.rg k, szOf P t with
    | some r, some m => OkC (cL y) m (bif whole o t r then SzIs r.cells.length m (K { s with rg := setR s.rg k (wrA (cL y)), dirty := r.blk :: s.dirty, chg := true } w)
        else LeC (o + m) r.cells.length
        (K { s with rg := setR s.rg k (wrR o (cL y)), dirty := r.blk :: s.dirty, chg := true } w))
    | _, _ => False
def newReg (n : Nat) (fs : Nat → Bool) (fw : List Nat) (s : St) (d : Nat) (t : TypeId) (big : Bool) (cells : List Value) (w : World) (K : St → World → Prop) : Prop :=
  bif fs d then False else match findR s.rg d with
  | some _ => False
  | none => Rg w fun b => putS n fw { s with rg := ⟨d, b, t, big, cells⟩ :: s.rg, chg := true } (some d) none (.p d 0) fun s => K s w
def genU (P : Program) (n : Nat) (fw : List Nat) (s : St) (w : World) (o : Oper) (K : St → World → Prop) : Prop :=
  sync s w fun s w => effVal P (regIds s.rg) s [] o (fun v w' => openW P o v fun v => putS n fw s o.dst none (.v v) fun s => K s w') w
def effU (P : Program) (n : Nat) (rk : List Nat) (fs : Nat → Bool) (fw : List Nat) (s : St) (w : World) (o : Oper) (K : St → World → Prop) : Prop :=
  bif isRegLd s [] o then opCore P (fun _ => true) s [] none o (fun sv => putS n fw s o.dst none sv fun s => K s w) False else
  match o.op with
  | .store t x v => match o.dst with
    | some _ => False
    | none => match evS s [] x, evV s [] v with
      | some (.p k o'), some y => regSt P fs s t k o' y w K
      | some (.v (.pointer (some A))), some y => sync s w fun s w => StV P (regIds s.rg) t w A (cL y) fun w' => K s w'
      | _, _ => False
  | .mapUpdate t m k v | .insert t m k v => match o.dst with
    | some _ => False
    | none => bif kn s [] o.op.operands.toList then sync s w fun s w => RunU P (regIds s.rg) (Instr.mapUpdate t (rho s [] m) (rho s [] k) (rho s [] v)) (fun w' => K s w') w else False
  | .alloc t => match o.dst with
    | some d => bif rk.contains d then (bif hasZero P t then newReg n fs fw s d t (!smallT P t) (zeroL P t) w K else False) else genU P n fw s w o K
    | none => genU P n fw s w o K
  | .box t x => match o.dst with
    | some d => bif rk.contains d then (match evV s [] x with | some v => newReg n fs fw s d t (!smallT P t) (cL v) w K | none => False) else genU P n fw s w o K
    | none => genU P n fw s w o K
  | _ => genU P n fw s w o K
def gOne {α : Type} (P : Program) (n : Nat) (fw : List Nat) (s : St) (γ : List GKey) (key : GKey) (c : Bool) (o : Oper) (d : α) (opn : Value → (α → Prop) → Prop) (mk : α → Value) (w : World) (K : St → World → Prop) : Prop :=
  Gd c d (fun K' => effVal P (regIds s.rg) s γ o (fun v w' => opn v fun x => K' x w') w) (fun x w' => putS n fw s o.dst (some key) (.v (mk x)) fun s => K s w') w
def gAg (P : Program) (n : Nat) (fw : List Nat) (s : St) (γ : List GKey) (key : GKey) (c : Bool) (o : Oper) (l : List Cs) (w : World) (K : St → World → Prop) : Prop :=
  Gd c (l.map dfC) (fun K' => effVal P (regIds s.rg) s γ o (fun v w' => opAg v fun cs => opCs l cs 0 fun x => K' x w') w)
    (fun x w' => opCs l x.toArray 0 fun vs => putS n fw s o.dst (some key) (.v (.agg vs.toArray)) fun s => K s w') w
/-- The shape of what an operation gives. -/
def knS (P : Program) (o : Oper) : Shp := match o.op with
  | .alloc _ | .box _ _ => .one (.one .p)
  | .makeMap _ _ => .one (.one .m)
  | .buildSlice _ _ _ => .one (.one .l)
  | _ => outS P o
def effG (P : Program) (n : Nat) (fw : List Nat) (s : St) (w : World) (key : GKey) (g : GEnt) (o : Oper) (K : St → World → Prop) : Prop :=
  bif isRegLd s (key :: g.anc) o then opCore P (fun _ => true) s (key :: g.anc) (some g.cond) o (fun sv => putS n fw s o.dst (some key) sv fun s => K s w) False else
  sync s w fun s w => match false, knS P o with
    | false, .one (.one (.i k)) => gOne P n fw s (key :: g.anc) key g.cond o (0 : Int) (fun v K => opI k v K) (fun x => .int k x) w K
    | false, .one (.one .b) => gOne P n fw s (key :: g.anc) key g.cond o false (fun v K => opB v K) (fun x => .bool x) w K
    | false, .one (.one .s) => gOne P n fw s (key :: g.anc) key g.cond o ByteArray.empty (fun v K => opStr v K) (fun x => .string x) w K
    | false, .one (.one .p) => gOne P n fw s (key :: g.anc) key g.cond o (none : Option Addr) (fun v K => opP v K) (fun x => .pointer x) w K
    | false, .one (.one .l) => gOne P n fw s (key :: g.anc) key g.cond o ((none, 0, 0) : Option Addr × Nat × Nat) (fun v K => opL v fun a n c => K (a, n, c)) (fun x => .slice x.1 x.2.1 x.2.2) w K
    | false, .one (.one .m) => gOne P n fw s (key :: g.anc) key g.cond o (none : Option Nat) (fun v K => opM v K) (fun x => .map x) w K
    | false, .one (.agg l) => gAg P n fw s (key :: g.anc) key g.cond o l w K
    | false, .one (.big m) => gOne P n fw s (key :: g.anc) key g.cond o (#[] : Array Value) (fun v K => opBig v fun cs => cs.size = m ∧ K cs) (fun x => .agg x) w K
    | _, _ => gOne P n fw s (key :: g.anc) key g.cond o undef (fun v K => K v) (fun x => x) w K
def opStep (P : Program) (n : Nat) (rk : List Nat) (ops : List Oper) (fz fs : Nat → Bool) (fw : List Nat) (s : St) (w : World) (o : Oper) (K : St → World → Prop) : Prop :=
  match o.guard with
  | none => opCore P fz s [] none o (fun sv => putS n fw s o.dst none sv fun s => K s w) (effU P n rk fs fw s w o K)
  | some key => match guardOf ops s key with
    | some (s, g) => opCore P fz s (key :: g.anc) (some g.cond) o (fun sv => putS n fw s o.dst (some key) sv fun s => K s w) (effG P n fw s w key g o K)
    | none => False
/-- What follows, told of frame and world. -/
def Nx (n : Nat) (fw : List Nat) (fs : Nat → Bool) (s0 : St) (K : St → World → Prop) (a : Act) (cw : World) : Prop := ∃ s w, Rel n s w a cw ∧ Ag fw fs s0 s ∧ K s w
theorem Nx.from {n : Nat} {fw : List Nat} {fs : Nat → Bool} {s0 s1 : St} {K : St → World → Prop} {a : Act} {cw : World} (h : Ag fw fs s0 s1) (k : Nx n fw fs s1 K a cw) : Nx n fw fs s0 K a cw :=
  let ⟨s, w, h1, h2, h3⟩ := k; ⟨s, w, h1, h.trans h2, h3⟩
section
variable {P : Program} {n : Nat} {fw : List Nat} {fs : Nat → Bool} {s : St} {w cw : World} {a : Act} {o : Oper} {K : St → World → Prop} {Q : Exit → Act → World → Prop}
theorem putS_nx (h : Rel n s w a cw) {dst : Option Tmp} {tag : Option GKey} {sv : SV} {x : Value} {c : Bool} (ht : tagCond s.gs tag = some c)
    (hx : c = true → svVal s.rg sv x) (hu : c = false → x = undef) {w' : World} (hw : w' = w) (hop : putS n fw s dst tag sv fun s => K s w') : Nx n fw fs s K (a.put dst x) cw := by
  subst hw
  unfold putS at hop
  split at hop
  · exact ⟨s, w', h, Ag.refl _ _ _, hop⟩
  · rename_i d
    cases hd : Nat.blt d n with
    | false => simp [hd] at hop
    | true =>
      simp only [hd, cond_true] at hop
      cases hg : s.gs.all (fun g => !(Nat.beq g.slot d)) with
      | false => simp [hg] at hop
      | true =>
        simp only [hg, cond_true] at hop
        cases hm : memN fw d with
        | true => simp [hm] at hop
        | false =>
          simp only [hm, cond_false] at hop
          exact ⟨_, w', h.put (of_decide_eq_true (by simpa [Nat.blt_eq] using hd)) hg ht hx hu, Ag.put hm, hop⟩
theorem openW_sound {v : Value} {K : Value → Prop} (h : openW P o v K) : K v := by
  unfold openW at h
  cases hk : known o.op with
  | true => simpa [hk] using h
  | false => simp only [hk, cond_false] at h; exact opS_sound h
theorem ctx_nil {gs : List GEnt} : Ctx gs [] := fun _ h => by cases h
/-- A pure operation, carried out. -/
theorem core_wp {fz : Nat → Bool} {γ : List GKey} {g : Option Bool} {sv : SV} {tag : Option GKey} {c : Bool} (h : Rel n s w a cw) (hc : Ctx s.gs γ) (hg : g ≠ some false)
    (ht : tagCond s.gs tag = some c) (hct : c = true) (hgv : Gives P fz s γ g o a sv) (hop : putS n fw s o.dst tag sv fun s => K s w) : o.wp P a cw (Nx n fw fs s K) Q := by
  obtain ⟨x, hx, hrun⟩ := hgv hc hg
  unfold Oper.wp
  rw [hrun cw (fun k r _ hr => h.reg k r hr)]
  exact putS_nx h ht (fun _ => hx) (fun hf => by rw [hct] at hf; cases hf) rfl hop
theorem genU_sound (h : Rel n s w a cw) (hop : genU P n fw s w o K) : o.wp P a cw (Nx n fw fs s K) Q := by
  unfold genU at hop
  obtain ⟨s', h', hop, hfr, hgs, hrg⟩ := sync_sound h hop
  refine Oper.wp_mono (fun a' w' ⟨v, ha, hkept, hk⟩ => ?_) (effVal_sound h' ctx_nil hop)
  subst ha
  have h2 : Rel n { s' with dirty := [], chg := false } w' a w' := h'.world fun k r hr => hkept _ (List.mem_map.2 ⟨r, findR_mem hr, rfl⟩)
  have hk := openW_sound hk
  have h3 : Rel n s' w' a w' := ⟨h2.dfr, h2.sz, h2.ent, h2.anc, h2.gbase, h2.gslot, h2.reg, h2.dis, h2.wfr, h2.wfg, Md.refl _ _, fun _ => rfl⟩
  exact Nx.from (Ag.same hfr hrg) (putS_nx h3 (tag := none) (sv := .v v) (c := true) rfl (fun _ => rfl) (fun hf => by cases hf) rfl hk)
theorem Rel.syncd (h : Rel n s cw a cw) {cw' : World} (hr : ∀ b ∈ regIds s.rg, cw'.heap[b]? = cw.heap[b]?) : Rel n s cw' a cw' := by
  have h2 : Rel n { s with dirty := [], chg := false } cw' a cw' := h.world fun k r hk => hr _ (List.mem_map.2 ⟨r, findR_mem hk, rfl⟩)
  exact ⟨h2.dfr, h2.sz, h2.ent, h2.anc, h2.gbase, h2.gslot, h2.reg, h2.dis, h2.wfr, h2.wfg, Md.refl _ _, fun _ => rfl⟩
theorem findR_setR : ∀ {l : List Reg} {k k' : Nat} {f : Reg → Reg} (hf : ∀ r, (f r).key = r.key), findR (setR l k f) k' = if k' = k then (findR l k').map f else findR l k'
  | [], k, k', f, hf => by simp [setR, findR]
  | e :: l, k, k', f, hf => by
    simp only [setR]
    cases hb : Nat.beq e.key k with
    | true =>
      have he := Nat.eq_of_beq_eq_true hb
      simp only [cond_true, findR, hf]
      cases hb2 : Nat.beq e.key k' with
      | true =>
        have he2 := Nat.eq_of_beq_eq_true hb2
        simp [← he, ← he2]
      | false =>
        have : k' ≠ k := fun e2 => by subst e2; rw [he] at hb2; simp at hb2
        simp [this]
    | false =>
      simp only [cond_false, findR]
      cases hb2 : Nat.beq e.key k' with
      | true =>
        have he2 := Nat.eq_of_beq_eq_true hb2
        have : k' ≠ k := fun e2 => by subst e2; rw [he2] at hb; simp at hb
        simp [this]
      | false =>
        simp only [cond_false]
        exact findR_setR hf
theorem setR_congr : ∀ {l : List Reg} {k : Nat} {f g : Reg → Reg} {r : Reg}, findR l k = some r → f r = g r → setR l k f = setR l k g
  | [], _, _, _, _, h, _ => by cases h
  | e :: l, k, f, g, r, h, hfg => by
    simp only [findR] at h
    simp only [setR]
    cases hb : Nat.beq e.key k with
    | true => simp only [hb, cond_true, Option.some.injEq] at h; subst h; simp only [cond_true, hfg]
    | false => simp only [hb, cond_false] at h; simp only [cond_false, setR_congr h hfg]
theorem nodupR_setR : ∀ {l : List Reg} {k : Nat} {f : Reg → Reg} (hf : ∀ r, (f r).key = r.key), nodupR (setR l k f) = nodupR l
  | [], k, f, hf => rfl
  | e :: l, k, f, hf => by
    simp only [setR]
    cases hb : Nat.beq e.key k with
    | true => simp only [cond_true, nodupR, hf]
    | false =>
      simp only [cond_false, nodupR, findR_setR hf]
      have : e.key ≠ k := fun e2 => by rw [e2] at hb; simp at hb
      simp only [if_neg this, nodupR_setR hf]
theorem wrL_run {cells : List Value} {o m : Nat} {vs : List Value} {b : Nat} {ty : TypeId} : ∀ (vs : List Value) (i : Nat) (cur : List Value) (w : World), w.heap[b]? = some (.cells cur.toArray ty (0, 0)) →
    (setCells w ⟨b, o, none⟩ i vs).heap[b]? = some (.cells (wrL cur (o + i) vs).toArray ty (0, 0)) ∨ cur.length < o + i + vs.length := by
  intro vs
  induction vs with
  | nil =>
    intro i cur w hw
    left
    simp only [setCells, wrL, List.nil_append, List.length_nil, Nat.add_zero, List.take_append_drop]
    exact hw
  | cons v vs ih =>
    intro i cur w hw
    rcases Nat.lt_or_ge cur.length (o + i + (v :: vs).length) with hl | hl
    · exact .inr hl
    left
    simp only [List.length_cons] at hl
    simp only [setCells]
    have e : ((⟨b, o, none⟩ : Addr).add i) = ⟨b, o + i, none⟩ := add_reg b o i
    rw [e]
    have hset : (w.setCell ⟨b, o + i, none⟩ v).heap[b]? = some (.cells (cur.set (o + i) v).toArray ty (0, 0)) := by
      simp only [World.setCell, Array.getElem?_modify]
      simp [hw]
    rcases ih (i + 1) (cur.set (o + i) v) _ hset with h | h
    · rw [h]
      congr 2
      have : wrL (cur.set (o + i) v) (o + (i + 1)) vs = wrL cur (o + i) (v :: vs) := by
        unfold wrL
        simp only [List.length_cons]
        have h1 : (cur.set (o + i) v).take (o + (i + 1)) = cur.take (o + i) ++ [v] := by
          rw [show o + (i + 1) = (o + i) + 1 from by omega, List.take_add_one]
          have : (cur.set (o + i) v)[o + i]? = some v := by rw [List.getElem?_set]; simp; omega
          rw [this]
          simp [List.take_set_of_le]
        have h2 : (cur.set (o + i) v).drop (o + (i + 1) + vs.length) = cur.drop (o + i + (vs.length + 1)) := by
          rw [List.drop_set_of_lt (by omega)]
          congr 1; omega
        rw [h1, h2]
        simp
      rw [this]
    · exfalso
      simp at h
      omega
theorem regSt_sound {t : TypeId} {k o' : Nat} {y : Value} {x v : Operand} (h : Rel n s w a cw) (ho : o.op = .store t x v) (hd : o.dst = none)
    (hx : evS s [] x = some (.p k o')) (hv : evV s [] v = some y) (hop : regSt P fs s t k o' y w K) : o.wp P a cw (Nx n fw fs s K) Q := by
  unfold regSt at hop
  cases hf : fs k with
  | true => simp [hf] at hop
  | false =>
    simp only [hf, cond_false] at hop
    split at hop
    · rename_i r m hr hm
      unfold OkC at hop
      cases hok : okCells (cL y) m with
      | false => simp [hok] at hop
      | true =>
        simp only [hok, cond_true] at hop
        have hlen0 : (cL y).length = m := by
          unfold okCells at hok
          cases hb : Nat.beq (cL y).length m with
          | false => simp [hb] at hok
          | true => exact Nat.eq_of_beq_eq_true hb
        have hop : LeC (o' + m) r.cells.length (K { s with rg := setR s.rg k (wrR o' (cL y)), dirty := r.blk :: s.dirty, chg := true } w) := by
          cases hw : whole o' t r with
          | false => simpa only [hw, cond_false] using hop
          | true =>
            simp only [hw, cond_true] at hop
            obtain ⟨hz, hop⟩ := SzIs_out hop
            have ho0 : o' = 0 := by
              unfold whole at hw
              cases hb : Nat.beq r.ty t with
              | false => simp [hb] at hw
              | true => exact Nat.eq_of_beq_eq_true (by simpa [hb] using hw)
            subst ho0
            have e : wrR 0 (cL y) r = wrA (cL y) r := by
              unfold wrR wrA wrL
              rw [hlen0, ← hz]
              simp
            rw [setR_congr hr e]
            unfold LeC
            have : Nat.ble (0 + m) r.cells.length = true := Nat.ble_eq_true_of_le (by omega)
            rw [this]
            exact hop
        unfold LeC at hop
        cases hbl : Nat.ble (o' + m) r.cells.length with
        | false => simp [hbl] at hop
        | true =>
          simp only [hbl, cond_true] at hop
          have hle := Nat.le_of_ble_eq_true hbl
          obtain ⟨r', hr', he⟩ := h.evS ctx_nil hx
          rw [hr] at hr'
          cases hr'
          have hreg := h.reg k r hr
          have hcell : ∀ j, j < m → cw.cell? ((⟨r.blk, o', none⟩ : Addr).add j) = r.cells[o' + j]? := fun j _ => by
            rw [add_reg]; simp [World.cell?, hreg]
          have hst : StV P [] t cw ⟨r.blk, o', none⟩ (cL y) (fun w' => w' = setCells cw ⟨r.blk, o', none⟩ 0 (cL y)) := by
            unfold StV
            simp only [hm, OkC, hok, cond_true]
            refine ⟨by simp, fun j hj => ⟨⟨r.cells[o' + j]'(by omega), ?_⟩, ?_⟩, trivial⟩
            · rw [hcell j hj]; simp [show o' + j < r.cells.length by omega]
            · rw [add_reg]; simp [World.frozen?, hreg]
          obtain ⟨w', hrun, _, hw'⟩ := StV_sound hst
          subst hw'
          unfold Oper.wp
          have hexec : (execOp a.eval o).run P cw = .ok .skip (setCells cw ⟨r.blk, o', none⟩ 0 (cL y)) := by
            simp only [execOp, ho, he, h.evV ctx_nil hv, Instr.storeAt, Instr.sureAddr]
            simp [hrun]
          rw [hexec]
          show Nx n fw fs s K (a.put o.dst undef) _
          rw [hd]
          have hlen : (cL y).length = m := by
            unfold okCells at hok
            cases hb : Nat.beq (cL y).length m with
            | false => simp [hb] at hok
            | true => exact Nat.eq_of_beq_eq_true hb
          have hnew : (setCells cw ⟨r.blk, o', none⟩ 0 (cL y)).heap[r.blk]? = some (.cells (wrL r.cells o' (cL y)).toArray r.ty (0, 0)) := by
            rcases wrL_run (o := o') (cells := []) (m := 0) (vs := []) (cL y) 0 r.cells cw hreg with h1 | h1
            · exact h1
            · exfalso; omega
          have hother : ∀ b, b ≠ r.blk → (setCells cw ⟨r.blk, o', none⟩ 0 (cL y)).heap[b]? = cw.heap[b]? := fun b hb => setCells_heap _ _ _ _ hb
          refine ⟨{ s with rg := setR s.rg k (wrR o' (cL y)), dirty := r.blk :: s.dirty, chg := true }, w,
            ⟨h.dfr, h.sz, ?_, h.anc, h.gbase, h.gslot, ?_, ?_, ?_, h.wfg, ?_, fun hc => by cases hc⟩,
            ⟨fun _ _ _ he _ => he, fun q hq => by rw [findR_setR (wrR_key _ _), if_neg (fun e => by rw [e, hf] at hq; cases hq)],
              fun q rq hrq => by
                show ∃ r', findR (setR s.rg k (wrR o' (cL y))) q = some r' ∧ _
                rw [findR_setR (wrR_key _ _)]
                by_cases hqk : q = k
                · rw [if_pos hqk, hrq]; exact ⟨_, rfl, rfl, rfl, rfl⟩
                · rw [if_neg hqk]; exact ⟨_, hrq, rfl, rfl, rfl⟩⟩, hop⟩
          · intro t e hte
            obtain ⟨c, h1, h2, h3, h4⟩ := h.ent t e hte
            refine ⟨c, h1, h2, fun hc => ?_, h4⟩
            obtain ⟨z, hz, hz2⟩ := h3 hc
            refine ⟨z, ?_, hz2⟩
            cases hsv : e.sv with
            | v q => simpa [hsv, svVal] using hz
            | p kk oo =>
              simp only [hsv, svVal] at hz ⊢
              obtain ⟨rr, hrr, hz⟩ := hz
              by_cases hkk : kk = k
              · subst hkk
                rw [hr] at hrr; cases hrr
                exact ⟨wrR o' (cL y) r, by rw [findR_setR (wrR_key _ _)]; simp [hr], hz⟩
              · exact ⟨rr, by rw [findR_setR (wrR_key _ _)]; simp [hkk, hrr], hz⟩
          · intro kk rr hrr
            rw [findR_setR (wrR_key _ _)] at hrr
            by_cases hkk : kk = k
            · subst hkk
              simp [hr] at hrr
              subst hrr
              exact hnew
            · simp [hkk] at hrr
              rw [hother _ (h.dis _ _ _ _ hrr hr hkk)]
              exact h.reg kk rr hrr
          · intro k1 k2 r1 r2 h1 h2 hne
            rw [findR_setR (wrR_key _ _)] at h1 h2
            have b1 : ∃ r1', findR s.rg k1 = some r1' ∧ r1.blk = r1'.blk := by
              by_cases hkk : k1 = k
              · subst hkk; simp [hr] at h1; subst h1; exact ⟨r, hr, rfl⟩
              · simp [hkk] at h1; exact ⟨r1, h1, rfl⟩
            have b2 : ∃ r2', findR s.rg k2 = some r2' ∧ r2.blk = r2'.blk := by
              by_cases hkk : k2 = k
              · subst hkk; simp [hr] at h2; subst h2; exact ⟨r, hr, rfl⟩
              · simp [hkk] at h2; exact ⟨r2, h2, rfl⟩
            obtain ⟨r1', q1, e1⟩ := b1
            obtain ⟨r2', q2, e2⟩ := b2
            rw [e1, e2]
            exact h.dis _ _ _ _ q1 q2 hne
          · rw [nodupR_setR (wrR_key _ _)]; exact h.wfr
          · have hm1 : Md (r.blk :: s.dirty) w cw := h.wor.mono (fun x hx => List.mem_cons_of_mem _ hx)
            have hm2 : Md (r.blk :: s.dirty) cw (setCells cw ⟨r.blk, o', none⟩ 0 (cL y)) := by
              have gen : ∀ (vs : List Value) (i : Nat) (cw : World), Md (r.blk :: s.dirty) cw (setCells cw ⟨r.blk, o', none⟩ i vs) := by
                intro vs
                induction vs with
                | nil => intro i cw; exact Md.refl _ _
                | cons v vs ih =>
                  intro i cw
                  exact (Md.setCell cw _ v (by rw [add_block]; exact List.mem_cons_self)).trans (ih (i + 1) _)
              exact gen _ _ _
            exact hm1.trans hm2
    · exact hop.elim
theorem newReg_sound {d : Nat} {t : TypeId} {big : Bool} {cells : List Value} (h : Rel n s w a cw) (hd : o.dst = some d)
    (hrun : (execOp a.eval o).run P cw = .ok (.value (.pointer (some ⟨cw.heap.size, 0, none⟩))) (cw.alloc (.cells cells.toArray t)))
    (hop : newReg n fs fw s d t big cells w K) : o.wp P a cw (Nx n fw fs s K) Q := by
  unfold newReg at hop
  cases hfd : fs d with
  | true => simp [hfd] at hop
  | false =>
  simp only [hfd, cond_false] at hop
  split at hop
  · exact hop.elim
  · rename_i hnone
    have hop := hop cw.heap.size h.wor.size
    unfold Oper.wp
    rw [hrun]
    show Nx n fw fs s K (a.put o.dst _) _
    rw [hd]
    have hold : ∀ (b : Nat) (ob : Obj), cw.heap[b]? = some ob → (cw.alloc (.cells cells.toArray t)).heap[b]? = some ob := fun b ob hb => by
      rw [Below.heap_alloc _ _ _ (Array.getElem?_eq_some_iff.1 hb).1]; exact hb
    have hfind : ∀ k, k ≠ d → findR (⟨d, cw.heap.size, t, big, cells⟩ :: s.rg) k = findR s.rg k := fun k hk => by
      have : Nat.beq d k = false := by
        cases hb : Nat.beq d k with
        | false => rfl
        | true => exact absurd (Nat.eq_of_beq_eq_true hb).symm hk
      simp [findR, this]
    have hfindd : findR (⟨d, cw.heap.size, t, big, cells⟩ :: s.rg) d = some ⟨d, cw.heap.size, t, big, cells⟩ := by simp [findR]
    have hlt : ∀ k r, findR s.rg k = some r → r.blk < cw.heap.size := fun k r hr => (Array.getElem?_eq_some_iff.1 (h.reg k r hr)).1
    have h2 : Rel n { s with rg := ⟨d, cw.heap.size, t, big, cells⟩ :: s.rg, chg := true } w a (cw.alloc (.cells cells.toArray t)) := by
      refine ⟨h.dfr, h.sz, ?_, h.anc, h.gbase, h.gslot, ?_, ?_, ?_, h.wfg, h.wor.trans (Md.alloc _ _), fun hc => by cases hc⟩
      · intro t' e hte
        obtain ⟨c, h1, h2, h3, h4⟩ := h.ent t' e hte
        refine ⟨c, h1, h2, fun hc => ?_, h4⟩
        obtain ⟨z, hz, hz2⟩ := h3 hc
        refine ⟨z, ?_, hz2⟩
        cases hsv : e.sv with
        | v q => simpa [hsv, svVal] using hz
        | p kk oo =>
          simp only [hsv, svVal] at hz ⊢
          obtain ⟨rr, hrr, hz⟩ := hz
          have : kk ≠ d := fun e => by subst e; rw [hnone] at hrr; cases hrr
          exact ⟨rr, by rw [hfind _ this]; exact hrr, hz⟩
      · intro k r hr
        by_cases hk : k = d
        · subst hk
          have e : (⟨k, cw.heap.size, t, big, cells⟩ : Reg) = r := by
            have := hfindd
            exact Option.some.inj (this.symm.trans hr)
          subst e
          show ((cw.heap.push _)[cw.heap.size]?) = _
          simp
        · have hr' : findR s.rg k = some r := by rw [← hfind k hk]; exact hr
          exact hold _ _ (h.reg k r hr')
      · intro k1 k2 r1 r2 h1 h2 hne
        by_cases hk1 : k1 = d
        · subst hk1
          have e : (⟨k1, cw.heap.size, t, big, cells⟩ : Reg) = r1 := Option.some.inj (hfindd.symm.trans h1)
          subst e
          have h2' : findR s.rg k2 = some r2 := by rw [← hfind k2 (Ne.symm hne)]; exact h2
          exact Nat.ne_of_gt (hlt _ _ h2')
        · have h1' : findR s.rg k1 = some r1 := by rw [← hfind k1 hk1]; exact h1
          by_cases hk2 : k2 = d
          · subst hk2
            have e : (⟨k2, cw.heap.size, t, big, cells⟩ : Reg) = r2 := Option.some.inj (hfindd.symm.trans h2)
            subst e
            exact Nat.ne_of_lt (hlt _ _ h1')
          · have h2' : findR s.rg k2 = some r2 := by rw [← hfind k2 hk2]; exact h2
            exact h.dis _ _ _ _ h1' h2' hne
      · simp only [nodupR, hnone]; exact h.wfr
    exact Nx.from (s1 := { s with rg := ⟨d, cw.heap.size, t, big, cells⟩ :: s.rg, chg := true }) ⟨fun _ _ _ he _ => he, fun q hq => hfind q (fun e => by rw [e, hfd] at hq; cases hq),
        fun q rq hrq => ⟨rq, (hfind q (fun e => by rw [e, hnone] at hrq; cases hrq)).trans hrq, rfl, rfl, rfl⟩⟩
      (putS_nx h2 (tag := none) (sv := .p d 0) (c := true) rfl (fun _ => ⟨_, hfindd, rfl⟩) (fun hf => by cases hf) rfl hop)
theorem effU_sound {rk : List Nat} (h : Rel n s w a cw) (hop : effU P n rk fs fw s w o K) : o.wp P a cw (Nx n fw fs s K) Q := by
  unfold effU at hop
  cases hl : isRegLd s [] o with
  | true =>
    simp only [hl, cond_true] at hop
    rcases opCore_sound h hop with hf | ⟨sv, hk, hg⟩
    · exact hf.elim
    · exact core_wp (tag := none) (c := true) h ctx_nil (by simp) rfl rfl hg hk
  | false =>
    simp only [hl, cond_false] at hop
    split at hop
    · rename_i t x v ho
      split at hop
      · exact hop.elim
      · rename_i hd
        split at hop
        · rename_i k o' y hx hv
          exact regSt_sound h ho hd hx hv hop
        · rename_i A y hx hv
          obtain ⟨s', h', hop, hfr, hgs, hrg⟩ := sync_sound h hop
          obtain ⟨w', hrun, hkept, hk⟩ := StV_sound hop
          have he : a.eval x = .pointer (some A) := h.evS ctx_nil hx
          unfold Oper.wp
          have hexec : (execOp a.eval o).run P cw = .ok .skip w' := by
            simp [execOp, ho, he, h.evV ctx_nil hv, Instr.storeAt, Instr.sureAddr, hrun]
          rw [hexec]
          show Nx n fw fs s K (a.put o.dst undef) _
          rw [hd]
          exact ⟨s', w', h'.syncd hkept, Ag.same hfr hrg, hk⟩
        · exact hop.elim
    · rename_i t m k v ho
      split at hop
      · exact hop.elim
      · rename_i hd
        cases hkn : kn s [] o.op.operands.toList with
        | false => simp [hkn] at hop
        | true =>
          simp only [hkn, cond_true] at hop
          have heq := operands_eq h ctx_nil (by simp [ho]) hkn
          obtain ⟨s', h', hop, hfr, hgs, hrg⟩ := sync_sound h hop
          replace hop := hop.out
          split at hop
          · rename_i w' hr
            unfold Oper.wp
            have hexec : (execOp a.eval o).run P cw = .ok .skip w' := by
              rw [heq]
              have e : ∀ x, rho s' [] x = rho s [] x := fun x => by
                unfold rho evV evS
                cases x <;> simp [lookS, hfr]
              simp only [e] at hr
              simp [execOp, ho, hr]
            rw [hexec]
            show Nx n fw fs s K (a.put o.dst undef) _
            rw [hd]
            exact ⟨s', w', h'.syncd hop.1, Ag.same hfr hrg, hop.2⟩
          · exact hop.elim
    · rename_i t m k v ho
      split at hop
      · exact hop.elim
      · rename_i hd
        cases hkn : kn s [] o.op.operands.toList with
        | false => simp [hkn] at hop
        | true =>
          simp only [hkn, cond_true] at hop
          have heq := operands_eq h ctx_nil (by simp [ho]) hkn
          obtain ⟨s', h', hop, hfr, hgs, hrg⟩ := sync_sound h hop
          replace hop := hop.out
          split at hop
          · rename_i w' hr
            unfold Oper.wp
            have hexec : (execOp a.eval o).run P cw = .ok .skip w' := by
              rw [heq]
              have e : ∀ x, rho s' [] x = rho s [] x := fun x => by
                unfold rho evV evS
                cases x <;> simp [lookS, hfr]
              simp only [e] at hr
              simp [execOp, ho, hr]
            rw [hexec]
            show Nx n fw fs s K (a.put o.dst undef) _
            rw [hd]
            exact ⟨s', w', h'.syncd hop.1, Ag.same hfr hrg, hop.2⟩
          · exact hop.elim
    · rename_i t ho
      split at hop
      · rename_i d hd
        cases hrk : rk.contains d with
        | false => simp only [hrk, cond_false] at hop; exact genU_sound h hop
        | true =>
          simp only [hrk, cond_true] at hop
          cases hz : hasZero P t with
          | false => simp [hz] at hop
          | true =>
            simp only [hz, cond_true] at hop
            refine newReg_sound h hd ?_ hop
            unfold hasZero at hz
            cases hi : P.info? t with
            | none => simp [hi] at hz
            | some z =>
              simp [hi] at hz
              obtain ⟨v, hv⟩ := Option.isSome_iff_exists.1 hz
              simp [execOp, ho, Instr.alloc, zeroValue, typeInfo, hi, hv, newVar, new_run, zeroL]
      · exact genU_sound h hop
    · rename_i t x ho
      split at hop
      · rename_i d hd
        cases hrk : rk.contains d with
        | false => simp only [hrk, cond_false] at hop; exact genU_sound h hop
        | true =>
          simp only [hrk, cond_true] at hop
          split at hop
          · rename_i v hx
            refine newReg_sound h hd ?_ hop
            simp [execOp, ho, h.evV ctx_nil hx, Instr.box, newVar, new_run, cL]
          · exact hop.elim
      · exact genU_sound h hop
    · exact genU_sound h hop
theorem gOne_sound {α : Type} {γ : List GKey} {key : GKey} {g : GEnt} {d : α} {opn : Value → (α → Prop) → Prop} {mk : α → Value} (h : Rel n s w a w)
    (hg : findG s.gs key = some g) (hc : g.cond = true → Ctx s.gs γ) (hopn : ∀ v K, opn v K → ∃ x, v = mk x ∧ K x) (hop : gOne P n fw s γ key g.cond o d opn mk w K) :
    if g.cond = true then o.wp P a w (Nx n fw fs s K) Q else Nx n fw fs s K (a.put o.dst undef) w := by
  obtain ⟨h1, h2⟩ := hop
  have ht : tagCond s.gs (some key) = some g.cond := by simp [tagCond, hg]
  split
  · rename_i hcond
    refine Oper.wp_mono (fun a' w' ⟨v, ha, hkept, hk⟩ => ?_) (effVal_sound h (hc hcond) (h1 hcond))
    subst ha
    obtain ⟨x, rfl, hk'⟩ := hopn _ _ hk
    exact putS_nx (h.syncd hkept) (sv := .v (mk x)) ht (fun _ => rfl) (fun hf => by rw [hcond] at hf; cases hf) rfl hk'
  · rename_i hcond
    have hcf : g.cond = false := by simpa using hcond
    exact putS_nx h (sv := .v (mk d)) ht (fun hf => absurd hf hcond) (fun _ => rfl) rfl (h2 hcf)
theorem gAg_sound {γ : List GKey} {key : GKey} {g : GEnt} {l : List Cs} (h : Rel n s w a w)
    (hg : findG s.gs key = some g) (hc : g.cond = true → Ctx s.gs γ) (hop : gAg P n fw s γ key g.cond o l w K) :
    if g.cond = true then o.wp P a w (Nx n fw fs s K) Q else Nx n fw fs s K (a.put o.dst undef) w := by
  obtain ⟨h1, h2⟩ := hop
  have ht : tagCond s.gs (some key) = some g.cond := by simp [tagCond, hg]
  split
  · rename_i hcond
    refine Oper.wp_mono (fun a' w' ⟨v, ha, hkept, hk⟩ => ?_) (effVal_sound h (hc hcond) (h1 hcond))
    subst ha
    have hk : opAg v fun cs => opCs l cs 0 fun x => opCs l x.toArray 0 fun vs => putS n fw s o.dst (some key) (.v (.agg vs.toArray)) fun s => K s w' := hk
    unfold opAg at hk
    split at hk
    · rename_i cs
      have hk1 := (opCs_sound _ _ _ _ hk).2
      have hk2 := (opCs_sound _ _ _ _ hk1).2
      simp only [List.drop_zero] at hk2
      exact putS_nx (h.syncd hkept) ht (fun _ => by simp [svVal]) (fun hf => by rw [hcond] at hf; cases hf) rfl hk2
    · exact hk.elim
  · rename_i hcond
    have hcf : g.cond = false := by simpa using hcond
    exact putS_nx h ht (fun hf => absurd hf hcond) (fun _ => rfl) rfl (opCs_sound _ _ _ _ (h2 hcf)).2
theorem opB_out {v : Value} {K : Bool → Prop} (h : opB v K) : ∃ x, v = .bool x ∧ K x := by
  unfold opB at h
  split at h
  · exact ⟨_, rfl, h⟩
  · exact h.elim
theorem opStr_out {v : Value} {K : ByteArray → Prop} (h : opStr v K) : ∃ x, v = .string x ∧ K x := by
  unfold opStr at h
  split at h
  · exact ⟨_, rfl, h⟩
  · exact h.elim
theorem opP_out {v : Value} {K : Option Addr → Prop} (h : opP v K) : ∃ x, v = .pointer x ∧ K x := by
  unfold opP at h
  split at h
  · exact ⟨_, rfl, h⟩
  · exact h.elim
theorem opM_out {v : Value} {K : Option Nat → Prop} (h : opM v K) : ∃ x, v = .map x ∧ K x := by
  unfold opM at h
  split at h
  · exact ⟨_, rfl, h⟩
  · exact h.elim
theorem opBig_out {v : Value} {m : Nat} {K : Array Value → Prop} (h : opBig v fun cs => cs.size = m ∧ K cs) : ∃ x, v = .agg x ∧ K x := by
  unfold opBig at h
  split at h
  · exact ⟨_, rfl, h.2⟩
  · exact h.elim
theorem opL_out {v : Value} {K : Option Addr × Nat × Nat → Prop} (h : opL v fun a n c => K (a, n, c)) : ∃ x, v = .slice x.1 x.2.1 x.2.2 ∧ K x := by
  unfold opL at h
  split at h
  · exact ⟨_, rfl, h⟩
  · exact h.elim
theorem effG_sound {key : GKey} {g : GEnt} (h : Rel n s w a cw) (hg : findG s.gs key = some g) (hc : g.cond = true → Ctx s.gs (key :: g.anc)) (hop : effG P n fw s w key g o K) :
    if g.cond = true then o.wp P a cw (Nx n fw fs s K) Q else Nx n fw fs s K (a.put o.dst undef) cw := by
  unfold effG at hop
  have ht : tagCond s.gs (some key) = some g.cond := by simp [tagCond, hg]
  cases hl : isRegLd s (key :: g.anc) o with
  | true =>
    simp only [hl, cond_true] at hop
    rcases opCore_sound h hop with hf | ⟨sv, hk, hgv⟩
    · exact hf.elim
    · split
      · rename_i hcond
        exact core_wp h (hc hcond) (by rw [hcond]; simp) ht hcond hgv hk
      · rename_i hcond
        exact putS_nx h ht (fun hf => absurd hf hcond) (fun _ => rfl) rfl hk
  | false =>
    simp only [hl, cond_false] at hop
    obtain ⟨s', h', hop, hfr, hgs, hrg⟩ := sync_sound h hop
    have hg' : findG s'.gs key = some g := by rw [hgs]; exact hg
    have hc' : g.cond = true → Ctx s'.gs (key :: g.anc) := by rw [hgs]; exact hc
    have fin : (if g.cond = true then o.wp P a cw (Nx n fw fs s' K) Q else Nx n fw fs s' K (a.put o.dst undef) cw) → (if g.cond = true then o.wp P a cw (Nx n fw fs s K) Q else Nx n fw fs s K (a.put o.dst undef) cw) := by
      intro hh
      split at hh
      · rw [if_pos ‹_›]; exact Oper.wp_mono (fun a w hx => Nx.from (Ag.same hfr hrg) hx) hh
      · rw [if_neg ‹_›]; exact Nx.from (Ag.same hfr hrg) hh
    split at hop
    · exact fin (gOne_sound h' hg' hc' (fun v K h => opI_sound h) hop)
    · exact fin (gOne_sound h' hg' hc' (fun v K h => opB_out h) hop)
    · exact fin (gOne_sound h' hg' hc' (fun v K h => opStr_out h) hop)
    · exact fin (gOne_sound h' hg' hc' (fun v K h => opP_out h) hop)
    · exact fin (gOne_sound h' hg' hc' (fun v K h => opL_out h) hop)
    · exact fin (gOne_sound h' hg' hc' (fun v K h => opM_out h) hop)
    · exact fin (gAg_sound h' hg' hc' hop)
    · exact fin (gOne_sound h' hg' hc' (fun v K h => opBig_out h) hop)
    · exact fin (gOne_sound h' hg' hc' (fun v K h => ⟨v, rfl, h⟩) hop)
/-- A guard's entry. -/
theorem guardOf_sound {ops : List Oper} {key : GKey} {s' : St} {g : GEnt} (h : Rel n s w a cw) (hgo : guardOf ops s key = some (s', g)) :
    Rel n s' w a cw ∧ findG s'.gs key = some g ∧ (g.cond = true → Ctx s'.gs (key :: g.anc)) ∧
      (o.guard = some key → Region.wanted o (yielded ops.toArray a.tmps) = g.cond) ∧ Ag fw fs s s' := by
  have want : ∀ (oj : Oper) (t : Nat) (g : GEnt), g.key = key → ops[key.1]? = some oj → oj.dst = some t → g.slot = t → (g.base = true → a.tmps[g.slot]? = some (.bool g.b)) →
      (g.base = false → a.tmps[g.slot]? = some undef) → o.guard = some key → Region.wanted o (yielded ops.toArray a.tmps) = g.cond := by
    intro oj t g hk hoj hdst hslot h1 h2 hgd
    unfold Region.wanted
    simp only [hgd]
    have hy : yielded ops.toArray a.tmps key.1 = if g.base then some g.b else none := by
      unfold yielded
      simp only [List.getElem?_toArray, hoj, Option.bind_some, hdst]
      rw [← hslot]
      cases hb : g.base with
      | true => simp [h1 hb]
      | false => simp [h2 hb, undef]
    show (yielded ops.toArray a.tmps key.1 == some key.2) = g.cond
    rw [hy]
    unfold GEnt.cond
    rw [hk]
    cases g.base <;> cases g.b <;> cases key.2 <;> rfl
  unfold guardOf at hgo
  split at hgo
  · rename_i g0 hf
    split at hgo
    · rename_i oj hoj
      split at hgo
      · rename_i t hdst
        cases hb : Nat.beq t g0.slot with
        | false => simp [hb] at hgo
        | true =>
          simp only [hb, cond_true, Option.some.injEq, Prod.mk.injEq] at hgo
          obtain ⟨rfl, rfl⟩ := hgo
          refine ⟨h, hf, fun hc k hk => ?_, want oj t _ (findG_key hf) hoj hdst (Nat.eq_of_beq_eq_true hb).symm (h.gslot _ _ hf).1 (h.gslot _ _ hf).2, Ag.refl _ _ _⟩
          cases hk with
          | head => exact ⟨_, hf, hc⟩
          | tail _ hk =>
            obtain ⟨g', h1, h2⟩ := h.anc _ _ hf k hk
            exact ⟨g', h1, h2 hc⟩
      · cases hgo
    · cases hgo
  · rename_i hnone
    -- the table grows by an entry
    have grow : ∀ (g : GEnt), g.key = key → (∀ k' ∈ g.anc, ∃ g', findG s.gs k' = some g' ∧ (g.cond = true → g'.cond = true)) → ((∀ k' ∈ g.anc, ∃ g', findG s.gs k' = some g' ∧ g'.cond = true) → g.base = true) →
        (g.base = true → a.tmps[g.slot]? = some (.bool g.b)) → (g.base = false → a.tmps[g.slot]? = some undef) →
        Rel n { s with gs := g :: s.gs } w a cw ∧ findG (g :: s.gs) key = some g := by
      intro g hk hanc hbase hs1 hs2
      have hfk : findG (g :: s.gs) key = some g := by simp [findG, hk, gkEq_iff.2 rfl]
      have hother : ∀ k g', findG s.gs k = some g' → findG (g :: s.gs) k = some g' := by
        intro k g' hg'
        have : gkEq g.key k = false := by
          cases hb : gkEq g.key k with
          | false => rfl
          | true => rw [← gkEq_iff.1 hb, hk, hnone] at hg'; cases hg'
        simp [findG, this, hg']
      have hcase : ∀ k g', findG (g :: s.gs) k = some g' → (k = key ∧ g' = g) ∨ findG s.gs k = some g' := by
        intro k g' hg'
        simp only [findG] at hg'
        cases hb : gkEq g.key k with
        | true => simp [hb] at hg'; exact .inl ⟨(gkEq_iff.1 hb ▸ hk).symm ▸ rfl, hg'.symm⟩
        | false => simp [hb] at hg'; exact .inr hg'
      refine ⟨⟨h.dfr, h.sz, ?_, ?_, ?_, ?_, h.reg, h.dis, h.wfr, ?_, h.wor, h.syn⟩, hfk⟩
      · intro t e he
        obtain ⟨c, h1, h2, h3, h4⟩ := h.ent t e he
        refine ⟨c, ?_, h2, h3, h4⟩
        cases htg : e.tag with
        | none => simpa [htg, tagCond] using h1
        | some k =>
          simp only [htg, tagCond] at h1 ⊢
          cases hfg : findG s.gs k with
          | none => simp [hfg] at h1
          | some g' =>
            simp only [hfg] at h1
            simp only [hother _ _ hfg]
            exact h1
      · intro k g' hg' k' hk'
        rcases hcase k g' hg' with ⟨_, rfl⟩ | hold
        · obtain ⟨g2, q1, q2⟩ := hanc k' hk'
          exact ⟨g2, hother _ _ q1, q2⟩
        · obtain ⟨g2, q1, q2⟩ := h.anc k g' hold k' hk'
          exact ⟨g2, hother _ _ q1, q2⟩
      · intro k g' hg' hall
        have back : ∀ k' ∈ g'.anc, (∃ g2, findG s.gs k' = some g2) → ∃ g2, findG s.gs k' = some g2 ∧ g2.cond = true := by
          intro k' hk' ⟨g2, hg2⟩
          obtain ⟨g3, q1, q2⟩ := hall k' hk'
          rw [hother _ _ hg2] at q1
          cases q1
          exact ⟨g2, hg2, q2⟩
        rcases hcase k g' hg' with ⟨_, rfl⟩ | hold
        · exact hbase fun k' hk' => back k' hk' (let ⟨g2, q, _⟩ := hanc k' hk'; ⟨g2, q⟩)
        · exact h.gbase k g' hold fun k' hk' => back k' hk' (let ⟨g2, q, _⟩ := h.anc k g' hold k' hk'; ⟨g2, q⟩)
      · intro k g' hg'
        rcases hcase k g' hg' with ⟨_, rfl⟩ | hold
        · exact ⟨hs1, hs2⟩
        · exact h.gslot k g' hold
      · simp only [nodupG, hk, hnone]
        exact h.wfg
    split at hgo
    · rename_i oj hoj
      split at hgo
      · rename_i t hdst
        split at hgo
        · rename_i sl b he
          simp only [Option.some.injEq, Prod.mk.injEq] at hgo
          obtain ⟨rfl, rfl⟩ := hgo
          obtain ⟨c, h1, h2, h3, h4⟩ := h.ent t _ he
          simp only [tagCond, Option.some.injEq] at h1
          obtain ⟨z, hz, hz2⟩ := h3 h1.symm
          simp only [svVal] at hz
          subst hz
          have hs1 : ∀ (_ : true = true), a.tmps[t]? = some (.bool b) := fun _ => hz2
          obtain ⟨hR, hF⟩ := grow ⟨key, t, true, b, []⟩ rfl (fun _ hk => by cases hk) (fun _ => rfl) hs1 (fun hf => by cases hf)
          refine ⟨hR, hF, fun hc k hk => ?_, want oj t _ rfl hoj hdst rfl hs1 (fun hf => by cases hf), Ag.same rfl rfl⟩
          cases hk with
          | head => exact ⟨_, hF, hc⟩
          | tail _ hk => cases hk
        · rename_i sl k b he
          split at hgo
          · rename_i gk hgk
            simp only [Option.some.injEq, Prod.mk.injEq] at hgo
            obtain ⟨rfl, rfl⟩ := hgo
            obtain ⟨c, h1, h2, h3, h4⟩ := h.ent t _ he
            simp only [tagCond, hgk, Option.some.injEq] at h1
            have hs1 : gk.cond = true → a.tmps[t]? = some (.bool b) := fun hc => by
              obtain ⟨z, hz, hz2⟩ := h3 (h1 ▸ hc)
              simp only [svVal] at hz
              subst hz
              exact hz2
            have hs2 : gk.cond = false → a.tmps[t]? = some undef := fun hc => h4 (h1 ▸ hc)
            have hbs : ∀ g : GEnt, g.base = gk.cond → g.cond = true → gk.cond = true := fun g hb hc => by
              unfold GEnt.cond at hc
              simp only [Bool.and_eq_true] at hc
              rw [← hb]; exact hc.1
            obtain ⟨hR, hF⟩ := grow ⟨key, t, gk.cond, b, k :: gk.anc⟩ rfl (fun k' hk' => by
                cases hk' with
                | head => exact ⟨gk, hgk, fun hc => hbs _ rfl hc⟩
                | tail _ hk' =>
                  obtain ⟨g2, q1, q2⟩ := h.anc k gk hgk k' hk'
                  exact ⟨g2, q1, fun hc => q2 (hbs _ rfl hc)⟩)
              (fun hall => by
                obtain ⟨g2, q1, q2⟩ := hall k List.mem_cons_self
                rw [hgk] at q1
                cases q1
                exact q2) hs1 hs2
            refine ⟨hR, hF, fun hc k' hk' => ?_, want oj t _ rfl hoj hdst rfl hs1 hs2, Ag.same rfl rfl⟩
            cases hk' with
            | head => exact ⟨_, hF, hc⟩
            | tail _ hk' =>
              obtain ⟨g2, q1, q2⟩ := hR.anc key _ hF k' hk'
              exact ⟨g2, q1, q2 hc⟩
          · cases hgo
        · cases hgo
      · cases hgo
    · cases hgo
/-- One operation, with its guard. -/
theorem opStep_sound {rk : List Nat} {ops : List Oper} {fz : Nat → Bool} (h : Rel n s w a cw) (hop : opStep P n rk ops fz fs fw s w o K) :
    if Region.wanted o (yielded ops.toArray a.tmps) = true then o.wp P a cw (Nx n fw fs s K) Q else Nx n fw fs s K (a.put o.dst undef) cw := by
  unfold opStep at hop
  split at hop
  · rename_i hgd
    rw [if_pos (by simp [Region.wanted, hgd])]
    rcases opCore_sound h hop with hf | ⟨sv, hk, hgv⟩
    · exact effU_sound h hf
    · exact core_wp (tag := none) (c := true) h ctx_nil (by simp) rfl rfl hgv hk
  · rename_i key hgd
    split at hop
    · rename_i s' g hgo
      obtain ⟨h', hg, hc, hw, hag⟩ := guardOf_sound (fw := fw) (fs := fs) (o := o) h hgo
      rw [hw hgd]
      have ht : tagCond s'.gs (some key) = some g.cond := by simp [tagCond, hg]
      rcases opCore_sound h' hop with hf | ⟨sv, hk, hgv⟩
      · have := effG_sound (fs := fs) (Q := Q) h' hg hc hf
        split at this
        · rw [if_pos ‹_›]; exact Oper.wp_mono (fun a w hx => Nx.from hag hx) this
        · rw [if_neg ‹_›]; exact Nx.from hag this
      · split
        · rename_i hcond
          exact Oper.wp_mono (fun a w hx => Nx.from hag hx) (core_wp h' (hc hcond) (by rw [hcond]; simp) ht hcond hgv hk)
        · rename_i hcond
          exact Nx.from hag (putS_nx h' ht (fun hf => absurd hf hcond) (fun _ => rfl) rfl hk)
    · exact hop.elim
end
end Fk
set_option linter.unusedVariables false
set_option linter.unusedSimpArgs false
namespace Fk
open Go Go.RowKit
def isNoneT : Option GKey → Bool | none => true | some _ => false
def keepE (fr : List Ent) (e : Ent) : Bool := match findE fr e.slot with | some e' => isNoneT e'.tag | none => false
/-- Behind a region no guard stands any more. -/
def clearT (s : St) : St := match s.gs with
  | [] => s
  | _ => { s with fr := s.fr.filter (keepE s.fr), gs := [] }
theorem findE_slot : ∀ {l : List Ent} {t : Nat} {e : Ent}, findE l t = some e → e.slot = t
  | [], _, _, h => by cases h
  | x :: l, t, e, h => by
    simp only [findE] at h
    cases hb : Nat.beq x.slot t with
    | true => simp [hb] at h; subst h; exact Nat.eq_of_beq_eq_true hb
    | false => simp [hb] at h; exact findE_slot h
theorem findE_filter (fr : List Ent) (t : Nat) : ∀ (l : List Ent), findE (l.filter (keepE fr)) t = match findE fr t with
    | some e' => if isNoneT e'.tag then findE l t else none
    | none => none
  | [] => by cases findE fr t <;> simp [findE]
  | x :: l => by
    have ih := findE_filter fr t l
    simp only [List.filter_cons]
    cases hb : Nat.beq x.slot t with
    | true =>
      have hx := Nat.eq_of_beq_eq_true hb
      have hk : keepE fr x = match findE fr t with | some e' => isNoneT e'.tag | none => false := by unfold keepE; rw [hx]
      cases hf : findE fr t with
      | none =>
        simp only [hf] at hk ih ⊢
        simp [hk, ih]
      | some e' =>
        simp only [hf] at hk ih ⊢
        cases hn : isNoneT e'.tag with
        | true => simp [hk, hn, findE, hb]
        | false => simp [hk, hn] at ih ⊢; exact ih
    | false =>
      cases hk : keepE fr x with
      | true =>
        simp only [hk, if_true, findE, hb, cond_false]
        exact ih
      | false =>
        simp only [hk, findE, hb, cond_false]
        exact ih
theorem clearT_find {s : St} {t : Nat} {e : Ent} (h : findE (clearT s).fr t = some e) : findE s.fr t = some e ∧ (s.gs = [] ∨ e.tag = none) := by
  unfold clearT at h
  split at h
  · rename_i hg; exact ⟨h, .inl hg⟩
  · rw [findE_filter] at h
    cases hf : findE s.fr t with
    | none => simp [hf] at h
    | some e' =>
      simp only [hf] at h
      split at h
      · rename_i hn
        have he : e' = e := Option.some.inj h
        subst he
        refine ⟨by first | exact hf | rfl, .inr ?_⟩
        cases ht : e'.tag with
        | none => rfl
        | some k => simp [ht, isNoneT] at hn
      · cases h
theorem clearT_gs (s : St) : (clearT s).gs = [] := by
  unfold clearT
  split
  · assumption
  · rfl
theorem clearT_rg (s : St) : (clearT s).rg = s.rg := by
  unfold clearT
  split <;> rfl
theorem clearT_rel {n : Nat} {s : St} {w cw : World} {a : Act} (h : Rel n s w a cw) : Rel n (clearT s) w a cw := by
  have hg := clearT_gs s
  have hr := clearT_rg s
  have hd : (clearT s).dirty = s.dirty := by unfold clearT; split <;> rfl
  have hc : (clearT s).chg = s.chg := by unfold clearT; split <;> rfl
  refine ⟨h.dfr, h.sz, ?_, ?_, ?_, ?_, ?_, ?_, ?_, ?_, ?_, ?_⟩
  · intro t e he
    obtain ⟨h1, h2⟩ := clearT_find he
    obtain ⟨c, q1, q2, q3, q4⟩ := h.ent t e h1
    refine ⟨c, ?_, q2, by rw [hr]; exact q3, q4⟩
    rcases h2 with h2 | h2
    · rw [hg, ← h2]; exact q1
    · rw [h2] at q1 ⊢; exact q1
  · intro k g hk; rw [hg] at hk; cases hk
  · intro k g hk; rw [hg] at hk; cases hk
  · intro k g hk; rw [hg] at hk; cases hk
  · rw [hr]; exact h.reg
  · rw [hr]; exact h.dis
  · rw [hr]; exact h.wfr
  · rw [hg]; rfl
  · rw [hd]; exact h.wor
  · rw [hc]; exact h.syn
theorem clearT_ag {fw : List Nat} {fs : Nat → Bool} (s : St) : Ag fw fs s (clearT s) := by
  refine ⟨fun t ht e he hn => ?_, fun k _ => by rw [clearT_rg], fun k r hk => ⟨r, by rw [clearT_rg]; exact hk, rfl, rfl, rfl⟩⟩
  unfold clearT
  split
  · exact he
  · show findE (s.fr.filter (keepE s.fr)) t = some e
    rw [findE_filter]
    simp [he, hn, isNoneT]
def seqOps (P : Program) (n : Nat) (rk : List Nat) (ops : List Oper) (fs : Nat → Bool) (fw : List Nat) : List Oper → St → World → (St → World → Prop) → Prop
  | [], s, w, K => K s w
  | o :: r, s, w, K => opStep P n rk ops (fun _ => true) fs fw s w o fun s w => seqOps P n rk ops fs fw r s w K
section
variable {P : Program} {n : Nat} {rk : List Nat} {ops : List Oper} {fs : Nat → Bool} {fw : List Nat} {K : St → World → Prop} {Q : Exit → Act → World → Prop}
theorem seqOps_sound : ∀ (l : List Oper) (s0 s : St) (w cw : World) (a : Act), Rel n s w a cw → Ag fw fs s0 s → seqOps P n rk ops fs fw l s w K → (∀ a cw, Nx n fw fs s0 K a cw → Q .normal a cw) →
    wpList P ops.toArray Q l a cw
  | [], s0, s, w, cw, a, h, hag, hk, hQ => hQ a cw ⟨s, w, h, hag, hk⟩
  | o :: r, s0, s, w, cw, a, h, hag, hk, hQ => by
    have h1 := opStep_sound (Q := Q) h hk
    unfold wpList
    split
    · rename_i hw
      rw [if_pos hw] at h1
      exact .inl (Oper.wp_mono (fun a' w' ⟨s', w0, q1, q2, q3⟩ => seqOps_sound r s0 s' w0 w' a' q1 (hag.trans q2) q3 hQ) h1)
    · rename_i hw
      rw [if_neg hw] at h1
      obtain ⟨s', w0, q1, q2, q3⟩ := h1
      exact seqOps_sound r s0 s' w0 cw _ q1 (hag.trans q2) q3 hQ
end
def lkp : List (Nat × Nat) → Nat → Option Nat
  | [], _ => none
  | p :: l, t => bif Nat.beq p.1 t then some p.2 else lkp l t
abbrev Fl := List (Nat × Nat) × List Nat
def flP (f : Fl) (x : Operand) (d : Option Tmp) : Fl := match x, d with
  | .tmp t, some d => match lkp f.1 t with | some k => ((d, k) :: f.1, f.2) | none => f
  | _, _ => f
def flowO (f : Fl) (o : Oper) : Fl := match o.op with
  | .fieldAddr _ x _ | .indexAddr _ x _ | .nilCheck x | .move x | .assign x => flP f x o.dst
  | .alloc _ | .box _ _ => match o.dst with | some d => ((d, d) :: f.1, f.2) | none => f
  | .store _ x _ => match x with
    | .tmp t => match lkp f.1 t with | some k => (f.1, k :: f.2) | none => f
    | _ => f
  | _ => f
def flowOps : List Oper → Fl → Fl
  | [], f => f
  | o :: r, f => flowOps r (flowO f o)
def envOf : List Ent → List (Nat × Nat)
  | [] => []
  | e :: l => match e.sv with | .p k _ => (e.slot, k) :: envOf l | _ => envOf l
/-- The registers that are written. -/
def storedK (ops : List Oper) (s : St) : List Nat := (flowOps ops (envOf s.fr, [])).2
/-- A reading that comes to the same in every world that meets S. -/
structure RunV (P : Program) (sm : Sem Value) (v : Value) (w : World) : Prop where
  out : sm.run P w = .ok v w
def isArrP (o : Oper) : Bool := match o.op with | .sliceToArrayPointer _ _ => true | _ => false
def RdS (P : Program) (S : World → Prop) (o : Oper) (sm : Sem Value) (g : Option Bool) (K : SV → Prop) : Prop :=
  bif isArrP o then ∃ A : Addr, (∀ w, S w → RunV P sm (.pointer (some A)) w) ∧ K (.v (.pointer (some A))) else
  match g with
  | none => ∃ v, (∀ w, S w → RunV P sm v w) ∧ opS (outS P o) v fun v => K (.v v)
  | some c => ∃ v, (c = true → ∀ w, S w → RunV P sm v w) ∧ opS (outS P o) v fun v => K (.v v)
def isRd (P : Program) (hasS : Bool) (o : Oper) : Bool := match o.op with
  | .binOp _ _ _ _ _ | .build _ _ | .slice _ _ _ _ _ | .sliceToArrayPointer _ _ => true
  | .index _ _ _ | .lookup _ _ _ _ => hasS
  | .convert _ d _ => bif hasS then isStrT P d else false
  | .call { callee := .builtin .len, .. } => hasS
  | .call { callee := .builtin .max, .. } | .call { callee := .builtin .min, .. } => true
  | _ => false
/-- A load that may be taken first: it reads the same in every world that meets S. -/
def LdS (P : Program) (S : World → Prop) (t : TypeId) (A : Addr) (g : Option Bool) (K : SV → Prop) : Prop := match g with
  | none => ∃ v, (∀ w, S w → LdV P t w A fun u => u = v) ∧ opS (shpOf P t) v fun v => K (.v v)
  | some c => match shpOf P t with
    | .one (.one (.i k)) => ∃ x, (c = true → ∀ w, S w → LdV P t w A fun u => u = .int k x) ∧ K (.v (.int k x))
    | .one (.one .b) => ∃ x, (c = true → ∀ w, S w → LdV P t w A fun u => u = .bool x) ∧ K (.v (.bool x))
    | _ => ∃ v, (c = true → ∀ w, S w → LdV P t w A fun u => u = v) ∧ opS (shpOf P t) v fun v => K (.v v)
def isFloat0 (P : Program) (fz : Nat → Bool) (hasS : Bool) (s : St) (γ : List GKey) (o : Oper) : Bool := match o.op with
  | .move _ | .assign _ | .pick _ _ _ | .fieldAddr _ _ _ | .indexAddr _ _ _ | .nilCheck _ => true
  | .load _ x => match evS s γ x with | some (.p k _) => fz k | _ => hasS
  | .index t _ _ => isStrT P t
  | .build t _ => smallT P t
  | .binOp .quo t _ _ _ | .binOp .rem t _ _ _ => (scI P t).isSome
  | .binOp .shl _ _ _ _ | .binOp .shr _ _ _ _ => true
  | _ => isT P o
def isFloat (P : Program) (fz : Nat → Bool) (hasS md : Bool) (s : St) (γ : List GKey) (o : Oper) : Bool := bif isFloat0 P fz hasS s γ o then true else bif md then isRd P hasS o else false
def floatOp0 (P : Program) (n : Nat) (fw : List Nat) (fz : Nat → Bool) (S : World → Prop) (s : St) (γ : List GKey) (g : Option Bool) (tag : Option GKey) (o : Oper) (K : St → Prop) : Prop := match o.op with
  | .load t x => match evS s γ x with
    | some (.v (.pointer (some A))) => LdS P S t A g fun sv => putS n fw s o.dst tag sv K
    | _ => opCore P fz s γ g o (fun sv => putS n fw s o.dst tag sv K) False
  | _ => opCore P fz s γ g o (fun sv => putS n fw s o.dst tag sv K) False
def floatOp (P : Program) (n : Nat) (fw : List Nat) (fz : Nat → Bool) (S : World → Prop) (hasS md : Bool) (s : St) (γ : List GKey) (g : Option Bool) (tag : Option GKey) (o : Oper) (K : St → Prop) : Prop :=
  bif (bif md then !isFloat0 P fz hasS s γ o else false) then
    bif kn s γ o.op.operands.toList then (match semOf (rho s γ) o with | some sm => RdS P S o sm g fun sv => putS n fw s o.dst tag sv K | none => False) else False
  else floatOp0 P n fw fz S s γ g tag o K
def floatStep (P : Program) (n : Nat) (ops : List Oper) (fw : List Nat) (fz : Nat → Bool) (S : World → Prop) (hasS md : Bool) (s : St) (o : Oper) (K : St → Prop) : Prop := match o.guard with
  | none => floatOp P n fw fz S hasS md s [] none none o K
  | some key => match guardOf ops s key with
    | some (s, g) => floatOp P n fw fz S hasS md s (key :: g.anc) (some g.cond) (some key) o K
    | none => False
def floats (P : Program) (ops : List Oper) (fz : Nat → Bool) (hasS md : Bool) (s : St) (o : Oper) : Bool := match o.guard with
  | none => isFloat P fz hasS md s [] o
  | some key => match guardOf ops s key with
    | some (s, g) => isFloat P fz hasS md s (key :: g.anc) o
    | none => false
def bindsE (e : Edge) : Bool := Region.binds .any e
def readyL (ops : List Oper) (listed : List Bool) : List Nat := (List.range ops.length).filter fun i =>
  !listed.getD i true && (match ops[i]? with | some o => o.after.toList.all (fun e => !bindsE e || listed.getD e.on false) | none => false)
def freeL (ops : List Oper) (listed : List Bool) (i : Nat) : Bool := match ops[i]? with
  | none => false
  | some oi => (List.range ops.length).all fun j => Nat.beq j i || listed.getD j true || match ops[j]? with
      | some oj => oj.after.toList.any (fun e => bindsE e && Nat.beq e.on i) || oi.apart ops.toArray oj
      | none => true
def firstF (P : Program) (ops : List Oper) (fz : Nat → Bool) (hasS md : Bool) (s : St) (listed : List Bool) : List Nat → Option (Nat × Oper)
  | [] => none
  | i :: r => match ops[i]? with
    | some o => bif floats P ops fz hasS md s o && freeL ops listed i then some (i, o) else firstF P ops fz hasS md s listed r
    | none => firstF P ops fz hasS md s listed r
def allE (A : Nat → Prop) : List Nat → Prop
  | [] => True
  | [i] => A i
  | i :: r => A i ∧ allE A r
def drawOps (P : Program) (n : Nat) (rk : List Nat) (ops : List Oper) (fz fs : Nat → Bool) (fw : List Nat) (S : World → Prop) (hasS md : Bool) : Nat → List Bool → St → World → (St → World → Prop) → Prop
  | 0, listed, s, w, K => match readyL ops listed with
    | [] => K s w
    | _ => False
  | f + 1, listed, s, w, K => match readyL ops listed with
    | [] => K s w
    | rs => match firstF P ops fz hasS md s listed rs with
      | some (i, o) => floatStep P n ops fw fz S hasS md s o fun s => drawOps P n rk ops fz fs fw S hasS md f (listed.set i true) s w K
      | none => allE (fun i => match ops[i]? with
          | some o => opStep P n rk ops fz fs fw s w o fun s w => sync s w fun s w => match hasS with
            | true => S w ∧ drawOps P n rk ops fz fs fw S hasS md f (listed.set i true) s w K
            | false => drawOps P n rk ops fz fs fw S hasS md f (listed.set i true) s w K
          | none => False) rs
def hasStore : List Oper → Bool
  | [] => false
  | o :: r => match o.op with | .store _ _ _ => true | _ => hasStore r
/-- Does a region read memory by an address that is no register's? -/
def rawLd (s : St) : List Oper → List Nat → Bool
  | [], _ => false
  | o :: r, ps => match o.op with
    | .load _ (.tmp x) => match findE s.fr x with
      | some ⟨_, _, .p _ _⟩ => rawLd s r ps
      | _ => bif memN ps x then rawLd s r ps else true
    | .load _ _ => true
    | .fieldAddr _ (.tmp x) _ | .indexAddr _ (.tmp x) _ | .nilCheck (.tmp x) | .move (.tmp x) | .assign (.tmp x) => match o.dst with
      | some d => match findE s.fr x with
        | some ⟨_, _, .p _ _⟩ => rawLd s r (d :: ps)
        | _ => bif memN ps x then rawLd s r (d :: ps) else rawLd s r ps
      | none => rawLd s r ps
    | _ => rawLd s r ps
def keyIn (l : List Reg) (k : Nat) : Bool := match findR l k with | some _ => true | none => false
def noSel : List Oper → Bool
  | [] => true
  | o :: r => match o.op with | .select _ _ => false | _ => noSel r
/-- What all worlds have in which a load may be taken. -/
def Dr (w : World) (B : (World → Prop) → Prop) : Prop := ∃ S : World → Prop, S w ∧ B S
def drawW0 (P : Program) (n : Nat) (rk : List Nat) (ops : List Oper) (fs : Nat → Bool) (fw : List Nat) (s : St) (w : World) (K : St → World → Prop) : Prop :=
  sync s w fun s w =>
    let fz : Nat → Bool := fun k => bif hasStore ops then false else keyIn s.rg k
    bif noSel ops then match (bif hasStore ops then false else rawLd s ops []) with
    | true => Dr w.drew fun S => drawOps P n rk ops fz (fun k => fs k || fz k) fw S true false ops.length (List.replicate ops.length false) s w.drew K
    | false => drawOps P n rk ops fz (fun k => fs k || fz k) fw (fun _ => True) false false ops.length (List.replicate ops.length false) s w.drew K
    else False
/-- The same, where all that reads may be taken first. -/
def drawW1 (P : Program) (n : Nat) (rk : List Nat) (ops : List Oper) (fs : Nat → Bool) (fw : List Nat) (s : St) (w : World) (K : St → World → Prop) : Prop :=
  sync s w fun s w =>
    let fz : Nat → Bool := fun k => bif memN (storedK ops s) k then false else keyIn s.rg k
    bif noSel ops then Dr w.drew fun S => drawOps P n rk ops fz (fun k => fs k || fz k) fw S true true ops.length (List.replicate ops.length false) s w.drew K
    else False
/-- The same, where memory is written that is read ahead. -/
def drawW2 (P : Program) (n : Nat) (rk : List Nat) (ops : List Oper) (fs : Nat → Bool) (fw : List Nat) (s : St) (w : World) (K : St → World → Prop) : Prop :=
  sync s w fun s w =>
    let fz : Nat → Bool := fun k => bif memN (storedK ops s) k then false else keyIn s.rg k
    bif noSel ops then drawOps P n rk ops fz (fun k => fs k || fz k) fw (fun _ => True) false true ops.length (List.replicate ops.length false) s w.drew K
    else False
/-- The same, where the last stores write what is read ahead: behind these nothing is asked of S. -/
def reachL (ops : List Oper) (i : Nat) : Nat → Nat → Bool
  | 0, _ => false
  | f + 1, d => match ops[d]? with
    | some o => o.after.toList.any fun e => bindsE e && (Nat.beq e.on i || reachL ops i f e.on)
    | none => false
def storeIx (ops : List Oper) : List Nat := (List.range ops.length).filter fun i => match ops[i]? with
  | some o => match o.op with | .store _ _ _ => true | _ => false
  | none => false
def lastL (ops : List Oper) (listed : List Bool) (ds : List Nat) (i : Nat) : Bool := !memN ds i && ds.all fun d => listed.getD d true || reachL ops i 2 d
def drawL (P : Program) (n : Nat) (rk : List Nat) (ops : List Oper) (fz fs : Nat → Bool) (fw : List Nat) (S : World → Prop) (ds : List Nat) : Nat → List Bool → St → World → (St → World → Prop) → Prop
  | 0, listed, s, w, K => match readyL ops listed with
    | [] => K s w
    | _ => False
  | f + 1, listed, s, w, K => match readyL ops listed with
    | [] => K s w
    | rs => match firstF P ops (fun _ => false) false true s listed (rs.filter fun i => !memN ds i) with
      | some (i, o) => floatStep P n ops fw (fun _ => false) (fun _ => True) false true s o fun s => drawL P n rk ops fz fs fw S ds f (listed.set i true) s w K
      | none => match firstF P ops fz true true s listed (rs.filter fun i => lastL ops listed ds i) with
        | some (i, o) => floatStep P n ops fw fz S true true s o fun s => drawL P n rk ops fz fs fw S ds f (listed.set i true) s w K
        | none => allE (fun i => match ops[i]? with
            | some o => opStep P n rk ops fz fs fw s w o fun s w => sync s w fun s w => match memN ds i with
              | true => drawOps P n rk ops fz fs fw (fun _ => True) false true f (listed.set i true) s w K
              | false => S w ∧ drawL P n rk ops fz fs fw S ds f (listed.set i true) s w K
            | none => False) rs
def drawW3 (P : Program) (n : Nat) (rk : List Nat) (ops : List Oper) (fs : Nat → Bool) (fw : List Nat) (s : St) (w : World) (K : St → World → Prop) : Prop :=
  sync s w fun s w =>
    let fz : Nat → Bool := fun k => bif memN (storedK ops s) k then false else keyIn s.rg k
    bif noSel ops then Dr w.drew fun S => drawL P n rk ops fz (fun k => fs k || fz k) fw S (storeIx ops) ops.length (List.replicate ops.length false) s w.drew K
    else False
def drawW (P : Program) (n : Nat) (rk : List Nat) (id : Nat) (ops : List Oper) (fs : Nat → Bool) (fw : List Nat) (s : St) (w : World) (K : St → World → Prop) : Prop :=
  bif memN rk (500000 + id) then drawW3 P n rk ops fs fw s w K else bif memN rk (100000 + id) then drawW1 P n rk ops fs fw s w K else bif memN rk (400000 + id) then drawW2 P n rk ops fs fw s w K else drawW0 P n rk ops fs fw s w K
end Fk
set_option linter.unusedVariables false
set_option linter.unusedSimpArgs false
namespace Fk
open Go Go.RowKit
theorem readyL_eq (ops : List Oper) (listed : List Bool) : Region.ready .any ops.toArray listed.toArray = readyL ops listed := by
  unfold Region.ready readyL
  simp only [List.size_toArray]
  congr 1
  funext i
  congr 1
  · simp [Array.getD_eq_getD_getElem?, List.getD_eq_getElem?_getD]
  · cases hi : ops[i]? with
    | none => simp [hi]
    | some o =>
      simp only [List.getElem?_toArray, hi, Option.map_some, Option.getD_some]
      rw [Array.all_toList]
      congr 1
      funext e
      simp [bindsE, Array.getD_eq_getD_getElem?, List.getD_eq_getElem?_getD]
theorem freeL_spec {ops : List Oper} {listed : List Bool} {i : Nat} {oi : Oper} (hi : ops[i]? = some oi) (h : freeL ops listed i = true) (j : Nat) (oj : Oper)
    (hj : ops.toArray[j]? = some oj) (hne : j ≠ i) (hun : listed.toArray.getD j true = false) (hno : ∀ e ∈ oj.after, Region.binds .any e = true → e.on ≠ i) : oi.apart ops.toArray oj = true := by
  simp only [freeL, hi, List.all_eq_true, List.mem_range] at h
  simp only [List.getElem?_toArray] at hj
  have h1 := h j (List.getElem?_eq_some_iff.1 hj).1
  have hl : listed.getD j true = false := by simpa [Array.getD_eq_getD_getElem?, List.getD_eq_getElem?_getD] using hun
  have hb : Nat.beq j i = false := by
    cases hb : Nat.beq j i with
    | false => rfl
    | true => exact absurd (Nat.eq_of_beq_eq_true hb) hne
  simp only [hj, hl, hb, Bool.false_or, Bool.or_eq_true] at h1
  rcases h1 with h1 | h1
  · exfalso
    obtain ⟨e, he, hee⟩ := List.any_eq_true.1 h1
    simp only [Bool.and_eq_true] at hee
    exact hno e (Array.mem_toList_iff.1 he) hee.1 (Nat.eq_of_beq_eq_true hee.2)
  · exact h1
theorem noSel_spec : ∀ {ops : List Oper}, noSel ops = true → ∀ (j : Nat) (o : Oper) cs b, ops[j]? = some o → o.op ≠ .select cs b
  | [], _, j, o, cs, b, h => by simp at h
  | x :: r, hn, j, o, cs, b, h => by
    intro he
    have hmem : o ∈ x :: r := List.mem_of_getElem? h
    have gen : ∀ (l : List Oper), noSel l = true → ∀ o ∈ l, o.op ≠ .select cs b := by
      intro l
      induction l with
      | nil => intro _ o ho; cases ho
      | cons y l ih =>
        intro hn o ho he
        unfold noSel at hn
        split at hn
        · cases hn
        · rename_i hy
          cases ho with
          | head => exact hy _ _ he
          | tail _ ho => exact ih hn o ho he
    exact gen _ hn o hmem he
theorem allE_mem {A : Nat → Prop} : ∀ {l : List Nat}, allE A l → ∀ i ∈ l, A i
  | [], _, i, hi => by cases hi
  | [x], h, i, hi => by
    cases hi with
    | head => exact h
    | tail _ hi => cases hi
  | x :: y :: r, h, i, hi => by
    cases hi with
    | head => exact h.1
    | tail _ hi => exact allE_mem h.2 i hi
section
variable {P : Program} {n : Nat} {rk : List Nat} {ops : List Oper} {fz fs : Nat → Bool} {fw : List Nat} {S : World → Prop} {hasS md : Bool} {K : St → World → Prop} {Q : Exit → Act → World → Prop} {s0 : St}
theorem putS_mono {n : Nat} {fw : List Nat} {s : St} {dst : Option Tmp} {tag : Option GKey} {sv : SV} {K K' : St → Prop} (hk : putS n fw s dst tag sv K) (h : ∀ s, K s → K' s) : putS n fw s dst tag sv K' := by
  unfold putS at hk ⊢
  cases dst with
  | none => exact h _ hk
  | some d =>
    simp only at hk ⊢
    cases h1 : Nat.blt d n <;> simp only [h1, cond_true, cond_false] at hk ⊢
    cases h2 : s.gs.all (fun g => !(Nat.beq g.slot d)) <;> simp only [h2, cond_true, cond_false] at hk ⊢
    cases h3 : memN fw d <;> simp only [h3, cond_true, cond_false] at hk ⊢
    exact h _ hk
/-- What holds all through such a region. -/
def Full (S : World → Prop) (hasS : Bool) (fz : Nat → Bool) (s0 : St) (cw : World) : Prop :=
  (hasS = true → S cw) ∧ ∀ k r, fz k = true → findR s0.rg k = some r → cw.heap[r.blk]? = some (.cells r.cells.toArray r.ty (0, 0))
theorem LdS_sound {t : TypeId} {A : Addr} {g : Option Bool} {K : SV → Prop} (h : LdS P S t A g K) :
    ∃ v, K (.v v) ∧ (g ≠ some false → ∀ w, S w → (loadVar t A).run P w = .ok v w) := by
  have use : ∀ (w : World) (v : Value), LdV P t w A (fun u => u = v) → (loadVar t A).run P w = .ok v w := fun w v hl => by
    obtain ⟨u, hu, rfl⟩ := LdV_sound hl
    exact hu
  have tr : ∀ c : Bool, some c ≠ some false → c = true := fun c hc => by cases c; exact absurd rfl hc; rfl
  unfold LdS at h
  split at h
  · obtain ⟨v, h1, h2⟩ := h
    exact ⟨v, opS_sound h2, fun _ w hw => use w v (h1 w hw)⟩
  · split at h
    · obtain ⟨x, h1, h2⟩ := h
      exact ⟨_, h2, fun hg w hw => use w _ (h1 (tr _ hg) w hw)⟩
    · obtain ⟨x, h1, h2⟩ := h
      exact ⟨_, h2, fun hg w hw => use w _ (h1 (tr _ hg) w hw)⟩
    · obtain ⟨x, h1, h2⟩ := h
      exact ⟨_, opS_sound h2, fun hg w hw => use w _ (h1 (tr _ hg) w hw)⟩
/-- An operation that may be taken first. -/
theorem floatOp_sound {s : St} {w : World} {a : Act} {γ : List GKey} {g : Option Bool} {tag : Option GKey} {o : Oper} {K : St → Prop} {c : Bool} (h : Rel n s w a w)
    (hag : Ag fw (fun k => fs k || fz k) s0 s) (hS : ∀ cw, Full S hasS fz s0 cw → S cw) (ht : tagCond s.gs tag = some c) (hc : c = true → Ctx s.gs γ) (hg : c = true → g ≠ some false)
    (hw : Region.wanted o (yielded ops.toArray a.tmps) = c) (hop : floatOp P n fw fz S hasS md s γ g tag o K) :
    ∃ v, YieldsIf P ops.toArray (Full S hasS fz s0) o v a ∧ ∃ s', Rel n s' w (a.put o.dst v) w ∧ Ag fw (fun k => fs k || fz k) s s' ∧ K s' := by
  have fin : ∀ sv, putS n fw s o.dst tag sv K → (Ctx s.gs γ → g ≠ some false → ∃ x, svVal s.rg sv x ∧ ∀ cw', Full S hasS fz s0 cw' → (execOp a.eval o).run P cw' = .ok (.value x) cw') →
      ∃ v, YieldsIf P ops.toArray (Full S hasS fz s0) o v a ∧ ∃ s', Rel n s' w (a.put o.dst v) w ∧ Ag fw (fun k => fs k || fz k) s s' ∧ K s' := by
    intro sv hk hgv
    cases hcc : c with
    | true =>
      obtain ⟨x, hx, hrun⟩ := hgv (hc hcc) (hg hcc)
      refine ⟨x, .inl ⟨hw.trans hcc, hrun⟩, ?_⟩
      obtain ⟨s', w', q1, q2, q3, q4⟩ := putS_nx (fs := fun k => fs k || fz k) (K := fun s w' => w' = w ∧ K s) h ht (fun _ => hx) (fun hf => by rw [hcc] at hf; cases hf) rfl (w' := w) (putS_mono hk fun _ hk => ⟨rfl, hk⟩)
      subst q3
      exact ⟨s', q1, q2, q4⟩
    | false =>
      refine ⟨undef, .inr ⟨hw.trans hcc, rfl⟩, ?_⟩
      obtain ⟨s', w', q1, q2, q3, q4⟩ := putS_nx (fs := fun k => fs k || fz k) (K := fun s w' => w' = w ∧ K s) (sv := sv) (x := undef) h ht (fun hf => by rw [hcc] at hf; cases hf) (fun _ => rfl) rfl (w' := w) (putS_mono hk fun _ hk => ⟨rfl, hk⟩)
      subst q3
      exact ⟨s', q1, q2, q4⟩
  have core : opCore P fz s γ g o (fun sv => putS n fw s o.dst tag sv K) False →
      ∃ v, YieldsIf P ops.toArray (Full S hasS fz s0) o v a ∧ ∃ s', Rel n s' w (a.put o.dst v) w ∧ Ag fw (fun k => fs k || fz k) s s' ∧ K s' := by
    intro hcore
    rcases opCore_sound h hcore with hf | ⟨sv, hk, hgv⟩
    · exact hf.elim
    · refine fin sv hk fun hcx hgx => ?_
      obtain ⟨x, hx, hrun⟩ := hgv hcx hgx
      refine ⟨x, hx, fun cw' hF => hrun cw' fun k r hk hr => ?_⟩
      have : findR s0.rg k = some r := by rw [← hag.rg k (by simp [hk])]; exact hr
      exact hF.2 k r hk this
  unfold floatOp at hop
  cases hmd : (bif md then !isFloat0 P fz hasS s γ o else false) with
  | true =>
    rw [hmd, cond_true] at hop
    cases hkn : kn s γ o.op.operands.toList with
    | false => rw [hkn, cond_false] at hop; exact hop.elim
    | true =>
      rw [hkn, cond_true] at hop
      split at hop
      · rename_i sm hsm
        have hsel : ∀ cs b, o.op ≠ .select cs b := by
          intro cs b he
          unfold semOf at hsm
          rw [he] at hsm
          cases hsm
        have rdo : ∃ v, putS n fw s o.dst tag (.v v) K ∧ (g ≠ some false → ∀ w, S w → sm.run P w = .ok v w) := by
          unfold RdS at hop
          cases hap : isArrP o with
          | true =>
            rw [hap, cond_true] at hop
            obtain ⟨A, h1, h2⟩ := hop
            exact ⟨_, h2, fun _ w hw => (h1 w hw).out⟩
          | false =>
          rw [hap, cond_false] at hop
          split at hop
          · obtain ⟨v, h1, h2⟩ := hop
            exact ⟨v, opS_sound h2, fun _ w hw => (h1 w hw).out⟩
          · rename_i c'
            obtain ⟨v, h1, h2⟩ := hop
            exact ⟨v, opS_sound h2, fun hgx w hw => (h1 (by cases c'; exact absurd rfl hgx; rfl) w hw).out⟩
        obtain ⟨v, hk, hrun⟩ := rdo
        refine fin (.v v) hk fun hcx hgx => ⟨v, rfl, fun cw' hF => ?_⟩
        rw [operands_eq h hcx hsel hkn, semOf_exec hsm, hrun hgx cw' (hS cw' hF)]
        rfl
      · exact hop.elim
  | false =>
  rw [hmd, cond_false] at hop
  unfold floatOp0 at hop
  split at hop
  · rename_i t x ho
    split at hop
    · rename_i A hx
      obtain ⟨v, hk, hrun⟩ := LdS_sound hop
      refine fin (.v v) hk fun hcx hgx => ⟨v, rfl, fun cw' hF => ?_⟩
      have he : a.eval x = .pointer (some A) := h.evS hcx hx
      simp [execOp, ho, he, Instr.loadAt, Instr.sureAddr, hrun hgx cw' (hS cw' hF)]
    · exact core hop
  · exact core hop
theorem floatStep_sound {s : St} {w : World} {a : Act} {o : Oper} {K : St → Prop} (h : Rel n s w a w)
    (hag : Ag fw (fun k => fs k || fz k) s0 s) (hS : ∀ cw, Full S hasS fz s0 cw → S cw) (hop : floatStep P n ops fw fz S hasS md s o K) :
    ∃ v, YieldsIf P ops.toArray (Full S hasS fz s0) o v a ∧ ∃ s', Rel n s' w (a.put o.dst v) w ∧ Ag fw (fun k => fs k || fz k) s s' ∧ K s' := by
  unfold floatStep at hop
  split at hop
  · rename_i hgd
    exact floatOp_sound (tag := none) (c := true) h hag hS rfl (fun _ => ctx_nil) (fun _ => by simp) (by simp [Region.wanted, hgd]) hop
  · rename_i key hgd
    split at hop
    · rename_i s' g hgo
      obtain ⟨h', hg, hc, hw, hag'⟩ := guardOf_sound (fw := fw) (fs := fun k => fs k || fz k) (o := o) h hgo
      obtain ⟨v, q1, s2, q2, q3, q4⟩ := floatOp_sound (tag := some key) (c := g.cond) h' (hag.trans hag') hS (by simp [tagCond, hg]) hc (fun hcc => by rw [hcc]; simp) (hw hgd) hop
      exact ⟨v, q1, s2, q2, hag'.trans q3, q4⟩
    · exact hop.elim
theorem firstF_spec {s : St} {listed : List Bool} : ∀ {rs : List Nat} {i : Nat} {o : Oper}, firstF P ops fz hasS md s listed rs = some (i, o) →
    i ∈ rs ∧ ops[i]? = some o ∧ floats P ops fz hasS md s o = true ∧ freeL ops listed i = true
  | [], i, o, h => by cases h
  | j :: r, i, o, h => by
    simp only [firstF] at h
    split at h
    · rename_i oj hj
      cases hb : floats P ops fz hasS md s oj && freeL ops listed j with
      | true =>
        simp only [hb, cond_true, Option.some.injEq, Prod.mk.injEq] at h
        obtain ⟨rfl, rfl⟩ := h
        simp only [Bool.and_eq_true] at hb
        exact ⟨List.mem_cons_self, hj, hb.1, hb.2⟩
      | false =>
        simp only [hb, cond_false] at h
        obtain ⟨h1, h2⟩ := firstF_spec h
        exact ⟨List.mem_cons_of_mem _ h1, h2⟩
    · obtain ⟨h1, h2⟩ := firstF_spec h
      exact ⟨List.mem_cons_of_mem _ h1, h2⟩
theorem wpAnyH_true {P : Program} {ops : Array Oper} {Q : Exit → Act → World → Prop} {S : World → Prop} : ∀ {fuel : Nat} {listed : Array Bool} {a : Act} {w : World}, wpAnyH P .any ops Q S fuel listed a w → wpAnyH P .any ops Q (fun _ => True) fuel listed a w
  | 0, _, _, _, h => h
  | fuel + 1, _, _, _, h => ⟨h.1, fun i hi => wpOp_mono (fun _ _ h' => ⟨trivial, wpAnyH_true h'.2⟩) (h.2 i hi)⟩
theorem drawOps_sound (hsel : noSel ops = true) (hS : ∀ cw, Full S hasS fz s0 cw → S cw) (hQ : ∀ a cw, Nx n fw fs s0 K a cw → Q .normal a cw) (hQp : ∀ c a w, ¬ Q (.panic c) a w) :
    ∀ (f : Nat) (listed : List Bool) (s : St) (w : World) (a : Act), Rel n s w a w → Ag fw (fun k => fs k || fz k) s0 s → Full S hasS fz s0 w →
      drawOps P n rk ops fz (fun k => fs k || fz k) fw S hasS md f listed s w K → wpAnyH P .any ops.toArray Q (Full S hasS fz s0) f listed.toArray a w := by
  have agw : ∀ {s : St}, Ag fw (fun k => fs k || fz k) s0 s → Ag fw fs s0 s := fun h => ⟨h.fr, fun k hk => h.rg k (by simp [hk]), h.bk⟩
  intro f
  induction f with
  | zero =>
    intro listed s w a h hag hF hop
    unfold drawOps at hop
    split at hop
    · rename_i hr
      exact ⟨by rw [readyL_eq]; exact hr, hQ _ _ ⟨s, w, h, agw hag, hop⟩⟩
    · exact hop.elim
  | succ f ih =>
    intro listed s w a h hag hF hop
    unfold drawOps at hop
    split at hop
    · rename_i hr
      exact wpAnyH_done (by rw [readyL_eq]; exact hr) (hQ _ _ ⟨s, w, h, agw hag, hop⟩) _
    · rename_i rs hne
      split at hop
      · rename_i i o hf
        obtain ⟨h1, h2, h3, h4⟩ := firstF_spec hf
        obtain ⟨v, hy, s', hR, hA, hk⟩ := floatStep_sound h hag hS hop
        have hi : ops.toArray[i]? = some o := by simpa using h2
        refine wpAnyH_first hi (fun j oj cs b hj => noSel_spec hsel j oj cs b (by simpa using hj)) (fun c a' w' hq => absurd hq (hQp _ _ _)) f _ a w (freeL_spec h2 h4) (by rw [readyL_eq]; exact h1) hy hF ?_
        have := ih (listed.set i true) s' w _ hR (hag.trans hA) hF hk
        simpa using this
      · refine ⟨fun h0 => absurd (by rw [← readyL_eq]; exact h0) hne, fun i hi => ?_⟩
        rw [readyL_eq] at hi
        have hA := allE_mem hop i hi
        split at hA
        · rename_i o ho
          have hi' : ops.toArray[i]? = some o := by simpa using ho
          have next : ∀ a' w', Nx n fw (fun k => fs k || fz k) s (fun s w => sync s w fun s w => match hasS with
            | true => S w ∧ drawOps P n rk ops fz (fun k => fs k || fz k) fw S hasS md f (listed.set i true) s w K
            | false => drawOps P n rk ops fz (fun k => fs k || fz k) fw S hasS md f (listed.set i true) s w K) a' w' →
              Full S hasS fz s0 w' ∧ wpAnyH P .any ops.toArray Q (Full S hasS fz s0) f (listed.toArray.setIfInBounds i true) a' w' := by
            intro a' w' ⟨s1, w1, r1, r2, r3⟩
            obtain ⟨s2, t1, t2, t3, t4, t5⟩ := sync_sound r1 r3
            have hag2 : Ag fw (fun k => fs k || fz k) s0 s2 := hag.trans (r2.trans (Ag.same t3 t5))
            have hregs : ∀ k r, fz k = true → findR s0.rg k = some r → w'.heap[r.blk]? = some (.cells r.cells.toArray r.ty (0, 0)) := fun k r hk hr =>
              t1.reg k r (by rw [hag2.rg k (by simp [hk])]; exact hr)
            cases hh : hasS with
            | true =>
              simp only [hh] at t2
              have hF2 : Full S true fz s0 w' := ⟨fun _ => t2.1, hregs⟩
              refine ⟨hF2, ?_⟩
              have := ih (listed.set i true) s2 w' a' t1 hag2 (by rw [hh]; exact hF2) (by rw [hh]; exact t2.2)
              rw [hh] at this
              simpa using this
            | false =>
              simp only [hh] at t2
              have hF2 : Full S false fz s0 w' := ⟨fun hc => (by cases hc), hregs⟩
              refine ⟨hF2, ?_⟩
              have := ih (listed.set i true) s2 w' a' t1 hag2 (by rw [hh]; exact hF2) (by rw [hh]; exact t2)
              rw [hh] at this
              simpa using this
          have h1 := opStep_sound (Q := Q) h hA
          unfold wpOp
          simp only [hi']
          split
          · rename_i hw
            rw [if_pos hw] at h1
            exact .inl (Oper.wp_mono next h1)
          · rename_i hw
            rw [if_neg hw] at h1
            exact next _ _ h1
        · exact hA.elim
theorem memN_mem {l : List Nat} {d : Nat} (h : memN l d = true) : d ∈ l := by
  obtain ⟨x, h1, h2⟩ := List.any_eq_true.1 h
  rw [Nat.eq_of_beq_eq_true h2]; exact h1
/-- What is listed is closed under what binds. -/
def LClosed (ops : Array Oper) (listed : Array Bool) : Prop :=
  ∀ j oj, ops[j]? = some oj → listed.getD j false = true → ∀ e ∈ oj.after, Region.binds .any e = true → listed.getD e.on false = true
theorem LClosed.set {ops : Array Oper} {listed : Array Bool} {i : Nat} (h : LClosed ops listed) (hi : i ∈ Region.ready .any ops listed) : LClosed ops (listed.setIfInBounds i true) := by
  obtain ⟨_, oi, hoi, hall⟩ := mem_ready.1 hi
  intro j oj hj hl e he hb
  by_cases hij : i = j
  · subst hij
    have : oj = oi := Option.some.inj (hj.symm.trans hoi)
    subst this
    exact getD_set_true (hall e he hb)
  · rw [getD_set_ne false hij] at hl
    exact getD_set_true (h j oj hj hl e he hb)
/-- d comes up behind i alone. -/
def Waits (ops : Array Oper) (i d : Nat) : Prop := ∀ listed, LClosed ops listed → (d ∈ Region.ready .any ops listed ∨ listed.getD d false = true) → listed.getD i false = true
theorem reachL_waits {ops : List Oper} {i : Nat} : ∀ (f d : Nat), reachL ops i f d = true → Waits ops.toArray i d
  | 0, _, h => by cases h
  | f + 1, d, h => by
    unfold reachL at h
    split at h
    · rename_i o ho
      obtain ⟨e, he, h1⟩ := List.any_eq_true.1 h
      simp only [Bool.and_eq_true, Bool.or_eq_true] at h1
      have ho' : ops.toArray[d]? = some o := by simpa using ho
      intro listed hc hd
      have hle : listed.getD e.on false = true := by
        rcases hd with hd | hd
        · obtain ⟨_, o', ho2, hall⟩ := mem_ready.1 hd
          have : o' = o := Option.some.inj (ho2.symm.trans ho')
          subst this
          exact hall e (Array.mem_toList_iff.1 he) h1.1
        · exact hc d o ho' hd e (Array.mem_toList_iff.1 he) h1.1
      rcases h1.2 with h2 | h2
      · rw [← Nat.eq_of_beq_eq_true h2]; exact hle
      · exact reachL_waits f e.on h2 listed hc (.inr hle)
    · cases h
/-- Whatever order is picked from here on, and S holds until one of ds is carried out. -/
def wpAnyD (P : Program) (ops : Array Oper) (Q : Exit → Act → World → Prop) (S : World → Prop) (ds : List Nat) : Nat → Array Bool → Act → World → Prop
  | 0, listed, a, w => Region.ready .any ops listed = [] ∧ Q .normal a w
  | fuel + 1, listed, a, w =>
    (Region.ready .any ops listed = [] → Q .normal a w) ∧
    ∀ i ∈ Region.ready .any ops listed, wpOp P ops Q i (fun a' w' => (memN ds i = true → wpAnyH P .any ops Q (fun _ => True) fuel (listed.setIfInBounds i true) a' w') ∧
      (memN ds i = false → S w' ∧ wpAnyD P ops Q S ds fuel (listed.setIfInBounds i true) a' w')) a w
theorem wpAny_of_D {P : Program} {ops : Array Oper} {Q : Exit → Act → World → Prop} {S : World → Prop} {ds : List Nat} : ∀ (fuel : Nat) (listed : Array Bool) (a : Act) (w : World), wpAnyD P ops Q S ds fuel listed a w → wpAny P .any ops Q fuel listed a w
  | 0, _, _, _, h => h
  | fuel + 1, _, _, _, h => ⟨h.1, fun i hi => wpOp_mono (fun a' w' h' => by
      cases hm : memN ds i with
      | true => exact wpAny_of_held fuel _ a' w' (h'.1 hm)
      | false => exact wpAny_of_D fuel _ a' w' (h'.2 hm).2) (h.2 i hi)⟩
section
variable {P : Program} {ops : Array Oper} {Q : Exit → Act → World → Prop} {S S1 : World → Prop} {ds : List Nat}
/-- Taken first: either whatever the world (S1 always), or where S holds and all of ds wait for it. -/
theorem wpAnyD_first {i : Nat} {oi : Oper} {v : Value} (hi : ops[i]? = some oi) (hsel : ∀ (j : Nat) (o : Oper) cs b, ops[j]? = some o → o.op ≠ .select cs b)
    (hQ : ∀ c a w, Q (.panic c) (a.put oi.dst v) w → Q (.panic c) a w) (him : memN ds i = false) :
    ∀ (fuel : Nat) (listed : Array Bool) (a : Act) (w : World),
      (∀ j oj, ops[j]? = some oj → j ≠ i → listed.getD j true = false → (∀ e ∈ oj.after, Region.binds .any e = true → e.on ≠ i) → oi.apart ops oj = true) →
      LClosed ops listed → ((∀ w, S1 w) ∨ ((∀ w, S w → S1 w) ∧ ∀ d, memN ds d = true → listed.getD d true = false → Waits ops i d)) →
      i ∈ Region.ready .any ops listed → YieldsIf P ops S1 oi v a → S w →
      wpAnyD P ops Q S ds fuel (listed.setIfInBounds i true) (a.put oi.dst v) w → wpAnyD P ops Q S ds (fuel + 1) listed a w := by
  have s1 : ∀ {w : World} {Z : Prop}, ((∀ w, S1 w) ∨ ((∀ w, S w → S1 w) ∧ Z)) → S w → S1 w := fun h hs => h.elim (fun h => h _) (fun h => h.1 _ hs)
  intro fuel
  induction fuel with
  | zero =>
    intro listed a w _ _ hd hr hy hS H
    refine ⟨fun h => (by rw [h] at hr; cases hr), fun j hj => ?_⟩
    by_cases hji : j = i
    · subst hji; exact hy.wpOp hi (s1 hd hS) ⟨fun h => (by rw [him] at h; cases h), fun _ => ⟨hS, H⟩⟩
    · have := ready_mono hj hji
      rw [H.1] at this
      cases this
  | succ fuel ih =>
    intro listed a w hfree hc hd hr hy hS H
    refine ⟨fun h => (by rw [h] at hr; cases hr), fun j hj => ?_⟩
    by_cases hji : j = i
    · subst hji; exact hy.wpOp hi (s1 hd hS) ⟨fun h => (by rw [him] at h; cases h), fun _ => ⟨hS, H⟩⟩
    · have h1 := H.2 j (ready_mono hj hji)
      obtain ⟨hjun, oj, hoj, hall⟩ := mem_ready.1 hj
      have hiun := (mem_ready.1 hr).1
      have hilis : listed.getD i false = true → False := fun h1 => by
        rcases Nat.lt_or_ge i listed.size with h' | h'
        · simp [h'] at hiun h1; rw [hiun] at h1; cases h1
        · simp [Array.getElem?_eq_none h'] at h1
      have hnot : ∀ e ∈ oj.after, Region.binds .any e = true → e.on ≠ i := fun e he hb heq => hilis (by rw [← heq]; exact hall e he hb)
      have h2 := wpOp_putIf hoj (hfree j oj hoj hji hjun hnot) (fun cs b => hsel i oi cs b hi) (fun cs b => hsel j oj cs b hoj) hQ hy h1
      have hfree' : ∀ k ok, ops[k]? = some ok → k ≠ i → (listed.setIfInBounds j true).getD k true = false →
          (∀ e ∈ ok.after, Region.binds .any e = true → e.on ≠ i) → oi.apart ops ok = true := fun k ok hk hki hun hno => by
        refine hfree k ok hk hki ?_ hno
        by_cases hjk : j = k
        · subst hjk; exact hjun
        · rw [getD_set_ne true hjk] at hun; exact hun
      refine wpOp_mono (fun a' w' h3 => ⟨fun hm => ?_, fun hm => ?_⟩) h2
      · rcases hd with hd | hd
        · refine wpAnyH_first (S := fun _ => True) hi hsel hQ fuel (listed.setIfInBounds j true) a' w' hfree' (ready_mono hr (Ne.symm hji)) ?_ trivial ?_
          · rcases h3.1 with h4 | h4
            · exact .inl ⟨h4.1, fun w _ => h4.2 w (hd w)⟩
            · exact .inr h4
          · rw [Array.setIfInBounds_comm _ _ hji]
            exact h3.2.1 hm
        · exact (hilis (hd.2 j hm hjun listed hc (.inl hj))).elim
      · obtain ⟨hS', hw'⟩ := h3.2.2 hm
        have hd' : (∀ w, S1 w) ∨ ((∀ w, S w → S1 w) ∧ ∀ d, memN ds d = true → (listed.setIfInBounds j true).getD d true = false → Waits ops i d) := by
          rcases hd with hd | hd
          · exact .inl hd
          · refine .inr ⟨hd.1, fun d hm' hun => hd.2 d hm' ?_⟩
            by_cases hjk : j = d
            · subst hjk; exact hjun
            · rw [getD_set_ne true hjk] at hun; exact hun
        refine ⟨hS', ih (listed.setIfInBounds j true) a' w' hfree' (hc.set hj) hd' (ready_mono hr (Ne.symm hji)) h3.1 hS' ?_⟩
        rw [Array.setIfInBounds_comm _ _ hji]
        exact hw'
end
theorem drawL_sound {ds : List Nat} (hsel : noSel ops = true) (hQ : ∀ a cw, Nx n fw fs s0 K a cw → Q .normal a cw) (hQp : ∀ c a w, ¬ Q (.panic c) a w) :
    ∀ (f : Nat) (listed : List Bool) (s : St) (w : World) (a : Act), Rel n s w a w → Ag fw (fun k => fs k || fz k) s0 s → Full S true fz s0 w → LClosed ops.toArray listed.toArray →
      drawL P n rk ops fz (fun k => fs k || fz k) fw S ds f listed s w K → wpAnyD P ops.toArray Q (Full S true fz s0) ds f listed.toArray a w := by
  have agw : ∀ {s : St}, Ag fw (fun k => fs k || fz k) s0 s → Ag fw fs s0 s := fun h => ⟨h.fr, fun k hk => h.rg k (by simp [hk]), h.bk⟩
  intro f
  induction f with
  | zero =>
    intro listed s w a h hag hF hcl hop
    unfold drawL at hop
    split at hop
    · rename_i hr
      exact ⟨by rw [readyL_eq]; exact hr, hQ _ _ ⟨s, w, h, agw hag, hop⟩⟩
    · exact hop.elim
  | succ f ih =>
    intro listed s w a h hag hF hcl hop
    unfold drawL at hop
    split at hop
    · rename_i hr
      have hr' : Region.ready .any ops.toArray listed.toArray = [] := by rw [readyL_eq]; exact hr
      exact ⟨fun _ => hQ _ _ ⟨s, w, h, agw hag, hop⟩, by rw [hr']; intro i hi; cases hi⟩
    · rename_i rs hne
      have selA : ∀ (j : Nat) (o : Oper) cs b, ops.toArray[j]? = some o → o.op ≠ .select cs b := fun j oj cs b hj => noSel_spec hsel j oj cs b (by simpa using hj)
      split at hop
      · rename_i i o hf
        obtain ⟨h1, h2, h3, h4⟩ := firstF_spec hf
        obtain ⟨h1, h1'⟩ := List.mem_filter.1 h1
        have hag0 : Ag fw (fun k => (fun k => fs k || fz k) k || (fun _ => false) k) s0 s := ⟨hag.fr, fun k hk => hag.rg k (by simpa using hk), hag.bk⟩
        obtain ⟨v, hy, s', hR, hA, hk⟩ := floatStep_sound (S := fun _ => True) (hasS := false) (fz := fun _ => false) (fs := fun k => fs k || fz k) h hag0 (fun _ _ => trivial) hop
        have hA' : Ag fw (fun k => fs k || fz k) s s' := ⟨hA.fr, fun k hk => hA.rg k (by simpa using hk), hA.bk⟩
        have hi : ops.toArray[i]? = some o := by simpa using h2
        have hir : i ∈ Region.ready .any ops.toArray listed.toArray := by rw [readyL_eq]; exact h1
        refine wpAnyD_first (S1 := Full (fun _ => True) false (fun _ => false) s0) hi selA (fun c a' w' hq => absurd hq (hQp _ _ _)) (by simpa using h1') f _ a w (freeL_spec h2 h4) hcl
          (.inl fun w => ⟨fun hc => (by cases hc), fun k r hc => (by cases hc)⟩) hir hy hF ?_
        have := ih (listed.set i true) s' w _ hR (hag.trans hA') hF (by simpa using hcl.set hir) hk
        simpa using this
      · split at hop
        · rename_i i o hf
          obtain ⟨h1, h2, h3, h4⟩ := firstF_spec hf
          obtain ⟨h1, h1'⟩ := List.mem_filter.1 h1
          obtain ⟨v, hy, s', hR, hA, hk⟩ := floatStep_sound (S := S) (hasS := true) (fz := fz) h hag (fun cw hF => hF.1 rfl) hop
          have hi : ops.toArray[i]? = some o := by simpa using h2
          have hir : i ∈ Region.ready .any ops.toArray listed.toArray := by rw [readyL_eq]; exact h1
          simp only [lastL, Bool.and_eq_true, Bool.not_eq_true'] at h1'
          refine wpAnyD_first (S1 := Full S true fz s0) hi selA (fun c a' w' hq => absurd hq (hQp _ _ _)) h1'.1 f _ a w (freeL_spec h2 h4) hcl
            (.inr ⟨fun _ h => h, fun d hd hun => ?_⟩) hir hy hF ?_
          · have h5 := List.all_eq_true.1 h1'.2 d (memN_mem hd)
            have hl : listed.getD d true = false := by simpa [Array.getD_eq_getD_getElem?, List.getD_eq_getElem?_getD] using hun
            rw [hl, Bool.false_or] at h5
            exact reachL_waits 2 d h5
          · have := ih (listed.set i true) s' w _ hR (hag.trans hA) hF (by simpa using hcl.set hir) hk
            simpa using this
        · refine ⟨fun h0 => absurd (by rw [← readyL_eq]; exact h0) hne, fun i hi => ?_⟩
          have hcl' := hcl.set hi
          rw [readyL_eq] at hi
          have hA := allE_mem hop i hi
          split at hA
          · rename_i o ho
            have hi' : ops.toArray[i]? = some o := by simpa using ho
            have next : ∀ a' w', Nx n fw (fun k => fs k || fz k) s (fun s w => sync s w fun s w => match memN ds i with
              | true => drawOps P n rk ops fz (fun k => fs k || fz k) fw (fun _ => True) false true f (listed.set i true) s w K
              | false => S w ∧ drawL P n rk ops fz (fun k => fs k || fz k) fw S ds f (listed.set i true) s w K) a' w' →
                (memN ds i = true → wpAnyH P .any ops.toArray Q (fun _ => True) f (listed.toArray.setIfInBounds i true) a' w') ∧
                (memN ds i = false → Full S true fz s0 w' ∧ wpAnyD P ops.toArray Q (Full S true fz s0) ds f (listed.toArray.setIfInBounds i true) a' w') := by
              intro a' w' ⟨s1, w1, r1, r2, r3⟩
              obtain ⟨s2, t1, t2, t3, t4, t5⟩ := sync_sound r1 r3
              have hag2 : Ag fw (fun k => fs k || fz k) s0 s2 := hag.trans (r2.trans (Ag.same t3 t5))
              have hregs : ∀ k r, fz k = true → findR s0.rg k = some r → w'.heap[r.blk]? = some (.cells r.cells.toArray r.ty (0, 0)) := fun k r hk hr =>
                t1.reg k r (by rw [hag2.rg k (by simp [hk])]; exact hr)
              refine ⟨fun hm => ?_, fun hm => ?_⟩
              · simp only [hm] at t2
                have := drawOps_sound (s0 := s0) (Q := Q) hsel (fun cw hF => trivial) hQ hQp f (listed.set i true) s2 w' a' t1 hag2 ⟨fun hc => (by cases hc), hregs⟩ t2
                exact wpAnyH_true (by simpa using this)
              · simp only [hm] at t2
                have hF2 : Full S true fz s0 w' := ⟨fun _ => t2.1, hregs⟩
                refine ⟨hF2, ?_⟩
                have := ih (listed.set i true) s2 w' a' t1 hag2 hF2 (by simpa using hcl') t2.2
                simpa using this
            have h1 := opStep_sound (Q := Q) h hA
            unfold wpOp
            simp only [hi']
            split
            · rename_i hw
              rw [if_pos hw] at h1
              exact .inl (Oper.wp_mono next h1)
            · rename_i hw
              rw [if_neg hw] at h1
              exact next _ _ h1
          · exact hA.elim
theorem drawW_sound {s : St} {w cw : World} {a : Act} {id : Nat} (hm : P.follows .mixedOrders = true) (h : Rel n s w a cw) (hQ : ∀ a cw, Nx n fw fs s K a cw → Q .normal a cw)
    (hQp : ∀ c a w, ¬ Q (.panic c) a w) (hop : drawW P n rk id ops fs fw s w K) : (Code.region id ops.toArray true).wp P Q a cw := by
  unfold drawW at hop
  cases hmode3 : memN rk (500000 + id) with
  | true =>
    rw [hmode3, cond_true] at hop
    unfold drawW3 at hop
    obtain ⟨s', h', hop, hfr, hgs, hrg⟩ := sync_sound h hop
    simp only at hop
    cases hsel : noSel ops with
    | false => simp [hsel] at hop
    | true =>
      simp only [hsel, cond_true] at hop
      have hQ' : ∀ a cw, Nx n fw fs s' K a cw → Q .normal a cw := fun a cw hx => hQ a cw (Nx.from (Ag.same hfr hrg) hx)
      have hd : Rel n s' cw.drew a cw.drew := h'.syncd fun _ _ => rfl
      have hlist : (List.replicate ops.length false).toArray = Array.replicate ops.toArray.size false := by simp
      obtain ⟨S, hS0, hop⟩ := hop
      have hcl : LClosed ops.toArray (List.replicate ops.length false).toArray := by
        intro j oj hj hl
        rw [hlist] at hl
        simp at hl
        exfalso
        rcases Nat.lt_or_ge j ops.length with h1 | h1
        · simp [h1] at hl
        · simp [Nat.not_lt.2 h1] at hl
      have := drawL_sound (s0 := s') (Q := Q) hsel hQ' hQp ops.length _ s' cw.drew a hd (Ag.refl _ _ _) ⟨fun _ => hS0, fun k r _ hr => hd.reg k r hr⟩ hcl hop
      rw [hlist] at this
      exact wp_region_any hm (wpAny_of_D _ _ _ _ this)
  | false =>
  rw [hmode3, cond_false] at hop
  cases hmode : memN rk (100000 + id) with
  | true =>
    rw [hmode, cond_true] at hop
    unfold drawW1 at hop
    obtain ⟨s', h', hop, hfr, hgs, hrg⟩ := sync_sound h hop
    simp only at hop
    cases hsel : noSel ops with
    | false => simp [hsel] at hop
    | true =>
      simp only [hsel, cond_true] at hop
      have hQ' : ∀ a cw, Nx n fw fs s' K a cw → Q .normal a cw := fun a cw hx => hQ a cw (Nx.from (Ag.same hfr hrg) hx)
      have hd : Rel n s' cw.drew a cw.drew := h'.syncd fun _ _ => rfl
      have hlist : (List.replicate ops.length false).toArray = Array.replicate ops.toArray.size false := by simp
      obtain ⟨S, hS0, hop⟩ := hop
      have := drawOps_sound (s0 := s') (Q := Q) hsel (fun cw hF => hF.1 rfl) hQ' hQp ops.length _ s' cw.drew a hd (Ag.refl _ _ _) ⟨fun _ => hS0, fun k r _ hr => hd.reg k r hr⟩ hop
      rw [hlist] at this
      exact wp_region_held hm this
  | false =>
  rw [hmode, cond_false] at hop
  cases hmode2 : memN rk (400000 + id) with
  | true =>
    rw [hmode2, cond_true] at hop
    unfold drawW2 at hop
    obtain ⟨s', h', hop, hfr, hgs, hrg⟩ := sync_sound h hop
    simp only at hop
    cases hsel : noSel ops with
    | false => simp [hsel] at hop
    | true =>
      simp only [hsel, cond_true] at hop
      have hQ' : ∀ a cw, Nx n fw fs s' K a cw → Q .normal a cw := fun a cw hx => hQ a cw (Nx.from (Ag.same hfr hrg) hx)
      have hd : Rel n s' cw.drew a cw.drew := h'.syncd fun _ _ => rfl
      have hlist : (List.replicate ops.length false).toArray = Array.replicate ops.toArray.size false := by simp
      have := drawOps_sound (s0 := s') (Q := Q) hsel (fun cw hF => trivial) hQ' hQp ops.length _ s' cw.drew a hd (Ag.refl _ _ _) ⟨fun hf => (by cases hf), fun k r _ hr => hd.reg k r hr⟩ hop
      rw [hlist] at this
      exact wp_region_held hm this
  | false =>
  rw [hmode2, cond_false] at hop
  unfold drawW0 at hop
  obtain ⟨s', h', hop, hfr, hgs, hrg⟩ := sync_sound h hop
  simp only at hop
  cases hsel : noSel ops with
  | false => simp [hsel] at hop
  | true =>
    simp only [hsel, cond_true] at hop
    have hQ' : ∀ a cw, Nx n fw fs s' K a cw → Q .normal a cw := fun a cw hx => hQ a cw (Nx.from (Ag.same hfr hrg) hx)
    have hd : Rel n s' cw.drew a cw.drew := h'.syncd fun _ _ => rfl
    have hlist : (List.replicate ops.length false).toArray = Array.replicate ops.toArray.size false := by simp
    split at hop
    · obtain ⟨S, hS0, hop⟩ := hop
      have := drawOps_sound (s0 := s') (Q := Q) hsel (fun cw hF => hF.1 rfl) hQ' hQp ops.length _ s' cw.drew a hd (Ag.refl _ _ _) ⟨fun _ => hS0, fun k r _ hr => hd.reg k r hr⟩ hop
      rw [hlist] at this
      exact wp_region_held hm this
    · have := drawOps_sound (s0 := s') (Q := Q) hsel (fun cw hF => trivial) hQ' hQp ops.length _ s' cw.drew a hd (Ag.refl _ _ _) ⟨fun hf => (by cases hf), fun k r _ hr => hd.reg k r hr⟩ hop
      rw [hlist] at this
      exact wp_region_held hm this
end
end Fk
