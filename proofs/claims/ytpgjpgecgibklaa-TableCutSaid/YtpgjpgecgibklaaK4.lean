/- A generator of conditions, part 4: operations that turn memory, calls. -/
import Derived.Test.YtpgjpgecgibklaaK3
set_option linter.unusedVariables false
set_option linter.unusedSimpArgs false
namespace Fk
open Go Go.RowKit

def eqS (op : BinOp) (t : TypeId) (x y : Operand) (a b : Value) : Sem Value := do eqGuard op t x y a b; binOp op t a b
def bsem (b : Builtin) (ts : Array TypeId) (ty : TypeId) (args : Array Value) : Option (Sem Value) := match b with
  | .append => some (Builtin.append_ ts ty args)
  | .clear => some (Builtin.clear_ ts ty args)
  | .copy => some (Builtin.copy_ ts ty args)
  | .delete => some (Builtin.delete_ ts ty args)
  | .len => some (Builtin.len_ ts ty args)
  | .max => some (Builtin.max_ ts ty args)
  | .min => some (Builtin.min_ ts ty args)
  | .unsafeSliceData => some (Builtin.unsafeSliceData_ ts ty args)
  | .unsafeString => some (Builtin.unsafeString_ ts ty args)
  | _ => none
def vals (ρ : Operand → Value) (l : Array Operand) : List Value := l.toList.map ρ
def om (ρ : Operand → Value) (o : Option Operand) : Option Value := match o with | some x => some (ρ x) | none => none
def semOf (ρ : Operand → Value) (o : Oper) : Option (Sem Value) := match o.op with
  | .binOp op t x y _ => some (eqS op t x y (ρ x) (ρ y))
  | .convert s d x => some (convert s d (ρ x))
  | .build t ps => some (Instr.build t (pm ρ ps).toArray)
  | .buildSlice t n ps => some (Instr.buildSlice t n (pm ρ ps).toArray)
  | .makeSlice t l c => some (Instr.makeSlice t (ρ l) (ρ c))
  | .slice t x lo hi mx => some (Instr.sliceAt t (ρ x) (om ρ lo) (om ρ hi) (om ρ mx))
  | .index t x i => some (Instr.index t (ρ x) (ρ i))
  | .lookup t x i ok => some (Instr.lookup t (ρ x) (ρ i) ok)
  | .sliceToArrayPointer t x => some (Instr.arrayAt t (ρ x))
  | .panic x => some (Instr.panic (ρ x))
  | .makeInterface t x => some (Instr.makeInterface t (ρ x))
  | .call { callee := .builtin b, args, argTypes } => bsem b argTypes o.type (vals ρ args).toArray
  | _ => none
theorem pm_eq (ρ : Operand → Value) (ps : Array (Nat × Operand)) : (ps.map fun (i, x) => (i, ρ x)) = (pm ρ ps).toArray := by
  apply Array.toList_inj.1
  simp [pm]
theorem semOf_exec {ρ : Operand → Value} {o : Oper} {sm : Sem Value} (h : semOf ρ o = some sm) (P : Program) (w : World) :
    (execOp ρ o).run P w = (sm.run P w).andThen fun v w' => .ok (.value v) w' := by
  unfold semOf at h
  split at h
  case h_1 op t x y _ ho => simp only [Option.some.injEq] at h; subst h; simp only [execOp, ho, eqS, Sem.run_bind]; cases (eqGuard op t x y (ρ x) (ρ y)).run P w <;> simp
  case h_4 t n ps ho => simp only [Option.some.injEq] at h; subst h; simp [execOp, ho, pm_eq]
  case h_3 t ps ho => simp only [Option.some.injEq] at h; subst h; simp [execOp, ho, pm_eq]
  case h_6 t x lo hi mx ho =>
    simp only [Option.some.injEq] at h
    subst h
    have e : ∀ q : Option Operand, q.map ρ = om ρ q := fun q => by cases q <;> rfl
    simp [execOp, ho, e]
  case h_12 b args ts ho =>
    have e : args.map ρ = (vals ρ args).toArray := by apply Array.toList_inj.1; simp [vals]
    cases b <;> simp only [bsem, Option.some.injEq] at h <;> first | (cases h; done) | (subst h; simp [execOp, ho, resolve, invoke, builtin, e])
  case h_13 => cases h
  all_goals (rename_i ho; simp only [Option.some.injEq] at h; subst h; simp [execOp, ho, eqS])

/-- A literal row whose elements stand in order. -/
def seqIdx : Nat → List (Nat × Value) → Bool
  | _, [] => true
  | i, p :: l => bif Nat.beq p.1 i then seqIdx (i + 1) l else false
def sizesOk (sz : Nat) : List (Nat × Value) → Bool
  | [] => true
  | p :: l => bif Nat.beq p.2.cells.size sz then sizesOk sz l else false
def flat : List (Nat × Value) → List Value
  | [] => []
  | p :: l => cL p.2 ++ flat l
def elemT (P : Program) (t : TypeId) : Option TypeId := match P.underlying t with | some (.slice e) => some e | _ => none
def rowPre (P : Program) (t : TypeId) (n : Nat) (ps : List (Nat × Value)) : Option (TypeId × Nat) := match elemT P t with
  | some e => match szOf P e with
    | some sz => bif seqIdx 0 ps && Nat.beq ps.length n && hasZero P e && Nat.ble (n * sz) 16777216 then some (e, sz) else none
    | none => none
  | none => none
def SzAll (sz : Nat) : List (Nat × Value) → Prop → Prop
  | [], Q => Q
  | p :: l, Q => SzIs (cL p.2).length sz (SzAll sz l Q)
theorem SzAll_out {sz : Nat} : ∀ {ps : List (Nat × Value)} {Q : Prop}, SzAll sz ps Q → sizesOk sz ps = true ∧ Q
  | [], _, h => ⟨rfl, h⟩
  | p :: l, Q, h => by
    simp only [SzAll] at h
    obtain ⟨h1, h2⟩ := SzIs_out h
    obtain ⟨h3, h4⟩ := SzAll_out h2
    refine ⟨?_, h4⟩
    simp only [sizesOk]
    have : Nat.beq p.2.cells.size sz = true := Nat.beq_eq.mpr (by simpa [cL] using h1)
    rw [this]
    exact h3
def rowLit (P : Program) (t : TypeId) (n : Nat) (ps : List (Nat × Value)) : Option (TypeId × List Value) := match elemT P t with
  | some e => match szOf P e with
    | some sz => bif seqIdx 0 ps && Nat.beq ps.length n && sizesOk sz ps && hasZero P e && Nat.ble (n * sz) 16777216 then some (e, flat ps) else none
    | none => none
  | none => none

/-- An operation that gives a value, in a world that is told. -/
def effVal (P : Program) (L : List Nat) (s : St) (γ : List GKey) (o : Oper) (KV : Value → World → Prop) (w : World) : Prop := match o.op with
  | .load t x => match evV s γ x with | some (.pointer (some A)) => LdV P t w A (fun v => KV v w) | _ => False
  | .alloc t => bif hasZero P t then Nw (.cells (zeroL P t).toArray t) w (fun b w' => KV (.pointer (some ⟨b, 0, none⟩)) w') else False
  | .box t x => match evV s γ x with | some v => Nw (.cells (cL v).toArray t) w (fun b w' => KV (.pointer (some ⟨b, 0, none⟩)) w') | none => False
  | .makeMap t none => Nw (.map #[] 0) w (fun b w' => KV (.map (some b)) w')
  | .call { callee := .value f, args, .. } => bif kn s γ args.toList then
      (match evV s γ f with | some (.func (.func k) first cap) => CallW P L k (first.toList ++ vals (rho s γ) args ++ cap.toList).toArray KV w | _ => False) else False
  | .buildSlice t n ps => bif kn s γ o.op.operands.toList then
      (match rowPre P t n (pm (rho s γ) ps) with
        | some (e, sz) => SzAll sz (pm (rho s γ) ps) (Nw (.cells (flat (pm (rho s γ) ps)).toArray e) w (fun b w' => KV (.slice (some ⟨b, 0, none⟩) n n) w'))
        | none => False) else False
  | _ => bif kn s γ o.op.operands.toList then (match semOf (rho s γ) o with | some sm => RunW P L sm KV w | none => False) else False

theorem fill_seq (sz : Nat) : ∀ (ps : List (Nat × Value)) (i : Nat) (done rest : List Value), seqIdx i ps = true → sizesOk sz ps = true → done.length = i * sz → rest.length = ps.length * sz →
    Instr.fill (fun i => some (i * sz, sz)) (done ++ rest).toArray ps = some (done ++ flat ps).toArray
  | [], i, done, rest, _, _, _, hr => by
    have : rest = [] := List.eq_nil_of_length_eq_zero (by simpa using hr)
    simp [Instr.fill, flat, this]
  | p :: l, i, done, rest, h1, h2, hd, hr => by
    obtain ⟨pi, pv⟩ := p
    simp only [seqIdx] at h1
    simp only [sizesOk] at h2
    cases hb : Nat.beq pi i with
    | false => simp [hb] at h1
    | true =>
      have hpi := Nat.eq_of_beq_eq_true hb
      subst hpi
      simp only [hb, cond_true] at h1
      cases hb2 : Nat.beq pv.cells.size sz with
      | false => simp [hb2] at h2
      | true =>
        have hsz := Nat.eq_of_beq_eq_true hb2
        simp only [hb2, cond_true] at h2
        simp only [List.length_cons, Nat.add_mul, Nat.one_mul] at hr
        have hlen : ¬(pv.cells.size ≠ sz ∨ pi * sz + pv.cells.size > (done ++ rest).toArray.size) := by
          simp only [List.size_toArray, List.length_append]
          omega
        have hcells : (pv.cells.zipIdx.foldl (fun cs (c, j) => cs.setIfInBounds (pi * sz + j) c) (done ++ rest).toArray) = (done ++ cL pv ++ rest.drop sz).toArray := by
          have gen : ∀ (vs : List Value) (k : Nat) (pre post : List Value), pre.length = pi * sz + k → vs.length ≤ post.length →
              (vs.zipIdx k).foldl (fun cs (c, j) => cs.setIfInBounds (pi * sz + j) c) (pre ++ post).toArray = (pre ++ vs ++ post.drop vs.length).toArray := by
            intro vs
            induction vs with
            | nil => intro k pre post _ _; simp
            | cons v vs ih =>
              intro k pre post hp hl
              cases post with
              | nil => simp at hl
              | cons q post =>
                simp only [List.zipIdx_cons, List.foldl_cons]
                have e : ((pre ++ q :: post).toArray.setIfInBounds (pi * sz + k) v) = ((pre ++ [v]) ++ post).toArray := by
                  simp [← hp]
                rw [e, ih (k + 1) (pre ++ [v]) post (by simp [hp]; omega) (by simpa using hl)]
                simp
          have := gen pv.cells.toList 0 done rest (by simp [hd]) (by simp [hsz]; omega)
          rw [← Array.foldl_toList, Array.toList_zipIdx]
          rw [this]
          simp [cL, hsz]
        simp only [Instr.fill]
        rw [if_neg (by simpa using hlen)]
        rw [hcells]
        have := fill_seq sz l (pi + 1) (done ++ cL pv) (rest.drop sz) h1 h2 (by simp [cL, hd, hsz, Nat.add_mul]) (by simp; omega)
        rw [this]
        simp [flat]
theorem rowLit_run {P : Program} {t : TypeId} {n : Nat} {ps : List (Nat × Value)} {e : TypeId} {cs : List Value} (h : rowLit P t n ps = some (e, cs)) (w : World) :
    (Instr.buildSlice t n ps.toArray).run P w = .ok (.slice (some ⟨w.heap.size, 0, none⟩) n n) (w.alloc (.cells cs.toArray e)) := by
  unfold rowLit at h
  split at h
  · rename_i e' he
    unfold elemT at he
    split at he
    · rename_i e'' hu
      simp only [Option.some.injEq] at he
      subst he
      split at h
      · rename_i sz hsz
        cases hb : seqIdx 0 ps && Nat.beq ps.length n && sizesOk sz ps && hasZero P e'' && Nat.ble (n * sz) 16777216 with
        | false => simp [hb] at h
        | true =>
          simp only [hb, cond_true, Option.some.injEq, Prod.mk.injEq] at h
          obtain ⟨rfl, rfl⟩ := h
          simp only [Bool.and_eq_true] at hb
          obtain ⟨⟨⟨⟨h1, h2⟩, h3⟩, h4⟩, h5⟩ := hb
          have hl := Nat.eq_of_beq_eq_true h2
          have h5 := Nat.le_of_ble_eq_true h5
          have hz : ∃ z, P.info? e'' = some z ∧ ∃ v, z.zero = some v := by
            unfold hasZero at h4
            cases hi : P.info? e'' with
            | none => simp [hi] at h4
            | some z => simp [hi] at h4; exact ⟨z, rfl, Option.isSome_iff_exists.1 h4⟩
          obtain ⟨z, hi, v, hv⟩ := hz
          have hzero : (zeroValue e'').run P w = .ok v w := by simp [zeroValue, typeInfo, hi, hv]
          simp only [Instr.buildSlice, Sem.run_bind, run_underlying hu, Result.andThen_ok, run_size hsz]
          rw [if_neg (by simp; omega)]
          have fin : ∀ (zs : Array Value), (Instr.fill (fun i => some (i * sz, sz)) ((Array.range (n * sz)).map (fun x => zs[x % zs.size]!)) ps) = some (flat ps).toArray := by
            intro zs
            have := fill_seq sz ps 0 [] ((Array.range (n * sz)).map (fun x => zs[x % zs.size]!)).toList h1 h3 (by simp) (by simp [hl])
            rw [List.nil_append, List.nil_append, Array.toArray_toList] at this
            exact this
          by_cases h0 : n * sz = 0
          · simp only [h0, if_true]
            have := fin #[]
            rw [h0] at this
            simp only [Sem.run_pure, Sem.run_bind, Result.andThen_ok]
            simp only [this]
            simp [newRow, newObj, Sem.run]
          · simp only [h0, if_false]
            simp only [Sem.run_pure, Sem.run_bind, hzero, Result.andThen_ok]
            have := fin v.cells
            simp [hzero, this, newRow, newObj, Sem.run]
      · cases h
    · cases he
  · cases h

section
variable {P : Program} {n : Nat} {s : St} {w : World} {a : Act} {γ : List GKey} {o : Oper} {KV : Value → World → Prop} {Q : Exit → Act → World → Prop}
/-- What follows such an operation. -/
def Aft (P : Program) (s : St) (w : World) (a : Act) (o : Oper) (KV : Value → World → Prop) (a' : Act) (w' : World) : Prop :=
  ∃ v, a' = a.put o.dst v ∧ (∀ b ∈ regIds s.rg, w'.heap[b]? = w.heap[b]?) ∧ KV v w'
theorem new_run (c : Array Value) (t : TypeId) : (newRow t c).run P w = .ok ⟨w.heap.size, 0, none⟩ (w.alloc (.cells c t)) := by
  simp [newRow, newObj, Sem.run]
theorem kept_alloc (h : Rel n s w a w) (ob : Obj) : ∀ b ∈ regIds s.rg, (w.alloc ob).heap[b]? = w.heap[b]? := by
  intro b hb
  simp only [regIds, List.mem_map] at hb
  obtain ⟨r, hr, rfl⟩ := hb
  exact Below.heap_alloc w ob _ (Array.getElem?_eq_some_iff.1 (h.reg r.key r (findR_of_mem h.wfr hr))).1
theorem runW_sound {sm : Sem Value} (he : ∀ w, (execOp a.eval o).run P w = (sm.run P w).andThen fun v w' => .ok (.value v) w') (h : RunW P (regIds s.rg) sm KV w) :
    o.wp P a w (Aft P s w a o KV) Q := by
  replace h := h.out
  unfold Oper.wp
  rw [he]
  split at h
  · rename_i v w' hr
    rw [hr]
    exact ⟨v, rfl, h.1, h.2⟩
  · exact h.elim
theorem effVal_sound (h : Rel n s w a w) (hc : Ctx s.gs γ) (hop : effVal P (regIds s.rg) s γ o KV w) : o.wp P a w (Aft P s w a o KV) Q := by
  have refl : ∀ b ∈ regIds s.rg, w.heap[b]? = w.heap[b]? := fun _ _ => rfl
  unfold effVal at hop
  split at hop
  case h_1 t x ho =>
    split at hop
    · rename_i A hx
      obtain ⟨v, hr, hk⟩ := LdV_sound hop
      unfold Oper.wp
      have : (execOp a.eval o).run P w = .ok (.value v) w := by
        simp [execOp, ho, h.evV hc hx, Instr.loadAt, Instr.sureAddr, hr]
      rw [this]
      exact ⟨v, rfl, refl, hk⟩
    · exact hop.elim
  case h_2 t ho =>
    cases hz : hasZero P t with
    | false => simp [hz] at hop
    | true =>
      simp only [hz, cond_true] at hop
      have hop := hop _ _ rfl rfl
      unfold Oper.wp
      have : (execOp a.eval o).run P w = .ok (.value (.pointer (some ⟨w.heap.size, 0, none⟩))) (w.alloc (.cells (zeroL P t).toArray t)) := by
        unfold hasZero at hz
        cases hi : P.info? t with
        | none => simp [hi] at hz
        | some z =>
          simp [hi] at hz
          obtain ⟨v, hv⟩ := Option.isSome_iff_exists.1 hz
          simp [execOp, ho, Instr.alloc, zeroValue, typeInfo, hi, hv, newVar, new_run, zeroL]
      rw [this]
      exact ⟨_, rfl, kept_alloc h _, hop⟩
  case h_3 t x ho =>
    split at hop
    · rename_i v hx
      have hop := hop _ _ rfl rfl
      unfold Oper.wp
      have : (execOp a.eval o).run P w = .ok (.value (.pointer (some ⟨w.heap.size, 0, none⟩))) (w.alloc (.cells (cL v).toArray t)) := by
        simp [execOp, ho, h.evV hc hx, Instr.box, newVar, new_run, cL]
      rw [this]
      exact ⟨_, rfl, kept_alloc h _, hop⟩
    · exact hop.elim
  case h_4 t ho =>
    have hop := hop _ _ rfl rfl
    unfold Oper.wp
    have : (execOp a.eval o).run P w = .ok (.value (.map (some w.heap.size))) (w.alloc (.map #[] 0)) := by
      simp [execOp, ho, Instr.makeMap, newObj, Sem.run]
    rw [this]
    exact ⟨_, rfl, kept_alloc h _, hop⟩
  case h_5 f args ts ho =>
    cases hk : kn s γ args.toList with
    | false => simp [hk] at hop
    | true =>
      simp only [hk, cond_true] at hop
      split at hop
      · rename_i k first cap hf
        obtain ⟨hg, hcall⟩ := hop
        have hargs : args.map a.eval = (vals (rho s γ) args).toArray := by
          apply Array.toList_inj.1
          simp only [vals, Array.toList_map, List.toList_toArray]
          exact List.map_congr_left fun x hx => (h.rho hc _ hk x hx).symm
        unfold goodFn at hg
        cases hfn : P.funcs[k]? with
        | none => simp [hfn] at hg
        | some fn =>
          simp only [hfn, Bool.and_eq_true, Bool.not_eq_true'] at hg
          obtain ⟨hg1, hg2⟩ := hg
          have hnone : fn.body.isNone = false := by cases hb : fn.body <;> simp [hb] at hg2 ⊢
          unfold Oper.wp
          have e : first ++ (vals (rho s γ) args).toArray ++ cap = (first.toList ++ vals (rho s γ) args ++ cap.toList).toArray := by
            apply Array.toList_inj.1
            simp
          have : (execOp a.eval o).run P w = .ok (.enter k (first.toList ++ vals (rho s γ) args ++ cap.toList).toArray) w := by
            have hnm : (fn.name = "runtime.NumGoroutine") = False := by
              simpa using hg1
            simp only [execOp, ho, resolve, h.evV hc hf, Deferred.ofValue, Sem.run_bind, Sem.run_pure, Result.andThen_ok, invoke, hargs, callFunc]
            have hnn : fn.body ≠ none := fun e => by simp [e] at hg2
            rw [← e]
            simp [program, Sem.run, hfn, hnn, hg1, hnm]
          rw [this]
          rw [Oper.upon_enter]
          refine Calls.mono hcall fun e' w' he' => ?_
          cases e' with
          | returned v => exact ⟨v, rfl, he'.1, he'.2⟩
          | panicked c => exact he'.elim
          | outgrown => exact he'.elim
      · exact hop.elim
  case h_6 t m ps ho =>
    cases hk : kn s γ o.op.operands.toList with
    | false => simp [hk] at hop
    | true =>
      simp only [hk, cond_true] at hop
      have he : execOp a.eval o = execOp (rho s γ) o := operands_eq h hc (by simp [ho]) hk
      split at hop
      · rename_i e sz hrow
        obtain ⟨hsz, hop⟩ := SzAll_out hop
        have hrow' : rowLit P t m (pm (rho s γ) ps) = some (e, flat (pm (rho s γ) ps)) := by
          unfold rowPre at hrow
          unfold rowLit
          split at hrow
          · split at hrow
            · rename_i e' _ _ sz' hsz'
              cases hb : seqIdx 0 (pm (rho s γ) ps) && Nat.beq (pm (rho s γ) ps).length m && hasZero P e' && Nat.ble (m * sz') 16777216 with
              | false => rw [hb] at hrow; cases hrow
              | true =>
                rw [hb] at hrow
                simp only [cond_true, Option.some.injEq, Prod.mk.injEq] at hrow
                obtain ⟨rfl, rfl⟩ := hrow
                simp only [Bool.and_eq_true] at hb
                obtain ⟨⟨⟨h1, h2⟩, h3⟩, h4⟩ := hb
                simp only [hsz', h1, h2, h3, h4, hsz, Bool.and_self, cond_true]
            · cases hrow
          · cases hrow
        have hop := hop _ _ rfl rfl
        unfold Oper.wp
        have : (execOp a.eval o).run P w = .ok (.value (.slice (some ⟨w.heap.size, 0, none⟩) m m)) (w.alloc (.cells (flat (pm (rho s γ) ps)).toArray e)) := by
          rw [he]
          simp [execOp, ho, pm_eq, rowLit_run hrow']
        rw [this]
        exact ⟨_, rfl, kept_alloc h _, hop⟩
      · exact hop.elim
  case h_7 =>
    cases hk : kn s γ o.op.operands.toList with
    | false => simp [hk] at hop
    | true =>
      simp only [hk, cond_true] at hop
      split at hop
      · rename_i sm hsm
        have hsel : ∀ cs b, o.op ≠ .select cs b := fun cs b e => by simp [semOf, e] at hsm
        have he : execOp a.eval o = execOp (rho s γ) o := operands_eq h hc hsel hk
        exact runW_sound (fun w' => by rw [he]; exact semOf_exec hsm P w') hop
      · exact hop.elim
end
end Fk
