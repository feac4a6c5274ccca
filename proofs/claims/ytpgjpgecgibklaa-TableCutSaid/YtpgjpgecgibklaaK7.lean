/- A generator of conditions, part 7: regions that draw: soundness. -/
import Derived.Test.YtpgjpgecgibklaaK6
set_option linter.unusedVariables false
set_option linter.unusedSimpArgs false
namespace Fk
open Go Go.RowKit

theorem readyL_eq (ops : List Oper) (listed : List Bool) : Region.ready .any ops.toArray listed.toArray = readyL ops listed := by
  unfold Region.ready readyL
  simp only [List.size_toArray]
  congr 1
  funext i
  congr 1
  · simp [Array.getD_eq_getD_getElem?, List.getD_eq_getElem?_getD]
  · cases hi : ops[i]? with
    | none => simp [hi]
    | some o =>
      simp only [List.getElem?_toArray, hi, Option.map_some, Option.getD_some]
      rw [Array.all_toList]
      congr 1
      funext e
      simp [bindsE, Array.getD_eq_getD_getElem?, List.getD_eq_getElem?_getD]
theorem freeL_spec {ops : List Oper} {listed : List Bool} {i : Nat} {oi : Oper} (hi : ops[i]? = some oi) (h : freeL ops listed i = true) (j : Nat) (oj : Oper)
    (hj : ops.toArray[j]? = some oj) (hne : j ≠ i) (hun : listed.toArray.getD j true = false) (hno : ∀ e ∈ oj.after, Region.binds .any e = true → e.on ≠ i) : oi.apart ops.toArray oj = true := by
  simp only [freeL, hi, List.all_eq_true, List.mem_range] at h
  simp only [List.getElem?_toArray] at hj
  have h1 := h j (List.getElem?_eq_some_iff.1 hj).1
  have hl : listed.getD j true = false := by simpa [Array.getD_eq_getD_getElem?, List.getD_eq_getElem?_getD] using hun
  have hb : Nat.beq j i = false := by
    cases hb : Nat.beq j i with
    | false => rfl
    | true => exact absurd (Nat.eq_of_beq_eq_true hb) hne
  simp only [hj, hl, hb, Bool.false_or, Bool.or_eq_true] at h1
  rcases h1 with h1 | h1
  · exfalso
    obtain ⟨e, he, hee⟩ := List.any_eq_true.1 h1
    simp only [Bool.and_eq_true] at hee
    exact hno e (Array.mem_toList_iff.1 he) hee.1 (Nat.eq_of_beq_eq_true hee.2)
  · exact h1
theorem noSel_spec : ∀ {ops : List Oper}, noSel ops = true → ∀ (j : Nat) (o : Oper) cs b, ops[j]? = some o → o.op ≠ .select cs b
  | [], _, j, o, cs, b, h => by simp at h
  | x :: r, hn, j, o, cs, b, h => by
    intro he
    have hmem : o ∈ x :: r := List.mem_of_getElem? h
    have gen : ∀ (l : List Oper), noSel l = true → ∀ o ∈ l, o.op ≠ .select cs b := by
      intro l
      induction l with
      | nil => intro _ o ho; cases ho
      | cons y l ih =>
        intro hn o ho he
        unfold noSel at hn
        split at hn
        · cases hn
        · rename_i hy
          cases ho with
          | head => exact hy _ _ he
          | tail _ ho => exact ih hn o ho he
    exact gen _ hn o hmem he
theorem allE_mem {A : Nat → Prop} : ∀ {l : List Nat}, allE A l → ∀ i ∈ l, A i
  | [], _, i, hi => by cases hi
  | [x], h, i, hi => by
    cases hi with
    | head => exact h
    | tail _ hi => cases hi
  | x :: y :: r, h, i, hi => by
    cases hi with
    | head => exact h.1
    | tail _ hi => exact allE_mem h.2 i hi

section
variable {P : Program} {n : Nat} {rk : List Nat} {ops : List Oper} {fz fs : Nat → Bool} {fw : List Nat} {S : World → Prop} {hasS : Bool} {K : St → World → Prop} {Q : Exit → Act → World → Prop} {s0 : St}
theorem putS_mono {n : Nat} {fw : List Nat} {s : St} {dst : Option Tmp} {tag : Option GKey} {sv : SV} {K K' : St → Prop} (hk : putS n fw s dst tag sv K) (h : ∀ s, K s → K' s) : putS n fw s dst tag sv K' := by
  unfold putS at hk ⊢
  cases dst with
  | none => exact h _ hk
  | some d =>
    simp only at hk ⊢
    cases h1 : Nat.blt d n <;> simp only [h1, cond_true, cond_false] at hk ⊢
    cases h2 : s.gs.all (fun g => !(Nat.beq g.slot d)) <;> simp only [h2, cond_true, cond_false] at hk ⊢
    cases h3 : memN fw d <;> simp only [h3, cond_true, cond_false] at hk ⊢
    exact h _ hk
/-- What holds all through such a region. -/
def Full (S : World → Prop) (hasS : Bool) (fz : Nat → Bool) (s0 : St) (cw : World) : Prop :=
  (hasS = true → S cw) ∧ ∀ k r, fz k = true → findR s0.rg k = some r → cw.heap[r.blk]? = some (.cells r.cells.toArray r.ty (0, 0))
theorem LdS_sound {t : TypeId} {A : Addr} {g : Option Bool} {K : SV → Prop} (h : LdS P S t A g K) :
    ∃ v, K (.v v) ∧ (g ≠ some false → ∀ w, S w → (loadVar t A).run P w = .ok v w) := by
  have use : ∀ (w : World) (v : Value), LdV P t w A (fun u => u = v) → (loadVar t A).run P w = .ok v w := fun w v hl => by
    obtain ⟨u, hu, rfl⟩ := LdV_sound hl
    exact hu
  have tr : ∀ c : Bool, some c ≠ some false → c = true := fun c hc => by cases c; exact absurd rfl hc; rfl
  unfold LdS at h
  split at h
  · obtain ⟨v, h1, h2⟩ := h
    exact ⟨v, opS_sound h2, fun _ w hw => use w v (h1 w hw)⟩
  · split at h
    · obtain ⟨x, h1, h2⟩ := h
      exact ⟨_, h2, fun hg w hw => use w _ (h1 (tr _ hg) w hw)⟩
    · obtain ⟨x, h1, h2⟩ := h
      exact ⟨_, h2, fun hg w hw => use w _ (h1 (tr _ hg) w hw)⟩
    · obtain ⟨x, h1, h2⟩ := h
      exact ⟨_, opS_sound h2, fun hg w hw => use w _ (h1 (tr _ hg) w hw)⟩
/-- An operation that may be taken first. -/
theorem floatOp_sound {s : St} {w : World} {a : Act} {γ : List GKey} {g : Option Bool} {tag : Option GKey} {o : Oper} {K : St → Prop} {c : Bool} (h : Rel n s w a w)
    (hag : Ag fw (fun k => fs k || fz k) s0 s) (hS : ∀ cw, Full S hasS fz s0 cw → S cw) (ht : tagCond s.gs tag = some c) (hc : c = true → Ctx s.gs γ) (hg : c = true → g ≠ some false)
    (hw : Region.wanted o (yielded ops.toArray a.tmps) = c) (hop : floatOp P n fw fz S s γ g tag o K) :
    ∃ v, YieldsIf P ops.toArray (Full S hasS fz s0) o v a ∧ ∃ s', Rel n s' w (a.put o.dst v) w ∧ Ag fw (fun k => fs k || fz k) s s' ∧ K s' := by
  have fin : ∀ sv, putS n fw s o.dst tag sv K → (Ctx s.gs γ → g ≠ some false → ∃ x, svVal s.rg sv x ∧ ∀ cw', Full S hasS fz s0 cw' → (execOp a.eval o).run P cw' = .ok (.value x) cw') →
      ∃ v, YieldsIf P ops.toArray (Full S hasS fz s0) o v a ∧ ∃ s', Rel n s' w (a.put o.dst v) w ∧ Ag fw (fun k => fs k || fz k) s s' ∧ K s' := by
    intro sv hk hgv
    cases hcc : c with
    | true =>
      obtain ⟨x, hx, hrun⟩ := hgv (hc hcc) (hg hcc)
      refine ⟨x, .inl ⟨hw.trans hcc, hrun⟩, ?_⟩
      obtain ⟨s', w', q1, q2, q3, q4⟩ := putS_nx (fs := fun k => fs k || fz k) (K := fun s w' => w' = w ∧ K s) h ht (fun _ => hx) (fun hf => by rw [hcc] at hf; cases hf) rfl (w' := w) (putS_mono hk fun _ hk => ⟨rfl, hk⟩)
      subst q3
      exact ⟨s', q1, q2, q4⟩
    | false =>
      refine ⟨undef, .inr ⟨hw.trans hcc, rfl⟩, ?_⟩
      obtain ⟨s', w', q1, q2, q3, q4⟩ := putS_nx (fs := fun k => fs k || fz k) (K := fun s w' => w' = w ∧ K s) (sv := sv) (x := undef) h ht (fun hf => by rw [hcc] at hf; cases hf) (fun _ => rfl) rfl (w' := w) (putS_mono hk fun _ hk => ⟨rfl, hk⟩)
      subst q3
      exact ⟨s', q1, q2, q4⟩
  have core : opCore P fz s γ g o (fun sv => putS n fw s o.dst tag sv K) False →
      ∃ v, YieldsIf P ops.toArray (Full S hasS fz s0) o v a ∧ ∃ s', Rel n s' w (a.put o.dst v) w ∧ Ag fw (fun k => fs k || fz k) s s' ∧ K s' := by
    intro hcore
    rcases opCore_sound h hcore with hf | ⟨sv, hk, hgv⟩
    · exact hf.elim
    · refine fin sv hk fun hcx hgx => ?_
      obtain ⟨x, hx, hrun⟩ := hgv hcx hgx
      refine ⟨x, hx, fun cw' hF => hrun cw' fun k r hk hr => ?_⟩
      have : findR s0.rg k = some r := by rw [← hag.rg k (by simp [hk])]; exact hr
      exact hF.2 k r hk this
  unfold floatOp at hop
  split at hop
  · rename_i t x ho
    split at hop
    · rename_i A hx
      obtain ⟨v, hk, hrun⟩ := LdS_sound hop
      refine fin (.v v) hk fun hcx hgx => ⟨v, rfl, fun cw' hF => ?_⟩
      have he : a.eval x = .pointer (some A) := h.evS hcx hx
      simp [execOp, ho, he, Instr.loadAt, Instr.sureAddr, hrun hgx cw' (hS cw' hF)]
    · exact core hop
  · exact core hop
theorem floatStep_sound {s : St} {w : World} {a : Act} {o : Oper} {K : St → Prop} (h : Rel n s w a w)
    (hag : Ag fw (fun k => fs k || fz k) s0 s) (hS : ∀ cw, Full S hasS fz s0 cw → S cw) (hop : floatStep P n ops fw fz S s o K) :
    ∃ v, YieldsIf P ops.toArray (Full S hasS fz s0) o v a ∧ ∃ s', Rel n s' w (a.put o.dst v) w ∧ Ag fw (fun k => fs k || fz k) s s' ∧ K s' := by
  unfold floatStep at hop
  split at hop
  · rename_i hgd
    exact floatOp_sound (tag := none) (c := true) h hag hS rfl (fun _ => ctx_nil) (fun _ => by simp) (by simp [Region.wanted, hgd]) hop
  · rename_i key hgd
    split at hop
    · rename_i s' g hgo
      obtain ⟨h', hg, hc, hw, hag'⟩ := guardOf_sound (fw := fw) (fs := fun k => fs k || fz k) (o := o) h hgo
      obtain ⟨v, q1, s2, q2, q3, q4⟩ := floatOp_sound (tag := some key) (c := g.cond) h' (hag.trans hag') hS (by simp [tagCond, hg]) hc (fun hcc => by rw [hcc]; simp) (hw hgd) hop
      exact ⟨v, q1, s2, q2, hag'.trans q3, q4⟩
    · exact hop.elim
theorem firstF_spec {s : St} {listed : List Bool} : ∀ {rs : List Nat} {i : Nat} {o : Oper}, firstF P ops fz hasS s listed rs = some (i, o) →
    i ∈ rs ∧ ops[i]? = some o ∧ floats P ops fz hasS s o = true ∧ freeL ops listed i = true
  | [], i, o, h => by cases h
  | j :: r, i, o, h => by
    simp only [firstF] at h
    split at h
    · rename_i oj hj
      cases hb : floats P ops fz hasS s oj && freeL ops listed j with
      | true =>
        simp only [hb, cond_true, Option.some.injEq, Prod.mk.injEq] at h
        obtain ⟨rfl, rfl⟩ := h
        simp only [Bool.and_eq_true] at hb
        exact ⟨List.mem_cons_self, hj, hb.1, hb.2⟩
      | false =>
        simp only [hb, cond_false] at h
        obtain ⟨h1, h2⟩ := firstF_spec h
        exact ⟨List.mem_cons_of_mem _ h1, h2⟩
    · obtain ⟨h1, h2⟩ := firstF_spec h
      exact ⟨List.mem_cons_of_mem _ h1, h2⟩
theorem drawOps_sound (hsel : noSel ops = true) (hS : ∀ cw, Full S hasS fz s0 cw → S cw) (hQ : ∀ a cw, Nx n fw fs s0 K a cw → Q .normal a cw) (hQp : ∀ c a w, ¬ Q (.panic c) a w) :
    ∀ (f : Nat) (listed : List Bool) (s : St) (w : World) (a : Act), Rel n s w a w → Ag fw (fun k => fs k || fz k) s0 s → Full S hasS fz s0 w →
      drawOps P n rk ops fz (fun k => fs k || fz k) fw S hasS f listed s w K → wpAnyH P .any ops.toArray Q (Full S hasS fz s0) f listed.toArray a w := by
  have agw : ∀ {s : St}, Ag fw (fun k => fs k || fz k) s0 s → Ag fw fs s0 s := fun h => ⟨h.fr, fun k hk => h.rg k (by simp [hk]), h.bk⟩
  intro f
  induction f with
  | zero =>
    intro listed s w a h hag hF hop
    unfold drawOps at hop
    split at hop
    · rename_i hr
      exact ⟨by rw [readyL_eq]; exact hr, hQ _ _ ⟨s, w, h, agw hag, hop⟩⟩
    · exact hop.elim
  | succ f ih =>
    intro listed s w a h hag hF hop
    unfold drawOps at hop
    split at hop
    · rename_i hr
      exact wpAnyH_done (by rw [readyL_eq]; exact hr) (hQ _ _ ⟨s, w, h, agw hag, hop⟩) _
    · rename_i rs hne
      split at hop
      · rename_i i o hf
        obtain ⟨h1, h2, h3, h4⟩ := firstF_spec hf
        obtain ⟨v, hy, s', hR, hA, hk⟩ := floatStep_sound h hag hS hop
        have hi : ops.toArray[i]? = some o := by simpa using h2
        refine wpAnyH_first hi (fun j oj cs b hj => noSel_spec hsel j oj cs b (by simpa using hj)) (fun c a' w' hq => absurd hq (hQp _ _ _)) f _ a w (freeL_spec h2 h4) (by rw [readyL_eq]; exact h1) hy hF ?_
        have := ih (listed.set i true) s' w _ hR (hag.trans hA) hF hk
        simpa using this
      · refine ⟨fun h0 => absurd (by rw [← readyL_eq]; exact h0) hne, fun i hi => ?_⟩
        rw [readyL_eq] at hi
        have hA := allE_mem hop i hi
        split at hA
        · rename_i o ho
          have hi' : ops.toArray[i]? = some o := by simpa using ho
          have next : ∀ a' w', Nx n fw (fun k => fs k || fz k) s (fun s w => sync s w fun s w => match hasS with
            | true => S w ∧ drawOps P n rk ops fz (fun k => fs k || fz k) fw S hasS f (listed.set i true) s w K
            | false => drawOps P n rk ops fz (fun k => fs k || fz k) fw S hasS f (listed.set i true) s w K) a' w' →
              Full S hasS fz s0 w' ∧ wpAnyH P .any ops.toArray Q (Full S hasS fz s0) f (listed.toArray.setIfInBounds i true) a' w' := by
            intro a' w' ⟨s1, w1, r1, r2, r3⟩
            obtain ⟨s2, t1, t2, t3, t4, t5⟩ := sync_sound r1 r3
            have hag2 : Ag fw (fun k => fs k || fz k) s0 s2 := hag.trans (r2.trans (Ag.same t3 t5))
            have hregs : ∀ k r, fz k = true → findR s0.rg k = some r → w'.heap[r.blk]? = some (.cells r.cells.toArray r.ty (0, 0)) := fun k r hk hr =>
              t1.reg k r (by rw [hag2.rg k (by simp [hk])]; exact hr)
            cases hh : hasS with
            | true =>
              simp only [hh] at t2
              have hF2 : Full S true fz s0 w' := ⟨fun _ => t2.1, hregs⟩
              refine ⟨hF2, ?_⟩
              have := ih (listed.set i true) s2 w' a' t1 hag2 (by rw [hh]; exact hF2) (by rw [hh]; exact t2.2)
              rw [hh] at this
              simpa using this
            | false =>
              simp only [hh] at t2
              have hF2 : Full S false fz s0 w' := ⟨fun hc => (by cases hc), hregs⟩
              refine ⟨hF2, ?_⟩
              have := ih (listed.set i true) s2 w' a' t1 hag2 (by rw [hh]; exact hF2) (by rw [hh]; exact t2)
              rw [hh] at this
              simpa using this
          have h1 := opStep_sound (Q := Q) h hA
          unfold wpOp
          simp only [hi']
          split
          · rename_i hw
            rw [if_pos hw] at h1
            exact .inl (Oper.wp_mono next h1)
          · rename_i hw
            rw [if_neg hw] at h1
            exact next _ _ h1
        · exact hA.elim
theorem drawW_sound {s : St} {w cw : World} {a : Act} {id : Nat} (hm : P.follows .mixedOrders = true) (h : Rel n s w a cw) (hQ : ∀ a cw, Nx n fw fs s K a cw → Q .normal a cw)
    (hQp : ∀ c a w, ¬ Q (.panic c) a w) (hop : drawW P n rk ops fs fw s w K) : (Code.region id ops.toArray true).wp P Q a cw := by
  unfold drawW at hop
  obtain ⟨s', h', hop, hfr, hgs, hrg⟩ := sync_sound h hop
  simp only at hop
  cases hsel : noSel ops with
  | false => simp [hsel] at hop
  | true =>
    simp only [hsel, cond_true] at hop
    have hQ' : ∀ a cw, Nx n fw fs s' K a cw → Q .normal a cw := fun a cw hx => hQ a cw (Nx.from (Ag.same hfr hrg) hx)
    have hd : Rel n s' cw.drew a cw.drew := h'.syncd fun _ _ => rfl
    have hlist : (List.replicate ops.length false).toArray = Array.replicate ops.toArray.size false := by simp
    split at hop
    · obtain ⟨S, hS0, hop⟩ := hop
      have := drawOps_sound (s0 := s') (Q := Q) hsel (fun cw hF => hF.1 rfl) hQ' hQp ops.length _ s' cw.drew a hd (Ag.refl _ _ _) ⟨fun _ => hS0, fun k r _ hr => hd.reg k r hr⟩ hop
      rw [hlist] at this
      exact wp_region_held hm this
    · have := drawOps_sound (s0 := s') (Q := Q) hsel (fun cw hF => trivial) hQ' hQp ops.length _ s' cw.drew a hd (Ag.refl _ _ _) ⟨fun hf => (by cases hf), fun k r _ hr => hd.reg k r hr⟩ hop
      rw [hlist] at this
      exact wp_region_held hm this
end
end Fk
