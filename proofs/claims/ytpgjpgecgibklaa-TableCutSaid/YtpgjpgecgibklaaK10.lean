/- A generator of conditions, part 10: what the kernel works out of a function's text is enough for a call of it. -/
import Derived.Test.YtpgjpgecgibklaaK9
set_option linter.unusedVariables false
set_option linter.unusedSimpArgs false
namespace Fk
open Go Go.RowKit

theorem modS_not {fw : List Nat} {s : St} {c : Code} {t : Nat} (ht : t ∈ fw) : t ∉ modS fw s c := by
  intro hm
  unfold modS at hm
  have := (List.mem_filter.1 hm).2
  cases hf : findE s.fr t with
  | none => simp [hf] at this
  | some e => simp [hf, memN_iff.2 ht] at this
theorem jS_not {P : Program} {fw : List Nat} {s : St} {c y : Code} {t : Nat} (ht : t ∈ fw) : t ∉ jS P fw s c y := by
  intro hm
  unfold jS at hm
  rcases List.mem_append.1 hm with h | h
  · exact modS_not ht h
  · obtain ⟨p, hp, rfl⟩ := List.mem_map.1 h
    unfold newA at hp
    have := (List.mem_filter.1 hp).2
    cases hf : findE s.fr p.1 with
    | some e => simp [hf] at this
    | none => simp [hf, memN_iff.2 ht] at this
theorem jH_length (P : Program) (fw : List Nat) (s : St) (c y : Code) : (jH P fw s c y).length = (jS P fw s c y).length := by
  simp [jH, jS, slotSh_length]
theorem modR_not {fs : Nat → Bool} {s : St} {c : Code} {k : Nat} (hk : fs k = true) : k ∉ modR fs s c := by
  intro hm
  unfold modR at hm
  have := (List.mem_filter.1 hm).2
  simp [hk] at this
theorem meet_ag {fw : List Nat} {fs : Nat → Bool} {s : St} {ms rms : List Nat} {us vs : List Value} (h1 : ∀ t ∈ fw, t ∉ ms) (h2 : ∀ k, fs k = true → k ∉ rms) : Ag fw fs s (mkSt s ms rms us vs) := by
  refine ⟨fun t ht e he hn => (findE_frOf_not (h1 t ht)).trans he, fun k hk => ?_, fun k r hr => ?_⟩
  · show findR (rgOf _ _ s.rg) k = _
    rw [findR_rgOf]
    cases hf : findR s.rg k with
    | none => rfl
    | some r => simp [rgOne, findR_key hf, lkV_not (h2 k hk)]
  · exact ⟨_, by show findR (rgOf _ _ s.rg) k = _; rw [findR_rgOf, hr]; rfl, (rgOne_key _ _ r).2⟩
theorem wpc_sound {P : Program} (hm : P.follows .mixedOrders = true) {n : Nat} {rk : List Nat} : ∀ (c : Code) (Q : Exit → St → World → Prop) (fs : Nat → Bool) (fw : List Nat) (s : St) (w cw : World) (a : Act),
    Rel n s w a cw → wpc P n rk c Q fs fw s w → c.wp P (NQ n fw fs s Q) a cw := by
  intro c
  induction c with
  | skip => exact fun Q fs fw s w cw a h hop => wp_skip ⟨s, w, h, Ag.refl _ _ _, hop⟩
  | ret => exact fun Q fs fw s w cw a h hop => wp_ret ⟨s, w, h, Ag.refl _ _ _, hop⟩
  | exit id => exact fun Q fs fw s w cw a h hop => wp_exit ⟨s, w, h, Ag.refl _ _ _, hop⟩
  | region id ops d =>
    intro Q fs fw s w cw a h hop
    have fin : ∀ a' cw', Nx n fw fs s (fun s w => fcSt (clearT s) fun s => Q .normal s w) a' cw' → NQ n fw fs s Q .normal a' cw' := by
      intro a' cw' ⟨s', w', h1, h2, h3⟩
      simp only [fcSt_eq] at h3
      exact ⟨clearT s', w', clearT_rel h1, h2.trans (clearT_ag s'), h3⟩
    have hops : ops = ops.toList.toArray := by simp
    cases d with
    | false =>
      simp only [wpc] at hop
      rw [hops]
      exact wp_region_list (seqOps_sound ops.toList s s w cw a h (Ag.refl _ _ _) hop fin)
    | true =>
      simp only [wpc] at hop
      rw [hops]
      exact drawW_sound hm h fin (fun c a w hp => hp) hop
  | seq x y ihx ihy =>
    intro Q fs fw s w cw a h hop
    simp only [wpc] at hop
    split at hop
    · refine wp_seq (wp_mono (ihx _ fs fw s w cw a h hop) fun e a' w' hq => ?_)
      cases e with
      | normal =>
        obtain ⟨s', w0, h1, h2, h3⟩ := hq
        exact wp_mono (ihy Q fs fw s' w0 w' a' h1 h3) fun e a w hq => NQ.from h2 hq
      | exit id => exact hq
      | goto l => exact hq
      | ret => exact hq
      | panic ch => exact hq
      | outgrown => exact hq
    · split at hop
      · exact hop.elim
      · rename_i hgs
        obtain ⟨J, hJ, hop⟩ := hop
        refine wp_seq (wp_mono (ihx _ _ _ s w cw a h hop) fun e a' w' hq => ?_)
        cases e with
        | normal =>
          obtain ⟨s', w0, h1, h2, h3⟩ := hq
          obtain ⟨us, vs, hj, hul, hvl, hrel⟩ := meet_sound hgs (untagged h hgs) h.wfr (keyed h hgs) (fun _ _ => rfl) (fun _ _ => rfl) (fun k r hr => ⟨r, hr, rfl, rfl⟩) h2 h1 h3
          have hA := hJ us vs w' hj
          have hA := opHl_sound0 hA (by rw [jH_length]; exact hul.symm)
          have hA := opHl_sound0 hA (by rw [regSh_length]; exact hvl.symm)
          rw [fcSt_eq] at hA
          refine wp_mono (ihy Q fs fw _ w' w' a' hrel hA) fun e a w hq => NQ.from ?_ hq
          -- what the join's state says is in agreement with the state ahead
          exact meet_ag (fun t ht => jS_not ht) (fun k hk => modR_not hk)
        | exit id => exact NQ.weak hq
        | goto l => exact hq
        | ret => exact NQ.weak hq
        | panic ch => exact hq
        | outgrown => exact hq
  | cond c x y ihx ihy =>
    intro Q fs fw s w cw a h hop
    simp only [wpc] at hop
    split at hop
    · rename_i b hb
      refine wp_cond_split (t := b) (h.evV ctx_nil hb) (fun hbt => ihx Q fs fw s w cw a h (hop.1 hbt)) (fun hbf => ihy Q fs fw s w cw a h (hop.2 hbf))
    · exact hop.elim
  | block id c ih =>
    intro Q fs fw s w cw a h hop
    simp only [wpc] at hop
    refine wp_block (wp_mono (ih _ fs fw s w cw a h hop) fun e a' w' hq => ?_)
    cases e with
    | normal => exact hq
    | exit i =>
      obtain ⟨s', w0, h1, h2, h3⟩ := hq
      show (if i = id then _ else _)
      cases hb : Nat.beq i id with
      | true =>
        rw [if_pos (Nat.eq_of_beq_eq_true hb)]
        simp only [hb, cond_true] at h3
        exact ⟨s', w0, h1, h2, h3⟩
      | false =>
        rw [if_neg (fun e => by subst e; simp at hb)]
        simp only [hb, cond_false] at h3
        exact ⟨s', w0, h1, h2, h3⟩
    | goto l => exact hq
    | ret => exact hq
    | panic ch => exact hq
    | outgrown => exact hq
  | loop c ih =>
    intro Q fs fw s w cw a h hop
    simp only [wpc] at hop
    split at hop
    · exact hop.elim
    rename_i hgs
    obtain ⟨s1, hrel1, hop, hfr, hgs1, hrg⟩ := sync_sound h hop
    have hg1 : s1.gs = [] := by rw [hgs1]; exact hgs
    split at hop
    · rename_i us0 vs0 hu hv
      obtain ⟨I, ⟨m0, h0⟩, hround⟩ := hop
      have start : Rel n (mkSt s1 (modS fw s1 c) (modR fs s1 c) us0 vs0) cw a cw :=
        mkSt_rel (fw := fw) (fs := fs) hg1 (untagged hrel1 hg1) hrel1.wfr (keyed hrel1 hg1) (fun _ _ => rfl) (fun _ _ => rfl) (fun k r hr => ⟨r, hr, rfl, rfl⟩) (Ag.refl _ _ _) hrel1 hu hv
      refine wp_loop_g (fun m a' w' => ∃ us vs, I m us vs w' ∧ us.length = (modS fw s1 c).length ∧ vs.length = (modR fs s1 c).length ∧ Rel n (mkSt s1 (modS fw s1 c) (modR fs s1 c) us vs) w' a' w') ?_ m0 a cw
        ⟨us0, vs0, h0, (slotVals_spec hu).1, (regVals_spec hv).1, start⟩
      rintro m a' w' ⟨us, vs, hI, hul, hvl, hR⟩
      have hA := hround m us vs w' hI
      have hA := opHl_sound0 hA (by rw [slotSh_length]; exact hul.symm)
      have hA := opHl_sound0 hA (by rw [regSh_length]; exact hvl.symm)
      rw [fcSt_eq] at hA
      have hagm : Ag fw fs s (mkSt s1 (modS fw s1 c) (modR fs s1 c) us vs) := (Ag.same hfr hrg).trans (meet_ag (fun t ht => modS_not ht) (fun k hk => modR_not hk))
      refine wp_mono (ih _ _ _ _ w' w' a' hR hA) fun e a2 w2 hq => ?_
      cases e with
      | normal =>
        obtain ⟨s', w0, q1, q2, q3⟩ := hq
        obtain ⟨us', vs', ⟨m', hlt, hI'⟩, hul', hvl', hR'⟩ := meet_sound (s1 := mkSt s1 (modS fw s1 c) (modR fs s1 c) us vs) hg1 (untagged hrel1 hg1) hrel1.wfr (keyed hrel1 hg1)
          (fun t ht => findE_frOf_not ht)
          (fun k hk => by
            show findR (rgOf _ _ s1.rg) k = _
            rw [findR_rgOf]
            cases hf : findR s1.rg k with
            | none => rfl
            | some r => simp [rgOne, findR_key hf, lkV_not hk])
          (fun k r hr => ⟨_, by show findR (rgOf _ _ s1.rg) k = _; rw [findR_rgOf, hr]; rfl, (rgOne_key _ _ r).2.1, (rgOne_key _ _ r).2.2.1⟩) q2 q1 q3
        exact ⟨m', hlt, us', vs', hI', hul', hvl', hR'⟩
      | exit id => exact NQ.from hagm (NQ.weak hq)
      | goto l => exact hq
      | ret => exact NQ.from hagm (NQ.weak hq)
      | panic ch => exact hq
      | outgrown => exact hq
    · exact hop.elim
  | rangeFunc f ps x y ihx ihy => exact fun Q fs fw s w cw a h hop => by simp only [wpc] at hop
  | scope c ih => exact fun Q fs fw s w cw a h hop => by simp only [wpc] at hop
  | label l => exact fun Q fs fw s w cw a h hop => by simp only [wpc] at hop
  | goto l => exact fun Q fs fw s w cw a h hop => by simp only [wpc] at hop
  | refuse y => exact fun Q fs fw s w cw a h hop => by simp only [wpc] at hop

/-! ### Functions -/
theorem findE_init : ∀ (l : List Value) (i t : Nat) (e : Ent), findE (initFr l i) t = some e → i ≤ t ∧ ∃ v, l[t - i]? = some v ∧ e = ⟨t, none, .v v⟩
  | [], i, t, e, h => by cases h
  | v :: l, i, t, e, h => by
    simp only [initFr, findE] at h
    cases hb : Nat.beq i t with
    | true =>
      have := Nat.eq_of_beq_eq_true hb
      subst this
      simp only [hb, cond_true, Option.some.injEq] at h
      subst h
      exact ⟨Nat.le_refl _, v, by simp, rfl⟩
    | false =>
      simp only [hb, cond_false] at h
      obtain ⟨h1, u, h2, h3⟩ := findE_init l (i + 1) t e h
      refine ⟨by omega, u, ?_, h3⟩
      rw [show t - i = (t - (i + 1)) + 1 by omega]
      simpa using h2
def resF (tmps : Array Value) : ResultVar → Sem Value
  | .tmp t => pure (tmps.getD t undef)
  | .cell q t => do loadVar t (← asAddr (tmps.getD q undef))
theorem resF_cell {P : Program} {w : World} {tmps : Array Value} {q : Nat} {ty : TypeId} {A : Addr} {v : Value} (he : tmps.getD q undef = .pointer (some A)) (hr : (loadVar ty A).run P w = .ok v w) :
    (resF tmps (.cell q ty)).run P w = .ok v w := by
  have : resF tmps (.cell q ty) = (do loadVar ty (← asAddr (tmps.getD q undef))) := rfl
  rw [this, he]
  simpa [asAddr] using hr
theorem mapM_cons_run {P : Program} {w : World} {tmps : Array Value} {x : ResultVar} {r : List ResultVar} {v : Value} {l : List Value} (h1 : (resF tmps x).run P w = .ok v w) (h2 : (r.mapM (resF tmps)).run P w = .ok l w) :
    ((x :: r).mapM (resF tmps)).run P w = .ok (v :: l) w := by
  simp only [List.mapM_cons, Sem.run_bind, h1, h2, Result.andThen_ok, Sem.run_pure]
theorem resW_run {P : Program} {n : Nat} {s : St} {a : Act} {w : World} (h : Rel n s w a w) : ∀ (rs : List ResultVar) (K : List Value → Prop), resW P s w rs K →
    ∃ l, (rs.mapM (resF a.tmps)).run P w = .ok l w ∧ K l
  | [], K, hk => ⟨[], by simp, hk⟩
  | .tmp t :: r, K, hk => by
    simp only [resW] at hk
    split at hk
    · rename_i v hv
      obtain ⟨l, h1, h2⟩ := resW_run h r _ hk
      have he : a.tmps.getD t undef = v := h.evV ctx_nil hv
      exact ⟨v :: l, mapM_cons_run (by simp [resF, he]) h1, h2⟩
    · exact hk.elim
  | .cell q ty :: r, K, hk => by
    simp only [resW] at hk
    split at hk
    · rename_i k o hq
      obtain ⟨x, hx1, hx2⟩ := h.lookS ctx_nil hq
      obtain ⟨g, hg, hxe⟩ := hx1
      simp only [hg] at hk
      obtain ⟨v, hv, hrun⟩ := regLd_sound hk
      obtain ⟨l, h1, h2⟩ := resW_run h r _ hv
      have he : a.tmps.getD q undef = .pointer (some ⟨g.blk, o, none⟩) := by
        obtain ⟨hlt, hxx⟩ := Array.getElem?_eq_some_iff.1 hx2
        simp [Array.getD, hlt, hxx, hxe]
      have hr := hrun (by simp) w (h.reg k g hg)
      exact ⟨v :: l, mapM_cons_run (resF_cell he hr) h1, h2⟩
    · rename_i A hq
      obtain ⟨x, hx1, hx2⟩ := h.lookS ctx_nil hq
      simp only [svVal] at hx1
      subst hx1
      obtain ⟨v, hrun, hv⟩ := LdV_sound hk
      obtain ⟨l, h1, h2⟩ := resW_run h r _ hv
      have he : a.tmps.getD q undef = .pointer (some A) := by
        obtain ⟨hlt, hxx⟩ := Array.getElem?_eq_some_iff.1 hx2
        simp [Array.getD, hlt, hxx]
      exact ⟨v :: l, mapM_cons_run (resF_cell he hrun) h1, h2⟩
    · exact hk.elim
theorem tupV_eq (l : List Value) : (if h : l.toArray.size = 1 then l.toArray[0] else Value.tuple l.toArray) = tupV l := by
  unfold tupV
  match l with
  | [] => rfl
  | [v] => rfl
  | v :: u :: l => simp
theorem calls_of_fnW {P : Program} (hm : P.follows .mixedOrders = true) {rk : List Nat} {f : FuncId} {fn : Func} (hf : P.funcs[f]? = some fn) {args : List Value} {R : Value → World → Prop} {w : World}
    (h : fnW P rk fn args R w) : Calls P f args.toArray w fun e w' => match e with | .returned v => R v w' | _ => False := by
  unfold fnW at h
  split at h
  · rename_i c hb
    cases hl : Nat.ble args.length fn.ntmps with
    | false => simp [hl] at h
    | true =>
      simp only [hl, cond_true] at h
      have hle := Nat.le_of_ble_eq_true hl
      refine calls_of_wp hf hb ?_
      have hrel : Rel fn.ntmps (initSt args) w { tmps := args.toArray ++ Array.replicate (fn.ntmps - args.toArray.size) undef, defers := [] } w := by
        refine ⟨rfl, by simp; omega, ?_, fun k g hk => (by cases hk), fun k g hk => (by cases hk), fun k g hk => (by cases hk), fun k r hk => (by cases hk), fun k k' r r' hk => (by cases hk), rfl, rfl, Md.refl _ _, fun _ => rfl⟩
        intro t e he
        obtain ⟨_, v, hv, rfl⟩ := findE_init args 0 t e he
        simp only [Nat.sub_zero] at hv
        have hlt : t < args.length := (List.getElem?_eq_some_iff.1 hv).1
        refine ⟨true, rfl, by omega, fun _ => ⟨v, rfl, ?_⟩, fun hf => by cases hf⟩
        rw [Array.getElem?_append_left (by simpa using hlt)]
        simpa using hv
      refine wp_mono (wpc_sound hm c _ _ _ _ w w _ hrel h) fun e a' w' hq => ?_
      have fin : ∀ (s' : St) (w0 : World), Rel fn.ntmps s' w0 a' w' → (sync s' w0 fun s w => resW P s w fn.results.toList fun l => R (tupV l) w) → a'.defers = [] ∧ ∃ v, (results fn a'.tmps).run P w' = .ok v w' ∧ R v w' := by
        intro s' w0 h1 h3
        obtain ⟨s2, q1, q2, _, _, _⟩ := sync_sound h1 h3
        obtain ⟨l, r1, r2⟩ := resW_run q1 _ _ q2
        refine ⟨q1.dfr, tupV l, ?_, r2⟩
        have hres : results fn a'.tmps = (do let vs ← fn.results.mapM (resF a'.tmps); pure (if h : vs.size = 1 then vs[0] else .tuple vs)) := by
          unfold results
          congr 1
          all_goals (try congr 1)
          all_goals (try (funext x; cases x <;> rfl))
        rw [hres, Array.mapM_eq_mapM_toList]
        simp only [Sem.run_bind, Sem.run_map, map_eq_pure_bind, Result.andThen_ok, Sem.run_pure, r1]
        rw [tupV_eq]
      cases e with
      | normal =>
        obtain ⟨s', w0, h1, _, h3⟩ := hq
        exact fin s' w0 h1 h3
      | ret =>
        obtain ⟨s', w0, h1, _, h3⟩ := hq
        exact fin s' w0 h1 h3
      | exit id =>
        obtain ⟨s', w0, h1, _, h3⟩ := hq
        exact h3.elim
      | goto l => exact hq.elim
      | panic ch => exact hq.elim
      | outgrown => exact hq.elim
  · exact h.elim
end Fk
