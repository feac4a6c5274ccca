/- A generator of conditions, part 9: code: soundness. -/
import Derived.Test.YtpgjpgecgibklaaK8
set_option linter.unusedVariables false
set_option linter.unusedSimpArgs false
namespace Fk
open Go Go.RowKit

theorem opHl_sound : ∀ (l : List Sh) (vs : List Value) (i : Nat) (K : List Value → Prop), opHl l vs i K → i + l.length = vs.length → K (vs.drop i)
  | [], vs, i, K, h, hl => by
    simp only [opHl] at h
    rw [List.drop_of_length_le (by simp at hl; omega)]
    exact h
  | c :: r, vs, i, K, h, hl => by
    simp only [opHl] at h
    have h1 := opH_sound h
    have h2 := opHl_sound r vs (i + 1) _ h1 (by simp at hl; omega)
    have hi : i < vs.length := by simp at hl; omega
    rw [List.drop_eq_getElem_cons hi]
    have : nthD vs i = vs[i] := by simp [nthD, List.getD_eq_getElem?_getD, hi]
    rw [← this]; exact h2
theorem opHl_sound0 {l : List Sh} {vs : List Value} {K : List Value → Prop} (h : opHl l vs 0 K) (hl : l.length = vs.length) : K vs := by
  simpa using opHl_sound l vs 0 K h (by omega)
theorem wp_loop_g {P : Program} {Q : Exit → Act → World → Prop} {c : Code} (I : Nat → Act → World → Prop)
    (round : ∀ m a w, I m a w → c.wp P (Exit.then (fun a' w' => ∃ m', m' < m ∧ I m' a' w') Q) a w) : ∀ (m : Nat) (a : Act) (w : World), I m a w → (Code.loop c).wp P Q a w := by
  intro m a w h0 b k cs
  have key : ∀ m a w, I m a w →
      ∃ e a' w', Q e a' w' ∧ Arrives P (lone (b.at a (.code c :: .inLoop c :: k)) cs w) b k cs e a' w' := by
    intro m
    induction m using Nat.strongRecOn with
    | _ m ih =>
      intro a w hI
      obtain ⟨e, a₁, w₁, hq, harr⟩ := round m a w hI b (.inLoop c :: k) cs
      cases e with
      | normal =>
        obtain ⟨m', hlt, hI₁⟩ := hq
        obtain ⟨e₂, a₂, w₂, hq₂, harr₂⟩ := ih m' hlt a₁ w₁ hI₁
        exact ⟨e₂, a₂, w₂, hq₂, .of_steps (Steps.trans harr (.one step_inLoop)) harr₂⟩
      | exit id => exact ⟨_, a₁, w₁, hq, .pass (x := .inLoop c) rfl (fun _ _ => .inl (by simp)) harr⟩
      | goto l => exact ⟨_, a₁, w₁, hq, .pass (x := .inLoop c) rfl (fun _ _ => .inl (by simp)) harr⟩
      | ret => exact ⟨_, a₁, w₁, hq, .pass (x := .inLoop c) rfl (fun _ _ => .inl (by simp)) harr⟩
      | panic ch => exact ⟨_, a₁, w₁, hq, .pass (x := .inLoop c) rfl (fun _ _ => .inl (by simp)) harr⟩
      | outgrown => exact ⟨_, a₁, w₁, hq, .pass (x := .inLoop c) rfl (fun _ _ => .inl (by simp)) harr⟩
  obtain ⟨e, a', w', hq, harr⟩ := key m a w h0
  exact ⟨e, a', w', hq, .of_steps (.one step_loop) harr⟩

/-! ### The state at a meeting point -/
theorem memN_iff {l : List Nat} {d : Nat} : memN l d = true ↔ d ∈ l := by
  unfold memN
  rw [List.any_eq_true]
  constructor
  · rintro ⟨x, hx, h⟩
    rw [Nat.eq_of_beq_eq_true h]; exact hx
  · intro h
    exact ⟨d, h, by simp⟩
theorem findE_frOf : ∀ {ms : List Nat} {us : List Value} {fr : List Ent} {t : Nat} {e : Ent}, findE (frOf ms us fr) t = some e →
    (∃ v, e = ⟨t, none, .v v⟩ ∧ t ∈ ms ∧ lkV ms us t = some v) ∨ findE fr t = some e
  | [], us, fr, t, e, h => by cases us <;> exact .inr h
  | m :: ms, [], fr, t, e, h => .inr h
  | m :: ms, u :: us, fr, t, e, h => by
    simp only [frOf, findE] at h
    cases hb : Nat.beq m t with
    | true =>
      have := Nat.eq_of_beq_eq_true hb
      subst this
      simp only [hb, cond_true, Option.some.injEq] at h
      subst h
      exact .inl ⟨u, rfl, List.mem_cons_self, by simp [lkV]⟩
    | false =>
      simp only [hb, cond_false] at h
      rcases findE_frOf h with ⟨v, h1, h2, h3⟩ | h
      · exact .inl ⟨v, h1, List.mem_cons_of_mem _ h2, by simp [lkV, hb, h3]⟩
      · exact .inr h
theorem findE_frOf_not : ∀ {ms : List Nat} {us : List Value} {fr : List Ent} {t : Nat}, t ∉ ms → findE (frOf ms us fr) t = findE fr t
  | [], us, fr, t, h => by cases us <;> rfl
  | m :: ms, [], fr, t, h => rfl
  | m :: ms, u :: us, fr, t, h => by
    simp only [frOf, findE]
    have : Nat.beq m t = false := by
      cases hb : Nat.beq m t with
      | false => rfl
      | true => exact absurd (Nat.eq_of_beq_eq_true hb ▸ List.mem_cons_self) h
    simp only [this, cond_false]
    exact findE_frOf_not fun hm => h (List.mem_cons_of_mem _ hm)
theorem slotVals_spec {s : St} : ∀ {ms : List Nat} {us : List Value}, slotVals s ms = some us → us.length = ms.length ∧ ∀ t v, lkV ms us t = some v → evV s [] (.tmp t) = some v
  | [], us, h => by
    simp [slotVals] at h
    subst h
    exact ⟨rfl, fun t v h => by simp [lkV] at h⟩
  | m :: ms, us, h => by
    simp only [slotVals] at h
    split at h
    · rename_i v l hv hl
      simp only [Option.some.injEq] at h
      subst h
      obtain ⟨h1, h2⟩ := slotVals_spec hl
      refine ⟨by simp [h1], fun t u hu => ?_⟩
      simp only [lkV] at hu
      cases hb : Nat.beq m t with
      | true =>
        have := Nat.eq_of_beq_eq_true hb
        subst this
        simp only [hb, cond_true, Option.some.injEq] at hu
        subst hu
        exact hv
      | false => simp only [hb, cond_false] at hu; exact h2 t u hu
    · cases h
theorem slotVals_all {s : St} : ∀ {ms : List Nat} {us : List Value}, slotVals s ms = some us → ∀ t ∈ ms, ∃ v, lkV ms us t = some v
  | [], us, h, t, ht => by cases ht
  | m :: ms, us, h, t, ht => by
    simp only [slotVals] at h
    split at h
    · rename_i v l hv hl
      simp only [Option.some.injEq] at h
      subst h
      simp only [lkV]
      cases hb : Nat.beq m t with
      | true => exact ⟨v, rfl⟩
      | false =>
        cases ht with
        | head => simp at hb
        | tail _ ht => simpa using slotVals_all hl t ht
    · cases h
theorem regVals_spec {s : St} : ∀ {ks : List Nat} {vs : List Value}, regVals s ks = some vs → vs.length = ks.length ∧
    (∀ k v, lkV ks vs k = some v → ∃ g, findR s.rg k = some g ∧ v = .agg g.cells.toArray)
  | [], vs, h => by
    simp [regVals] at h
    subst h
    exact ⟨rfl, fun t v h => by simp [lkV] at h⟩
  | m :: ms, us, h => by
    simp only [regVals] at h
    split at h
    · rename_i g l hv hl
      simp only [Option.some.injEq] at h
      subst h
      obtain ⟨h1, h2⟩ := regVals_spec hl
      refine ⟨by simp [h1], fun t u hu => ?_⟩
      simp only [lkV] at hu
      cases hb : Nat.beq m t with
      | true =>
        have := Nat.eq_of_beq_eq_true hb
        subst this
        simp only [hb, cond_true, Option.some.injEq] at hu
        subst hu
        exact ⟨g, hv, rfl⟩
      | false => simp only [hb, cond_false] at hu; exact h2 t u hu
    · cases h
theorem findR_key : ∀ {l : List Reg} {k : Nat} {r : Reg}, findR l k = some r → r.key = k
  | [], _, _, h => by cases h
  | e :: l, k, r, h => by
    simp only [findR] at h
    cases hb : Nat.beq e.key k with
    | true => simp [hb] at h; subst h; exact Nat.eq_of_beq_eq_true hb
    | false => simp [hb] at h; exact findR_key h
theorem regVals_all {s : St} : ∀ {ks : List Nat} {vs : List Value}, regVals s ks = some vs → ∀ t ∈ ks, ∃ v, lkV ks vs t = some v
  | [], us, h, t, ht => by cases ht
  | m :: ms, us, h, t, ht => by
    simp only [regVals] at h
    split at h
    · rename_i v l hv hl
      simp only [Option.some.injEq] at h
      subst h
      simp only [lkV]
      cases hb : Nat.beq m t with
      | true => exact ⟨_, rfl⟩
      | false =>
        cases ht with
        | head => simp at hb
        | tail _ ht => simpa using regVals_all hl t ht
    · cases h
theorem lkV_not : ∀ {ks : List Nat} {vs : List Value} {k : Nat}, k ∉ ks → lkV ks vs k = none
  | [], vs, k, h => by cases vs <;> rfl
  | m :: ks, [], k, h => rfl
  | m :: ks, v :: vs, k, h => by
    have : Nat.beq m k = false := by
      cases hb : Nat.beq m k with
      | false => rfl
      | true => exact absurd (Nat.eq_of_beq_eq_true hb ▸ List.mem_cons_self) h
    simp only [lkV, this, cond_false]
    exact lkV_not fun hm => h (List.mem_cons_of_mem _ hm)
def rgOne (rms : List Nat) (vs : List Value) (r : Reg) : Reg := match lkV rms vs r.key with | some (.agg cs) => { r with cells := cs.toList } | _ => r
theorem rgOne_key (rms : List Nat) (vs : List Value) (r : Reg) : (rgOne rms vs r).key = r.key ∧ (rgOne rms vs r).blk = r.blk ∧ (rgOne rms vs r).ty = r.ty ∧ (rgOne rms vs r).big = r.big := by
  unfold rgOne
  split <;> exact ⟨rfl, rfl, rfl, rfl⟩
theorem findR_rgOf {rms : List Nat} {vs : List Value} : ∀ {l : List Reg} {k : Nat}, findR (rgOf rms vs l) k = (findR l k).map (rgOne rms vs)
  | [], k => rfl
  | r :: l, k => by
    show findR (rgOne rms vs r :: rgOf rms vs l) k = _
    simp only [findR, (rgOne_key rms vs r).1]
    cases hb : Nat.beq r.key k with
    | true => simp
    | false => simpa using findR_rgOf
theorem nodupR_rgOf {rms : List Nat} {vs : List Value} : ∀ {l : List Reg}, nodupR l = true → nodupR (rgOf rms vs l) = true
  | [], _ => rfl
  | r :: l, h => by
    show nodupR (rgOne rms vs r :: rgOf rms vs l) = true
    simp only [nodupR, (rgOne_key rms vs r).1, findR_rgOf] at h ⊢
    cases hf : findR l r.key with
    | some _ => simp [hf] at h
    | none =>
      simp only [hf, Option.map_none] at h ⊢
      exact nodupR_rgOf h
theorem findE_mem : ∀ {l : List Ent} {t : Nat} {e : Ent}, findE l t = some e → e ∈ l
  | [], _, _, h => by cases h
  | x :: l, t, e, h => by
    simp only [findE] at h
    cases hb : Nat.beq x.slot t with
    | true => simp [hb] at h; subst h; exact List.mem_cons_self
    | false => simp [hb] at h; exact List.mem_cons_of_mem _ (findE_mem h)
/-- From a state reached, back to the state at the meeting point. -/
theorem mkSt_rel {n : Nat} {s s1 s' : St} {ms rms fw : List Nat} {fs : Nat → Bool} {us vs : List Value} {a : Act} {cw : World} (hgs : s.gs = []) (htag : ∀ t e, findE s.fr t = some e → e.tag = none)
    (hdup : nodupR s.rg = true) (hkey : ∀ t e k o, findE s.fr t = some e → e.sv = .p k o → ∃ r, findR s.rg k = some r)
    (h1fr : ∀ t, t ∉ ms → findE s1.fr t = findE s.fr t) (h1rg : ∀ k, k ∉ rms → findR s1.rg k = findR s.rg k)
    (h1bk : ∀ k r, findR s.rg k = some r → ∃ r1, findR s1.rg k = some r1 ∧ r1.blk = r.blk ∧ r1.ty = r.ty)
    (hag : Ag (fwOf s ms fw) (fsOf s rms fs) s1 s') (h : Rel n s' cw a cw) (hu : slotVals s' ms = some us) (hv : regVals s' rms = some vs) : Rel n (mkSt s ms rms us vs) cw a cw := by
  obtain ⟨hul, hus⟩ := slotVals_spec hu
  obtain ⟨hvl, hvs⟩ := regVals_spec hv
  -- the registers of the state reached
  have regs : ∀ k r, findR s.rg k = some r → ∃ r', findR s'.rg k = some r' ∧ r'.blk = r.blk ∧ r'.ty = r.ty := fun k r hr => by
    obtain ⟨r1, q1, q2, q3⟩ := h1bk k r hr
    obtain ⟨r2, t1, t2, t3, _⟩ := hag.bk k r1 q1
    exact ⟨r2, t1, t2.trans q2, t3.trans q3⟩
  refine ⟨h.dfr, h.sz, ?_, fun k g hk => (by cases hk), fun k g hk => (by cases hk), fun k g hk => (by cases hk), ?_, ?_, nodupR_rgOf hdup, rfl, Md.refl _ _, fun _ => rfl⟩
  · intro t e he
    by_cases htm : t ∈ ms
    · obtain ⟨v, hlk⟩ := slotVals_all hu t htm
      have gen : ∀ (ms : List Nat) (us : List Value) (fr : List Ent) (v : Value), lkV ms us t = some v → findE (frOf ms us fr) t = some ⟨t, none, .v v⟩ := by
        intro ms
        induction ms with
        | nil => intro us fr v h; cases us <;> simp [lkV] at h
        | cons m ms ih =>
          intro us fr v h
          cases us with
          | nil => simp [lkV] at h
          | cons u us =>
            simp only [lkV] at h
            simp only [frOf, findE]
            cases hb : Nat.beq m t with
            | true =>
              have := Nat.eq_of_beq_eq_true hb
              subst this
              simp only [hb, cond_true, Option.some.injEq] at h
              subst h
              rfl
            | false =>
              simp only [hb, cond_false] at h ⊢
              exact ih us fr v h
      have he' : e = ⟨t, none, .v v⟩ := by
        have : findE (mkSt s ms rms us vs).fr t = some ⟨t, none, .v v⟩ := gen ms us s.fr v hlk
        rw [this] at he
        exact (Option.some.inj he).symm
      subst he'
      have hev := hus t v hlk
      have hl : lookS s' [] t = some (.v v) := by
        unfold evV evS at hev
        split at hev
        · rename_i y hy
          simp only [Option.some.injEq] at hev
          subst hev; exact hy
        · cases hev
      obtain ⟨x, hx1, hx2⟩ := h.lookS ctx_nil hl
      simp only [svVal] at hx1
      subst hx1
      have hlt : t < n := by
        have := (Array.getElem?_eq_some_iff.1 hx2).1
        rw [← h.sz]; exact this
      exact ⟨true, rfl, hlt, fun _ => ⟨_, rfl, hx2⟩, fun hf => by cases hf⟩
    · have hold : findE s.fr t = some e := by
        have := findE_frOf_not (us := us) (fr := s.fr) htm
        rw [← this]; exact he
      have htg := htag t e hold
      have hfw : t ∈ fwOf s ms fw := by
        unfold fwOf
        refine List.mem_append_left _ (List.mem_filter.2 ⟨List.mem_map.2 ⟨e, findE_mem hold, findE_slot hold⟩, ?_⟩)
        cases hm : memN ms t with
        | false => rfl
        | true => exact absurd (memN_iff.1 hm) htm
      have hs' := hag.fr t hfw e (by rw [h1fr t htm]; exact hold) htg
      obtain ⟨c, q1, q2, q3, q4⟩ := h.ent t e hs'
      have hc : c = true := by rw [htg] at q1; simpa [tagCond] using q1.symm
      refine ⟨true, by rw [htg]; rfl, q2, fun _ => ?_, fun hf => by cases hf⟩
      obtain ⟨x, hx1, hx2⟩ := q3 hc
      refine ⟨x, ?_, hx2⟩
      cases hsv : e.sv with
      | v y => simpa [hsv, svVal] using hx1
      | p k o =>
        simp only [hsv, svVal] at hx1 ⊢
        obtain ⟨r', hr', hx1⟩ := hx1
        obtain ⟨r, hr⟩ := hkey t e k o hold hsv
        obtain ⟨r2, hr2, hb2, _⟩ := regs k r hr
        rw [hr'] at hr2
        cases hr2
        exact ⟨rgOne rms vs r, by show findR (rgOf rms vs s.rg) k = _; rw [findR_rgOf, hr]; rfl, by rw [(rgOne_key rms vs r).2.1, ← hb2]; exact hx1⟩
  · intro k r hr
    have hr' : (findR s.rg k).map (rgOne rms vs) = some r := by rw [← findR_rgOf]; exact hr
    cases hf : findR s.rg k with
    | none => simp [hf] at hr'
    | some r0 =>
      simp only [hf, Option.map_some, Option.some.injEq] at hr'
      subst hr'
      obtain ⟨r2, hr2, hb2, ht2⟩ := regs k r0 hf
      have hreg := h.reg k r2 hr2
      have hk0 : r0.key = k := findR_key hf
      rw [(rgOne_key rms vs r0).2.1, (rgOne_key rms vs r0).2.2.1, ← hb2, ← ht2]
      have hcells : (rgOne rms vs r0).cells = r2.cells := by
        unfold rgOne
        by_cases hkm : k ∈ rms
        · obtain ⟨v, hlk⟩ := regVals_all hv k hkm
          obtain ⟨g, hg, hve⟩ := hvs k v hlk
          rw [hr2] at hg
          cases hg
          subst hve
          simp [hk0, hlk]
        · have hn := lkV_not (vs := vs) hkm
          rw [hk0, hn]
          have hin : fsOf s rms fs k = true := by
            unfold fsOf
            have h1 : memN rms k = false := by
              cases hm : memN rms k with
              | false => rfl
              | true => exact absurd (memN_iff.1 hm) hkm
            simp [keyIn, hf, h1]
          have := hag.rg k hin
          rw [h1rg k hkm, hf, hr2] at this
          cases this
          rfl
      rw [hcells]
      exact hreg
  · intro k1 k2 r1 r2 h1 h2 hne
    have conv : ∀ k r, findR (mkSt s ms rms us vs).rg k = some r → ∃ r', findR s'.rg k = some r' ∧ r'.blk = r.blk := by
      intro k r hr
      have hr' : (findR s.rg k).map (rgOne rms vs) = some r := by rw [← findR_rgOf]; exact hr
      cases hf : findR s.rg k with
      | none => simp [hf] at hr'
      | some r0 =>
        simp only [hf, Option.map_some, Option.some.injEq] at hr'
        subst hr'
        obtain ⟨r2, hr2, hb2, _⟩ := regs k r0 hf
        exact ⟨r2, hr2, by rw [(rgOne_key rms vs r0).2.1]; exact hb2⟩
    obtain ⟨q1, t1, e1⟩ := conv k1 r1 h1
    obtain ⟨q2, t2, e2⟩ := conv k2 r2 h2
    rw [← e1, ← e2]
    exact h.dis k1 k2 q1 q2 t1 t2 hne

/-! ### Code -/
/-- What follows a piece of code. -/
def NQ (n : Nat) (fw : List Nat) (fs : Nat → Bool) (s0 : St) (Q : Exit → St → World → Prop) (e : Exit) (a : Act) (cw : World) : Prop := match e with
  | .normal | .ret | .exit _ => ∃ s w, Rel n s w a cw ∧ Ag fw fs s0 s ∧ Q e s w
  | _ => False
theorem NQ.from {n : Nat} {fw : List Nat} {fs : Nat → Bool} {s0 s1 : St} {Q : Exit → St → World → Prop} {e : Exit} {a : Act} {cw : World} (h : Ag fw fs s0 s1) (k : NQ n fw fs s1 Q e a cw) : NQ n fw fs s0 Q e a cw := by
  unfold NQ at *
  cases e <;> first | exact k | (obtain ⟨s, w, h1, h2, h3⟩ := k; exact ⟨s, w, h1, h.trans h2, h3⟩)
theorem NQ.weak {n : Nat} {s s0 : St} {ms rms fw : List Nat} {fs : Nat → Bool} {Q : Exit → St → World → Prop} {e : Exit} {a : Act} {cw : World} (k : NQ n (fwOf s ms fw) (fsOf s rms fs) s0 Q e a cw) : NQ n fw fs s0 Q e a cw := by
  have w : ∀ {s' : St}, Ag (fwOf s ms fw) (fsOf s rms fs) s0 s' → Ag fw fs s0 s' := fun h =>
    ⟨fun t ht => h.fr t (List.mem_append_right _ ht), fun k hk => h.rg k (by simp [fsOf, hk]), h.bk⟩
  unfold NQ at *
  cases e <;> first | exact k | (obtain ⟨s, w', h1, h2, h3⟩ := k; exact ⟨s, w', h1, w h2, h3⟩)
theorem untagged {n : Nat} {s : St} {w cw : World} {a : Act} (h : Rel n s w a cw) (hg : s.gs = []) : ∀ t e, findE s.fr t = some e → e.tag = none := by
  intro t e he
  obtain ⟨c, q1, _⟩ := h.ent t e he
  cases ht : e.tag with
  | none => rfl
  | some k => rw [ht, hg] at q1; cases q1
theorem keyed {n : Nat} {s : St} {w cw : World} {a : Act} (h : Rel n s w a cw) (hg : s.gs = []) : ∀ t e k o, findE s.fr t = some e → e.sv = .p k o → ∃ r, findR s.rg k = some r := by
  intro t e k o he hsv
  obtain ⟨c, q1, _, q3, _⟩ := h.ent t e he
  have ht := untagged h hg t e he
  rw [ht] at q1
  simp only [tagCond, Option.some.injEq] at q1
  obtain ⟨x, hx, _⟩ := q3 q1.symm
  rw [hsv] at hx
  obtain ⟨r, hr, _⟩ := hx
  exact ⟨r, hr⟩
theorem slotSh_length (s : St) : ∀ l, (slotSh s l).length = l.length
  | [] => rfl
  | t :: r => by simp [slotSh, slotSh_length s r]
theorem regSh_length (s : St) : ∀ l, (regSh s l).length = l.length
  | [] => rfl
  | t :: r => by simp [regSh, regSh_length s r]

theorem meet_sound {n : Nat} {s s1 s' : St} {ms rms fw : List Nat} {fs : Nat → Bool} {a : Act} {w' cw : World} {J : List Value → List Value → World → Prop} (hgs : s.gs = [])
    (htag : ∀ t e, findE s.fr t = some e → e.tag = none) (hdup : nodupR s.rg = true) (hkey : ∀ t e k o, findE s.fr t = some e → e.sv = .p k o → ∃ r, findR s.rg k = some r)
    (h1fr : ∀ t, t ∉ ms → findE s1.fr t = findE s.fr t) (h1rg : ∀ k, k ∉ rms → findR s1.rg k = findR s.rg k)
    (h1bk : ∀ k r, findR s.rg k = some r → ∃ r1, findR s1.rg k = some r1 ∧ r1.blk = r.blk ∧ r1.ty = r.ty)
    (hag : Ag (fwOf s ms fw) (fsOf s rms fs) s1 s') (h : Rel n s' w' a cw) (hm : meet ms rms s' w' J) :
    ∃ us vs, J us vs cw ∧ us.length = ms.length ∧ vs.length = rms.length ∧ Rel n (mkSt s ms rms us vs) cw a cw := by
  unfold meet at hm
  obtain ⟨s2, q1, q2, q3, q4, q5⟩ := sync_sound h hm
  split at q2
  · rename_i us vs hu hv
    exact ⟨us, vs, q2, (slotVals_spec hu).1, (regVals_spec hv).1, mkSt_rel hgs htag hdup hkey h1fr h1rg h1bk (hag.trans (Ag.same q3 q5)) q1 hu hv⟩
  · exact q2.elim
end Fk
