/- First machines: the whole machine's tags (the stage's theorem). -/
import Derived.Test.YtpgjpgecgibklaaN25
set_option linter.unusedVariables false
set_option linter.unusedSimpArgs false
namespace Fk
open Go Go.Proofs Go.RowKit
/-! ### Ways, and what is come to -/
theorem Rch_iff {l : List Ns} {S : Nat → Prop} {i : Nat} : Rch l S i ↔ ∃ j n, S j ∧ Pn l n j [] i := by
  constructor
  · intro h
    induction h with
    | base h => exact ⟨_, 0, h, .refl _ _⟩
    | a _ h1 h2 ih =>
      obtain ⟨j, n, hs, hp⟩ := ih
      exact ⟨j, n + 1, hs, hp.trans (.a h1 h2 (.refl 0 _))⟩
    | b _ h1 h2 ih =>
      obtain ⟨j, n, hs, hp⟩ := ih
      exact ⟨j, n + 1, hs, hp.trans (.b h1 h2 (.refl 0 _))⟩
  · rintro ⟨j, n, hs, hp⟩
    have h0 : Rch l S j := .base hs
    clear hs
    generalize hu : ([] : List Nat) = u at hp
    induction hp with
    | refl => exact h0
    | a h1 h2 _ ih => exact ih (h0.a h1 h2) hu
    | b h1 h2 _ ih => exact ih (h0.b h1 h2) hu
    | byte => cases hu
theorem Pn_snoc {l : List Ns} {c : Nat} : ∀ {n i j : Nat} {u : List Nat}, Pn l n i (u ++ [c]) j → ∃ m x n1 n2, Pn l n1 i u m ∧ l[m]? = some x ∧ x.k = 1 ∧ inQ x.q c = true ∧ Pn l n2 x.a.toNat [] j := by
  intro n i j u h
  generalize hw : u ++ [c] = w at h
  induction h generalizing u with
  | refl => simp at hw
  | @a n i x _ j e1 e2 _ ih =>
    obtain ⟨m, y, n1, n2, p, q⟩ := ih hw
    exact ⟨m, y, n1 + 1, n2, .a e1 e2 p, q⟩
  | @b n i x _ j e1 e2 _ ih =>
    obtain ⟨m, y, n1, n2, p, q⟩ := ih hw
    exact ⟨m, y, n1 + 1, n2, .b e1 e2 p, q⟩
  | @byte n i x c' w j e1 e2 e3 hp ih =>
    cases u with
    | nil =>
      simp at hw
      obtain ⟨rfl, rfl⟩ := hw
      exact ⟨i, x, 0, n, .refl _ _, e1, e2, e3, hp⟩
    | cons y u =>
      simp at hw
      obtain ⟨rfl, hw⟩ := hw
      obtain ⟨m, z, n1, n2, p, q⟩ := ih hw
      exact ⟨m, z, n1 + 1, n2, .byte e1 e2 e3 p, q⟩
/-- Where a machine stands behind a text. -/
def Rd (l : List Ns) (st : Nat) (u : List Nat) (N : List Bool) : Prop := N.length = l.length ∧ ∀ i, On N i ↔ ∃ n, Pn l n st u i
theorem Rd_come {l : List Ns} (hl : OkL l) {st : Int} (h0 : 0 ≤ st) (h1 : st < l.length) : Rd l st.toNat [] (come l st (offs l.length)) := by
  have h := come_is hl (IsSt.offs l) h0 h1
  refine ⟨h.1, fun i => (h.2 i).trans (Rch_iff.trans ⟨?_, ?_⟩)⟩
  · rintro ⟨j, n, hj | rfl, hp⟩
    · exact hj.elim
    · exact ⟨n, hp⟩
  · rintro ⟨n, hp⟩
    exact ⟨_, n, .inr rfl, hp⟩
theorem Rd_step {l : List Ns} (hl : OkL l) {st : Nat} {u : List Nat} {N : List Bool} (h : Rd l st u N) (c : Nat) : Rd l st (u ++ [c]) (stepF l c N l (offs l.length)) := by
  have hs := stepF_is hl c N l _ _ (fun x hx => ⟨(hl x hx).1, (hl x hx).2.1⟩) (IsSt.offs l)
  refine ⟨hs.1, fun i => (hs.2 i).trans (Rch_iff.trans ⟨?_, ?_⟩)⟩
  · rintro ⟨j, n, hj | ⟨k, x, h1, h2, h3, h4, rfl⟩, hp⟩
    · exact hj.elim
    · obtain ⟨m, hm⟩ := (h.2 k).1 h1
      exact ⟨m + (n + 1), hm.trans (.byte h2 h3 h4 hp)⟩
  · rintro ⟨n, hp⟩
    obtain ⟨m, x, n1, n2, p, e1, e2, e3, p2⟩ := Pn_snoc hp
    exact ⟨_, n2, .inr ⟨m, x, (h.2 m).2 ⟨n1, p⟩, e1, e2, e3, rfl⟩, p2⟩
theorem runF_at {l : List Ns} (hl : OkL l) {st : Nat} : ∀ (s : List Nat) (u : List Nat) (now : List Bool), Rd l st u now → ∀ i, i < s.length → ∃ N, (runF l s now)[i]? = some (tagF N l (-1)) ∧ Rd l st (u ++ s.take (i + 1)) N
  | [], u, now, h, i, hi => by simp at hi
  | b :: bs, u, now, h, 0, hi => ⟨_, by simp [runF]; rfl, by simpa using Rd_step hl h b⟩
  | b :: bs, u, now, h, i + 1, hi => by
    obtain ⟨N, h1, h2⟩ := runF_at hl bs (u ++ [b]) _ (Rd_step hl h b) i (by simpa using hi)
    exact ⟨N, by simpa [runF] using h1, by simpa [List.append_assoc] using h2⟩
theorem nfRun_at {l : List Ns} (hl : OkL l) {st : Int} (h0 : 0 ≤ st) (h1 : st < l.length) (s : List Nat) (i : Nat) (hi : i ≤ s.length) : ∃ N, (nfRun st l s)[i]? = some (tagF N l (-1)) ∧ Rd l st.toNat (s.take i) N := by
  unfold nfRun
  cases i with
  | zero => exact ⟨_, rfl, by simpa using Rd_come hl h0 h1⟩
  | succ i =>
    obtain ⟨N, e1, e2⟩ := runF_at hl s [] _ (Rd_come hl h0 h1) i (by omega)
    exact ⟨N, by simpa using e1, by simpa using e2⟩
theorem tagF_spec : ∀ (N : List Bool) (l : List Ns) (t0 : Int), (∀ x ∈ l, x.k = 0 → 0 ≤ x.t) → -1 ≤ t0 →
    (-1 ≤ tagF N l t0) ∧ (0 ≤ t0 → 0 ≤ tagF N l t0 ∧ tagF N l t0 ≤ t0) ∧ (tagF N l t0 = t0 ∨ ∃ j s, On N j ∧ l[j]? = some s ∧ s.k = 0 ∧ s.t = tagF N l t0) ∧ (∀ j s, On N j → l[j]? = some s → s.k = 0 → 0 ≤ tagF N l t0 ∧ tagF N l t0 ≤ s.t)
  | [], l, t0, _, h => by
    have e : tagF [] l t0 = t0 := by cases l <;> rfl
    rw [e]
    exact ⟨h, fun h => ⟨h, Int.le_refl _⟩, .inl rfl, fun j s hj => by simp [On] at hj⟩
  | h :: hs, [], t0, _, h0 => ⟨h0, fun h => ⟨h, Int.le_refl _⟩, .inl rfl, fun j s _ hj => by simp at hj⟩
  | h :: hs, x :: xs, t0, hx, h0 => by
    have hxs : ∀ y ∈ xs, y.k = 0 → 0 ≤ y.t := fun y hy => hx y (by simp [hy])
    have hx0 := hx x (by simp)
    show (-1 ≤ tagF hs xs _) ∧ (0 ≤ t0 → 0 ≤ tagF hs xs _ ∧ tagF hs xs _ ≤ t0) ∧ (tagF hs xs _ = t0 ∨ ∃ j s, On (h :: hs) j ∧ (x :: xs)[j]? = some s ∧ s.k = 0 ∧ s.t = tagF hs xs _) ∧ (∀ j s, On (h :: hs) j → (x :: xs)[j]? = some s → s.k = 0 → 0 ≤ tagF hs xs _ ∧ tagF hs xs _ ≤ s.t)
    by_cases c : h = true ∧ x.k = 0 ∧ (t0 < 0 ∨ x.t < t0)
    · rw [if_pos c]
      have := hx0 c.2.1
      obtain ⟨i1, i2, i3, i4⟩ := tagF_spec hs xs x.t hxs (by omega)
      obtain ⟨i5, i6⟩ := i2 (by omega)
      refine ⟨i1, fun h => ⟨i5, by omega⟩, .inr ?_, fun j s hj hs' hk => ?_⟩
      · rcases i3 with e | ⟨j, s, e1, e2⟩
        · exact ⟨0, x, by simp [On, c.1], rfl, c.2.1, e.symm⟩
        · exact ⟨j + 1, s, by simpa [On] using e1, by simpa using e2⟩
      · cases j with
        | zero => simp at hs'; subst hs'; exact ⟨i5, i6⟩
        | succ j => exact i4 j s (by simpa [On] using hj) (by simpa using hs') hk
    · rw [if_neg c]
      obtain ⟨i1, i2, i3, i4⟩ := tagF_spec hs xs t0 hxs h0
      refine ⟨i1, i2, ?_, fun j s hj hs' hk => ?_⟩
      · rcases i3 with e | ⟨j, s, e1, e2⟩
        · exact .inl e
        · exact .inr ⟨j + 1, s, by simpa [On] using e1, by simpa using e2⟩
      · cases j with
        | zero =>
          simp at hs'; subst hs'
          have hh : h = true := by simpa [On] using hj
          have : ¬ (t0 < 0 ∨ x.t < t0) := fun h => c ⟨hh, hk, h⟩
          obtain ⟨i5, i6⟩ := i2 (by omega)
          exact ⟨i5, by omega⟩
        | succ j => exact i4 j s (by simpa [On] using hj) (by simpa using hs') hk
/-! ### The trees of a machine, side by side -/
def EndP (L : List Ns) (b : Int) (e : Nat) (La : List Nat → Prop) : Prop :=
  (∀ u, La u → ∃ n, Pn L n b.toNat u e) ∧ (∀ n w j s, L[j]? = some s → s.k = 0 → Pn L n b.toNat w j → j = e ∧ La w)
structure BldP (f : Fo) (i : Int) (l : List Ns) (l' : List Ns) (bs : List Int) (es : List Nat) : Prop where
  le : l.length ≤ l'.length
  pre : ∀ j, j < l.length → l'[j]? = l[j]?
  ok : 0 ≤ i → i + f.len ≤ 200 → AllOk l → AllOk l'
  bl : bs.length = f.len
  el : es.length = f.len
  b0 : ∀ b ∈ bs, 0 ≤ b ∧ b < l'.length
  e0 : ∀ (m e : Nat), es[m]? = some e → l.length ≤ e ∧ e < l'.length ∧ l'[e]? = some ⟨0, 0, 0, 0, 0, 0, 0, i + m⟩
  ek : ∀ (j : Nat) (s : Ns), l.length ≤ j → l'[j]? = some s → s.k = 0 → ∃ m : Nat, es[m]? = some j
  fr : ∀ L : List Ns, (∀ j, l.length ≤ j → j < l'.length → L[j]? = l'[j]?) → ∀ (m : Nat) (b : Int) (e : Nat), bs[m]? = some b → es[m]? = some e → EndP L b e (lg (f.drop m)).one
theorem end_way {L : List Ns} {e : Nat} {s : Ns} (he : L[e]? = some s) (hk : s.k = 0) {n : Nat} {v : List Nat} {j : Nat} (hp : Pn L n e v j) : v = [] ∧ j = e := by
  cases hp with
  | refl => exact ⟨rfl, rfl⟩
  | a e1 e2 _ => rw [he] at e1; injection e1 with e1; subst e1; omega
  | b e1 e2 _ => rw [he] at e1; injection e1 with e1; subst e1; omega
  | byte e1 e2 _ _ => rw [he] at e1; injection e1 with e1; subst e1; omega
theorem bldF_fr : ∀ (f : Fo) (i : Int) (l : List Ns) (bs : List Int), f.right = true → l.length + (f.cnt + f.len) ≤ 20000 → ∃ bs2 es, (bldF 20000 f i l bs).2 = bs ++ bs2 ∧ BldP f i l (bldF 20000 f i l bs).1 bs2 es
  | .nil, i, l, bs, _, _ => ⟨[], [], by simp [bldF], ⟨Nat.le_refl _, fun _ _ => rfl, fun _ _ h => h, rfl, rfl, (fun b hb => by cases hb), (fun m e h => by simp at h), (fun j s h1 h2 => by
      rw [show (bldF 20000 .nil i l bs).1 = l from rfl, List.getElem?_eq_none h1] at h2; cases h2), fun L _ m b e h => by simp at h⟩⟩
  | .cons k a b c d q r, i, l, bs, hr, hl => by
    simp only [Fo.right, Bool.and_eq_true] at hr
    simp only [Fo.cnt, Fo.len] at hl
    have hs : pst 20000 l ⟨0, 0, 0, 0, 0, 0, 0, i⟩ = (l ++ [⟨0, 0, 0, 0, 0, 0, 0, i⟩], (l.length : Int)) := pst_fit (by omega)
    have hf := (tw_fr (.cons k a b c d q .nil) (by simp [Fo.right, hr.1])).2.2 (l ++ [⟨0, 0, 0, 0, 0, 0, 0, i⟩], (l.length : Int)) (by simp [Fo.cnt1]; omega) (by simp; omega) (by simp [Fo.len])
    have hlen := twOne_len_fit (a := a) (b := b) (c := c) (d := d) hr.1.1 hr.1.2 (l ++ [(⟨0, 0, 0, 0, 0, 0, 0, i⟩ : Ns)], (l.length : Int)) (by simp; omega)
    simp only [bldF, hs]
    change Frp (l ++ [⟨0, 0, 0, 0, 0, 0, 0, i⟩]) (l.length : Int) (twOne 20000 k a b c d (tw 20000 q) (l ++ [⟨0, 0, 0, 0, 0, 0, 0, i⟩], (l.length : Int))).1 (twOne 20000 k a b c d (tw 20000 q) (l ++ [⟨0, 0, 0, 0, 0, 0, 0, i⟩], (l.length : Int))).2 (lgOne k a b c d (lg q)) at hf
    generalize twOne 20000 k a b c d (tw 20000 q) (l ++ [⟨0, 0, 0, 0, 0, 0, 0, i⟩], (l.length : Int)) = T at *
    simp only [List.length_append, List.length_singleton] at hlen
    obtain ⟨bs2, es, h1, P⟩ := bldF_fr r (i + 1) T.1 (bs ++ [T.2]) hr.2 (by omega)
    have ple := P.le
    have eT : T.1[l.length]? = some ⟨0, 0, 0, 0, 0, 0, 0, i⟩ := (hf.pre l.length (by simp)).trans (get_last _ _)
    refine ⟨T.2 :: bs2, l.length :: es, by rw [h1]; simp, ⟨by omega, fun j hj => ?_, fun h0 h2 h3 => ?_, by simp [P.bl, Fo.len], by simp [P.el, Fo.len], fun x hx => ?_, fun m e he => ?_, fun j s hj hjs hk => ?_, fun L hL m x e hx he => ?_⟩⟩
    · rw [P.pre j (by omega), hf.pre j (by simp; omega), get_pre hj]
    · simp only [Fo.len] at h2
      refine P.ok (by omega) (by omega) (hf.ok (h3.snoc (.inl ⟨rfl, by simp [Ns.zs], rfl, rfl, h0, by simp only; omega⟩)))
    · rcases List.mem_cons.1 hx with rfl | hx
      · have := hf.x0; omega
      · exact P.b0 x hx
    · cases m with
      | zero =>
        simp at he
        subst he
        exact ⟨Nat.le_refl _, by omega, by rw [P.pre _ (by omega), eT]; simp⟩
      | succ m =>
        obtain ⟨g1, g2, g3⟩ := P.e0 m e (by simpa using he)
        refine ⟨by omega, g2, ?_⟩
        rw [g3]
        congr 2
        omega
    · by_cases cj : j < T.1.length
      · rw [P.pre j cj] at hjs
        by_cases c2 : j = l.length
        · exact ⟨0, by simp [c2]⟩
        · exact absurd hk (hf.kk j s (by simp; omega) hjs)
      · obtain ⟨m, hm⟩ := P.ek j s (by omega) hjs hk
        exact ⟨m + 1, by simpa using hm⟩
    · cases m with
      | zero =>
        simp at hx he
        subst hx; subst he
        have hT : ∀ j, l.length ≤ j → j < T.1.length → L[j]? = T.1[j]? := fun j h1 h2 => (hL j h1 (by omega)).trans (P.pre j h2)
        obtain ⟨f1, f2⟩ := hf.fr L fun j h1 h2 => hT j (by simp at h1; omega) h2
        have eL : L[l.length]? = some ⟨0, 0, 0, 0, 0, 0, 0, i⟩ := (hT _ (Nat.le_refl _) (by omega)).trans eT
        refine ⟨fun u hu => ?_, fun n w j s hj hk hp => ?_⟩
        · have := f1 u hu
          rwa [Int.toNat_natCast] at this
        · have hout : j < (l ++ [(⟨0, 0, 0, 0, 0, 0, 0, i⟩ : Ns)]).length ∨ T.1.length ≤ j := by
            by_cases c1 : j < (l ++ [(⟨0, 0, 0, 0, 0, 0, 0, i⟩ : Ns)]).length
            · exact .inl c1
            · right
              refine Nat.le_of_not_lt fun c2 => hf.kk j s (by omega) ?_ hk
              rw [← hT j (by simp at c1; omega) c2]; exact hj
          obtain ⟨u, v, m, _, rfl, hu, hp2⟩ := f2 n w j hout hp
          rw [Int.toNat_natCast] at hp2
          obtain ⟨rfl, rfl⟩ := end_way eL rfl hp2
          exact ⟨rfl, by rw [List.append_nil]; exact hu⟩
      | succ m =>
        have := P.fr L (fun j h1 h2 => hL j (by omega) h2) m x e (by simpa using hx) (by simpa using he)
        simpa [Fo.drop] using this
structure JoinP (bs : List Int) (l l' : List Ns) (x : Int) : Prop where
  le : l.length ≤ l'.length
  pre : ∀ j, j < l.length → l'[j]? = l[j]?
  ok : AllOk l → AllOk l'
  x0 : 0 ≤ x ∧ x < l'.length
  kk : ∀ j s, l.length ≤ j → l'[j]? = some s → s.k ≠ 0
  fr : ∀ L : List Ns, (∀ j, l.length ≤ j → j < l'.length → L[j]? = l'[j]?) →
    (∀ n w j s, L[j]? = some s → s.k = 0 → Pn L n x.toNat w j → ∃ b ∈ bs, ∃ m, Pn L m b.toNat w j) ∧ (∀ b ∈ bs, ∀ n w j, Pn L n b.toNat w j → ∃ m, Pn L m x.toNat w j)
theorem joinB_fr : ∀ (bs : List Int) (l : List Ns), 1 ≤ bs.length → l.length + (bs.length - 1) ≤ 20000 → (∀ b ∈ bs, 0 ≤ b ∧ b < l.length) → JoinP bs l (joinB 20000 bs l).1 (joinB 20000 bs l).2
  | [], l, h, _, _ => by simp at h
  | [b], l, _, _, hb => by
    refine ⟨Nat.le_refl _, fun _ _ => rfl, fun h => h, hb b (by simp), fun j s h1 h2 => ?_, fun L _ => ⟨fun n w j s _ _ hp => ⟨b, by simp, n, hp⟩, fun b' hb' n w j hp => ?_⟩⟩
    · rw [show (joinB 20000 [b] l).1 = l from rfl, List.getElem?_eq_none h1] at h2; cases h2
    · simp at hb'; subst hb'; exact ⟨n, hp⟩
  | b :: b2 :: bs, l, _, hl, hb => by
    simp only [List.length_cons] at hl
    have P := joinB_fr (b2 :: bs) l (by simp) (by simp; omega) (fun x hx => hb x (by simp at hx ⊢; exact .inr hx))
    have hmin := joinB_min 20000 (b2 :: bs) l (by omega)
    simp only [List.length_cons] at hmin
    have e : joinB 20000 (b :: b2 :: bs) l = ((joinB 20000 (b2 :: bs) l).1 ++ [spl b (joinB 20000 (b2 :: bs) l).2], ((joinB 20000 (b2 :: bs) l).1.length : Int)) := pst_fit (by omega)
    rw [e]
    generalize joinB 20000 (b2 :: bs) l = J at *
    have ple := P.le
    have px := P.x0
    have hb0 := hb b (by simp)
    refine ⟨by simp; omega, fun j hj => (get_pre (by omega)).trans (P.pre j hj), fun h => (P.ok h).snoc (spl_ok (by omega) (by omega)), by simp; omega, fun j s hj hs => ?_, fun L hL => ?_⟩
    · by_cases c : j < J.1.length
      · rw [get_pre c] at hs
        exact P.kk j s hj hs
      · have : j = J.1.length := by
          have := (List.getElem?_eq_some_iff.1 hs).1
          simp at this; omega
        subst this
        rw [get_last] at hs
        injection hs with hs; subst hs; simp [spl]
    · simp only [List.length_append, List.length_singleton] at hL
      have eL := hL J.1.length (by omega) (by omega)
      rw [get_last] at eL
      obtain ⟨f1, f2⟩ := P.fr L fun j h1 h2 => (hL j h1 (by omega)).trans (get_pre h2)
      refine ⟨fun n w j s hj hk hp => ?_, fun x hx n w j hp => ?_⟩
      · rw [Int.toNat_natCast] at hp
        have hne : j ≠ J.1.length := fun e => by
          rw [e, eL] at hj
          injection hj with hj; subst hj; simp [spl] at hk
        obtain ⟨m, rfl, hp | hp⟩ := split_way eL hne hp
        · exact ⟨b, by simp, m, hp⟩
        · obtain ⟨y, hy, m2, hm2⟩ := f1 m w j s hj hk hp
          exact ⟨y, by simp at hy ⊢; exact .inr hy, m2, hm2⟩
      · rw [Int.toNat_natCast]
        rcases List.mem_cons.1 hx with rfl | hx
        · exact ⟨n + 1, .a eL rfl hp⟩
        · obtain ⟨m, hm⟩ := f2 x hx n w j hp
          exact ⟨m + 1, .b eL rfl hm⟩
/-! ### The stage's theorem -/
/-- The m-th tree has a text. -/
def Fo.has (f : Fo) (m : Nat) (u : List Nat) : Prop := m < f.len ∧ (lg (f.drop m)).one u
/-- The place of the first tree that has a text; none. -/
def TagIs (f : Fo) (u : List Nat) (t : Int) : Prop := (t = -1 ∧ ∀ m, ¬ f.has m u) ∨ (∃ m : Nat, t = m ∧ f.has m u ∧ ∀ m', m' < m → ¬ f.has m' u)
theorem machine_right {f : Fo} (h1 : 1 ≤ f.len) (h2 : f.len ≤ 200) (hr : f.right = true) (ht : f.total ≤ 20000) : nfRight (bldM f).2 (bldM f).1 = true ∧ ∃ es : List Nat, es.length = f.len ∧ (∀ (m e : Nat), es[m]? = some e → (bldM f).1[e]? = some ⟨0, 0, 0, 0, 0, 0, 0, (m : Int)⟩) ∧
    (∀ (j : Nat) (s : Ns), (bldM f).1[j]? = some s → s.k = 0 → ∃ m : Nat, es[m]? = some j ∧ s.t = (m : Int)) ∧ (∀ (m e : Nat) (u : List Nat), es[m]? = some e → ((∃ n, Pn (bldM f).1 n (bldM f).2.toNat u e) ↔ f.has m u)) := by
  unfold Fo.total at ht
  obtain ⟨bs, es, hb, P⟩ := bldF_fr f 0 [] [] hr (by simp; omega)
  rw [List.nil_append] at hb
  have hlen := (bldF_min 20000 f 0 [] [] hr (by simp)).1
  simp only [List.length_nil] at hlen
  have J := joinB_fr bs (bldF 20000 f 0 [] []).1 (by rw [P.bl]; exact h1) (by rw [P.bl]; omega) P.b0
  have hjl := joinB_min 20000 bs (bldF 20000 f 0 [] []).1 (by omega)
  have e : bldM f = joinB 20000 bs (bldF 20000 f 0 [] []).1 := by unfold bldM; rw [hb]
  rw [e]
  have pbl := P.bl
  have jle := J.le
  generalize joinB 20000 bs (bldF 20000 f 0 [] []).1 = R at *
  generalize (bldF 20000 f 0 [] []).1 = l' at *
  have hok : AllOk R.1 := J.ok (P.ok (by omega) (by omega) (by intro x hx; cases hx))
  refine ⟨?_, es, P.el, fun m x he => ?_, fun j s hj hk => ?_, fun m x u he => ?_⟩
  · unfold nfRight
    rw [Bool.and_eq_true, decide_eq_true_eq, List.all_eq_true]
    exact ⟨⟨J.x0.1, J.x0.2, by omega⟩, fun x hx => decide_eq_true (hok x hx)⟩
  · obtain ⟨g1, g2, g3⟩ := P.e0 m x he
    rw [J.pre x g2, g3]
    simp
  · have hjl' : j < l'.length := Nat.lt_of_not_le fun hc => J.kk j s hc hj hk
    rw [J.pre j hjl'] at hj
    obtain ⟨m, hm⟩ := P.ek j s (by simp) hj hk
    obtain ⟨_, _, g3⟩ := P.e0 m j hm
    rw [hj] at g3
    injection g3 with g3
    exact ⟨m, hm, by rw [g3]; simp⟩
  · have hml : m < f.len := by rw [← P.el]; exact (List.getElem?_eq_some_iff.1 he).1
    have hbm : bs[m]? = some (bs[m]'(by omega)) := List.getElem?_eq_getElem (by omega)
    have F := P.fr R.1 (fun j _ h2 => J.pre j h2) m _ x hbm he
    obtain ⟨g1, g2, g3⟩ := P.e0 m x he
    have eR : R.1[x]? = some ⟨0, 0, 0, 0, 0, 0, 0, 0 + m⟩ := (J.pre x g2).trans g3
    obtain ⟨j1, j2⟩ := J.fr R.1 fun _ _ _ => rfl
    constructor
    · rintro ⟨n, hp⟩
      obtain ⟨b, hb', m2, hm2⟩ := j1 n u x _ eR rfl hp
      obtain ⟨i, hi, rfl⟩ := List.getElem_of_mem hb'
      have hei : es[i]? = some (es[i]'(by rw [P.el]; omega)) := List.getElem?_eq_getElem _
      have Fi := P.fr R.1 (fun j _ h2 => J.pre j h2) i _ _ (List.getElem?_eq_getElem hi) hei
      obtain ⟨q1, q2⟩ := Fi.2 m2 u x _ eR rfl hm2
      obtain ⟨_, _, g4⟩ := P.e0 i _ hei
      rw [← q1, g3] at g4
      injection g4 with g4
      have : (0 : Int) + m = 0 + i := by injection g4
      have him : i = m := by omega
      subst him
      exact ⟨hml, q2⟩
    · rintro ⟨_, hu⟩
      obtain ⟨n, hn⟩ := F.1 u hu
      exact j2 _ (List.getElem_mem _) n u x hn
theorem machine_tags {f : Fo} (h1 : 1 ≤ f.len) (h2 : f.len ≤ 200) (hr : f.right = true) (ht : f.total ≤ 20000) (s : List Nat) (i : Nat) (hi : i ≤ s.length) : ∃ t, (nfRun (bldM f).2 (bldM f).1 s)[i]? = some t ∧ TagIs f (s.take i) t := by
  obtain ⟨hright, es, hel, he, hk, hp⟩ := machine_right h1 h2 hr ht
  obtain ⟨hok, hs0, hs1, hlen, hall⟩ := okL_of_right hright
  obtain ⟨N, hN, hRd⟩ := nfRun_at hok hs0 hs1 s i hi
  refine ⟨_, hN, ?_⟩
  have ht0 : ∀ x ∈ (bldM f).1, x.k = 0 → 0 ≤ x.t := fun x hx hk => by
    have := hall x hx
    unfold okNs at this
    omega
  obtain ⟨t1, _, t3, t4⟩ := tagF_spec N (bldM f).1 (-1) ht0 (by omega)
  have hasOn : ∀ m, f.has m (s.take i) → ∃ j s', On N j ∧ (bldM f).1[j]? = some s' ∧ s'.k = 0 ∧ s'.t = m := fun m hm => by
    have hem : es[m]? = some (es[m]'(by rw [hel]; exact hm.1)) := List.getElem?_eq_getElem _
    exact ⟨_, _, (hRd.2 _).2 ((hp m _ _ hem).2 hm), he m _ hem, rfl, rfl⟩
  have onHas : ∀ j s', On N j → (bldM f).1[j]? = some s' → s'.k = 0 → ∃ m : Nat, s'.t = m ∧ f.has m (s.take i) := fun j s' hj hs' hk' => by
    obtain ⟨m, hm, hst⟩ := hk j s' hs' hk'
    exact ⟨m, hst, (hp m j _ hm).1 ((hRd.2 j).1 hj)⟩
  generalize tagF N (bldM f).1 (-1) = t at *
  rcases t3 with e | ⟨j, s', e1, e2, e3, e4⟩
  · refine .inl ⟨e, fun m hm => ?_⟩
    obtain ⟨j, s', g1, g2, g3, g4⟩ := hasOn m hm
    have := t4 j s' g1 g2 g3
    omega
  · obtain ⟨m, hm, hh⟩ := onHas j s' e1 e2 e3
    refine .inr ⟨m, by omega, hh, fun m' hm' hh' => ?_⟩
    obtain ⟨j2, s2, g1, g2, g3, g4⟩ := hasOn m' hh'
    have := t4 j2 s2 g1 g2 g3
    omega
theorem TagIs.uniq {f : Fo} {u : List Nat} {t t' : Int} (h : TagIs f u t) (h' : TagIs f u t') : t = t' := by
  rcases h with ⟨rfl, h⟩ | ⟨m, rfl, h1, h2⟩ <;> rcases h' with ⟨rfl, h'⟩ | ⟨m', rfl, h1', h2'⟩
  · rfl
  · exact absurd h1' (h m')
  · exact absurd h1 (h' m)
  · have : m = m' := by
      rcases Nat.lt_trichotomy m m' with c | c | c
      · exact absurd h1 (h2' m c)
      · exact c
      · exact absurd h1' (h2 m' c)
    rw [this]
end Fk
