/- First machines: what a tree's states read (the texts of the tree). -/
import Derived.Test.YtpgjpgecgibklaaN22
set_option linter.unusedVariables false
set_option linter.unusedSimpArgs false
namespace Fk
open Go Go.Proofs Go.RowKit
/-! ### The texts of trees -/
inductive StarL (La : List Nat → Prop) : List Nat → Prop
  | nil : StarL La []
  | app {u v : List Nat} : La u → StarL La v → StarL La (u ++ v)
structure Lg where
  cat : List Nat → Prop
  alt : List Nat → Prop
  one : List Nat → Prop
def lgOne (k a b c d : Int) (Q : Lg) (u : List Nat) : Prop :=
  (k = 1 ∧ ∃ x, u = [x] ∧ inQ (a, b, c, d) x = true) ∨ (k = 2 ∧ Q.cat u) ∨ (k = 3 ∧ Q.alt u) ∨ (k = 4 ∧ StarL Q.one u) ∨ (k = 0 ∧ u = [])
/-- The texts of a row of trees: one behind the other; of one of them; of the first. -/
def lg : Fo → Lg
  | .nil => ⟨fun u => u = [], fun _ => False, fun _ => False⟩
  | .cons k a b c d q r => ⟨fun u => ∃ v w, u = v ++ w ∧ lgOne k a b c d (lg q) v ∧ (lg r).cat w, fun u => lgOne k a b c d (lg q) u ∨ (lg r).alt u, lgOne k a b c d (lg q)⟩
/-! ### Ways -/
/-- A way from a state to a state, of at most so many steps, by a text. -/
inductive Pn (L : List Ns) : Nat → Nat → List Nat → Nat → Prop
  | refl (n i : Nat) : Pn L n i [] i
  | a {n i : Nat} {x : Ns} {u : List Nat} {j : Nat} : L[i]? = some x → x.k = 2 → Pn L n x.a.toNat u j → Pn L (n + 1) i u j
  | b {n i : Nat} {x : Ns} {u : List Nat} {j : Nat} : L[i]? = some x → x.k = 2 → Pn L n x.b.toNat u j → Pn L (n + 1) i u j
  | byte {n i : Nat} {x : Ns} {c : Nat} {u : List Nat} {j : Nat} : L[i]? = some x → x.k = 1 → inQ x.q c = true → Pn L n x.a.toNat u j → Pn L (n + 1) i (c :: u) j
theorem Pn.up {L : List Ns} {n m i j : Nat} {u : List Nat} (h : Pn L n i u j) (hm : n ≤ m) : Pn L m i u j := by
  induction h generalizing m with
  | refl n i => exact .refl _ _
  | a h1 h2 _ ih => obtain ⟨m, rfl⟩ : ∃ k, m = k + 1 := ⟨m - 1, by omega⟩; exact .a h1 h2 (ih (by omega))
  | b h1 h2 _ ih => obtain ⟨m, rfl⟩ : ∃ k, m = k + 1 := ⟨m - 1, by omega⟩; exact .b h1 h2 (ih (by omega))
  | byte h1 h2 h3 _ ih => obtain ⟨m, rfl⟩ : ∃ k, m = k + 1 := ⟨m - 1, by omega⟩; exact .byte h1 h2 h3 (ih (by omega))
theorem Pn.trans {L : List Ns} {n m i j k : Nat} {u v : List Nat} (h : Pn L n i u j) (h2 : Pn L m j v k) : Pn L (n + m) i (u ++ v) k := by
  induction h with
  | refl n i => exact h2.up (by omega)
  | @a n i x u j e1 e2 _ ih => rw [show n + 1 + m = (n + m) + 1 by omega]; exact .a e1 e2 (ih h2)
  | @b n i x u j e1 e2 _ ih => rw [show n + 1 + m = (n + m) + 1 by omega]; exact .b e1 e2 (ih h2)
  | @byte n i x c u j e1 e2 e3 _ ih => rw [show n + 1 + m = (n + m) + 1 by omega]; exact .byte e1 e2 e3 (ih h2)
def FragP (L : List Ns) (lo hi : Nat) (x to : Int) (La : List Nat → Prop) : Prop :=
  (∀ u, La u → ∃ n, Pn L n x.toNat u to.toNat) ∧ (∀ n w j, (j < lo ∨ hi ≤ j) → Pn L n x.toNat w j → ∃ u v m, m ≤ n ∧ w = u ++ v ∧ La u ∧ Pn L m to.toNat v j)
def AllOk (l : List Ns) : Prop := ∀ x ∈ l, okNs l.length x
theorem okNs_mono {m m' : Int} {x : Ns} (h : okNs m x) (hm : m ≤ m') : okNs m' x := by
  rcases h with h | h | h
  · exact .inl h
  · exact .inr (.inl ⟨h.1, h.2.1, h.2.2.1, by omega, h.2.2.2.2⟩)
  · exact .inr (.inr ⟨h.1, h.2.1, h.2.2.1, by omega, h.2.2.2.2.1, by omega, h.2.2.2.2.2.2⟩)
theorem AllOk.snoc {l : List Ns} {x : Ns} (h : AllOk l) (hx : okNs (l.length + 1) x) : AllOk (l ++ [x]) := by
  intro y hy
  rw [List.length_append, List.length_singleton]
  rcases List.mem_append.1 hy with h1 | h1
  · exact okNs_mono (h y h1) (by omega)
  · simp at h1; subst h1
    rw [Int.natCast_add]
    exact hx
/-- A piece of a machine: from x on, toward 'to', it reads these texts. -/
structure Frp (l : List Ns) (to : Int) (l' : List Ns) (x : Int) (La : List Nat → Prop) : Prop where
  le : l.length ≤ l'.length
  pre : ∀ i, i < l.length → l'[i]? = l[i]?
  x0 : 0 ≤ x ∧ x < l'.length
  kk : ∀ i s, l.length ≤ i → l'[i]? = some s → s.k ≠ 0
  ok : AllOk l → AllOk l'
  fr : ∀ L : List Ns, (∀ i, l.length ≤ i → i < l'.length → L[i]? = l'[i]?) → FragP L l.length l'.length x to La
theorem Frp.congr {l : List Ns} {to : Int} {l' : List Ns} {x : Int} {La Lb : List Nat → Prop} (h : Frp l to l' x La) (hi : ∀ u, La u ↔ Lb u) : Frp l to l' x Lb := by
  have : La = Lb := funext fun u => propext (hi u)
  rw [← this]; exact h
theorem Frp.refl {l : List Ns} {to : Int} (h : 0 ≤ to ∧ to < l.length) : Frp l to l to (fun u => u = []) :=
  ⟨Nat.le_refl _, fun _ _ => rfl, h, (fun i s h1 h2 => by rw [List.getElem?_eq_none h1] at h2; cases h2), fun h => h, fun L _ => ⟨fun u hu => by subst hu; exact ⟨0, .refl _ _⟩, fun n w j _ hp => ⟨[], w, n, Nat.le_refl _, rfl, rfl, hp⟩⟩⟩
theorem Frp.cat {l l1 l2 : List Ns} {to x1 x2 : Int} {La Lb : List Nat → Prop} (h1 : Frp l to l1 x1 La) (h2 : Frp l1 x1 l2 x2 Lb) : Frp l to l2 x2 (fun u => ∃ v w, u = v ++ w ∧ Lb v ∧ La w) := by
  have e1 := h1.le
  have e2 := h2.le
  refine ⟨by omega, fun i hi => (h2.pre i (by omega)).trans (h1.pre i hi), h2.x0, fun i s hi hs => ?_, fun h => h2.ok (h1.ok h), fun L hL => ?_⟩
  · by_cases c : i < l1.length
    · exact h1.kk i s hi ((h2.pre i c).symm.trans hs)
    · exact h2.kk i s (by omega) hs
  · obtain ⟨a1, a2⟩ := h1.fr L fun i hi hi2 => (hL i hi (by omega)).trans (h2.pre i hi2)
    obtain ⟨b1, b2⟩ := h2.fr L fun i hi hi2 => hL i (by omega) hi2
    refine ⟨fun u hu => ?_, fun n w j hj hp => ?_⟩
    · obtain ⟨v, w, rfl, hv, hw⟩ := hu
      obtain ⟨n, hn⟩ := b1 v hv
      obtain ⟨m, hm⟩ := a1 w hw
      exact ⟨n + m, hn.trans hm⟩
    · obtain ⟨u, v, m, hm, rfl, hu, hp2⟩ := b2 n w j (by omega) hp
      obtain ⟨u2, v2, m2, hm2, rfl, hu2, hp3⟩ := a2 m v j (by omega) hp2
      exact ⟨u ++ u2, v2, m2, by omega, by rw [List.append_assoc], ⟨u, u2, rfl, hu, hu2⟩, hp3⟩
theorem get_last (l : List Ns) (x : Ns) : (l ++ [x])[l.length]? = some x := by simp
theorem get_pre {l : List Ns} {x : Ns} {i : Nat} (h : i < l.length) : (l ++ [x])[i]? = l[i]? := List.getElem?_append_left h
theorem Frp.set {l : List Ns} {to : Int} (h : 0 ≤ to ∧ to < l.length) {a b c d : Int} (hz : z4 a b c d = false) : Frp l to (l ++ [⟨1, a, b, c, d, to, 0, 0⟩]) (l.length : Int) (fun u => ∃ x, u = [x] ∧ inQ (a, b, c, d) x = true) := by
  refine ⟨by simp, fun i hi => get_pre hi, by simp; omega, fun i s h1 h2 => ?_, fun h' => h'.snoc ?_, fun L hL => ?_⟩
  · have hi : i = l.length := by
      have := (List.getElem?_eq_some_iff.1 h2).1
      simp at this; omega
    subst hi
    rw [get_last] at h2
    injection h2 with h2; subst h2; simp
  · unfold okNs
    refine .inr (.inl ⟨rfl, ?_, h.1, by simp only; omega, rfl, rfl⟩)
    unfold z4 at hz
    simp [Ns.zs] at hz ⊢
    omega
  · have e := hL l.length (Nat.le_refl _) (by simp)
    rw [get_last] at e
    refine ⟨fun u hu => ?_, fun n w j hj hp => ?_⟩
    · obtain ⟨x, rfl, hx⟩ := hu
      exact ⟨1, by rw [Int.toNat_natCast]; exact .byte e rfl hx (.refl 0 _)⟩
    · rw [Int.toNat_natCast] at hp
      simp only [List.length_append, List.length_singleton] at hj
      generalize hx : l.length = i at *
      cases hp with
      | refl => omega
      | a e1 e2 _ => rw [e] at e1; injection e1 with e1; subst e1; simp at e2
      | b e1 e2 _ => rw [e] at e1; injection e1 with e1; subst e1; simp at e2
      | @byte n _ x c u _ e1 e2 e3 hp =>
        rw [e] at e1; injection e1 with e1; subst e1
        exact ⟨[c], u, n, by omega, rfl, ⟨c, rfl, e3⟩, hp⟩
/-- Behind a choice. -/
theorem split_way {L : List Ns} {i : Nat} {a b : Int} (e : L[i]? = some (spl a b)) {n : Nat} {w : List Nat} {j : Nat} (hj : j ≠ i) (hp : Pn L n i w j) : ∃ m, n = m + 1 ∧ (Pn L m a.toNat w j ∨ Pn L m b.toNat w j) := by
  cases hp with
  | refl => exact absurd rfl hj
  | @a n _ x _ _ e1 e2 hp => rw [e] at e1; injection e1 with e1; subst e1; exact ⟨n, rfl, .inl hp⟩
  | @b n _ x _ _ e1 e2 hp => rw [e] at e1; injection e1 with e1; subst e1; exact ⟨n, rfl, .inr hp⟩
  | byte e1 e2 _ _ => rw [e] at e1; injection e1 with e1; subst e1; simp [spl] at e2
theorem spl_ok {m a b : Int} (ha : 0 ≤ a ∧ a < m) (hb : 0 ≤ b ∧ b < m) : okNs m (spl a b) := .inr (.inr ⟨rfl, by unfold Ns.zs spl; simp, ha.1, ha.2, hb.1, hb.2, rfl⟩)
theorem Frp.alt {l l1 l2 : List Ns} {to x1 x2 : Int} {La Lb : List Nat → Prop} (h1 : Frp l to l1 x1 La) (h2 : Frp l1 to l2 x2 Lb) : Frp l to (l2 ++ [spl x2 x1]) (l2.length : Int) (fun u => Lb u ∨ La u) := by
  have e1 := h1.le
  have e2 := h2.le
  have y1 := h1.x0
  have y2 := h2.x0
  refine ⟨by simp; omega, fun i hi => (get_pre (by omega)).trans ((h2.pre i (by omega)).trans (h1.pre i hi)), by simp; omega, fun i s hi hs => ?_, fun h => (h2.ok (h1.ok h)).snoc (spl_ok (by omega) (by omega)), fun L hL => ?_⟩
  · by_cases c2 : i < l2.length
    · rw [get_pre c2] at hs
      by_cases c : i < l1.length
      · exact h1.kk i s hi ((h2.pre i c).symm.trans hs)
      · exact h2.kk i s (by omega) hs
    · have : i = l2.length := by
        have := (List.getElem?_eq_some_iff.1 hs).1
        simp at this; omega
      subst this
      rw [get_last] at hs
      injection hs with hs; subst hs; simp [spl]
  · simp only [List.length_append, List.length_singleton] at hL ⊢
    obtain ⟨a1, a2⟩ := h1.fr L fun i hi hi2 => ((hL i hi (by omega)).trans (get_pre (by omega))).trans (h2.pre i hi2)
    obtain ⟨b1, b2⟩ := h2.fr L fun i hi hi2 => (hL i (by omega) (by omega)).trans (get_pre hi2)
    have e := hL l2.length (by omega) (by omega)
    rw [get_last] at e
    refine ⟨fun u hu => ?_, fun n w j hj hp => ?_⟩
    · rw [Int.toNat_natCast]
      rcases hu with hu | hu
      · obtain ⟨n, hn⟩ := b1 u hu
        exact ⟨n + 1, .a e rfl hn⟩
      · obtain ⟨n, hn⟩ := a1 u hu
        exact ⟨n + 1, .b e rfl hn⟩
    · rw [Int.toNat_natCast] at hp
      obtain ⟨m, rfl, hp | hp⟩ := split_way e (by omega) hp
      · obtain ⟨u, v, m2, hm2, rfl, hu, hp2⟩ := b2 m w j (by omega) hp
        exact ⟨u, v, m2, by omega, rfl, .inl hu, hp2⟩
      · obtain ⟨u, v, m2, hm2, rfl, hu, hp2⟩ := a2 m w j (by omega) hp
        exact ⟨u, v, m2, by omega, rfl, .inr hu, hp2⟩
theorem Frp.star {l l2 : List Ns} {to kid : Int} {La : List Nat → Prop} (ht : 0 ≤ to ∧ to < l.length) (h : Frp (l ++ [spl 0 to]) (l.length : Int) l2 kid La) : Frp l to (setA l2 (l.length : Int) kid) (l.length : Int) (StarL La) := by
  have e1 := h.le
  simp only [List.length_append, List.length_singleton] at e1
  have eg : l2[l.length]? = some (spl 0 to) := (h.pre l.length (by simp)).trans (get_last _ _)
  have es : setA l2 (l.length : Int) kid = l2.set l.length (spl kid to) := by
    unfold setA
    rw [Int.toNat_natCast, eg]
    rfl
  have hk := h.x0
  rw [es]
  refine ⟨by simp; omega, fun i hi => ?_, by simp; omega, fun i s hi hs => ?_, fun ha => ?_, fun L hL => ?_⟩
  · rw [List.getElem?_set_ne (by omega), h.pre i (by simp; omega), get_pre hi]
  · by_cases c : i = l.length
    · subst c
      rw [List.getElem?_set_self (by omega)] at hs
      injection hs with hs; subst hs; simp [spl]
    · rw [List.getElem?_set_ne (by omega)] at hs
      exact h.kk i s (by simp; omega) hs
  · have := h.ok (ha.snoc (spl_ok (by omega) (by omega)))
    intro y hy
    rw [List.length_set]
    rcases List.mem_or_eq_of_mem_set hy with h1 | h1
    · exact this y h1
    · subst h1; exact spl_ok (by omega) (by omega)
  · rw [List.length_set] at hL ⊢
    have e := hL l.length (Nat.le_refl _) (by omega)
    rw [List.getElem?_set_self (by omega)] at e
    obtain ⟨a1, a2⟩ := h.fr L fun i hi hi2 => by
      simp at hi
      rw [hL i (by omega) hi2, List.getElem?_set_ne (by omega)]
    rw [Int.toNat_natCast] at a1 a2
    simp only [List.length_append, List.length_singleton] at a2
    refine ⟨fun u hu => ?_, fun n => ?_⟩
    · rw [Int.toNat_natCast]
      induction hu with
      | nil => exact ⟨1, .b e rfl (.refl _ _)⟩
      | app hu _ ih =>
        obtain ⟨n, hn⟩ := a1 _ hu
        obtain ⟨m, hm⟩ := ih
        exact ⟨n + m + 1, .a e rfl (hn.trans hm)⟩
    · rw [Int.toNat_natCast]
      induction n using Nat.strongRecOn with
      | ind n ih =>
        intro w j hj hp
        obtain ⟨m, rfl, hp | hp⟩ := split_way e (by omega) hp
        · obtain ⟨u, v, m2, hm2, rfl, hu, hp2⟩ := a2 m w j (by omega) hp
          obtain ⟨u3, v3, m3, hm3, rfl, hu3, hp3⟩ := ih m2 (by omega) v j hj hp2
          exact ⟨u ++ u3, v3, m3, by omega, by rw [List.append_assoc], .app hu hu3, hp3⟩
        · exact ⟨[], w, m, by omega, rfl, .nil, hp⟩
theorem tw_fr : ∀ f : Fo, f.right = true →
    (∀ p : List Ns × Int, p.1.length + f.cnt ≤ 20000 → 0 ≤ p.2 ∧ p.2 < p.1.length → Frp p.1 p.2 ((tw 20000 f).cat p).1 ((tw 20000 f).cat p).2 (lg f).cat) ∧
    (∀ (to : Int) (l : List Ns), l.length + (f.cnt + (f.len - 1)) ≤ 20000 → 0 ≤ to ∧ to < l.length → 1 ≤ f.len → ∃ x, ((tw 20000 f).alt to l).2 = some x ∧ Frp l to ((tw 20000 f).alt to l).1 x (lg f).alt) ∧
    (∀ p : List Ns × Int, p.1.length + f.cnt1 ≤ 20000 → 0 ≤ p.2 ∧ p.2 < p.1.length → 1 ≤ f.len → Frp p.1 p.2 ((tw 20000 f).one p).1 ((tw 20000 f).one p).2 (lg f).one)
  | .nil, _ => ⟨fun p _ h => Frp.refl h, fun to l _ _ h => by simp [Fo.len] at h, fun p _ _ h => by simp [Fo.len] at h⟩
  | .cons k a b c d q r, hr => by
    have hr0 := hr
    simp only [Fo.right, Bool.and_eq_true] at hr
    obtain ⟨q1, q2, q3⟩ := tw_fr q hr.1.2
    obtain ⟨r1, r2, r3⟩ := tw_fr r hr.2
    have hn := nodeOk_inv hr.1.1
    have one : ∀ p : List Ns × Int, p.1.length + cntK k q.len q.cnt ≤ 20000 → 0 ≤ p.2 ∧ p.2 < p.1.length → Frp p.1 p.2 (twOne 20000 k a b c d (tw 20000 q) p).1 (twOne 20000 k a b c d (tw 20000 q) p).2 (lgOne k a b c d (lg q)) := by
      intro p hp ht
      unfold twOne
      rw [if_neg (show ¬ p.1.length > 20000 by omega)]
      rcases hn with ⟨rfl, h2, _⟩ | ⟨rfl, h2, hz⟩ | ⟨rfl, h2, _⟩ | ⟨rfl, h2, _⟩ | ⟨rfl, h2, _⟩
      · simp
        exact (Frp.refl ht).congr fun u => by simp [lgOne]
      · simp only [if_true]
        rw [pst_fit (by omega)]
        exact (Frp.set ht hz).congr fun u => by simp [lgOne]
      · simp [cntK] at hp ⊢
        exact (q1 p hp ht).congr fun u => by simp [lgOne]
      · simp [cntK] at hp ⊢
        obtain ⟨x, hx, hf⟩ := q2 p.2 p.1 (by omega) ht (by omega)
        rw [hx]
        exact hf.congr fun u => by simp [lgOne]
      · have hq : q.cnt1 = q.cnt := by
          cases q with
          | nil => simp [Fo.len] at h2
          | cons k' a' b' c' d' q' r' =>
            have hr' : r' = .nil := len_zero (by simp [Fo.len] at h2; omega)
            subst hr'
            simp [Fo.cnt, Fo.cnt1]
        simp [cntK] at hp ⊢
        rw [pst_fit (by omega)]
        have hf := q3 (p.1 ++ [spl 0 p.2], (p.1.length : Int)) (by simp; omega) (by simp; omega) (by omega)
        exact (Frp.star ht hf).congr fun u => by simp [lgOne]
    refine ⟨fun p hp ht => ?_, fun to l hl ht _ => ?_, fun p hp ht _ => one p hp ht⟩
    · simp only [Fo.cnt] at hp
      have f1 := r1 p (by omega) ht
      have h1 := (tw_min 20000 r hr.2).1 p (by omega)
      exact f1.cat (one _ (by omega) f1.x0)
    · simp only [Fo.cnt, Fo.len] at hl
      have h1 := (tw_min 20000 r hr.2).2.1 to l (by omega)
      show ∃ x, (twAlt 20000 _ _ to l).2 = some x ∧ Frp l to (twAlt 20000 _ _ to l).1 x _
      unfold twAlt
      simp only
      have hlen : ((tw 20000 r).alt to l).1.length = l.length + (r.cnt + (r.len - 1)) := by omega
      by_cases hrl : r.len = 0
      · have := len_zero hrl
        subst this
        have e : (tw 20000 .nil).alt to l = (l, none) := rfl
        rw [e]
        simp only
        refine ⟨_, rfl, (one (l, to) (by simp only; omega) ht).congr fun u => ?_⟩
        simp [lg]
      · obtain ⟨x, hx, hf⟩ := r2 to l (by omega) ht (by omega)
        rw [hx]
        simp only
        have f2 := one (((tw 20000 r).alt to l).1, to) (by simp only; omega) ⟨ht.1, by simp only; omega⟩
        have h3 := twOne_len_fit (a := a) (b := b) (c := c) (d := d) hr.1.1 hr.1.2 (((tw 20000 r).alt to l).1, to) (by simp only; omega)
        simp only at h3
        rw [pst_fit (by omega)]
        exact ⟨_, rfl, hf.alt f2⟩
end Fk
