/- Plain laws: classes as they are numbered, and what is so of them. -/
import Derived.Test.YtpgjpgecgibklaaC8
set_option linter.unusedVariables false
set_option linter.unusedSimpArgs false
set_option linter.unusedSectionVars false
set_option maxRecDepth 100000
namespace Fk
open Go Go.Proofs Go.RowKit
section
variable {K K' : Type} [DecidableEq K] [DecidableEq K']
theorem idxK_old {k : K} {l e : List K} (h : k ∈ l) : idxK k (l ++ e) = idxK k l := by
  unfold idxK; rw [List.idxOf_append, if_pos h]
theorem idxK_inj {a b : K} : ∀ {l : List K}, a ∈ l → b ∈ l → idxK a l = idxK b l → a = b
  | [], h, _, _ => by simp at h
  | x :: l, ha, hb, h => by
    rw [idxK_cons, idxK_cons] at h
    by_cases h1 : x = a
    · by_cases h2 : x = b
      · rw [← h1, h2]
      · rw [if_pos h1, if_neg h2] at h; omega
    · by_cases h2 : x = b
      · rw [if_neg h1, if_pos h2] at h; omega
      · rw [if_neg h1, if_neg h2] at h
        exact idxK_inj ((List.mem_cons.1 ha).resolve_left fun e => h1 e.symm) ((List.mem_cons.1 hb).resolve_left fun e => h2 e.symm) (by omega)
theorem idxK_map {S : List K} {g : K → K'} (hg : ∀ a ∈ S, ∀ b ∈ S, g a = g b → a = b) {k : K} (hk : k ∈ S) : ∀ {l : List K}, (∀ a ∈ l, a ∈ S) → idxK (g k) (l.map g) = idxK k l
  | [], _ => by simp [idxK]
  | x :: l, h => by
    rw [List.map_cons, idxK_cons, idxK_cons, idxK_map hg hk fun a ha => h a (List.mem_cons_of_mem _ ha)]
    by_cases e : x = k
    · rw [if_pos e, if_pos (by rw [e])]
    · rw [if_neg e, if_neg fun e' => e (hg x (h x (by simp)) k hk e')]
theorem mem_map_inj {S : List K} {g : K → K'} (hg : ∀ a ∈ S, ∀ b ∈ S, g a = g b → a = b) {k : K} (hk : k ∈ S) {l : List K} (hl : ∀ a ∈ l, a ∈ S) : g k ∈ l.map g ↔ k ∈ l := by
  constructor
  · intro h
    obtain ⟨a, ha, he⟩ := List.mem_map.1 h
    rwa [← hg a (hl a ha) k hk he]
  · exact List.mem_map_of_mem
theorem numGo_map {S : List K} {g : K → K'} (hg : ∀ a ∈ S, ∀ b ∈ S, g a = g b → a = b) : ∀ (ks kn : List K), (∀ a ∈ ks, a ∈ S) → (∀ a ∈ kn, a ∈ S) →
    numGo (ks.map g) (kn.map g) = ((numGo ks kn).1, (numGo ks kn).2.map g)
  | [], kn, _, _ => rfl
  | k :: ks, kn, h1, h2 => by
    have hk := h1 k (by simp)
    have ha : addK (g k) (kn.map g) = (addK k kn).map g := by
      unfold addK
      by_cases hm : k ∈ kn
      · rw [if_pos hm, if_pos ((mem_map_inj hg hk h2).2 hm)]
      · rw [if_neg hm, if_neg fun h => hm ((mem_map_inj hg hk h2).1 h)]; simp
    have h3 : ∀ a ∈ addK k kn, a ∈ S := by
      intro a ha'
      unfold addK at ha'
      split at ha'
      · exact h2 a ha'
      · rcases List.mem_append.1 ha' with h | h
        · exact h2 a h
        · simp at h; rw [h]; exact hk
    rw [List.map_cons, numGo, numGo, idxK_map hg hk h2, ha, numGo_map hg ks _ (fun a ha => h1 a (List.mem_cons_of_mem _ ha)) h3]
theorem numGo_ext : ∀ (ks kn : List K), ∃ e, (numGo ks kn).2 = kn ++ e
  | [], kn => ⟨[], by simp [numGo]⟩
  | k :: ks, kn => by
    obtain ⟨e, he⟩ := numGo_ext ks (addK k kn)
    by_cases hm : k ∈ kn
    · exact ⟨e, by rw [numGo]; simp only [he]; rw [addK_old hm]⟩
    · exact ⟨k :: e, by rw [numGo]; simp only [he]; rw [addK_new hm]; simp⟩
theorem addK_mem (k : K) (kn : List K) : k ∈ addK k kn := by
  unfold addK; split
  · assumption
  · simp
theorem addK_nodup {k : K} {kn : List K} (h : kn.Nodup) : (addK k kn).Nodup := by
  unfold addK; split
  · exact h
  · rename_i hm
    rw [List.nodup_append]
    exact ⟨h, by simp, fun a ha b hb => by simp at hb; rintro rfl; exact hm (hb ▸ ha)⟩
theorem addK_sub {k a : K} {kn : List K} (h : a ∈ addK k kn) : a = k ∨ a ∈ kn := by
  unfold addK at h; split at h
  · exact .inr h
  · rcases List.mem_append.1 h with h | h
    · exact .inr h
    · simp at h; exact .inl h
theorem numGo_mem : ∀ (ks kn : List K) (k : K), k ∈ ks → k ∈ (numGo ks kn).2
  | x :: ks, kn, k, h => by
    rw [numGo]
    rcases List.mem_cons.1 h with rfl | h
    · obtain ⟨e, he⟩ := numGo_ext ks (addK k kn)
      simp only [he]
      exact List.mem_append_left _ (addK_mem k kn)
    · exact numGo_mem ks _ k h
theorem numGo_nodup : ∀ (ks kn : List K), kn.Nodup → (numGo ks kn).2.Nodup
  | [], kn, h => h
  | k :: ks, kn, h => numGo_nodup ks _ (addK_nodup h)
theorem numGo_sub : ∀ (ks kn : List K) (a : K), a ∈ (numGo ks kn).2 → a ∈ kn ∨ a ∈ ks
  | [], kn, a, h => .inl h
  | k :: ks, kn, a, h => by
    rcases numGo_sub ks (addK k kn) a h with h | h
    · rcases addK_sub h with h | h
      · exact .inr (by simp [h])
      · exact .inl h
    · exact .inr (List.mem_cons_of_mem _ h)
theorem numGo_lab : ∀ (ks kn : List K), (numGo ks kn).1 = ks.map fun k => idxK k (numGo ks kn).2
  | [], kn => rfl
  | k :: ks, kn => by
    obtain ⟨e, he⟩ := numGo_ext ks (addK k kn)
    have hi : idxK k kn = idxK k (numGo ks (addK k kn)).2 := by
      rw [he, idxK_old (addK_mem k kn)]
      by_cases hm : k ∈ kn
      · rw [addK_old hm]
      · rw [addK_new hm, idxK_new hm, idxK, List.idxOf_append, if_neg hm]; simp
    rw [numGo]
    simp only [List.map_cons, ← hi]
    rw [← numGo_lab ks (addK k kn)]
end
/-! ### The program's classes are the document's -/
theorem keysOf_range (h : Nat → Nat) (q : Q4) (n : Nat) : keysOf ((List.range n).map h) q = (List.range n).map fun b => (h b, inQ q b) := by
  apply List.ext_getElem
  · simp [keysOf]
  · intro i h1 h2
    simp [keysOf]
theorem parted_gen {K : Type} [DecidableEq K] (σ : Nat → K) (n : Nat) (m : Int) (q : Q4) :
    Cl.parted ⟨(numGo ((List.range n).map σ) []).1, m⟩ q = ⟨(numGo ((List.range n).map fun b => (σ b, inQ q b)) []).1, (numGo ((List.range n).map fun b => (σ b, inQ q b)) []).2.length⟩ := by
  have hmem : ∀ b, b < n → σ b ∈ (numGo ((List.range n).map σ) []).2 := fun b hb => numGo_mem _ _ _ (List.mem_map_of_mem (List.mem_range.2 hb))
  have hl := numGo_lab ((List.range n).map σ) []
  rw [List.map_map] at hl
  generalize (numGo ((List.range n).map σ) []).2 = F at hmem hl
  obtain ⟨ps, hps⟩ : ∃ ps : List (K × Bool), ps = (List.range n).map fun b => (σ b, inQ q b) := ⟨_, rfl⟩
  have hS : ∀ p ∈ ps, p.1 ∈ F := by
    intro p hp
    rw [hps] at hp
    obtain ⟨b, hb, rfl⟩ := List.mem_map.1 hp
    exact hmem b (List.mem_range.1 hb)
  have e1 : keysOf ((List.range n).map ((fun k => idxK k F) ∘ σ)) q = ps.map fun p => (idxK p.1 F, p.2) := by
    rw [keysOf_range, hps, List.map_map]
    exact List.map_congr_left fun _ _ => rfl
  have n1 := numGo_map (S := ps) (g := fun p : K × Bool => (idxK p.1 F, p.2)) (fun a ha b hb h => by
    simp only [Prod.mk.injEq] at h
    exact Prod.ext (idxK_inj (hS a ha) (hS b hb) h.1) h.2) ps [] (fun a h => h) (by simp)
  simp only [List.map_nil] at n1
  unfold Cl.parted
  simp only [hl, e1]
  rw [n1, ← hps]
  simp only [List.length_map]
theorem num_snoc (l : List Q4) (q : Q4) (n : Nat) : (numGo ((List.range n).map (sig (l ++ [q]))) []).1 = (numGo ((List.range n).map fun b => (sig l b, inQ q b)) []).1 ∧
    (numGo ((List.range n).map (sig (l ++ [q]))) []).2.length = (numGo ((List.range n).map fun b => (sig l b, inQ q b)) []).2.length := by
  obtain ⟨ps, hps⟩ : ∃ ps : List (List Bool × Bool), ps = (List.range n).map fun b => (sig l b, inQ q b) := ⟨_, rfl⟩
  have e2 : (List.range n).map (sig (l ++ [q])) = ps.map fun p => p.1 ++ [p.2] := by
    rw [hps, List.map_map]
    exact List.map_congr_left fun b _ => by simp [sig]
  have n2 := numGo_map (S := ps) (g := fun p : List Bool × Bool => p.1 ++ [p.2]) (fun a ha b hb h => by
    have := List.append_inj' h rfl
    simp at this
    exact Prod.ext this.1 this.2) ps [] (fun a h => h) (by simp)
  simp only [List.map_nil] at n2
  rw [e2, n2, ← hps]
  simp
theorem refCl_parted (l : List Q4) (q : Q4) : (refCl l).parted q = refCl (l ++ [q]) := by
  unfold refCl
  rw [parted_gen, (num_snoc l q 256).1, (num_snoc l q 256).2]
theorem foldl_ref : ∀ (l l' : List Q4), l.foldl Cl.parted (refCl l') = refCl (l' ++ l)
  | [], l' => by simp
  | q :: l, l' => by rw [List.foldl_cons, refCl_parted, foldl_ref l]; simp
theorem refCl_nil : refCl [] = zCl 1 := by kernel_rfl
theorem clOf_ref (l : List Q4) : clOf l = refCl l := by
  unfold clOf
  rw [← refCl_nil, foldl_ref]; simp
/-- Bytes are of one class just if the sets say the same of them. -/
theorem num_at {K : Type} [DecidableEq K] (σ : Nat → K) (n : Nat) {b : Nat} (hb : b < n) : (numGo ((List.range n).map σ) []).1[b]? = some (idxK (σ b) (numGo ((List.range n).map σ) []).2) := by
  rw [numGo_lab ((List.range n).map σ) []]
  generalize (numGo ((List.range n).map σ) []).2 = F
  simp [hb]
theorem num_mem {K : Type} [DecidableEq K] (σ : Nat → K) (n : Nat) {b : Nat} (hb : b < n) : σ b ∈ (numGo ((List.range n).map σ) []).2 := numGo_mem _ _ _ (List.mem_map_of_mem (List.mem_range.2 hb))

/-! ### Which classes are right -/
theorem least_get : ∀ (l : List Nat) (k : Nat), least l k < l.length → l[least l k]? = some k
  | [], k, h => by simp [least] at h
  | x :: l, k, h => by
    by_cases e : (x : Int) = k
    · have : x = k := by omega
      simp [least, this]
    · simp only [least, if_neg e, List.length_cons] at h ⊢
      simpa using least_get l k (by omega)
theorem least_before : ∀ (l : List Nat) (k : Int) (i x : Nat), l[i]? = some x → i < least l k → (x : Int) ≠ k
  | [], k, i, x, hx, h => by simp at hx
  | y :: l, k, i, x, hx, h => by
    by_cases e : (y : Int) = k
    · simp [least, e] at h
    · simp only [least, if_neg e] at h
      cases i with
      | zero => simp at hx; rw [← hx]; exact e
      | succ i => exact least_before l k i x (by simpa using hx) (by omega)
theorem least_at {l : List Nat} {i x : Nat} (h : l[i]? = some x) : least l x ≤ i := by
  rcases Nat.lt_or_ge i (least l x) with h' | h'
  · exact absurd rfl (least_before l x i x h h')
  · exact h'
/-- Each label comes, and those ahead of it are less. -/
def Comes (f : List Nat) (k : Nat) : Prop := ∃ i, f[i]? = some k ∧ ∀ (j x : Nat), j < i → f[j]? = some x → x < k
theorem rightGo_facts : ∀ (f : List Nat) (s n : Nat), rightGo f s = some n → s ≤ n ∧ (∀ x ∈ f, x < n) ∧ ∀ k, s ≤ k → k < n → Comes f k
  | [], s, n, h => by
    simp [rightGo] at h
    subst h
    exact ⟨Nat.le_refl _, by simp, fun k h1 h2 => by omega⟩
  | x :: f, s, n, h => by
    simp only [rightGo] at h
    split at h
    · cases h
    · rename_i h1
      have up : ∀ s', s ≤ s' → x < s' → rightGo f s' = some n → s' ≤ n ∧ (∀ y ∈ x :: f, y < n) ∧ ∀ k, s' ≤ k → k < n → Comes (x :: f) k := by
        intro s' hs hx h
        obtain ⟨a, b, c⟩ := rightGo_facts f s' n h
        refine ⟨a, fun y hy => ?_, fun k hk hk' => ?_⟩
        · rcases List.mem_cons.1 hy with rfl | hy
          · omega
          · exact b y hy
        · obtain ⟨i, hi, hj⟩ := c k hk hk'
          refine ⟨i + 1, by simpa using hi, fun j y hj' hy => ?_⟩
          cases j with
          | zero => simp at hy; omega
          | succ j => exact hj j y (by omega) (by simpa using hy)
      split at h
      · rename_i h2
        obtain ⟨a, b, c⟩ := up (s + 1) (by omega) (by omega) h
        refine ⟨by omega, b, fun k hk hk' => ?_⟩
        rcases Nat.lt_or_ge s k with h3 | h3
        · exact c k h3 hk'
        · have : k = s := by omega
          subst this
          exact ⟨0, by simp [h2], fun j y hj => by omega⟩
      · obtain ⟨a, b, c⟩ := up s (Nat.le_refl _) (by omega) h
        exact ⟨a, b, c⟩
theorem comes_least {f : List Nat} {k : Nat} (h : Comes f k) : least f k < f.length ∧ ∀ (j x : Nat), j < least f k → f[j]? = some x → x < k := by
  obtain ⟨i, hi, hj⟩ := h
  have h1 := least_at hi
  have h2 : i < f.length := (List.getElem?_eq_some_iff.1 hi).1
  refine ⟨by omega, fun j x hj' hx => hj j x (by omega) hx⟩
theorem right_go {c : Cl} (hc : c.ok) (n : Nat) (h : rightGo c.f 0 = some n) : ((n : Int) = c.m) → c.rightR = true := by
  intro hm
  obtain ⟨_, h2, h3⟩ := rightGo_facts c.f 0 n h
  have hlen := hc.len
  have hpos : 1 ≤ n := by
    cases hf : c.f with
    | nil => rw [hf] at hlen; simp at hlen
    | cons x f => have := h2 x (by rw [hf]; simp); omega
  have hle : n ≤ 256 := by
    have := (comes_least (h3 (n - 1) (by omega) (by omega))).1
    have hx := hc.lt (least c.f ((n - 1 : Nat) : Int)) this
    have hg := least_get c.f (n - 1) this
    rw [List.getElem?_eq_getElem this] at hg
    have : c.f[least c.f ((n - 1 : Nat) : Int)] = n - 1 := Option.some.inj hg
    omega
  simp only [Cl.rightR, Bool.and_eq_true, decide_eq_true_eq, List.all_eq_true]
  refine ⟨⟨⟨by omega, by omega⟩, fun x hx => by have := h2 x hx; omega⟩, fun k hk => ?_⟩
  have hk' : k < n := by have := List.mem_range.1 hk; omega
  have hck := comes_least (h3 k (by omega) hk')
  simp only [okK, Bool.and_eq_true, Bool.or_eq_true, decide_eq_true_eq]
  refine ⟨by omega, ?_⟩
  rcases Nat.eq_zero_or_pos k with h0 | h0
  · exact .inl h0
  · right
    have hcp := comes_least (h3 (k - 1) (by omega) (by omega))
    have e : ((k - 1 : Nat) : Int) = (k : Int) - 1 := by omega
    rw [e] at hcp
    rcases Nat.lt_or_ge (least c.f (k : Int)) (least c.f ((k : Int) - 1)) with h4 | h4
    · have := hcp.2 _ _ h4 (least_get c.f k hck.1)
      omega
    · exact h4
theorem go_right {c : Cl} (hc : c.ok) (h : c.rightR = true) : ∀ (pre rest : List Nat) (s : Nat), c.f = pre ++ rest → (∀ x ∈ pre, x < s) → (∀ k, k < s → k ∈ pre) → rightGo rest s = some c.m.toNat := by
  simp only [Cl.rightR, Bool.and_eq_true, decide_eq_true_eq, List.all_eq_true] at h
  obtain ⟨⟨⟨h1, h2⟩, h3⟩, h4⟩ := h
  have hM : ((c.m.toNat : Nat) : Int) = c.m := Int.toNat_of_nonneg (by omega)
  have hk : ∀ k, k < c.m.toNat → least c.f k < 256 ∧ (k = 0 ∨ least c.f ((k : Int) - 1) ≤ least c.f k) := by
    intro k hk
    have h5 := h4 k (List.mem_range.2 hk)
    simp only [okK, Bool.and_eq_true, Bool.or_eq_true, decide_eq_true_eq] at h5
    have := least_le c.f k
    have := hc.len
    exact ⟨by omega, h5.2⟩
  have hmono : ∀ d k, k + d < c.m.toNat → least c.f (k : Nat) ≤ least c.f ((k + d : Nat) : Int) := by
    intro d
    induction d with
    | zero => intro k _; exact Nat.le_refl _
    | succ d ih =>
      intro k hkd
      have h6 := (hk (k + (d + 1)) hkd).2.resolve_left (by omega)
      have e : (((k + (d + 1) : Nat) : Int) - 1) = ((k + d : Nat) : Int) := by omega
      rw [e] at h6
      exact Nat.le_trans (ih k (by omega)) h6
  intro pre rest
  induction rest generalizing pre with
  | nil =>
    intro s hf hp hs
    rw [List.append_nil] at hf
    simp only [rightGo]
    congr 1
    rcases Nat.lt_trichotomy s c.m.toNat with h5 | h5 | h5
    · have := least_get c.f s (by rw [hc.len]; exact (hk s h5).1)
      have hm := List.mem_of_getElem? this
      rw [hf] at hm
      have := hp s hm
      omega
    · exact h5
    · have hm := hs c.m.toNat h5
      rw [← hf] at hm
      have := h3 _ hm
      omega
  | cons x rest ih =>
    intro s hf hp hs
    have hx : (x : Int) < c.m := h3 x (by rw [hf]; simp)
    have hxi : c.f[pre.length]? = some x := by rw [hf]; simp
    have hxs : ¬ s < x := by
      intro hsx
      have h5 := hmono (x - s) s (by omega)
      have e : s + (x - s) = x := by omega
      rw [e] at h5
      have h6 := least_at hxi
      have h7 := least_get c.f s (by rw [hc.len]; exact (hk s (by omega)).1)
      have h8 : least c.f (s : Int) ≤ pre.length := by omega
      rcases Nat.lt_or_ge (least c.f (s : Int)) pre.length with h9 | h9
      · generalize least c.f (s : Int) = t at h7 h9
        rw [hf, List.getElem?_append_left h9] at h7
        have := hp s (List.mem_of_getElem? h7)
        omega
      · have : least c.f (s : Int) = pre.length := by omega
        rw [this, hxi] at h7
        have := Option.some.inj h7
        omega
    simp only [rightGo, if_neg hxs]
    by_cases hxe : x = s
    · rw [if_pos hxe]
      refine ih (pre ++ [x]) (s + 1) (by rw [hf]; simp) (fun y hy => ?_) fun k hk => ?_
      · rcases List.mem_append.1 hy with hy | hy
        · have := hp y hy; omega
        · simp at hy; omega
      · rcases Nat.lt_or_ge k s with h5 | h5
        · exact List.mem_append_left _ (hs k h5)
        · have : k = x := by omega
          simp [this]
    · rw [if_neg hxe]
      refine ih (pre ++ [x]) s (by rw [hf]; simp) (fun y hy => ?_) fun k hk => List.mem_append_left _ (hs k hk)
      rcases List.mem_append.1 hy with hy | hy
      · exact hp y hy
      · simp at hy; omega
theorem right_iff {c : Cl} (hc : c.ok) : c.right = c.rightR := by
  rw [Bool.eq_iff_iff]
  constructor
  · intro h
    unfold Cl.right at h
    split at h
    · cases h
    · rename_i n hn
      exact right_go hc n hn (by simpa using h)
  · intro h
    have := go_right hc h [] c.f 0 rfl (by simp) (by simp)
    unfold Cl.right
    rw [this]
    simp only [Cl.rightR, Bool.and_eq_true, decide_eq_true_eq] at h
    simp; omega
theorem first_eq {c : Cl} (hc : c.ok) (k : Int) : c.first k = c.firstR k := by
  unfold Cl.first Cl.firstR
  rw [right_iff hc]
  by_cases h : c.rightR = true ∧ 0 ≤ k ∧ k < c.m
  · rw [if_pos h, if_pos h]
    obtain ⟨h1, h2, h3⟩ := h
    simp only [Cl.rightR, Bool.and_eq_true, decide_eq_true_eq, List.all_eq_true] at h1
    have h4 := h1.2 k.toNat (List.mem_range.2 (by omega))
    simp only [okK, Bool.and_eq_true, decide_eq_true_eq] at h4
    have e : ((k.toNat : Nat) : Int) = k := Int.toNat_of_nonneg h2
    rw [e] at h4
    have := least_le c.f k
    have := hc.len
    have hl : least c.f k < 256 := by omega
    rw [if_pos hl]
    congr 1
    rw [IntKind.wrap_u8]; omega
  · rw [if_neg h, if_neg h]

/-! ### Which sets fit -/
theorem go_num : ∀ (f : List Nat) (s n : Nat), rightGo f s = some n → numGo f (List.range s) = (f, List.range n)
  | [], s, n, h => by simp [rightGo] at h; subst h; rfl
  | x :: f, s, n, h => by
    have hidx : ∀ y m : Nat, y < m → idxK y (List.range m) = y := by
      intro y m hy
      have h1 : (List.range m)[idxK y (List.range m)]? = some y := by
        have := idxK_lt (List.mem_range.2 hy)
        unfold idxK at this ⊢
        rw [List.getElem?_eq_getElem this, List.getElem_idxOf]
      have h2 := (List.getElem?_eq_some_iff.1 h1).2
      simpa using h2
    simp only [rightGo] at h
    split at h
    · cases h
    · split at h
      · rename_i h1 h2
        subst h2
        have hn : x ∉ List.range x := by simp
        rw [numGo, idxK_new hn, addK_new hn, ← List.range_succ, go_num f _ n h]
        simp
      · rename_i h1 h2
        have hm : x ∈ List.range s := List.mem_range.2 (by omega)
        rw [numGo, addK_old hm, hidx x s (by omega), go_num f s n h]
theorem nodup_le {α : Type} [DecidableEq α] : ∀ (l m : List α), l.Nodup → (∀ x ∈ l, x ∈ m) → l.length ≤ m.length
  | [], m, _, _ => Nat.zero_le _
  | x :: l, m, h, hs => by
    obtain ⟨h1, h2⟩ := List.nodup_cons.1 h
    have hx := hs x (by simp)
    have := nodup_le l (m.erase x) h2 fun y hy => by
      have hne : y ≠ x := fun e => h1 (e ▸ hy)
      exact (List.mem_erase_of_ne hne).2 (hs y (List.mem_cons_of_mem _ hy))
    rw [List.length_erase_of_mem hx] at this
    have := List.length_pos_of_mem hx
    simp only [List.length_cons]; omega
theorem fits_eq {c : Cl} (hc : c.ok) (q : Q4) : c.fits q = c.fitsR q := by
  unfold Cl.fits Cl.fitsR
  rw [right_iff hc]
  cases hr : c.rightR with
  | false => rfl
  | true =>
    simp only [Bool.true_and]
    have hgo := go_right hc hr [] c.f 0 rfl (by simp) (by simp)
    have hnum := go_num c.f 0 _ hgo
    have hM : ((c.m.toNat : Nat) : Int) = c.m := by
      simp only [Cl.rightR, Bool.and_eq_true, decide_eq_true_eq] at hr
      exact Int.toNat_of_nonneg (by omega)
    have hpm : (c.parted q).m = ((numGo (keysOf c.f q) []).2.length : Int) := rfl
    rw [hpm, Bool.eq_iff_iff, decide_eq_true_eq, List.all_eq_true]
    have hkeys : ∀ p ∈ keysOf c.f q, ∃ j, c.f[j]? = some p.1 ∧ p.2 = inQ q j := by
      intro p hp
      simp only [keysOf, List.mem_map] at hp
      obtain ⟨⟨x, j⟩, hj, rfl⟩ := hp
      exact ⟨j, by simpa [List.mem_zipIdx_iff_getElem?] using hj, rfl⟩
    have hkey : ∀ (j x : Nat), c.f[j]? = some x → (x, inQ q j) ∈ keysOf c.f q := by
      intro j x hj
      simp only [keysOf, List.mem_map]
      exact ⟨(x, j), by simpa [List.mem_zipIdx_iff_getElem?] using hj, rfl⟩
    have hl : ∀ (j x : Nat), c.f[j]? = some x → c.f[least c.f (x : Int)]? = some x := by
      intro j x hj
      have hj' := (List.getElem?_eq_some_iff.1 hj).1
      exact least_get _ _ (by have := least_at hj; omega)
    constructor
    · intro hlen p hp
      obtain ⟨x, b⟩ := p
      have hb : c.f[b]? = some x := by simpa [List.mem_zipIdx_iff_getElem?] using hp
      have hF' := numGo_nodup (keysOf c.f q) [] (by simp)
      have hm1 := numGo_mem _ [] _ (hkey b x hb)
      have hm2 := numGo_mem _ [] _ (hkey _ x (hl b x hb))
      have hsub := numGo_sub (keysOf c.f q) []
      have hcov : ∀ (j y : Nat), c.f[j]? = some y → (y, inQ q j) ∈ (numGo (keysOf c.f q) []).2 := fun j y hj => numGo_mem _ [] _ (hkey j y hj)
      generalize (numGo (keysOf c.f q) []).2 = F at *
      by_cases he : inQ q b = inQ q (least c.f (x : Int))
      · simpa using he
      · exfalso
        have h1 := nodup_le (List.range c.m.toNat) ((F.erase (x, inQ q b)).map (·.1)) List.nodup_range fun y hy => by
          have hy' : y ∈ (numGo c.f (List.range 0)).2 := by rw [hnum]; exact hy
          rcases numGo_sub _ _ _ hy' with h | h
          · simp at h
          · obtain ⟨j, hj, hjy⟩ := List.getElem_of_mem h
            have hj2 : c.f[j]? = some y := by rw [List.getElem?_eq_getElem hj, hjy]
            by_cases hyx : y = x
            · subst hyx
              exact List.mem_map.2 ⟨(y, inQ q (least c.f (y : Int))), (List.mem_erase_of_ne (by simp; exact fun e => he e.symm)).2 hm2, rfl⟩
            · exact List.mem_map.2 ⟨(y, inQ q j), (List.mem_erase_of_ne (by simp; exact fun e => absurd e hyx)).2 (hcov j y hj2), rfl⟩
        rw [List.length_map, List.length_erase_of_mem hm1, List.length_range] at h1
        have := List.length_pos_of_mem hm1
        omega
    · intro h
      have e : keysOf c.f q = c.f.map fun x : Nat => (x, inQ q (least c.f (x : Int))) := by
        apply List.ext_getElem
        · simp [keysOf]
        · intro j h1 h2
          have hj : j < c.f.length := by simpa using h2
          have := h (c.f[j], j) (by simp [List.mem_zipIdx_iff_getElem?, hj])
          simp [keysOf] at this ⊢
          exact this
      have n1 := numGo_map (S := c.f) (g := fun x : Nat => (x, inQ q (least c.f (x : Int)))) (fun a _ b _ h => (Prod.mk.inj h).1) c.f [] (fun a h => h) (by simp)
      simp only [List.map_nil] at n1
      have hn0 : numGo c.f [] = (c.f, List.range c.m.toNat) := hnum
      rw [e, n1, hn0]
      simp only [List.length_map, List.length_range]
      exact hM
end Fk
