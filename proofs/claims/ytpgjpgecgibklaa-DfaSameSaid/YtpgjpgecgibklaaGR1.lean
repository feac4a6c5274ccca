/- Contracts of functions, and plain laws: several texts, joined. -/
import Derived.Test.YtpgjpgecgibklaaGR0
import Derived.WalkKit
import Derived.ProofKit
import Derived.OpenShut
import Derived.ShutString
import Derived.ChangeOld
import Derived.Below
import Derived.ChangeArms
import Derived.Test.YtpgjpgecgibklaaGV0
import Derived.Laws.Slices
import Derived.Test.YtpgjpgecgibklaaGK2
import Derived.Laws.OwnMore
import Derived.Laws.CopyRow
import Derived.Laws.IdiomStrings
import Derived.SizedLaws
set_option linter.unusedVariables false
set_option linter.unusedSimpArgs false
set_option linter.unusedSectionVars false
set_option maxRecDepth 100000
namespace Fk
open Go Go.Proofs Go.RowKit
section
variable {K K' : Type} [DecidableEq K] [DecidableEq K']
theorem idxK_old {k : K} {l e : List K} (h : k ∈ l) : idxK k (l ++ e) = idxK k l := by
  unfold idxK; rw [List.idxOf_append, if_pos h]
theorem idxK_inj {a b : K} : ∀ {l : List K}, a ∈ l → b ∈ l → idxK a l = idxK b l → a = b
  | [], h, _, _ => by simp at h
  | x :: l, ha, hb, h => by
    rw [idxK_cons, idxK_cons] at h
    by_cases h1 : x = a
    · by_cases h2 : x = b
      · rw [← h1, h2]
      · rw [if_pos h1, if_neg h2] at h; omega
    · by_cases h2 : x = b
      · rw [if_neg h1, if_pos h2] at h; omega
      · rw [if_neg h1, if_neg h2] at h
        exact idxK_inj ((List.mem_cons.1 ha).resolve_left fun e => h1 e.symm) ((List.mem_cons.1 hb).resolve_left fun e => h2 e.symm) (by omega)
theorem idxK_map {S : List K} {g : K → K'} (hg : ∀ a ∈ S, ∀ b ∈ S, g a = g b → a = b) {k : K} (hk : k ∈ S) : ∀ {l : List K}, (∀ a ∈ l, a ∈ S) → idxK (g k) (l.map g) = idxK k l
  | [], _ => by simp [idxK]
  | x :: l, h => by
    rw [List.map_cons, idxK_cons, idxK_cons, idxK_map hg hk fun a ha => h a (List.mem_cons_of_mem _ ha)]
    by_cases e : x = k
    · rw [if_pos e, if_pos (by rw [e])]
    · rw [if_neg e, if_neg fun e' => e (hg x (h x (by simp)) k hk e')]
theorem mem_map_inj {S : List K} {g : K → K'} (hg : ∀ a ∈ S, ∀ b ∈ S, g a = g b → a = b) {k : K} (hk : k ∈ S) {l : List K} (hl : ∀ a ∈ l, a ∈ S) : g k ∈ l.map g ↔ k ∈ l := by
  constructor
  · intro h
    obtain ⟨a, ha, he⟩ := List.mem_map.1 h
    rwa [← hg a (hl a ha) k hk he]
  · exact List.mem_map_of_mem
theorem numGo_map {S : List K} {g : K → K'} (hg : ∀ a ∈ S, ∀ b ∈ S, g a = g b → a = b) : ∀ (ks kn : List K), (∀ a ∈ ks, a ∈ S) → (∀ a ∈ kn, a ∈ S) →
    numGo (ks.map g) (kn.map g) = ((numGo ks kn).1, (numGo ks kn).2.map g)
  | [], kn, _, _ => rfl
  | k :: ks, kn, h1, h2 => by
    have hk := h1 k (by simp)
    have ha : addK (g k) (kn.map g) = (addK k kn).map g := by
      unfold addK
      by_cases hm : k ∈ kn
      · rw [if_pos hm, if_pos ((mem_map_inj hg hk h2).2 hm)]
      · rw [if_neg hm, if_neg fun h => hm ((mem_map_inj hg hk h2).1 h)]; simp
    have h3 : ∀ a ∈ addK k kn, a ∈ S := by
      intro a ha'
      unfold addK at ha'
      split at ha'
      · exact h2 a ha'
      · rcases List.mem_append.1 ha' with h | h
        · exact h2 a h
        · simp at h; rw [h]; exact hk
    rw [List.map_cons, numGo, numGo, idxK_map hg hk h2, ha, numGo_map hg ks _ (fun a ha => h1 a (List.mem_cons_of_mem _ ha)) h3]
theorem numGo_ext : ∀ (ks kn : List K), ∃ e, (numGo ks kn).2 = kn ++ e
  | [], kn => ⟨[], by simp [numGo]⟩
  | k :: ks, kn => by
    obtain ⟨e, he⟩ := numGo_ext ks (addK k kn)
    by_cases hm : k ∈ kn
    · exact ⟨e, by rw [numGo]; simp only [he]; rw [addK_old hm]⟩
    · exact ⟨k :: e, by rw [numGo]; simp only [he]; rw [addK_new hm]; simp⟩
theorem addK_mem (k : K) (kn : List K) : k ∈ addK k kn := by
  unfold addK; split
  · assumption
  · simp
theorem addK_nodup {k : K} {kn : List K} (h : kn.Nodup) : (addK k kn).Nodup := by
  unfold addK; split
  · exact h
  · rename_i hm
    rw [List.nodup_append]
    exact ⟨h, by simp, fun a ha b hb => by simp at hb; rintro rfl; exact hm (hb ▸ ha)⟩
theorem addK_sub {k a : K} {kn : List K} (h : a ∈ addK k kn) : a = k ∨ a ∈ kn := by
  unfold addK at h; split at h
  · exact .inr h
  · rcases List.mem_append.1 h with h | h
    · exact .inr h
    · simp at h; exact .inl h
theorem numGo_mem : ∀ (ks kn : List K) (k : K), k ∈ ks → k ∈ (numGo ks kn).2
  | x :: ks, kn, k, h => by
    rw [numGo]
    rcases List.mem_cons.1 h with rfl | h
    · obtain ⟨e, he⟩ := numGo_ext ks (addK k kn)
      simp only [he]
      exact List.mem_append_left _ (addK_mem k kn)
    · exact numGo_mem ks _ k h
theorem numGo_nodup : ∀ (ks kn : List K), kn.Nodup → (numGo ks kn).2.Nodup
  | [], kn, h => h
  | k :: ks, kn, h => numGo_nodup ks _ (addK_nodup h)
theorem numGo_sub : ∀ (ks kn : List K) (a : K), a ∈ (numGo ks kn).2 → a ∈ kn ∨ a ∈ ks
  | [], kn, a, h => .inl h
  | k :: ks, kn, a, h => by
    rcases numGo_sub ks (addK k kn) a h with h | h
    · rcases addK_sub h with h | h
      · exact .inr (by simp [h])
      · exact .inl h
    · exact .inr (List.mem_cons_of_mem _ h)
theorem numGo_lab : ∀ (ks kn : List K), (numGo ks kn).1 = ks.map fun k => idxK k (numGo ks kn).2
  | [], kn => rfl
  | k :: ks, kn => by
    obtain ⟨e, he⟩ := numGo_ext ks (addK k kn)
    have hi : idxK k kn = idxK k (numGo ks (addK k kn)).2 := by
      rw [he, idxK_old (addK_mem k kn)]
      by_cases hm : k ∈ kn
      · rw [addK_old hm]
      · rw [addK_new hm, idxK_new hm, idxK, List.idxOf_append, if_neg hm]; simp
    rw [numGo]
    simp only [List.map_cons, ← hi]
    rw [← numGo_lab ks (addK k kn)]
end
theorem keysOf_range (h : Nat → Nat) (q : Q4) (n : Nat) : keysOf ((List.range n).map h) q = (List.range n).map fun b => (h b, inQ q b) := by
  apply List.ext_getElem
  · simp [keysOf]
  · intro i h1 h2
    simp [keysOf]
theorem parted_gen {K : Type} [DecidableEq K] (σ : Nat → K) (n : Nat) (m : Int) (q : Q4) :
    Cl.parted ⟨(numGo ((List.range n).map σ) []).1, m⟩ q = ⟨(numGo ((List.range n).map fun b => (σ b, inQ q b)) []).1, (numGo ((List.range n).map fun b => (σ b, inQ q b)) []).2.length⟩ := by
  have hmem : ∀ b, b < n → σ b ∈ (numGo ((List.range n).map σ) []).2 := fun b hb => numGo_mem _ _ _ (List.mem_map_of_mem (List.mem_range.2 hb))
  have hl := numGo_lab ((List.range n).map σ) []
  rw [List.map_map] at hl
  generalize (numGo ((List.range n).map σ) []).2 = F at hmem hl
  obtain ⟨ps, hps⟩ : ∃ ps : List (K × Bool), ps = (List.range n).map fun b => (σ b, inQ q b) := ⟨_, rfl⟩
  have hS : ∀ p ∈ ps, p.1 ∈ F := by
    intro p hp
    rw [hps] at hp
    obtain ⟨b, hb, rfl⟩ := List.mem_map.1 hp
    exact hmem b (List.mem_range.1 hb)
  have e1 : keysOf ((List.range n).map ((fun k => idxK k F) ∘ σ)) q = ps.map fun p => (idxK p.1 F, p.2) := by
    rw [keysOf_range, hps, List.map_map]
    exact List.map_congr_left fun _ _ => rfl
  have n1 := numGo_map (S := ps) (g := fun p : K × Bool => (idxK p.1 F, p.2)) (fun a ha b hb h => by
    simp only [Prod.mk.injEq] at h
    exact Prod.ext (idxK_inj (hS a ha) (hS b hb) h.1) h.2) ps [] (fun a h => h) (by simp)
  simp only [List.map_nil] at n1
  unfold Cl.parted
  simp only [hl, e1]
  rw [n1, ← hps]
  simp only [List.length_map]
theorem num_snoc (l : List Q4) (q : Q4) (n : Nat) : (numGo ((List.range n).map (sig (l ++ [q]))) []).1 = (numGo ((List.range n).map fun b => (sig l b, inQ q b)) []).1 ∧
    (numGo ((List.range n).map (sig (l ++ [q]))) []).2.length = (numGo ((List.range n).map fun b => (sig l b, inQ q b)) []).2.length := by
  obtain ⟨ps, hps⟩ : ∃ ps : List (List Bool × Bool), ps = (List.range n).map fun b => (sig l b, inQ q b) := ⟨_, rfl⟩
  have e2 : (List.range n).map (sig (l ++ [q])) = ps.map fun p => p.1 ++ [p.2] := by
    rw [hps, List.map_map]
    exact List.map_congr_left fun b _ => by simp [sig]
  have n2 := numGo_map (S := ps) (g := fun p : List Bool × Bool => p.1 ++ [p.2]) (fun a ha b hb h => by
    have := List.append_inj' h rfl
    simp at this
    exact Prod.ext this.1 this.2) ps [] (fun a h => h) (by simp)
  simp only [List.map_nil] at n2
  rw [e2, n2, ← hps]
  simp
theorem refCl_parted (l : List Q4) (q : Q4) : (refCl l).parted q = refCl (l ++ [q]) := by
  unfold refCl
  rw [parted_gen, (num_snoc l q 256).1, (num_snoc l q 256).2]
theorem foldl_ref : ∀ (l l' : List Q4), l.foldl Cl.parted (refCl l') = refCl (l' ++ l)
  | [], l' => by simp
  | q :: l, l' => by rw [List.foldl_cons, refCl_parted, foldl_ref l]; simp
theorem refCl_nil : refCl [] = zCl 1 := by kernel_rfl
theorem clOf_ref (l : List Q4) : clOf l = refCl l := by
  unfold clOf
  rw [← refCl_nil, foldl_ref]; simp
/-- Bytes are of one class just if the sets say the same of them. -/
theorem num_at {K : Type} [DecidableEq K] (σ : Nat → K) (n : Nat) {b : Nat} (hb : b < n) : (numGo ((List.range n).map σ) []).1[b]? = some (idxK (σ b) (numGo ((List.range n).map σ) []).2) := by
  rw [numGo_lab ((List.range n).map σ) []]
  generalize (numGo ((List.range n).map σ) []).2 = F
  simp [hb]
theorem num_mem {K : Type} [DecidableEq K] (σ : Nat → K) (n : Nat) {b : Nat} (hb : b < n) : σ b ∈ (numGo ((List.range n).map σ) []).2 := numGo_mem _ _ _ (List.mem_map_of_mem (List.mem_range.2 hb))
theorem least_get : ∀ (l : List Nat) (k : Nat), least l k < l.length → l[least l k]? = some k
  | [], k, h => by simp [least] at h
  | x :: l, k, h => by
    by_cases e : (x : Int) = k
    · have : x = k := by omega
      simp [least, this]
    · simp only [least, if_neg e, List.length_cons] at h ⊢
      simpa using least_get l k (by omega)
theorem least_before : ∀ (l : List Nat) (k : Int) (i x : Nat), l[i]? = some x → i < least l k → (x : Int) ≠ k
  | [], k, i, x, hx, h => by simp at hx
  | y :: l, k, i, x, hx, h => by
    by_cases e : (y : Int) = k
    · simp [least, e] at h
    · simp only [least, if_neg e] at h
      cases i with
      | zero => simp at hx; rw [← hx]; exact e
      | succ i => exact least_before l k i x (by simpa using hx) (by omega)
theorem least_at {l : List Nat} {i x : Nat} (h : l[i]? = some x) : least l x ≤ i := by
  rcases Nat.lt_or_ge i (least l x) with h' | h'
  · exact absurd rfl (least_before l x i x h h')
  · exact h'
/-- Each label comes, and those ahead of it are less. -/
def Comes (f : List Nat) (k : Nat) : Prop := ∃ i, f[i]? = some k ∧ ∀ (j x : Nat), j < i → f[j]? = some x → x < k
theorem rightGo_facts : ∀ (f : List Nat) (s n : Nat), rightGo f s = some n → s ≤ n ∧ (∀ x ∈ f, x < n) ∧ ∀ k, s ≤ k → k < n → Comes f k
  | [], s, n, h => by
    simp [rightGo] at h
    subst h
    exact ⟨Nat.le_refl _, by simp, fun k h1 h2 => by omega⟩
  | x :: f, s, n, h => by
    simp only [rightGo] at h
    split at h
    · cases h
    · rename_i h1
      have up : ∀ s', s ≤ s' → x < s' → rightGo f s' = some n → s' ≤ n ∧ (∀ y ∈ x :: f, y < n) ∧ ∀ k, s' ≤ k → k < n → Comes (x :: f) k := by
        intro s' hs hx h
        obtain ⟨a, b, c⟩ := rightGo_facts f s' n h
        refine ⟨a, fun y hy => ?_, fun k hk hk' => ?_⟩
        · rcases List.mem_cons.1 hy with rfl | hy
          · omega
          · exact b y hy
        · obtain ⟨i, hi, hj⟩ := c k hk hk'
          refine ⟨i + 1, by simpa using hi, fun j y hj' hy => ?_⟩
          cases j with
          | zero => simp at hy; omega
          | succ j => exact hj j y (by omega) (by simpa using hy)
      split at h
      · rename_i h2
        obtain ⟨a, b, c⟩ := up (s + 1) (by omega) (by omega) h
        refine ⟨by omega, b, fun k hk hk' => ?_⟩
        rcases Nat.lt_or_ge s k with h3 | h3
        · exact c k h3 hk'
        · have : k = s := by omega
          subst this
          exact ⟨0, by simp [h2], fun j y hj => by omega⟩
      · obtain ⟨a, b, c⟩ := up s (Nat.le_refl _) (by omega) h
        exact ⟨a, b, c⟩
theorem comes_least {f : List Nat} {k : Nat} (h : Comes f k) : least f k < f.length ∧ ∀ (j x : Nat), j < least f k → f[j]? = some x → x < k := by
  obtain ⟨i, hi, hj⟩ := h
  have h1 := least_at hi
  have h2 : i < f.length := (List.getElem?_eq_some_iff.1 hi).1
  refine ⟨by omega, fun j x hj' hx => hj j x (by omega) hx⟩
theorem right_go {c : Cl} (hc : c.ok) (n : Nat) (h : rightGo c.f 0 = some n) : ((n : Int) = c.m) → c.rightR = true := by
  intro hm
  obtain ⟨_, h2, h3⟩ := rightGo_facts c.f 0 n h
  have hlen := hc.len
  have hpos : 1 ≤ n := by
    cases hf : c.f with
    | nil => rw [hf] at hlen; simp at hlen
    | cons x f => have := h2 x (by rw [hf]; simp); omega
  have hle : n ≤ 256 := by
    have := (comes_least (h3 (n - 1) (by omega) (by omega))).1
    have hx := hc.lt (least c.f ((n - 1 : Nat) : Int)) this
    have hg := least_get c.f (n - 1) this
    rw [List.getElem?_eq_getElem this] at hg
    have : c.f[least c.f ((n - 1 : Nat) : Int)] = n - 1 := Option.some.inj hg
    omega
  simp only [Cl.rightR, Bool.and_eq_true, decide_eq_true_eq, List.all_eq_true]
  refine ⟨⟨⟨by omega, by omega⟩, fun x hx => by have := h2 x hx; omega⟩, fun k hk => ?_⟩
  have hk' : k < n := by have := List.mem_range.1 hk; omega
  have hck := comes_least (h3 k (by omega) hk')
  simp only [okK, Bool.and_eq_true, Bool.or_eq_true, decide_eq_true_eq]
  refine ⟨by omega, ?_⟩
  rcases Nat.eq_zero_or_pos k with h0 | h0
  · exact .inl h0
  · right
    have hcp := comes_least (h3 (k - 1) (by omega) (by omega))
    have e : ((k - 1 : Nat) : Int) = (k : Int) - 1 := by omega
    rw [e] at hcp
    rcases Nat.lt_or_ge (least c.f (k : Int)) (least c.f ((k : Int) - 1)) with h4 | h4
    · have := hcp.2 _ _ h4 (least_get c.f k hck.1)
      omega
    · exact h4
theorem go_right {c : Cl} (hc : c.ok) (h : c.rightR = true) : ∀ (pre rest : List Nat) (s : Nat), c.f = pre ++ rest → (∀ x ∈ pre, x < s) → (∀ k, k < s → k ∈ pre) → rightGo rest s = some c.m.toNat := by
  simp only [Cl.rightR, Bool.and_eq_true, decide_eq_true_eq, List.all_eq_true] at h
  obtain ⟨⟨⟨h1, h2⟩, h3⟩, h4⟩ := h
  have hM : ((c.m.toNat : Nat) : Int) = c.m := Int.toNat_of_nonneg (by omega)
  have hk : ∀ k, k < c.m.toNat → least c.f k < 256 ∧ (k = 0 ∨ least c.f ((k : Int) - 1) ≤ least c.f k) := by
    intro k hk
    have h5 := h4 k (List.mem_range.2 hk)
    simp only [okK, Bool.and_eq_true, Bool.or_eq_true, decide_eq_true_eq] at h5
    have := least_le c.f k
    have := hc.len
    exact ⟨by omega, h5.2⟩
  have hmono : ∀ d k, k + d < c.m.toNat → least c.f (k : Nat) ≤ least c.f ((k + d : Nat) : Int) := by
    intro d
    induction d with
    | zero => intro k _; exact Nat.le_refl _
    | succ d ih =>
      intro k hkd
      have h6 := (hk (k + (d + 1)) hkd).2.resolve_left (by omega)
      have e : (((k + (d + 1) : Nat) : Int) - 1) = ((k + d : Nat) : Int) := by omega
      rw [e] at h6
      exact Nat.le_trans (ih k (by omega)) h6
  intro pre rest
  induction rest generalizing pre with
  | nil =>
    intro s hf hp hs
    rw [List.append_nil] at hf
    simp only [rightGo]
    congr 1
    rcases Nat.lt_trichotomy s c.m.toNat with h5 | h5 | h5
    · have := least_get c.f s (by rw [hc.len]; exact (hk s h5).1)
      have hm := List.mem_of_getElem? this
      rw [hf] at hm
      have := hp s hm
      omega
    · exact h5
    · have hm := hs c.m.toNat h5
      rw [← hf] at hm
      have := h3 _ hm
      omega
  | cons x rest ih =>
    intro s hf hp hs
    have hx : (x : Int) < c.m := h3 x (by rw [hf]; simp)
    have hxi : c.f[pre.length]? = some x := by rw [hf]; simp
    have hxs : ¬ s < x := by
      intro hsx
      have h5 := hmono (x - s) s (by omega)
      have e : s + (x - s) = x := by omega
      rw [e] at h5
      have h6 := least_at hxi
      have h7 := least_get c.f s (by rw [hc.len]; exact (hk s (by omega)).1)
      have h8 : least c.f (s : Int) ≤ pre.length := by omega
      rcases Nat.lt_or_ge (least c.f (s : Int)) pre.length with h9 | h9
      · generalize least c.f (s : Int) = t at h7 h9
        rw [hf, List.getElem?_append_left h9] at h7
        have := hp s (List.mem_of_getElem? h7)
        omega
      · have : least c.f (s : Int) = pre.length := by omega
        rw [this, hxi] at h7
        have := Option.some.inj h7
        omega
    simp only [rightGo, if_neg hxs]
    by_cases hxe : x = s
    · rw [if_pos hxe]
      refine ih (pre ++ [x]) (s + 1) (by rw [hf]; simp) (fun y hy => ?_) fun k hk => ?_
      · rcases List.mem_append.1 hy with hy | hy
        · have := hp y hy; omega
        · simp at hy; omega
      · rcases Nat.lt_or_ge k s with h5 | h5
        · exact List.mem_append_left _ (hs k h5)
        · have : k = x := by omega
          simp [this]
    · rw [if_neg hxe]
      refine ih (pre ++ [x]) s (by rw [hf]; simp) (fun y hy => ?_) fun k hk => List.mem_append_left _ (hs k hk)
      rcases List.mem_append.1 hy with hy | hy
      · exact hp y hy
      · simp at hy; omega
theorem right_iff {c : Cl} (hc : c.ok) : c.right = c.rightR := by
  rw [Bool.eq_iff_iff]
  constructor
  · intro h
    unfold Cl.right at h
    split at h
    · cases h
    · rename_i n hn
      exact right_go hc n hn (by simpa using h)
  · intro h
    have := go_right hc h [] c.f 0 rfl (by simp) (by simp)
    unfold Cl.right
    rw [this]
    simp only [Cl.rightR, Bool.and_eq_true, decide_eq_true_eq] at h
    simp; omega
theorem go_num : ∀ (f : List Nat) (s n : Nat), rightGo f s = some n → numGo f (List.range s) = (f, List.range n)
  | [], s, n, h => by simp [rightGo] at h; subst h; rfl
  | x :: f, s, n, h => by
    have hidx : ∀ y m : Nat, y < m → idxK y (List.range m) = y := by
      intro y m hy
      have h1 : (List.range m)[idxK y (List.range m)]? = some y := by
        have := idxK_lt (List.mem_range.2 hy)
        unfold idxK at this ⊢
        rw [List.getElem?_eq_getElem this, List.getElem_idxOf]
      have h2 := (List.getElem?_eq_some_iff.1 h1).2
      simpa using h2
    simp only [rightGo] at h
    split at h
    · cases h
    · split at h
      · rename_i h1 h2
        subst h2
        have hn : x ∉ List.range x := by simp
        rw [numGo, idxK_new hn, addK_new hn, ← List.range_succ, go_num f _ n h]
        simp
      · rename_i h1 h2
        have hm : x ∈ List.range s := List.mem_range.2 (by omega)
        rw [numGo, addK_old hm, hidx x s (by omega), go_num f s n h]
theorem nodup_le {α : Type} [DecidableEq α] : ∀ (l m : List α), l.Nodup → (∀ x ∈ l, x ∈ m) → l.length ≤ m.length
  | [], m, _, _ => Nat.zero_le _
  | x :: l, m, h, hs => by
    obtain ⟨h1, h2⟩ := List.nodup_cons.1 h
    have hx := hs x (by simp)
    have := nodup_le l (m.erase x) h2 fun y hy => by
      have hne : y ≠ x := fun e => h1 (e ▸ hy)
      exact (List.mem_erase_of_ne hne).2 (hs y (List.mem_cons_of_mem _ hy))
    rw [List.length_erase_of_mem hx] at this
    have := List.length_pos_of_mem hx
    simp only [List.length_cons]; omega
theorem fits_eq {c : Cl} (hc : c.ok) (q : Q4) : c.fits q = c.fitsR q := by
  unfold Cl.fits Cl.fitsR
  rw [right_iff hc]
  cases hr : c.rightR with
  | false => rfl
  | true =>
    simp only [Bool.true_and]
    have hgo := go_right hc hr [] c.f 0 rfl (by simp) (by simp)
    have hnum := go_num c.f 0 _ hgo
    have hM : ((c.m.toNat : Nat) : Int) = c.m := by
      simp only [Cl.rightR, Bool.and_eq_true, decide_eq_true_eq] at hr
      exact Int.toNat_of_nonneg (by omega)
    have hpm : (c.parted q).m = ((numGo (keysOf c.f q) []).2.length : Int) := rfl
    rw [hpm, Bool.eq_iff_iff, decide_eq_true_eq, List.all_eq_true]
    have hkeys : ∀ p ∈ keysOf c.f q, ∃ j, c.f[j]? = some p.1 ∧ p.2 = inQ q j := by
      intro p hp
      simp only [keysOf, List.mem_map] at hp
      obtain ⟨⟨x, j⟩, hj, rfl⟩ := hp
      exact ⟨j, by simpa [List.mem_zipIdx_iff_getElem?] using hj, rfl⟩
    have hkey : ∀ (j x : Nat), c.f[j]? = some x → (x, inQ q j) ∈ keysOf c.f q := by
      intro j x hj
      simp only [keysOf, List.mem_map]
      exact ⟨(x, j), by simpa [List.mem_zipIdx_iff_getElem?] using hj, rfl⟩
    have hl : ∀ (j x : Nat), c.f[j]? = some x → c.f[least c.f (x : Int)]? = some x := by
      intro j x hj
      have hj' := (List.getElem?_eq_some_iff.1 hj).1
      exact least_get _ _ (by have := least_at hj; omega)
    constructor
    · intro hlen p hp
      obtain ⟨x, b⟩ := p
      have hb : c.f[b]? = some x := by simpa [List.mem_zipIdx_iff_getElem?] using hp
      have hF' := numGo_nodup (keysOf c.f q) [] (by simp)
      have hm1 := numGo_mem _ [] _ (hkey b x hb)
      have hm2 := numGo_mem _ [] _ (hkey _ x (hl b x hb))
      have hsub := numGo_sub (keysOf c.f q) []
      have hcov : ∀ (j y : Nat), c.f[j]? = some y → (y, inQ q j) ∈ (numGo (keysOf c.f q) []).2 := fun j y hj => numGo_mem _ [] _ (hkey j y hj)
      generalize (numGo (keysOf c.f q) []).2 = F at *
      by_cases he : inQ q b = inQ q (least c.f (x : Int))
      · simpa using he
      · exfalso
        have h1 := nodup_le (List.range c.m.toNat) ((F.erase (x, inQ q b)).map (·.1)) List.nodup_range fun y hy => by
          have hy' : y ∈ (numGo c.f (List.range 0)).2 := by rw [hnum]; exact hy
          rcases numGo_sub _ _ _ hy' with h | h
          · simp at h
          · obtain ⟨j, hj, hjy⟩ := List.getElem_of_mem h
            have hj2 : c.f[j]? = some y := by rw [List.getElem?_eq_getElem hj, hjy]
            by_cases hyx : y = x
            · subst hyx
              exact List.mem_map.2 ⟨(y, inQ q (least c.f (y : Int))), (List.mem_erase_of_ne (by simp; exact fun e => he e.symm)).2 hm2, rfl⟩
            · exact List.mem_map.2 ⟨(y, inQ q j), (List.mem_erase_of_ne (by simp; exact fun e => absurd e hyx)).2 (hcov j y hj2), rfl⟩
        rw [List.length_map, List.length_erase_of_mem hm1, List.length_range] at h1
        have := List.length_pos_of_mem hm1
        omega
    · intro h
      have e : keysOf c.f q = c.f.map fun x : Nat => (x, inQ q (least c.f (x : Int))) := by
        apply List.ext_getElem
        · simp [keysOf]
        · intro j h1 h2
          have hj : j < c.f.length := by simpa using h2
          have := h (c.f[j], j) (by simp [List.mem_zipIdx_iff_getElem?, hj])
          simp [keysOf] at this ⊢
          exact this
      have n1 := numGo_map (S := c.f) (g := fun x : Nat => (x, inQ q (least c.f (x : Int)))) (fun a _ b _ h => (Prod.mk.inj h).1) c.f [] (fun a h => h) (by simp)
      simp only [List.map_nil] at n1
      have hn0 : numGo c.f [] = (c.f, List.range c.m.toNat) := hnum
      rw [e, n1, hn0]
      simp only [List.length_map, List.length_range]
      exact hM
end Fk
set_option linter.unusedVariables false
set_option linter.unusedSimpArgs false
set_option maxRecDepth 100000
namespace Fk
open Go Go.Proofs Go.RowKit
theorem in44 (c : Cl) (hc : c.ok) {L : List Nat} {w0 w : World} {K : Bool → World → Prop} (h : Good L w0 w) (kk : ∀ w', Good L w0 w' → K c.right w') : CallW Try.prog L 44 #[.agg c.v] (fun v w' => opB v fun b => K b w') w := by
  refine (f44_ok c hc w).call h.2 ?_
  rintro v w' rfl h'
  exact opB_in (kk w' (h.tr h'))
theorem in38 (fo : Fo) (A : Option Addr) (C : Nat) (hl : fo.len < 2 ^ 63) {L : List Nat} {w0 w : World} {K : Bool → World → Prop} (h : Good L w0 w) (hr : RepF w A 0 fo) (kk : ∀ w' b, Good L w0 w' → (b = true → fo.few) → K b w') :
    CallW Try.prog L 38 #[.slice A fo.len C] (fun v w' => opB v fun b => K b w') w := by
  refine (f38_ok fo A C w hr hl).call h.2 ?_
  rintro v w' ⟨b, rfl, hb⟩ h'
  exact opB_in (kk w' b (h.tr h') hb)
end Fk
set_option linter.unusedVariables false
set_option linter.unusedSimpArgs false
set_option maxRecDepth 100000
namespace Fk
open Go Go.Proofs Go.RowKit
section
variable {H : Type} {enc : TypeId × Value → H} {P : Program} {w : World} {base : Nat} {spare : Nat → Bool} {held : Bool} {fuel : Nat} {t : TypeId} {cs : List Value} {x : DataW H × List MemPlace}
theorem int_cs {k : IntKind} (ht : P.underlying t = some (.int k)) (h : DataW.trod enc P w base spare held fuel t cs = some x) : ∃ v, cs = [.int k v] ∧ (Lit.int k v).wf = true := by
  cases fuel with
  | zero => simp [DataW.trod] at h
  | succ m =>
    unfold DataW.trod at h
    rw [ht] at h
    split at h <;> simp_all
theorem drop_one {cs : List Value} {i : Nat} {v : Value} (h : (cs.drop i).take 1 = [v]) : cs[i]? = some v := by
  rw [← List.head?_drop]
  cases hd : cs.drop i with
  | nil => rw [hd] at h; simp at h
  | cons a l => rw [hd] at h; simp at h; simp [h]
/-- An array of numbers. -/
theorem ints_cs {n : Nat} {e : TypeId} {k : IntKind} (ht : P.underlying t = some (.array n e)) (he : P.underlying e = some (.int k)) (hc : P.cellsOf e = 1) (hn : P.cellsOf t = n) (h : DataW.trod enc P w base spare held fuel t cs = some x) :
    cs.length = n ∧ ∀ i, i < n → ∃ v, cs[i]? = some (.int k v) ∧ (Lit.int k v).wf = true := by
  obtain ⟨xs, m, rfl, rfl, hl, hx, hi⟩ := DataW.trod_array ht h
  refine ⟨by rw [hl, hn], fun i hlt => ?_⟩
  have h1 := hi i hlt
  rw [List.getElem?_eq_getElem (by omega), hc, Nat.mul_one] at h1
  obtain ⟨v, hv, hw⟩ := int_cs he h1
  exact ⟨v, drop_one hv, hw⟩
end
theorem words_cs {H : Type} {enc : TypeId × Value → H} {w : World} {base : Nat} {spare : Nat → Bool} {held : Bool} {fuel : Nat} {cs : List Value} {x : DataW H × List MemPlace}
    (h : DataW.trod enc Try.prog w base spare held fuel 28 cs = some x) : ∃ q : Q4, cs = q4 q := by
  obtain ⟨hl, hi⟩ := ints_cs (t := 28) (n := 4) (e := 26) (k := .u64) (by kernel_rfl) (by kernel_rfl) (by kernel_rfl) (by kernel_rfl) h
  obtain ⟨a, ha, _⟩ := hi 0 (by omega)
  obtain ⟨b, hb, _⟩ := hi 1 (by omega)
  obtain ⟨c, hc, _⟩ := hi 2 (by omega)
  obtain ⟨d, hd, _⟩ := hi 3 (by omega)
  match cs, hl with
  | [v0, v1, v2, v3], _ =>
    simp at ha hb hc hd
    exact ⟨(a, b, c, d), by simp [q4, ha, hb, hc, hd]⟩
theorem three_fields {fs : Array Field} {t1 t2 t3 : TypeId} {o1 o2 o3 : Nat} (hF : fs.toList.map (fun f => (decide (f.name = "_"), f.type, f.offset)) = [(false, t1, o1), (false, t2, o2), (false, t3, o3)]) :
    ∃ f1 f2 f3, fs = #[f1, f2, f3] ∧ f1.type = t1 ∧ f1.offset = o1 ∧ f2.type = t2 ∧ f2.offset = o2 ∧ f3.type = t3 ∧ f3.offset = o3 := by
  obtain ⟨l⟩ := fs
  match l with
  | [] => simp at hF
  | [f1] => simp at hF
  | [f1, f2] => simp at hF
  | [f1, f2, f3] =>
    simp only [List.map_cons, List.map_nil, List.cons.injEq, Prod.mk.injEq, decide_eq_false_iff_not, and_true] at hF
    exact ⟨f1, f2, f3, rfl, hF.1.2.1, hF.1.2.2, hF.2.1.2.1, hF.2.1.2.2, hF.2.2.2.1, hF.2.2.2.2⟩
  | f1 :: f2 :: f3 :: f4 :: l => simp at hF
theorem elem_cs {H : Type} {enc : TypeId × Value → H} {w : World} {base : Nat} {spare : Nat → Bool} {held : Bool} {fuel : Nat} {cs : List Value} {x : DataW H × List MemPlace}
    (h : DataW.trod enc Try.prog w base spare held fuel 42 cs = some x) : ∃ (k : Int) (q : Q4) (l : List Value) (m : Nat) (y : DataW H × List MemPlace), cs = .int .u8 k :: (q4 q ++ l) ∧ l.length = 1 ∧ fuel = m + 1 ∧ DataW.trod enc Try.prog w base spare held m 22 l = some y := by
  have u : Try.prog.underlying 42 = some (.struct (Try.prog.fieldsOf 42)) := by kernel_rfl
  have hF : fieldsL Try.prog 42 = [(false, 5, 0), (false, 28, 1), (false, 22, 5)] := by kernel_rfl
  have c5 : Try.prog.cellsOf 5 = 1 := by kernel_rfl
  have c28 : Try.prog.cellsOf 28 = 4 := by kernel_rfl
  have c22 : Try.prog.cellsOf 22 = 1 := by kernel_rfl
  have c42 : Try.prog.cellsOf 42 = 6 := by kernel_rfl
  have u5 : Try.prog.underlying 5 = some (.int .u8) := by kernel_rfl
  unfold fieldsL at hF
  generalize Try.prog.fieldsOf 42 = fs at u hF
  obtain ⟨xs, m, rfl, rfl, hl, hx, hi⟩ := DataW.trod_struct u h
  obtain ⟨f1, f2, f3, rfl, e1, o1, e2, o2, e3, o3⟩ := three_fields hF
  have hx3 : xs.length = 3 := hx
  have h0 := hi 0 f1 rfl
  have h1 := hi 1 f2 rfl
  have h2 := hi 2 f3 rfl
  rw [List.getElem?_eq_getElem (by omega), e1, o1, c5] at h0
  rw [List.getElem?_eq_getElem (by omega), e2, o2, c28] at h1
  rw [List.getElem?_eq_getElem (by omega), e3, o3, c22] at h2
  obtain ⟨k, hk, _⟩ := int_cs u5 h0
  obtain ⟨q, hq⟩ := words_cs h1
  rw [c42] at hl
  match cs, hl with
  | [v0, v1, v2, v3, v4, v5], _ =>
    simp at hk hq h2
    refine ⟨k, q, [v5], m, _, ?_, rfl, rfl, h2⟩
    rw [hk, ← hq]; rfl
theorem open_fo {H : Type} {enc : TypeId × Value → H} {w : World} {base : Nat} {spare : Nat → Bool} {held : Bool} : ∀ (fuel : Nat) {cs : List Value} {x : DataW H × List MemPlace},
    DataW.trod enc Try.prog w base spare held fuel 22 cs = some x → ∃ (a : Option Addr) (n c : Nat) (fo : Fo), cs = [.slice a n c] ∧ fo.len = n ∧ n < 2 ^ 63 ∧ RepF w a 0 fo := by
  intro fuel
  induction fuel using Nat.strongRecOn with
  | ind fuel ih =>
    intro cs x h
    rcases DataW.trod_slice (by kernel_rfl : Try.prog.underlying 22 = some (.slice 42)) h with ⟨rfl, _⟩ | ⟨a, len, cap, elems, rest, n, rfl, rfl, _, _, hlc, hcm, hel, hat, _⟩
    · exact ⟨none, 0, 0, .nil, rfl, rfl, by omega, trivial⟩
    have c42 : Try.prog.cellsOf 42 = 6 := by kernel_rfl
    have hfo : ∀ j, j ≤ len → ∃ fo : Fo, fo.len = j ∧ RepF w (some a) (len - j) fo := by
      intro j
      induction j with
      | zero => exact fun _ => ⟨.nil, rfl, trivial⟩
      | succ j ihj =>
        intro hj
        obtain ⟨fo, hfl, hfr⟩ := ihj (by omega)
        have h1 := hat (len - (j + 1)) (by omega)
        rw [List.getElem?_eq_getElem (by omega), c42] at h1
        obtain ⟨cs', hcs, ht⟩ := Option.bind_eq_some_iff.1 h1
        obtain ⟨k, q, l, m, y, rfl, hl1, rfl, hk⟩ := elem_cs ht
        obtain ⟨sa, sn, sc, kids, rfl, hkl, hkn, hkr⟩ := ih m (by omega) hk
        obtain ⟨_, _, hcell⟩ := World.cells?_some hcs
        refine ⟨.cons k q.1 q.2.1 q.2.2.1 q.2.2.2 kids fo, by simp [Fo.len, hfl], ?_⟩
        simp only [RepF]
        refine ⟨⟨a, sa, sc, rfl, ⟨hcell 0 (by omega), hcell 1 (by omega), hcell 2 (by omega), hcell 3 (by omega), hcell 4 (by omega), ?_⟩, by omega, hkr⟩, ?_⟩
        · rw [hkl]; exact hcell 5 (by omega)
        · rw [show len - (j + 1) + 1 = len - j by omega]; exact hfr
    obtain ⟨fo, h1, h2⟩ := hfo len (Nat.le_refl _)
    rw [Nat.sub_self] at h2
    exact ⟨some a, len, cap, fo, rfl, h1, by simp only [maxLen] at hcm; omega, h2⟩
theorem below_of {w w' : World} (h : Md [] w w') : Below w.heap.size w w' :=
  ⟨h.os, h.tape, h.output, h.size, fun k hk => h.blk k hk (by simp)⟩
end Fk
set_option linter.unusedVariables false
set_option linter.unusedSimpArgs false
set_option maxRecDepth 100000
namespace Fk
open Go Go.Proofs Go.RowKit
section
variable {H : Type} {enc : TypeId × Value → H} {W : World} {base : Nat} {spare : Nat → Bool} {held : Bool} {d : DataW H} {ps : List MemPlace}
theorem fo_of {a : Option Addr} {n c : Nat} (h : DataW.Trod enc Try.prog W base spare held 22 (.slice a n c) d ps) : ∃ fo : Fo, fo.len = n ∧ n < 2 ^ 63 ∧ RepF W a 0 fo := by
  obtain ⟨fuel, hf⟩ := h
  obtain ⟨a', n', c', fo, he, h1, h2, h3⟩ := open_fo fuel hf
  have he' : [Value.slice a n c] = [.slice a' n' c'] := he
  simp at he'
  obtain ⟨rfl, rfl, rfl⟩ := he'
  exact ⟨fo, h1, h2, h3⟩
end
end Fk
namespace Go.Proofs.Ytpgjpgecgibklaa
end Go.Proofs.Ytpgjpgecgibklaa
set_option linter.unusedVariables false
set_option linter.unusedSimpArgs false
set_option maxRecDepth 100000
namespace Fk
open Go Go.Proofs Go.RowKit
def i1 (x : Int) : List Value := [.int .i64 x]
def s1 (s : ByteArray) : List Value := [.string s]
theorem enci1 : Enc 1 i1 := ⟨fun _ => rfl, by intro x v hv; simp [i1] at hv; subst hv; rfl⟩
theorem encs1 : Enc 1 s1 := ⟨fun _ => rfl, by intro x v hv; simp [s1] at hv; subst hv; rfl⟩
theorem RowAt.ld1 {α : Type} {w : World} {A : Option Addr} {enc : α → List Value} {l : List α} (h : RowAt w A 1 enc l) {i : Nat} (hi : i < l.length) {v : Value} (hv : (enc l[i])[0]? = some v) {K : Value → Prop} (k : K v) : Ld w (adAt A (i : Int) 1) K := by
  obtain ⟨B, rfl, hc⟩ := h i l[i] (List.getElem?_eq_getElem hi)
  have := hc 0 v hv
  rw [addr_add0] at this
  exact Ld_in this k
where addr_add0 (A : Addr) : A.add 0 = A := by unfold Addr.add; simp
/-- Which second machines are right. -/
def dRight (dm : Int) (next tags : List Int) : Bool :=
  decide (1 ≤ dm ∧ dm ≤ 256 ∧ 1 ≤ tags.length ∧ tags.length ≤ 5000 ∧ (next.length : Int) = dm * tags.length) && (tags.all fun x => decide (-1 ≤ x ∧ x < 200)) && (next.all fun x => decide (-1 ≤ x ∧ x < tags.length))
theorem mul_i64 {dm : Int} {n : Nat} (h1 : 1 ≤ dm) (h2 : dm ≤ 256) (h3 : n ≤ 5000) : IntKind.wrap .i64 (dm * (n : Int)) = dm * n := by
  have h4 : dm * (n : Int) ≤ 256 * 5000 := Int.mul_le_mul h2 (by omega) (by omega) (by omega)
  have h5 : 0 ≤ dm * (n : Int) := Int.mul_nonneg (by omega) (by omega)
  rw [IntKind.wrap_i64]; omega
theorem all_take {α : Type} {p : α → Bool} {l : List α} {i : Nat} (hi : i < l.length) (h : (l.take i).all p = true) (hp : p l[i] = true) : (l.take (i + 1)).all p = true := by
  rw [List.take_succ_eq_append_getElem hi, List.all_append, h]; simp [hp]
theorem all_false {α : Type} {p : α → Bool} {l : List α} {i : Nat} (hi : i < l.length) (hp : p l[i] = false) : l.all p = false := by
  rw [List.all_eq_false]; exact ⟨l[i], List.getElem_mem hi, by simp [hp]⟩
theorem inc_len {i n : Nat} (h : i < n) (hn : n < 2 ^ 63) : IntKind.wrap .i64 ((i : Int) + 1) = ((i + 1 : Nat) : Int) := by rw [IntKind.wrap_i64]; omega
theorem f72_ok (dm : Int) (next tags : List Int) (na ta : Option Addr) (nc tc : Nat) (w : World) (hn : RowAt w na 1 i1 next) (ht : RowAt w ta 1 i1 tags) (hnl : next.length < 2 ^ 63) (htl : tags.length < 2 ^ 63) :
    Ct Try.prog 72 #[.agg #[.int .i64 dm, .slice na next.length nc, .slice ta tags.length tc]] w fun v w' => v = .bool (dRight dm next tags) ∧ Md [] w w' := by
  apply f72_in
  intro n1 hn1
  refine Bd_in fun x2 hx2 => Bd_in fun b3 hb3 => Bd_in fun b4 hb4 => Bd_in fun b5 hb5 => Bd_in fun b6 hb6 => Bd_in fun b7 hb7 => Bd_in fun b8 hb8 => Bd_in fun b9 hb9 => Bd_in fun x10 hx10 => Bd_in fun x11 hx11 => Bd_in fun b12 hb12 => Bd_in fun b13 hb13 => ?_
  subst hx2; subst hx10
  have e13 : b13 = !decide (1 ≤ dm ∧ dm ≤ 256 ∧ 1 ≤ tags.length ∧ tags.length ≤ 5000 ∧ (next.length : Int) = dm * tags.length) := by
    rw [hb13, hb12, hb9, hb8, hb7, hb6, hb5, hb4, hb3]
    by_cases h1 : 1 ≤ dm
    · by_cases h2 : dm ≤ 256
      · by_cases h3 : 1 ≤ tags.length
        · by_cases h4 : tags.length ≤ 5000
          · rw [hx11, mul_i64 h1 h2 h4]
            have a1 : ¬ dm < 1 := by omega
            have a2 : ¬ 256 < dm := by omega
            have a3 : ¬ (tags.length : Int) < 1 := by omega
            have a4 : ¬ (5000 : Int) < (tags.length : Int) := by omega
            simp only [a1, a2, a3, a4, gt_iff_lt, decide_false, cond_false, h1, h2, h3, h4, true_and]
            by_cases h5 : (next.length : Int) = dm * tags.length <;> simp [h5]
          · have a4 : (5000 : Int) < (tags.length : Int) := by omega
            simp [h4, a4]
        · have a3 : (tags.length : Int) < 1 := by omega
          simp [h3, a3]
      · have a2 : 256 < dm := by omega
        simp [h2, a2]
    · have a1 : dm < 1 := by omega
      simp [h1, a1]
  refine If_in (fun h w14 h14 hL14 => ⟨?_, h14⟩) fun h => Bd_in fun x15 hx15 w16 h16 hL16 => ?_
  · rw [e13] at h
    have : decide (1 ≤ dm ∧ dm ≤ 256 ∧ 1 ≤ tags.length ∧ tags.length ≤ 5000 ∧ (next.length : Int) = dm * tags.length) = false := by rw [Bool.not_eq_true'] at h; exact h
    unfold dRight
    rw [this]; rfl
  have hd : decide (1 ≤ dm ∧ dm ≤ 256 ∧ 1 ≤ tags.length ∧ tags.length ≤ 5000 ∧ (next.length : Int) = dm * tags.length) = true := by rw [e13, Bool.not_eq_false'] at h; exact h
  subst hx15
  refine LoopP_in (fun m us vs w' => ∃ i : Nat, us = [.bool false, .int .i64 i] ∧ m = tags.length - i ∧ i ≤ tags.length ∧ (tags.take i).all (fun x => decide (-1 ≤ x ∧ x < 200)) = true ∧ Md [] w w') tags.length ⟨0, rfl, rfl, by omega, by simp, h16⟩ ?_
  rintro m us vs w20 ⟨i, rfl, rfl, hi, hall, h20⟩
  refine opB_in <| opI_in <| Bd_in fun b23 hb23 => If_in (fun hb => ?_) fun hb => ?_
  · subst hb23
    simp only [decide_eq_true_eq, Int.ofNat_lt] at hb
    refine ⟨ht.ix hb, (ht.md h20).ld1 hb rfl ?_⟩
    refine opI_in <| Bd_in fun b26 hb26 => Bd_in fun b27 hb27 => Bd_in fun b28 hb28 => If_in (fun h => ⟨?_, h20⟩) fun h => Bd_in fun x29 hx29 => ?_
    · have : (tags.all fun x => decide (-1 ≤ x ∧ x < 200)) = false := all_false hb (by
        rw [hb28, hb27, hb26] at h
        rw [decide_eq_false_iff_not]
        by_cases h1 : tags[i] < -1
        · omega
        · simp [h1] at h; omega)
      unfold dRight
      rw [this]; simp
    · rw [inc_len hb htl] at hx29
      subst hx29
      refine ⟨tags.length - (i + 1), by omega, i + 1, rfl, rfl, by omega, all_take hb hall ?_, h20⟩
      rw [hb28, hb27, hb26] at h
      rw [decide_eq_true_eq]
      by_cases h1 : tags[i] < -1
      · simp [h1] at h
      · simp [h1] at h; omega
  · subst hb23
    simp only [decide_eq_false_iff_not, Int.ofNat_lt] at hb
    rw [List.take_of_length_le (by omega)] at hall
    refine Bd_in fun x30 hx30 => ?_
    subst hx30
    refine LoopP_in (fun m us vs w' => ∃ i : Nat, us = [.bool false, .int .i64 i] ∧ m = next.length - i ∧ i ≤ next.length ∧ (next.take i).all (fun x => decide (-1 ≤ x ∧ x < tags.length)) = true ∧ Md [] w w') next.length ⟨0, rfl, rfl, by omega, by simp, h20⟩ ?_
    rintro m us vs w34 ⟨j, rfl, rfl, hj, hall2, h34⟩
    refine opB_in <| opI_in <| Bd_in fun b37 hb37 => If_in (fun hb => ?_) fun hb => ⟨?_, h34⟩
    · subst hb37
      simp only [decide_eq_true_eq, Int.ofNat_lt] at hb
      refine ⟨hn.ix hb, (hn.md h34).ld1 hb rfl ?_⟩
      refine opI_in <| Bd_in fun b40 hb40 => Bd_in fun b41 hb41 => Bd_in fun b42 hb42 => If_in (fun h => ⟨?_, h34⟩) fun h => Bd_in fun x43 hx43 => ?_
      · have : (next.all fun x => decide (-1 ≤ x ∧ x < tags.length)) = false := all_false hb (by
          rw [hb42, hb41, hb40] at h
          rw [decide_eq_false_iff_not]
          by_cases h1 : next[j] < -1
          · omega
          · simp [h1] at h; omega)
        unfold dRight
        rw [this]; simp
      · rw [inc_len hb hnl] at hx43
        subst hx43
        refine ⟨next.length - (j + 1), by omega, j + 1, rfl, rfl, by omega, all_take hb hall2 ?_, h34⟩
        rw [hb42, hb41, hb40] at h
        rw [decide_eq_true_eq]
        by_cases h1 : next[j] < -1
        · simp [h1] at h
        · simp [h1] at h; omega
    · subst hb37
      simp only [decide_eq_false_iff_not, Int.ofNat_lt] at hb
      rw [List.take_of_length_le (by omega)] at hall2
      unfold dRight
      rw [hd, hall, hall2]; rfl
end Fk
set_option linter.unusedVariables false
set_option linter.unusedSimpArgs false
set_option maxRecDepth 100000
namespace Fk
open Go Go.Proofs Go.RowKit
theorem addr_add0 (A : Addr) : A.add 0 = A := by unfold Addr.add; simp
/-- The first ones of a slice. -/
theorem slice_front {P : Program} {t e : TypeId} (ht : P.underlying t = some (.slice e)) (hs : ∀ w, ∃ s, (Go.sizeOf e).run P w = .ok s w) (w : World) (a : Option Addr) (n c m : Nat) (h : m ≤ c) :
    (Instr.sliceAt t (.slice a n c) none (some (.int .i64 (m : Int))) none).run P w = .ok (.slice a m c) w := by
  have he : P.elem t = e := by simp [Program.elem, ht]
  have ht' : P.underlying t = some (.slice (P.elem t)) := by rw [he]; exact ht
  rw [run_sliceAt_slice w t _ _ _ _ ht', run_slice_h w t a n c ht' .i64 m (by omega) (by omega), he]
  obtain ⟨s, hs⟩ := hs w
  rw [hs]
  simp only [Result.andThen, sliced, Int.toNat_natCast, Nat.sub_zero, Nat.zero_mul]
  congr 2
  split
  · rfl
  · cases a with
    | none => rfl
    | some A => simp [addr_add0]
end Fk
set_option linter.unusedVariables false
set_option linter.unusedSimpArgs false
set_option maxRecDepth 100000
namespace Fk
open Go Go.Proofs Go.RowKit
def digB (x : Int) : Bool := decide (48 ≤ x) && decide (x ≤ 57)
def smB (x : Int) : Bool := decide (97 ≤ x) && decide (x ≤ 122)
def nmAt (s : ByteArray) (i : Nat) : Bool := smB (byteAt s i) || (decide (i ≠ 0) && (decide (byteAt s i = 45) || digB (byteAt s i)))
def nmFrom (s : ByteArray) (i : Nat) : Bool := (List.range' i (s.size - i)).all (nmAt s)
def named (s : ByteArray) : Bool := nmFrom s 0 && decide (1 ≤ s.size) && decide (s.size ≤ 64)
theorem RowAt.take {α : Type} {w : World} {A : Option Addr} {size : Nat} {enc : α → List Value} {l : List α} (h : RowAt w A size enc l) (n : Nat) : RowAt w A size enc (l.take n) := by
  intro i x hx
  have hi := (List.getElem?_eq_some_iff.1 hx).1
  rw [List.getElem?_take_of_lt (by simp at hi; omega)] at hx
  exact h i x hx
def memB (s : ByteArray) (l : List ByteArray) : Bool := l.any fun x => decide (x = s)
theorem f73_ok (a b : List Int) (A B : Option Addr) (C D : Nat) (w : World) (ha : RowAt w A 1 i1 a) (hb : RowAt w B 1 i1 b) (hal : a.length < 2 ^ 63) :
    Ct Try.prog 73 #[.slice A a.length C, .slice B b.length D] w fun v w' => v = .bool (decide (a = b)) ∧ Md [] w w' := by
  apply f73_in
  refine Bd_in fun x1 hx1 => Bd_in fun x2 hx2 => Bd_in fun b3 hb3 => ?_
  rw [hx1, hx2] at hb3
  refine If_in (fun h => ⟨?_, Md.refl _ _⟩) fun h => Bd_in fun x4 hx4 => ?_
  · have : a ≠ b := by rintro rfl; rw [hb3] at h; simp at h
    simp [this]
  have hl : (a.length : Int) = b.length := by rw [hb3] at h; simpa using h
  subst hx4
  refine LoopP_in (fun m us vs w' => ∃ i : Nat, us = [.bool false, .int .i64 i] ∧ m = a.length - i ∧ i ≤ a.length ∧ a.take i = b.take i ∧ Md [] w w') a.length ⟨0, rfl, rfl, by omega, by simp, Md.refl _ _⟩ ?_
  rintro m us vs w8 ⟨i, rfl, rfl, hi, hpre, h8⟩
  refine opB_in <| opI_in <| Bd_in fun b11 hb11 => If_in (fun h => ?_) fun h => ⟨?_, h8⟩
  · subst hb11
    simp only [decide_eq_true_eq, Int.ofNat_lt] at h
    have hib : i < b.length := by omega
    refine ⟨fun w' => Md [] w w', h8.trans (Md_drew _), ha.ix h, .int .i64 a[i], fun w' hw' => (ha.md hw').ld1 h rfl rfl, opI_in ⟨hb.ix hib, .int .i64 b[i], fun w' hw' => (hb.md hw').ld1 hib rfl rfl, opI_in <| Bd_in fun b23 hb23 => ?_⟩⟩
    refine If_in (fun he => ⟨?_, h8.trans (Md_drew _)⟩) fun he => Bd_in fun x24 hx24 => ?_
    · have : a ≠ b := by rintro rfl; rw [hb23] at he; simp at he
      simp [this]
    · have he' : a[i] = b[i] := by rw [hb23] at he; simpa using he
      rw [inc_len h hal] at hx24
      subst hx24
      refine ⟨a.length - (i + 1), by omega, i + 1, rfl, rfl, by omega, ?_, h8.trans (Md_drew _)⟩
      rw [List.take_succ_eq_append_getElem h, List.take_succ_eq_append_getElem hib, hpre, he']
  · subst hb11
    simp only [decide_eq_false_iff_not, Int.ofNat_lt] at h
    rw [List.take_of_length_le (by omega), List.take_of_length_le (by omega)] at hpre
    simp [hpre]
theorem f96_ok (dm em : Int) (na nb ta tb : List Int) (A B D E : Option Addr) (C1 C2 C3 C4 : Nat) (w : World) (h1 : RowAt w A 1 i1 na) (h2 : RowAt w B 1 i1 ta) (h3 : RowAt w D 1 i1 nb) (h4 : RowAt w E 1 i1 tb) (hl1 : na.length < 2 ^ 63) (hl2 : ta.length < 2 ^ 63) :
    Ct Try.prog 96 #[.agg #[.int .i64 dm, .slice A na.length C1, .slice B ta.length C2], .agg #[.int .i64 em, .slice D nb.length C3, .slice E tb.length C4]] w fun v w' => v = .bool (decide (dm = em) && decide (na = nb) && decide (ta = tb)) ∧ Md [] w w' := by
  apply f96_in
  intro n1 hn1 n2 hn2
  refine Bd_in fun b3 hb3 w4 h4' hL4 => ?_
  have g4 : Good [n2, n1] w w4 := ⟨h4', hL4⟩
  refine Gd_to (fun b w' => (b3 = true → b = decide (na = nb)) ∧ Good [n2, n1] w w') (fun b9 w10 hJ => ?_) (fun fin hc => ?_) (fun hc => ⟨fun h => (by rw [h] at hc; cases hc), g4⟩)
  · obtain ⟨hb9, g10⟩ := hJ
    refine Bd_in fun b11 hb11 => ?_
    have e11 : b11 = (decide (dm = em) && decide (na = nb)) := by
      have e3 : b3 = decide (dm = em) := by rw [hb3, Bool.eq_iff_iff]; simp
      rw [hb11]
      cases h : b3 with
      | false => rw [h] at e3; rw [← e3]; rfl
      | true => rw [h] at e3; rw [← e3, hb9 h]; rfl
    refine Gd_to (fun b w' => (b11 = true → b = decide (ta = tb)) ∧ Good [n2, n1] w w') (fun b16 w17 hJ => ?_) (fun fin hc => ?_) (fun hc => ⟨fun h => (by rw [h] at hc; cases hc), g10⟩)
    · refine Bd_in fun b18 hb18 => ⟨?_, hJ.2.1⟩
      rw [hb18]
      cases h : b11 with
      | false => rw [h] at e11; rw [← e11]; rfl
      | true => rw [h] at e11; rw [← e11, hJ.1 h]; rfl
    · refine (f73_ok ta tb B E C2 C4 w10 (h2.md g10.1) (h4.md g10.1) hl2).call g10.2 ?_
      rintro v w' rfl h'
      exact opB_in (fin _ _ ⟨fun _ => rfl, g10.tr h'⟩)
  · refine (f73_ok na nb A D C1 C3 w4 (h1.md h4') (h3.md h4') hl1).call hL4 ?_
    rintro v w' rfl h'
    exact opB_in (fin _ _ ⟨fun _ => rfl, g4.tr h'⟩)
end Fk
set_option linter.unusedVariables false
set_option linter.unusedSimpArgs false
set_option maxRecDepth 100000
namespace Fk
open Go Go.Proofs Go.RowKit
/-- A table. -/
structure Tb where
  c : Cl
  dm : Int
  nx : List Int
  tg : List Int
  nm : List ByteArray
/-- Where its rows stand. -/
structure TbS where
  na : Option Addr
  nc : Nat
  ta : Option Addr
  tc : Nat
  sa : Option Addr
  sc : Nat
def Tb.d (t : Tb) (p : TbS) : List Value := [.int .i64 t.dm, .slice p.na t.nx.length p.nc, .slice p.ta t.tg.length p.tc]
def Tb.l (t : Tb) (p : TbS) : List Value := t.c.l ++ (t.d p ++ [.slice p.sa t.nm.length p.sc])
def Tb.v (t : Tb) (p : TbS) : Array Value := (t.l p).toArray
structure TbAt (w : World) (t : Tb) (p : TbS) : Prop where
  ok : t.c.ok
  nx : RowAt w p.na 1 i1 t.nx
  tg : RowAt w p.ta 1 i1 t.tg
  nm : RowAt w p.sa 1 s1 t.nm
  nxl : t.nx.length < 2 ^ 63
  tgl : t.tg.length < 2 ^ 63
  nml : t.nm.length < 2 ^ 63
  nsz : ∀ s ∈ t.nm, s.size < 2 ^ 63
  cap : t.nm.length ≤ p.sc
theorem TbAt.md {w w' : World} {t : Tb} {p : TbS} (h : TbAt w t p) (hm : Md [] w w') : TbAt w' t p := ⟨h.ok, h.nx.md hm, h.tg.md hm, h.nm.md hm, h.nxl, h.tgl, h.nml, h.nsz, h.cap⟩
section
variable {w : World} {t : Tb} {p : TbS}
theorem TbAt.len (h : TbAt w t p) : t.c.l.length = 257 := by simp [Cl.l, h.ok.len]
theorem TbAt.size (h : TbAt w t p) : (t.v p).size = 261 := by simp [Tb.v, Tb.l, Tb.d, h.len]
theorem TbAt.byte (h : TbAt w t p) {b : Nat} (hb : b < 256) : nthV (Array.toList (t.v p)) (0 + (b : Int).toNat * 1) = some (.int .u8 (t.c.f[b]'(by rw [h.ok.len]; exact hb) : Int)) := by
  have := h.ok.nth' (i := b) (by rw [h.ok.len]; exact hb)
  simp only [nthV, Tb.v, Tb.l, Cl.v] at this ⊢
  rw [List.getElem?_append_left (by rw [h.len]; simp; omega)]; exact this
end
def namesOk : List ByteArray → List ByteArray → Bool
  | _, [] => true
  | pre, s :: l => named s && !memB s pre && namesOk (pre ++ [s]) l
def tHead (t : Tb) : Bool := t.c.right && dRight t.dm t.nx t.tg && decide (t.c.m = t.dm) && decide (1 ≤ t.nm.length ∧ t.nm.length ≤ 200)
def tTags (t : Tb) : Bool := t.tg.all fun x => decide (x < (t.nm.length : Int))
/-- Which tables are right. -/
def tRight (t : Tb) : Bool := tHead t && namesOk [] t.nm && tTags t
theorem dRight_tags {dm : Int} {nx tg : List Int} (h : dRight dm nx tg = true) : 1 ≤ dm ∧ dm ≤ 256 ∧ 1 ≤ tg.length ∧ tg.length ≤ 5000 ∧ (nx.length : Int) = dm * tg.length := by
  simp only [dRight, Bool.and_eq_true, decide_eq_true_eq] at h; exact h.1.1
section
variable {L : List Nat} {w0 w : World} {K : Bool → World → Prop}
end
theorem right_class {c : Cl} (hc : c.ok) (h : c.right = true) {i : Nat} (hi : i < c.f.length) : (c.f[i] : Int) < c.m := by
  rw [right_iff hc] at h
  simp only [Cl.rightR, Bool.and_eq_true, List.all_eq_true, decide_eq_true_eq] at h
  exact h.1.2 _ (List.getElem_mem hi)
section
variable {L : List Nat} {w0 w : World} {K : Bool → World → Prop}
end
/-- What is small enough. -/
structure Tb.few (t : Tb) : Prop where
  nm : t.nm.length ≤ 20
  sz : ∀ s ∈ t.nm, s.size ≤ 100
  tg : t.tg.length ≤ 60
  nx : t.nx.length ≤ 2400
end Fk
set_option linter.unusedVariables false
set_option linter.unusedSimpArgs false
set_option maxRecDepth 100000
namespace Fk
open Go Go.Proofs Go.RowKit
def b1 (x : Nat) : List Value := [.int .u8 (x : Int)]
theorem encb1 : Enc 1 b1 := ⟨fun _ => rfl, by intro x v hv; simp [b1] at hv; subst hv; rfl⟩
theorem rowT51 : RowT Try.prog 51 5 1 1 := RowT.of (by kernel_rfl) (by kernel_rfl) (by kernel_rfl) (by omega)
def Blk (w : World) (n : Nat) (ty : TypeId) (l : List Value) : Prop := w.heap[n]? = some (.cells l.toArray ty (0, 0))
theorem Blk.lt {w : World} {n : Nat} {ty : TypeId} {l : List Value} (h : Blk w n ty l) : n < w.heap.size := (Array.getElem?_eq_some_iff.1 h).1
theorem Blk.cell {w : World} {n : Nat} {ty : TypeId} {l : List Value} (h : Blk w n ty l) {j : Nat} {v : Value} (hv : l[j]? = some v) : w.cell? ⟨n, j, none⟩ = some v := by
  rw [cell_of_row w n j _ ty (0, 0) h]; simpa using hv
theorem Blk.wr {w : World} {n : Nat} {ty : TypeId} {l : List Value} (h : Blk w n ty l) {o k : Nat} (hk : o + k ≤ l.length) : Wr w ⟨n, o, none⟩ k := by
  intro j hj
  rw [Addr.add_lit]
  refine ⟨⟨_, h.cell (List.getElem?_eq_getElem (by omega))⟩, ?_⟩
  unfold Blk at h
  simp [World.frozen?, h]
theorem Blk.set {w : World} {n : Nat} {ty : TypeId} {l : List Value} (h : Blk w n ty l) {j : Nat} (hj : j < l.length) (v : Value) : Blk (setCells w ⟨n, j, none⟩ 0 [v]) n ty (l.set j v) := by
  rcases wrL_run (m := 0) (cells := []) (o := j) (vs := []) [v] 0 l w h with h' | h'
  · unfold Blk
    rw [h']
    congr 3
    unfold wrL
    simp [List.set_eq_take_append_cons_drop, hj]
  · simp at h'; omega
theorem setCells_env : ∀ (vs : List Value) (i : Nat) (w : World) (A : Addr), (setCells w A i vs).os = w.os ∧ (setCells w A i vs).tape = w.tape ∧ (setCells w A i vs).output = w.output ∧ (setCells w A i vs).heap.size = w.heap.size
  | [], _, _, _ => ⟨rfl, rfl, rfl, rfl⟩
  | v :: vs, i, w, A => by
    obtain ⟨h1, h2, h3, h4⟩ := setCells_env vs (i + 1) (w.setCell (A.add i) v) A
    simp only [setCells]
    exact ⟨h1, h2, h3, by rw [h4]; simp [World.setCell]⟩
theorem Md_setCells {w : World} (n o : Nat) (vs : List Value) : Md [n] w (setCells w ⟨n, o, none⟩ 0 vs) := by
  obtain ⟨h1, h2, h3, h4⟩ := setCells_env vs 0 w ⟨n, o, none⟩
  exact ⟨h1, h2, h3, by omega, fun k hk hm => setCells_heap _ _ _ _ (by simpa using hm)⟩
theorem Blk.md {w w' : World} {n : Nat} {ty : TypeId} {l : List Value} {D : List Nat} (h : Blk w n ty l) (hm : Md D w w') (hD : n ∉ D) : Blk w' n ty l := by
  unfold Blk
  rw [hm.blk n h.lt hD]; exact h
/-- Rows that a change elsewhere leaves. -/
theorem RowAt.mdD {α : Type} {w w' : World} {a : Option Addr} {size : Nat} {enc : α → List Value} {l : List α} {D : List Nat} (h : RowAt w a size enc l) (hm : Md D w w') (hD : ∀ A, a = some A → A.block ∉ D) : RowAt w' a size enc l := by
  intro i x hx
  obtain ⟨B, hB, hc⟩ := h i x hx
  refine ⟨B, hB, fun j u hu => hm.cell (hc j u hu) ?_⟩
  rw [add_block, add_block]
  exact hD B hB
theorem RowAt.mdE {α : Type} {w w' : World} {a : Option Addr} {size : Nat} {enc : α → List Value} {l : List α} {D : List Nat} (h : RowAt w a size enc l) (hm : Md D w w') (hD : ∀ A, a = some A → l ≠ [] → A.block ∉ D) : RowAt w' a size enc l := by
  cases l with
  | nil => intro i x hx; simp at hx
  | cons x l => exact h.mdD hm fun A hA => hD A hA (by simp)
theorem RowAt.lt {α : Type} {w : World} {a : Option Addr} {size : Nat} {enc : α → List Value} {l : List α} (h : RowAt w a size enc l) (he : Enc size enc) (hs : 0 < size) : ∀ A, a = some A → l ≠ [] → A.block < w.heap.size := by
  intro A hA hne
  obtain ⟨x, l', rfl⟩ := List.exists_cons_of_ne_nil hne
  obtain ⟨B, hB, hc⟩ := h 0 x rfl
  rw [hA] at hB
  cases hB
  have hl := he.len x
  have := cell_lt (hc 0 _ (List.getElem?_eq_getElem (by omega)))
  rw [add_block, add_block] at this
  exact this
theorem add_add (B : Addr) (x y : Nat) : (B.add x).add y = B.add (x + y) := by
  unfold Addr.add
  split <;> split <;> simp_all [Nat.add_assoc]
theorem RowAt.drop {α : Type} {w : World} {A : Option Addr} {size : Nat} {enc : α → List Value} {l : List α} (h : RowAt w A size enc l) (n : Nat) : RowAt w (A.map (·.add (n * size))) size enc (l.drop n) := by
  intro i x hx
  rw [List.getElem?_drop] at hx
  obtain ⟨B, rfl, hc⟩ := h (n + i) x hx
  refine ⟨_, rfl, fun j u hu => ?_⟩
  have := hc j u hu
  rw [show (B.add (n * size)).add (i * size) = B.add ((n + i) * size) by rw [Nat.add_mul]; exact add_add B _ _]
  exact this
def takeO (o : Option (List Nat)) (m : Nat) : List Nat × Option (List Nat) := match o with
  | none => (List.replicate m 0, none)
  | some r => if r.length < m then (List.replicate m 0, none) else (r.take m, some (r.drop m))
theorem takeO_len (o : Option (List Nat)) (m : Nat) : (takeO o m).1.length = m := by
  unfold takeO
  split
  · simp
  · split
    · simp
    · simp; omega
def CuAt (w : World) (n : Nat) (o : Option (List Nat)) (tl : List Value) : Prop :=
  ∃ (r : List Nat) (off : Bool) (a : Option Addr) (c : Nat), o = (if off = true then none else some r) ∧ Blk w n 209 (.slice a r.length c :: .bool off :: tl) ∧ RowAt w a 1 b1 r ∧ r.length ≤ c ∧ (∀ A, a = some A → r ≠ [] → A.block < n)
def oneO (o : Option (List Nat)) : Nat × Option (List Nat) := ((takeO o 1).1.headD 0, (takeO o 1).2)
def pairO (o : Option (List Nat)) : Nat × Option (List Nat) := ((takeO o 2).1.headD 0 * 256 + ((takeO o 2).1.getD 1 0), (takeO o 2).2)
def okO (o : Option (List Nat)) : Prop := ∀ r, o = some r → ∀ x ∈ r, x < 256
theorem okO.take {o : Option (List Nat)} (h : okO o) (m : Nat) : okO (takeO o m).2 ∧ ∀ x ∈ (takeO o m).1, x < 256 := by
  cases o with
  | none => exact ⟨fun r hr => (by cases hr), fun x hx => by simp [takeO] at hx; omega⟩
  | some r =>
    unfold takeO
    by_cases hl : r.length < m
    · simp only [hl, if_true]
      exact ⟨fun r hr => (by cases hr), fun x hx => by simp at hx; omega⟩
    · simp only [hl, if_false]
      exact ⟨fun r' hr => (by cases hr; exact fun x hx => h r rfl x (List.mem_of_mem_drop hx)), fun x hx => h r rfl x (List.mem_of_mem_take hx)⟩
theorem okO.one {o : Option (List Nat)} (h : okO o) : okO (oneO o).2 ∧ (oneO o).1 < 256 := by
  obtain ⟨h1, h2⟩ := h.take 1
  refine ⟨h1, ?_⟩
  have hl := takeO_len o 1
  unfold oneO
  match hx : (takeO o 1).1, hl with
  | [x], _ => rw [hx] at h2; exact h2 x (by simp)
end Fk
set_option linter.unusedVariables false
set_option linter.unusedSimpArgs false
set_option maxRecDepth 100000
namespace Fk
open Go Go.Proofs Go.RowKit
section
variable {H : Type} {enc : TypeId × Value → H} {w : World} {base : Nat} {spare : Nat → Bool} {held : Bool} {fuel : Nat} {cs : List Value} {x : DataW H × List MemPlace}
theorem str_cs {t : TypeId} (ht : Try.prog.underlying t = some .string) (h : DataW.trod enc Try.prog w base spare held fuel t cs = some x) : ∃ s : ByteArray, cs = [.string s] ∧ s.size ≤ maxLen := by
  cases fuel with
  | zero => simp [DataW.trod] at h
  | succ m =>
    unfold DataW.trod at h
    rw [ht] at h
    split at h <;> simp_all
end
end Fk
set_option linter.unusedVariables false
namespace Fk
open Go Go.RowKit
theorem Bd_e {α : Type} {x y : α} {K : α → Prop} (h : x = y) (k : K y) : Bd x K := Bd_in fun z hz => by rw [hz, h]; exact k
theorem Gd_t {α : Type} {d : α} {op : (α → World → Prop) → Prop} {K : α → World → Prop} {w : World} (h : op K) : Gd true d op K w := ⟨fun _ => h, fun e => by cases e⟩
theorem Good.of {L : List Nat} {w0 w1 w : World} (h : Md [] w0 w1) (g : Good L w1 w) : Good L w0 w := ⟨h.trans g.1, g.2⟩
end Fk
set_option linter.unusedVariables false
set_option linter.unusedSimpArgs false
set_option maxRecDepth 100000
namespace Fk
open Go Go.Proofs Go.RowKit
structure Ns where
  k : Int
  s1 : Int
  s2 : Int
  s3 : Int
  s4 : Int
  a : Int
  b : Int
  t : Int
  deriving DecidableEq
def nsE (x : Ns) : List Value := [.int .u8 x.k, .int .u64 x.s1, .int .u64 x.s2, .int .u64 x.s3, .int .u64 x.s4, .int .i64 x.a, .int .i64 x.b, .int .i64 x.t]
abbrev Ns.v (x : Ns) : Value := .agg #[.int .u8 x.k, .int .u64 x.s1, .int .u64 x.s2, .int .u64 x.s3, .int .u64 x.s4, .int .i64 x.a, .int .i64 x.b, .int .i64 x.t]
theorem encNs : Enc 8 nsE := ⟨fun _ => rfl, by intro x v hv; simp [nsE] at hv; rcases hv with rfl | rfl | rfl | rfl | rfl | rfl | rfl | rfl <;> rfl⟩
/-- A struct, field by field: each one's type, place, and whether both have the same there. -/
theorem run_structN {P : Program} {w : World} {t : TypeId} (ht : P.underlying t = some (.struct (P.fieldsOf t))) (hp : P.stoodInHeld t = false) {d : Nat} {xs ys : Array Value} (rs : List (TypeId × Nat × Bool))
    (hF : fieldsL P t = rs.map fun p => (false, p.1, p.2.1))
    (h : ∀ p ∈ rs, ∃ a b, (part p.1 xs p.2.1).run P w = .ok a w ∧ (part p.1 ys p.2.1).run P w = .ok b w ∧ (Op.equalIn d p.1 a b).run P w = .ok p.2.2 w) :
    (Op.equalIn (d + 1) t (.agg xs) (.agg ys)).run P w = .ok (rs.all fun p => p.2.2) w := by
  rw [run_equalIn_struct w d t xs ys ht hp]
  unfold fieldsL at hF
  generalize P.fieldsOf t = fs at hF ⊢
  obtain ⟨l⟩ := fs
  show (Op.eqFields d xs ys l).run P w = _
  simp only at hF
  induction l generalizing rs with
  | nil =>
    cases rs with
    | nil => simp [Op.eqFields]
    | cons p rs => simp at hF
  | cons f l ih =>
    cases rs with
    | nil => simp at hF
    | cons p rs =>
      simp only [List.map_cons, List.cons.injEq, Prod.mk.injEq, decide_eq_false_iff_not] at hF
      obtain ⟨⟨n1, n2, n3⟩, hF⟩ := hF
      obtain ⟨a, b, h1, h2, h3⟩ := h p (by simp)
      rw [← n2] at h1 h2 h3
      rw [← n3] at h1 h2
      have := run_eqFields_cons (d := d) n1 h1 h2 h3 (ih rs (fun p hp => h p (by simp [hp])) hF)
      rw [this, List.all_cons]
theorem size28 (w : World) : (Go.sizeOf 28).run Try.prog w = .ok 4 w := by
  have h : (Try.prog.info? 28).map (·.size) = some 4 := by kernel_rfl
  cases hi : Try.prog.info? 28 with
  | none => rw [hi] at h; cases h
  | some i => rw [hi] at h; simp [Go.sizeOf, typeInfo, hi]; simpa using h
theorem eq103 (x y : Ns) (w : World) (o1 o2 : Operand) : (eqS .neq 103 o1 o2 x.v y.v).run Try.prog w = .ok (.bool (!decide (x = y))) w := by
  have u28 : Try.prog.underlying 28 = some (.array 4 26) := by kernel_rfl
  have u3 : Try.prog.underlying 3 = some (.int .i64) := by kernel_rfl
  have u5 : Try.prog.underlying 5 = some (.int .u8) := by kernel_rfl
  have a28 : isAggT Try.prog 28 = true := by kernel_rfl
  have a3 : isAggT Try.prog 3 = false := by kernel_rfl
  have a5 : isAggT Try.prog 5 = false := by kernel_rfl
  have h26 : (Try.prog.info? 26).isSome = true := by kernel_rfl
  obtain ⟨i26, hi26⟩ := Option.isSome_iff_exists.1 h26
  have e28 := run_equal_ints (P := Try.prog) (w := w) (t := 28) (e := 26) (q := .u64) (n := 4) u28 hi26 (by kernel_rfl) (by kernel_rfl) .u64 [x.s1, x.s2, x.s3, x.s4] [y.s1, y.s2, y.s3, y.s4] rfl rfl 9997
  have eI := fun (p q : Int) => EqT.int (P := Try.prog) (t := 3) (q := .i64) u3 .i64 9999 w p q (by omega)
  have eB := EqT.int (P := Try.prog) (t := 5) (q := .u8) u5 .u8 9999 w x.k y.k (by omega)
  have h := run_structN (P := Try.prog) (w := w) (t := 103) (by kernel_rfl) (by kernel_rfl) (d := 9999) (xs := #[.int .u8 x.k, .int .u64 x.s1, .int .u64 x.s2, .int .u64 x.s3, .int .u64 x.s4, .int .i64 x.a, .int .i64 x.b, .int .i64 x.t])
    (ys := #[.int .u8 y.k, .int .u64 y.s1, .int .u64 y.s2, .int .u64 y.s3, .int .u64 y.s4, .int .i64 y.a, .int .i64 y.b, .int .i64 y.t])
    [(5, 0, decide (x.k = y.k)), (28, 1, decide ([x.s1, x.s2, x.s3, x.s4] = [y.s1, y.s2, y.s3, y.s4])), (3, 5, decide (x.a = y.a)), (3, 6, decide (x.b = y.b)), (3, 7, decide (x.t = y.t))] (by kernel_rfl) (by
      intro p hp
      simp only [List.mem_cons, List.not_mem_nil, or_false] at hp
      rcases hp with rfl | rfl | rfl | rfl | rfl
      · exact ⟨_, _, part_cell u5 a5 rfl, part_cell u5 a5 rfl, eB⟩
      · exact ⟨_, _, part_agg u28 a28 (size28 w), part_agg u28 a28 (size28 w), e28⟩
      · exact ⟨_, _, part_cell u3 a3 rfl, part_cell u3 a3 rfl, eI _ _⟩
      · exact ⟨_, _, part_cell u3 a3 rfl, part_cell u3 a3 rfl, eI _ _⟩
      · exact ⟨_, _, part_cell u3 a3 rfl, part_cell u3 a3 rfl, eI _ _⟩)
  have := (eqS_of (by kernel_rfl) h o1 o2).2
  rw [this]
  congr 3
  clear this h eB eI e28
  cases x; cases y
  simp only [List.all_cons, List.all_nil, Ns.mk.injEq, List.cons.injEq]
  rw [Bool.eq_iff_iff]
  simp only [Bool.and_eq_true, decide_eq_true_eq, and_true]
  omega
end Fk
set_option linter.unusedVariables false
set_option linter.unusedSimpArgs false
set_option maxRecDepth 100000
namespace Fk
open Go Go.Proofs Go.RowKit
def bytesOf (l : List Nat) : ByteArray := ⟨(l.map UInt8.ofNat).toArray⟩
section
variable {t : Tb} {p : TbS}
theorem Tb.len (hf : t.c.f.length = 256) : (t.l p).length = 261 := by simp [Tb.l, Tb.d, Cl.l, hf]
end
theorem CuAt.mdN {w w' : World} {n : Nat} {o : Option (List Nat)} {tl : List Value} {D : List Nat} (h : CuAt w n o tl) (hm : Md D w w') (hD : ∀ d ∈ D, n < d) : CuAt w' n o tl := by
  obtain ⟨r, off, a, c, ho, hb, hr, hc, ha⟩ := h
  exact ⟨r, off, a, c, ho, hb.md hm (fun h => by have := hD n h; omega), hr.mdE hm fun A hA hne hm => (by have := ha A hA hne; have := hD _ hm; omega), hc, ha⟩
theorem CuAt.setOff {w : World} {n : Nat} {o : Option (List Nat)} {tl : List Value} (h : CuAt w n o tl) (m : Bool) (x : Bool) (hx : x = (bif o.isNone then true else !m)) :
    CuAt (setCells w ⟨n, 1, none⟩ 0 [.bool x]) n (if m = true then o else none) tl ∧ Md [n] w (setCells w ⟨n, 1, none⟩ 0 [.bool x]) ∧ Wr w ⟨n, 1, none⟩ 1 := by
  obtain ⟨r, off, a, c, ho, hb, hr, hc, ha⟩ := h
  have hm := Md_setCells (w := w) n 1 [.bool x]
  have hb2 := hb.set (j := 1) (by simp) (.bool x)
  refine ⟨⟨r, x, a, c, ?_, hb2, hr.mdE hm fun A hA hne => by have := ha A hA hne; simp; omega, hc, ha⟩, hm, hb.wr (by simp)⟩
  rw [hx, ho]
  cases off <;> cases m <;> rfl
/-- All that is so while the head is read. -/
structure HS (w0 w : World) (n : Nat) (o : Option (List Nat)) (t : Tb) (p : TbS) : Prop where
  cu : CuAt w n o (t.l p)
  ok : okO o
  f : t.c.f.length = 256
  nm : OwnL w w0.heap.size 9 1 s1 p.sa p.sc t.nm
  tg : OwnL w w0.heap.size 3 1 i1 p.ta p.tc t.tg
  nx : OwnL w w0.heap.size 3 1 i1 p.na p.nc t.nx
  md : Md [n] w0 w
  lt : n < w0.heap.size
  d1 : ∀ A B, p.sa = some A → p.ta = some B → A.block ≠ B.block
  d2 : ∀ A B, p.sa = some A → p.na = some B → A.block ≠ B.block
  d3 : ∀ A B, p.ta = some A → p.na = some B → A.block ≠ B.block
section
variable {w0 w : World} {n : Nat} {o : Option (List Nat)} {t : Tb} {p : TbS} {L : List Nat}
theorem own_ne {α : Type} {w : World} {base n : Nat} {e : TypeId} {size : Nat} {enc : α → List Value} {a : Option Addr} {c : Nat} {l : List α} (h : OwnL w base e size enc a c l) (hn : n < base) : ∀ A, a = some A → A.block ∉ [n] := by
  intro A hA
  have := (h.lt hA).1
  simp; omega
theorem HS.step {w' : World} {o' : Option (List Nat)} (S : HS w0 w n o t p) (hm : Md [n] w w') (hc : CuAt w' n o' (t.l p)) (ho : okO o') : HS w0 w' n o' t p :=
  ⟨hc, ho, S.f, S.nm.mdD hm (own_ne S.nm S.lt), S.tg.mdD hm (own_ne S.tg S.lt), S.nx.mdD hm (own_ne S.nx S.lt), S.md.trans hm, S.lt, S.d1, S.d2, S.d3⟩
theorem HS.drew (S : HS w0 w n o t p) : HS w0 w.drew n o t p := S.step ((Md_drew w).mono (by simp)) (S.cu.mdN (Md_drew w) (by simp)) S.ok
theorem HS.size (S : HS w0 w n o t p) : w0.heap.size ≤ w.heap.size := S.md.size
theorem okO.pair {o : Option (List Nat)} (h : okO o) : okO (pairO o).2 := (h.take 2).1
theorem Md.old' {D E : List Nat} {w0 w w' : World} (h0 : Md E w0 w) (h : Md D w w') (hD : ∀ d ∈ D, w0.heap.size ≤ d) : Md E w0 w' :=
  ⟨h.os.trans h0.os, h.tape.trans h0.tape, h.output.trans h0.output, Nat.le_trans h0.size h.size,
    fun k hk hm => (h.blk k (Nat.lt_of_lt_of_le hk h0.size) fun hm => by have := hD k hm; omega).trans (h0.blk k hk hm)⟩
theorem HS.off (S : HS w0 w n o t p) (m x : Bool) (hx : x = (bif o.isNone then true else !m)) : HS w0 (setCells w ⟨n, 1, none⟩ 0 [.bool x]) n (if m = true then o else none) t p ∧ Wr w ⟨n, 1, none⟩ 1 := by
  obtain ⟨hset, hm, hwr⟩ := S.cu.setOff m x hx
  exact ⟨S.step hm hset (by cases m; exact fun r hr => (by cases hr); exact S.ok), hwr⟩
theorem Md_setRow {w : World} {n : Nat} (cs : Array Value) : Md [n] w (w.setRow n cs) :=
  ⟨rfl, rfl, rfl, by simp [World.setRow], fun k hk hm => setRow_other w n k cs (by simpa using hm)⟩
end
def hd1 (o : Option (List Nat)) : Bool × Option (List Nat) :=
  if (oneO o).1 = 70 then (if (oneO (oneO o).2).1 = 84 then (decide ((oneO (oneO (oneO o).2).2).1 = 1), (oneO (oneO (oneO o).2).2).2) else (false, (oneO (oneO o).2).2)) else (false, (oneO o).2)
def hdOff (o : Option (List Nat)) : Option (List Nat) := if (hd1 o).1 = true then (hd1 o).2 else none
def hdM (o : Option (List Nat)) : Nat × Option (List Nat) := oneO (hdOff o)
def hdS (o : Option (List Nat)) : Nat × Option (List Nat) := pairO (hdM o).2
def hdC (o : Option (List Nat)) : Nat × Option (List Nat) := oneO (hdS o).2
def nmsO : Nat → Option (List Nat) → List ByteArray → List ByteArray × Option (List Nat)
  | 0, o, acc => (acc, o)
  | k + 1, o, acc => nmsO k (takeO (oneO o).2 (oneO o).1).2 (acc ++ [bytesOf (takeO (oneO o).2 (oneO o).1).1])
def hdN (o : Option (List Nat)) : List ByteArray × Option (List Nat) := nmsO (hdC o).1 (hdC o).2 []
def zT : Tb := ⟨zCl 0, 0, [], [], []⟩
def zP : TbS := ⟨none, 0, none, 0, none, 0⟩
end Fk
set_option linter.unusedVariables false
set_option linter.unusedSimpArgs false
set_option maxRecDepth 100000
namespace Fk
open Go Go.Proofs Go.RowKit
section
variable {H : Type} {enc : TypeId × Value → H} {w : World} {base : Nat} {spare : Nat → Bool} {held : Bool} {fuel : Nat} {cs : List Value} {x : DataW H × List MemPlace}
/-- A state's numbers are what they may be. -/
def Ns.wf (x : Ns) : Prop := 0 ≤ x.k ∧ x.k < 256
theorem str_of {d : DataW H} {ps : List MemPlace} {s : ByteArray} (h : DataW.Trod enc Try.prog w base spare held 9 (.string s) d ps) : ∃ l : List Nat, s = bytesOf l ∧ (∀ x ∈ l, x < 256) ∧ l.length < 2 ^ 63 := by
  obtain ⟨fuel, hf⟩ := h
  obtain ⟨s', h1, h2⟩ := str_cs (by kernel_rfl) hf
  have h1' : [Value.string s] = [.string s'] := h1
  simp at h1'
  subst h1'
  refine ⟨s.data.toList.map (·.toNat), ?_, ?_, ?_⟩
  · apply ByteArray.ext
    apply Array.toList_inj.1
    simp [bytesOf]
    have : (UInt8.ofNat ∘ fun x : UInt8 => x.toNat) = id := by funext x; simp
    rw [this, List.map_id]
  · intro x hx
    obtain ⟨y, _, rfl⟩ := List.mem_map.1 hx
    exact y.toNat_lt
  · rw [List.length_map]
    have e : s.data.toList.length = s.size := Array.length_toList
    simp only [maxLen] at h2
    omega
/-- How long a row of trees may be: what it holds is of bytes that memory bears. -/
theorem fo_sized {ts : List TypeId} {ds : List (DataW H)} (h : (DataW.weightsEach Try.prog ts ds).all (· ≤ reachBytes) = true) {j : Nat} (ht : ts[j]? = some 22) {d : DataW H} (hd : ds[j]? = some d) {ps : List MemPlace} {a : Option Addr} {n c : Nat} (hT : DataW.Trod enc Try.prog w base spare held 22 (.slice a n c) d ps) : n ≤ 2 ^ 41 := by
  obtain ⟨fuel, hT⟩ := hT
  rcases DataW.trod_slice (by kernel_rfl : Try.prog.underlying 22 = some (.slice 42)) hT with ⟨he, _⟩ | ⟨a', len, cap, elems, rest, m, rfl, he, hx, _, _, _, hel, _⟩
  · have he' : [Value.slice a n c] = [.slice none 0 0] := he
    simp at he'
    omega
  · have he' : [Value.slice a n c] = [.slice (some a') len cap] := he
    simp at he'
    simp only [Prod.mk.injEq] at hx
    obtain ⟨rfl, _⟩ := hx
    have := sized_slice h ht hd (by kernel_rfl : Try.prog.underlying 22 = some (.slice 42))
    have hb : Try.prog.bytesOf 42 = 64 := by kernel_rfl
    rw [hb] at this
    simp only [List.length_map, reachBytes] at this
    omega
end
end Fk
set_option linter.unusedVariables false
set_option linter.unusedSimpArgs false
set_option maxRecDepth 100000
namespace Fk
open Go Go.Proofs Go.RowKit
theorem ad0' (n j : Nat) : (Addr.mk n 0 none).add j = ⟨n, j, none⟩ := by rw [Addr.add_lit, Nat.zero_add]
theorem Blk.ld' {w : World} {n : Nat} {ty : TypeId} {l : List Value} (h : Blk w n ty l) {j : Nat} {v : Value} (hv : l[j]? = some v) {K : Value → Prop} (k : K v) : Ld w ((Addr.mk n 0 none).add j) K :=
  Ld_in (by rw [ad0']; exact h.cell hv) k
theorem Blk.new (w : World) (cs : Array Value) (ty : TypeId) : Blk (w.alloc (.cells cs ty)) w.heap.size ty cs.toList := by
  show (w.heap.push (.cells cs ty (0, 0)))[w.heap.size]? = _
  rw [Array.getElem?_push_size]
theorem RowAt.ld8v {w : World} {A : Option Addr} {l : List Ns} (h : RowAt w A 8 nsE l) {i : Nat} (hi : i < l.length) {K : Value → Value → Value → Value → Value → Value → Value → Value → Prop}
    (k : K (.int .u8 l[i].k) (.int .u64 l[i].s1) (.int .u64 l[i].s2) (.int .u64 l[i].s3) (.int .u64 l[i].s4) (.int .i64 l[i].a) (.int .i64 l[i].b) (.int .i64 l[i].t)) :
    Ld w ((adAt A (i : Int) 8).add 0) fun v1 => Ld w ((adAt A (i : Int) 8).add 1) fun v2 => Ld w ((adAt A (i : Int) 8).add 2) fun v3 => Ld w ((adAt A (i : Int) 8).add 3) fun v4 => Ld w ((adAt A (i : Int) 8).add 4) fun v5 => Ld w ((adAt A (i : Int) 8).add 5) fun v6 => Ld w ((adAt A (i : Int) 8).add 6) fun v7 => Ld w ((adAt A (i : Int) 8).add 7) fun v8 => K v1 v2 v3 v4 v5 v6 v7 v8 := by
  obtain ⟨B, rfl, hc⟩ := h i l[i] (List.getElem?_eq_getElem hi)
  exact Ld_in (hc 0 _ rfl) <| Ld_in (hc 1 _ rfl) <| Ld_in (hc 2 _ rfl) <| Ld_in (hc 3 _ rfl) <| Ld_in (hc 4 _ rfl) <| Ld_in (hc 5 _ rfl) <| Ld_in (hc 6 _ rfl) <| Ld_in (hc 7 _ rfl) k
theorem RowAt.ld8 {w : World} {A : Option Addr} {l : List Ns} (h : RowAt w A 8 nsE l) {i : Nat} (hi : i < l.length) {K : Int → Int → Int → Int → Int → Int → Int → Int → Prop}
    (k : K l[i].k l[i].s1 l[i].s2 l[i].s3 l[i].s4 l[i].a l[i].b l[i].t) :
    Ld w ((adAt A (i : Int) 8).add 0) fun v1 => Ld w ((adAt A (i : Int) 8).add 1) fun v2 => Ld w ((adAt A (i : Int) 8).add 2) fun v3 => Ld w ((adAt A (i : Int) 8).add 3) fun v4 => Ld w ((adAt A (i : Int) 8).add 4) fun v5 => Ld w ((adAt A (i : Int) 8).add 5) fun v6 => Ld w ((adAt A (i : Int) 8).add 6) fun v7 => Ld w ((adAt A (i : Int) 8).add 7) fun v8 =>
      opI .u8 v1 fun x1 => opI .u64 v2 fun x2 => opI .u64 v3 fun x3 => opI .u64 v4 fun x4 => opI .u64 v5 fun x5 => opI .i64 v6 fun x6 => opI .i64 v7 fun x7 => opI .i64 v8 fun x8 => K x1 x2 x3 x4 x5 x6 x7 x8 :=
  h.ld8v hi <| opI_in <| opI_in <| opI_in <| opI_in <| opI_in <| opI_in <| opI_in <| opI_in k
def Ns.zs (x : Ns) : Prop := x.s1 = 0 ∧ x.s2 = 0 ∧ x.s3 = 0 ∧ x.s4 = 0
instance (x : Ns) : Decidable x.zs := by unfold Ns.zs; infer_instance
def okNs (m : Int) (x : Ns) : Prop := (x.k = 0 ∧ x.zs ∧ x.a = 0 ∧ x.b = 0 ∧ 0 ≤ x.t ∧ x.t < 200) ∨ (x.k = 1 ∧ ¬ x.zs ∧ 0 ≤ x.a ∧ x.a < m ∧ x.b = 0 ∧ x.t = 0) ∨ (x.k = 2 ∧ x.zs ∧ 0 ≤ x.a ∧ x.a < m ∧ 0 ≤ x.b ∧ x.b < m ∧ x.t = 0)
instance (m : Int) (x : Ns) : Decidable (okNs m x) := by unfold okNs; infer_instance
def nfRight (st : Int) (l : List Ns) : Bool := decide (0 ≤ st ∧ st < l.length ∧ l.length ≤ 20000) && l.all fun x => decide (okNs l.length x)
theorem f186_ok (i : Int) (q : Addr) (A : Option Addr) (n C : Nat) (w : World) (h : w.cell? (q.add 1) = some (.slice A n C)) : Ct Try.prog 186 #[.int .i64 i, .pointer (some q)] w fun v w' => v = .bool (decide (0 ≤ i ∧ i < n)) ∧ Md [] w w' := by
  apply f186_in
  refine Bd_in fun b1 hb1 => Gd_to (fun (u : Option Addr × Nat × Nat) w' => (b1 = true → u.2.1 = n) ∧ Md [] w w') (fun u w8 hJ => ?_) (fun fin hc => Ld_in h <| opL_in <| fin _ _ ⟨fun _ => rfl, Md.refl _ _⟩) (fun hc => ⟨fun h => (by rw [hc] at h; cases h), Md.refl _ _⟩)
  obtain ⟨hu, hm⟩ := hJ
  refine Bd_e rfl <| Bd_in fun b10 hb10 => Bd_in fun b11 hb11 => ⟨?_, hm⟩
  rw [hb11]
  by_cases c : 0 ≤ i
  · have e1 : b1 = true := by rw [hb1]; simpa using c
    rw [e1, hb10, hu e1]
    simp [c]
  · have e1 : b1 = false := by rw [hb1]; simpa using c
    rw [e1]
    simp [c]
theorem in186 {L : List Nat} {w : World} {n1 : Nat} {st : Int} {A : Option Addr} {n C : Nat} (h : Blk w n1 71 [.int .i64 st, .slice A n C]) (i : Int) (hL : ∀ b ∈ L, b < w.heap.size) {K : Bool → World → Prop} (k : ∀ w', Md [] w w' → K (decide (0 ≤ i ∧ i < n)) w') :
    CallW Try.prog L 186 #[.int .i64 i, .pointer (some (Addr.mk n1 0 none))] (fun v w' => opB v fun b => K b w') w := by
  refine (f186_ok i _ A n C w (by rw [ad0']; exact h.cell rfl)).call hL ?_
  rintro v w' rfl m
  exact opB_in (k w' m)
theorem f81_ok (st : Int) (l : List Ns) (A : Option Addr) (C : Nat) (w : World) (hr : RowAt w A 8 nsE l) (hl : l.length < 2 ^ 60) :
    Ct Try.prog 81 #[.agg #[.int .i64 st, .slice A l.length C]] w fun v w' => v = .bool (nfRight st l) ∧ Md [] w w' := by
  apply f81_in
  intro n1 w2 e1 e2
  subst e1; subst e2
  have m2 : Md [] w (w.alloc (.cells #[.int .i64 st, .slice A l.length C] 71)) := Md.alloc w _
  have b2 : Blk (w.alloc (.cells #[.int .i64 st, .slice A l.length C] 71)) w.heap.size 71 [.int .i64 st, .slice A l.length C] := Blk.new w _ 71
  generalize w.alloc (.cells #[.int .i64 st, .slice A l.length C] 71) = w2 at *
  generalize hn1 : w.heap.size = n1 at *
  have hb : ∀ {w' : World}, Md [] w2 w' → Blk w' n1 71 [.int .i64 st, .slice A l.length C] := fun hm => b2.md hm (by simp)
  refine b2.ld' rfl <| opI_in <| in186 b2 st (by simp) fun w6 m6 => Bd_in fun b8 hb8 => ?_
  have hm6 := m2.trans m6
  refine Gd_to (fun (u : Option Addr × Nat × Nat) w' => (b8 = false → u.2.1 = l.length) ∧ w' = w6) (fun u w15 hJ => ?_) (fun fin hc => (hb m6).ld' rfl <| opL_in <| fin _ _ ⟨fun _ => rfl, rfl⟩) (fun hc => ⟨fun h => (by rw [h] at hc; cases hc), rfl⟩)
  obtain ⟨hu, rfl⟩ := hJ
  refine Bd_e rfl <| Bd_in fun b17 hb17 => Bd_in fun b18 hb18 => ?_
  have e18 : b18 = !decide (0 ≤ st ∧ st < l.length ∧ l.length ≤ 20000) := by
    rw [hb18]
    by_cases c : 0 ≤ st ∧ st < l.length
    · have e8 : b8 = false := by rw [hb8]; simpa using c
      rw [e8, hb17, hu e8]
      by_cases c2 : l.length ≤ 20000
      · simp [c, c2]; omega
      · simp [c, c2]; omega
    · have e8 : b8 = true := by rw [hb8, decide_eq_false c]; rfl
      rw [e8]
      have : ¬ (0 ≤ st ∧ st < l.length ∧ l.length ≤ 20000) := fun h => c ⟨h.1, h.2.1⟩
      simp [this]
  refine If_in (fun h => ⟨?_, hm6⟩) fun h => (hb m6).ld' rfl <| opL_in <| Bd_e rfl ?_
  · have : ¬ (0 ≤ st ∧ st < l.length ∧ l.length ≤ 20000) := fun hh => by rw [e18, decide_eq_true hh] at h; cases h
    unfold nfRight
    rw [decide_eq_false this]; rfl
  have hst : 0 ≤ st ∧ st < l.length ∧ l.length ≤ 20000 := by rw [e18] at h; simpa using h
  refine LoopP_in (fun mm us vs w' => ∃ i : Nat, us = [.bool false, .int .i64 i] ∧ mm = l.length - i ∧ i ≤ l.length ∧ Md [] w w' ∧ Md [] w2 w' ∧ ∀ x ∈ l.take i, okNs l.length x) l.length ⟨0, rfl, rfl, by omega, hm6, m6, by simp⟩ ?_
  rintro mm us vs w27 ⟨i, rfl, rfl, hi, hmd, hm2, hall⟩
  refine opB_in <| opI_in <| Bd_in fun b30 hb30 => If_in (fun h => ?_) fun h => ⟨?_, hmd⟩
  case refine_2 =>
    have hi' : i = l.length := by rw [hb30] at h; have : ¬ (i : Int) < (l.length : Int) := by simpa using h
                                  omega
    subst hi'
    rw [List.take_length] at hall
    unfold nfRight
    rw [decide_eq_true hst]
    have : (l.all fun x => decide (okNs l.length x)) = true := by rw [List.all_eq_true]; intro x hx; simpa using hall x hx
    rw [this]; rfl
  have hi' : i < l.length := by rw [hb30] at h; have : (i : Int) < (l.length : Int) := by simpa using h
                                omega
  have hnok : ¬ okNs l.length l[i] → nfRight st l = false := fun hno => by
    have : (l.all fun x => decide (okNs l.length x)) = false := by
      rw [List.all_eq_false]
      exact ⟨l[i], List.getElem_mem hi', by simpa using hno⟩
    unfold nfRight; rw [this]; simp
  have hstep : okNs l.length l[i] → ∀ x ∈ l.take (i + 1), okNs l.length x := fun ho x hx => by
    rw [List.take_succ_eq_append_getElem hi', List.mem_append] at hx
    rcases hx with hx | hx
    · exact hall x hx
    · simp at hx; rw [hx]; exact ho
  refine ⟨hr.ix hi', (hr.md hmd).ld8 hi' fun n47 hn47 n48 hn48 => ?_⟩
  generalize l[i] = x at *
  refine Jn_in (fun us vs w' => ∃ (ok bz : Bool) (y : Ns), us = [.bool ok, .bool bz] ∧ vs = [y.v] ∧ ((ok = true ∧ x = y) ↔ okNs l.length x) ∧ Md [] w w' ∧ Md [] w2 w' ∧ ∀ b ∈ [n48, n47], b < w'.heap.size) ?_ ?_
  · rintro us vs w51 ⟨ok, bz, y, rfl, rfl, hiff, hmd, hm2, hL⟩
    refine opB_in <| opB_in <| opAg_in <| opI_in <| opI_in <| opI_in <| opI_in <| opI_in <| opI_in <| opI_in <| opI_in <| SzIs_in rfl <| Bd_in fun b63 hb63 => ?_
    refine Gd_to (fun (b68 : Bool) w' => (b63 = false → b68 = !decide (x = y)) ∧ w' = w51) (fun b68 w69 hJ => ?_) (fun fin hc => RunW_in0 (eq103 x y w51 _ _) <| opB_in <| fin _ _ ⟨fun _ => rfl, rfl⟩) (fun hc => ⟨fun h => (by rw [h] at hc; cases hc), rfl⟩)
    obtain ⟨h68, rfl⟩ := hJ
    refine Bd_in fun b70 hb70 => ?_
    have e70 : b70 = !decide (okNs l.length x) := by
      rw [hb70, hb63]
      cases ok with
      | false =>
        have : ¬ okNs l.length x := fun h => by have := hiff.2 h; simp at this
        simp [this]
      | true =>
        rw [hb63] at h68
        rw [h68 rfl]
        by_cases c : x = y
        · have : okNs l.length x := hiff.1 ⟨rfl, c⟩
          simp [c, this]
          rw [← c]; exact this
        · have : ¬ okNs l.length x := fun h => c (hiff.2 h).2
          simp [c, this]
    refine If_in (fun h => ⟨?_, hmd⟩) fun h => Bd_e (inc_i64 (by omega)) ⟨l.length - (i + 1), by omega, i + 1, rfl, rfl, by omega, hmd, hm2, hstep ?_⟩
    · rw [hnok (by rw [e70] at h; simpa using h)]
    · rw [e70] at h; simpa using h
  have up : ∀ {w' w'' : World} {D : List Nat}, Md [] w w' → Md [] w2 w' → Md D w' w'' → (∀ d ∈ D, d = n48 ∨ d = n47) → Md [] w w'' ∧ Md [] w2 w'' := fun {w' w'' D} h1 h2 h3 hD => by
    have s1 := hmd.size
    have s2 := hm2.size
    exact ⟨h1.old h3 fun d hd => by rcases hD d hd with rfl | rfl <;> omega, h2.old h3 fun d hd => by rcases hD d hd with rfl | rfl <;> omega⟩
  have hbl : ∀ {w' : World}, Md [] w2 w' → Blk w' n1 71 [.int .i64 st, .slice A l.length C] := hb
  refine Bd_in fun b73 hb73 => If_in (fun h => ?_) fun h => ?_
  · have hk : x.k = 0 := by rw [hb73] at h; simpa using h
    refine Bd_in fun b74 hb74 => Bd_in fun b75 hb75 => Bd_in fun b76 hb76 w77 h77 hL77 => ?_
    obtain ⟨u1, u2⟩ := up hmd hm2 h77 (by simp)
    refine ⟨b76, b73, ⟨x.k, 0, 0, 0, 0, 0, 0, x.t⟩, rfl, rfl, ?_, u1, u2, hL77⟩
    have e : b76 = decide (0 ≤ x.t ∧ x.t < 200) := by rw [hb76, hb74, hb75]; by_cases c1 : 0 ≤ x.t <;> by_cases c2 : x.t < 200 <;> simp [c1, c2]
    rw [e]
    obtain ⟨k, s1, s2, s3, s4, a, b, t⟩ := x
    simp only at hk
    subst hk
    simp [okNs, Ns.zs]
    omega
  refine Bd_in fun b78 hb78 => If_in (fun h1 => ?_) fun h1 => ?_
  · have hk : x.k = 1 := by rw [hb78] at h1; simpa using h1
    refine Jn_in (fun us vs w' => vs = [(⟨x.k, x.s1, x.s2, x.s3, x.s4, x.a, 0, 0⟩ : Ns).v] ∧ Md [] w w' ∧ Md [] w2 w' ∧ ∀ b ∈ [n48, n47], b < w'.heap.size) ?_ ?_
    · rintro us vs w81 ⟨rfl, hm1, hm2', hL⟩
      refine opAg_in <| opI_in <| opI_in <| opI_in <| opI_in <| opI_in <| opI_in <| opI_in <| opI_in <| SzIs_in rfl <| RunW_in0 (ne28 _ _ x.s1 x.s2 x.s3 x.s4 0 0 0 0 w81) <| opB_in ?_
      refine Gd_to (fun (b98 : Bool) w' => ((!decide ([x.s1, x.s2, x.s3, x.s4] = [0, 0, 0, 0])) = true → b98 = decide (0 ≤ x.a ∧ x.a < l.length)) ∧ Md [] w81 w') (fun b98 w99 hJ => ?_) (fun fin hc => in186 (hbl hm2') x.a hL fun w96 m96 => fin _ _ ⟨fun _ => rfl, m96⟩) (fun hc => ⟨fun h => (by rw [h] at hc; cases hc), Md.refl _ _⟩)
      obtain ⟨h98, m99⟩ := hJ
      refine Bd_in fun b100 hb100 => ⟨b100, b73, _, rfl, rfl, ?_, hm1.trans m99, hm2'.trans m99, fun b hb => by have := hL b hb; have := m99.size; omega⟩
      have ez : ([x.s1, x.s2, x.s3, x.s4] = [0, 0, 0, 0]) ↔ x.zs := by simp [Ns.zs]
      have e : b100 = decide (¬ x.zs ∧ 0 ≤ x.a ∧ x.a < l.length) := by
        rw [hb100]
        by_cases c : x.zs
        · have : decide ([x.s1, x.s2, x.s3, x.s4] = [0, 0, 0, 0]) = true := by simpa using ez.2 c
          rw [this]; simp [c]
        · have : decide ([x.s1, x.s2, x.s3, x.s4] = [0, 0, 0, 0]) = false := decide_eq_false fun h => c (ez.1 h)
          rw [this] at h98 ⊢
          rw [h98 rfl]; simp [c]
      rw [e]
      obtain ⟨k, s1, s2, s3, s4, a, b, t⟩ := x
      simp only at hk
      subst hk
      simp [okNs, Ns.zs]
      omega
    intro w102 h102 hL102 w103 h103 hL103 w104 h104 hL104
    obtain ⟨u1, u2⟩ := up hmd hm2 h102 (by simp)
    obtain ⟨u3, u4⟩ := up (u1.trans (Md_drew w102)) (u2.trans (Md_drew w102)) h103 (by simp)
    obtain ⟨u5, u6⟩ := up u3 u4 h104 (by simp)
    exact ⟨rfl, u5, u6, hL104⟩
  refine Bd_in fun b105 hb105 => If_in (fun h2 => ?_) fun h2 => ?_
  · have hk : x.k = 2 := by rw [hb105] at h2; simpa using h2
    refine Jn_in (fun us vs w' => vs = [(⟨x.k, 0, 0, 0, 0, x.a, x.b, 0⟩ : Ns).v] ∧ Md [] w w' ∧ Md [] w2 w' ∧ ∀ b ∈ [n48, n47], b < w'.heap.size) ?_ ?_
    · rintro us vs w81 ⟨rfl, hm1, hm2', hL⟩
      refine opAg_in <| opI_in <| opI_in <| opI_in <| opI_in <| opI_in <| opI_in <| opI_in <| opI_in <| SzIs_in rfl <| in186 (hbl hm2') x.a hL fun w119 m119 => ?_
      have hL119 : ∀ b ∈ [n48, n47], b < w119.heap.size := fun b hb => by have := hL b hb; have := m119.size; omega
      refine Gd_to (fun (b98 : Bool) w' => (decide (0 ≤ x.a ∧ x.a < l.length) = true → b98 = decide (0 ≤ x.b ∧ x.b < l.length)) ∧ Md [] w119 w') (fun b98 w99 hJ => ?_) (fun fin hc => in186 (hbl (hm2'.trans m119)) x.b hL119 fun w96 m96 => fin _ _ ⟨fun _ => rfl, m96⟩) (fun hc => ⟨fun h => (by rw [h] at hc; cases hc), Md.refl _ _⟩)
      obtain ⟨h98, m99⟩ := hJ
      refine Bd_in fun b100 hb100 => ⟨b100, b73, _, rfl, rfl, ?_, (hm1.trans m119).trans m99, (hm2'.trans m119).trans m99, fun b hb => by have := hL119 b hb; have := m99.size; omega⟩
      have e : b100 = decide (0 ≤ x.a ∧ x.a < l.length ∧ 0 ≤ x.b ∧ x.b < l.length) := by
        rw [hb100]
        by_cases c : 0 ≤ x.a ∧ x.a < l.length
        · rw [decide_eq_true c] at h98 ⊢
          rw [h98 rfl]; simp [c]
        · rw [decide_eq_false c]
          have : ¬ (0 ≤ x.a ∧ x.a < l.length ∧ 0 ≤ x.b ∧ x.b < l.length) := fun h => c ⟨h.1, h.2.1⟩
          rw [decide_eq_false this]; rfl
      rw [e]
      obtain ⟨k, s1, s2, s3, s4, a, b, t⟩ := x
      simp only at hk
      subst hk
      simp [okNs, Ns.zs]
      omega
    intro w102 h102 hL102 w103 h103 hL103 w104 h104 hL104
    obtain ⟨u1, u2⟩ := up hmd hm2 h102 (by simp)
    obtain ⟨u3, u4⟩ := up (u1.trans (Md_drew w102)) (u2.trans (Md_drew w102)) h103 (by simp)
    obtain ⟨u5, u6⟩ := up u3 u4 h104 (by simp)
    exact ⟨rfl, u5, u6, hL104⟩
  intro w132 h132 hL132
  obtain ⟨u1, u2⟩ := up hmd hm2 h132 (by simp)
  refine ⟨false, b73, ⟨x.k, 0, 0, 0, 0, 0, 0, 0⟩, rfl, rfl, ?_, u1, u2, hL132⟩
  have k0 : x.k ≠ 0 := by rw [hb73] at h; simpa using h
  have k1 : x.k ≠ 1 := by rw [hb78] at h1; simpa using h1
  have k2 : x.k ≠ 2 := by rw [hb105] at h2; simpa using h2
  simp [okNs, k0, k1, k2]
end Fk
set_option linter.unusedVariables false
set_option linter.unusedSimpArgs false
namespace Fk
open Go Go.Proofs Go.RowKit
theorem wrL_len {cells vs : List Value} {o : Nat} (h : o + vs.length ≤ cells.length) : (wrL cells o vs).length = cells.length := by
  unfold wrL; simp; omega
theorem wrL_get {cells vs : List Value} {o : Nat} (h : o + vs.length ≤ cells.length) (j : Nat) : (wrL cells o vs)[j]? = if o ≤ j ∧ j < o + vs.length then vs[j - o]? else cells[j]? := by
  unfold wrL
  have hl : (cells.take o).length = o := by simp; omega
  split
  · rename_i hj
    rw [List.getElem?_append_right (by omega), hl, List.getElem?_append_left (by omega)]
  · rename_i hj
    rcases Nat.lt_or_ge j o with hjo | hjo
    · rw [List.getElem?_append_left (by omega), List.getElem?_take_of_lt hjo]
    · rw [List.getElem?_append_right (by omega), hl, List.getElem?_append_right (by omega), List.getElem?_drop]
      congr 1; omega
theorem wrL_take {cells vs : List Value} {o m : Nat} (h : o + vs.length ≤ m) (hm : m ≤ cells.length) : (wrL cells o vs).take m = wrL (cells.take m) o vs := by
  apply List.ext_getElem?
  intro j
  have h1 : (cells.take m).length = m := by simp; omega
  rw [wrL_get (by omega), List.getElem?_take, wrL_get (by omega), List.getElem?_take]
  split <;> split <;> rename_i a b <;> first | rfl | omega
theorem wrL_flat {α : Type} {size : Nat} {enc : α → List Value} (he : Enc size enc) : ∀ (l : List α) (i : Nat) (x : α), i < l.length → wrL (l.flatMap enc) (i * size) (enc x) = (l.set i x).flatMap enc
  | [], i, x, h => by simp at h
  | y :: l, 0, x, h => by
    simp only [wrL, List.flatMap_cons, Nat.zero_mul, List.take_zero, List.nil_append, Nat.zero_add, List.set_cons_zero]
    rw [he.len x, List.drop_left' (he.len y)]
  | y :: l, i + 1, x, h => by
    have ih := wrL_flat he l i x (by simpa using h)
    simp only [List.set_cons_succ, List.flatMap_cons, ← ih]
    unfold wrL
    rw [Nat.succ_mul, Nat.add_comm (i * size) size]
    rw [List.take_append, List.drop_append, he.len y]
    have h1 : List.take (size + i * size) (enc y) = enc y := List.take_of_length_le (by rw [he.len]; omega)
    have h2 : List.drop (size + i * size + (enc x).length) (enc y) = [] := List.drop_of_length_le (by rw [he.len, he.len]; omega)
    rw [h1, h2, List.append_assoc, List.nil_append, show size + i * size - size = i * size by omega, show size + i * size + (enc x).length - size = i * size + (enc x).length by omega]
theorem own_put {w : World} {base : Nat} {e : TypeId} {size n c : Nat} {a : Option Addr} {xs : List Value} (h : w.ownsRow base e size (.slice a n c) n xs) (o : Nat) (vs : List Value) (ho : o + vs.length ≤ xs.length) (hv : 0 < vs.length) :
    ∃ A, a = some A ∧ A.block < w.heap.size ∧ base ≤ A.block ∧ Wr w (A.add o) vs.length ∧ (setCells w (A.add o) 0 vs).ownsRow base e size (.slice a n c) n (wrL xs o vs) ∧ Md [A.block] w (setCells w (A.add o) 0 vs) := by
  obtain ⟨hxl, hh⟩ := h
  rcases hh with ⟨hv', hn⟩ | ⟨g, cap, cur, hv', hb, hg, hnc, hcm, hcs, htk⟩
  · subst hn; rw [Nat.zero_mul] at hxl; omega
  · simp only [Value.slice.injEq] at hv'
    obtain ⟨rfl, _, rfl⟩ := hv'
    have hle : n * size ≤ cur.toList.length := by rw [Array.length_toList, hcs]; exact Nat.mul_le_mul_right _ hnc
    have hadd : (Addr.mk g 0 none).add o = ⟨g, o, none⟩ := by simp [Addr.add_lit]
    have hblk : Blk w g e cur.toList := by unfold Blk; simpa using hg
    refine ⟨_, rfl, (Array.getElem?_eq_some_iff.1 hg).1, hb, ?_, ?_, ?_⟩
    · rw [hadd]; exact hblk.wr (by omega)
    · rw [hadd]
      refine ⟨by rw [wrL_len ho]; exact hxl, .inr ⟨g, c, (wrL cur.toList o vs).toArray, rfl, hb, ?_, hnc, hcm, ?_, ?_⟩⟩
      · rcases wrL_run (m := 0) (cells := []) (o := o) (vs := []) (b := g) (ty := e) vs 0 cur.toList w (by simpa using hg) with h' | h'
        · exact h'
        · omega
      · simp only [List.size_toArray]
        rw [wrL_len (by omega), Array.length_toList, hcs]
      · simp only
        rw [wrL_take (by omega) hle, htk]
    · rw [hadd]; exact Md_setCells _ _ _
theorem OwnL.put {α : Type} {w : World} {base : Nat} {e : TypeId} {size : Nat} {enc : α → List Value} {a : Option Addr} {c : Nat} {l : List α} (h : OwnL w base e size enc a c l) (he : Enc size enc) (hs : 0 < size) {i : Nat} (hi : i < l.length) (x : α) :
    ∃ A, a = some A ∧ A.block < w.heap.size ∧ base ≤ A.block ∧ (adAt a (i : Int) size).block = A.block ∧ Wr w (adAt a (i : Int) size) size ∧ OwnL (setCells w (adAt a (i : Int) size) 0 (enc x)) base e size enc a c (l.set i x) ∧
      Md [A.block] w (setCells w (adAt a (i : Int) size) 0 (enc x)) := by
  have hlen := he.lenL l
  have hmul : (i + 1) * size ≤ l.length * size := Nat.mul_le_mul_right _ hi
  rw [Nat.succ_mul] at hmul
  obtain ⟨A, rfl, h1, h2, h3, h4, h5⟩ := own_put h (i * size) (enc x) (by rw [he.len, hlen]; exact hmul) (by rw [he.len]; exact hs)
  have hA : adAt (some A) (i : Int) size = A.add (i * size) := by simp [adAt]
  rw [he.len] at h3
  rw [wrL_flat he l i x hi] at h4
  refine ⟨A, rfl, h1, h2, ?_, ?_, ?_, ?_⟩
  · rw [hA, add_block]
  · rw [hA]; exact h3
  · rw [hA]
    unfold OwnL
    rw [List.length_set]; exact h4
  · rw [hA]; exact h5
end Fk
set_option linter.unusedVariables false
set_option linter.unusedSimpArgs false
set_option maxRecDepth 100000
namespace Fk
open Go Go.Proofs Go.RowKit
theorem okO.off {o : Option (List Nat)} (h : okO o) : okO (hdOff o) := by
  have h1 := h.one.1
  have h2 := h1.one.1
  have h3 := h2.one.1
  have hh : okO (hd1 o).2 := by
    unfold hd1
    split
    · split
      · exact h3
      · exact h2
    · exact h1
  unfold hdOff
  split
  · exact hh
  · exact fun r hr => by cases hr
theorem okO.nms : ∀ (k : Nat) (o : Option (List Nat)) (acc : List ByteArray), okO o → (∀ s ∈ acc, s.size < 256) → okO (nmsO k o acc).2 ∧ (∀ s ∈ (nmsO k o acc).1, s.size < 256) ∧ (nmsO k o acc).1.length = acc.length + k
  | 0, o, acc, h, ha => ⟨h, ha, rfl⟩
  | k + 1, o, acc, h, ha => by
    have h1 := h.one
    have h2 := okO.nms k (takeO (oneO o).2 (oneO o).1).2 (acc ++ [bytesOf (takeO (oneO o).2 (oneO o).1).1]) (h1.1.take _).1 (by
      intro s hs
      rcases List.mem_append.1 hs with hs | hs
      · exact ha s hs
      · simp at hs
        subst hs
        simp [bytesOf, ByteArray.size, takeO_len, h1.2])
    refine ⟨h2.1, h2.2.1, ?_⟩
    rw [nmsO, h2.2.2]
    simp; omega
theorem okO.N {o : Option (List Nat)} (h : okO o) : okO (hdN o).2 ∧ (∀ s ∈ (hdN o).1, s.size < 256) ∧ (hdN o).1.length < 256 := by
  have h1 := (h.off.one.1.pair).one
  have h2 := okO.nms (hdC o).1 (hdC o).2 [] h1.1 (by simp)
  refine ⟨h2.1, h2.2.1, ?_⟩
  have : (hdN o).1.length = 0 + (hdC o).1 := h2.2.2
  have h3 : (hdC o).1 < 256 := h1.2
  omega
theorem OwnL.cap {α : Type} {w : World} {base : Nat} {e : TypeId} {size : Nat} {enc : α → List Value} {a : Option Addr} {c : Nat} {l : List α} (h : OwnL w base e size enc a c l) : l.length ≤ c := by
  rcases h.2 with ⟨hv, hn⟩ | ⟨g, cap, cur, hv, hb, hg, hnc, rest⟩
  · omega
  · simp only [Value.slice.injEq] at hv
    omega
/-- A table of one's own: no older than 'base'. -/
structure TbF (base : Nat) (w : World) (t : Tb) (p : TbS) : Prop where
  ok : t.c.ok
  nm : OwnL w base 9 1 s1 p.sa p.sc t.nm
  tg : OwnL w base 3 1 i1 p.ta p.tc t.tg
  nx : OwnL w base 3 1 i1 p.na p.nc t.nx
  nml : t.nm.length < 2 ^ 40
  tgl : t.tg.length < 2 ^ 40
  nxl : t.nx.length < 2 ^ 40
  nsz : ∀ s ∈ t.nm, s.size < 2 ^ 40
  d1 : ∀ A B, p.sa = some A → p.ta = some B → A.block ≠ B.block
  d2 : ∀ A B, p.sa = some A → p.na = some B → A.block ≠ B.block
  d3 : ∀ A B, p.ta = some A → p.na = some B → A.block ≠ B.block
theorem TbF.at {base : Nat} {w : World} {t : Tb} {p : TbS} (h : TbF base w t p) : TbAt w t p :=
  ⟨h.ok, h.nx.row enci1, h.tg.row enci1, h.nm.row encs1, by have := h.nxl; omega, by have := h.tgl; omega, by have := h.nml; omega, fun s hs => by have := h.nsz s hs; omega, h.nm.cap⟩
theorem TbF.mdN {base : Nat} {w w' : World} {t : Tb} {p : TbS} {D : List Nat} (h : TbF base w t p) (hm : Md D w w') (hD : ∀ d ∈ D, d < base) : TbF base w' t p := by
  have ne : ∀ {α : Type} {e : TypeId} {size : Nat} {enc : α → List Value} {a : Option Addr} {c : Nat} {l : List α}, OwnL w base e size enc a c l → ∀ A, a = some A → A.block ∉ D := by
    intro α e size enc a c l ho A hA hmem
    have := (ho.lt hA).1
    have := hD _ hmem
    omega
  exact ⟨h.ok, h.nm.mdD hm (ne h.nm), h.tg.mdD hm (ne h.tg), h.nx.mdD hm (ne h.nx), h.nml, h.tgl, h.nxl, h.nsz, h.d1, h.d2, h.d3⟩
theorem TbF.md {base : Nat} {w w' : World} {t : Tb} {p : TbS} (h : TbF base w t p) (hm : Md [] w w') : TbF base w' t p := h.mdN hm (by simp)
theorem TbF.down {base b : Nat} {w : World} {t : Tb} {p : TbS} (h : TbF base w t p) (hb : b ≤ base) : TbF b w t p := ⟨h.ok, h.nm.down hb, h.tg.down hb, h.nx.down hb, h.nml, h.tgl, h.nxl, h.nsz, h.d1, h.d2, h.d3⟩
theorem TbF.cells {base : Nat} {w : World} {t : Tb} {p : TbS} (h : TbF base w t p) : okCells (Array.toList (t.v p)) 261 = true := by
  have hl : (t.l p).length = 261 := Tb.len h.ok.len
  have : allOne (t.l p) = true := by
    simp [allOne, Tb.l, Tb.d, Cl.l, Value.oneCell']
  unfold okCells Tb.v
  rw [hl]
  exact this
theorem zT_ok : (zCl 0).ok := zCl_ok (by omega) (by omega)
theorem TbF.zero (base : Nat) (w : World) : TbF base w zT zP := ⟨zT_ok, OwnL.nil .., OwnL.nil .., OwnL.nil .., by simp [zT], by simp [zT], by simp [zT], by simp [zT], fun A B h => (by cases h), fun A B h => (by cases h), fun A B h => (by cases h)⟩
end Fk
set_option linter.unusedVariables false
set_option linter.unusedSimpArgs false
namespace Fk
open Go Go.Proofs Go.RowKit
/-- Two rows stand in blocks of their own. -/
def Apt (a b : Option Addr) : Prop := ∀ A B, a = some A → b = some B → A.block ≠ B.block
theorem Apt.symm {a b : Option Addr} (h : Apt a b) : Apt b a := fun A B hA hB e => h B A hB hA e.symm
/-- What stays when another row is appended to. -/
theorem own_keep {α : Type} {w w' : World} {base : Nat} {e : TypeId} {size : Nat} {enc : α → List Value} {a a' b : Option Addr} {c : Nat} {l : List α} (h : OwnL w base e size enc b c l)
    (hm : Md (a.map (·.block)).toList w w') (hA : ∀ A, a' = some A → a = some A ∨ w.heap.size ≤ A.block) (hd : Apt a b) : OwnL w' base e size enc b c l ∧ Apt a' b := by
  constructor
  · refine h.mdD hm fun B hB hmem => ?_
    cases a with
    | none => simp at hmem
    | some A => simp at hmem; exact hd A B rfl hB hmem.symm
  · intro A B hA' hB
    rcases hA A hA' with h1 | h1
    · exact hd A B h1 hB
    · have := (h.lt hB).2; omega
section
variable {base : Nat} {w : World} {t : Tb} {p : TbS} {L : List Nat}
end
end Fk
set_option linter.unusedVariables false
set_option linter.unusedSimpArgs false
set_option maxRecDepth 100000
namespace Fk
open Go Go.Proofs Go.RowKit
theorem rowT69 : RowT Try.prog 69 103 8 64 := RowT.of (by kernel_rfl) (by kernel_rfl) (by kernel_rfl) (by omega)
/-- A maker: its states, and how many there may be. -/
structure MkAt (w : World) (n : Nat) (l : List Ns) (most : Nat) (a : Option Addr) (c : Nat) : Prop where
  blk : Blk w n 214 [.slice a l.length c, .int .i64 most]
  own : OwnL w 0 103 8 nsE a c l
  ne : ∀ A, a = some A → A.block ≠ n
def fpM (n : Nat) (a : Option Addr) : List Nat := n :: (a.map (·.block)).toList
def Mkr (w : World) (n : Nat) (l : List Ns) (most : Nat) (F : List Nat) : Prop := ∃ a c, MkAt w n l most a c ∧ F = fpM n a
def FrN (w : World) (F F' : List Nat) : Prop := ∀ b ∈ F', b ∈ F ∨ w.heap.size ≤ b
theorem FrN.refl (w : World) (F : List Nat) : FrN w F F := fun _ h => .inl h
theorem FrN.trans {w w' : World} {F F' F'' : List Nat} (h : FrN w F F') (h2 : FrN w' F' F'') (hs : w.heap.size ≤ w'.heap.size) : FrN w F F'' := fun b hb => by
  rcases h2 b hb with h1 | h1
  · exact h b h1
  · right; omega
theorem mem_fpM {n : Nat} {a : Option Addr} {b : Nat} : b ∈ fpM n a ↔ b = n ∨ ∃ A, a = some A ∧ A.block = b := by
  unfold fpM
  cases a <;> simp [eq_comm]
theorem Mkr.md {w w' : World} {n : Nat} {l : List Ns} {most : Nat} {F D : List Nat} (h : Mkr w n l most F) (hm : Md D w w') (hD : ∀ b ∈ F, b ∉ D) : Mkr w' n l most F := by
  obtain ⟨a, c, h, rfl⟩ := h
  exact ⟨a, c, ⟨h.blk.md hm (hD n (by rw [mem_fpM]; exact .inl rfl)), h.own.mdD hm (fun A hA => hD _ (by rw [mem_fpM]; exact .inr ⟨A, hA, rfl⟩)), h.ne⟩, rfl⟩
theorem Mkr.md0 {w w' : World} {n : Nat} {l : List Ns} {most : Nat} {F : List Nat} (h : Mkr w n l most F) (hm : Md [] w w') : Mkr w' n l most F := h.md hm (by simp)
theorem Mkr.lt {w : World} {n : Nat} {l : List Ns} {most : Nat} {F : List Nat} (h : Mkr w n l most F) : ∀ b ∈ F, b < w.heap.size := by
  obtain ⟨a, c, h, rfl⟩ := h
  intro b hb
  rw [mem_fpM] at hb
  rcases hb with rfl | ⟨A, hA, rfl⟩
  · exact h.blk.lt
  · exact (h.own.lt hA).2
theorem f165_ok (n : Nat) (l : List Ns) (most : Nat) (F : List Nat) (w : World) (h : Mkr w n l most F) : Ct Try.prog 165 #[.pointer (some ⟨n, 0, none⟩)] w fun v w' => v = .bool (decide (l.length > most)) ∧ Md [] w w' := by
  apply f165_in
  obtain ⟨a, c, h, rfl⟩ := h
  refine ⟨fun w' => Md [] w.drew w', Md.refl _ _, ?_⟩
  show ∃ v3, _ ∧ _
  refine ⟨_, fun w' hm => (h.blk.md ((Md_drew w).trans hm) (by simp)).ld' rfl rfl, opL_in <| Bd_e rfl ?_⟩
  show ∃ v3, _ ∧ _
  refine ⟨_, fun w' hm => (h.blk.md ((Md_drew w).trans hm) (by simp)).ld' rfl rfl, opI_in <| Bd_in fun b17 hb17 => ⟨?_, Md_drew w⟩⟩
  rw [hb17]
  congr 2
  apply propext; omega
def mst (most : Nat) (l : List Ns) (x : Ns) : List Ns := if l.length ≤ most then l ++ [x] else l
theorem f164_ok (n : Nat) (l : List Ns) (most : Nat) (F : List Nat) (x : Ns) (w : World) (h : Mkr w n l most F) (hm : most ≤ 20000) (hl : l.length ≤ most + 1) :
    Ct Try.prog 164 #[.pointer (some ⟨n, 0, none⟩), x.v] w fun v w' => (v = .int .i64 ((mst most l x).length - 1 : Int) ∧ ∃ F', Mkr w' n (mst most l x) most F' ∧ FrN w F F') ∧ Md F w w' := by
  apply f164_in
  intro n1 hn1
  refine Jn_in (fun us vs w' => (∃ F', Mkr w' n (mst most l x) most F' ∧ FrN w F F') ∧ Md F w w') ?_ fun w13 h13 hL13 => ?_
  · rintro us vs w4 ⟨⟨F', ⟨a, c, hk, rfl⟩, hf⟩, hmd⟩
    have h1 : 1 ≤ (mst most l x).length := by unfold mst; split <;> (try simp) <;> omega
    have h2 : (mst most l x).length ≤ most + 2 := by unfold mst; split <;> (try simp) <;> omega
    show Ld _ _ _
    exact hk.blk.ld' rfl <| opL_in <| Bd_e rfl <| Bd_e (y := ((mst most l x).length - 1 : Int)) (by rw [IntKind.wrap_i64]; omega) ⟨⟨rfl, _, ⟨a, c, hk, rfl⟩, hf⟩, hmd⟩
  obtain ⟨a, c, hk, rfl⟩ := h
  have l1 := hL13 n1 (by simp)
  have hk13 : ∀ {w' : World}, Md [] w13.drew w' → Blk w' n 214 [.slice a l.length c, .int .i64 most] := fun hm => (hk.blk.md h13 (by simp)).md ((Md_drew w13).trans hm) (by simp)
  refine ⟨fun w' => Md [] w13.drew w', Md.refl _ _, ?_⟩
  show ∃ v3, _ ∧ _
  refine ⟨_, fun w' hm => (hk13 hm).ld' rfl rfl, opL_in <| Bd_e rfl ?_⟩
  show ∃ v3, _ ∧ _
  refine ⟨_, fun w' hm => (hk13 hm).ld' rfl rfl, opI_in <| Bd_in fun b30 hb30 => If_in (fun hb => ?_) fun hb => ?_⟩
  · have hle : l.length ≤ most := by rw [hb30] at hb; have : (l.length : Int) ≤ (most : Int) := by simpa using hb
                                     omega
    have ems : mst most l x = l ++ [x] := by unfold mst; rw [if_pos hle]
    have m0 : Md [] w w13.drew.drew := h13.trans ((Md_drew w13).trans (Md_drew _))
    have fin : ∀ (w' w2 : World), Md [] w w' → ∀ (a' : Option Addr) (c' : Nat), OwnL w2 0 103 8 nsE a' c' (l ++ [x]) → Md (a.map (·.block)).toList w' w2 → (∀ A, a' = some A → a = some A ∨ w'.heap.size ≤ A.block) →
        ¬ Addr.block (Addr.add (Addr.mk n 0 none) 0) ∈ [n1] ∧ Wr w2 (Addr.add (Addr.mk n 0 none) 0) 1 ∧ (∃ F', Mkr (setCells w2 (Addr.add (Addr.mk n 0 none) 0) 0 [.slice a' (l ++ [x]).length c']) n (mst most l x) most F' ∧ FrN w (fpM n a) F') ∧ Md (fpM n a) w (setCells w2 (Addr.add (Addr.mk n 0 none) 0) 0 [.slice a' (l ++ [x]).length c']) := by
      intro w' w2 hmw a' c' ho hm2 hA
      have hnlt := hk.blk.lt
      have hna : n ∉ (a.map (·.block)).toList := by
        cases a with
        | none => simp
        | some A => simp; exact fun e => hk.ne A rfl e.symm
      have b2 : Blk w2 n 214 [.slice a l.length c, .int .i64 most] := (hk.blk.md hmw (by simp)).md hm2 hna
      have hs1 := hmw.size
      have ne' : ∀ A, a' = some A → A.block ≠ n := fun A h e => by
        rcases hA A h with h1 | h1
        · exact hk.ne A h1 e
        · omega
      rw [ad0', ems]
      have b3 := b2.set (j := 0) (by simp) (.slice a' (l ++ [x]).length c')
      have ms := Md_setCells (w := w2) n 0 [.slice a' (l ++ [x]).length c']
      refine ⟨?_, b2.wr (by simp), ⟨_, ⟨a', c', ⟨b3, ho.mdD ms (fun A h => by simp; exact ne' A h), ne'⟩, rfl⟩, fun b hb => ?_⟩, ?_⟩
      · simp; omega
      · rw [mem_fpM] at hb ⊢
        rcases hb with rfl | ⟨A, h, rfl⟩
        · exact .inl (.inl rfl)
        · rcases hA A h with h1 | h1
          · exact .inl (.inr ⟨A, h1, rfl⟩)
          · right; omega
      · refine ⟨ms.os.trans (hm2.os.trans hmw.os), ms.tape.trans (hm2.tape.trans hmw.tape), ms.output.trans (hm2.output.trans hmw.output), by have := ms.size; have := hm2.size; omega, fun k hk' hkm => ?_⟩
        have hkn : k ≠ n := fun e => hkm (by rw [mem_fpM]; exact .inl e)
        have hka : k ∉ (a.map (·.block)).toList := fun hmem => hkm (by unfold fpM; exact List.mem_cons_of_mem _ hmem)
        have s2 := hm2.size
        exact ((ms.blk k (by omega) (by simpa using hkn)).trans (hm2.blk k (by omega) hka)).trans (hmw.blk k hk' (by simp))
    have hnot : ∀ b ∈ [n1], ∀ A, a = some A → A.block ≠ b := fun b hb A hA e => by have := (hk.own.lt hA).2; simp at hb; omega
    have hlD : ∀ {w' : World}, Md [] w13.drew.drew w' → ∀ b ∈ [n1], b < w'.heap.size := fun hm b hb => by
      have h1 := hm.size
      have h2 : w13.heap.size ≤ _ := h1
      simp at hb; omega
    have bD : ∀ {w' : World}, Md [] w13.drew.drew w' → Blk w' n 214 [.slice a l.length c, .int .i64 most] := fun hm => hk13 ((Md_drew _).trans hm)
    refine ⟨(bD (Md.refl _ _)).ld' rfl <| opL_in <| app_one rowT69 encNs x rfl (hk.own.md m0) (Nat.zero_le _) (hlD (Md.refl _ _)) hnot (by simp [maxLen]; omega) (by omega) fun a' c' w' ho hm hA => opL_in (fin _ w' m0 a' c' ho hm hA), ?_⟩
    intro n44 w45 e1 e2
    subst e1; subst e2
    have ma : Md [] w13.drew.drew (w13.drew.drew.alloc (.cells #[.int .u8 x.k, .int .u64 x.s1, .int .u64 x.s2, .int .u64 x.s3, .int .u64 x.s4, .int .i64 x.a, .int .i64 x.b, .int .i64 x.t] 103)) := Md.alloc _ _
    have ol := OwnL.lit (P := Try.prog) (base := 0) encNs w13.drew.drew 103 [x] #[.int .u8 x.k, .int .u64 x.s1, .int .u64 x.s2, .int .u64 x.s3, .int .u64 x.s4, .int .i64 x.a, .int .i64 x.b, .int .i64 x.t] (Nat.zero_le _) (by simp [maxLen]) rfl
    exact (bD ma).ld' rfl <| opL_in <| app_own rowT69 encNs ((hk.own.md m0).md ma) ol (Nat.zero_le _) (hlD ma) hnot (by simp [maxLen]; omega) (by simp; omega) fun a' c' w' ho hm hA => opL_in (fin _ w' (m0.trans ma) a' c' ho hm hA)
  · have hle : ¬ l.length ≤ most := by rw [hb30] at hb; have : ¬ (l.length : Int) ≤ (most : Int) := by simpa using hb
                                       omega
    have ems : mst most l x = l := by unfold mst; rw [if_neg hle]
    have m : Md [] w w13.drew := h13.trans (Md_drew w13)
    rw [ems]
    exact ⟨⟨_, ⟨a, c, ⟨hk13 (Md.refl _ _), hk.own.md m, hk.ne⟩, rfl⟩, FrN.refl _ _⟩, m.mono (by simp)⟩
end Fk
set_option linter.unusedVariables false
set_option linter.unusedSimpArgs false
set_option maxRecDepth 100000
namespace Fk
open Go Go.Proofs Go.RowKit
/-- A state more: all of them, and the last one's number. -/
def pst (most : Nat) (l : List Ns) (x : Ns) : List Ns × Int := (mst most l x, (mst most l x).length - 1)
def spl (a b : Int) : Ns := ⟨2, 0, 0, 0, 0, a, b, 0⟩
def setA (l : List Ns) (i k : Int) : List Ns := match l[i.toNat]? with
  | some x => l.set i.toNat { x with a := k }
  | none => l
/-- What a row of trees makes: as a row of a text; as choices; the first tree alone. -/
structure Tw where
  cat : List Ns × Int → List Ns × Int
  alt : Int → List Ns → List Ns × Option Int
  one : List Ns × Int → List Ns × Int
def twOne (most : Nat) (k a b c d : Int) (Q : Tw) (p : List Ns × Int) : List Ns × Int :=
  if p.1.length > most then p
  else if k = 1 then pst most p.1 ⟨1, a, b, c, d, p.2, 0, 0⟩
  else if k = 2 then Q.cat p
  else if k = 3 then ((Q.alt p.2 p.1).1, (Q.alt p.2 p.1).2.getD 0)
  else if k = 4 then
    let s := pst most p.1 (spl 0 p.2)
    let q := Q.one (s.1, s.2)
    (setA q.1 s.2 q.2, s.2)
  else p
def twAlt (most : Nat) (one : List Ns × Int → List Ns × Int) (R : Tw) (to : Int) (l : List Ns) : List Ns × Option Int :=
  let r := R.alt to l
  let q := one (r.1, to)
  match r.2 with
  | none => (q.1, some q.2)
  | some at' => ((pst most q.1 (spl q.2 at')).1, some (pst most q.1 (spl q.2 at')).2)
def tw (most : Nat) : Fo → Tw
  | .nil => ⟨id, fun _ l => (l, none), id⟩
  | .cons k a b c d q r =>
    let one := twOne most k a b c d (tw most q)
    ⟨fun p => one ((tw most r).cat p), twAlt most one (tw most r), one⟩
theorem mst_len (most : Nat) (l : List Ns) (x : Ns) (h : l.length ≤ most + 1) : l.length ≤ (mst most l x).length ∧ (mst most l x).length ≤ most + 1 := by
  unfold mst
  split
  · simp; omega
  · omega
theorem setA_len (l : List Ns) (i k : Int) : (setA l i k).length = l.length := by
  unfold setA
  split <;> simp
theorem tw_len (most : Nat) : ∀ f : Fo, (∀ p : List Ns × Int, p.1.length ≤ most + 1 → p.1.length ≤ ((tw most f).cat p).1.length ∧ ((tw most f).cat p).1.length ≤ most + 1) ∧
    (∀ (to : Int) (l : List Ns), l.length ≤ most + 1 → l.length ≤ ((tw most f).alt to l).1.length ∧ ((tw most f).alt to l).1.length ≤ most + 1) ∧
    (∀ p : List Ns × Int, p.1.length ≤ most + 1 → p.1.length ≤ ((tw most f).one p).1.length ∧ ((tw most f).one p).1.length ≤ most + 1)
  | .nil => ⟨fun p h => ⟨Nat.le_refl _, h⟩, fun to l h => ⟨Nat.le_refl _, h⟩, fun p h => ⟨Nat.le_refl _, h⟩⟩
  | .cons k a b c d q r => by
    obtain ⟨q1, q2, q3⟩ := tw_len most q
    obtain ⟨r1, r2, r3⟩ := tw_len most r
    have one : ∀ p : List Ns × Int, p.1.length ≤ most + 1 → p.1.length ≤ (twOne most k a b c d (tw most q) p).1.length ∧ (twOne most k a b c d (tw most q) p).1.length ≤ most + 1 := by
      intro p hp
      unfold twOne
      split
      · exact ⟨Nat.le_refl _, hp⟩
      · split
        · exact mst_len most p.1 _ hp
        · split
          · exact q1 p hp
          · split
            · exact q2 _ _ hp
            · split
              · have h1 := mst_len most p.1 (spl 0 p.2) hp
                have h2 := q3 (pst most p.1 (spl 0 p.2)) h1.2
                simp only [setA_len]
                exact ⟨Nat.le_trans h1.1 h2.1, h2.2⟩
              · exact ⟨Nat.le_refl _, hp⟩
    refine ⟨fun p hp => ?_, fun to l hl => ?_, one⟩
    · have h1 := r1 p hp
      have h2 := one _ h1.2
      exact ⟨Nat.le_trans h1.1 h2.1, h2.2⟩
    · have h1 := r2 to l hl
      have h2 := one (((tw most r).alt to l).1, to) h1.2
      show l.length ≤ (twAlt most _ _ to l).1.length ∧ (twAlt most _ _ to l).1.length ≤ most + 1
      unfold twAlt
      simp only
      split
      · exact ⟨Nat.le_trans h1.1 h2.1, h2.2⟩
      · rename_i at' _
        have h3 := mst_len most _ (spl (twOne most k a b c d (tw most q) (((tw most r).alt to l).1, to)).2 at') h2.2
        exact ⟨Nat.le_trans h1.1 (Nat.le_trans h2.1 h3.1), h3.2⟩
end Fk
