/- Contracts of functions, and plain laws: several texts, joined. -/
import Derived.Test.YtpgjpgecgibklaaGR0
import Derived.WalkKit
import Derived.ProofKit
import Derived.OpenShut
import Derived.ShutString
import Derived.ChangeOld
import Derived.Below
import Derived.ChangeArms
import Derived.Test.YtpgjpgecgibklaaGV0
import Derived.Laws.Slices
import Derived.Laws.OwnMore
import Derived.Test.YtpgjpgecgibklaaGV1
set_option linter.unusedVariables false
set_option linter.unusedSimpArgs false
set_option linter.unusedSectionVars false
set_option maxRecDepth 100000
namespace Fk
open Go Go.Proofs Go.RowKit
section
variable {K K' : Type} [DecidableEq K] [DecidableEq K']
theorem idxK_old {k : K} {l e : List K} (h : k ∈ l) : idxK k (l ++ e) = idxK k l := by
  unfold idxK; rw [List.idxOf_append, if_pos h]
theorem idxK_inj {a b : K} : ∀ {l : List K}, a ∈ l → b ∈ l → idxK a l = idxK b l → a = b
  | [], h, _, _ => by simp at h
  | x :: l, ha, hb, h => by
    rw [idxK_cons, idxK_cons] at h
    by_cases h1 : x = a
    · by_cases h2 : x = b
      · rw [← h1, h2]
      · rw [if_pos h1, if_neg h2] at h; omega
    · by_cases h2 : x = b
      · rw [if_neg h1, if_pos h2] at h; omega
      · rw [if_neg h1, if_neg h2] at h
        exact idxK_inj ((List.mem_cons.1 ha).resolve_left fun e => h1 e.symm) ((List.mem_cons.1 hb).resolve_left fun e => h2 e.symm) (by omega)
theorem idxK_map {S : List K} {g : K → K'} (hg : ∀ a ∈ S, ∀ b ∈ S, g a = g b → a = b) {k : K} (hk : k ∈ S) : ∀ {l : List K}, (∀ a ∈ l, a ∈ S) → idxK (g k) (l.map g) = idxK k l
  | [], _ => by simp [idxK]
  | x :: l, h => by
    rw [List.map_cons, idxK_cons, idxK_cons, idxK_map hg hk fun a ha => h a (List.mem_cons_of_mem _ ha)]
    by_cases e : x = k
    · rw [if_pos e, if_pos (by rw [e])]
    · rw [if_neg e, if_neg fun e' => e (hg x (h x (by simp)) k hk e')]
theorem mem_map_inj {S : List K} {g : K → K'} (hg : ∀ a ∈ S, ∀ b ∈ S, g a = g b → a = b) {k : K} (hk : k ∈ S) {l : List K} (hl : ∀ a ∈ l, a ∈ S) : g k ∈ l.map g ↔ k ∈ l := by
  constructor
  · intro h
    obtain ⟨a, ha, he⟩ := List.mem_map.1 h
    rwa [← hg a (hl a ha) k hk he]
  · exact List.mem_map_of_mem
theorem numGo_map {S : List K} {g : K → K'} (hg : ∀ a ∈ S, ∀ b ∈ S, g a = g b → a = b) : ∀ (ks kn : List K), (∀ a ∈ ks, a ∈ S) → (∀ a ∈ kn, a ∈ S) →
    numGo (ks.map g) (kn.map g) = ((numGo ks kn).1, (numGo ks kn).2.map g)
  | [], kn, _, _ => rfl
  | k :: ks, kn, h1, h2 => by
    have hk := h1 k (by simp)
    have ha : addK (g k) (kn.map g) = (addK k kn).map g := by
      unfold addK
      by_cases hm : k ∈ kn
      · rw [if_pos hm, if_pos ((mem_map_inj hg hk h2).2 hm)]
      · rw [if_neg hm, if_neg fun h => hm ((mem_map_inj hg hk h2).1 h)]; simp
    have h3 : ∀ a ∈ addK k kn, a ∈ S := by
      intro a ha'
      unfold addK at ha'
      split at ha'
      · exact h2 a ha'
      · rcases List.mem_append.1 ha' with h | h
        · exact h2 a h
        · simp at h; rw [h]; exact hk
    rw [List.map_cons, numGo, numGo, idxK_map hg hk h2, ha, numGo_map hg ks _ (fun a ha => h1 a (List.mem_cons_of_mem _ ha)) h3]
theorem numGo_ext : ∀ (ks kn : List K), ∃ e, (numGo ks kn).2 = kn ++ e
  | [], kn => ⟨[], by simp [numGo]⟩
  | k :: ks, kn => by
    obtain ⟨e, he⟩ := numGo_ext ks (addK k kn)
    by_cases hm : k ∈ kn
    · exact ⟨e, by rw [numGo]; simp only [he]; rw [addK_old hm]⟩
    · exact ⟨k :: e, by rw [numGo]; simp only [he]; rw [addK_new hm]; simp⟩
theorem addK_mem (k : K) (kn : List K) : k ∈ addK k kn := by
  unfold addK; split
  · assumption
  · simp
theorem numGo_mem : ∀ (ks kn : List K) (k : K), k ∈ ks → k ∈ (numGo ks kn).2
  | x :: ks, kn, k, h => by
    rw [numGo]
    rcases List.mem_cons.1 h with rfl | h
    · obtain ⟨e, he⟩ := numGo_ext ks (addK k kn)
      simp only [he]
      exact List.mem_append_left _ (addK_mem k kn)
    · exact numGo_mem ks _ k h
theorem numGo_lab : ∀ (ks kn : List K), (numGo ks kn).1 = ks.map fun k => idxK k (numGo ks kn).2
  | [], kn => rfl
  | k :: ks, kn => by
    obtain ⟨e, he⟩ := numGo_ext ks (addK k kn)
    have hi : idxK k kn = idxK k (numGo ks (addK k kn)).2 := by
      rw [he, idxK_old (addK_mem k kn)]
      by_cases hm : k ∈ kn
      · rw [addK_old hm]
      · rw [addK_new hm, idxK_new hm, idxK, List.idxOf_append, if_neg hm]; simp
    rw [numGo]
    simp only [List.map_cons, ← hi]
    rw [← numGo_lab ks (addK k kn)]
end
theorem keysOf_range (h : Nat → Nat) (q : Q4) (n : Nat) : keysOf ((List.range n).map h) q = (List.range n).map fun b => (h b, inQ q b) := by
  apply List.ext_getElem
  · simp [keysOf]
  · intro i h1 h2
    simp [keysOf]
theorem parted_gen {K : Type} [DecidableEq K] (σ : Nat → K) (n : Nat) (m : Int) (q : Q4) :
    Cl.parted ⟨(numGo ((List.range n).map σ) []).1, m⟩ q = ⟨(numGo ((List.range n).map fun b => (σ b, inQ q b)) []).1, (numGo ((List.range n).map fun b => (σ b, inQ q b)) []).2.length⟩ := by
  have hmem : ∀ b, b < n → σ b ∈ (numGo ((List.range n).map σ) []).2 := fun b hb => numGo_mem _ _ _ (List.mem_map_of_mem (List.mem_range.2 hb))
  have hl := numGo_lab ((List.range n).map σ) []
  rw [List.map_map] at hl
  generalize (numGo ((List.range n).map σ) []).2 = F at hmem hl
  obtain ⟨ps, hps⟩ : ∃ ps : List (K × Bool), ps = (List.range n).map fun b => (σ b, inQ q b) := ⟨_, rfl⟩
  have hS : ∀ p ∈ ps, p.1 ∈ F := by
    intro p hp
    rw [hps] at hp
    obtain ⟨b, hb, rfl⟩ := List.mem_map.1 hp
    exact hmem b (List.mem_range.1 hb)
  have e1 : keysOf ((List.range n).map ((fun k => idxK k F) ∘ σ)) q = ps.map fun p => (idxK p.1 F, p.2) := by
    rw [keysOf_range, hps, List.map_map]
    exact List.map_congr_left fun _ _ => rfl
  have n1 := numGo_map (S := ps) (g := fun p : K × Bool => (idxK p.1 F, p.2)) (fun a ha b hb h => by
    simp only [Prod.mk.injEq] at h
    exact Prod.ext (idxK_inj (hS a ha) (hS b hb) h.1) h.2) ps [] (fun a h => h) (by simp)
  simp only [List.map_nil] at n1
  unfold Cl.parted
  simp only [hl, e1]
  rw [n1, ← hps]
  simp only [List.length_map]
theorem num_snoc (l : List Q4) (q : Q4) (n : Nat) : (numGo ((List.range n).map (sig (l ++ [q]))) []).1 = (numGo ((List.range n).map fun b => (sig l b, inQ q b)) []).1 ∧
    (numGo ((List.range n).map (sig (l ++ [q]))) []).2.length = (numGo ((List.range n).map fun b => (sig l b, inQ q b)) []).2.length := by
  obtain ⟨ps, hps⟩ : ∃ ps : List (List Bool × Bool), ps = (List.range n).map fun b => (sig l b, inQ q b) := ⟨_, rfl⟩
  have e2 : (List.range n).map (sig (l ++ [q])) = ps.map fun p => p.1 ++ [p.2] := by
    rw [hps, List.map_map]
    exact List.map_congr_left fun b _ => by simp [sig]
  have n2 := numGo_map (S := ps) (g := fun p : List Bool × Bool => p.1 ++ [p.2]) (fun a ha b hb h => by
    have := List.append_inj' h rfl
    simp at this
    exact Prod.ext this.1 this.2) ps [] (fun a h => h) (by simp)
  simp only [List.map_nil] at n2
  rw [e2, n2, ← hps]
  simp
theorem refCl_parted (l : List Q4) (q : Q4) : (refCl l).parted q = refCl (l ++ [q]) := by
  unfold refCl
  rw [parted_gen, (num_snoc l q 256).1, (num_snoc l q 256).2]
theorem foldl_ref : ∀ (l l' : List Q4), l.foldl Cl.parted (refCl l') = refCl (l' ++ l)
  | [], l' => by simp
  | q :: l, l' => by rw [List.foldl_cons, refCl_parted, foldl_ref l]; simp
theorem refCl_nil : refCl [] = zCl 1 := by kernel_rfl
theorem clOf_ref (l : List Q4) : clOf l = refCl l := by
  unfold clOf
  rw [← refCl_nil, foldl_ref]; simp
/-- Bytes are of one class just if the sets say the same of them. -/
theorem num_at {K : Type} [DecidableEq K] (σ : Nat → K) (n : Nat) {b : Nat} (hb : b < n) : (numGo ((List.range n).map σ) []).1[b]? = some (idxK (σ b) (numGo ((List.range n).map σ) []).2) := by
  rw [numGo_lab ((List.range n).map σ) []]
  generalize (numGo ((List.range n).map σ) []).2 = F
  simp [hb]
theorem num_mem {K : Type} [DecidableEq K] (σ : Nat → K) (n : Nat) {b : Nat} (hb : b < n) : σ b ∈ (numGo ((List.range n).map σ) []).2 := numGo_mem _ _ _ (List.mem_map_of_mem (List.mem_range.2 hb))
theorem least_get : ∀ (l : List Nat) (k : Nat), least l k < l.length → l[least l k]? = some k
  | [], k, h => by simp [least] at h
  | x :: l, k, h => by
    by_cases e : (x : Int) = k
    · have : x = k := by omega
      simp [least, this]
    · simp only [least, if_neg e, List.length_cons] at h ⊢
      simpa using least_get l k (by omega)
theorem least_before : ∀ (l : List Nat) (k : Int) (i x : Nat), l[i]? = some x → i < least l k → (x : Int) ≠ k
  | [], k, i, x, hx, h => by simp at hx
  | y :: l, k, i, x, hx, h => by
    by_cases e : (y : Int) = k
    · simp [least, e] at h
    · simp only [least, if_neg e] at h
      cases i with
      | zero => simp at hx; rw [← hx]; exact e
      | succ i => exact least_before l k i x (by simpa using hx) (by omega)
theorem least_at {l : List Nat} {i x : Nat} (h : l[i]? = some x) : least l x ≤ i := by
  rcases Nat.lt_or_ge i (least l x) with h' | h'
  · exact absurd rfl (least_before l x i x h h')
  · exact h'
/-- Each label comes, and those ahead of it are less. -/
def Comes (f : List Nat) (k : Nat) : Prop := ∃ i, f[i]? = some k ∧ ∀ (j x : Nat), j < i → f[j]? = some x → x < k
theorem rightGo_facts : ∀ (f : List Nat) (s n : Nat), rightGo f s = some n → s ≤ n ∧ (∀ x ∈ f, x < n) ∧ ∀ k, s ≤ k → k < n → Comes f k
  | [], s, n, h => by
    simp [rightGo] at h
    subst h
    exact ⟨Nat.le_refl _, by simp, fun k h1 h2 => by omega⟩
  | x :: f, s, n, h => by
    simp only [rightGo] at h
    split at h
    · cases h
    · rename_i h1
      have up : ∀ s', s ≤ s' → x < s' → rightGo f s' = some n → s' ≤ n ∧ (∀ y ∈ x :: f, y < n) ∧ ∀ k, s' ≤ k → k < n → Comes (x :: f) k := by
        intro s' hs hx h
        obtain ⟨a, b, c⟩ := rightGo_facts f s' n h
        refine ⟨a, fun y hy => ?_, fun k hk hk' => ?_⟩
        · rcases List.mem_cons.1 hy with rfl | hy
          · omega
          · exact b y hy
        · obtain ⟨i, hi, hj⟩ := c k hk hk'
          refine ⟨i + 1, by simpa using hi, fun j y hj' hy => ?_⟩
          cases j with
          | zero => simp at hy; omega
          | succ j => exact hj j y (by omega) (by simpa using hy)
      split at h
      · rename_i h2
        obtain ⟨a, b, c⟩ := up (s + 1) (by omega) (by omega) h
        refine ⟨by omega, b, fun k hk hk' => ?_⟩
        rcases Nat.lt_or_ge s k with h3 | h3
        · exact c k h3 hk'
        · have : k = s := by omega
          subst this
          exact ⟨0, by simp [h2], fun j y hj => by omega⟩
      · obtain ⟨a, b, c⟩ := up s (Nat.le_refl _) (by omega) h
        exact ⟨a, b, c⟩
theorem comes_least {f : List Nat} {k : Nat} (h : Comes f k) : least f k < f.length ∧ ∀ (j x : Nat), j < least f k → f[j]? = some x → x < k := by
  obtain ⟨i, hi, hj⟩ := h
  have h1 := least_at hi
  have h2 : i < f.length := (List.getElem?_eq_some_iff.1 hi).1
  refine ⟨by omega, fun j x hj' hx => hj j x (by omega) hx⟩
theorem right_go {c : Cl} (hc : c.ok) (n : Nat) (h : rightGo c.f 0 = some n) : ((n : Int) = c.m) → c.rightR = true := by
  intro hm
  obtain ⟨_, h2, h3⟩ := rightGo_facts c.f 0 n h
  have hlen := hc.len
  have hpos : 1 ≤ n := by
    cases hf : c.f with
    | nil => rw [hf] at hlen; simp at hlen
    | cons x f => have := h2 x (by rw [hf]; simp); omega
  have hle : n ≤ 256 := by
    have := (comes_least (h3 (n - 1) (by omega) (by omega))).1
    have hx := hc.lt (least c.f ((n - 1 : Nat) : Int)) this
    have hg := least_get c.f (n - 1) this
    rw [List.getElem?_eq_getElem this] at hg
    have : c.f[least c.f ((n - 1 : Nat) : Int)] = n - 1 := Option.some.inj hg
    omega
  simp only [Cl.rightR, Bool.and_eq_true, decide_eq_true_eq, List.all_eq_true]
  refine ⟨⟨⟨by omega, by omega⟩, fun x hx => by have := h2 x hx; omega⟩, fun k hk => ?_⟩
  have hk' : k < n := by have := List.mem_range.1 hk; omega
  have hck := comes_least (h3 k (by omega) hk')
  simp only [okK, Bool.and_eq_true, Bool.or_eq_true, decide_eq_true_eq]
  refine ⟨by omega, ?_⟩
  rcases Nat.eq_zero_or_pos k with h0 | h0
  · exact .inl h0
  · right
    have hcp := comes_least (h3 (k - 1) (by omega) (by omega))
    have e : ((k - 1 : Nat) : Int) = (k : Int) - 1 := by omega
    rw [e] at hcp
    rcases Nat.lt_or_ge (least c.f (k : Int)) (least c.f ((k : Int) - 1)) with h4 | h4
    · have := hcp.2 _ _ h4 (least_get c.f k hck.1)
      omega
    · exact h4
theorem go_right {c : Cl} (hc : c.ok) (h : c.rightR = true) : ∀ (pre rest : List Nat) (s : Nat), c.f = pre ++ rest → (∀ x ∈ pre, x < s) → (∀ k, k < s → k ∈ pre) → rightGo rest s = some c.m.toNat := by
  simp only [Cl.rightR, Bool.and_eq_true, decide_eq_true_eq, List.all_eq_true] at h
  obtain ⟨⟨⟨h1, h2⟩, h3⟩, h4⟩ := h
  have hM : ((c.m.toNat : Nat) : Int) = c.m := Int.toNat_of_nonneg (by omega)
  have hk : ∀ k, k < c.m.toNat → least c.f k < 256 ∧ (k = 0 ∨ least c.f ((k : Int) - 1) ≤ least c.f k) := by
    intro k hk
    have h5 := h4 k (List.mem_range.2 hk)
    simp only [okK, Bool.and_eq_true, Bool.or_eq_true, decide_eq_true_eq] at h5
    have := least_le c.f k
    have := hc.len
    exact ⟨by omega, h5.2⟩
  have hmono : ∀ d k, k + d < c.m.toNat → least c.f (k : Nat) ≤ least c.f ((k + d : Nat) : Int) := by
    intro d
    induction d with
    | zero => intro k _; exact Nat.le_refl _
    | succ d ih =>
      intro k hkd
      have h6 := (hk (k + (d + 1)) hkd).2.resolve_left (by omega)
      have e : (((k + (d + 1) : Nat) : Int) - 1) = ((k + d : Nat) : Int) := by omega
      rw [e] at h6
      exact Nat.le_trans (ih k (by omega)) h6
  intro pre rest
  induction rest generalizing pre with
  | nil =>
    intro s hf hp hs
    rw [List.append_nil] at hf
    simp only [rightGo]
    congr 1
    rcases Nat.lt_trichotomy s c.m.toNat with h5 | h5 | h5
    · have := least_get c.f s (by rw [hc.len]; exact (hk s h5).1)
      have hm := List.mem_of_getElem? this
      rw [hf] at hm
      have := hp s hm
      omega
    · exact h5
    · have hm := hs c.m.toNat h5
      rw [← hf] at hm
      have := h3 _ hm
      omega
  | cons x rest ih =>
    intro s hf hp hs
    have hx : (x : Int) < c.m := h3 x (by rw [hf]; simp)
    have hxi : c.f[pre.length]? = some x := by rw [hf]; simp
    have hxs : ¬ s < x := by
      intro hsx
      have h5 := hmono (x - s) s (by omega)
      have e : s + (x - s) = x := by omega
      rw [e] at h5
      have h6 := least_at hxi
      have h7 := least_get c.f s (by rw [hc.len]; exact (hk s (by omega)).1)
      have h8 : least c.f (s : Int) ≤ pre.length := by omega
      rcases Nat.lt_or_ge (least c.f (s : Int)) pre.length with h9 | h9
      · generalize least c.f (s : Int) = t at h7 h9
        rw [hf, List.getElem?_append_left h9] at h7
        have := hp s (List.mem_of_getElem? h7)
        omega
      · have : least c.f (s : Int) = pre.length := by omega
        rw [this, hxi] at h7
        have := Option.some.inj h7
        omega
    simp only [rightGo, if_neg hxs]
    by_cases hxe : x = s
    · rw [if_pos hxe]
      refine ih (pre ++ [x]) (s + 1) (by rw [hf]; simp) (fun y hy => ?_) fun k hk => ?_
      · rcases List.mem_append.1 hy with hy | hy
        · have := hp y hy; omega
        · simp at hy; omega
      · rcases Nat.lt_or_ge k s with h5 | h5
        · exact List.mem_append_left _ (hs k h5)
        · have : k = x := by omega
          simp [this]
    · rw [if_neg hxe]
      refine ih (pre ++ [x]) s (by rw [hf]; simp) (fun y hy => ?_) fun k hk => List.mem_append_left _ (hs k hk)
      rcases List.mem_append.1 hy with hy | hy
      · exact hp y hy
      · simp at hy; omega
theorem right_iff {c : Cl} (hc : c.ok) : c.right = c.rightR := by
  rw [Bool.eq_iff_iff]
  constructor
  · intro h
    unfold Cl.right at h
    split at h
    · cases h
    · rename_i n hn
      exact right_go hc n hn (by simpa using h)
  · intro h
    have := go_right hc h [] c.f 0 rfl (by simp) (by simp)
    unfold Cl.right
    rw [this]
    simp only [Cl.rightR, Bool.and_eq_true, decide_eq_true_eq] at h
    simp; omega
end Fk
set_option linter.unusedVariables false
set_option linter.unusedSimpArgs false
set_option maxRecDepth 100000
namespace Fk
open Go Go.Proofs Go.RowKit
theorem size23 (w : World) : (Go.sizeOf 23).run Try.prog w = .ok 256 w := by
  have h : (Try.prog.info? 23).map (·.size) = some 256 := by kernel_rfl
  cases hi : Try.prog.info? 23 with
  | none => simp [hi] at h
  | some i => simp [hi] at h; simp [Go.sizeOf, typeInfo, hi, h]
theorem eqCl (w : World) {c d : Cl} (hc : c.ok) (hd : d.ok) : (Op.equalIn 10000 25 (.agg c.v) (.agg d.v)).run Try.prog w = .ok (decide (c.f = d.f) && decide (c.m = d.m)) w := by
  have u23 : Try.prog.underlying 23 = some (.array 256 5) := by kernel_rfl
  have u3 : Try.prog.underlying 3 = some (.int .i64) := by kernel_rfl
  have ex : ∀ {c : Cl}, c.ok → c.v.extract 0 (0 + 256) = (ints .u8 (c.f.map fun x : Nat => (x : Int))).toArray := by
    intro c hc
    apply Array.ext'
    simp [Cl.v, Cl.l, ints, hc.len, List.take_append]
  have many : ∀ {c : Cl}, c.ok → c.v[256]? = some (.int .i64 c.m) := by
    intro c hc
    have := hc.many
    simpa [nthV] using this
  have h5 : (Try.prog.info? 5).isSome = true := by kernel_rfl
  obtain ⟨i5, hi5⟩ := Option.isSome_iff_exists.1 h5
  have h1 := run_equal_ints (P := Try.prog) (w := w) (t := 23) (e := 5) (q := .u8) (n := 256) u23 hi5 (by kernel_rfl) (by kernel_rfl) .u8 (c.f.map fun x : Nat => (x : Int)) (d.f.map fun x : Nat => (x : Int)) (by simp [hc.len]) (by simp [hd.len]) 9997
  have h2 := EqT.int (P := Try.prog) (t := 3) (q := .i64) u3 .i64 9999 w c.m d.m (by omega)
  have a23 : isAggT Try.prog 23 = true := by kernel_rfl
  have a3 : isAggT Try.prog 3 = false := by kernel_rfl
  have p1 := part_agg (P := Try.prog) (w := w) u23 a23 (size23 w) (xs := c.v) (o := 0)
  have p2 := part_agg (P := Try.prog) (w := w) u23 a23 (size23 w) (xs := d.v) (o := 0)
  rw [ex hc] at p1
  rw [ex hd] at p2
  have h := run_struct2 (P := Try.prog) (w := w) (t := 25) (t1 := 23) (t2 := 3) (o1 := 0) (o2 := 256) (d := 9999) (xs := c.v) (ys := d.v) (by kernel_rfl) (by kernel_rfl) (by kernel_rfl) p1 p2 h1
    (part_cell u3 a3 (many hc)) (part_cell u3 a3 (many hd)) h2
  refine h.trans ?_
  congr 1
  rw [Bool.eq_iff_iff]
  have inj : c.f.map (fun x : Nat => (x : Int)) = d.f.map (fun x : Nat => (x : Int)) ↔ c.f = d.f := by
    constructor
    · exact fun h => (List.map_inj_right (fun x y h => by omega)).1 h
    · exact fun h => by rw [h]
  simp only [Bool.and_eq_true, decide_eq_true_eq, inj]
theorem LdN_in {w : World} {A : Addr} {n : Nat} {l : List Value} {K : List Value → Prop} (hl : l.length = n) (h : ∀ j u, l[j]? = some u → w.cell? (A.add j) = some u) (k : K l) : LdN w A n K := by
  have : ∀ (m : Nat) (r : List Value) (i : Nat), l.drop i = r → r.length = m → cellsAt w A i m = some r := by
    intro m
    induction m with
    | zero => intro r i _ hr; have := List.eq_nil_of_length_eq_zero hr; subst this; rfl
    | succ m ih =>
      intro r i he hr
      cases r with
      | nil => simp at hr
      | cons v r =>
        have hv : l[i]? = some v := by rw [← List.head?_drop, he]; rfl
        have ht : l.drop (i + 1) = r := by rw [← List.tail_drop, he]; rfl
        simp only [cellsAt, h i v hv, ih r (i + 1) ht (by simpa using hr)]
  unfold LdN
  rw [this n l 0 (by simp) hl]
  exact k
theorem alloc_at (w : World) (cs : Array Value) (e : TypeId) (o j : Nat) {u : Value} (h : cs[o + j]? = some u) : (w.alloc (.cells cs e)).cell? ((⟨w.heap.size, o, none⟩ : Addr).add j) = some u := by
  rw [Addr.add_lit, cell_of_row _ w.heap.size (o + j) cs e (0, 0) (heap_alloc_new w _)]
  exact h
theorem in44 (c : Cl) (hc : c.ok) {L : List Nat} {w0 w : World} {K : Bool → World → Prop} (h : Good L w0 w) (kk : ∀ w', Good L w0 w' → K c.right w') : CallW Try.prog L 44 #[.agg c.v] (fun v w' => opB v fun b => K b w') w := by
  refine (f44_ok c hc w).call h.2 ?_
  rintro v w' rfl h'
  exact opB_in (kk w' (h.tr h'))
end Fk
set_option linter.unusedVariables false
set_option linter.unusedSimpArgs false
set_option maxRecDepth 100000
namespace Fk
open Go Go.Proofs Go.RowKit
section
variable {H : Type} {enc : TypeId × Value → H} {P : Program} {w : World} {base : Nat} {spare : Nat → Bool} {held : Bool} {fuel : Nat} {t : TypeId} {cs : List Value} {x : DataW H × List MemPlace}
theorem int_cs {k : IntKind} (ht : P.underlying t = some (.int k)) (h : DataW.trod enc P w base spare held fuel t cs = some x) : ∃ v, cs = [.int k v] ∧ (Lit.int k v).wf = true := by
  cases fuel with
  | zero => simp [DataW.trod] at h
  | succ m =>
    unfold DataW.trod at h
    rw [ht] at h
    split at h <;> simp_all
theorem drop_one {cs : List Value} {i : Nat} {v : Value} (h : (cs.drop i).take 1 = [v]) : cs[i]? = some v := by
  rw [← List.head?_drop]
  cases hd : cs.drop i with
  | nil => rw [hd] at h; simp at h
  | cons a l => rw [hd] at h; simp at h; simp [h]
/-- An array of numbers. -/
theorem ints_cs {n : Nat} {e : TypeId} {k : IntKind} (ht : P.underlying t = some (.array n e)) (he : P.underlying e = some (.int k)) (hc : P.cellsOf e = 1) (hn : P.cellsOf t = n) (h : DataW.trod enc P w base spare held fuel t cs = some x) :
    cs.length = n ∧ ∀ i, i < n → ∃ v, cs[i]? = some (.int k v) ∧ (Lit.int k v).wf = true := by
  obtain ⟨xs, m, rfl, rfl, hl, hx, hi⟩ := DataW.trod_array ht h
  refine ⟨by rw [hl, hn], fun i hlt => ?_⟩
  have h1 := hi i hlt
  rw [List.getElem?_eq_getElem (by omega), hc, Nat.mul_one] at h1
  obtain ⟨v, hv, hw⟩ := int_cs he h1
  exact ⟨v, drop_one hv, hw⟩
end
theorem words_cs {H : Type} {enc : TypeId × Value → H} {w : World} {base : Nat} {spare : Nat → Bool} {held : Bool} {fuel : Nat} {cs : List Value} {x : DataW H × List MemPlace}
    (h : DataW.trod enc Try.prog w base spare held fuel 28 cs = some x) : ∃ q : Q4, cs = q4 q := by
  obtain ⟨hl, hi⟩ := ints_cs (t := 28) (n := 4) (e := 26) (k := .u64) (by kernel_rfl) (by kernel_rfl) (by kernel_rfl) (by kernel_rfl) h
  obtain ⟨a, ha, _⟩ := hi 0 (by omega)
  obtain ⟨b, hb, _⟩ := hi 1 (by omega)
  obtain ⟨c, hc, _⟩ := hi 2 (by omega)
  obtain ⟨d, hd, _⟩ := hi 3 (by omega)
  match cs, hl with
  | [v0, v1, v2, v3], _ =>
    simp at ha hb hc hd
    exact ⟨(a, b, c, d), by simp [q4, ha, hb, hc, hd]⟩
theorem three_fields {fs : Array Field} {t1 t2 t3 : TypeId} {o1 o2 o3 : Nat} (hF : fs.toList.map (fun f => (decide (f.name = "_"), f.type, f.offset)) = [(false, t1, o1), (false, t2, o2), (false, t3, o3)]) :
    ∃ f1 f2 f3, fs = #[f1, f2, f3] ∧ f1.type = t1 ∧ f1.offset = o1 ∧ f2.type = t2 ∧ f2.offset = o2 ∧ f3.type = t3 ∧ f3.offset = o3 := by
  obtain ⟨l⟩ := fs
  match l with
  | [] => simp at hF
  | [f1] => simp at hF
  | [f1, f2] => simp at hF
  | [f1, f2, f3] =>
    simp only [List.map_cons, List.map_nil, List.cons.injEq, Prod.mk.injEq, decide_eq_false_iff_not, and_true] at hF
    exact ⟨f1, f2, f3, rfl, hF.1.2.1, hF.1.2.2, hF.2.1.2.1, hF.2.1.2.2, hF.2.2.2.1, hF.2.2.2.2⟩
  | f1 :: f2 :: f3 :: f4 :: l => simp at hF
theorem elem_cs {H : Type} {enc : TypeId × Value → H} {w : World} {base : Nat} {spare : Nat → Bool} {held : Bool} {fuel : Nat} {cs : List Value} {x : DataW H × List MemPlace}
    (h : DataW.trod enc Try.prog w base spare held fuel 42 cs = some x) : ∃ (k : Int) (q : Q4) (l : List Value) (m : Nat) (y : DataW H × List MemPlace), cs = .int .u8 k :: (q4 q ++ l) ∧ l.length = 1 ∧ fuel = m + 1 ∧ DataW.trod enc Try.prog w base spare held m 22 l = some y := by
  have u : Try.prog.underlying 42 = some (.struct (Try.prog.fieldsOf 42)) := by kernel_rfl
  have hF : fieldsL Try.prog 42 = [(false, 5, 0), (false, 28, 1), (false, 22, 5)] := by kernel_rfl
  have c5 : Try.prog.cellsOf 5 = 1 := by kernel_rfl
  have c28 : Try.prog.cellsOf 28 = 4 := by kernel_rfl
  have c22 : Try.prog.cellsOf 22 = 1 := by kernel_rfl
  have c42 : Try.prog.cellsOf 42 = 6 := by kernel_rfl
  have u5 : Try.prog.underlying 5 = some (.int .u8) := by kernel_rfl
  unfold fieldsL at hF
  generalize Try.prog.fieldsOf 42 = fs at u hF
  obtain ⟨xs, m, rfl, rfl, hl, hx, hi⟩ := DataW.trod_struct u h
  obtain ⟨f1, f2, f3, rfl, e1, o1, e2, o2, e3, o3⟩ := three_fields hF
  have hx3 : xs.length = 3 := hx
  have h0 := hi 0 f1 rfl
  have h1 := hi 1 f2 rfl
  have h2 := hi 2 f3 rfl
  rw [List.getElem?_eq_getElem (by omega), e1, o1, c5] at h0
  rw [List.getElem?_eq_getElem (by omega), e2, o2, c28] at h1
  rw [List.getElem?_eq_getElem (by omega), e3, o3, c22] at h2
  obtain ⟨k, hk, _⟩ := int_cs u5 h0
  obtain ⟨q, hq⟩ := words_cs h1
  rw [c42] at hl
  match cs, hl with
  | [v0, v1, v2, v3, v4, v5], _ =>
    simp at hk hq h2
    refine ⟨k, q, [v5], m, _, ?_, rfl, rfl, h2⟩
    rw [hk, ← hq]; rfl
theorem open_fo {H : Type} {enc : TypeId × Value → H} {w : World} {base : Nat} {spare : Nat → Bool} {held : Bool} : ∀ (fuel : Nat) {cs : List Value} {x : DataW H × List MemPlace},
    DataW.trod enc Try.prog w base spare held fuel 22 cs = some x → ∃ (a : Option Addr) (n c : Nat) (fo : Fo), cs = [.slice a n c] ∧ fo.len = n ∧ n < 2 ^ 63 ∧ RepF w a 0 fo := by
  intro fuel
  induction fuel using Nat.strongRecOn with
  | ind fuel ih =>
    intro cs x h
    rcases DataW.trod_slice (by kernel_rfl : Try.prog.underlying 22 = some (.slice 42)) h with ⟨rfl, _⟩ | ⟨a, len, cap, elems, rest, n, rfl, rfl, _, _, hlc, hcm, hel, hat, _⟩
    · exact ⟨none, 0, 0, .nil, rfl, rfl, by omega, trivial⟩
    have c42 : Try.prog.cellsOf 42 = 6 := by kernel_rfl
    have hfo : ∀ j, j ≤ len → ∃ fo : Fo, fo.len = j ∧ RepF w (some a) (len - j) fo := by
      intro j
      induction j with
      | zero => exact fun _ => ⟨.nil, rfl, trivial⟩
      | succ j ihj =>
        intro hj
        obtain ⟨fo, hfl, hfr⟩ := ihj (by omega)
        have h1 := hat (len - (j + 1)) (by omega)
        rw [List.getElem?_eq_getElem (by omega), c42] at h1
        obtain ⟨cs', hcs, ht⟩ := Option.bind_eq_some_iff.1 h1
        obtain ⟨k, q, l, m, y, rfl, hl1, rfl, hk⟩ := elem_cs ht
        obtain ⟨sa, sn, sc, kids, rfl, hkl, hkn, hkr⟩ := ih m (by omega) hk
        obtain ⟨_, _, hcell⟩ := World.cells?_some hcs
        refine ⟨.cons k q.1 q.2.1 q.2.2.1 q.2.2.2 kids fo, by simp [Fo.len, hfl], ?_⟩
        simp only [RepF]
        refine ⟨⟨a, sa, sc, rfl, ⟨hcell 0 (by omega), hcell 1 (by omega), hcell 2 (by omega), hcell 3 (by omega), hcell 4 (by omega), ?_⟩, by omega, hkr⟩, ?_⟩
        · rw [hkl]; exact hcell 5 (by omega)
        · rw [show len - (j + 1) + 1 = len - j by omega]; exact hfr
    obtain ⟨fo, h1, h2⟩ := hfo len (Nat.le_refl _)
    rw [Nat.sub_self] at h2
    exact ⟨some a, len, cap, fo, rfl, h1, by simp only [maxLen] at hcm; omega, h2⟩
theorem byte_wf {v : Int} (h : (Lit.int .u8 v).wf = true) : 0 ≤ v ∧ v < 256 := by
  simp [Lit.wf, IntKind.min, IntKind.max, IntKind.signed, IntKind.bits] at h
  omega
theorem below_of {w w' : World} (h : Md [] w w') : Below w.heap.size w w' :=
  ⟨h.os, h.tape, h.output, h.size, fun k hk => h.blk k hk (by simp)⟩
end Fk
set_option linter.unusedVariables false
set_option linter.unusedSimpArgs false
set_option maxRecDepth 100000
namespace Fk
open Go Go.Proofs Go.RowKit
section
variable {H : Type} {enc : TypeId × Value → H} {W : World} {base : Nat} {spare : Nat → Bool} {held : Bool} {d : DataW H} {ps : List MemPlace}
theorem fo_of {a : Option Addr} {n c : Nat} (h : DataW.Trod enc Try.prog W base spare held 22 (.slice a n c) d ps) : ∃ fo : Fo, fo.len = n ∧ n < 2 ^ 63 ∧ RepF W a 0 fo := by
  obtain ⟨fuel, hf⟩ := h
  obtain ⟨a', n', c', fo, he, h1, h2, h3⟩ := open_fo fuel hf
  have he' : [Value.slice a n c] = [.slice a' n' c'] := he
  simp at he'
  obtain ⟨rfl, rfl, rfl⟩ := he'
  exact ⟨fo, h1, h2, h3⟩
theorem wf_of {t : TypeId} {k k' : IntKind} {x : Int} (ht : Try.prog.underlying t = some (.int k)) (h : DataW.Trod enc Try.prog W base spare held t (.int k' x) d ps) : k' = k ∧ (Lit.int k x).wf = true := by
  obtain ⟨fuel, hf⟩ := h
  obtain ⟨v, he, hw⟩ := int_cs ht hf
  have he' : [Value.int k' x] = [.int k v] := he
  simp at he'
  obtain ⟨rfl, rfl⟩ := he'
  exact ⟨rfl, hw⟩
theorem byte_of {t : TypeId} {x : Int} (ht : Try.prog.underlying t = some (.int .u8)) (h : DataW.Trod enc Try.prog W base spare held t (.int .u8 x) d ps) : ∃ b : Nat, b < 256 ∧ x = (b : Int) := by
  have := byte_wf (wf_of ht h).2
  exact ⟨x.toNat, by omega, by omega⟩
end
end Fk
namespace Go.Proofs.Ytpgjpgecgibklaa
end Go.Proofs.Ytpgjpgecgibklaa
set_option linter.unusedVariables false
set_option linter.unusedSimpArgs false
set_option maxRecDepth 100000
namespace Fk
open Go Go.Proofs Go.RowKit
def i1 (x : Int) : List Value := [.int .i64 x]
def s1 (s : ByteArray) : List Value := [.string s]
theorem enci1 : Enc 1 i1 := ⟨fun _ => rfl, by intro x v hv; simp [i1] at hv; subst hv; rfl⟩
theorem encs1 : Enc 1 s1 := ⟨fun _ => rfl, by intro x v hv; simp [s1] at hv; subst hv; rfl⟩
theorem RowAt.ld1 {α : Type} {w : World} {A : Option Addr} {enc : α → List Value} {l : List α} (h : RowAt w A 1 enc l) {i : Nat} (hi : i < l.length) {v : Value} (hv : (enc l[i])[0]? = some v) {K : Value → Prop} (k : K v) : Ld w (adAt A (i : Int) 1) K := by
  obtain ⟨B, rfl, hc⟩ := h i l[i] (List.getElem?_eq_getElem hi)
  have := hc 0 v hv
  rw [addr_add0] at this
  exact Ld_in this k
where addr_add0 (A : Addr) : A.add 0 = A := by unfold Addr.add; simp
/-- Which second machines are right. -/
def dRight (dm : Int) (next tags : List Int) : Bool :=
  decide (1 ≤ dm ∧ dm ≤ 256 ∧ 1 ≤ tags.length ∧ tags.length ≤ 5000 ∧ (next.length : Int) = dm * tags.length) && (tags.all fun x => decide (-1 ≤ x ∧ x < 200)) && (next.all fun x => decide (-1 ≤ x ∧ x < tags.length))
theorem mul_i64 {dm : Int} {n : Nat} (h1 : 1 ≤ dm) (h2 : dm ≤ 256) (h3 : n ≤ 5000) : IntKind.wrap .i64 (dm * (n : Int)) = dm * n := by
  have h4 : dm * (n : Int) ≤ 256 * 5000 := Int.mul_le_mul h2 (by omega) (by omega) (by omega)
  have h5 : 0 ≤ dm * (n : Int) := Int.mul_nonneg (by omega) (by omega)
  rw [IntKind.wrap_i64]; omega
theorem all_take {α : Type} {p : α → Bool} {l : List α} {i : Nat} (hi : i < l.length) (h : (l.take i).all p = true) (hp : p l[i] = true) : (l.take (i + 1)).all p = true := by
  rw [List.take_succ_eq_append_getElem hi, List.all_append, h]; simp [hp]
theorem all_false {α : Type} {p : α → Bool} {l : List α} {i : Nat} (hi : i < l.length) (hp : p l[i] = false) : l.all p = false := by
  rw [List.all_eq_false]; exact ⟨l[i], List.getElem_mem hi, by simp [hp]⟩
theorem inc_len {i n : Nat} (h : i < n) (hn : n < 2 ^ 63) : IntKind.wrap .i64 ((i : Int) + 1) = ((i + 1 : Nat) : Int) := by rw [IntKind.wrap_i64]; omega
theorem f72_ok (dm : Int) (next tags : List Int) (na ta : Option Addr) (nc tc : Nat) (w : World) (hn : RowAt w na 1 i1 next) (ht : RowAt w ta 1 i1 tags) (hnl : next.length < 2 ^ 63) (htl : tags.length < 2 ^ 63) :
    Ct Try.prog 72 #[.agg #[.int .i64 dm, .slice na next.length nc, .slice ta tags.length tc]] w fun v w' => v = .bool (dRight dm next tags) ∧ Md [] w w' := by
  apply f72_in
  intro n1 hn1
  refine Bd_in fun x2 hx2 => Bd_in fun b3 hb3 => Bd_in fun b4 hb4 => Bd_in fun b5 hb5 => Bd_in fun b6 hb6 => Bd_in fun b7 hb7 => Bd_in fun b8 hb8 => Bd_in fun b9 hb9 => Bd_in fun x10 hx10 => Bd_in fun x11 hx11 => Bd_in fun b12 hb12 => Bd_in fun b13 hb13 => ?_
  subst hx2; subst hx10
  have e13 : b13 = !decide (1 ≤ dm ∧ dm ≤ 256 ∧ 1 ≤ tags.length ∧ tags.length ≤ 5000 ∧ (next.length : Int) = dm * tags.length) := by
    rw [hb13, hb12, hb9, hb8, hb7, hb6, hb5, hb4, hb3]
    by_cases h1 : 1 ≤ dm
    · by_cases h2 : dm ≤ 256
      · by_cases h3 : 1 ≤ tags.length
        · by_cases h4 : tags.length ≤ 5000
          · rw [hx11, mul_i64 h1 h2 h4]
            have a1 : ¬ dm < 1 := by omega
            have a2 : ¬ 256 < dm := by omega
            have a3 : ¬ (tags.length : Int) < 1 := by omega
            have a4 : ¬ (5000 : Int) < (tags.length : Int) := by omega
            simp only [a1, a2, a3, a4, gt_iff_lt, decide_false, cond_false, h1, h2, h3, h4, true_and]
            by_cases h5 : (next.length : Int) = dm * tags.length <;> simp [h5]
          · have a4 : (5000 : Int) < (tags.length : Int) := by omega
            simp [h4, a4]
        · have a3 : (tags.length : Int) < 1 := by omega
          simp [h3, a3]
      · have a2 : 256 < dm := by omega
        simp [h2, a2]
    · have a1 : dm < 1 := by omega
      simp [h1, a1]
  refine If_in (fun h w14 h14 hL14 => ⟨?_, h14⟩) fun h => Bd_in fun x15 hx15 w16 h16 hL16 => ?_
  · rw [e13] at h
    have : decide (1 ≤ dm ∧ dm ≤ 256 ∧ 1 ≤ tags.length ∧ tags.length ≤ 5000 ∧ (next.length : Int) = dm * tags.length) = false := by rw [Bool.not_eq_true'] at h; exact h
    unfold dRight
    rw [this]; rfl
  have hd : decide (1 ≤ dm ∧ dm ≤ 256 ∧ 1 ≤ tags.length ∧ tags.length ≤ 5000 ∧ (next.length : Int) = dm * tags.length) = true := by rw [e13, Bool.not_eq_false'] at h; exact h
  subst hx15
  refine LoopP_in (fun m us vs w' => ∃ i : Nat, us = [.bool false, .int .i64 i] ∧ m = tags.length - i ∧ i ≤ tags.length ∧ (tags.take i).all (fun x => decide (-1 ≤ x ∧ x < 200)) = true ∧ Md [] w w') tags.length ⟨0, rfl, rfl, by omega, by simp, h16⟩ ?_
  rintro m us vs w20 ⟨i, rfl, rfl, hi, hall, h20⟩
  refine opB_in <| opI_in <| Bd_in fun b23 hb23 => If_in (fun hb => ?_) fun hb => ?_
  · subst hb23
    simp only [decide_eq_true_eq, Int.ofNat_lt] at hb
    refine ⟨ht.ix hb, (ht.md h20).ld1 hb rfl ?_⟩
    refine opI_in <| Bd_in fun b26 hb26 => Bd_in fun b27 hb27 => Bd_in fun b28 hb28 => If_in (fun h => ⟨?_, h20⟩) fun h => Bd_in fun x29 hx29 => ?_
    · have : (tags.all fun x => decide (-1 ≤ x ∧ x < 200)) = false := all_false hb (by
        rw [hb28, hb27, hb26] at h
        rw [decide_eq_false_iff_not]
        by_cases h1 : tags[i] < -1
        · omega
        · simp [h1] at h; omega)
      unfold dRight
      rw [this]; simp
    · rw [inc_len hb htl] at hx29
      subst hx29
      refine ⟨tags.length - (i + 1), by omega, i + 1, rfl, rfl, by omega, all_take hb hall ?_, h20⟩
      rw [hb28, hb27, hb26] at h
      rw [decide_eq_true_eq]
      by_cases h1 : tags[i] < -1
      · simp [h1] at h
      · simp [h1] at h; omega
  · subst hb23
    simp only [decide_eq_false_iff_not, Int.ofNat_lt] at hb
    rw [List.take_of_length_le (by omega)] at hall
    refine Bd_in fun x30 hx30 => ?_
    subst hx30
    refine LoopP_in (fun m us vs w' => ∃ i : Nat, us = [.bool false, .int .i64 i] ∧ m = next.length - i ∧ i ≤ next.length ∧ (next.take i).all (fun x => decide (-1 ≤ x ∧ x < tags.length)) = true ∧ Md [] w w') next.length ⟨0, rfl, rfl, by omega, by simp, h20⟩ ?_
    rintro m us vs w34 ⟨j, rfl, rfl, hj, hall2, h34⟩
    refine opB_in <| opI_in <| Bd_in fun b37 hb37 => If_in (fun hb => ?_) fun hb => ⟨?_, h34⟩
    · subst hb37
      simp only [decide_eq_true_eq, Int.ofNat_lt] at hb
      refine ⟨hn.ix hb, (hn.md h34).ld1 hb rfl ?_⟩
      refine opI_in <| Bd_in fun b40 hb40 => Bd_in fun b41 hb41 => Bd_in fun b42 hb42 => If_in (fun h => ⟨?_, h34⟩) fun h => Bd_in fun x43 hx43 => ?_
      · have : (next.all fun x => decide (-1 ≤ x ∧ x < tags.length)) = false := all_false hb (by
          rw [hb42, hb41, hb40] at h
          rw [decide_eq_false_iff_not]
          by_cases h1 : next[j] < -1
          · omega
          · simp [h1] at h; omega)
        unfold dRight
        rw [this]; simp
      · rw [inc_len hb hnl] at hx43
        subst hx43
        refine ⟨next.length - (j + 1), by omega, j + 1, rfl, rfl, by omega, all_take hb hall2 ?_, h34⟩
        rw [hb42, hb41, hb40] at h
        rw [decide_eq_true_eq]
        by_cases h1 : next[j] < -1
        · simp [h1] at h
        · simp [h1] at h; omega
    · subst hb37
      simp only [decide_eq_false_iff_not, Int.ofNat_lt] at hb
      rw [List.take_of_length_le (by omega)] at hall2
      unfold dRight
      rw [hd, hall, hall2]; rfl
end Fk
set_option linter.unusedVariables false
set_option linter.unusedSimpArgs false
set_option maxRecDepth 100000
namespace Fk
open Go Go.Proofs Go.RowKit
theorem addr_add0 (A : Addr) : A.add 0 = A := by unfold Addr.add; simp
/-- The first ones of a slice. -/
theorem slice_front {P : Program} {t e : TypeId} (ht : P.underlying t = some (.slice e)) (hs : ∀ w, ∃ s, (Go.sizeOf e).run P w = .ok s w) (w : World) (a : Option Addr) (n c m : Nat) (h : m ≤ c) :
    (Instr.sliceAt t (.slice a n c) none (some (.int .i64 (m : Int))) none).run P w = .ok (.slice a m c) w := by
  have he : P.elem t = e := by simp [Program.elem, ht]
  have ht' : P.underlying t = some (.slice (P.elem t)) := by rw [he]; exact ht
  rw [run_sliceAt_slice w t _ _ _ _ ht', run_slice_h w t a n c ht' .i64 m (by omega) (by omega), he]
  obtain ⟨s, hs⟩ := hs w
  rw [hs]
  simp only [Result.andThen, sliced, Int.toNat_natCast, Nat.sub_zero, Nat.zero_mul]
  congr 2
  split
  · rfl
  · cases a with
    | none => rfl
    | some A => simp [addr_add0]
end Fk
set_option linter.unusedVariables false
set_option linter.unusedSimpArgs false
set_option maxRecDepth 100000
namespace Fk
open Go Go.Proofs Go.RowKit
theorem str_eq (a b : ByteArray) : (a.toList == b.toList) = decide (a = b) := by
  rw [ByteArray.toList_eq, ByteArray.toList_eq, Bool.eq_iff_iff]
  simp only [beq_iff_eq, decide_eq_true_eq]
  constructor
  · intro h
    cases a; cases b
    congr 1
    exact Array.toList_inj.1 h
  · intro h; rw [h]
def digB (x : Int) : Bool := decide (48 ≤ x) && decide (x ≤ 57)
def smB (x : Int) : Bool := decide (97 ≤ x) && decide (x ≤ 122)
def nmAt (s : ByteArray) (i : Nat) : Bool := smB (byteAt s i) || (decide (i ≠ 0) && (decide (byteAt s i = 45) || digB (byteAt s i)))
def nmFrom (s : ByteArray) (i : Nat) : Bool := (List.range' i (s.size - i)).all (nmAt s)
def named (s : ByteArray) : Bool := nmFrom s 0 && decide (1 ≤ s.size) && decide (s.size ≤ 64)
theorem nmFrom_step {s : ByteArray} {i : Nat} (h : i < s.size) : nmFrom s i = (nmAt s i && nmFrom s (i + 1)) := by
  unfold nmFrom
  rw [show s.size - i = (s.size - (i + 1)) + 1 by omega, List.range'_succ]
  simp
theorem nmFrom_end {s : ByteArray} {i : Nat} (h : s.size ≤ i) : nmFrom s i = true := by
  unfold nmFrom
  rw [show s.size - i = 0 by omega]; simp
theorem f152_ok (s : ByteArray) (hs : s.size < 2 ^ 63) (w : World) : Ct Try.prog 152 #[.string s] w fun v w' => v = .bool (named s) ∧ Md [] w w' := by
  apply f152_in
  refine Bd_in fun x1 hx1 => ?_
  subst hx1
  refine LoopP_in (fun m us vs w' => ∃ i : Nat, us = [.bool false, .int .i64 i] ∧ m = s.size - i ∧ i ≤ s.size ∧ nmFrom s 0 = nmFrom s i ∧ Md [] w w') s.size ⟨0, rfl, rfl, by omega, rfl, Md.refl _ _⟩ ?_
  rintro m us vs w5 ⟨i, rfl, rfl, hi, hn, h5⟩
  refine opB_in <| opI_in <| Bd_in fun b8 hb8 => If_in (fun h => ?_) fun h => ?_
  · subst hb8
    simp only [decide_eq_true_eq, Int.ofNat_lt] at h
    have hix : (0 : Int) ≤ (i : Int) ∧ (i : Int) < (s.size : Int) := ⟨by omega, by omega⟩
    refine ⟨hix, Bd_in fun x9 hx9 => Bd_in fun b10 hb10 => ⟨fun _ => hix, Bd_in fun x12 hx12 => Bd_in fun b13 hb13 => Bd_in fun b14 hb14 => Bd_in fun b15 hb15 => Bd_in fun b16 hb16 => ⟨fun _ => hix, Bd_in fun x18 hx18 => Bd_in fun b19 hb19 => ⟨fun _ => hix,
      Bd_in fun x21 hx21 => Bd_in fun b22 hb22 => ⟨fun _ => hix, Bd_in fun x24 hx24 => Bd_in fun b25 hb25 => Bd_in fun b26 hb26 => Bd_in fun b27 hb27 => Bd_in fun b28 hb28 => Bd_in fun b29 hb29 => ?_⟩⟩⟩⟩⟩
    have e29 : b29 = !nmAt s i := by
      rw [hb29, hb28, hb27, hb26, hb25, hb22, hb19, hb16, hb15, hb14, hb13, hb10, hx24, hx21, hx18, hx12, hx9]
      unfold nmAt smB digB
      generalize byteAt s (i : Int) = x
      have e0 : ((i : Int) == 0) = decide (i = 0) := by rw [Bool.eq_iff_iff]; simp
      rw [e0]
      by_cases hi0 : i = 0 <;> by_cases h1 : 97 ≤ x <;> by_cases h2 : x ≤ 122 <;> by_cases h3 : x = 45 <;> by_cases h4 : 48 ≤ x <;> by_cases h5 : x ≤ 57 <;> simp [hi0, h1, h2, h3, h4, h5] <;> omega
    refine If_in (fun h => ⟨?_, h5⟩) fun h => Bd_in fun x30 hx30 => ?_
    · rw [e29, Bool.not_eq_true'] at h
      unfold named
      rw [hn, nmFrom_step ‹i < s.size›, h]; simp
    · rw [e29, Bool.not_eq_false'] at h
      rw [inc_len ‹i < s.size› hs] at hx30
      subst hx30
      exact ⟨s.size - (i + 1), by omega, i + 1, rfl, rfl, by omega, by rw [hn, nmFrom_step ‹i < s.size›, h]; rfl, h5⟩
  · subst hb8
    simp only [decide_eq_false_iff_not, Int.ofNat_lt] at h
    refine Bd_in fun x31 hx31 => Bd_in fun b32 hb32 => Bd_in fun x33 hx33 => Bd_in fun b34 hb34 => Bd_in fun b35 hb35 => ⟨?_, h5⟩
    rw [hb35, hb34, hb32, hx31, hx33]
    unfold named
    rw [hn, nmFrom_end (by omega)]
    have e1 : ((s.size : Int) ≤ 64) = (s.size ≤ 64) := by apply propext; omega
    have e2 : ((s.size : Int) ≥ 1) = (1 ≤ s.size) := by apply propext; omega
    simp only [e1, e2]
    cases decide (1 ≤ s.size) <;> rfl
theorem RowAt.take {α : Type} {w : World} {A : Option Addr} {size : Nat} {enc : α → List Value} {l : List α} (h : RowAt w A size enc l) (n : Nat) : RowAt w A size enc (l.take n) := by
  intro i x hx
  have hi := (List.getElem?_eq_some_iff.1 hx).1
  rw [List.getElem?_take_of_lt (by simp at hi; omega)] at hx
  exact h i x hx
theorem f215_ok (l : List ByteArray) (n : Nat) (hln : l.length = n) (hn : n < 2 ^ 63) (A : Option Addr) (C : Nat) (s : ByteArray) (w : World) (hr : RowAt w A 1 s1 l) :
    Ct Try.prog 215 #[.slice A n C, .string s] w fun v w' => (∃ x : Int, v = .int .i64 x ∧ (0 ≤ x ↔ s ∈ l)) ∧ Md [] w w' := by
  subst hln
  apply f215_in
  refine Bd_in fun x1 hx1 => ?_
  subst hx1
  refine LoopP_in (fun m us vs w' => ∃ i : Nat, us = [.int .i64 0, .int .i64 i] ∧ m = l.length - i ∧ i ≤ l.length ∧ s ∉ l.take i ∧ Md [] w w') l.length ⟨0, rfl, rfl, by omega, by simp, Md.refl _ _⟩ ?_
  rintro m us vs w5 ⟨i, rfl, rfl, hi, hno, h5⟩
  refine opI_in <| opI_in <| Bd_in fun b8 hb8 => If_in (fun h => ?_) fun h => ⟨⟨_, rfl, ?_⟩, h5⟩
  · subst hb8
    simp only [decide_eq_true_eq, Int.ofNat_lt] at h
    refine ⟨hr.ix h, (hr.md h5).ld1 h rfl <| opStr_in <| Bd_in fun b11 hb11 => If_in (fun hb => ⟨⟨_, rfl, ?_⟩, h5⟩) fun hb => Bd_in fun x12 hx12 => ?_⟩
    · rw [hb11, str_eq, decide_eq_true_eq] at hb
      subst hb
      exact ⟨fun _ => List.getElem_mem h, fun _ => by omega⟩
    · rw [hb11, str_eq, decide_eq_false_iff_not] at hb
      rw [inc_len h hn] at hx12
      subst hx12
      refine ⟨l.length - (i + 1), by omega, i + 1, rfl, rfl, by omega, ?_, h5⟩
      rw [List.take_succ_eq_append_getElem h, List.mem_append]
      simpa using ⟨hno, hb⟩
  · subst hb8
    simp only [decide_eq_false_iff_not, Int.ofNat_lt] at h
    rw [List.take_of_length_le (by omega)] at hno
    simp [hno]
def memB (s : ByteArray) (l : List ByteArray) : Bool := l.any fun x => decide (x = s)
theorem memB_iff {s : ByteArray} {l : List ByteArray} : memB s l = true ↔ s ∈ l := by simp [memB]
theorem f153_ok (l : List ByteArray) (n : Nat) (hln : l.length = n) (hn : n < 2 ^ 63) (A : Option Addr) (C : Nat) (s : ByteArray) (w : World) (hr : RowAt w A 1 s1 l) :
    Ct Try.prog 153 #[.slice A n C, .string s] w fun v w' => v = .bool (memB s l) ∧ Md [] w w' := by
  apply f153_in
  refine (f215_ok l n hln hn A C s w hr).call (by simp) ?_
  rintro v w' ⟨x, rfl, hx⟩ h'
  refine opI_in <| Bd_in fun b4 hb4 => ⟨?_, h'⟩
  rw [hb4]
  congr 1
  rw [Bool.eq_iff_iff, memB_iff, ← hx]
  simp
theorem f154_ok (l : List Int) (A : Option Addr) (C : Nat) (w : World) (hr : RowAt w A 1 i1 l) (hn : l.length < 2 ^ 63) (h0 : 1 ≤ l.length) :
    Ct Try.prog 154 #[.slice A l.length C] w fun v w' => (∃ x : Int, v = .int .i64 x ∧ ∀ n : Int, x < n ↔ ∀ y ∈ l, y < n) ∧ Md [] w w' := by
  apply f154_in
  refine Jn_in (fun us vs w' => Md [] w w') ?_ ?_
  · intro us vs w3 h3
    refine ⟨by simpa using hr.ix (i := 0) (by omega), ?_⟩
    have h00 : 0 < l.length := by omega
    refine (hr.md h3).ld1 (i := 0) h00 rfl <| opI_in ?_
    refine LoopP_in (fun m us vs w' => ∃ (i : Nat) (x : Int), us = [.int .i64 x, .int .i64 i] ∧ m = l.length - i ∧ i ≤ l.length ∧ (∀ n : Int, x < n ↔ ∀ y ∈ l.take i, y < n) ∧ Md [] w w') (l.length - 1) ⟨1, l[0], rfl, rfl, by omega, ?_, h3⟩ ?_
    · intro n
      rw [List.take_succ_eq_append_getElem h00]; simp
    rintro m us vs w9 ⟨i, x, rfl, rfl, hi, hx, h9⟩
    refine opI_in <| opI_in <| Bd_in fun x12 hx12 => Bd_in fun b13 hb13 => If_in (fun h => ?_) fun h => ⟨⟨x, rfl, ?_⟩, h9⟩
    · rw [hb13, hx12] at h
      simp only [decide_eq_true_eq, Int.ofNat_lt] at h
      refine ⟨hr.ix h, (hr.md h9).ld1 h rfl <| opI_in <| Bd_in fun x16 hx16 => Bd_in fun x17 hx17 => ?_⟩
      rw [inc_len h hn] at hx17
      subst hx17
      refine ⟨l.length - (i + 1), by omega, i + 1, x16, rfl, rfl, by omega, ?_, h9⟩
      intro n
      rw [List.take_succ_eq_append_getElem h]
      simp only [List.mem_append, List.mem_singleton]
      have hxn := hx n
      rw [hx16]
      constructor
      · intro h y hy
        rcases hy with hy | rfl
        · exact hxn.1 (by split at h <;> omega) y hy
        · split at h <;> omega
      · intro h
        have a := hxn.2 fun y hy => h y (.inl hy)
        have b := h _ (.inr rfl)
        split <;> omega
    · rw [hb13, hx12] at h
      simp only [decide_eq_false_iff_not, Int.ofNat_lt] at h
      rw [List.take_of_length_le (by omega)] at hx
      exact hx
  · refine Bd_in fun x19 hx19 => Bd_in fun b20 hb20 => If_in (fun h => ?_) fun _ => Md.refl _ _
    rw [hb20, hx19] at h
    simp at h
    omega
theorem f73_ok (a b : List Int) (A B : Option Addr) (C D : Nat) (w : World) (ha : RowAt w A 1 i1 a) (hb : RowAt w B 1 i1 b) (hal : a.length < 2 ^ 63) :
    Ct Try.prog 73 #[.slice A a.length C, .slice B b.length D] w fun v w' => v = .bool (decide (a = b)) ∧ Md [] w w' := by
  apply f73_in
  refine Bd_in fun x1 hx1 => Bd_in fun x2 hx2 => Bd_in fun b3 hb3 => ?_
  rw [hx1, hx2] at hb3
  refine If_in (fun h => ⟨?_, Md.refl _ _⟩) fun h => Bd_in fun x4 hx4 => ?_
  · have : a ≠ b := by rintro rfl; rw [hb3] at h; simp at h
    simp [this]
  have hl : (a.length : Int) = b.length := by rw [hb3] at h; simpa using h
  subst hx4
  refine LoopP_in (fun m us vs w' => ∃ i : Nat, us = [.bool false, .int .i64 i] ∧ m = a.length - i ∧ i ≤ a.length ∧ a.take i = b.take i ∧ Md [] w w') a.length ⟨0, rfl, rfl, by omega, by simp, Md.refl _ _⟩ ?_
  rintro m us vs w8 ⟨i, rfl, rfl, hi, hpre, h8⟩
  refine opB_in <| opI_in <| Bd_in fun b11 hb11 => If_in (fun h => ?_) fun h => ⟨?_, h8⟩
  · subst hb11
    simp only [decide_eq_true_eq, Int.ofNat_lt] at h
    have hib : i < b.length := by omega
    refine ⟨fun w' => Md [] w w', h8.trans (Md_drew _), ha.ix h, .int .i64 a[i], fun w' hw' => (ha.md hw').ld1 h rfl rfl, opI_in ⟨hb.ix hib, .int .i64 b[i], fun w' hw' => (hb.md hw').ld1 hib rfl rfl, opI_in <| Bd_in fun b23 hb23 => ?_⟩⟩
    refine If_in (fun he => ⟨?_, h8.trans (Md_drew _)⟩) fun he => Bd_in fun x24 hx24 => ?_
    · have : a ≠ b := by rintro rfl; rw [hb23] at he; simp at he
      simp [this]
    · have he' : a[i] = b[i] := by rw [hb23] at he; simpa using he
      rw [inc_len h hal] at hx24
      subst hx24
      refine ⟨a.length - (i + 1), by omega, i + 1, rfl, rfl, by omega, ?_, h8.trans (Md_drew _)⟩
      rw [List.take_succ_eq_append_getElem h, List.take_succ_eq_append_getElem hib, hpre, he']
  · subst hb11
    simp only [decide_eq_false_iff_not, Int.ofNat_lt] at h
    rw [List.take_of_length_le (by omega), List.take_of_length_le (by omega)] at hpre
    simp [hpre]
theorem f160_ok (a b : List ByteArray) (A B : Option Addr) (C D : Nat) (w : World) (ha : RowAt w A 1 s1 a) (hb : RowAt w B 1 s1 b) (hal : a.length < 2 ^ 63) :
    Ct Try.prog 160 #[.slice A a.length C, .slice B b.length D] w fun v w' => v = .bool (decide (a = b)) ∧ Md [] w w' := by
  apply f160_in
  refine Bd_in fun x1 hx1 => Bd_in fun x2 hx2 => Bd_in fun b3 hb3 => ?_
  rw [hx1, hx2] at hb3
  refine If_in (fun h => ⟨?_, Md.refl _ _⟩) fun h => Bd_in fun x4 hx4 => ?_
  · have : a ≠ b := by rintro rfl; rw [hb3] at h; simp at h
    simp [this]
  have hl : (a.length : Int) = b.length := by rw [hb3] at h; simpa using h
  subst hx4
  refine LoopP_in (fun m us vs w' => ∃ i : Nat, us = [.bool false, .int .i64 i] ∧ m = a.length - i ∧ i ≤ a.length ∧ a.take i = b.take i ∧ Md [] w w') a.length ⟨0, rfl, rfl, by omega, by simp, Md.refl _ _⟩ ?_
  rintro m us vs w8 ⟨i, rfl, rfl, hi, hpre, h8⟩
  refine opB_in <| opI_in <| Bd_in fun b11 hb11 => If_in (fun h => ?_) fun h => ⟨?_, h8⟩
  · subst hb11
    simp only [decide_eq_true_eq, Int.ofNat_lt] at h
    have hib : i < b.length := by omega
    refine ⟨fun w' => Md [] w w', h8.trans (Md_drew _), ha.ix h, .string a[i], fun w' hw' => (ha.md hw').ld1 h rfl rfl, opStr_in ⟨hb.ix hib, .string b[i], fun w' hw' => (hb.md hw').ld1 hib rfl rfl, opStr_in <| Bd_in fun b23 hb23 => ?_⟩⟩
    rw [str_eq] at hb23
    refine If_in (fun he => ⟨?_, h8.trans (Md_drew _)⟩) fun he => Bd_in fun x24 hx24 => ?_
    · have : a ≠ b := by rintro rfl; rw [hb23] at he; simp at he
      simp [this]
    · have he' : a[i] = b[i] := by rw [hb23] at he; simpa using he
      rw [inc_len h hal] at hx24
      subst hx24
      refine ⟨a.length - (i + 1), by omega, i + 1, rfl, rfl, by omega, ?_, h8.trans (Md_drew _)⟩
      rw [List.take_succ_eq_append_getElem h, List.take_succ_eq_append_getElem hib, hpre, he']
  · subst hb11
    simp only [decide_eq_false_iff_not, Int.ofNat_lt] at h
    rw [List.take_of_length_le (by omega), List.take_of_length_le (by omega)] at hpre
    simp [hpre]
theorem f96_ok (dm em : Int) (na nb ta tb : List Int) (A B D E : Option Addr) (C1 C2 C3 C4 : Nat) (w : World) (h1 : RowAt w A 1 i1 na) (h2 : RowAt w B 1 i1 ta) (h3 : RowAt w D 1 i1 nb) (h4 : RowAt w E 1 i1 tb) (hl1 : na.length < 2 ^ 63) (hl2 : ta.length < 2 ^ 63) :
    Ct Try.prog 96 #[.agg #[.int .i64 dm, .slice A na.length C1, .slice B ta.length C2], .agg #[.int .i64 em, .slice D nb.length C3, .slice E tb.length C4]] w fun v w' => v = .bool (decide (dm = em) && decide (na = nb) && decide (ta = tb)) ∧ Md [] w w' := by
  apply f96_in
  intro n1 hn1 n2 hn2
  refine Bd_in fun b3 hb3 w4 h4' hL4 => ?_
  have g4 : Good [n2, n1] w w4 := ⟨h4', hL4⟩
  refine Gd_to (fun b w' => (b3 = true → b = decide (na = nb)) ∧ Good [n2, n1] w w') (fun b9 w10 hJ => ?_) (fun fin hc => ?_) (fun hc => ⟨fun h => (by rw [h] at hc; cases hc), g4⟩)
  · obtain ⟨hb9, g10⟩ := hJ
    refine Bd_in fun b11 hb11 => ?_
    have e11 : b11 = (decide (dm = em) && decide (na = nb)) := by
      have e3 : b3 = decide (dm = em) := by rw [hb3, Bool.eq_iff_iff]; simp
      rw [hb11]
      cases h : b3 with
      | false => rw [h] at e3; rw [← e3]; rfl
      | true => rw [h] at e3; rw [← e3, hb9 h]; rfl
    refine Gd_to (fun b w' => (b11 = true → b = decide (ta = tb)) ∧ Good [n2, n1] w w') (fun b16 w17 hJ => ?_) (fun fin hc => ?_) (fun hc => ⟨fun h => (by rw [h] at hc; cases hc), g10⟩)
    · refine Bd_in fun b18 hb18 => ⟨?_, hJ.2.1⟩
      rw [hb18]
      cases h : b11 with
      | false => rw [h] at e11; rw [← e11]; rfl
      | true => rw [h] at e11; rw [← e11, hJ.1 h]; rfl
    · refine (f73_ok ta tb B E C2 C4 w10 (h2.md g10.1) (h4.md g10.1) hl2).call g10.2 ?_
      rintro v w' rfl h'
      exact opB_in (fin _ _ ⟨fun _ => rfl, g10.tr h'⟩)
  · refine (f73_ok na nb A D C1 C3 w4 (h1.md h4') (h3.md h4') hl1).call hL4 ?_
    rintro v w' rfl h'
    exact opB_in (fin _ _ ⟨fun _ => rfl, g4.tr h'⟩)
end Fk
set_option linter.unusedVariables false
set_option linter.unusedSimpArgs false
set_option maxRecDepth 100000
namespace Fk
open Go Go.Proofs Go.RowKit
/-- A table. -/
structure Tb where
  c : Cl
  dm : Int
  nx : List Int
  tg : List Int
  nm : List ByteArray
/-- Where its rows stand. -/
structure TbS where
  na : Option Addr
  nc : Nat
  ta : Option Addr
  tc : Nat
  sa : Option Addr
  sc : Nat
def Tb.d (t : Tb) (p : TbS) : List Value := [.int .i64 t.dm, .slice p.na t.nx.length p.nc, .slice p.ta t.tg.length p.tc]
def Tb.l (t : Tb) (p : TbS) : List Value := t.c.l ++ (t.d p ++ [.slice p.sa t.nm.length p.sc])
def Tb.v (t : Tb) (p : TbS) : Array Value := (t.l p).toArray
structure TbAt (w : World) (t : Tb) (p : TbS) : Prop where
  ok : t.c.ok
  nx : RowAt w p.na 1 i1 t.nx
  tg : RowAt w p.ta 1 i1 t.tg
  nm : RowAt w p.sa 1 s1 t.nm
  nxl : t.nx.length < 2 ^ 63
  tgl : t.tg.length < 2 ^ 63
  nml : t.nm.length < 2 ^ 63
  nsz : ∀ s ∈ t.nm, s.size < 2 ^ 63
  cap : t.nm.length ≤ p.sc
theorem TbAt.md {w w' : World} {t : Tb} {p : TbS} (h : TbAt w t p) (hm : Md [] w w') : TbAt w' t p := ⟨h.ok, h.nx.md hm, h.tg.md hm, h.nm.md hm, h.nxl, h.tgl, h.nml, h.nsz, h.cap⟩
section
variable {w : World} {t : Tb} {p : TbS}
theorem TbAt.len (h : TbAt w t p) : t.c.l.length = 257 := by simp [Cl.l, h.ok.len]
theorem TbAt.size (h : TbAt w t p) : (t.v p).size = 261 := by simp [Tb.v, Tb.l, Tb.d, h.len]
theorem TbAt.front (h : TbAt w t p) : List.toArray (List.take 257 (List.drop 0 (Array.toList (t.v p)))) = t.c.v := by
  simp [Tb.v, Tb.l, Cl.v, List.take_append, h.len]
theorem TbAt.mid (h : TbAt w t p) : List.toArray (List.take 3 (List.drop 257 (Array.toList (t.v p)))) = #[.int .i64 t.dm, .slice p.na t.nx.length p.nc, .slice p.ta t.tg.length p.tc] := by
  have : List.drop 257 t.c.l = [] := List.drop_of_length_le (by rw [h.len]; omega)
  simp [Tb.v, Tb.l, Tb.d, List.drop_append, h.len, this]
theorem TbAt.n256 (h : TbAt w t p) : nthV (Array.toList (t.v p)) 256 = some (.int .i64 t.c.m) := by
  have := h.ok.many
  simp only [nthV, Tb.v, Tb.l, Cl.v] at this ⊢
  rw [List.getElem?_append_left (by rw [h.len]; omega)]; exact this
theorem TbAt.n257 (h : TbAt w t p) : nthV (Array.toList (t.v p)) 257 = some (.int .i64 t.dm) := by
  simp only [nthV, Tb.v, Tb.l]; rw [List.getElem?_append_right (by rw [h.len]; omega), h.len]; rfl
theorem TbAt.n258 (h : TbAt w t p) : nthV (Array.toList (t.v p)) 258 = some (.slice p.na t.nx.length p.nc) := by
  simp only [nthV, Tb.v, Tb.l]; rw [List.getElem?_append_right (by rw [h.len]; omega), h.len]; rfl
theorem TbAt.n259 (h : TbAt w t p) : nthV (Array.toList (t.v p)) 259 = some (.slice p.ta t.tg.length p.tc) := by
  simp only [nthV, Tb.v, Tb.l]; rw [List.getElem?_append_right (by rw [h.len]; omega), h.len]; rfl
theorem TbAt.n260 (h : TbAt w t p) : nthV (Array.toList (t.v p)) 260 = some (.slice p.sa t.nm.length p.sc) := by
  simp only [nthV, Tb.v, Tb.l]; rw [List.getElem?_append_right (by rw [h.len]; omega), h.len]; rfl
theorem TbAt.i256 (h : TbAt w t p) : isI .i64 (Array.toList (t.v p)) 256 ∧ rdI (Array.toList (t.v p)) 256 = t.c.m := by
  have := h.n256; unfold nthV at this; exact ⟨⟨_, this⟩, by unfold rdI; rw [this]⟩
theorem TbAt.i257 (h : TbAt w t p) : isI .i64 (Array.toList (t.v p)) 257 ∧ rdI (Array.toList (t.v p)) 257 = t.dm := by
  have := h.n257; unfold nthV at this; exact ⟨⟨_, this⟩, by unfold rdI; rw [this]⟩
theorem TbAt.byte (h : TbAt w t p) {b : Nat} (hb : b < 256) : nthV (Array.toList (t.v p)) (0 + (b : Int).toNat * 1) = some (.int .u8 (t.c.f[b]'(by rw [h.ok.len]; exact hb) : Int)) := by
  have := h.ok.nth' (i := b) (by rw [h.ok.len]; exact hb)
  simp only [nthV, Tb.v, Tb.l, Cl.v] at this ⊢
  rw [List.getElem?_append_left (by rw [h.len]; simp; omega)]; exact this
end
def namesOk : List ByteArray → List ByteArray → Bool
  | _, [] => true
  | pre, s :: l => named s && !memB s pre && namesOk (pre ++ [s]) l
def tHead (t : Tb) : Bool := t.c.right && dRight t.dm t.nx t.tg && decide (t.c.m = t.dm) && decide (1 ≤ t.nm.length ∧ t.nm.length ≤ 200)
def tTags (t : Tb) : Bool := t.tg.all fun x => decide (x < (t.nm.length : Int))
/-- Which tables are right. -/
def tRight (t : Tb) : Bool := tHead t && namesOk [] t.nm && tTags t
theorem dRight_tags {dm : Int} {nx tg : List Int} (h : dRight dm nx tg = true) : 1 ≤ dm ∧ dm ≤ 256 ∧ 1 ≤ tg.length ∧ tg.length ≤ 5000 ∧ (nx.length : Int) = dm * tg.length := by
  simp only [dRight, Bool.and_eq_true, decide_eq_true_eq] at h; exact h.1.1
section
variable {L : List Nat} {w0 w : World} {K : Bool → World → Prop}
theorem in72 {t : Tb} {p : TbS} (ht : TbAt w0 t p) (h : Good L w0 w) (k : ∀ w', Good L w0 w' → K (dRight t.dm t.nx t.tg) w') :
    CallW Try.prog L 72 #[.agg #[.int .i64 t.dm, .slice p.na t.nx.length p.nc, .slice p.ta t.tg.length p.tc]] (fun v w' => opB v fun b => K b w') w := by
  refine (f72_ok t.dm t.nx t.tg p.na p.ta p.nc p.tc w (ht.nx.md h.1) (ht.tg.md h.1) ht.nxl ht.tgl).call h.2 ?_
  rintro v w' rfl h'
  exact opB_in (k w' (h.tr h'))
theorem in152 (s : ByteArray) (hs : s.size < 2 ^ 63) (h : Good L w0 w) (k : ∀ w', Good L w0 w' → K (named s) w') : CallW Try.prog L 152 #[.string s] (fun v w' => opB v fun b => K b w') w := by
  refine (f152_ok s hs w).call h.2 ?_
  rintro v w' rfl h'
  exact opB_in (k w' (h.tr h'))
end
theorem size9 (w : World) : ∃ s, (Go.sizeOf 9).run Try.prog w = .ok s w := by
  have h : (Try.prog.info? 9).map (·.size) = some 1 := by kernel_rfl
  cases hi : Try.prog.info? 9 with
  | none => simp [hi] at h
  | some i => exact ⟨i.size, by simp [Go.sizeOf, typeInfo, hi]⟩
theorem not_eq_of {b c : Bool} (h : b = !c) : (b = true → c = false) ∧ (b = false → c = true) := by subst h; cases c <;> simp
theorem f55_ok (t : Tb) (p : TbS) (w : World) (ht : TbAt w t p) : Ct Try.prog 55 #[.agg (t.v p)] w fun v w' => v = .bool (tRight t) ∧ Md [] w w' := by
  apply f55_in
  intro n1 hn1
  refine ⟨by rw [ht.size]; omega, Bd_in fun cs2 hcs2 => ?_⟩
  rw [ht.front] at hcs2
  subst hcs2
  refine ⟨ht.ok.size, fun w3 h3 hL3 => ?_⟩
  have g3 : Good [n1] w w3 := ⟨h3, hL3⟩
  refine in44 t.c ht.ok g3 fun w5 g5 => ?_
  refine Bd_in fun b7 hb7 => ⟨fun _ => by rw [ht.size]; omega, Bd_in fun cs9 hcs9 => ?_⟩
  rw [ht.mid] at hcs9
  subst hcs9
  refine Gd_to (fun b w' => (b7 = false → b = dRight t.dm t.nx t.tg) ∧ Good [n1] w w') (fun b14 w15 hJ => ?_) (fun fin hc => in72 ht g5 fun w' g' => fin _ _ ⟨fun _ => rfl, g'⟩) (fun hc => ⟨fun h => by simp [h] at hc, g5⟩)
  obtain ⟨hb14, g15⟩ := hJ
  refine Bd_in fun b16 hb16 => Bd_in fun b17 hb17 => ⟨fun _ => ht.i256.1, Bd_in fun x19 hx19 => ⟨fun _ => ht.i257.1, Bd_in fun x21 hx21 => Bd_in fun b22 hb22 => Bd_in fun b23 hb23 => ⟨p.sa, t.nm.length, p.sc, fun _ => ht.n260,
    Bd_in fun x28 hx28 => Bd_in fun b29 hb29 => Bd_in fun b30 hb30 => ⟨p.sa, t.nm.length, p.sc, fun _ => ht.n260, Bd_in fun x35 hx35 => Bd_in fun b36 hb36 => Bd_in fun b37 hb37 => ?_⟩⟩⟩⟩
  have e37 : b37 = !tHead t := by
    rw [hb37, hb36, hb30, hb29, hb23, hb22, hb17, hb16, hx35, hx28, hx21, hx19, ht.i256.2, ht.i257.2]
    unfold tHead
    have e1 : (t.c.m != t.dm) = !decide (t.c.m = t.dm) := by rw [Bool.eq_iff_iff]; simp
    have e2 : decide (1 ≤ t.nm.length ∧ t.nm.length ≤ 200) = (!decide ((t.nm.length : Int) < 1) && !decide ((t.nm.length : Int) > 200)) := by rw [Bool.eq_iff_iff]; simp; omega
    rw [e1, e2]
    cases hc : b7 with
    | true =>
      rw [hc] at hb7
      have : t.c.right = false := by simpa using hb7.symm
      rw [this]; simp
    | false =>
      rw [hc] at hb7
      have : t.c.right = true := by simpa using hb7.symm
      rw [this, hb14 hc]
      cases dRight t.dm t.nx t.tg <;> cases decide (t.c.m = t.dm) <;> cases decide ((t.nm.length : Int) < 1) <;> simp
  refine If_in (fun h => ⟨?_, g15.1⟩) fun h => BdO_in ht.n260 <| opL_in <| Bd_in fun x42 hx42 => ?_
  · unfold tRight; rw [(not_eq_of e37).1 h]; rfl
  have hH := (not_eq_of e37).2 h
  subst hx42
  refine LoopP_in (fun m us vs w' => ∃ i : Nat, us = [.bool false, .int .i64 i] ∧ m = t.nm.length - i ∧ i ≤ t.nm.length ∧ namesOk [] t.nm = namesOk (t.nm.take i) (t.nm.drop i) ∧ Good [n1] w w') t.nm.length ⟨0, rfl, rfl, by omega, by simp, g15⟩ ?_
  rintro m us vs w46 ⟨i, rfl, rfl, hi, hnm, g46⟩
  refine opB_in <| opI_in <| Bd_in fun b49 hb49 => If_in (fun hb => ?_) fun hb => ?_
  · subst hb49
    simp only [decide_eq_true_eq, Int.ofNat_lt] at hb
    refine ⟨ht.nm.ix hb, (ht.nm.md g46.1).ld1 hb rfl <| opStr_in ?_⟩
    refine in152 _ (ht.nsz _ (List.getElem_mem hb)) g46 fun w53 g53 => Bd_in fun b55 hb55 => ⟨p.sa, t.nm.length, p.sc, fun _ => ht.n260, ?_⟩
    refine Gd_to (fun u w' => (b55 = false → u = (p.sa, i, p.sc)) ∧ Good [n1] w w') (fun u w67 hJ => ?_) (fun fin hc => ?_) (fun hc => ⟨fun h => by simp [h] at hc, g53⟩)
    · obtain ⟨hu, g67⟩ := hJ
      refine Gd_to (fun b w' => (b55 = false → b = memB t.nm[i] (t.nm.take i)) ∧ Good [n1] w w') (fun b72 w73 hJ => ?_) (fun fin hc => ?_) (fun hc => ⟨fun h => by simp [h] at hc, g67⟩)
      · obtain ⟨hb72, g73⟩ := hJ
        refine Bd_in fun b74 hb74 => ?_
        have e74 : b74 = !(named t.nm[i] && !memB t.nm[i] (t.nm.take i)) := by
          rw [hb74]
          cases hc : b55 with
          | true =>
            rw [hc] at hb55
            have : named t.nm[i] = false := by simpa using hb55.symm
            rw [this]; rfl
          | false =>
            rw [hc] at hb55
            have : named t.nm[i] = true := by simpa using hb55.symm
            rw [this, hb72 hc]; simp
        have hstep : namesOk [] t.nm = (named t.nm[i] && !memB t.nm[i] (t.nm.take i) && namesOk (t.nm.take (i + 1)) (t.nm.drop (i + 1))) := by
          rw [hnm, List.drop_eq_getElem_cons hb, namesOk, List.take_succ_eq_append_getElem hb]
        refine If_in (fun h => ⟨?_, g73.1⟩) fun h => Bd_in fun x75 hx75 => ?_
        · unfold tRight; rw [hstep, (not_eq_of e74).1 h]; simp
        · rw [inc_len hb ht.nml] at hx75
          subst hx75
          exact ⟨t.nm.length - (i + 1), by omega, i + 1, rfl, rfl, by omega, by rw [hstep, (not_eq_of e74).2 h]; rfl, g73⟩
      · have hu' := hu (by simpa using hc)
        subst hu'
        refine (f153_ok (t.nm.take i) i (by simp; omega) (by have := ht.nml; omega) p.sa p.sc t.nm[i] w67 ((ht.nm.md g67.1).take i)).call g67.2 ?_
        rintro v w' rfl h'
        exact opB_in (fin _ _ ⟨fun _ => rfl, g67.tr h'⟩)
    · exact RunW_in0 (slice_front (e := 9) (by kernel_rfl) size9 _ _ _ _ _ (by have := ht.cap; omega)) <| opL_in <| fin _ _ ⟨fun _ => rfl, g53⟩
  · subst hb49
    simp only [decide_eq_false_iff_not, Int.ofNat_lt] at hb
    rw [List.drop_of_length_le (by omega), namesOk] at hnm
    refine BdO_in ht.n259 <| opL_in <| BdO_in ht.n260 <| opL_in <| Bd_in fun x84 hx84 => ?_
    have h1 : 1 ≤ t.tg.length := by
      have : dRight t.dm t.nx t.tg = true := by
        unfold tHead at hH; cases h : dRight t.dm t.nx t.tg <;> rw [h] at hH <;> simp at hH ⊢
      exact (dRight_tags this).2.2.1
    refine (f154_ok t.tg p.ta p.tc w46.drew (ht.tg.md g46.drew.1) ht.tgl h1).call g46.drew.2 ?_
    rintro v w' ⟨x, rfl, hx⟩ h'
    refine opI_in <| Bd_in fun b88 hb88 => ⟨?_, (g46.drew.tr h').1⟩
    unfold tRight tTags
    rw [hH, hnm, hb88, hx84]
    congr 1
    rw [Bool.eq_iff_iff]
    simp [hx]
/-- Where a state comes to. -/
def tStep (t : Tb) (st : Int) (b : Nat) : Int := if tRight t = true ∧ 0 ≤ st ∧ st < t.tg.length then t.nx.getD ((st * t.dm).toNat + t.c.f.getD b 0) (-1) else -1
theorem right_class {c : Cl} (hc : c.ok) (h : c.right = true) {i : Nat} (hi : i < c.f.length) : (c.f[i] : Int) < c.m := by
  rw [right_iff hc] at h
  simp only [Cl.rightR, Bool.and_eq_true, List.all_eq_true, decide_eq_true_eq] at h
  exact h.1.2 _ (List.getElem_mem hi)
theorem step_in {t : Tb} (hc : t.c.ok) {st : Int} {b : Nat} (hb : b < 256) (hr : tRight t = true) (h0 : 0 ≤ st) (h1 : st < t.tg.length) :
    ∃ (x : Nat) (hx : (st * t.dm).toNat + x < t.nx.length), t.c.f[b]? = some x ∧ IntKind.wrap .i64 (st * t.dm) = (((st * t.dm).toNat : Nat) : Int) ∧ x < 256 ∧ (st * t.dm).toNat < 2 ^ 40 ∧ tStep t st b = t.nx[(st * t.dm).toNat + x] := by
  have hh : tHead t = true := by unfold tRight at hr; simp at hr; exact hr.1.1
  unfold tHead at hh
  simp only [Bool.and_eq_true, decide_eq_true_eq] at hh
  obtain ⟨⟨⟨hcr, hdr⟩, hm⟩, _⟩ := hh
  obtain ⟨d1, d2, d3, d4, d5⟩ := dRight_tags hdr
  have hbl : b < t.c.f.length := by rw [hc.len]; exact hb
  have hcl := right_class hc hcr hbl
  have e1 : 0 ≤ st * t.dm := Int.mul_nonneg h0 (by omega)
  have e2 : st * t.dm ≤ 5000 * 256 := Int.mul_le_mul (by omega) d2 (by omega) (by omega)
  have e3 : (st + 1) * t.dm ≤ (t.tg.length : Int) * t.dm := Int.mul_le_mul_of_nonneg_right (by omega) (by omega)
  have e4 : (st + 1) * t.dm = st * t.dm + t.dm := by rw [Int.add_mul, Int.one_mul]
  have e5 : (t.tg.length : Int) * t.dm = t.nx.length := by rw [d5, Int.mul_comm]
  generalize hP : st * t.dm = P at *
  have hlt : P.toNat + t.c.f[b] < t.nx.length := by omega
  refine ⟨t.c.f[b], hlt, List.getElem?_eq_getElem hbl, by rw [IntKind.wrap_i64]; omega, hc.lt b hbl, by omega, ?_⟩
  unfold tStep
  rw [if_pos ⟨hr, h0, h1⟩, hP]
  simp [List.getD, List.getElem?_eq_getElem hbl, hlt]
section
variable {L : List Nat} {w0 w : World} {K : Bool → World → Prop}
theorem in55 {t : Tb} {p : TbS} (ht : TbAt w0 t p) (h : Good L w0 w) (k : ∀ w', Good L w0 w' → K (tRight t) w') :
    CallW Try.prog L 55 #[.agg (t.v p)] (fun v w' => opB v fun b => K b w') w := by
  refine (f55_ok t p w (ht.md h.1)).call h.2 ?_
  rintro v w' rfl h'
  exact opB_in (k w' (h.tr h'))
end
theorem f57_ok (t : Tb) (p : TbS) (st : Int) (b : Nat) (hb : b < 256) (w : World) (ht : TbAt w t p) : Ct Try.prog 57 #[.agg (t.v p), .int .i64 st, .int .u8 b] w fun v w' => v = .int .i64 (tStep t st b) ∧ Md [] w w' := by
  apply f57_in
  intro n1 hn1
  refine ⟨ht.size, fun w2 h2 hL2 => ?_⟩
  have g2 : Good [n1] w w2 := ⟨h2, hL2⟩
  refine in55 ht g2 fun w4 g4 => ?_
  refine Bd_in fun b6 hb6 => Bd_in fun b7 hb7 => Bd_in fun b8 hb8 => ⟨p.ta, t.tg.length, p.tc, fun _ => ht.n259, Bd_in fun x13 hx13 => Bd_in fun b14 hb14 => Bd_in fun b15 hb15 => ?_⟩
  have e15 : b15 = !decide (tRight t = true ∧ 0 ≤ st ∧ st < t.tg.length) := by
    rw [hb15, hb14, hb8, hb7, hb6, hx13]
    cases tRight t <;> by_cases h1 : st < 0 <;> by_cases h2 : st ≥ t.tg.length <;> simp [h1, h2] <;> omega
  refine If_in (fun h => ⟨?_, g4.1⟩) fun h => ?_
  · have := (not_eq_of e15).1 h
    rw [decide_eq_false_iff_not] at this
    unfold tStep; rw [if_neg this]
  have := (not_eq_of e15).2 h
  rw [decide_eq_true_eq] at this
  obtain ⟨hr, h0, h1⟩ := this
  obtain ⟨x, hx, hfx, hwr, hx2, hpb, hst⟩ := step_in ht.ok hb hr h0 h1
  have hby := ht.byte hb
  have hxe : t.c.f[b]'(by rw [ht.ok.len]; exact hb) = x := by
    have := List.getElem?_eq_getElem (l := t.c.f) (i := b) (by rw [ht.ok.len]; exact hb)
    rw [this] at hfx; exact Option.some.inj hfx
  rw [hxe] at hby
  refine ⟨fun w' => Md [] w w', g4.1.trans (Md_drew _), BdO_in ht.n258 <| opL_in <| BdO_in ht.n257 <| opI_in <| Bd_in fun x23 hx23 => ⟨⟨by omega, by omega⟩, BdO_in hby <| opI_in <| Bd_in fun x26 hx26 => Bd_in fun x27 hx27 => ?_⟩⟩
  have e27 : x27 = (((st * t.dm).toNat + x : Nat) : Int) := by
    rw [hx27, hx26, hx23, hwr, wrap_byte hx2, IntKind.wrap_i64]; omega
  subst e27
  refine ⟨ht.nx.ix hx, .int .i64 t.nx[(st * t.dm).toNat + x], fun w' hw' => (ht.nx.md hw').ld1 hx rfl rfl, opI_in ⟨by rw [hst], g4.1.trans (Md_drew _)⟩⟩
/-- Two tables are the same: f63. -/
theorem f63_ok (t u : Tb) (p q : TbS) (w : World) (ht : TbAt w t p) (hu : TbAt w u q) : Ct Try.prog 63 #[.agg (t.v p), .agg (u.v q)] w fun v w' => (∃ b, v = .bool b ∧ (b = true ↔ t = u)) ∧ Md [] w w' := by
  apply f63_in
  intro n1 hn1 n2 hn2
  refine ⟨by rw [ht.size]; omega, Bd_in fun cs3 hcs3 => ?_⟩
  rw [ht.front] at hcs3
  subst hcs3
  refine ⟨ht.ok.size, by rw [hu.size]; omega, Bd_in fun cs4 hcs4 => ?_⟩
  rw [hu.front] at hcs4
  subst hcs4
  refine ⟨hu.ok.size, fun w5 h5 hL5 => ?_⟩
  have g5 : Good [n2, n1] w w5 := ⟨h5, hL5⟩
  refine RunW_in0 (eqS_of (by kernel_rfl) (eqCl w5 ht.ok hu.ok) _ _).1 ?_
  refine opB_in ⟨fun _ => by rw [ht.size]; omega, Bd_in fun cs10 hcs10 => ⟨fun _ => by rw [hu.size]; omega, Bd_in fun cs12 hcs12 => ?_⟩⟩
  rw [ht.mid] at hcs10
  rw [hu.mid] at hcs12
  subst hcs10; subst hcs12
  generalize hb8 : (decide (t.c.f = u.c.f) && decide (t.c.m = u.c.m)) = b8
  refine Gd_to (fun b w' => (b8 = true → b = (decide (t.dm = u.dm) && decide (t.nx = u.nx) && decide (t.tg = u.tg))) ∧ Good [n2, n1] w w') (fun b17 w18 hJ => ?_) (fun fin hc => ?_) (fun hc => ⟨fun h => (by rw [h] at hc; cases hc), g5⟩)
  · obtain ⟨hb17, g18⟩ := hJ
    refine Bd_in fun b19 hb19 => ⟨p.sa, t.nm.length, p.sc, fun _ => ht.n260, q.sa, u.nm.length, q.sc, fun _ => hu.n260, ?_⟩
    have e19 : b19 = (b8 && (decide (t.dm = u.dm) && decide (t.nx = u.nx) && decide (t.tg = u.tg))) := by
      rw [hb19]
      cases hc : b8 with
      | false => rfl
      | true => rw [hb17 hc]; rfl
    refine Gd_to (fun b w' => (b19 = true → b = decide (t.nm = u.nm)) ∧ Good [n2, n1] w w') (fun b32 w33 hJ => ?_) (fun fin hc => ?_) (fun hc => ⟨fun h => (by rw [h] at hc; cases hc), g18⟩)
    · obtain ⟨hb32, g33⟩ := hJ
      refine Bd_in fun b34 hb34 => ⟨⟨_, rfl, ?_⟩, g33.1⟩
      have e34 : b34 = (b19 && decide (t.nm = u.nm)) := by
        rw [hb34]
        cases hc : b19 with
        | false => rfl
        | true => rw [hb32 hc]; rfl
      rw [e34, e19, ← hb8]
      simp only [Bool.and_eq_true, decide_eq_true_eq]
      constructor
      · rintro ⟨⟨⟨h1, h2⟩, ⟨h3, h4⟩, h5⟩, h6⟩
        obtain ⟨⟨f, m⟩, dm, nx, tg, nm⟩ := t
        obtain ⟨⟨f', m'⟩, dm', nx', tg', nm'⟩ := u
        simp only at h1 h2 h3 h4 h5 h6
        subst h1; subst h2; subst h3; subst h4; subst h5; subst h6
        rfl
      · rintro rfl; simp
    · refine (f160_ok t.nm u.nm p.sa q.sa p.sc q.sc w18 (ht.nm.md g18.1) (hu.nm.md g18.1) ht.nml).call g18.2 ?_
      rintro v w' rfl h'
      exact opB_in (fin _ _ ⟨fun _ => rfl, g18.tr h'⟩)
  · refine (f96_ok t.dm u.dm t.nx u.nx t.tg u.tg p.na p.ta q.na q.ta p.nc p.tc q.nc q.tc w5 (ht.nx.md h5) (ht.tg.md h5) (hu.nx.md h5) (hu.tg.md h5) ht.nxl ht.tgl).call hL5 ?_
    rintro v w' rfl h'
    exact opB_in (fin _ _ ⟨fun _ => rfl, g5.tr h'⟩)
end Fk
set_option linter.unusedVariables false
set_option linter.unusedSimpArgs false
set_option maxRecDepth 100000
namespace Fk
open Go Go.Proofs Go.RowKit
def b1 (x : Nat) : List Value := [.int .u8 (x : Int)]
theorem encb1 : Enc 1 b1 := ⟨fun _ => rfl, by intro x v hv; simp [b1] at hv; subst hv; rfl⟩
theorem rowT51 : RowT Try.prog 51 5 1 1 := RowT.of (by kernel_rfl) (by kernel_rfl) (by kernel_rfl) (by omega)
theorem rowT55 : RowT Try.prog 55 9 1 16 := RowT.of (by kernel_rfl) (by kernel_rfl) (by kernel_rfl) (by omega)
theorem size5 (w : World) : (Go.sizeOf 5).run Try.prog w = .ok 1 w := by
  have h : (Try.prog.info? 5).map (·.size) = some 1 := by kernel_rfl
  cases hi : Try.prog.info? 5 with
  | none => simp [hi] at h
  | some i => simp [hi] at h; simp [Go.sizeOf, typeInfo, hi, h]
def Blk (w : World) (n : Nat) (ty : TypeId) (l : List Value) : Prop := w.heap[n]? = some (.cells l.toArray ty (0, 0))
theorem Blk.lt {w : World} {n : Nat} {ty : TypeId} {l : List Value} (h : Blk w n ty l) : n < w.heap.size := (Array.getElem?_eq_some_iff.1 h).1
theorem Blk.cell {w : World} {n : Nat} {ty : TypeId} {l : List Value} (h : Blk w n ty l) {j : Nat} {v : Value} (hv : l[j]? = some v) : w.cell? ⟨n, j, none⟩ = some v := by
  rw [cell_of_row w n j _ ty (0, 0) h]; simpa using hv
theorem Blk.wr {w : World} {n : Nat} {ty : TypeId} {l : List Value} (h : Blk w n ty l) {o k : Nat} (hk : o + k ≤ l.length) : Wr w ⟨n, o, none⟩ k := by
  intro j hj
  rw [Addr.add_lit]
  refine ⟨⟨_, h.cell (List.getElem?_eq_getElem (by omega))⟩, ?_⟩
  unfold Blk at h
  simp [World.frozen?, h]
theorem Blk.set {w : World} {n : Nat} {ty : TypeId} {l : List Value} (h : Blk w n ty l) {j : Nat} (hj : j < l.length) (v : Value) : Blk (setCells w ⟨n, j, none⟩ 0 [v]) n ty (l.set j v) := by
  rcases wrL_run (m := 0) (cells := []) (o := j) (vs := []) [v] 0 l w h with h' | h'
  · unfold Blk
    rw [h']
    congr 3
    unfold wrL
    simp [List.set_eq_take_append_cons_drop, hj]
  · simp at h'; omega
theorem setCells_env : ∀ (vs : List Value) (i : Nat) (w : World) (A : Addr), (setCells w A i vs).os = w.os ∧ (setCells w A i vs).tape = w.tape ∧ (setCells w A i vs).output = w.output ∧ (setCells w A i vs).heap.size = w.heap.size
  | [], _, _, _ => ⟨rfl, rfl, rfl, rfl⟩
  | v :: vs, i, w, A => by
    obtain ⟨h1, h2, h3, h4⟩ := setCells_env vs (i + 1) (w.setCell (A.add i) v) A
    simp only [setCells]
    exact ⟨h1, h2, h3, by rw [h4]; simp [World.setCell]⟩
theorem Md_setCells {w : World} (n o : Nat) (vs : List Value) : Md [n] w (setCells w ⟨n, o, none⟩ 0 vs) := by
  obtain ⟨h1, h2, h3, h4⟩ := setCells_env vs 0 w ⟨n, o, none⟩
  exact ⟨h1, h2, h3, by omega, fun k hk hm => setCells_heap _ _ _ _ (by simpa using hm)⟩
theorem Blk.md {w w' : World} {n : Nat} {ty : TypeId} {l : List Value} {D : List Nat} (h : Blk w n ty l) (hm : Md D w w') (hD : n ∉ D) : Blk w' n ty l := by
  unfold Blk
  rw [hm.blk n h.lt hD]; exact h
/-- Rows that a change elsewhere leaves. -/
theorem RowAt.mdD {α : Type} {w w' : World} {a : Option Addr} {size : Nat} {enc : α → List Value} {l : List α} {D : List Nat} (h : RowAt w a size enc l) (hm : Md D w w') (hD : ∀ A, a = some A → A.block ∉ D) : RowAt w' a size enc l := by
  intro i x hx
  obtain ⟨B, hB, hc⟩ := h i x hx
  refine ⟨B, hB, fun j u hu => hm.cell (hc j u hu) ?_⟩
  rw [add_block, add_block]
  exact hD B hB
theorem RowAt.mdE {α : Type} {w w' : World} {a : Option Addr} {size : Nat} {enc : α → List Value} {l : List α} {D : List Nat} (h : RowAt w a size enc l) (hm : Md D w w') (hD : ∀ A, a = some A → l ≠ [] → A.block ∉ D) : RowAt w' a size enc l := by
  cases l with
  | nil => intro i x hx; simp at hx
  | cons x l => exact h.mdD hm fun A hA => hD A hA (by simp)
theorem RowAt.lt {α : Type} {w : World} {a : Option Addr} {size : Nat} {enc : α → List Value} {l : List α} (h : RowAt w a size enc l) (he : Enc size enc) (hs : 0 < size) : ∀ A, a = some A → l ≠ [] → A.block < w.heap.size := by
  intro A hA hne
  obtain ⟨x, l', rfl⟩ := List.exists_cons_of_ne_nil hne
  obtain ⟨B, hB, hc⟩ := h 0 x rfl
  rw [hA] at hB
  cases hB
  have hl := he.len x
  have := cell_lt (hc 0 _ (List.getElem?_eq_getElem (by omega)))
  rw [add_block, add_block] at this
  exact this
theorem add_add (B : Addr) (x y : Nat) : (B.add x).add y = B.add (x + y) := by
  unfold Addr.add
  split <;> split <;> simp_all [Nat.add_assoc]
theorem RowAt.drop {α : Type} {w : World} {A : Option Addr} {size : Nat} {enc : α → List Value} {l : List α} (h : RowAt w A size enc l) (n : Nat) : RowAt w (A.map (·.add (n * size))) size enc (l.drop n) := by
  intro i x hx
  rw [List.getElem?_drop] at hx
  obtain ⟨B, rfl, hc⟩ := h (n + i) x hx
  refine ⟨_, rfl, fun j u hu => ?_⟩
  have := hc j u hu
  rw [show (B.add (n * size)).add (i * size) = B.add ((n + i) * size) by rw [Nat.add_mul]; exact add_add B _ _]
  exact this
theorem slice_rest {P : Program} {t e : TypeId} (ht : P.underlying t = some (.slice e)) (hs : ∀ w, (Go.sizeOf e).run P w = .ok 1 w) (w : World) (a : Option Addr) (n c m : Nat) (h : m ≤ n) :
    (Instr.sliceAt t (.slice a n c) (some (.int .i64 (m : Int))) none none).run P w = .ok (.slice (if c = m then a else a.map (·.add (m * 1))) (n - m) (c - m)) w := by
  have he : P.elem t = e := by simp [Program.elem, ht]
  have ht' : P.underlying t = some (.slice (P.elem t)) := by rw [he]; exact ht
  rw [run_sliceAt_slice w t _ _ _ _ ht', run_slice_l w t a n c ht' .i64 m (by omega) (by omega), he, hs w]
  simp [Result.andThen, sliced]
def takeO (o : Option (List Nat)) (m : Nat) : List Nat × Option (List Nat) := match o with
  | none => (List.replicate m 0, none)
  | some r => if r.length < m then (List.replicate m 0, none) else (r.take m, some (r.drop m))
theorem takeO_len (o : Option (List Nat)) (m : Nat) : (takeO o m).1.length = m := by
  unfold takeO
  split
  · simp
  · split
    · simp
    · simp; omega
def CuAt (w : World) (n : Nat) (o : Option (List Nat)) (tl : List Value) : Prop :=
  ∃ (r : List Nat) (off : Bool) (a : Option Addr) (c : Nat), o = (if off = true then none else some r) ∧ Blk w n 209 (.slice a r.length c :: .bool off :: tl) ∧ RowAt w a 1 b1 r ∧ r.length ≤ c ∧ (∀ A, a = some A → r ≠ [] → A.block < n)
theorem f217_ok (n : Nat) (o : Option (List Nat)) (tl : List Value) (m : Nat) (hm : m ≤ 256) (w : World) (h : CuAt w n o tl) :
    Ct Try.prog 217 #[.pointer (some ⟨n, 0, none⟩), .int .i64 m] w fun v w' => (∃ a c, v = .slice a m c ∧ RowAt w' a 1 b1 (takeO o m).1 ∧ m ≤ c ∧ CuAt w' n (takeO o m).2 tl) ∧ Md [n] w w' := by
  obtain ⟨r, off, a, c, rfl, hb, hr, hc, ha⟩ := h
  apply f217_in
  have c0 : w.cell? ⟨n, 0, none⟩ = some (.slice a r.length c) := hb.cell rfl
  have c1 : w.cell? ⟨n, 1, none⟩ = some (.bool off) := hb.cell rfl
  refine Ld_in (by rw [Addr.add_lit]; exact c1) <| opB_in ⟨fun _ => rfl, Bd_in fun A5 hA5 => ?_⟩
  have hA5' : A5 = ⟨n, 0, none⟩ := hA5
  subst hA5'
  refine Gd_to (fun u w' => (off = false → u = (a, r.length, c)) ∧ w' = w) (fun u w12 hJ => ?_) (fun fin hc => Ld_in (by rw [Addr.add_lit]; exact c0) <| opL_in <| fin _ _ ⟨fun _ => rfl, rfl⟩) (fun hc => ⟨fun h => by simp [h] at hc, rfl⟩)
  obtain ⟨hu, rfl⟩ := hJ
  refine Bd_in fun x13 hx13 => Bd_in fun b14 hb14 => Bd_in fun b15 hb15 => If_in (fun h => ?_) fun h => ?_
  · have hno : (if off = true then none else some r : Option (List Nat)) = none ∨ r.length < m := by
      cases ho : off with
      | true => left; rfl
      | false =>
        right
        rw [hb15, hb14, hx13, hu ho, ho] at h
        simpa using h
    have ht : takeO (if off = true then none else some r) m = (List.replicate m 0, none) := by
      rcases hno with h | h
      · rw [h]; rfl
      · cases off
        · simp [takeO, h]
        · rfl
    refine ⟨by simp, by rw [Addr.add_lit]; exact hb.wr (by simp), ?_⟩
    rw [Addr.add_lit, Nat.zero_add]
    have hb2 := hb.set (j := 1) (by simp) (.bool true)
    have hm2 := Md_setCells (w := w12) n 1 [.bool true]
    generalize setCells w12 ⟨n, 1, none⟩ 0 [.bool true] = w2 at *
    have h5 : (Try.prog.info? 5).isSome = true := by kernel_rfl
    obtain ⟨i5, hi5⟩ := Option.isSome_iff_exists.1 h5
    have hz5 : (Try.prog.info? 5).bind (·.zero) = some (.int .u8 0) := by kernel_rfl
    have hs5 : (Try.prog.info? 5).map (fun i => (i.size, i.bytes)) = some (1, 1) := by kernel_rfl
    rw [hi5] at hz5 hs5
    simp only [Option.bind_some, Option.map_some, Option.some.injEq, Prod.mk.injEq] at hz5 hs5
    obtain ⟨w3, hrun, hown, hgr⟩ := run_makeSlice_full (P := Try.prog) w2 w2.heap.size 51 5 i5 (.int .u8 0) 1 (by kernel_rfl) hi5 hz5 hs5.1 .i64 .i64 m (by omega) (by rw [hs5.2]; omega) (by simp [maxLen]; omega) (Nat.le_refl _)
    have hm3 : Md [] w2 w3 := Md_of_grown hgr
    refine RunW_in hrun (fun b hb => by simp at hb) <| opL_in ⟨⟨_, _, rfl, ?_, Nat.le_refl _, ?_⟩, hm2.trans (hm3.mono (by simp))⟩
    · rw [ht]
      have hmc : (madeCells (Value.int .u8 0).cells (m * 1)).toList = (List.replicate m 0).flatMap b1 := by
        have hl : ∀ k : Nat, (List.replicate k (0 : Nat)).flatMap b1 = List.replicate k (Value.int .u8 0) := by
          intro k; induction k with
          | zero => rfl
          | succ k ih => rw [List.replicate_succ, List.flatMap_cons, ih]; rfl
        rw [hl, Nat.mul_one]
        exact toList_madeCells_one _ m
      have hl2 := hown.lt _ rfl
      have ho : OwnL w3 w2.heap.size 5 1 b1 (some ⟨w2.heap.size, 0, none⟩) m (List.replicate m 0) := by
        unfold OwnL
        rw [← hmc, List.length_replicate]; exact hown
      exact ho.row encb1
    · rw [ht]
      refine ⟨r, true, a, c, rfl, hb2.md hm3 (by simp), (hr.mdE hm2 fun A hA hne => ?_).md hm3, hc, ha⟩
      have := ha A hA hne
      simp; omega
  · have hoff : off = false ∧ m ≤ r.length := by
      rw [hb15] at h
      cases ho : off with
      | true => rw [ho] at h; simp at h
      | false =>
        rw [hb14, hx13, hu ho, ho] at h
        exact ⟨rfl, by simpa using h⟩
    obtain ⟨rfl, hml⟩ := hoff
    have ht : takeO (if false = true then none else some r) m = (r.take m, some (r.drop m)) := by
      simp [takeO]; omega
    refine Ld_in (by rw [Addr.add_lit]; exact c0) <| opL_in <| RunW_in0 (slice_front (e := 5) (by kernel_rfl) (fun w => ⟨1, size5 w⟩) _ _ _ _ _ (by omega)) <| opL_in <| Ld_in (by rw [Addr.add_lit]; exact c0) <| opL_in <| RunW_in0 (slice_rest (e := 5) (by kernel_rfl) size5 _ _ _ _ _ hml) <| opL_in ⟨by simp, by rw [Addr.add_lit]; exact hb.wr (by simp), ?_⟩
    rw [Addr.add_lit, Nat.zero_add]
    have hb2 := hb.set (j := 0) (by simp) (.slice (if c = m then a else a.map (·.add (m * 1))) (r.length - m) (c - m))
    have hm2 := Md_setCells (w := w12) n 0 [.slice (if c = m then a else a.map (·.add (m * 1))) (r.length - m) (c - m)]
    generalize setCells w12 ⟨n, 0, none⟩ 0 [.slice (if c = m then a else a.map (·.add (m * 1))) (r.length - m) (c - m)] = w2 at *
    have hn : ∀ A, a = some A → r ≠ [] → A.block ∉ [n] := by intro A hA hne; have := ha A hA hne; simp; omega
    have hnt : r.take m ≠ [] → r ≠ [] := by rintro h rfl; simp at h
    have hnd : r.drop m ≠ [] → r ≠ [] := by rintro h rfl; simp at h
    rw [ht]
    refine ⟨⟨a, c, rfl, (hr.take m).mdE hm2 (fun A hA hne => hn A hA (hnt hne)), by omega, ?_⟩, hm2⟩
    refine ⟨r.drop m, false, if c = m then a else a.map (·.add (m * 1)), c - m, rfl, ?_, ?_, by simp; omega, ?_⟩
    · have hls : (r.drop m).length = r.length - m := by simp
      rw [hls]
      exact hb2
    · have hd := (hr.drop m).mdE hm2 (by
        intro A hA hne
        cases a with
        | none => cases hA
        | some B => simp at hA; subst hA; rw [add_block]; exact hn B rfl (hnd hne))
      split
      · rename_i hcm
        have : r.drop m = [] := List.drop_of_length_le (by omega)
        rw [this]
        intro i x hx; simp at hx
      · exact hd
    · intro A hA hne
      split at hA
      · exact ha A hA (hnd hne)
      · cases a with
        | none => cases hA
        | some B => simp at hA; subst hA; rw [add_block]; exact ha B rfl (hnd hne)
def oneO (o : Option (List Nat)) : Nat × Option (List Nat) := ((takeO o 1).1.headD 0, (takeO o 1).2)
def pairO (o : Option (List Nat)) : Nat × Option (List Nat) := ((takeO o 2).1.headD 0 * 256 + ((takeO o 2).1.getD 1 0), (takeO o 2).2)
def okO (o : Option (List Nat)) : Prop := ∀ r, o = some r → ∀ x ∈ r, x < 256
theorem okO.take {o : Option (List Nat)} (h : okO o) (m : Nat) : okO (takeO o m).2 ∧ ∀ x ∈ (takeO o m).1, x < 256 := by
  cases o with
  | none => exact ⟨fun r hr => (by cases hr), fun x hx => by simp [takeO] at hx; omega⟩
  | some r =>
    unfold takeO
    by_cases hl : r.length < m
    · simp only [hl, if_true]
      exact ⟨fun r hr => (by cases hr), fun x hx => by simp at hx; omega⟩
    · simp only [hl, if_false]
      exact ⟨fun r' hr => (by cases hr; exact fun x hx => h r rfl x (List.mem_of_mem_drop hx)), fun x hx => h r rfl x (List.mem_of_mem_take hx)⟩
theorem okO.one {o : Option (List Nat)} (h : okO o) : okO (oneO o).2 ∧ (oneO o).1 < 256 := by
  obtain ⟨h1, h2⟩ := h.take 1
  refine ⟨h1, ?_⟩
  have hl := takeO_len o 1
  unfold oneO
  match hx : (takeO o 1).1, hl with
  | [x], _ => rw [hx] at h2; exact h2 x (by simp)
theorem f158_ok (n : Nat) (o : Option (List Nat)) (ho : okO o) (tl : List Value) (w : World) (h : CuAt w n o tl) :
    Ct Try.prog 158 #[.pointer (some ⟨n, 0, none⟩)] w fun v w' => (v = .int .i64 (oneO o).1 ∧ CuAt w' n (oneO o).2 tl) ∧ Md [n] w w' := by
  apply f158_in
  refine (f217_ok n o tl 1 (by omega) w h).callD (D := [n]) (by simp) (by simp) ?_
  rintro v w' ⟨a, c, rfl, hr, hc, hcu⟩ h'
  have hl := takeO_len o 1
  have h2 := (ho.one).2
  unfold oneO at h2 ⊢
  match hx : (takeO o 1).1, hl with
  | [x], _ =>
    rw [hx] at h2 hr
    simp only [List.headD_cons] at h2
    refine opL_in ⟨hr.ix (i := 0) (by simp), hr.ld1 (i := 0) (by simp) rfl <| opI_in <| Bd_in fun x8 hx8 => ⟨⟨?_, hcu⟩, h'⟩⟩
    rw [hx8]
    show Value.int .i64 (IntKind.wrap .i64 (x : Int)) = .int .i64 (x : Int)
    rw [wrap_byte h2]
theorem or_byte {x y : Nat} (hx : x < 256) (hy : y < 256) : IntKind.wrap .i64 ((BitVec.toNat (BitVec.ofInt 64 (IntKind.wrap .i64 (IntKind.wrap .i64 (x : Int) * (2 : Int) ^ min 8 64)) ||| BitVec.ofInt 64 (IntKind.wrap .i64 (y : Int))) : Nat) : Int) = ((x * 256 + y : Nat) : Int) := by
  have e1 : IntKind.wrap .i64 (IntKind.wrap .i64 (x : Int) * (2 : Int) ^ min 8 64) = ((x * 256 : Nat) : Int) := by
    rw [wrap_byte hx, show (2 : Int) ^ min 8 64 = 256 by decide, IntKind.wrap_i64]; omega
  rw [e1, wrap_byte hy]
  have e2 : BitVec.toNat (BitVec.ofInt 64 ((x * 256 : Nat) : Int) ||| BitVec.ofInt 64 (y : Int)) = x * 256 + y := by
    rw [BitVec.ofInt_natCast, BitVec.ofInt_natCast, BitVec.toNat_or, BitVec.toNat_ofNat, BitVec.toNat_ofNat, Nat.mod_eq_of_lt (by omega), Nat.mod_eq_of_lt (by omega)]
    have := Nat.two_pow_add_eq_or_of_lt (i := 8) (b := y) (by omega) x
    rw [show 2 ^ 8 = 256 from rfl, Nat.mul_comm] at this
    exact this.symm
  rw [e2, IntKind.wrap_i64]; omega
theorem f159_ok (n : Nat) (o : Option (List Nat)) (ho : okO o) (tl : List Value) (w : World) (h : CuAt w n o tl) :
    Ct Try.prog 159 #[.pointer (some ⟨n, 0, none⟩)] w fun v w' => (v = .int .i64 (pairO o).1 ∧ CuAt w' n (pairO o).2 tl) ∧ Md [n] w w' := by
  apply f159_in
  refine (f217_ok n o tl 2 (by omega) w h).callD (D := [n]) (by simp) (by simp) ?_
  rintro v w' ⟨a, c, rfl, hr, hc, hcu⟩ h'
  have hl := takeO_len o 2
  have h2 := (ho.take 2).2
  have hcu' : CuAt w'.drew n (takeO o 2).2 tl := by
    obtain ⟨r, off, a, c, h1, h2, h3, h4, h5⟩ := hcu
    exact ⟨r, off, a, c, h1, h2, h3.md (Md_drew _), h4, h5⟩
  unfold pairO
  match hx : (takeO o 2).1, hl with
  | [x, y], _ =>
    rw [hx] at hr h2
    have hx' := h2 x (by simp)
    have hy' := h2 y (by simp)
    refine opL_in ⟨fun w2 => Md [] w' w2, Md_drew _, hr.ix (i := 0) (by simp), .int .u8 (x : Int), fun w2 hw => (hr.md hw).ld1 (i := 0) (by simp) rfl rfl, opI_in <| Bd_in fun x12 hx12 => Bd_in fun x13 hx13 => ⟨hr.ix (i := 1) (by simp), .int .u8 (y : Int), fun w2 hw => (hr.md hw).ld1 (i := 1) (by simp) rfl rfl, opI_in <| Bd_in fun x19 hx19 => Bd_in fun x20 hx20 => ⟨⟨?_, hcu'⟩, h'.trans ((Md_drew _).mono (by simp))⟩⟩⟩
    rw [hx20, hx19, hx13, hx12, or_byte hx' hy']
    rfl
end Fk
set_option linter.unusedVariables false
set_option linter.unusedSimpArgs false
set_option maxRecDepth 100000
namespace Fk
open Go Go.Proofs Go.RowKit
section
variable {H : Type} {enc : TypeId × Value → H} {w : World} {base : Nat} {spare : Nat → Bool} {held : Bool} {fuel : Nat} {cs : List Value} {x : DataW H × List MemPlace}
theorem str_cs {t : TypeId} (ht : Try.prog.underlying t = some .string) (h : DataW.trod enc Try.prog w base spare held fuel t cs = some x) : ∃ s : ByteArray, cs = [.string s] ∧ s.size ≤ maxLen := by
  cases fuel with
  | zero => simp [DataW.trod] at h
  | succ m =>
    unfold DataW.trod at h
    rw [ht] at h
    split at h <;> simp_all
end
end Fk
set_option linter.unusedVariables false
namespace Fk
open Go Go.RowKit
theorem Bd_e {α : Type} {x y : α} {K : α → Prop} (h : x = y) (k : K y) : Bd x K := Bd_in fun z hz => by rw [hz, h]; exact k
theorem Gd_t {α : Type} {d : α} {op : (α → World → Prop) → Prop} {K : α → World → Prop} {w : World} (h : op K) : Gd true d op K w := ⟨fun _ => h, fun e => by cases e⟩
theorem Good.of {L : List Nat} {w0 w1 w : World} (h : Md [] w0 w1) (g : Good L w1 w) : Good L w0 w := ⟨h.trans g.1, g.2⟩
end Fk
set_option linter.unusedVariables false
set_option linter.unusedSimpArgs false
set_option maxRecDepth 100000
namespace Fk
open Go Go.Proofs Go.RowKit
structure Ns where
  k : Int
  s1 : Int
  s2 : Int
  s3 : Int
  s4 : Int
  a : Int
  b : Int
  t : Int
  deriving DecidableEq
def nsE (x : Ns) : List Value := [.int .u8 x.k, .int .u64 x.s1, .int .u64 x.s2, .int .u64 x.s3, .int .u64 x.s4, .int .i64 x.a, .int .i64 x.b, .int .i64 x.t]
abbrev Ns.v (x : Ns) : Value := .agg #[.int .u8 x.k, .int .u64 x.s1, .int .u64 x.s2, .int .u64 x.s3, .int .u64 x.s4, .int .i64 x.a, .int .i64 x.b, .int .i64 x.t]
theorem encNs : Enc 8 nsE := ⟨fun _ => rfl, by intro x v hv; simp [nsE] at hv; rcases hv with rfl | rfl | rfl | rfl | rfl | rfl | rfl | rfl <;> rfl⟩
/-- A struct, field by field: each one's type, place, and whether both have the same there. -/
theorem run_structN {P : Program} {w : World} {t : TypeId} (ht : P.underlying t = some (.struct (P.fieldsOf t))) (hp : P.stoodInHeld t = false) {d : Nat} {xs ys : Array Value} (rs : List (TypeId × Nat × Bool))
    (hF : fieldsL P t = rs.map fun p => (false, p.1, p.2.1))
    (h : ∀ p ∈ rs, ∃ a b, (part p.1 xs p.2.1).run P w = .ok a w ∧ (part p.1 ys p.2.1).run P w = .ok b w ∧ (Op.equalIn d p.1 a b).run P w = .ok p.2.2 w) :
    (Op.equalIn (d + 1) t (.agg xs) (.agg ys)).run P w = .ok (rs.all fun p => p.2.2) w := by
  rw [run_equalIn_struct w d t xs ys ht hp]
  unfold fieldsL at hF
  generalize P.fieldsOf t = fs at hF ⊢
  obtain ⟨l⟩ := fs
  show (Op.eqFields d xs ys l).run P w = _
  simp only at hF
  induction l generalizing rs with
  | nil =>
    cases rs with
    | nil => simp [Op.eqFields]
    | cons p rs => simp at hF
  | cons f l ih =>
    cases rs with
    | nil => simp at hF
    | cons p rs =>
      simp only [List.map_cons, List.cons.injEq, Prod.mk.injEq, decide_eq_false_iff_not] at hF
      obtain ⟨⟨n1, n2, n3⟩, hF⟩ := hF
      obtain ⟨a, b, h1, h2, h3⟩ := h p (by simp)
      rw [← n2] at h1 h2 h3
      rw [← n3] at h1 h2
      have := run_eqFields_cons (d := d) n1 h1 h2 h3 (ih rs (fun p hp => h p (by simp [hp])) hF)
      rw [this, List.all_cons]
theorem size28 (w : World) : (Go.sizeOf 28).run Try.prog w = .ok 4 w := by
  have h : (Try.prog.info? 28).map (·.size) = some 4 := by kernel_rfl
  cases hi : Try.prog.info? 28 with
  | none => rw [hi] at h; cases h
  | some i => rw [hi] at h; simp [Go.sizeOf, typeInfo, hi]; simpa using h
theorem eq103 (x y : Ns) (w : World) (o1 o2 : Operand) : (eqS .neq 103 o1 o2 x.v y.v).run Try.prog w = .ok (.bool (!decide (x = y))) w := by
  have u28 : Try.prog.underlying 28 = some (.array 4 26) := by kernel_rfl
  have u3 : Try.prog.underlying 3 = some (.int .i64) := by kernel_rfl
  have u5 : Try.prog.underlying 5 = some (.int .u8) := by kernel_rfl
  have a28 : isAggT Try.prog 28 = true := by kernel_rfl
  have a3 : isAggT Try.prog 3 = false := by kernel_rfl
  have a5 : isAggT Try.prog 5 = false := by kernel_rfl
  have h26 : (Try.prog.info? 26).isSome = true := by kernel_rfl
  obtain ⟨i26, hi26⟩ := Option.isSome_iff_exists.1 h26
  have e28 := run_equal_ints (P := Try.prog) (w := w) (t := 28) (e := 26) (q := .u64) (n := 4) u28 hi26 (by kernel_rfl) (by kernel_rfl) .u64 [x.s1, x.s2, x.s3, x.s4] [y.s1, y.s2, y.s3, y.s4] rfl rfl 9997
  have eI := fun (p q : Int) => EqT.int (P := Try.prog) (t := 3) (q := .i64) u3 .i64 9999 w p q (by omega)
  have eB := EqT.int (P := Try.prog) (t := 5) (q := .u8) u5 .u8 9999 w x.k y.k (by omega)
  have h := run_structN (P := Try.prog) (w := w) (t := 103) (by kernel_rfl) (by kernel_rfl) (d := 9999) (xs := #[.int .u8 x.k, .int .u64 x.s1, .int .u64 x.s2, .int .u64 x.s3, .int .u64 x.s4, .int .i64 x.a, .int .i64 x.b, .int .i64 x.t])
    (ys := #[.int .u8 y.k, .int .u64 y.s1, .int .u64 y.s2, .int .u64 y.s3, .int .u64 y.s4, .int .i64 y.a, .int .i64 y.b, .int .i64 y.t])
    [(5, 0, decide (x.k = y.k)), (28, 1, decide ([x.s1, x.s2, x.s3, x.s4] = [y.s1, y.s2, y.s3, y.s4])), (3, 5, decide (x.a = y.a)), (3, 6, decide (x.b = y.b)), (3, 7, decide (x.t = y.t))] (by kernel_rfl) (by
      intro p hp
      simp only [List.mem_cons, List.not_mem_nil, or_false] at hp
      rcases hp with rfl | rfl | rfl | rfl | rfl
      · exact ⟨_, _, part_cell u5 a5 rfl, part_cell u5 a5 rfl, eB⟩
      · exact ⟨_, _, part_agg u28 a28 (size28 w), part_agg u28 a28 (size28 w), e28⟩
      · exact ⟨_, _, part_cell u3 a3 rfl, part_cell u3 a3 rfl, eI _ _⟩
      · exact ⟨_, _, part_cell u3 a3 rfl, part_cell u3 a3 rfl, eI _ _⟩
      · exact ⟨_, _, part_cell u3 a3 rfl, part_cell u3 a3 rfl, eI _ _⟩)
  have := (eqS_of (by kernel_rfl) h o1 o2).2
  rw [this]
  congr 3
  clear this h eB eI e28
  cases x; cases y
  simp only [List.all_cons, List.all_nil, Ns.mk.injEq, List.cons.injEq]
  rw [Bool.eq_iff_iff]
  simp only [Bool.and_eq_true, decide_eq_true_eq, and_true]
  omega
end Fk
