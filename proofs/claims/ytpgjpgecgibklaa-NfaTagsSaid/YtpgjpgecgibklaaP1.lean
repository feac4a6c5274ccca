/- Plain laws: classes of sets, told without the document's answer. -/
import Derived.Test.YtpgjpgecgibklaaP0
set_option linter.unusedVariables false
set_option linter.unusedSimpArgs false
set_option linter.unusedSectionVars false
set_option maxRecDepth 100000
namespace Fk
open Go Go.Proofs Go.RowKit
theorem num_right {K : Type} [DecidableEq K] : ∀ (ks kn : List K), rightGo (numGo ks kn).1 kn.length = some (numGo ks kn).2.length
  | [], kn => rfl
  | k :: ks, kn => by
    rw [numGo]
    by_cases h : k ∈ kn
    · have := idxK_lt h
      simp only [rightGo]
      rw [if_neg (by omega), if_neg (by omega), addK_old h]
      exact num_right ks kn
    · have := idxK_new h
      simp only [rightGo]
      rw [if_neg (by omega), if_pos (by omega), addK_new h]
      have ih := num_right ks (kn ++ [k])
      simpa using ih
theorem ref_go (l : List Q4) : rightGo (refCl l).f 0 = some (numGo ((List.range 256).map (sig l)) []).2.length := num_right _ []
theorem ref_m (l : List Q4) : (refCl l).m = ((numGo ((List.range 256).map (sig l)) []).2.length : Int) := rfl
theorem ref_right (l : List Q4) : (refCl l).right = true := by
  unfold Cl.right
  rw [ref_go, ref_m]
  simp
theorem sig_iff (l : List Q4) (a b : Nat) : sig l a = sig l b ↔ ∀ q ∈ l, inQ q a = inQ q b := by
  unfold sig
  rw [List.map_inj_left]
theorem num_lab_iff {K : Type} [DecidableEq K] (σ : Nat → K) (n : Nat) {a b : Nat} (ha : a < n) (hb : b < n) : (numGo ((List.range n).map σ) []).1[a]? = (numGo ((List.range n).map σ) []).1[b]? ↔ σ a = σ b := by
  rw [num_at σ n ha, num_at σ n hb]
  constructor
  · intro h
    exact idxK_inj (num_mem σ n ha) (num_mem σ n hb) (Option.some.inj h)
  · intro h; rw [h]
theorem ref_lab_iff (l : List Q4) {a b : Nat} (ha : a < 256) (hb : b < 256) : (refCl l).f[a]? = (refCl l).f[b]? ↔ ∀ q ∈ l, inQ q a = inQ q b := by
  rw [← sig_iff]
  exact num_lab_iff (sig l) 256 ha hb
theorem ref_fits (l : List Q4) (q : Q4) (hq : q ∈ l) : (refCl l).fits q = true := by
  have hok := refCl_ok l
  rw [fits_eq hok]
  unfold Cl.fitsR
  rw [← right_iff hok, ref_right, Bool.true_and, List.all_eq_true]
  rintro ⟨x, b⟩ hp
  rw [List.mem_zipIdx_iff_getElem?] at hp
  have hb : (refCl l).f[b]? = some x := hp
  have hb' := (List.getElem?_eq_some_iff.1 hb).1
  have hlb := least_at hb
  have hg := least_get _ _ (show least (refCl l).f (x : Int) < (refCl l).f.length by omega)
  rw [hok.len] at hb'
  have := (ref_lab_iff l (a := b) (b := least (refCl l).f (x : Int)) hb' (by omega)).1 (by rw [hb, hg]) q hq
  simpa using this
theorem num_many_mono {K K' : Type} [DecidableEq K] [DecidableEq K'] (σ : Nat → K) (τ : Nat → K') (g : K' → K) (n : Nat) (h : ∀ b, b < n → σ b = g (τ b)) :
    (numGo ((List.range n).map σ) []).2.length ≤ (numGo ((List.range n).map τ) []).2.length := by
  have hn := numGo_nodup ((List.range n).map σ) [] (by simp)
  have := nodup_le _ ((numGo ((List.range n).map τ) []).2.map g) hn fun x hx => by
    rcases numGo_sub _ _ _ hx with hx | hx
    · simp at hx
    · obtain ⟨b, hb, rfl⟩ := List.mem_map.1 hx
      have hb' := List.mem_range.1 hb
      exact List.mem_map.2 ⟨τ b, num_mem τ n hb', (h b hb').symm⟩
  simpa using this
theorem ref_many_mono (l l2 : List Q4) : (refCl l).m ≤ (refCl (l ++ l2)).m := by
  rw [ref_m, ref_m]
  have := num_many_mono (sig l) (sig (l ++ l2)) (fun s => s.take l.length) 256 fun b _ => by simp [sig]
  omega
theorem ref_many_pos (l : List Q4) : 1 ≤ (refCl l).m := by
  have h := right_iff (refCl_ok l)
  rw [ref_right] at h
  have := h.symm
  simp only [Cl.rightR, Bool.and_eq_true, decide_eq_true_eq] at this
  omega
/-- The first byte of a class: it is of it, and those below it are of classes ahead. -/
theorem ref_first (l : List Q4) (k : Nat) (hk : (k : Int) < (refCl l).m) : ∃ b : Nat, b < 256 ∧ (refCl l).first k = ((b : Int), true) ∧ (refCl l).f[b]? = some k ∧ ∀ (j x : Nat), j < b → (refCl l).f[j]? = some x → x < k := by
  obtain ⟨_, _, h3⟩ := rightGo_facts _ 0 _ (ref_go l)
  have hc := comes_least (h3 k (by omega) (by rw [ref_m] at hk; omega))
  have hlen := (refCl_ok l).len
  refine ⟨least (refCl l).f k, by omega, ?_, least_get _ _ hc.1, hc.2⟩
  unfold Cl.first
  rw [if_pos ⟨ref_right l, by omega, hk⟩, if_pos (by omega)]
/-- The same sets, in whichever order and however often. -/
theorem num_congr {K K' : Type} [DecidableEq K] [DecidableEq K'] (σ : Nat → K) (τ : Nat → K') (n : Nat) (h : ∀ a b, a < n → b < n → (σ a = σ b ↔ τ a = τ b)) :
    (numGo ((List.range n).map σ) []).1 = (numGo ((List.range n).map τ) []).1 ∧ (numGo ((List.range n).map σ) []).2.length = (numGo ((List.range n).map τ) []).2.length := by
  obtain ⟨ps, hps⟩ : ∃ ps : List (K × K'), ps = (List.range n).map fun b => (σ b, τ b) := ⟨_, rfl⟩
  have e1 : (List.range n).map σ = ps.map Prod.fst := by rw [hps, List.map_map]; exact List.map_congr_left fun _ _ => rfl
  have e2 : (List.range n).map τ = ps.map Prod.snd := by rw [hps, List.map_map]; exact List.map_congr_left fun _ _ => rfl
  have hm : ∀ p ∈ ps, ∃ b, b < n ∧ p = (σ b, τ b) := by
    intro p hp
    rw [hps] at hp
    obtain ⟨b, hb, rfl⟩ := List.mem_map.1 hp
    exact ⟨b, List.mem_range.1 hb, rfl⟩
  have n1 := numGo_map (S := ps) (g := Prod.fst) (fun p hp q hq he => by
    obtain ⟨a, ha, rfl⟩ := hm p hp
    obtain ⟨b, hb, rfl⟩ := hm q hq
    exact Prod.ext he ((h a b ha hb).1 he)) ps [] (fun a h => h) (by simp)
  have n2 := numGo_map (S := ps) (g := Prod.snd) (fun p hp q hq he => by
    obtain ⟨a, ha, rfl⟩ := hm p hp
    obtain ⟨b, hb, rfl⟩ := hm q hq
    exact Prod.ext ((h a b ha hb).2 he) he) ps [] (fun a h => h) (by simp)
  simp only [List.map_nil] at n1 n2
  rw [e1, e2, n1, n2]
  simp
theorem refCl_congr (l l2 : List Q4) (h : ∀ q, q ∈ l ↔ q ∈ l2) : refCl l = refCl l2 := by
  have := num_congr (sig l) (sig l2) 256 fun a b _ _ => by
    rw [sig_iff, sig_iff]
    exact ⟨fun H q hq => H q ((h q).2 hq), fun H q hq => H q ((h q).1 hq)⟩
  unfold refCl
  rw [this.1, this.2]
end Fk
