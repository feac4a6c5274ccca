/- The disk and the reference's disk go the same way. -/
import Derived.Test.YtpgjpgecgibklaaE14
set_option linter.unusedVariables false
set_option linter.unusedSimpArgs false
set_option maxRecDepth 100000
namespace Fk
open Go Go.Proofs Go.RowKit
structure FroN (n : Nat) (d : Dk) : Prop where
  len : d.bl.length = n
  ok : ∀ k (h : k < d.pd.length), d.pd[k].i < n ∧ getB (front d (k + 1)) d.pd[k].i = d.pd[k].now
theorem FroN.put {n : Nat} {d : Dk} (h : FroN n d) {i : Nat} (hi : i < n) (b : Bk) : FroN n (d.put i b) := by
  have hl := h.len
  refine ⟨by simp [Dk.put, hl], fun k hk => ?_⟩
  have hpl : (d.put i b).pd.length = d.pd.length + 1 := by simp [Dk.put]
  rcases Nat.lt_or_ge k d.pd.length with h1 | h1
  · have e : (d.put i b).pd[k] = d.pd[k] := by simp [Dk.put, List.getElem_append_left h1]
    rw [e, front_put b (by omega) (by omega)]
    exact h.ok k h1
  · have hk' : k = d.pd.length := by omega
    subst hk'
    have e : (d.put i b).pd[d.pd.length] = ⟨i, b, getB d.bl i⟩ := by simp [Dk.put]
    rw [e, ← hpl, front_last]
    refine ⟨hi, ?_⟩
    show getB (d.bl.set i b) i = b
    rw [getB_set _ _ _ _ (by omega), if_pos rfl]
def stB (b : Bk) : ByteArray := bytesOf b.1
def wq (x : Wt) : Int × ByteArray := ((x.i : Int), stB x.now)
def setW (bl : List Bk) (q : Wt) : List Bk := bl.set q.i q.now
theorem keptL_map (l : List Wt) : ∀ bl : List Bk, keptL (bl.map stB) (l.map wq) = (l.foldl setW bl).map stB := by
  induction l with
  | nil => intro bl; rfl
  | cons q l ih =>
    intro bl
    rw [List.foldl_cons, ← ih]
    show (List.map wq l).foldl _ ((bl.map stB).set _ _) = _
    unfold keptL setW
    rw [List.map_set]; rfl
theorem fwd {n : Nat} {d : Dk} (h : FroN n d) : ∀ k, k ≤ d.pd.length → (d.pd.take k).foldl setW (front d 0) = front d k
  | 0, _ => rfl
  | k + 1, hk => by
    have hk' : k < d.pd.length := hk
    obtain ⟨h1, h2⟩ := h.ok k hk'
    have hfl := front_len d (k + 1)
    have hlen := h.len
    rw [List.take_succ_eq_append_getElem hk', List.foldl_append, fwd h k (by omega)]
    show (front d k).set _ _ = _
    rw [front_step hk', List.set_set, ← h2, getB_eq (by omega), List.set_getElem_self]
structure RelD (n : Nat) (d : Dk) (x : Rf) : Prop where
  fro : FroN n d
  rf : x.rf = d.rf
  rg : 0 ≤ d.rf
  pe : x.pe = d.pd.map wq
  sf : x.sf = (front d 0).map stB
section
variable {n : Nat} {d : Dk} {x : Rf}
theorem RelD.slen (h : RelD n d x) : x.sf.length = n := by rw [h.sf, List.length_map, front_len, h.fro.len]
theorem RelD.plen (h : RelD n d x) : x.pe.length = d.pd.length := by rw [h.pe, List.length_map]
theorem RelD.kept (h : RelD n d x) {k : Nat} (hk : k ≤ d.pd.length) : keptL x.sf (x.pe.take k) = (front d k).map stB := by
  rw [h.sf, h.pe, ← List.map_take, keptL_map, fwd h.fro k hk]
theorem RelD.keptA (h : RelD n d x) : keptL x.sf x.pe = d.bl.map stB := by
  have := h.kept (Nat.le_refl d.pd.length)
  rw [List.take_of_length_le (by rw [h.plen]; exact Nat.le_refl _), front_last] at this
  exact this
theorem RelD.hin (h : RelD n d x) : ∀ q ∈ x.pe, 0 ≤ q.1 ∧ q.1 < x.sf.length := by
  intro q hq
  rw [h.pe] at hq
  obtain ⟨y, hy, rfl⟩ := List.mem_map.1 hq
  obtain ⟨k, hk, rfl⟩ := List.getElem_of_mem hy
  have := (h.fro.ok k hk).1
  rw [h.slen]
  simp only [wq]
  omega
theorem stB_size (b : Bk) : (stB b).size = 64 := by unfold stB; rw [size_bytesOf, b.2.1]
theorem RelD.q64 (h : RelD n d x) : ∀ q ∈ x.pe, q.2.size = 64 := by
  intro q hq
  rw [h.pe] at hq
  obtain ⟨y, hy, rfl⟩ := List.mem_map.1 hq
  exact stB_size _
theorem RelD.s64 (h : RelD n d x) : ∀ s ∈ x.sf, s.size = 64 := by
  intro q hq
  rw [h.sf] at hq
  obtain ⟨y, hy, rfl⟩ := List.mem_map.1 hq
  exact stB_size _
theorem has_kept (i : Nat) : ∀ (l : List (Int × ByteArray)) (sf : List ByteArray), (∀ q ∈ l, 0 ≤ q.1 ∧ q.1 < sf.length) → l.foldl (fun s q => if q.1 = (i : Int) then q.2 else s) (sf.getD i ByteArray.empty) = (keptL sf l).getD i ByteArray.empty
  | [], sf, _ => rfl
  | q :: l, sf, h => by
    obtain ⟨h1, h2⟩ := h q (by simp)
    obtain ⟨j, hj⟩ := Int.eq_ofNat_of_zero_le h1
    have := has_kept i l (sf.set q.1.toNat q.2) (fun q hq => by rw [List.length_set]; exact h q (by simp [hq]))
    rw [List.foldl_cons]
    show _ = (keptL (sf.set q.1.toNat q.2) l).getD i ByteArray.empty
    rw [← this]
    congr 1
    rw [hj]
    simp only [Int.toNat_natCast, List.getD_eq_getElem?_getD, List.getElem?_set]
    by_cases hij : j = i
    · subst hij
      have : j < sf.length := by omega
      simp [this]
    · have : ¬ ((j : Int) = (i : Int)) := by omega
      simp [hij, this]
theorem RelD.has (h : RelD n d x) {i : Nat} (hi : i < n) : x.has i = stB (getB d.bl i) := by
  have hl := h.fro.len
  unfold Rf.has
  rw [has_kept i x.pe x.sf h.hin, h.keptA, getB_eq (by omega)]
  simp [hl, hi]
theorem bytesOf_app (a b : List Nat) : bytesOf (a ++ b) = bytesOf a ++ bytesOf b := by
  apply ByteArray.ext
  apply Array.toList_inj.1
  simp [bytesOf]
theorem RelD.all (h : RelD n d x) : x.all x.sf.length = bytesOf d.all := by
  have hl := h.fro.len
  have : ∀ k, k ≤ n → x.all k = bytesOf (bytesB (d.bl.take k)) := by
    intro k
    induction k with
    | zero => intro _; rfl
    | succ k ih =>
      intro hk
      have hk' : k < d.bl.length := by omega
      have e : x.all (k + 1) = x.all k ++ x.has k := by unfold Rf.all; rw [List.range_succ, List.foldl_append]; rfl
      rw [e, ih (by omega), h.has (by omega), bytesB_take hk', bytesOf_app, getB_eq hk']; rfl
  rw [h.slen, this n (Nat.le_refl n), List.take_of_length_le (by omega)]; rfl
theorem front_eq {d e : Dk} (h1 : d.bl = e.bl) (h2 : d.pd = e.pd) (j : Nat) : front d j = front e j := by unfold front; rw [h1, h2]
theorem RelD.with (h : RelD n d x) {e : Dk} {y : Rf} (h1 : e.bl = d.bl) (h2 : e.pd = d.pd) (h3 : y.sf = x.sf) (h4 : y.pe = x.pe) (h5 : y.rf = e.rf) (h6 : 0 ≤ e.rf) : RelD n e y := by
  obtain ⟨⟨l, o⟩, _, _, p, s⟩ := h
  cases d; cases e
  simp only at h1 h2
  subst h1; subst h2
  exact ⟨⟨l, o⟩, h5, h6, h4.trans p, h3.trans s⟩
theorem RelD.step (h : RelD n d x) : RelD n d.stepD.1 x.step.1 ∧ d.stepD.2 = x.step.2 := by
  obtain ⟨b1, b2⟩ := stepD_bl d
  obtain ⟨c1, c2⟩ := x.step_sf
  have hr := h.rf
  have hg := h.rg
  have e : x.step.1.rf = d.stepD.1.rf ∧ 0 ≤ d.stepD.1.rf ∧ d.stepD.2 = x.step.2 := by
    unfold Rf.step Dk.stepD
    by_cases h0 : d.rf > 0
    · rw [if_pos h0, if_neg (by omega)]
      refine ⟨by simp only; omega, by simp only; omega, ?_⟩
      rw [Bool.eq_iff_iff]; simp; omega
    · rw [if_neg h0, if_pos (by omega)]
      exact ⟨hr, hg, rfl⟩
  exact ⟨h.with b1 b2 c1 c2 e.1 e.2.1, e.2.2⟩
theorem RelD.write (h : RelD n d x) (i : Int) (b : List Nat) (hb : ∀ z ∈ b, z < 256) : RelD n (d.write i b).1 (x.write i b).1 ∧ (d.write i b).2 = (x.write i b).2 := by
  obtain ⟨hs, he⟩ := h.step
  have hl := h.fro.len
  have hsl := h.slen
  unfold Dk.write Rf.write
  by_cases hv : 0 ≤ i ∧ i < (n : Int) ∧ b.length = 64
  · rw [if_neg (show ¬ ¬ (0 ≤ i ∧ i < (d.bl.length : Int) ∧ b.length = 64) by rw [hl]; exact fun hh => hh hv), if_neg (show ¬ ¬ (0 ≤ i ∧ i < (x.sf.length : Int) ∧ b.length = 64) by rw [hsl]; exact fun hh => hh hv)]
    rw [← he]
    by_cases h2 : d.stepD.2 = true
    · rw [if_pos h2, if_pos h2]
      refine ⟨?_, rfl⟩
      generalize hd : d.stepD.1 = e at *
      have hel := hs.fro.len
      have hi : i.toNat < n := by omega
      refine ⟨hs.fro.put hi _, hs.rf, hs.rg, ?_, ?_⟩
      · have e1 : x.step.1.pe = x.pe := x.step_sf.2
        show x.pe ++ _ = List.map wq (e.pd ++ [(⟨i.toNat, mkBk b, getB e.bl i.toNat⟩ : Wt)])
        rw [List.map_append, ← hs.pe, e1]
        simp only [List.map_cons, List.map_nil, wq, stB, mkBk_val hv.2.2 hb]
        rw [Int.toNat_of_nonneg hv.1]
      · rw [front_put _ (by omega) (by omega)]; exact hs.sf
    · rw [if_neg h2, if_neg h2]
      exact ⟨hs, rfl⟩
  · rw [if_pos (show ¬ (0 ≤ i ∧ i < (d.bl.length : Int) ∧ b.length = 64) by rw [hl]; exact hv), if_pos (show ¬ (0 ≤ i ∧ i < (x.sf.length : Int) ∧ b.length = 64) by rw [hsl]; exact hv)]
    exact ⟨h, rfl⟩
theorem RelD.clr (h : RelD n d x) {bl : List Bk} (hb : bl.length = n) (r : Int) (hr : 0 ≤ r) {sf : List ByteArray} (hs : sf = bl.map stB) : RelD n ⟨bl, [], r⟩ ⟨sf, [], r⟩ := ⟨⟨hb, fun k hk => by simp at hk⟩, rfl, hr, rfl, hs⟩
theorem RelD.flush (h : RelD n d x) : RelD n d.flush.1 x.flush.1 ∧ d.flush.2 = x.flush.2 := by
  obtain ⟨hs, he⟩ := h.step
  obtain ⟨b1, b2⟩ := stepD_bl d
  unfold Dk.flush Rf.flush
  rw [← he]
  by_cases h2 : d.stepD.2 = true
  · rw [if_pos h2, if_pos h2]
    refine ⟨?_, rfl⟩
    have := h.clr (bl := d.stepD.1.bl) (by rw [b1]; exact h.fro.len) d.stepD.1.rf hs.rg (sf := keptL x.sf x.pe) (by rw [b1]; exact h.keptA)
    rw [hs.rf]
    exact this
  · rw [if_neg h2, if_neg h2]
    exact ⟨hs, rfl⟩
theorem RelD.arm (h : RelD n d x) (m : Int) : RelD n (d.arm m) (x.arm m) := h.with rfl rfl rfl rfl (by simp only [Rf.arm, Dk.arm]; split <;> omega) (by simp only [Dk.arm]; omega)
theorem st_mix {t : Nat} (ht : t ≤ 64) (a b : Bk) : stB (mixB t a b) = mixS (stB a) (stB b) t := by
  have ha := a.2.1
  have hb := b.2.1
  unfold stB mixS
  rw [size_bytesOf, bytesOf_ext, bytesOf_ext, ← bytesOf_app]
  show bytesOf (a.1.take t ++ b.1.drop t) = _
  rw [List.drop_zero, Nat.sub_zero, List.take_of_length_le (l := b.1.drop t) (by rw [List.length_drop]; exact Nat.le_refl _)]
theorem RelD.crash (h : RelD n d x) (keep torn : Int) : RelD n (d.crash keep torn) (x.crash keep torn) := by
  have hl := h.fro.len
  have hpl := h.plen
  generalize htt : min torn.toNat 64 = t
  have ht : t ≤ 64 := by omega
  unfold Dk.crash Rf.crash
  rw [htt, hpl]
  rcases Nat.lt_or_ge keep.toNat d.pd.length with hk | hk
  · generalize hkk : keep.toNat = k at *
    rw [show min k d.pd.length = k by omega]
    obtain ⟨o1, o2⟩ := h.fro.ok k hk
    have hfl := front_len d k
    have hfl1 := front_len d (k + 1)
    have ecr : d.crB k t k = (front d k).set d.pd[k].i (mixB t d.pd[k].now d.pd[k].was) := by
      unfold Dk.crB front
      rw [List.drop_eq_getElem_cons hk]
      simp
    have hxk : k < x.pe.length := by omega
    have exk : x.pe[k] = wq d.pd[k] := by simp [h.pe]
    rw [List.drop_eq_getElem_cons hxk, h.kept (by omega), ecr, exk]
    refine h.clr (by rw [List.length_set]; omega) 0 (by omega) ?_
    have ew : getB (front d k) d.pd[k].i = d.pd[k].was := by rw [front_step hk, getB_set _ _ _ _ (by omega), if_pos rfl]
    have hlt : d.pd[k].i < (front d k).length := by omega
    rw [getB_eq hlt] at ew
    rw [List.map_set, st_mix ht]
    simp only [wq, Int.toNat_natCast]
    simp only [List.getD_eq_getElem?_getD, List.getElem?_map, List.getElem?_eq_getElem hlt, Option.map_some, Option.getD_some, ew]
  · rw [Nat.min_eq_right hk]
    have ecr : d.crB keep.toNat t keep.toNat = d.bl := by
      unfold Dk.crB
      rw [List.drop_of_length_le hk]
    rw [ecr, List.drop_of_length_le (by omega), h.kept (Nat.le_refl _), front_last]
    exact h.clr hl 0 (by omega) rfl
end
theorem rel_new (n : Nat) : RelD n (newDk n) (zRf n) := by
  refine ⟨⟨by simp [newDk], fun k hk => by simp [newDk] at hk⟩, rfl, by simp [newDk], rfl, ?_⟩
  show List.replicate n zStr = (List.replicate n zBk).map stB
  rw [List.map_replicate]; rfl
end Fk
