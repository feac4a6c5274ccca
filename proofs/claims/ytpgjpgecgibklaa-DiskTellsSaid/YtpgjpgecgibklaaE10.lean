/- The fronts of a disk: what stood on it ahead of each pending write; strings cut. -/
import Derived.Test.YtpgjpgecgibklaaE7
import Derived.Laws.Strings2
set_option linter.unusedVariables false
set_option linter.unusedSimpArgs false
set_option maxRecDepth 100000
namespace Fk
open Go Go.Proofs Go.RowKit
/-! ### Strings cut -/
theorem bytesOf_ext (l : List Nat) (a b : Nat) : (bytesOf l).extract a b = bytesOf ((l.drop a).take (b - a)) := by
  apply ByteArray.ext
  apply Array.toList_inj.1
  simp [bytesOf, List.extract_eq_take_drop, List.map_take, List.map_drop]
theorem und9 : Try.prog.underlying 9 = some .string := by kernel_rfl
theorem cut_lh (w : World) (l : List Nat) (x y : Nat) (h : x ≤ y) (h2 : y ≤ l.length) :
    (Instr.sliceAt 9 (.string (bytesOf l)) (some (.int .i64 (x : Int))) (some (.int .i64 (y : Int))) none).run Try.prog w = .ok (.string (bytesOf ((l.drop x).take (y - x)))) w := by
  rw [run_sliceAt_string (h := und9), run_slice_string w 9 (bytesOf l) .i64 .i64 (x : Int) (y : Int) und9 (by omega) (by omega) (by rw [size_bytesOf]; omega), bytesOf_ext]
  simp
theorem cut_h (w : World) (l : List Nat) (y : Nat) (h2 : y ≤ l.length) :
    (Instr.sliceAt 9 (.string (bytesOf l)) none (some (.int .i64 (y : Int))) none).run Try.prog w = .ok (.string (bytesOf (l.take y))) w := by
  rw [run_sliceAt_string (h := und9), run_slice_string_h w 9 (bytesOf l) und9 .i64 (y : Int) (by omega) (by rw [size_bytesOf]; omega), bytesOf_ext]
  simp
theorem cut_l (w : World) (l : List Nat) (x : Nat) (h2 : x ≤ l.length) :
    (Instr.sliceAt 9 (.string (bytesOf l)) (some (.int .i64 (x : Int))) none none).run Try.prog w = .ok (.string (bytesOf (l.drop x))) w := by
  rw [run_sliceAt_string (h := und9), run_slice_string_l w 9 (bytesOf l) und9 .i64 (x : Int) (by omega) (by rw [size_bytesOf]; omega), bytesOf_ext, size_bytesOf, Int.toNat_natCast, List.take_of_length_le (by rw [List.length_drop]; exact Nat.le_refl _)]
theorem bytesB_cut : ∀ (bl : List Bk) (i t m : Nat), i < bl.length → t + m ≤ 64 → ((bytesB bl).drop (64 * i + t)).take m = ((getB bl i).1.drop t).take m
  | [], i, t, m, h, _ => by simp at h
  | b :: r, 0, t, m, h, ht => by
    have hb := b.2.1
    have e : bytesB (b :: r) = b.1 ++ bytesB r := rfl
    have eg : getB (b :: r) 0 = b := rfl
    rw [e, eg, show 64 * 0 + t = t by omega, List.drop_append_of_le_length (by omega), List.take_append_of_le_length (by rw [List.length_drop]; omega)]
  | b :: r, i + 1, t, m, h, ht => by
    have hb := b.2.1
    have e : bytesB (b :: r) = b.1 ++ bytesB r := rfl
    have eg : getB (b :: r) (i + 1) = getB r i := rfl
    have := bytesB_cut r i t m (by simpa using h) ht
    rw [e, eg, List.drop_append, List.drop_of_length_le (by omega), hb, List.nil_append, show 64 * (i + 1) + t - 64 = 64 * i + t by omega, this]
theorem getB_set (l : List Bk) (i j : Nat) (b : Bk) (hi : i < l.length) : getB (l.set i b) j = if i = j then b else getB l j := by
  unfold getB
  rw [List.getD_eq_getElem?_getD, List.getD_eq_getElem?_getD, List.getElem?_set]
  split
  · rename_i h; subst h; simp [hi]
  · rfl
/-! ### Fronts -/
def front (d : Dk) (j : Nat) : List Bk := (d.pd.drop j).foldr undo d.bl
structure Fro (d : Dk) : Prop where
  len : d.bl.length = 8
  rf : d.rf = 0
  ok : ∀ k (h : k < d.pd.length), d.pd[k].i < 8 ∧ getB (front d (k + 1)) d.pd[k].i = d.pd[k].now
theorem front_last (d : Dk) : front d d.pd.length = d.bl := by unfold front; simp
theorem front_step {d : Dk} {k : Nat} (h : k < d.pd.length) : front d k = (front d (k + 1)).set d.pd[k].i d.pd[k].was := by
  unfold front
  rw [List.drop_eq_getElem_cons h]; rfl
theorem front_len (d : Dk) (j : Nat) : (front d j).length = d.bl.length := undo_len _ _
theorem front_put {d : Dk} {i j : Nat} (b : Bk) (hi : i < d.bl.length) (hj : j ≤ d.pd.length) : front (d.put i b) j = front d j := by
  unfold front Dk.put
  simp only
  rw [List.drop_append_of_le_length hj, List.foldr_append]
  congr 1
  show (d.bl.set i b).set i (getB d.bl i) = d.bl
  rw [List.set_set, getB_eq hi, List.set_getElem_self]
theorem Fro.put {d : Dk} (h : Fro d) {i : Nat} (hi : i < 8) (b : Bk) : Fro (d.put i b) := by
  have hl := h.len
  refine ⟨by simp [Dk.put, hl], h.rf, fun k hk => ?_⟩
  have hpl : (d.put i b).pd.length = d.pd.length + 1 := by simp [Dk.put]
  rcases Nat.lt_or_ge k d.pd.length with h1 | h1
  · have e : (d.put i b).pd[k] = d.pd[k] := by simp [Dk.put, List.getElem_append_left h1]
    rw [e, front_put b (by omega) (by omega)]
    exact h.ok k h1
  · have hk' : k = d.pd.length := by omega
    subst hk'
    have e : (d.put i b).pd[d.pd.length] = ⟨i, b, getB d.bl i⟩ := by simp [Dk.put]
    rw [e, ← hpl, front_last]
    refine ⟨hi, ?_⟩
    show getB (d.bl.set i b) i = b
    rw [getB_set _ _ _ _ (by omega), if_pos rfl]
theorem Fro.does {d : Dk} (h : Fro d) {o : Op20} (hk : o.k = 1) : ((d.does o).2 = 0 ∧ ∃ i b, i < 8 ∧ (d.does o).1 = d.put i b) ∨ ((d.does o).2 = 2 ∧ (d.does o).1 = d) := by
  have hs : d.stepD = (d, true) := by unfold Dk.stepD; rw [if_neg (by rw [h.rf]; omega)]
  have hl := h.len
  unfold Dk.does
  rw [if_pos hk]
  by_cases hv : 0 ≤ o.n ∧ o.n < d.bl.length ∧ o.bytes.length = 64
  · left
    unfold Dk.write
    rw [if_neg (fun hh => hh hv), hs]
    exact ⟨rfl, o.n.toNat, mkBk o.bytes, by omega, rfl⟩
  · right
    unfold Dk.write
    rw [if_pos hv]
    exact ⟨rfl, rfl⟩
def frL (d : Dk) : List ByteArray := (List.range (d.pd.length + 1)).map fun j => bytesOf (bytesB (front d j))
theorem frL_len (d : Dk) : (frL d).length = d.pd.length + 1 := by simp [frL]
theorem frL_put {d : Dk} {i : Nat} (b : Bk) (hi : i < d.bl.length) : frL (d.put i b) = frL d ++ [bytesOf (d.put i b).all] := by
  have hpl : (d.put i b).pd.length = d.pd.length + 1 := by simp [Dk.put]
  unfold frL
  rw [hpl, List.range_succ, List.map_append, List.map_singleton, ← hpl, front_last]
  congr 1
  refine List.map_congr_left fun j hj => ?_
  rw [front_put b hi (by simp at hj; omega)]
theorem frL_get {d : Dk} {j : Nat} (hj : j < (frL d).length) : (frL d)[j] = bytesOf (bytesB (front d j)) := by simp [frL]
theorem frL_one {d : Dk} (h : d.pd = []) : frL d = [bytesOf d.all] := by
  unfold frL front Dk.all
  rw [h]; rfl
theorem crash_cut {d : Dk} (h : Fro d) (keep torn : Nat) {j : Nat} (hj : j < 8) :
    (getB (d.crash keep torn).bl j).1.take (min torn 64) = (getB (front d (min (min keep d.pd.length + 1) d.pd.length)) j).1.take (min torn 64) ∧
    (getB (d.crash keep torn).bl j).1.drop (min torn 64) = (getB (front d (min keep d.pd.length)) j).1.drop (min torn 64) := by
  have hl := h.len
  generalize ht : min torn 64 = t
  have ht' : min (torn : Int).toNat 64 = t := by rw [← ht]; simp
  have e : (d.crash keep torn).bl = d.crB keep t keep := by unfold Dk.crash; rw [ht', Int.toNat_natCast]
  rw [e]
  rcases Nat.lt_or_ge keep d.pd.length with hk | hk
  · rw [Nat.min_eq_left (show keep ≤ d.pd.length by omega), Nat.min_eq_left (show keep + 1 ≤ d.pd.length by omega)]
    obtain ⟨h1, h2⟩ := h.ok keep hk
    have hfl := front_len d keep
    have hfl1 := front_len d (keep + 1)
    have ecr : d.crB keep t keep = (front d keep).set d.pd[keep].i (mixB t d.pd[keep].now d.pd[keep].was) := by
      unfold Dk.crB front
      rw [List.drop_eq_getElem_cons hk]
      simp
    have hst := front_step hk
    rw [ecr, getB_set _ _ _ _ (by omega)]
    split
    · rename_i hij
      subst hij
      rw [h2, hst, getB_set _ _ _ _ (by omega), if_pos rfl]
      have n1 := d.pd[keep].now.2.1
      have n2 := d.pd[keep].was.2.1
      constructor
      · show (List.take t d.pd[keep].now.1 ++ List.drop t d.pd[keep].was.1).take t = _
        rw [List.take_append_of_le_length (by rw [List.length_take]; omega), List.take_take, Nat.min_self]
      · show (List.take t d.pd[keep].now.1 ++ List.drop t d.pd[keep].was.1).drop t = _
        have : (List.take t d.pd[keep].now.1).length = t := by rw [List.length_take]; omega
        conv => lhs; rw [← this]
        rw [this, List.drop_append_of_le_length (by omega)]
        simp [this]
    · rename_i hij
      have : getB (front d keep) j = getB (front d (keep + 1)) j := by rw [hst, getB_set _ _ _ _ (by omega), if_neg hij]
      rw [this]
      exact ⟨rfl, rfl⟩
  · have ecr : d.crB keep t keep = d.bl := by
      unfold Dk.crB
      rw [List.drop_of_length_le hk]
    rw [ecr, Nat.min_eq_right hk, Nat.min_eq_right (show d.pd.length ≤ d.pd.length + 1 by omega), front_last]
    exact ⟨rfl, rfl⟩
end Fk
