/- Rows of one's own: an element is written. -/
import Derived.Test.YtpgjpgecgibklaaT6
import Derived.Test.YtpgjpgecgibklaaC23
set_option linter.unusedVariables false
set_option linter.unusedSimpArgs false
namespace Fk
open Go Go.Proofs Go.RowKit
theorem wrL_len {cells vs : List Value} {o : Nat} (h : o + vs.length ≤ cells.length) : (wrL cells o vs).length = cells.length := by
  unfold wrL; simp; omega
theorem wrL_get {cells vs : List Value} {o : Nat} (h : o + vs.length ≤ cells.length) (j : Nat) : (wrL cells o vs)[j]? = if o ≤ j ∧ j < o + vs.length then vs[j - o]? else cells[j]? := by
  unfold wrL
  have hl : (cells.take o).length = o := by simp; omega
  split
  · rename_i hj
    rw [List.getElem?_append_right (by omega), hl, List.getElem?_append_left (by omega)]
  · rename_i hj
    rcases Nat.lt_or_ge j o with hjo | hjo
    · rw [List.getElem?_append_left (by omega), List.getElem?_take_of_lt hjo]
    · rw [List.getElem?_append_right (by omega), hl, List.getElem?_append_right (by omega), List.getElem?_drop]
      congr 1; omega
theorem wrL_take {cells vs : List Value} {o m : Nat} (h : o + vs.length ≤ m) (hm : m ≤ cells.length) : (wrL cells o vs).take m = wrL (cells.take m) o vs := by
  apply List.ext_getElem?
  intro j
  have h1 : (cells.take m).length = m := by simp; omega
  rw [wrL_get (by omega), List.getElem?_take, wrL_get (by omega), List.getElem?_take]
  split <;> split <;> rename_i a b <;> first | rfl | omega
theorem wrL_flat {α : Type} {size : Nat} {enc : α → List Value} (he : Enc size enc) : ∀ (l : List α) (i : Nat) (x : α), i < l.length → wrL (l.flatMap enc) (i * size) (enc x) = (l.set i x).flatMap enc
  | [], i, x, h => by simp at h
  | y :: l, 0, x, h => by
    simp only [wrL, List.flatMap_cons, Nat.zero_mul, List.take_zero, List.nil_append, Nat.zero_add, List.set_cons_zero]
    rw [he.len x, List.drop_left' (he.len y)]
  | y :: l, i + 1, x, h => by
    have ih := wrL_flat he l i x (by simpa using h)
    simp only [List.set_cons_succ, List.flatMap_cons, ← ih]
    unfold wrL
    rw [Nat.succ_mul, Nat.add_comm (i * size) size]
    rw [List.take_append, List.drop_append, he.len y]
    have h1 : List.take (size + i * size) (enc y) = enc y := List.take_of_length_le (by rw [he.len]; omega)
    have h2 : List.drop (size + i * size + (enc x).length) (enc y) = [] := List.drop_of_length_le (by rw [he.len, he.len]; omega)
    rw [h1, h2, List.append_assoc, List.nil_append, show size + i * size - size = i * size by omega, show size + i * size + (enc x).length - size = i * size + (enc x).length by omega]
theorem own_put {w : World} {base : Nat} {e : TypeId} {size n c : Nat} {a : Option Addr} {xs : List Value} (h : w.ownsRow base e size (.slice a n c) n xs) (o : Nat) (vs : List Value) (ho : o + vs.length ≤ xs.length) (hv : 0 < vs.length) :
    ∃ A, a = some A ∧ A.block < w.heap.size ∧ base ≤ A.block ∧ Wr w (A.add o) vs.length ∧ (setCells w (A.add o) 0 vs).ownsRow base e size (.slice a n c) n (wrL xs o vs) ∧ Md [A.block] w (setCells w (A.add o) 0 vs) := by
  obtain ⟨hxl, hh⟩ := h
  rcases hh with ⟨hv', hn⟩ | ⟨g, cap, cur, hv', hb, hg, hnc, hcm, hcs, htk⟩
  · subst hn; rw [Nat.zero_mul] at hxl; omega
  · simp only [Value.slice.injEq] at hv'
    obtain ⟨rfl, _, rfl⟩ := hv'
    have hle : n * size ≤ cur.toList.length := by rw [Array.length_toList, hcs]; exact Nat.mul_le_mul_right _ hnc
    have hadd : (Addr.mk g 0 none).add o = ⟨g, o, none⟩ := by simp [Addr.add_lit]
    have hblk : Blk w g e cur.toList := by unfold Blk; simpa using hg
    refine ⟨_, rfl, (Array.getElem?_eq_some_iff.1 hg).1, hb, ?_, ?_, ?_⟩
    · rw [hadd]; exact hblk.wr (by omega)
    · rw [hadd]
      refine ⟨by rw [wrL_len ho]; exact hxl, .inr ⟨g, c, (wrL cur.toList o vs).toArray, rfl, hb, ?_, hnc, hcm, ?_, ?_⟩⟩
      · rcases wrL_run (m := 0) (cells := []) (o := o) (vs := []) (b := g) (ty := e) vs 0 cur.toList w (by simpa using hg) with h' | h'
        · exact h'
        · omega
      · simp only [List.size_toArray]
        rw [wrL_len (by omega), Array.length_toList, hcs]
      · simp only
        rw [wrL_take (by omega) hle, htk]
    · rw [hadd]; exact Md_setCells _ _ _
theorem OwnL.put {α : Type} {w : World} {base : Nat} {e : TypeId} {size : Nat} {enc : α → List Value} {a : Option Addr} {c : Nat} {l : List α} (h : OwnL w base e size enc a c l) (he : Enc size enc) (hs : 0 < size) {i : Nat} (hi : i < l.length) (x : α) :
    ∃ A, a = some A ∧ A.block < w.heap.size ∧ base ≤ A.block ∧ (adAt a (i : Int) size).block = A.block ∧ Wr w (adAt a (i : Int) size) size ∧ OwnL (setCells w (adAt a (i : Int) size) 0 (enc x)) base e size enc a c (l.set i x) ∧
      Md [A.block] w (setCells w (adAt a (i : Int) size) 0 (enc x)) := by
  have hlen := he.lenL l
  have hmul : (i + 1) * size ≤ l.length * size := Nat.mul_le_mul_right _ hi
  rw [Nat.succ_mul] at hmul
  obtain ⟨A, rfl, h1, h2, h3, h4, h5⟩ := own_put h (i * size) (enc x) (by rw [he.len, hlen]; exact hmul) (by rw [he.len]; exact hs)
  have hA : adAt (some A) (i : Int) size = A.add (i * size) := by simp [adAt]
  rw [he.len] at h3
  rw [wrL_flat he l i x hi] at h4
  refine ⟨A, rfl, h1, h2, ?_, ?_, ?_, ?_⟩
  · rw [hA, add_block]
  · rw [hA]; exact h3
  · rw [hA]
    unfold OwnL
    rw [List.length_set]; exact h4
  · rw [hA]; exact h5
end Fk
