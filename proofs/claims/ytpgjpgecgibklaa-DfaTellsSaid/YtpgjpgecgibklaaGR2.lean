/- Contracts of functions, and plain laws: several texts, joined. -/
import Derived.Test.YtpgjpgecgibklaaGR1
import Derived.Test.YtpgjpgecgibklaaGV0
import Derived.Test.YtpgjpgecgibklaaGR0
import Derived.Test.YtpgjpgecgibklaaGV1
import Derived.WalkSmall
import Derived.Lib.SliceRun
set_option linter.unusedVariables false
set_option linter.unusedSimpArgs false
set_option maxRecDepth 100000
namespace Fk
open Go Go.Proofs Go.RowKit
theorem f82_ok (st : Int) (l : List Ns) (A : Option Addr) (C : Nat) (w : World) (hr : RowAt w A 8 nsE l) (hl : l.length < 2 ^ 60) (hk : ∀ x ∈ l, 0 ≤ x.k) :
    Ct Try.prog 82 #[.agg #[.int .i64 st, .slice A l.length C]] w fun v w' => v = .bool (nfRight st l) ∧ Md [] w w' := by
  apply f82_in
  intro n1 hn1
  refine Bd_e rfl <| Bd_in fun b3 hb3 => Bd_in fun b4 hb4 => Bd_in fun b5 hb5 => Bd_in fun b6 hb6 => Bd_in fun b7 hb7 => Bd_in fun b8 hb8 => Bd_in fun b9 hb9 => ?_
  have e9 : b9 = !decide (0 ≤ st ∧ st < l.length ∧ l.length ≤ 20000) := by
    rw [hb9, hb7, hb8, hb5, hb6, hb3, hb4]
    by_cases c1 : (l.length : Int) < 1
    · have : ¬ (0 ≤ st ∧ st < l.length ∧ l.length ≤ 20000) := by omega
      simp [c1, this]
    · by_cases c2 : (l.length : Int) > 20000
      · have : ¬ (0 ≤ st ∧ st < l.length ∧ l.length ≤ 20000) := by omega
        simp [c2, this]
      · by_cases c3 : st < 0
        · have : ¬ (0 ≤ st ∧ st < l.length ∧ l.length ≤ 20000) := by omega
          simp [c3, this]
        · by_cases c4 : st ≥ (l.length : Int)
          · have : ¬ (0 ≤ st ∧ st < l.length ∧ l.length ≤ 20000) := by omega
            simp [c4, this]
          · have : 0 ≤ st ∧ st < l.length ∧ l.length ≤ 20000 := by omega
            simp [c1, c2, c3, c4, this]
  refine If_in (fun h w10 h10 _ => ⟨?_, h10⟩) fun h n11 hn11 w12 h12 hL12 => ?_
  · have : ¬ (0 ≤ st ∧ st < l.length ∧ l.length ≤ 20000) := fun hh => by rw [e9, decide_eq_true hh] at h; cases h
    unfold nfRight
    rw [decide_eq_false this]; rfl
  have hst : 0 ≤ st ∧ st < l.length ∧ l.length ≤ 20000 := by rw [e9] at h; simpa using h
  refine LoopP_in (fun mm us vs w' => ∃ i : Nat, us = [.bool false, .int .i64 i] ∧ mm = l.length - i ∧ i ≤ l.length ∧ Md [] w w' ∧ ∀ x ∈ l.take i, okNs l.length x) l.length ⟨0, rfl, rfl, by omega, h12, by simp⟩ ?_
  rintro mm us vs w16 ⟨i, rfl, rfl, hi, hmd, hall⟩
  refine opB_in <| opI_in <| Bd_in fun b19 hb19 => If_in (fun h => ?_) fun h => ⟨?_, hmd⟩
  case refine_2 =>
    have hi' : i = l.length := by rw [hb19] at h; have : ¬ (i : Int) < (l.length : Int) := by simpa using h
                                  omega
    subst hi'
    rw [List.take_length] at hall
    unfold nfRight
    rw [decide_eq_true hst]
    have : (l.all fun x => decide (okNs l.length x)) = true := by rw [List.all_eq_true]; intro x hx; simpa using hall x hx
    rw [this]; rfl
  have hi' : i < l.length := by rw [hb19] at h; have : (i : Int) < (l.length : Int) := by simpa using h
                                omega
  have hnok : ¬ okNs l.length l[i] → nfRight st l = false := fun hno => by
    have : (l.all fun x => decide (okNs l.length x)) = false := by
      rw [List.all_eq_false]
      exact ⟨l[i], List.getElem_mem hi', by simpa using hno⟩
    unfold nfRight; rw [this]; simp
  have hstep : okNs l.length l[i] → ∀ x ∈ l.take (i + 1), okNs l.length x := fun ho x hx => by
    rw [List.take_succ_eq_append_getElem hi', List.mem_append] at hx
    rcases hx with hx | hx
    · exact hall x hx
    · simp at hx; rw [hx]; exact ho
  have hk0 := hk _ (List.getElem_mem hi')
  refine ⟨hr.ix hi', (hr.md hmd).ld8 hi' fun n36 hn36 => ?_⟩
  generalize l[i] = x at *
  have hw36 : w.heap.size ≤ n36 := Nat.le_trans hmd.size hn36
  refine Bd_in fun b37 hb37 => Bd_in fun b38 hb38 => Bd_in fun b39 hb39 => Bd_in fun b40 hb40 => Bd_in fun b41 hb41 => Bd_in fun b42 hb42 => Bd_in fun b43 hb43 => Bd_in fun b44 hb44 => Bd_in fun b45 hb45 => ?_
  have e45 : b45 = !decide (x.k ≤ 2 ∧ 0 ≤ x.a ∧ x.a < l.length ∧ 0 ≤ x.b ∧ x.b < l.length) := by
    rw [hb45, hb43, hb44, hb41, hb42, hb39, hb40, hb37, hb38]
    by_cases c1 : x.k > 2
    · have : ¬ x.k ≤ 2 := by omega
      simp [c1, this]
    · by_cases c2 : x.a < 0
      · have : ¬ 0 ≤ x.a := by omega
        simp [c2, this]
      · by_cases c3 : x.a ≥ (l.length : Int)
        · have : ¬ x.a < l.length := by omega
          simp [c3, this]
        · by_cases c4 : x.b < 0
          · have : ¬ 0 ≤ x.b := by omega
            simp [c4, this]
          · by_cases c5 : x.b ≥ (l.length : Int)
            · have : ¬ x.b < l.length := by omega
              simp [c5, this]
            · have : x.k ≤ 2 ∧ 0 ≤ x.a ∧ x.a < l.length ∧ 0 ≤ x.b ∧ x.b < l.length := by omega
              simp [c1, c2, c3, c4, c5, this]
  have ez : ([x.s1, x.s2, x.s3, x.s4] = [0, 0, 0, 0]) ↔ x.zs := by simp [Ns.zs]
  have dz : decide ([x.s1, x.s2, x.s3, x.s4] = [0, 0, 0, 0]) = decide x.zs := decide_eq_decide.2 ez
  refine If_in (fun h w46 h46 _ => ⟨?_, hmd.old h46 (by simp; exact hw36)⟩) fun h => ?_
  · have hno : ¬ (x.k ≤ 2 ∧ 0 ≤ x.a ∧ x.a < l.length ∧ 0 ≤ x.b ∧ x.b < l.length) := fun hh => by rw [e45, decide_eq_true hh] at h; cases h
    rw [hnok]
    unfold okNs
    omega
  have hrg : x.k ≤ 2 ∧ 0 ≤ x.a ∧ x.a < l.length ∧ 0 ≤ x.b ∧ x.b < l.length := by rw [e45] at h; simpa using h
  refine Bd_in fun b47 hb47 w48 h48 hL48 => ?_
  have m48 : Md [] w w48 := hmd.old h48 (by simp; exact hw36)
  have e47 : b47 = decide (x.k = 0) := by rw [hb47]; rfl
  refine Gd_to (fun (b : Bool) w' => (b47 = true → b = !decide x.zs) ∧ w' = w48) (fun b53 w54 hJ => ?_) (fun fin hc => RunW_in0 (ne28 _ _ x.s1 x.s2 x.s3 x.s4 0 0 0 0 w48) <| opB_in <| fin _ _ ⟨fun _ => (by rw [dz]), rfl⟩) (fun hc => ⟨fun h => (by rw [h] at hc; cases hc), rfl⟩)
  obtain ⟨h53, rfl⟩ := hJ
  refine Bd_in fun b55 hb55 => Bd_in fun b56 hb56 => Bd_in fun b57 hb57 => Bd_in fun b58 hb58 => Bd_in fun b59 hb59 => Bd_in fun b60 hb60 => Bd_in fun b61 hb61 => Bd_in fun b62 hb62 => Bd_in fun b63 hb63 => ?_
  have e63 : b63 = decide (x.k = 0 ∧ ¬ (x.zs ∧ x.a = 0 ∧ x.b = 0 ∧ 0 ≤ x.t ∧ x.t < 200)) := by
    rw [hb63, hb62, hb61, hb60, hb59, hb58, hb57, hb56, hb55]
    by_cases c : x.k = 0
    · have : b47 = true := by rw [e47]; simpa using c
      rw [this, h53 this]
      by_cases c1 : x.zs <;> by_cases c2 : x.a = 0 <;> by_cases c3 : x.b = 0 <;> by_cases c4 : x.t < 0 <;> by_cases c5 : x.t > 199 <;> simp [c, c1, c2, c3, c4, c5] <;> omega
    · have : b47 = false := by rw [e47]; simpa using c
      rw [this]; simp [c]
  refine If_in (fun h => ⟨?_, m48⟩) fun h => ?_
  · rw [e63] at h
    have h' := of_decide_eq_true h
    rw [hnok]
    unfold okNs
    unfold Ns.zs at *
    omega
  have n63 : ¬ (x.k = 0 ∧ ¬ (x.zs ∧ x.a = 0 ∧ x.b = 0 ∧ 0 ≤ x.t ∧ x.t < 200)) := by rw [e63] at h; exact of_decide_eq_false h
  refine Bd_in fun b64 hb64 => ?_
  have e64 : b64 = decide (x.k = 1) := by rw [hb64]; rfl
  refine Gd_to (fun (b : Bool) w' => (b64 = true → b = decide x.zs) ∧ w' = w54) (fun b69 w70 hJ => ?_) (fun fin hc => RunW_in0 (eq28 _ _ x.s1 x.s2 x.s3 x.s4 0 0 0 0 w54) <| opB_in <| fin _ _ ⟨fun _ => (by rw [dz]), rfl⟩) (fun hc => ⟨fun h => (by rw [h] at hc; cases hc), rfl⟩)
  obtain ⟨h69, rfl⟩ := hJ
  refine Bd_in fun b71 hb71 => Bd_in fun b72 hb72 => Bd_in fun b73 hb73 => Bd_in fun b74 hb74 => Bd_in fun b75 hb75 => ?_
  have e75 : b75 = decide (x.k = 1 ∧ ¬ (¬ x.zs ∧ x.b = 0 ∧ x.t = 0)) := by
    rw [hb75, hb74, hb73, hb72, hb71]
    by_cases c : x.k = 1
    · have : b64 = true := by rw [e64]; simpa using c
      rw [this, h69 this]
      by_cases c1 : x.zs <;> by_cases c3 : x.b = 0 <;> by_cases c4 : x.t = 0 <;> simp [c, c1, c3, c4]
    · have : b64 = false := by rw [e64]; simpa using c
      rw [this]; simp [c]
  refine If_in (fun h => ⟨?_, m48⟩) fun h => ?_
  · rw [e75] at h
    have h' := of_decide_eq_true h
    rw [hnok]
    unfold okNs
    unfold Ns.zs at *
    omega
  have n75 : ¬ (x.k = 1 ∧ ¬ (¬ x.zs ∧ x.b = 0 ∧ x.t = 0)) := by rw [e75] at h; exact of_decide_eq_false h
  refine Bd_in fun b76 hb76 => ?_
  have e76 : b76 = decide (x.k = 2) := by rw [hb76]; rfl
  refine Gd_to (fun (b : Bool) w' => (b76 = true → b = !decide x.zs) ∧ w' = w70) (fun b81 w82 hJ => ?_) (fun fin hc => RunW_in0 (ne28 _ _ x.s1 x.s2 x.s3 x.s4 0 0 0 0 w70) <| opB_in <| fin _ _ ⟨fun _ => (by rw [dz]), rfl⟩) (fun hc => ⟨fun h => (by rw [h] at hc; cases hc), rfl⟩)
  obtain ⟨h81, rfl⟩ := hJ
  refine Bd_in fun b83 hb83 => Bd_in fun b84 hb84 => Bd_in fun b85 hb85 => ?_
  have e85 : b85 = decide (x.k = 2 ∧ ¬ (x.zs ∧ x.t = 0)) := by
    rw [hb85, hb84, hb83]
    by_cases c : x.k = 2
    · have : b76 = true := by rw [e76]; simpa using c
      rw [this, h81 this]
      by_cases c1 : x.zs <;> by_cases c4 : x.t = 0 <;> simp [c, c1, c4]
    · have : b76 = false := by rw [e76]; simpa using c
      rw [this]; simp [c]
  refine If_in (fun h => ⟨?_, m48⟩) fun h => ?_
  · rw [e85] at h
    have h' := of_decide_eq_true h
    rw [hnok]
    unfold okNs
    unfold Ns.zs at *
    omega
  have n85 : ¬ (x.k = 2 ∧ ¬ (x.zs ∧ x.t = 0)) := by rw [e85] at h; exact of_decide_eq_false h
  refine Bd_e (inc_i64 (by omega)) ⟨l.length - (i + 1), by omega, i + 1, rfl, rfl, by omega, m48, hstep ?_⟩
  unfold okNs
  unfold Ns.zs at *
  omega
end Fk
set_option linter.unusedVariables false
set_option linter.unusedSimpArgs false
namespace Fk
open Go Go.Proofs Go.RowKit
theorem wrL_len {cells vs : List Value} {o : Nat} (h : o + vs.length ≤ cells.length) : (wrL cells o vs).length = cells.length := by
  unfold wrL; simp; omega
theorem wrL_get {cells vs : List Value} {o : Nat} (h : o + vs.length ≤ cells.length) (j : Nat) : (wrL cells o vs)[j]? = if o ≤ j ∧ j < o + vs.length then vs[j - o]? else cells[j]? := by
  unfold wrL
  have hl : (cells.take o).length = o := by simp; omega
  split
  · rename_i hj
    rw [List.getElem?_append_right (by omega), hl, List.getElem?_append_left (by omega)]
  · rename_i hj
    rcases Nat.lt_or_ge j o with hjo | hjo
    · rw [List.getElem?_append_left (by omega), List.getElem?_take_of_lt hjo]
    · rw [List.getElem?_append_right (by omega), hl, List.getElem?_append_right (by omega), List.getElem?_drop]
      congr 1; omega
theorem wrL_take {cells vs : List Value} {o m : Nat} (h : o + vs.length ≤ m) (hm : m ≤ cells.length) : (wrL cells o vs).take m = wrL (cells.take m) o vs := by
  apply List.ext_getElem?
  intro j
  have h1 : (cells.take m).length = m := by simp; omega
  rw [wrL_get (by omega), List.getElem?_take, wrL_get (by omega), List.getElem?_take]
  split <;> split <;> rename_i a b <;> first | rfl | omega
theorem wrL_flat {α : Type} {size : Nat} {enc : α → List Value} (he : Enc size enc) : ∀ (l : List α) (i : Nat) (x : α), i < l.length → wrL (l.flatMap enc) (i * size) (enc x) = (l.set i x).flatMap enc
  | [], i, x, h => by simp at h
  | y :: l, 0, x, h => by
    simp only [wrL, List.flatMap_cons, Nat.zero_mul, List.take_zero, List.nil_append, Nat.zero_add, List.set_cons_zero]
    rw [he.len x, List.drop_left' (he.len y)]
  | y :: l, i + 1, x, h => by
    have ih := wrL_flat he l i x (by simpa using h)
    simp only [List.set_cons_succ, List.flatMap_cons, ← ih]
    unfold wrL
    rw [Nat.succ_mul, Nat.add_comm (i * size) size]
    rw [List.take_append, List.drop_append, he.len y]
    have h1 : List.take (size + i * size) (enc y) = enc y := List.take_of_length_le (by rw [he.len]; omega)
    have h2 : List.drop (size + i * size + (enc x).length) (enc y) = [] := List.drop_of_length_le (by rw [he.len, he.len]; omega)
    rw [h1, h2, List.append_assoc, List.nil_append, show size + i * size - size = i * size by omega, show size + i * size + (enc x).length - size = i * size + (enc x).length by omega]
theorem own_put {w : World} {base : Nat} {e : TypeId} {size n c : Nat} {a : Option Addr} {xs : List Value} (h : w.ownsRow base e size (.slice a n c) n xs) (o : Nat) (vs : List Value) (ho : o + vs.length ≤ xs.length) (hv : 0 < vs.length) :
    ∃ A, a = some A ∧ A.block < w.heap.size ∧ base ≤ A.block ∧ Wr w (A.add o) vs.length ∧ (setCells w (A.add o) 0 vs).ownsRow base e size (.slice a n c) n (wrL xs o vs) ∧ Md [A.block] w (setCells w (A.add o) 0 vs) := by
  obtain ⟨hxl, hh⟩ := h
  rcases hh with ⟨hv', hn⟩ | ⟨g, cap, cur, hv', hb, hg, hnc, hcm, hcs, htk⟩
  · subst hn; rw [Nat.zero_mul] at hxl; omega
  · simp only [Value.slice.injEq] at hv'
    obtain ⟨rfl, _, rfl⟩ := hv'
    have hle : n * size ≤ cur.toList.length := by rw [Array.length_toList, hcs]; exact Nat.mul_le_mul_right _ hnc
    have hadd : (Addr.mk g 0 none).add o = ⟨g, o, none⟩ := by simp [Addr.add_lit]
    have hblk : Blk w g e cur.toList := by unfold Blk; simpa using hg
    refine ⟨_, rfl, (Array.getElem?_eq_some_iff.1 hg).1, hb, ?_, ?_, ?_⟩
    · rw [hadd]; exact hblk.wr (by omega)
    · rw [hadd]
      refine ⟨by rw [wrL_len ho]; exact hxl, .inr ⟨g, c, (wrL cur.toList o vs).toArray, rfl, hb, ?_, hnc, hcm, ?_, ?_⟩⟩
      · rcases wrL_run (m := 0) (cells := []) (o := o) (vs := []) (b := g) (ty := e) vs 0 cur.toList w (by simpa using hg) with h' | h'
        · exact h'
        · omega
      · simp only [List.size_toArray]
        rw [wrL_len (by omega), Array.length_toList, hcs]
      · simp only
        rw [wrL_take (by omega) hle, htk]
    · rw [hadd]; exact Md_setCells _ _ _
theorem OwnL.put {α : Type} {w : World} {base : Nat} {e : TypeId} {size : Nat} {enc : α → List Value} {a : Option Addr} {c : Nat} {l : List α} (h : OwnL w base e size enc a c l) (he : Enc size enc) (hs : 0 < size) {i : Nat} (hi : i < l.length) (x : α) :
    ∃ A, a = some A ∧ A.block < w.heap.size ∧ base ≤ A.block ∧ (adAt a (i : Int) size).block = A.block ∧ Wr w (adAt a (i : Int) size) size ∧ OwnL (setCells w (adAt a (i : Int) size) 0 (enc x)) base e size enc a c (l.set i x) ∧
      Md [A.block] w (setCells w (adAt a (i : Int) size) 0 (enc x)) := by
  have hlen := he.lenL l
  have hmul : (i + 1) * size ≤ l.length * size := Nat.mul_le_mul_right _ hi
  rw [Nat.succ_mul] at hmul
  obtain ⟨A, rfl, h1, h2, h3, h4, h5⟩ := own_put h (i * size) (enc x) (by rw [he.len, hlen]; exact hmul) (by rw [he.len]; exact hs)
  have hA : adAt (some A) (i : Int) size = A.add (i * size) := by simp [adAt]
  rw [he.len] at h3
  rw [wrL_flat he l i x hi] at h4
  refine ⟨A, rfl, h1, h2, ?_, ?_, ?_, ?_⟩
  · rw [hA, add_block]
  · rw [hA]; exact h3
  · rw [hA]
    unfold OwnL
    rw [List.length_set]; exact h4
  · rw [hA]; exact h5
end Fk
set_option linter.unusedVariables false
set_option linter.unusedSimpArgs false
set_option maxRecDepth 100000
namespace Fk
open Go Go.Proofs Go.RowKit
theorem okO.off {o : Option (List Nat)} (h : okO o) : okO (hdOff o) := by
  have h1 := h.one.1
  have h2 := h1.one.1
  have h3 := h2.one.1
  have hh : okO (hd1 o).2 := by
    unfold hd1
    split
    · split
      · exact h3
      · exact h2
    · exact h1
  unfold hdOff
  split
  · exact hh
  · exact fun r hr => by cases hr
theorem okO.nms : ∀ (k : Nat) (o : Option (List Nat)) (acc : List ByteArray), okO o → (∀ s ∈ acc, s.size < 256) → okO (nmsO k o acc).2 ∧ (∀ s ∈ (nmsO k o acc).1, s.size < 256) ∧ (nmsO k o acc).1.length = acc.length + k
  | 0, o, acc, h, ha => ⟨h, ha, rfl⟩
  | k + 1, o, acc, h, ha => by
    have h1 := h.one
    have h2 := okO.nms k (takeO (oneO o).2 (oneO o).1).2 (acc ++ [bytesOf (takeO (oneO o).2 (oneO o).1).1]) (h1.1.take _).1 (by
      intro s hs
      rcases List.mem_append.1 hs with hs | hs
      · exact ha s hs
      · simp at hs
        subst hs
        simp [bytesOf, ByteArray.size, takeO_len, h1.2])
    refine ⟨h2.1, h2.2.1, ?_⟩
    rw [nmsO, h2.2.2]
    simp; omega
theorem okO.N {o : Option (List Nat)} (h : okO o) : okO (hdN o).2 ∧ (∀ s ∈ (hdN o).1, s.size < 256) ∧ (hdN o).1.length < 256 := by
  have h1 := (h.off.one.1.pair).one
  have h2 := okO.nms (hdC o).1 (hdC o).2 [] h1.1 (by simp)
  refine ⟨h2.1, h2.2.1, ?_⟩
  have : (hdN o).1.length = 0 + (hdC o).1 := h2.2.2
  have h3 : (hdC o).1 < 256 := h1.2
  omega
theorem OwnL.cap {α : Type} {w : World} {base : Nat} {e : TypeId} {size : Nat} {enc : α → List Value} {a : Option Addr} {c : Nat} {l : List α} (h : OwnL w base e size enc a c l) : l.length ≤ c := by
  rcases h.2 with ⟨hv, hn⟩ | ⟨g, cap, cur, hv, hb, hg, hnc, rest⟩
  · omega
  · simp only [Value.slice.injEq] at hv
    omega
/-- A table of one's own: no older than 'base'. -/
structure TbF (base : Nat) (w : World) (t : Tb) (p : TbS) : Prop where
  ok : t.c.ok
  nm : OwnL w base 9 1 s1 p.sa p.sc t.nm
  tg : OwnL w base 3 1 i1 p.ta p.tc t.tg
  nx : OwnL w base 3 1 i1 p.na p.nc t.nx
  nml : t.nm.length < 2 ^ 40
  tgl : t.tg.length < 2 ^ 40
  nxl : t.nx.length < 2 ^ 40
  nsz : ∀ s ∈ t.nm, s.size < 2 ^ 40
  d1 : ∀ A B, p.sa = some A → p.ta = some B → A.block ≠ B.block
  d2 : ∀ A B, p.sa = some A → p.na = some B → A.block ≠ B.block
  d3 : ∀ A B, p.ta = some A → p.na = some B → A.block ≠ B.block
theorem TbF.at {base : Nat} {w : World} {t : Tb} {p : TbS} (h : TbF base w t p) : TbAt w t p :=
  ⟨h.ok, h.nx.row enci1, h.tg.row enci1, h.nm.row encs1, by have := h.nxl; omega, by have := h.tgl; omega, by have := h.nml; omega, fun s hs => by have := h.nsz s hs; omega, h.nm.cap⟩
theorem TbF.mdN {base : Nat} {w w' : World} {t : Tb} {p : TbS} {D : List Nat} (h : TbF base w t p) (hm : Md D w w') (hD : ∀ d ∈ D, d < base) : TbF base w' t p := by
  have ne : ∀ {α : Type} {e : TypeId} {size : Nat} {enc : α → List Value} {a : Option Addr} {c : Nat} {l : List α}, OwnL w base e size enc a c l → ∀ A, a = some A → A.block ∉ D := by
    intro α e size enc a c l ho A hA hmem
    have := (ho.lt hA).1
    have := hD _ hmem
    omega
  exact ⟨h.ok, h.nm.mdD hm (ne h.nm), h.tg.mdD hm (ne h.tg), h.nx.mdD hm (ne h.nx), h.nml, h.tgl, h.nxl, h.nsz, h.d1, h.d2, h.d3⟩
theorem TbF.md {base : Nat} {w w' : World} {t : Tb} {p : TbS} (h : TbF base w t p) (hm : Md [] w w') : TbF base w' t p := h.mdN hm (by simp)
theorem TbF.down {base b : Nat} {w : World} {t : Tb} {p : TbS} (h : TbF base w t p) (hb : b ≤ base) : TbF b w t p := ⟨h.ok, h.nm.down hb, h.tg.down hb, h.nx.down hb, h.nml, h.tgl, h.nxl, h.nsz, h.d1, h.d2, h.d3⟩
theorem TbF.cells {base : Nat} {w : World} {t : Tb} {p : TbS} (h : TbF base w t p) : okCells (Array.toList (t.v p)) 261 = true := by
  have hl : (t.l p).length = 261 := Tb.len h.ok.len
  have : allOne (t.l p) = true := by
    simp [allOne, Tb.l, Tb.d, Cl.l, Value.oneCell']
  unfold okCells Tb.v
  rw [hl]
  exact this
theorem zT_ok : (zCl 0).ok := zCl_ok (by omega) (by omega)
theorem TbF.zero (base : Nat) (w : World) : TbF base w zT zP := ⟨zT_ok, OwnL.nil .., OwnL.nil .., OwnL.nil .., by simp [zT], by simp [zT], by simp [zT], by simp [zT], fun A B h => (by cases h), fun A B h => (by cases h), fun A B h => (by cases h)⟩
end Fk
set_option linter.unusedVariables false
set_option linter.unusedSimpArgs false
namespace Fk
open Go Go.Proofs Go.RowKit
/-- Two rows stand in blocks of their own. -/
def Apt (a b : Option Addr) : Prop := ∀ A B, a = some A → b = some B → A.block ≠ B.block
theorem Apt.symm {a b : Option Addr} (h : Apt a b) : Apt b a := fun A B hA hB e => h B A hB hA e.symm
/-- What stays when another row is appended to. -/
theorem own_keep {α : Type} {w w' : World} {base : Nat} {e : TypeId} {size : Nat} {enc : α → List Value} {a a' b : Option Addr} {c : Nat} {l : List α} (h : OwnL w base e size enc b c l)
    (hm : Md (a.map (·.block)).toList w w') (hA : ∀ A, a' = some A → a = some A ∨ w.heap.size ≤ A.block) (hd : Apt a b) : OwnL w' base e size enc b c l ∧ Apt a' b := by
  constructor
  · refine h.mdD hm fun B hB hmem => ?_
    cases a with
    | none => simp at hmem
    | some A => simp at hmem; exact hd A B rfl hB hmem.symm
  · intro A B hA' hB
    rcases hA A hA' with h1 | h1
    · exact hd A B h1 hB
    · have := (h.lt hB).2; omega
section
variable {base : Nat} {w : World} {t : Tb} {p : TbS} {L : List Nat}
end
end Fk
set_option linter.unusedVariables false
set_option linter.unusedSimpArgs false
set_option maxRecDepth 100000
namespace Fk
open Go Go.Proofs Go.RowKit
theorem rowT69 : RowT Try.prog 69 103 8 64 := RowT.of (by kernel_rfl) (by kernel_rfl) (by kernel_rfl) (by omega)
/-- A maker: its states, and how many there may be. -/
structure MkAt (w : World) (n : Nat) (l : List Ns) (most : Nat) (a : Option Addr) (c : Nat) : Prop where
  blk : Blk w n 214 [.slice a l.length c, .int .i64 most]
  own : OwnL w 0 103 8 nsE a c l
  ne : ∀ A, a = some A → A.block ≠ n
def fpM (n : Nat) (a : Option Addr) : List Nat := n :: (a.map (·.block)).toList
def Mkr (w : World) (n : Nat) (l : List Ns) (most : Nat) (F : List Nat) : Prop := ∃ a c, MkAt w n l most a c ∧ F = fpM n a
def FrN (w : World) (F F' : List Nat) : Prop := ∀ b ∈ F', b ∈ F ∨ w.heap.size ≤ b
theorem FrN.refl (w : World) (F : List Nat) : FrN w F F := fun _ h => .inl h
theorem FrN.trans {w w' : World} {F F' F'' : List Nat} (h : FrN w F F') (h2 : FrN w' F' F'') (hs : w.heap.size ≤ w'.heap.size) : FrN w F F'' := fun b hb => by
  rcases h2 b hb with h1 | h1
  · exact h b h1
  · right; omega
theorem mem_fpM {n : Nat} {a : Option Addr} {b : Nat} : b ∈ fpM n a ↔ b = n ∨ ∃ A, a = some A ∧ A.block = b := by
  unfold fpM
  cases a <;> simp [eq_comm]
theorem Mkr.md {w w' : World} {n : Nat} {l : List Ns} {most : Nat} {F D : List Nat} (h : Mkr w n l most F) (hm : Md D w w') (hD : ∀ b ∈ F, b ∉ D) : Mkr w' n l most F := by
  obtain ⟨a, c, h, rfl⟩ := h
  exact ⟨a, c, ⟨h.blk.md hm (hD n (by rw [mem_fpM]; exact .inl rfl)), h.own.mdD hm (fun A hA => hD _ (by rw [mem_fpM]; exact .inr ⟨A, hA, rfl⟩)), h.ne⟩, rfl⟩
theorem Mkr.md0 {w w' : World} {n : Nat} {l : List Ns} {most : Nat} {F : List Nat} (h : Mkr w n l most F) (hm : Md [] w w') : Mkr w' n l most F := h.md hm (by simp)
theorem Mkr.lt {w : World} {n : Nat} {l : List Ns} {most : Nat} {F : List Nat} (h : Mkr w n l most F) : ∀ b ∈ F, b < w.heap.size := by
  obtain ⟨a, c, h, rfl⟩ := h
  intro b hb
  rw [mem_fpM] at hb
  rcases hb with rfl | ⟨A, hA, rfl⟩
  · exact h.blk.lt
  · exact (h.own.lt hA).2
theorem f165_ok (n : Nat) (l : List Ns) (most : Nat) (F : List Nat) (w : World) (h : Mkr w n l most F) : Ct Try.prog 165 #[.pointer (some ⟨n, 0, none⟩)] w fun v w' => v = .bool (decide (l.length > most)) ∧ Md [] w w' := by
  apply f165_in
  obtain ⟨a, c, h, rfl⟩ := h
  refine ⟨fun w' => Md [] w.drew w', Md.refl _ _, ?_⟩
  show ∃ v3, _ ∧ _
  refine ⟨_, fun w' hm => (h.blk.md ((Md_drew w).trans hm) (by simp)).ld' rfl rfl, opL_in <| Bd_e rfl ?_⟩
  show ∃ v3, _ ∧ _
  refine ⟨_, fun w' hm => (h.blk.md ((Md_drew w).trans hm) (by simp)).ld' rfl rfl, opI_in <| Bd_in fun b17 hb17 => ⟨?_, Md_drew w⟩⟩
  rw [hb17]
  congr 2
  apply propext; omega
def mst (most : Nat) (l : List Ns) (x : Ns) : List Ns := if l.length ≤ most then l ++ [x] else l
theorem f164_ok (n : Nat) (l : List Ns) (most : Nat) (F : List Nat) (x : Ns) (w : World) (h : Mkr w n l most F) (hm : most ≤ 20000) (hl : l.length ≤ most + 1) :
    Ct Try.prog 164 #[.pointer (some ⟨n, 0, none⟩), x.v] w fun v w' => (v = .int .i64 ((mst most l x).length - 1 : Int) ∧ ∃ F', Mkr w' n (mst most l x) most F' ∧ FrN w F F') ∧ Md F w w' := by
  apply f164_in
  intro n1 hn1
  refine Jn_in (fun us vs w' => (∃ F', Mkr w' n (mst most l x) most F' ∧ FrN w F F') ∧ Md F w w') ?_ fun w13 h13 hL13 => ?_
  · rintro us vs w4 ⟨⟨F', ⟨a, c, hk, rfl⟩, hf⟩, hmd⟩
    have h1 : 1 ≤ (mst most l x).length := by unfold mst; split <;> (try simp) <;> omega
    have h2 : (mst most l x).length ≤ most + 2 := by unfold mst; split <;> (try simp) <;> omega
    show Ld _ _ _
    exact hk.blk.ld' rfl <| opL_in <| Bd_e rfl <| Bd_e (y := ((mst most l x).length - 1 : Int)) (by rw [IntKind.wrap_i64]; omega) ⟨⟨rfl, _, ⟨a, c, hk, rfl⟩, hf⟩, hmd⟩
  obtain ⟨a, c, hk, rfl⟩ := h
  have l1 := hL13 n1 (by simp)
  have hk13 : ∀ {w' : World}, Md [] w13.drew w' → Blk w' n 214 [.slice a l.length c, .int .i64 most] := fun hm => (hk.blk.md h13 (by simp)).md ((Md_drew w13).trans hm) (by simp)
  refine ⟨fun w' => Md [] w13.drew w', Md.refl _ _, ?_⟩
  show ∃ v3, _ ∧ _
  refine ⟨_, fun w' hm => (hk13 hm).ld' rfl rfl, opL_in <| Bd_e rfl ?_⟩
  show ∃ v3, _ ∧ _
  refine ⟨_, fun w' hm => (hk13 hm).ld' rfl rfl, opI_in <| Bd_in fun b30 hb30 => If_in (fun hb => ?_) fun hb => ?_⟩
  · have hle : l.length ≤ most := by rw [hb30] at hb; have : (l.length : Int) ≤ (most : Int) := by simpa using hb
                                     omega
    have ems : mst most l x = l ++ [x] := by unfold mst; rw [if_pos hle]
    have m0 : Md [] w w13.drew.drew := h13.trans ((Md_drew w13).trans (Md_drew _))
    have fin : ∀ (w' w2 : World), Md [] w w' → ∀ (a' : Option Addr) (c' : Nat), OwnL w2 0 103 8 nsE a' c' (l ++ [x]) → Md (a.map (·.block)).toList w' w2 → (∀ A, a' = some A → a = some A ∨ w'.heap.size ≤ A.block) →
        ¬ Addr.block (Addr.add (Addr.mk n 0 none) 0) ∈ [n1] ∧ Wr w2 (Addr.add (Addr.mk n 0 none) 0) 1 ∧ (∃ F', Mkr (setCells w2 (Addr.add (Addr.mk n 0 none) 0) 0 [.slice a' (l ++ [x]).length c']) n (mst most l x) most F' ∧ FrN w (fpM n a) F') ∧ Md (fpM n a) w (setCells w2 (Addr.add (Addr.mk n 0 none) 0) 0 [.slice a' (l ++ [x]).length c']) := by
      intro w' w2 hmw a' c' ho hm2 hA
      have hnlt := hk.blk.lt
      have hna : n ∉ (a.map (·.block)).toList := by
        cases a with
        | none => simp
        | some A => simp; exact fun e => hk.ne A rfl e.symm
      have b2 : Blk w2 n 214 [.slice a l.length c, .int .i64 most] := (hk.blk.md hmw (by simp)).md hm2 hna
      have hs1 := hmw.size
      have ne' : ∀ A, a' = some A → A.block ≠ n := fun A h e => by
        rcases hA A h with h1 | h1
        · exact hk.ne A h1 e
        · omega
      rw [ad0', ems]
      have b3 := b2.set (j := 0) (by simp) (.slice a' (l ++ [x]).length c')
      have ms := Md_setCells (w := w2) n 0 [.slice a' (l ++ [x]).length c']
      refine ⟨?_, b2.wr (by simp), ⟨_, ⟨a', c', ⟨b3, ho.mdD ms (fun A h => by simp; exact ne' A h), ne'⟩, rfl⟩, fun b hb => ?_⟩, ?_⟩
      · simp; omega
      · rw [mem_fpM] at hb ⊢
        rcases hb with rfl | ⟨A, h, rfl⟩
        · exact .inl (.inl rfl)
        · rcases hA A h with h1 | h1
          · exact .inl (.inr ⟨A, h1, rfl⟩)
          · right; omega
      · refine ⟨ms.os.trans (hm2.os.trans hmw.os), ms.tape.trans (hm2.tape.trans hmw.tape), ms.output.trans (hm2.output.trans hmw.output), by have := ms.size; have := hm2.size; omega, fun k hk' hkm => ?_⟩
        have hkn : k ≠ n := fun e => hkm (by rw [mem_fpM]; exact .inl e)
        have hka : k ∉ (a.map (·.block)).toList := fun hmem => hkm (by unfold fpM; exact List.mem_cons_of_mem _ hmem)
        have s2 := hm2.size
        exact ((ms.blk k (by omega) (by simpa using hkn)).trans (hm2.blk k (by omega) hka)).trans (hmw.blk k hk' (by simp))
    have hnot : ∀ b ∈ [n1], ∀ A, a = some A → A.block ≠ b := fun b hb A hA e => by have := (hk.own.lt hA).2; simp at hb; omega
    have hlD : ∀ {w' : World}, Md [] w13.drew.drew w' → ∀ b ∈ [n1], b < w'.heap.size := fun hm b hb => by
      have h1 := hm.size
      have h2 : w13.heap.size ≤ _ := h1
      simp at hb; omega
    have bD : ∀ {w' : World}, Md [] w13.drew.drew w' → Blk w' n 214 [.slice a l.length c, .int .i64 most] := fun hm => hk13 ((Md_drew _).trans hm)
    refine ⟨(bD (Md.refl _ _)).ld' rfl <| opL_in <| app_one rowT69 encNs x rfl (hk.own.md m0) (Nat.zero_le _) (hlD (Md.refl _ _)) hnot (by simp [maxLen]; omega) (by omega) fun a' c' w' ho hm hA => opL_in (fin _ w' m0 a' c' ho hm hA), ?_⟩
    intro n44 w45 e1 e2
    subst e1; subst e2
    have ma : Md [] w13.drew.drew (w13.drew.drew.alloc (.cells #[.int .u8 x.k, .int .u64 x.s1, .int .u64 x.s2, .int .u64 x.s3, .int .u64 x.s4, .int .i64 x.a, .int .i64 x.b, .int .i64 x.t] 103)) := Md.alloc _ _
    have ol := OwnL.lit (P := Try.prog) (base := 0) encNs w13.drew.drew 103 [x] #[.int .u8 x.k, .int .u64 x.s1, .int .u64 x.s2, .int .u64 x.s3, .int .u64 x.s4, .int .i64 x.a, .int .i64 x.b, .int .i64 x.t] (Nat.zero_le _) (by simp [maxLen]) rfl
    exact (bD ma).ld' rfl <| opL_in <| app_own rowT69 encNs ((hk.own.md m0).md ma) ol (Nat.zero_le _) (hlD ma) hnot (by simp [maxLen]; omega) (by simp; omega) fun a' c' w' ho hm hA => opL_in (fin _ w' (m0.trans ma) a' c' ho hm hA)
  · have hle : ¬ l.length ≤ most := by rw [hb30] at hb; have : ¬ (l.length : Int) ≤ (most : Int) := by simpa using hb
                                       omega
    have ems : mst most l x = l := by unfold mst; rw [if_neg hle]
    have m : Md [] w w13.drew := h13.trans (Md_drew w13)
    rw [ems]
    exact ⟨⟨_, ⟨a, c, ⟨hk13 (Md.refl _ _), hk.own.md m, hk.ne⟩, rfl⟩, FrN.refl _ _⟩, m.mono (by simp)⟩
end Fk
set_option linter.unusedVariables false
set_option linter.unusedSimpArgs false
set_option maxRecDepth 100000
namespace Fk
open Go Go.Proofs Go.RowKit
/-- A state more: all of them, and the last one's number. -/
def pst (most : Nat) (l : List Ns) (x : Ns) : List Ns × Int := (mst most l x, (mst most l x).length - 1)
def spl (a b : Int) : Ns := ⟨2, 0, 0, 0, 0, a, b, 0⟩
def setA (l : List Ns) (i k : Int) : List Ns := match l[i.toNat]? with
  | some x => l.set i.toNat { x with a := k }
  | none => l
/-- What a row of trees makes: as a row of a text; as choices; the first tree alone. -/
structure Tw where
  cat : List Ns × Int → List Ns × Int
  alt : Int → List Ns → List Ns × Option Int
  one : List Ns × Int → List Ns × Int
def twOne (most : Nat) (k a b c d : Int) (Q : Tw) (p : List Ns × Int) : List Ns × Int :=
  if p.1.length > most then p
  else if k = 1 then pst most p.1 ⟨1, a, b, c, d, p.2, 0, 0⟩
  else if k = 2 then Q.cat p
  else if k = 3 then ((Q.alt p.2 p.1).1, (Q.alt p.2 p.1).2.getD 0)
  else if k = 4 then
    let s := pst most p.1 (spl 0 p.2)
    let q := Q.one (s.1, s.2)
    (setA q.1 s.2 q.2, s.2)
  else p
def twAlt (most : Nat) (one : List Ns × Int → List Ns × Int) (R : Tw) (to : Int) (l : List Ns) : List Ns × Option Int :=
  let r := R.alt to l
  let q := one (r.1, to)
  match r.2 with
  | none => (q.1, some q.2)
  | some at' => ((pst most q.1 (spl q.2 at')).1, some (pst most q.1 (spl q.2 at')).2)
def tw (most : Nat) : Fo → Tw
  | .nil => ⟨id, fun _ l => (l, none), id⟩
  | .cons k a b c d q r =>
    let one := twOne most k a b c d (tw most q)
    ⟨fun p => one ((tw most r).cat p), twAlt most one (tw most r), one⟩
theorem mst_len (most : Nat) (l : List Ns) (x : Ns) (h : l.length ≤ most + 1) : l.length ≤ (mst most l x).length ∧ (mst most l x).length ≤ most + 1 := by
  unfold mst
  split
  · simp; omega
  · omega
theorem setA_len (l : List Ns) (i k : Int) : (setA l i k).length = l.length := by
  unfold setA
  split <;> simp
theorem tw_len (most : Nat) : ∀ f : Fo, (∀ p : List Ns × Int, p.1.length ≤ most + 1 → p.1.length ≤ ((tw most f).cat p).1.length ∧ ((tw most f).cat p).1.length ≤ most + 1) ∧
    (∀ (to : Int) (l : List Ns), l.length ≤ most + 1 → l.length ≤ ((tw most f).alt to l).1.length ∧ ((tw most f).alt to l).1.length ≤ most + 1) ∧
    (∀ p : List Ns × Int, p.1.length ≤ most + 1 → p.1.length ≤ ((tw most f).one p).1.length ∧ ((tw most f).one p).1.length ≤ most + 1)
  | .nil => ⟨fun p h => ⟨Nat.le_refl _, h⟩, fun to l h => ⟨Nat.le_refl _, h⟩, fun p h => ⟨Nat.le_refl _, h⟩⟩
  | .cons k a b c d q r => by
    obtain ⟨q1, q2, q3⟩ := tw_len most q
    obtain ⟨r1, r2, r3⟩ := tw_len most r
    have one : ∀ p : List Ns × Int, p.1.length ≤ most + 1 → p.1.length ≤ (twOne most k a b c d (tw most q) p).1.length ∧ (twOne most k a b c d (tw most q) p).1.length ≤ most + 1 := by
      intro p hp
      unfold twOne
      split
      · exact ⟨Nat.le_refl _, hp⟩
      · split
        · exact mst_len most p.1 _ hp
        · split
          · exact q1 p hp
          · split
            · exact q2 _ _ hp
            · split
              · have h1 := mst_len most p.1 (spl 0 p.2) hp
                have h2 := q3 (pst most p.1 (spl 0 p.2)) h1.2
                simp only [setA_len]
                exact ⟨Nat.le_trans h1.1 h2.1, h2.2⟩
              · exact ⟨Nat.le_refl _, hp⟩
    refine ⟨fun p hp => ?_, fun to l hl => ?_, one⟩
    · have h1 := r1 p hp
      have h2 := one _ h1.2
      exact ⟨Nat.le_trans h1.1 h2.1, h2.2⟩
    · have h1 := r2 to l hl
      have h2 := one (((tw most r).alt to l).1, to) h1.2
      show l.length ≤ (twAlt most _ _ to l).1.length ∧ (twAlt most _ _ to l).1.length ≤ most + 1
      unfold twAlt
      simp only
      split
      · exact ⟨Nat.le_trans h1.1 h2.1, h2.2⟩
      · rename_i at' _
        have h3 := mst_len most _ (spl (twOne most k a b c d (tw most q) (((tw most r).alt to l).1, to)).2 at') h2.2
        exact ⟨Nat.le_trans h1.1 (Nat.le_trans h2.1 h3.1), h3.2⟩
end Fk
set_option linter.unusedVariables false
set_option linter.unusedSimpArgs false
set_option maxRecDepth 100000
namespace Fk
open Go Go.Proofs Go.RowKit
theorem Md_frN {F F' : List Nat} {w w1 w2 : World} (h1 : Md F w w1) (h2 : Md F' w1 w2) (hf : FrN w F F') : Md F w w2 :=
  ⟨h2.os.trans h1.os, h2.tape.trans h1.tape, h2.output.trans h1.output, Nat.le_trans h1.size h2.size, fun k hk hm => (h2.blk k (Nat.lt_of_lt_of_le hk h1.size) fun hm' => by
    rcases hf k hm' with h | h
    · exact hm h
    · omega).trans (h1.blk k hk hm)⟩
def Fo.drop : Fo → Nat → Fo
  | f, 0 => f
  | .nil, _ + 1 => .nil
  | .cons _ _ _ _ _ _ r, n + 1 => r.drop n
theorem Fo.drop_len : ∀ (f : Fo) (j : Nat), (f.drop j).len = f.len - j
  | f, 0 => by simp [Fo.drop]
  | .nil, j + 1 => by simp [Fo.drop, Fo.len]
  | .cons _ _ _ _ _ _ r, j + 1 => by simp only [Fo.drop, Fo.len, Fo.drop_len r j]; omega
theorem Fo.drop_cons : ∀ (f : Fo) (j : Nat), j < f.len → ∃ k a b c d q, f.drop j = .cons k a b c d q (f.drop (j + 1)) ∧ q.size < f.size
  | .nil, j, h => by simp [Fo.len] at h
  | .cons k a b c d q r, 0, _ => ⟨k, a, b, c, d, q, by cases r <;> rfl, by simp only [Fo.size]; omega⟩
  | .cons k a b c d q r, j + 1, h => by
    obtain ⟨k', a', b', c', d', q', e, hs⟩ := Fo.drop_cons r j (by simp only [Fo.len] at h; omega)
    exact ⟨k', a', b', c', d', q', by simp only [Fo.drop]; exact e, by simp only [Fo.size]; omega⟩
theorem Fo.drop_all (f : Fo) : ∀ j, f.len ≤ j → f.drop j = .nil := by
  intro j hj
  have := Fo.drop_len f j
  cases h : f.drop j with
  | nil => rfl
  | cons => rw [h] at this; simp only [Fo.len] at this; omega
theorem RepF.drop {w : World} {A : Option Addr} : ∀ (f : Fo) (i j : Nat), RepF w A i f → RepF w A (i + j) (f.drop j)
  | f, i, 0, h => by simpa [Fo.drop] using h
  | .nil, i, j + 1, h => trivial
  | .cons _ _ _ _ _ _ r, i, j + 1, h => by
    obtain ⟨B, sa, sc, _, _, _, _, hr⟩ := h.at
    have := RepF.drop r (i + 1) j hr
    rw [show i + (j + 1) = i + 1 + j by omega]
    exact this
/-- Trees whose choices and stars have kids. -/
def Fo.gdP : Fo → Prop
  | .nil => True
  | .cons k _ _ _ _ q r => ((k = 3 ∨ k = 4) → 1 ≤ q.len) ∧ q.gdP ∧ r.gdP
theorem Fo.gdP_drop : ∀ (f : Fo) (j : Nat), f.gdP → (f.drop j).gdP
  | f, 0, h => by simpa [Fo.drop] using h
  | .nil, j + 1, h => trivial
  | .cons _ _ _ _ _ _ r, j + 1, h => Fo.gdP_drop r j h.2.2
/-- What a call of toward, or of state, brings. -/
structure Tws (w0 w : World) (n : Nat) (l : List Ns) (most : Nat) (F : List Nat) : Prop where
  mr : Mkr w n l most F
  md : Md [] w0 w
  lo : ∀ b ∈ F, w0.heap.size ≤ b
  len : l.length ≤ most + 1
theorem Tws.step {w0 w w' : World} {n : Nat} {l l' : List Ns} {most : Nat} {F F' : List Nat} (S : Tws w0 w n l most F) (h : Mkr w' n l' most F') (hm : Md F w w') (hf : FrN w F F') (hl : l'.length ≤ most + 1) : Tws w0 w' n l' most F' :=
  ⟨h, S.md.old hm S.lo, fun b hb => by rcases hf b hb with h | h; exact S.lo b h; have := S.md.size; omega, hl⟩
theorem Tws.md0 {w0 w w' : World} {n : Nat} {l : List Ns} {most : Nat} {F : List Nat} (S : Tws w0 w n l most F) (hm : Md [] w w') : Tws w0 w' n l most F := ⟨S.mr.md0 hm, S.md.trans hm, S.lo, S.len⟩
/-- Blocks that are there, and are none of the maker's. -/
def LN (L : List Nat) (w : World) (F : List Nat) : Prop := ∀ b ∈ L, b < w.heap.size ∧ b ∉ F
theorem LN.fr {L F F' : List Nat} {w w' : World} (h : LN L w F) (hf : FrN w F F') (hs : w.heap.size ≤ w'.heap.size) : LN L w' F' := fun b hb => by
  obtain ⟨h1, h2⟩ := h b hb
  refine ⟨by omega, fun hm => ?_⟩
  rcases hf b hm with h3 | h3
  · exact h2 h3
  · omega
theorem in164 {w0 w : World} {n : Nat} {l : List Ns} {most : Nat} {F L : List Nat} (S : Tws w0 w n l most F) (hL : LN L w F) (hm : most ≤ 20000) (k a b c d e f t : Int) {K : Int → World → Prop}
    (kk : ∀ F' w', Tws w0 w' n (pst most l ⟨k, a, b, c, d, e, f, t⟩).1 most F' → Md F w w' → FrN w F F' → LN L w' F' → K (pst most l ⟨k, a, b, c, d, e, f, t⟩).2 w') :
    CallW Try.prog L 164 #[.pointer (some ⟨n, 0, none⟩), .agg #[.int .u8 k, .int .u64 a, .int .u64 b, .int .u64 c, .int .u64 d, .int .i64 e, .int .i64 f, .int .i64 t]] (fun v w' => opI .i64 v fun x => K x w') w := by
  refine (f164_ok n l most F ⟨k, a, b, c, d, e, f, t⟩ w S.mr hm S.len).callD (fun b hb => (hL b hb).1) (fun b hb => (hL b hb).2) ?_
  rintro v w' ⟨rfl, F', h1, h2⟩ h'
  exact opI_in (kk F' w' (S.step h1 h' h2 (mst_len most l _ S.len).2) h' h2 (hL.fr h2 h'.size))
end Fk
set_option linter.unusedVariables false
set_option linter.unusedSimpArgs false
set_option maxRecDepth 100000
set_option maxHeartbeats 2000000
namespace Fk
open Go Go.Proofs Go.RowKit
theorem wrL_a {l : List Ns} {i : Nat} (hi : i < l.length) (y : Int) : wrL (l.flatMap nsE) (i * 8 + 5) [.int .i64 y] = (l.set i { l[i] with a := y }).flatMap nsE := by
  rw [← wrL_flat encNs l i { l[i] with a := y } hi]
  apply List.ext_getElem?
  intro j
  have hlen := encNs.lenL l
  rw [wrL_get (by simp only [List.length_cons, List.length_nil]; omega), wrL_get (by rw [encNs.len]; omega), encNs.len]
  simp only [List.length_cons, List.length_nil]
  by_cases h1 : i * 8 ≤ j ∧ j < i * 8 + 8
  · obtain ⟨r, rfl⟩ : ∃ r, j = i * 8 + r := ⟨j - i * 8, by omega⟩
    have hr : r < 8 := by omega
    rw [if_pos h1, encNs.at l i r l[i] (List.getElem?_eq_getElem hi) hr, show i * 8 + r - i * 8 = r by omega]
    rcases (by omega : r = 0 ∨ r = 1 ∨ r = 2 ∨ r = 3 ∨ r = 4 ∨ r = 5 ∨ r = 6 ∨ r = 7) with rfl | rfl | rfl | rfl | rfl | rfl | rfl | rfl
    case inr.inr.inr.inr.inr.inl => rw [if_pos (by omega)]; simp [nsE]
    all_goals (rw [if_neg (by omega)]; simp [nsE])
  · rw [if_neg h1, if_neg (by omega)]
theorem NN_in {A : Addr} {k : Addr → Prop} (h : k A) : NN (some A) k := h
theorem star_put {w0 w : World} {n : Nat} {l2 : List Ns} {most : Nat} {F : List Nat} {n1 : Nat} (S : Tws w0 w n l2 most F) (x : Int) (i : Nat) (hx : x = (i : Int)) (hi : i < l2.length) (kid : Int) (hn1 : n1 ∉ F) {K : World → Prop}
    (kk : ∀ w', Tws w0 w' n (setA l2 x kid) most F → Md F w w' → K w') :
    Ld w ((Addr.mk n 0 none).add 0) fun v115 => opL v115 fun a116 n117 n118 => IxOk x n117 a116 ∧ ¬ Addr.block (adAt a116 x 8) ∈ [n1] ∧ Wr w ((adAt a116 x 8).add 5) 1 ∧ K (setCells w ((adAt a116 x 8).add 5) 0 [.int .i64 kid]) := by
  subst hx
  obtain ⟨a, c, hk, hF⟩ := S.mr
  refine hk.blk.ld' rfl <| opL_in ?_
  have hlen := encNs.lenL l2
  obtain ⟨A, rfl, p1, p2, p3, p4, p5⟩ := own_put hk.own (i * 8 + 5) [.int .i64 kid] (by simp only [List.length_cons, List.length_nil]; omega) (by simp)
  have hA : (adAt (some A) (i : Int) 8).add 5 = A.add (i * 8 + 5) := by
    rw [← add_add]
    simp [adAt]
  have hB : (adAt (some A) (i : Int) 8).block = A.block := by simp [adAt, add_block]
  have hAF : A.block ∈ F := by rw [hF, mem_fpM]; exact .inr ⟨A, rfl, rfl⟩
  rw [wrL_a hi] at p4
  have es : setA l2 (i : Int) kid = l2.set i { l2[i] with a := kid } := by unfold setA; simp [hi]
  rw [hA, hB]
  have hne : A.block ≠ n := hk.ne A rfl
  have own' : OwnL (setCells w (A.add (i * 8 + 5)) 0 [.int .i64 kid]) 0 103 8 nsE (some A) c (l2.set i { l2[i] with a := kid }) := by
    unfold OwnL
    rw [List.length_set]; exact p4
  refine ⟨(hk.own.row encNs).ix hi, by simp; exact fun e => hn1 (e ▸ hAF), p3, kk _ ⟨⟨some A, c, ⟨?_, ?_, hk.ne⟩, hF⟩, S.md.old p5 (by simp; exact S.lo _ hAF), S.lo, by rw [es, List.length_set]; exact S.len⟩ (p5.mono (by simp; exact hAF))⟩
  · have := hk.blk.md p5 (by simp; exact fun e => hne e.symm)
    rw [es, List.length_set]; exact this
  · rw [es]; exact own'
def Tow (most : Nat) (q : Fo) : Prop := ∀ (k a b c d : Int) (sa : Option Addr) (sc : Nat) (to : Int) (n : Nat) (l : List Ns) (F : List Nat) (w0 w : World), RepF w0 sa 0 q → q.len < 2 ^ 63 → ((k = 3 ∨ k = 4) → 1 ≤ q.len) → q.gdP → Tws w0 w n l most F →
    Ct Try.prog 163 #[.pointer (some ⟨n, 0, none⟩), .agg #[.int .u8 k, .int .u64 a, .int .u64 b, .int .u64 c, .int .u64 d, .slice sa q.len sc], .int .i64 to] w
      fun v w' => (v = .int .i64 (twOne most k a b c d (tw most q) (l, to)).2 ∧ ∃ F', Tws w0 w' n (twOne most k a b c d (tw most q) (l, to)).1 most F' ∧ FrN w F F') ∧ Md F w w'
theorem in163 {most : Nat} {q : Fo} (hT : Tow most q) {k a b c d : Int} {sa : Option Addr} {sc : Nat} (to : Int) {n : Nat} {l : List Ns} {F L : List Nat} {w0 w : World} (h1 : RepF w0 sa 0 q) (h2 : q.len < 2 ^ 63) (h3 : (k = 3 ∨ k = 4) → 1 ≤ q.len) (h4 : q.gdP) (S : Tws w0 w n l most F) (hL : LN L w F) {K : Int → World → Prop}
    (kk : ∀ F' w', Tws w0 w' n (twOne most k a b c d (tw most q) (l, to)).1 most F' → Md F w w' → FrN w F F' → LN L w' F' → K (twOne most k a b c d (tw most q) (l, to)).2 w') :
    CallW Try.prog L 163 #[.pointer (some ⟨n, 0, none⟩), .agg #[.int .u8 k, .int .u64 a, .int .u64 b, .int .u64 c, .int .u64 d, .slice sa q.len sc], .int .i64 to] (fun v w' => opI .i64 v fun x => K x w') w := by
  refine (hT k a b c d sa sc to n l F w0 w h1 h2 h3 h4 S).callD (fun b hb => (hL b hb).1) (fun b hb => (hL b hb).2) ?_
  rintro v w' ⟨rfl, F', h5, h6⟩ h'
  exact opI_in (kk F' w' h5 h' h6 (hL.fr h6 h'.size))
/-- A kid is read. -/
theorem kid_ld {w0 w : World} {sa : Option Addr} {q : Fo} {j : Nat} {k a b c d : Int} {q' : Fo} (h : RepF w0 sa 0 q) (hm : Md [] w0 w) (he : q.drop j = .cons k a b c d q' (q.drop (j + 1))) (hj : j < q.len) {K : Int → Int → Int → Int → Int → Option Addr → Nat → Nat → Prop}
    (kk : ∀ sa' sc', q'.len < 2 ^ 63 → RepF w0 sa' 0 q' → K k a b c d sa' q'.len sc') :
    IxOk (j : Int) q.len sa ∧ Ld w ((adAt sa (j : Int) 6).add 0) fun v14 => Ld w ((adAt sa (j : Int) 6).add 1) fun v15 => Ld w ((adAt sa (j : Int) 6).add 2) fun v16 => Ld w ((adAt sa (j : Int) 6).add 3) fun v17 => Ld w ((adAt sa (j : Int) 6).add 4) fun v18 => Ld w ((adAt sa (j : Int) 6).add 5) fun v19 =>
      opI .u8 v14 fun x20 => opI .u64 v15 fun x21 => opI .u64 v16 fun x22 => opI .u64 v17 fun x23 => opI .u64 v18 fun x24 => opL v19 fun a25 n26 n27 => K x20 x21 x22 x23 x24 a25 n26 n27 := by
  have := h.drop q 0 j
  rw [he, Nat.zero_add] at this
  obtain ⟨B, sa', sc', rfl, hc, hql, hq, _⟩ := this.at
  exact ⟨⟨by omega, by omega, rfl⟩, ReC.ld (hc.md hm) (kk sa' sc' hql hq)⟩
theorem f163_step (most : Nat) (hm : most ≤ 20000) (q : Fo) (ih : ∀ q' : Fo, q'.size < q.size → Tow most q') : Tow most q := by
  intro k a b c d sa sc to n l F w0 w hr hql hk34 hgood S
  apply f163_in
  intro n1 hn1 w2 h2 hL2
  have S2 := S.md0 h2
  refine (f165_ok n l most F w2 S2.mr).call hL2 ?_
  rintro v w4 rfl m4
  have S4 := S2.md0 m4
  have m24 := h2.trans m4
  have l1 : n1 < w4.heap.size := by have := hL2 n1 (by simp); have := m4.size; omega
  have hLN : LN [n1] w4 F := fun b hb => by
    simp at hb; subst hb
    exact ⟨l1, fun hm => by have := S.mr.lt _ hm; omega⟩
  refine opB_in <| If_in (fun hb => ?_) fun hb => Bd_e rfl <| Bd_e (y := (q.len : Int) - 1) (by rw [IntKind.wrap_i64]; omega) ?_
  · have hfull : l.length > most := by simpa using hb
    have e : twOne most k a b c d (tw most q) (l, to) = (l, to) := by unfold twOne; rw [if_pos hfull]
    rw [e]
    exact ⟨⟨rfl, F, S4, FrN.refl _ _⟩, m24.mono (by simp)⟩
  have hnf : ¬ l.length > most := by simpa using hb
  have up : ∀ {F' : List Nat} {w' : World} {l' : List Ns}, Tws w0 w' n l' most F' → Md F w4 w' → FrN w4 F F' → (∃ F', Tws w0 w' n l' most F' ∧ FrN w F F') ∧ Md F w w' := fun {F' w' l'} h1 h2 h3 =>
    ⟨⟨F', h1, fun b hb => by rcases h3 b hb with h | h; exact .inl h; have := m24.size; right; omega⟩, Md_frN (m24.mono (by simp)) h2 (FrN.refl _ _)⟩
  refine Jn_in (fun us vs w' => ∃ (x y : Int) (b1 b2 : Bool), us = [.int .i64 x, .int .i64 y, .bool b1, .bool b2] ∧ x = (twOne most k a b c d (tw most q) (l, to)).2 ∧ (∃ F', Tws w0 w' n (twOne most k a b c d (tw most q) (l, to)).1 most F' ∧ FrN w F F') ∧ Md F w w') ?_ ?_
  · rintro us vs w10 ⟨x, y, b1, b2, rfl, rfl, h3, h4⟩
    exact opI_in <| opI_in <| opB_in <| opB_in ⟨⟨rfl, h3⟩, h4⟩
  refine Bd_in fun b16 hb16 => If_in (fun hb => ?_) fun hb1 => ?_
  · have hk : k = 1 := by rw [hb16] at hb; simpa using hb
    have e : twOne most k a b c d (tw most q) (l, to) = pst most l ⟨1, a, b, c, d, to, 0, 0⟩ := by unfold twOne; rw [if_neg hnf, if_pos hk]
    rw [e]
    refine in164 S4 hLN hm 1 a b c d to 0 0 fun F' w18 S18 m18 f18 _ => ?_
    obtain ⟨u1, u2⟩ := up S18 m18 f18
    exact ⟨⟨rfl, u1⟩, u2⟩

  have hk1 : k ≠ 1 := by rw [hb16] at hb1; simpa using hb1
  refine Bd_in fun b20 hb20 => If_in (fun hb => ?_) fun hb2 => ?_
  · have hk : k = 2 := by rw [hb20] at hb; simpa using hb
    have e : twOne most k a b c d (tw most q) (l, to) = (tw most q).cat (l, to) := by unfold twOne; rw [if_neg hnf, if_neg hk1, if_pos hk]
    refine LoopP_in (fun mm us vs w' => ∃ (j : Nat) (x : Int) (l' : List Ns) (F' : List Nat), us = [.int .i64 x, .int .i64 ((j : Int) - 1)] ∧ mm = j ∧ j ≤ q.len ∧ (tw most (q.drop j)).cat (l, to) = (l', x) ∧ Tws w0 w' n l' most F' ∧ Md F w4 w' ∧ FrN w4 F F' ∧ LN [n1] w' F') q.len
      ⟨q.len, to, l, F, rfl, rfl, Nat.le_refl _, by rw [Fo.drop_all q _ (Nat.le_refl _)]; rfl, S4, Md.refl _ _, FrN.refl _ _, hLN⟩ ?_
    rintro mm us vs w24 ⟨j, x, l', F', rfl, hmm, hj, hc, St, m, f, hL⟩
    refine opI_in <| opI_in <| Bd_in fun b27 hb27 => If_in (fun hb => ?_) fun hb => ?_
    · have hj1 : (j : Int) - 1 ≥ 0 := by rw [hb27] at hb; exact of_decide_eq_true hb
      obtain ⟨i, rfl⟩ : ∃ i, j = i + 1 := ⟨j - 1, by omega⟩
      have ei : (((i + 1 : Nat) : Int) - 1) = (i : Int) := by omega
      rw [ei]
      obtain ⟨k', a', b', c', d', q', he, hqs⟩ := Fo.drop_cons q i hj
      have hg := q.gdP_drop i hgood
      rw [he] at hg
      refine kid_ld hr St.md he hj fun sa' sc' hql' hr' => ?_
      refine in163 (ih q' hqs) x hr' hql' hg.1 hg.2.1 St hL fun F2 w43 S43 m43 f43 lf43 => Bd_e (y := (i : Int) - 1) (by rw [IntKind.wrap_i64]; omega) ⟨i, by omega, i, _, _, F2, rfl, rfl, by omega, ?_, S43, Md_frN m m43 f, f.trans f43 m.size, lf43⟩
      rw [he]
      show twOne most k' a' b' c' d' (tw most q') ((tw most (q.drop (i + 1))).cat (l, to)) = _
      rw [hc]
    · have hj1 : ¬ (j : Int) - 1 ≥ 0 := by rw [hb27] at hb; exact of_decide_eq_false hb
      have hj0 : j = 0 := by omega
      subst hj0
      obtain ⟨u1, u2⟩ := up St m f
      have hc' : (tw most q).cat (l, to) = (l', x) := by simpa [Fo.drop] using hc
      rw [e, hc']
      exact ⟨x, 0, b16, b20, rfl, rfl, u1, u2⟩
  have hk2 : k ≠ 2 := by rw [hb20] at hb2; simpa using hb2
  refine Bd_in fun b46 hb46 => If_in (fun hb => ?_) fun hb3 => ?_
  · have hk : k = 3 := by rw [hb46] at hb; simpa using hb
    have e : twOne most k a b c d (tw most q) (l, to) = (((tw most q).alt to l).1, ((tw most q).alt to l).2.getD 0) := by unfold twOne; rw [if_neg hnf, if_neg hk1, if_neg hk2, if_pos hk]
    have hl1 := hk34 (.inl hk)
    obtain ⟨j0, hj0⟩ : ∃ j0, q.len = j0 + 1 := ⟨q.len - 1, by omega⟩
    have ei : (q.len : Int) - 1 = (j0 : Int) := by omega
    rw [ei]
    obtain ⟨k', a', b', c', d', q', he, hqs⟩ := Fo.drop_cons q j0 (by omega)
    have hg := q.gdP_drop j0 hgood
    rw [he] at hg
    refine kid_ld hr S4.md he (by omega) fun sa' sc' hql' hr' => ?_
    refine in163 (ih q' hqs) to hr' hql' hg.1 hg.2.1 S4 hLN fun F1 w62 S62 m62 f62 lf62 => Bd_e (y := (j0 : Int) - 1) (by rw [IntKind.wrap_i64]; omega) ?_
    refine LoopP_in (fun mm us vs w' => ∃ (j : Nat) (x : Int) (l' : List Ns) (F' : List Nat), us = [.int .i64 x, .int .i64 ((j : Int) - 1)] ∧ mm = j ∧ j ≤ j0 ∧ (tw most (q.drop j)).alt to l = (l', some x) ∧ Tws w0 w' n l' most F' ∧ Md F w4 w' ∧ FrN w4 F F' ∧ LN [n1] w' F') j0
      ⟨j0, _, _, F1, rfl, rfl, Nat.le_refl _, by rw [he, Fo.drop_all q _ (by omega)]; rfl, S62, m62, f62, lf62⟩ ?_
    rintro mm us vs w24 ⟨j, x, l', F', rfl, hmm, hj, hc, St, m, f, hL⟩
    refine opI_in <| opI_in <| Bd_in fun b27 hb27 => If_in (fun hb => ?_) fun hb => ?_
    · have hj1 : (j : Int) - 1 ≥ 0 := by rw [hb27] at hb; exact of_decide_eq_true hb
      obtain ⟨i, rfl⟩ : ∃ i, j = i + 1 := ⟨j - 1, by omega⟩
      have ei : (((i + 1 : Nat) : Int) - 1) = (i : Int) := by omega
      rw [ei]
      obtain ⟨k2, a2, b2, c2, d2, q2, he2, hqs2⟩ := Fo.drop_cons q i (by omega)
      have hg2 := q.gdP_drop i hgood
      rw [he2] at hg2
      refine kid_ld hr St.md he2 (by omega) fun sa' sc' hql' hr' => ?_
      refine in163 (ih q2 hqs2) to hr' hql' hg2.1 hg2.2.1 St hL fun F2 w43 S43 m43 f43 lf43 => ?_
      refine in164 S43 lf43 hm 2 0 0 0 0 _ x 0 fun F3 w44 S44 m44 f44 lf44 => Bd_e (y := (i : Int) - 1) (by rw [IntKind.wrap_i64]; omega) ⟨i, by omega, i, _, _, F3, rfl, rfl, by omega, ?_, S44, Md_frN (Md_frN m m43 f) m44 (f.trans f43 m.size), (f.trans f43 m.size).trans f44 (by have := m.size; have := m43.size; omega), lf44⟩
      rw [he2]
      show twAlt most (twOne most k2 a2 b2 c2 d2 (tw most q2)) (tw most (q.drop (i + 1))) to l = _
      unfold twAlt
      simp only [hc]
      rfl
    · have hj1 : ¬ (j : Int) - 1 ≥ 0 := by rw [hb27] at hb; exact of_decide_eq_false hb
      have hj0 : j = 0 := by omega
      subst hj0
      obtain ⟨u1, u2⟩ := up St m f
      have hc' : (tw most q).alt to l = (l', some x) := by simpa [Fo.drop] using hc
      rw [e, hc']
      exact ⟨⟨rfl, u1⟩, u2⟩
  have hk3 : k ≠ 3 := by rw [hb46] at hb3; simpa using hb3
  refine Bd_in fun b93 hb93 => If_in (fun hb => ?_) fun hb4 => ?_
  case refine_2 =>
    have hk4 : k ≠ 4 := by rw [hb93] at hb4; simpa using hb4
    have e : twOne most k a b c d (tw most q) (l, to) = (l, to) := by unfold twOne; rw [if_neg hnf, if_neg hk1, if_neg hk2, if_neg hk3, if_neg hk4]
    obtain ⟨u1, u2⟩ := up S4 (Md.refl _ _) (FrN.refl _ _)
    rw [e]
    exact ⟨to, 0, b16, b20, rfl, rfl, u1, u2⟩
  have hk : k = 4 := by rw [hb93] at hb; simpa using hb
  have e : twOne most k a b c d (tw most q) (l, to) = (setA ((tw most q).one (pst most l (spl 0 to))).1 (pst most l (spl 0 to)).2 ((tw most q).one (pst most l (spl 0 to))).2, (pst most l (spl 0 to)).2) := by unfold twOne; rw [if_neg hnf, if_neg hk1, if_neg hk2, if_neg hk3, if_pos hk]
  have hl1 := hk34 (.inr hk)
  obtain ⟨k', a', b', c', d', q', he, hqs⟩ := Fo.drop_cons q 0 (by omega)
  have he0 : q = .cons k' a' b' c' d' q' (q.drop 1) := by have := he; simpa [Fo.drop] using this
  have hg := hgood
  rw [he0] at hg
  refine in164 S4 hLN hm 2 0 0 0 0 0 to 0 fun F1 w95 S95 m95 f95 lf95 => kid_ld (j := 0) hr S95.md he (by omega) fun sa' sc' hql' hr' => ?_
  refine in163 (ih q' hqs) _ hr' hql' hg.1 hg.2.1 S95 lf95 fun F2 w112 S112 m112 f112 lf112 => ?_
  have eone : (tw most q).one = twOne most k' a' b' c' d' (tw most q') := by rw [he0]; rfl
  have hlp := (tw_len most q).2.2 (pst most l (spl 0 to)) S95.len
  rw [eone] at e hlp
  have hp1 : 1 ≤ (pst most l (spl 0 to)).1.length := by show 1 ≤ (mst most l _).length; unfold mst; split <;> (try simp) <;> omega
  have hp2 : (pst most l (spl 0 to)).2 = ((pst most l (spl 0 to)).1.length : Int) - 1 := rfl
  change Tws w0 w112 n (twOne most k' a' b' c' d' (tw most q') (pst most l (spl 0 to))).1 most F2 at S112
  rw [e]
  refine NN_in <| star_put (K := fun w' => (Value.int .i64 (pst most l (spl 0 to)).2 = .int .i64 (pst most l (spl 0 to)).2 ∧ ∃ F', Tws w0 w' n (setA (twOne most k' a' b' c' d' (tw most q') (pst most l (spl 0 to))).1 (pst most l (spl 0 to)).2 (twOne most k' a' b' c' d' (tw most q') (pst most l (spl 0 to))).2) most F' ∧ FrN w F F') ∧ Md F w w') S112 (pst most l (spl 0 to)).2 ((pst most l (spl 0 to)).1.length - 1) (by omega) (by omega) _ (lf112 n1 (by simp)).2 fun w' S' m' => ?_
  have mm := Md_frN (Md_frN m95 m112 f95) m' ((f95.trans f112 m95.size))
  obtain ⟨u1, u2⟩ := up S' mm (f95.trans f112 m95.size)
  exact ⟨⟨rfl, u1⟩, u2⟩
theorem tow_ok (most : Nat) (hm : most ≤ 20000) : ∀ (s : Nat) (q : Fo), q.size < s → Tow most q
  | 0, q, h => by omega
  | s + 1, q, h => f163_step most hm q fun q' h' => tow_ok most hm s q' (by omega)
end Fk
set_option linter.unusedVariables false
set_option linter.unusedSimpArgs false
set_option maxRecDepth 100000
namespace Fk
open Go Go.Proofs Go.RowKit
theorem good_of_right : ∀ f : Fo, f.right = true → f.gdP
  | .nil, _ => trivial
  | .cons k a b c d q r, h => by
    simp only [Fo.right, Bool.and_eq_true] at h
    refine ⟨fun hk => ?_, good_of_right q h.1.2, good_of_right r h.2⟩
    have h1 := h.1.1
    unfold nodeOk at h1
    rcases hk with rfl | rfl <;> simp at h1 <;> omega
/-- The trees of a row, one behind the other: an end, what the tree makes, and where it begins. -/
def bldF (most : Nat) : Fo → Int → List Ns → List Int → List Ns × List Int
  | .nil, _, l, bs => (l, bs)
  | .cons k a b c d q r, i, l, bs =>
    let s := pst most l ⟨0, 0, 0, 0, 0, 0, 0, i⟩
    let t := twOne most k a b c d (tw most q) s
    bldF most r (i + 1) t.1 (bs ++ [t.2])
/-- The beginnings, joined from the last one on. -/
def joinB (most : Nat) : List Int → List Ns → List Ns × Int
  | [], l => (l, 0)
  | b :: bs, l => match bs with
    | [] => (l, b)
    | _ :: _ => pst most (joinB most bs l).1 (spl b (joinB most bs l).2)
def bld (f : Fo) (most : Int) : (Int × List Ns) × Int :=
  if 1 ≤ f.len ∧ f.len ≤ 200 ∧ 1 ≤ most ∧ most ≤ 20000 ∧ f.right = true then
    let t := bldF most.toNat f 0 [] []
    let j := joinB most.toNat t.2 t.1
    if (j.1.length : Int) > most then ((0, []), 40) else ((j.2, j.1), 0)
  else ((0, []), 2)
end Fk
set_option linter.unusedVariables false
set_option linter.unusedSimpArgs false
set_option maxRecDepth 100000
set_option maxHeartbeats 2000000
namespace Fk
open Go Go.Proofs Go.RowKit
theorem OwnL.up {α : Type} {w : World} {base b : Nat} {e : TypeId} {size : Nat} {enc : α → List Value} {a : Option Addr} {c : Nat} {l : List α} (h : OwnL w base e size enc a c l) (hb : ∀ A, a = some A → b ≤ A.block) : OwnL w b e size enc a c l := by
  refine ⟨h.1, ?_⟩
  rcases h.2 with hn | ⟨g, cap, cur, hv, hb', rest⟩
  · exact .inl hn
  · refine .inr ⟨g, cap, cur, hv, ?_, rest⟩
    simp only [Value.slice.injEq] at hv
    exact hb _ hv.1
theorem right_take : ∀ (f : Fo) (j : Nat), f.right = true → (f.drop j).right = true
  | f, 0, h => by simpa [Fo.drop] using h
  | .nil, j + 1, h => rfl
  | .cons _ _ _ _ _ _ r, j + 1, h => by
    simp only [Fo.right, Bool.and_eq_true] at h
    exact right_take r j h.2
theorem right_pre {f : Fo} {j : Nat} {k a b c d : Int} {q : Fo} (he : f.drop j = .cons k a b c d q (f.drop (j + 1))) (h : f.right = true) : nodeOk k (z4 a b c d) q.len = true ∧ q.right = true := by
  have := right_take f j h
  rw [he] at this
  simp only [Fo.right, Bool.and_eq_true] at this
  exact this.1
theorem right_at : ∀ (f : Fo), (∀ j k a b c d q, j < f.len → f.drop j = .cons k a b c d q (f.drop (j + 1)) → nodeOk k (z4 a b c d) q.len = true ∧ q.right = true) → f.right = true
  | .nil, _ => rfl
  | .cons k a b c d q r, h => by
    have h0 := h 0 k a b c d q (by simp [Fo.len]) (by simp only [Fo.drop])
    have hr := right_at r fun j k' a' b' c' d' q' hj he => h (j + 1) k' a' b' c' d' q' (by simp only [Fo.len]; omega) (by simp only [Fo.drop]; exact he)
    simp only [Fo.right, Bool.and_eq_true]
    exact ⟨⟨h0.1, h0.2⟩, hr⟩
/-- All trees are asked, as long as they are right. -/
def firstR (f : Fo) (i : Nat) : Prop := ∀ j k a b c d q, j < i → f.drop j = .cons k a b c d q (f.drop (j + 1)) → nodeOk k (z4 a b c d) q.len = true ∧ q.right = true
end Fk
set_option linter.unusedVariables false
set_option linter.unusedSimpArgs false
set_option maxRecDepth 100000
set_option maxHeartbeats 2000000
namespace Fk
open Go Go.Proofs Go.RowKit
theorem Nw_i {o : Obj} {w : World} {K : Nat → World → Prop} (k : K w.heap.size (w.alloc o)) : Nw o w K := fun _ _ e1 e2 => by subst e1; subst e2; exact k
theorem f66_ok (f : Fo) (A : Option Addr) (C : Nat) (most : Int) (w : World) (hr : RepF w A 0 f) (hl : f.len < 2 ^ 63) :
    Ct Try.prog 66 #[.slice A f.len C, .int .i64 most] w fun v w' => (∃ a c, v = .tuple #[.agg #[.int .i64 (bld f most).1.1, .slice a (bld f most).1.2.length c], .int .i64 (bld f most).2] ∧ OwnL w' w.heap.size 103 8 nsE a c (bld f most).1.2) ∧ Md [] w w' := by
  apply f66_in
  intro n1 hn1
  refine Bd_e rfl <| Bd_in fun b3 hb3 => Bd_e rfl <| Bd_in fun b5 hb5 => Bd_in fun b6 hb6 => Bd_in fun b7 hb7 => Bd_in fun b8 hb8 => Bd_in fun b9 hb9 => Bd_in fun b10 hb10 w11 h11 hL11 => ?_
  have e10 : b10 = decide (1 ≤ f.len ∧ f.len ≤ 200 ∧ 1 ≤ most ∧ most ≤ 20000) := by
    rw [hb10, hb8, hb9, hb6, hb7, hb3, hb5]
    by_cases c1 : 1 ≤ f.len <;> by_cases c2 : f.len ≤ 200 <;> by_cases c3 : 1 ≤ most <;> by_cases c4 : most ≤ 20000 <;> simp [c1, c2, c3, c4] <;> omega
  refine LoopP_in (fun mm us vs w' => ∃ (i : Nat) (b : Bool), us = [.bool b, .int .i64 i] ∧ mm = f.len - i ∧ i ≤ f.len ∧ Md [] w w' ∧ n1 < w'.heap.size ∧ (b = true → b10 = true ∧ firstR f i) ∧ (b = false → b10 = false ∨ f.right = false)) f.len ⟨0, b10, rfl, rfl, by omega, h11, hL11 n1 (by simp), fun h => ⟨h, fun j _ _ _ _ _ _ hj => by omega⟩, fun h => .inl h⟩ ?_
  rintro mm us vs w15 ⟨i, b, rfl, hmm, hi, hmd, hn, hT, hFl⟩
  refine opB_in <| opI_in <| Bd_e rfl <| Bd_in fun b19 hb19 => Bd_in fun b20 hb20 => If_in (fun hb => ?_) fun hb => Bd_in fun b39 hb39 => If_in (fun hno w40 h40 hL40 => ?_) fun hyes => ?_
  · have hbt : i < f.len ∧ b = true := by
      rw [hb20, hb19] at hb
      by_cases c : i < f.len
      · simp [c] at hb; exact ⟨c, hb⟩
      · simp [c] at hb
    obtain ⟨k, a, b', c, d, q, he, hqs⟩ := Fo.drop_cons f i hbt.1
    refine kid_ld hr hmd he hbt.1 fun sa' sc' hql' hr' => ?_
    refine (f144_ok q.size q k a b' c d sa' sc' w15 (Nat.le_refl _) (hr'.md hmd) hql').call (by simpa using hn) ?_
    rintro v w36 rfl m36
    obtain ⟨g1, g2⟩ := hT hbt.2
    refine opB_in <| Bd_e (y := ((i + 1 : Nat) : Int)) (by rw [IntKind.wrap_i64]; omega) ⟨f.len - (i + 1), by omega, i + 1, _, rfl, rfl, by omega, hmd.trans m36, by have := m36.size; omega, fun h => ⟨g1, fun j k' a' b'' c' d' q' hj he' => ?_⟩, fun h => .inr ?_⟩
    · by_cases hji : j < i
      · exact g2 j _ _ _ _ _ _ hji he'
      · have : j = i := by omega
        subst this
        rw [he] at he'
        injection he' with e1 e2 e3 e4 e5 e6
        subst e1; subst e2; subst e3; subst e4; subst e5; subst e6
        simpa using h
    · by_cases hfr : f.right = true
      · have := right_pre he hfr
        rw [this.1, this.2] at h
        simp at h
      · simpa using hfr
  · have hbf : b = false := by rw [hb39] at hno; simpa using hno
    have m40 : Md [] w w40 := hmd.old h40 (by simp; exact hn1)
    have e : bld f most = ((0, []), 2) := by
      unfold bld
      rw [if_neg]
      rintro ⟨h1, h2, h3, h4, h5⟩
      rcases hFl hbf with h | h
      · rw [e10, decide_eq_true ⟨h1, h2, h3, h4⟩] at h; cases h
      · rw [h5] at h; cases h
    rw [e]
    exact ⟨⟨none, 0, rfl, OwnL.nil _ _ _ _ _⟩, m40⟩
  have hbt : b = true := by rw [hb39] at hyes; simpa using hyes
  have hif : i = f.len := by
    rw [hb20, hb19, hbt] at hb
    have : ¬ (i : Int) < (f.len : Int) := by simpa using hb
    omega
  subst hif
  obtain ⟨g1, g2⟩ := hT hbt
  have hright : f.right = true := right_at f fun j k a b c d q hj he => g2 j k a b c d q hj he
  have hcond : 1 ≤ f.len ∧ f.len ≤ 200 ∧ 1 ≤ most ∧ most ≤ 20000 := by rw [g1] at e10; exact of_decide_eq_true e10.symm
  obtain ⟨mo, rfl⟩ := Int.eq_ofNat_of_zero_le (show 0 ≤ most by omega)
  have hgood := good_of_right f hright
  intro n41 w42 e41 e42
  subst e41; subst e42
  have ma : Md [] w15 (w15.alloc (.cells #[.slice none 0 0, .int .i64 mo] 214)) := Md.alloc w15 _
  have b42 : Blk (w15.alloc (.cells #[.slice none 0 0, .int .i64 mo] 214)) w15.heap.size 214 [.slice none 0 0, .int .i64 mo] := Blk.new w15 _ 214
  have T42 : Tws w (w15.alloc (.cells #[.slice none 0 0, .int .i64 mo] 214)) w15.heap.size [] mo (fpM w15.heap.size none) := ⟨⟨none, 0, ⟨b42, OwnL.nil _ _ _ _ _, fun A hA => by cases hA⟩, rfl⟩, hmd.trans ma, (fun b hb => by
    rw [mem_fpM] at hb
    rcases hb with rfl | ⟨A, hA, _⟩
    · exact hmd.size
    · cases hA), Nat.zero_le _⟩
  have hn42 : n1 < (w15.alloc (.cells #[.slice none 0 0, .int .i64 mo] 214)).heap.size := by have := ma.size; omega
  have hn1n : LN [n1] (w15.alloc (.cells #[.slice none 0 0, .int .i64 mo] 214)) (fpM w15.heap.size none) := fun b hb => by
    simp at hb; subst hb
    refine ⟨hn42, fun hm => ?_⟩
    rw [mem_fpM] at hm
    rcases hm with h | ⟨A, hA, _⟩
    · omega
    · cases hA
  refine Bd_e rfl ?_
  generalize w15.alloc (.cells #[.slice none 0 0, .int .i64 mo] 214) = w42 at *
  generalize hF0 : fpM w15.heap.size none = F0 at *
  generalize w15.heap.size = n41 at *
  refine LoopP_in (fun mm us vs w' => ∃ (i : Nat) (a : Option Addr) (c : Nat) (l : List Ns) (bs : List Int) (F : List Nat), us = [.slice a bs.length c, .int .i64 i] ∧ mm = f.len - i ∧ i ≤ f.len ∧ bldF mo (f.drop i) i l bs = bldF mo f 0 [] [] ∧ Tws w w' n41 l mo F ∧ OwnL w' w.heap.size 3 1 i1 a c bs ∧ (∀ A, a = some A → A.block ∉ F) ∧ bs.length = i ∧ LN [n1] w' F ∧ (∀ A, a = some A → A.block ≠ n1)) f.len
    ⟨0, none, 0, [], [], F0, rfl, rfl, by omega, by simp [Fo.drop], T42, OwnL.nil _ _ _ _ _, (fun A hA => by cases hA), rfl, hn1n, fun A hA => by cases hA⟩ ?_
  rintro mm us vs w47 ⟨i, a, c, l, bs, F, rfl, hmm, hi, hbl, T, ho, haF, hbs, hL, ha1⟩
  refine opL_in <| opI_in <| Bd_in fun b52 hb52 => If_in (fun hb => ?_) fun hb => ?_
  · have hi' : i < f.len := by rw [hb52] at hb; have : (i : Int) < (f.len : Int) := by simpa using hb
                               omega
    obtain ⟨k, a1, b1', c1, d1, q, he, hqs⟩ := Fo.drop_cons f i hi'
    have hg := f.gdP_drop i hgood
    rw [he] at hg
    refine kid_ld hr T.md he hi' fun sa' sc' hql' hr' n67 hn67 w68 h68 hL68 => ?_
    have m68 : Md [] w47 w68 := h68.fresh (by simp; exact hn67)
    have T68 := (T.md0 m68).md0 (Md_drew w68)
    have L68 : LN [n67, n1] w68.drew F := fun b hb => by
      refine ⟨hL68 b hb, fun hm => ?_⟩
      simp at hb
      rcases hb with rfl | rfl
      · have := T.mr.lt _ hm; omega
      · exact (hL _ (by simp)).2 hm
    refine ⟨fun _ => True, trivial, in164 T68 L68 (by omega) 0 0 0 0 0 0 0 i fun F1 w71 T71 m71 f71 L71 => ⟨trivial, in163 (tow_ok mo (by omega) (q.size + 1) q (by omega)) _ hr' hql' hg.1 hg.2.1 T71 L71 fun F2 w74 T74 m74 f74 L74 => ⟨trivial, Nw_i ⟨trivial, ?_⟩⟩⟩⟩
    have mF : Md F w47 w74 := Md_frN (Md_frN (m68.trans (Md_drew w68) |>.mono (by simp)) m71 (FrN.refl _ _)) m74 (fun b hb => by
      rcases f71 b hb with h | h
      · exact .inl h
      · right; have := m68.size; have h2 : w68.drew.heap.size = w68.heap.size := rfl; omega)
    have ho74 : OwnL w74 w.heap.size 3 1 i1 a c bs := ho.mdD mF haF
    generalize hx75 : (twOne mo k a1 b1' c1 d1 (tw mo q) (_, _)).2 = x75
    have ma74 : Md [] w74 (w74.alloc (.cells #[.int .i64 x75] 3)) := Md.alloc w74 _
    have ol := OwnL.lit (P := Try.prog) (base := w74.heap.size) enci1 w74 3 [x75] #[.int .i64 x75] (Nat.le_refl _) (by simp [maxLen]) rfl
    have s1 := m68.size
    have s2 : w68.drew.heap.size = w68.heap.size := rfl
    have s3 := m71.size
    have s4 := m74.size
    have s5 := ma74.size
    have s0 := T.md.size
    have haF2 : ∀ A, a = some A → A.block ∉ F2 := fun A hA hm => by
      have hlt := (ho.lt hA).2
      rcases f74 _ hm with h | h
      · rcases f71 _ h with h | h
        · exact haF A hA h
        · omega
      · omega
    have hsp : ∀ A, a = some A → A.block ≠ n67 := fun A hA => by have := (ho.lt hA).2; omega
    refine app_own rowT52 enci1 (ho74.md ma74) ol (by omega) (fun b hb => by have := (L74 b hb).1; omega) (fun b hb A hA => by
      simp at hb
      rcases hb with rfl | rfl
      · exact hsp A hA
      · exact ha1 A hA) (by simp [maxLen]; omega) (by simp; omega) fun a' c' w79 o79 m79 hA' => opL_in ⟨trivial, Bd_e (inc_i64 (by omega)) ?_⟩
    have mT : Md [] w w74 := T74.md
    have T79 : Tws w w79 n41 _ mo F2 := ⟨(T74.md0 ma74).mr.md m79 (fun b hb hm => by
      cases a with
      | none => simp at hm
      | some A => simp at hm; exact haF2 A rfl (hm ▸ hb)), (T74.md0 ma74).md.old m79 (fun d hd => by
      cases a with
      | none => simp at hd
      | some A => simp at hd; rw [hd]; exact (ho.lt rfl).1), T74.lo, T74.len⟩
    have s6 := m79.size
    refine ⟨f.len - (i + 1), by omega, i + 1, a', c', _, bs ++ [x75], F2, rfl, rfl, by omega, ?_, T79, o79, fun A hA hm => ?_, by simp; omega, fun b hb => ?_, fun A hA e => ?_⟩
    · rw [he] at hbl
      rw [← hbl, ← hx75]
      rfl
    · rcases hA' A hA with h | h
      · exact haF2 A h hm
      · have := T74.mr.lt _ hm; omega
    · have := L74 b (by simp at hb ⊢; exact .inr hb)
      exact ⟨by omega, this.2⟩
    · rcases hA' A hA with h | h
      · exact ha1 A h e
      · have := (L74 n1 (by simp)).1; omega
  have hif : i = f.len := by
    have : ¬ (i : Int) < (f.len : Int) := by rw [hb52] at hb; exact of_decide_eq_false hb
    omega
  subst hif
  rw [Fo.drop_all f _ (Nat.le_refl _)] at hbl
  change (l, bs) = _ at hbl
  obtain ⟨j0, hj0⟩ : ∃ j0, f.len = j0 + 1 := ⟨f.len - 1, by omega⟩
  refine Bd_e rfl <| Bd_e (y := (j0 : Int)) (by rw [IntKind.wrap_i64]; omega) ⟨(ho.row enci1).ix (by omega), (ho.row enci1).ld1 (by omega) rfl <| opI_in <| Bd_e rfl <| Bd_e (y := (j0 : Int) - 1) (by rw [IntKind.wrap_i64]; omega) ?_⟩
  have e0 : joinB mo (bs.drop j0) l = (l, bs[j0]'(by omega)) := by
    rw [List.drop_eq_getElem_cons (by omega), List.drop_of_length_le (by omega)]
    rfl
  refine LoopP_in (fun mm us vs w' => ∃ (j : Nat) (x : Int) (l' : List Ns) (F' : List Nat), us = [.int .i64 x, .int .i64 ((j : Int) - 1)] ∧ mm = j ∧ j ≤ j0 ∧ joinB mo (bs.drop j) l = (l', x) ∧ Tws w w' n41 l' mo F' ∧ Md F w47 w' ∧ FrN w47 F F' ∧ LN [n1] w' F') j0
    ⟨j0, _, _, F, rfl, rfl, Nat.le_refl _, e0, T, Md.refl _ _, FrN.refl _ _, hL⟩ ?_
  rintro mm us vs w93 ⟨j, x, l', F', rfl, hmm, hj, hc, St, m, fr, hL'⟩
  refine opI_in <| opI_in <| Bd_in fun b96 hb96 => If_in (fun hb => ?_) fun hb => ?_
  · have hj1 : (j : Int) - 1 ≥ 0 := by rw [hb96] at hb; exact of_decide_eq_true hb
    obtain ⟨i, rfl⟩ : ∃ i, j = i + 1 := ⟨j - 1, by omega⟩
    have ei : (((i + 1 : Nat) : Int) - 1) = (i : Int) := by omega
    rw [ei]
    have ho' : OwnL w93 w.heap.size 3 1 i1 a c bs := ho.mdD m haF
    refine ⟨(ho'.row enci1).ix (by omega), (ho'.row enci1).ld1 (by omega) rfl <| opI_in ?_⟩
    refine in164 St hL' (by omega) 2 0 0 0 0 _ x 0 fun F3 w44 S44 m44 f44 lf44 => Bd_e (y := (i : Int) - 1) (by rw [IntKind.wrap_i64]; omega) ⟨i, by omega, i, _, _, F3, rfl, rfl, by omega, ?_, S44, Md_frN m m44 fr, fr.trans f44 m.size, lf44⟩
    rw [List.drop_eq_getElem_cons (by omega : i < bs.length)]
    obtain ⟨y, ys, hys⟩ : ∃ y ys, bs.drop (i + 1) = y :: ys := ⟨_, _, List.drop_eq_getElem_cons (by omega)⟩
    rw [hys] at hc ⊢
    show pst mo (joinB mo (y :: ys) l).1 (spl _ (joinB mo (y :: ys) l).2) = _
    rw [hc]
    rfl
  have hj1 : ¬ (j : Int) - 1 ≥ 0 := by rw [hb96] at hb; exact of_decide_eq_false hb
  have hjz : j = 0 := by omega
  subst hjz
  have hc' : joinB mo bs l = (l', x) := by simpa using hc
  have eb : bld f mo = if (l'.length : Int) > mo then ((0, []), 40) else ((x, l'), 0) := by
    unfold bld
    rw [if_pos ⟨hcond.1, hcond.2.1, hcond.2.2.1, hcond.2.2.2, hright⟩]
    simp only [Int.toNat_natCast, ← hbl, hc']
  refine (f165_ok n41 l' mo F' w93 St.mr).call (fun b hb => (hL' b hb).1) ?_
  rintro v w104 rfl m104
  have hn104 : n1 < w104.heap.size := by have := (hL' n1 (by simp)).1; have := m104.size; omega
  have mw : Md [] w w104 := St.md.trans m104
  refine opB_in <| If_in (fun hb w106 h106 hL106 => ?_) fun hb => NN_in ?_
  · have : l'.length > mo := by simpa using hb
    rw [eb, if_pos (by omega)]
    exact ⟨⟨none, 0, rfl, OwnL.nil _ _ _ _ _⟩, mw.old h106 (by simp; exact hn1)⟩
  · have hle : ¬ (l'.length : Int) > mo := by
      have : ¬ l'.length > mo := by simpa using hb
      omega
    rw [eb, if_neg hle]
    obtain ⟨a', c', hk, hF⟩ := St.mr.md0 m104
    refine hk.blk.ld' rfl <| opL_in fun w112 h112 hL112 => ?_
    refine ⟨⟨a', c', rfl, (hk.own.mdD h112 (fun A hA => by simp; have h1 := (hL' n1 (by simp)).2; intro e; exact h1 (by rw [hF, mem_fpM]; exact .inr ⟨A, hA, e⟩))).up fun A hA => St.lo _ (by rw [hF, mem_fpM]; exact .inr ⟨A, hA, rfl⟩)⟩, mw.old h112 (by simp; exact hn1)⟩
end Fk
set_option linter.unusedVariables false
set_option linter.unusedSimpArgs false
namespace Fk
open Go Go.Proofs Go.RowKit
def Ns.q (x : Ns) : Q4 := (x.s1, x.s2, x.s3, x.s4)
def On (N : List Bool) (i : Nat) : Prop := N[i]? = some true
instance (N : List Bool) (i : Nat) : Decidable (On N i) := by unfold On; infer_instance
/-- The states of a stack are come to, and what they come to without a byte. -/
def comeF (l : List Ns) : Nat → List Int → List Bool → List Bool
  | 0, _, N => N
  | m + 1, st, N => match st with
    | [] => N
    | x :: r => if On N x.toNat then comeF l m r N
      else comeF l m (match l[x.toNat]? with
        | some s => if s.k = 2 then s.b :: s.a :: r else r
        | none => r) (N.set x.toNat true)
def come (l : List Ns) (x : Int) (N : List Bool) : List Bool := comeF l (2 * l.length + 1) [x] N
/-- By a byte. -/
def stepF (l : List Ns) (b : Nat) : List Bool → List Ns → List Bool → List Bool
  | h :: hs, x :: xs, N => stepF l b hs xs (if h = true ∧ x.k = 1 ∧ inQ x.q b = true then come l x.a N else N)
  | _, _, N => N
def tagF : List Bool → List Ns → Int → Int
  | h :: hs, x :: xs, t => tagF hs xs (if h = true ∧ x.k = 0 ∧ (t < 0 ∨ x.t < t) then x.t else t)
  | _, _, t => t
def offs (n : Nat) : List Bool := List.replicate n false
/-- What some states come to without a byte. -/
inductive Rch (l : List Ns) (S : Nat → Prop) : Nat → Prop
  | base {i : Nat} : S i → Rch l S i
  | a {i : Nat} {x : Ns} : Rch l S i → l[i]? = some x → x.k = 2 → Rch l S x.a.toNat
  | b {i : Nat} {x : Ns} : Rch l S i → l[i]? = some x → x.k = 2 → Rch l S x.b.toNat
theorem Rch.sub {l : List Ns} {S T : Nat → Prop} (h : ∀ i, S i → Rch l T i) {i : Nat} (hi : Rch l S i) : Rch l T i := by
  induction hi with
  | base hs => exact h _ hs
  | a _ h1 h2 ih => exact .a ih h1 h2
  | b _ h1 h2 ih => exact .b ih h1 h2
theorem Rch.mono {l : List Ns} {S T : Nat → Prop} (h : ∀ i, S i → T i) {i : Nat} (hi : Rch l S i) : Rch l T i := hi.sub fun i hs => .base (h i hs)
def OkL (l : List Ns) : Prop := ∀ x ∈ l, 0 ≤ x.a ∧ x.a < l.length ∧ 0 ≤ x.b ∧ x.b < l.length
theorem okL_of_right {st : Int} {l : List Ns} (h : nfRight st l = true) : OkL l ∧ 0 ≤ st ∧ st < l.length ∧ l.length ≤ 20000 ∧ ∀ x ∈ l, okNs l.length x := by
  unfold nfRight at h
  rw [Bool.and_eq_true, decide_eq_true_eq, List.all_eq_true] at h
  refine ⟨fun x hx => ?_, h.1.1, h.1.2.1, h.1.2.2, fun x hx => of_decide_eq_true (h.2 x hx)⟩
  have := of_decide_eq_true (h.2 x hx)
  unfold okNs at this
  omega
theorem On.lt {N : List Bool} {i : Nat} (h : On N i) : i < N.length := by
  unfold On at h
  exact (List.getElem?_eq_some_iff.1 h).1
theorem On_set {N : List Bool} {i j : Nat} (hi : i < N.length) : On (N.set i true) j ↔ On N j ∨ j = i := by
  unfold On
  rw [List.getElem?_set]
  by_cases c : i = j
  · subst c; simp [hi]
  · simp [c]
    exact fun h => absurd h.symm c
def ofc (N : List Bool) : Nat := N.count false
theorem ofc_set {N : List Bool} {i : Nat} (hi : i < N.length) (hn : ¬ On N i) : ofc N = ofc (N.set i true) + 1 := by
  unfold ofc
  have e : N[i] = false := by
    unfold On at hn
    rw [List.getElem?_eq_getElem hi] at hn
    simpa using hn
  rw [List.count_set hi]
  have : 0 < N.count false := List.count_pos_iff.2 (e ▸ List.getElem_mem hi)
  simp [e]; omega
structure CoF (l : List Ns) (st : List Int) (N N' : List Bool) : Prop where
  len : N'.length = l.length
  up : ∀ i, On N i → On N' i
  has : ∀ x ∈ st, On N' x.toNat
  fr : ∀ i, On N' i → On N i ∨ Rch l (fun j => ∃ x ∈ st, x.toNat = j) i
  cl : ∀ i x, On N' i → l[i]? = some x → x.k = 2 → On N i ∨ (On N' x.a.toNat ∧ On N' x.b.toNat)
theorem comeF_ok (l : List Ns) (hl : OkL l) : ∀ (m : Nat) (st : List Int) (N : List Bool), N.length = l.length → (∀ x ∈ st, 0 ≤ x ∧ x < l.length) → 2 * ofc N + st.length ≤ m → CoF l st N (comeF l m st N)
  | 0, st, N, hN, hst, hm => by
    have : st = [] := List.eq_nil_of_length_eq_zero (by omega)
    subst this
    exact ⟨hN, fun _ h => h, by simp, fun _ h => .inl h, fun _ _ h _ _ => .inl h⟩
  | m + 1, [], N, hN, hst, hm => ⟨hN, fun _ h => h, by simp, fun _ h => .inl h, fun _ _ h _ _ => .inl h⟩
  | m + 1, x :: r, N, hN, hst, hm => by
    have hx := hst x (by simp)
    have hr : ∀ y ∈ r, 0 ≤ y ∧ y < l.length := fun y hy => hst y (by simp [hy])
    have hxl : x.toNat < l.length := by omega
    simp only [List.length_cons] at hm
    unfold comeF
    simp only
    split
    · rename_i hon
      have I := comeF_ok l hl m r N hN hr (by omega)
      exact ⟨I.len, I.up, fun y hy => by
        rcases List.mem_cons.1 hy with rfl | hy
        · exact I.up _ hon
        · exact I.has y hy, fun i hi => by
        rcases I.fr i hi with h | h
        · exact .inl h
        · exact .inr (h.mono fun j ⟨y, hy, e⟩ => ⟨y, by simp [hy], e⟩), I.cl⟩
    · rename_i hon
      have hf := ofc_set (N := N) (by omega) hon
      have hs : l[x.toNat]? = some l[x.toNat] := List.getElem?_eq_getElem hxl
      have hmem := hl _ (List.getElem_mem hxl)
      generalize l[x.toNat] = s at hs hmem
      rw [hs]
      simp only
      have hset : ∀ {j}, On (N.set x.toNat true) j ↔ On N j ∨ j = x.toNat := fun {j} => On_set (by omega)
      by_cases hk : s.k = 2
      · rw [if_pos hk]
        have I := comeF_ok l hl m (s.b :: s.a :: r) (N.set x.toNat true) (by simp [hN]) (fun y hy => by
          simp at hy
          rcases hy with rfl | rfl | hy
          · exact ⟨hmem.2.2.1, hmem.2.2.2⟩
          · exact ⟨hmem.1, hmem.2.1⟩
          · exact hr y hy) (by simp; omega)
        have hbase : Rch l (fun j => ∃ y ∈ x :: r, y.toNat = j) x.toNat := .base ⟨x, by simp, rfl⟩
        refine ⟨I.len, fun i hi => I.up i (hset.2 (.inl hi)), fun y hy => ?_, fun i hi => ?_, fun i z hi hz hzk => ?_⟩
        · rcases List.mem_cons.1 hy with rfl | hy
          · exact I.up _ (hset.2 (.inr rfl))
          · exact I.has y (by simp [hy])
        · rcases I.fr i hi with h | h
          · rcases hset.1 h with h | h
            · exact .inl h
            · subst h; exact .inr hbase
          · refine .inr (h.sub fun j hj => ?_)
            obtain ⟨y, hy, e⟩ := hj
            simp at hy
            rcases hy with rfl | rfl | hy
            · rw [← e]; exact .b hbase hs hk
            · rw [← e]; exact .a hbase hs hk
            · exact .base ⟨y, by simp [hy], e⟩
        · rcases I.cl i z hi hz hzk with h | h
          · rcases hset.1 h with h | h
            · exact .inl h
            · subst h
              rw [hs] at hz
              injection hz with hz
              subst hz
              exact .inr ⟨I.has _ (by simp), I.has _ (by simp)⟩
          · exact .inr h
      · rw [if_neg hk]
        have I := comeF_ok l hl m r (N.set x.toNat true) (by simp [hN]) hr (by omega)
        refine ⟨I.len, fun i hi => I.up i (hset.2 (.inl hi)), fun y hy => ?_, fun i hi => ?_, fun i z hi hz hzk => ?_⟩
        · rcases List.mem_cons.1 hy with rfl | hy
          · exact I.up _ (hset.2 (.inr rfl))
          · exact I.has y (by simp [hy])
        · rcases I.fr i hi with h | h
          · rcases hset.1 h with h | h
            · exact .inl h
            · subst h; exact .inr (.base ⟨x, by simp, rfl⟩)
          · exact .inr (h.mono fun j ⟨y, hy, e⟩ => ⟨y, by simp [hy], e⟩)
        · rcases I.cl i z hi hz hzk with h | h
          · rcases hset.1 h with h | h
            · exact .inl h
            · subst h
              rw [hs] at hz
              injection hz with hz
              subst hz
              exact absurd hzk hk
          · exact .inr h
/-- These are the states that some come to. -/
def IsSt (l : List Ns) (S : Nat → Prop) (N : List Bool) : Prop := N.length = l.length ∧ ∀ i, On N i ↔ Rch l S i
theorem IsSt.congr {l : List Ns} {S T : Nat → Prop} {N : List Bool} (h : IsSt l S N) (hi : ∀ i, S i ↔ T i) : IsSt l T N :=
  ⟨h.1, fun i => (h.2 i).trans ⟨Rch.mono fun i => (hi i).1, Rch.mono fun i => (hi i).2⟩⟩
theorem IsSt.uniq {l : List Ns} {S : Nat → Prop} {N N' : List Bool} (h : IsSt l S N) (h' : IsSt l S N') : N = N' := by
  apply List.ext_getElem (by rw [h.1, h'.1])
  intro i h1 h2
  have := (h.2 i).trans (h'.2 i).symm
  unfold On at this
  rw [List.getElem?_eq_getElem h1, List.getElem?_eq_getElem h2] at this
  simp at this
  revert this
  cases N[i] <;> cases N'[i] <;> simp
theorem IsSt.offs (l : List Ns) : IsSt l (fun _ => False) (offs l.length) := by
  refine ⟨by simp [Fk.offs], fun i => ⟨fun h => ?_, fun h => ?_⟩⟩
  · unfold On Fk.offs at h
    rw [List.getElem?_replicate] at h
    split at h <;> simp at h
  · exfalso
    induction h with
    | base h => exact h
    | a _ _ _ ih => exact ih
    | b _ _ _ ih => exact ih
theorem ofc_le (N : List Bool) : ofc N ≤ N.length := List.count_le_length
theorem come_is {l : List Ns} (hl : OkL l) {S : Nat → Prop} {N : List Bool} (h : IsSt l S N) {x : Int} (h0 : 0 ≤ x) (hx : x < l.length) : IsSt l (fun i => S i ∨ i = x.toNat) (come l x N) := by
  have I := comeF_ok l hl (2 * l.length + 1) [x] N h.1 (by simp; omega) (by have := ofc_le N; have := h.1; simp; omega)
  refine ⟨I.len, fun i => ⟨fun hi => ?_, fun hi => ?_⟩⟩
  · rcases I.fr i hi with h1 | h1
    · exact ((h.2 i).1 h1).mono fun _ => .inl
    · refine h1.mono fun j hj => .inr ?_
      obtain ⟨y, hy, e⟩ := hj
      simp at hy
      rw [← e, hy]
  · induction hi with
    | base hs =>
      rcases hs with hs | rfl
      · exact I.up _ ((h.2 _).2 (.base hs))
      · exact I.has x (by simp)
    | a _ h1 h2 ih =>
      rcases I.cl _ _ ih h1 h2 with h3 | h3
      · exact I.up _ ((h.2 _).2 (.a ((h.2 _).1 h3) h1 h2))
      · exact h3.1
    | b _ h1 h2 ih =>
      rcases I.cl _ _ ih h1 h2 with h3 | h3
      · exact I.up _ ((h.2 _).2 (.b ((h.2 _).1 h3) h1 h2))
      · exact h3.2
theorem stepF_is {l : List Ns} (hl : OkL l) (b : Nat) : ∀ (now : List Bool) (xs : List Ns) (S : Nat → Prop) (N : List Bool), (∀ x ∈ xs, 0 ≤ x.a ∧ x.a < l.length) → IsSt l S N →
    IsSt l (fun i => S i ∨ ∃ j x, On now j ∧ xs[j]? = some x ∧ x.k = 1 ∧ inQ x.q b = true ∧ i = x.a.toNat) (stepF l b now xs N)
  | [], xs, S, N, hx, h => by
    have : stepF l b [] xs N = N := by cases xs <;> rfl
    rw [this]
    exact h.congr fun i => ⟨.inl, fun h => by rcases h with h | ⟨j, x, h, _⟩; exact h; simp [On] at h⟩
  | h :: hs, [], S, N, hx, hN => by
    have : stepF l b (h :: hs) [] N = N := rfl
    rw [this]
    exact hN.congr fun i => ⟨.inl, fun h => by rcases h with h | ⟨j, x, _, h, _⟩; exact h; simp at h⟩
  | h :: hs, y :: ys, S, N, hx, hN => by
    show IsSt l _ (stepF l b hs ys _)
    have hy := hx y (by simp)
    have hys : ∀ x ∈ ys, 0 ≤ x.a ∧ x.a < l.length := fun x hm => hx x (by simp [hm])
    split
    · rename_i c
      refine (stepF_is hl b hs ys _ _ hys (come_is hl hN hy.1 hy.2)).congr fun i => ⟨?_, ?_⟩
      · rintro ((h1 | h1) | ⟨j, x, h1, h2⟩)
        · exact .inl h1
        · exact .inr ⟨0, y, by simp [On, c.1], by simp, c.2.1, c.2.2, h1⟩
        · exact .inr ⟨j + 1, x, by simpa [On] using h1, by simpa using h2⟩
      · rintro (h1 | ⟨j, x, h1, h2, h3⟩)
        · exact .inl (.inl h1)
        · cases j with
          | zero => simp at h2; subst h2; exact .inl (.inr h3.2.2)
          | succ j => exact .inr ⟨j, x, by simpa [On] using h1, by simpa using h2, h3⟩
    · rename_i c
      refine (stepF_is hl b hs ys _ _ hys hN).congr fun i => ⟨?_, ?_⟩
      · rintro (h1 | ⟨j, x, h1, h2⟩)
        · exact .inl h1
        · exact .inr ⟨j + 1, x, by simpa [On] using h1, by simpa using h2⟩
      · rintro (h1 | ⟨j, x, h1, h2, h3⟩)
        · exact .inl h1
        · cases j with
          | zero =>
            simp at h2; subst h2
            exact absurd ⟨by simpa [On] using h1, h3.1, h3.2.1⟩ c
          | succ j => exact .inr ⟨j, x, by simpa [On] using h1, by simpa using h2, h3⟩
theorem come_len {l : List Ns} (hl : OkL l) {N : List Bool} (h : N.length = l.length) {x : Int} (h0 : 0 ≤ x) (hx : x < l.length) : (come l x N).length = l.length :=
  (comeF_ok l hl (2 * l.length + 1) [x] N h (by simp; omega) (by have := ofc_le N; simp; omega)).len
end Fk
set_option linter.unusedVariables false
set_option linter.unusedSimpArgs false
set_option maxRecDepth 100000
set_option maxHeartbeats 1000000
namespace Fk
open Go Go.Proofs Go.RowKit
def bE (b : Bool) : List Value := [.bool b]
theorem encbE : Enc 1 bE := ⟨fun _ => rfl, by intro x v hv; simp [bE] at hv; subst hv; rfl⟩
theorem rowT222 : RowT Try.prog 222 4 1 1 := RowT.of (by kernel_rfl) (by kernel_rfl) (by kernel_rfl) (by omega)
theorem size3 (w : World) : ∃ m, (Go.sizeOf 3).run Try.prog w = .ok m w := by
  have h : (Try.prog.info? 3).isSome = true := by kernel_rfl
  obtain ⟨i, hi⟩ := Option.isSome_iff_exists.1 h
  exact ⟨i.size, by simp [Go.sizeOf, typeInfo, hi]⟩
/-- The last one is taken. -/
theorem OwnL.pop {α : Type} {w : World} {base : Nat} {e : TypeId} {size : Nat} {enc : α → List Value} (he : Enc size enc) {a : Option Addr} {c : Nat} {l : List α} {x : α} (h : OwnL w base e size enc a c (l ++ [x])) : OwnL w base e size enc a c l := by
  unfold OwnL at h ⊢
  obtain ⟨g, hg⟩ : ∃ g, a = some ⟨g, 0, none⟩ := by
    rcases h.2 with ⟨_, hn⟩ | ⟨g, cap, cur, hv, _⟩
    · simp at hn
    · simp only [Value.slice.injEq] at hv
      exact ⟨g, hv.1⟩
  subst hg
  rw [List.flatMap_append, List.length_append] at h
  exact ownsRow_pop (he.lenL l) h
theorem mem_blk {a : Option Addr} {d : Nat} (h : d ∈ (a.map (·.block)).toList) : ∃ A, a = some A ∧ A.block = d := by
  cases a with
  | none => simp at h
  | some A => simp at h; exact ⟨A, rfl, h.symm⟩
/-- A stand in memory: the machine, where it stands, and where it is to come to. -/
structure StAt (w0 w : World) (n : Nat) (st : Int) (pa : Option Addr) (pc : Nat) (l : List Ns) (an ax : Option Addr) (cn cx : Nat) (now next : List Bool) : Prop where
  blk : Blk w n 231 [.int .i64 st, .slice pa l.length pc, .slice an now.length cn, .slice ax next.length cx]
  row : RowAt w0 pa 8 nsE l
  md : Md [] w0 w
  nlo : w0.heap.size ≤ n
  onow : OwnL w w0.heap.size 4 1 bE an cn now
  onext : OwnL w w0.heap.size 4 1 bE ax cx next
  d1 : ∀ A, an = some A → A.block ≠ n
  d2 : ∀ A, ax = some A → A.block ≠ n
  d3 : Apt an ax
section
variable {w0 w w' : World} {n : Nat} {st : Int} {pa : Option Addr} {pc : Nat} {l : List Ns} {an ax : Option Addr} {cn cx : Nat} {now next : List Bool}
theorem StAt.md0 (S : StAt w0 w n st pa pc l an ax cn cx now next) (hm : Md [] w w') : StAt w0 w' n st pa pc l an ax cn cx now next :=
  ⟨S.blk.md hm (by simp), S.row, S.md.trans hm, S.nlo, S.onow.md hm, S.onext.md hm, S.d1, S.d2, S.d3⟩
theorem StAt.mdN {D : List Nat} (S : StAt w0 w n st pa pc l an ax cn cx now next) (hm : Md D w w') (hD : ∀ d ∈ D, w.heap.size ≤ d) : StAt w0 w' n st pa pc l an ax cn cx now next := S.md0 (hm.fresh hD)
theorem StAt.put (S : StAt w0 w n st pa pc l an ax cn cx now next) {i : Nat} (hi : i < next.length) (x : Bool) :
    ∃ A, ax = some A ∧ A.block < w.heap.size ∧ w0.heap.size ≤ A.block ∧ (adAt ax (i : Int) 1).block = A.block ∧ Wr w (adAt ax (i : Int) 1) 1 ∧ StAt w0 (setCells w (adAt ax (i : Int) 1) 0 [.bool x]) n st pa pc l an ax cn cx now (next.set i x) ∧
      Md [A.block] w (setCells w (adAt ax (i : Int) 1) 0 [.bool x]) := by
  obtain ⟨A, hA, h1, h2, h3, h4, h5, h6⟩ := S.onext.put encbE (by omega) hi x
  refine ⟨A, hA, h1, h2, h3, h4, ⟨?_, S.row, S.md.old h6 (by simpa using h2), S.nlo, S.onow.mdD h6 fun B hB => by simpa using S.d3 B A hB hA, h5, S.d1, S.d2, S.d3⟩, h6⟩
  have := S.blk.md h6 (by simpa using (S.d2 A hA).symm)
  rw [List.length_set]; exact this
end
theorem comeF_nil (l : List Ns) (m : Nat) (N : List Bool) : comeF l m [] N = N := by cases m <;> rfl
theorem comeF_on {l : List Ns} {m : Nat} {x : Int} {r : List Int} {N : List Bool} (h : On N x.toNat) : comeF l (m + 1) (x :: r) N = comeF l m r N := by
  conv => lhs; unfold comeF
  simp only
  rw [if_pos h]
theorem comeF_off {l : List Ns} {m : Nat} {i : Nat} {r : List Int} {N : List Bool} (h : ¬ On N i) (hi : i < l.length) : comeF l (m + 1) ((i : Int) :: r) N = comeF l m (if l[i].k = 2 then l[i].b :: l[i].a :: r else r) (N.set i true) := by
  conv => lhs; unfold comeF
  simp only
  rw [if_neg (by simpa using h), Int.toNat_natCast, List.getElem?_eq_getElem hi]
end Fk
set_option linter.unusedVariables false
set_option linter.unusedSimpArgs false
set_option maxRecDepth 100000
set_option maxHeartbeats 1000000
namespace Fk
open Go Go.Proofs Go.RowKit
theorem bE_map (l : List Bool) : l.flatMap bE = l.map Value.bool := by
  induction l with
  | nil => rfl
  | cons x l ih => rw [List.flatMap_cons, ih]; rfl
theorem tagF_step {N : List Bool} {l : List Ns} {i : Nat} (h1 : i < N.length) (h2 : i < l.length) (t : Int) :
    tagF (N.drop i) (l.drop i) t = tagF (N.drop (i + 1)) (l.drop (i + 1)) (if N[i] = true ∧ l[i].k = 0 ∧ (t < 0 ∨ l[i].t < t) then l[i].t else t) := by
  rw [List.drop_eq_getElem_cons h1, List.drop_eq_getElem_cons h2]
  rfl
theorem f184_ok {w : World} (st : Int) (pa xa : Option Addr) (pc xc : Nat) (l : List Ns) (N : List Bool) (h1 : RowAt w pa 8 nsE l) (h2 : RowAt w xa 1 bE N) (hN : N.length = l.length) (hlen : l.length ≤ 20000) (ht0 : ∀ x ∈ l, x.k = 0 → 0 ≤ x.t) :
    Ct Try.prog 184 #[.agg #[.int .i64 st, .slice pa l.length pc], .slice xa N.length xc] w fun v w' => v = .int .i64 (tagF N l (-1)) ∧ Md [] w w' := by
  apply f184_in
  intro n1 hn1 w2 h2' hL2
  refine LoopP_in (fun mm us vs w' => ∃ (i : Nat) (t : Int), us = [.int .i64 t, .int .i64 i] ∧ mm = l.length - i ∧ i ≤ l.length ∧ Md [] w w' ∧ tagF (N.drop i) (l.drop i) t = tagF N l (-1) ∧ -1 ≤ t ∧ n1 < w'.heap.size) l.length
    ⟨0, -1, rfl, rfl, by omega, h2', rfl, by omega, hL2 n1 (by simp)⟩ ?_
  rintro m' us vs w6 ⟨i, t, rfl, hmm, hi, h6, ht, htl, hn⟩
  refine opI_in <| opI_in <| Bd_e rfl <| Bd_in fun b41 hb41 => If_in (fun hb => ?_) fun hb => ?_
  case refine_2 =>
    have : ¬ (i : Int) < (N.length : Int) := by rw [hb41] at hb; exact of_decide_eq_false hb
    have hil : i = l.length := by omega
    subst hil
    rw [List.drop_of_length_le (by omega), List.drop_of_length_le (by omega)] at ht
    rw [← ht]
    exact ⟨rfl, h6⟩
  have hin : i < N.length := by rw [hb41] at hb; have : (i : Int) < (N.length : Int) := of_decide_eq_true hb
                                omega
  have hil : i < l.length := by omega
  rw [tagF_step hin hil] at ht
  have r1 := h1.md h6
  refine Jn_in (fun us vs w' => us = [.int .i64 (if N[i] = true ∧ l[i].k = 0 ∧ (t < 0 ∨ l[i].t < t) then l[i].t else t)] ∧ Md [] w w' ∧ n1 < w'.heap.size) ?_ ?_
  · rintro us vs w44 ⟨rfl, h44, hn44⟩
    refine opI_in <| Bd_e (inc_i64 (by omega)) ⟨l.length - (i + 1), by omega, i + 1, _, rfl, rfl, by omega, h44, ht, ?_, hn44⟩
    split
    · rename_i hc
      have := ht0 _ (List.getElem_mem hil) hc.2.1
      omega
    · exact htl
  refine ⟨r1.ix hil, r1.ld8 hil ?_⟩
  intro n33 hn33
  refine ⟨(h2.md h6).ix hin, fun w34 h34 hL34 => ?_⟩
  have m34 : Md [] w w34 := h6.trans (h34.fresh (by simp; exact hn33))
  refine ((h2.md m34).ld1 hin rfl) <| opB_in <| Bd_in fun b74 hb74 => Bd_in fun b75 hb75 => Bd_in fun b76 hb76 => Bd_in fun b77 hb77 => Bd_in fun b78 hb78 => Bd_in fun b79 hb79 => ?_
  have hiff : b79 = true ↔ (N[i] = true ∧ l[i].k = 0 ∧ (t < 0 ∨ l[i].t < t)) := by
    rw [hb79, hb78, hb75, hb74, hb76, hb77]
    cases N[i] <;> simp
    have e : t = -1 ↔ t < 0 := by omega
    by_cases c : t < 0
    · simp [c, e]
    · have : ¬ t = -1 := by omega
      simp [c, this]
  refine If_in (fun hc => ?_) fun hc => ?_
  · rw [if_pos (hiff.1 hc)]
    exact ⟨rfl, m34, hL34 n1 (by simp)⟩
  · rw [if_neg (fun h => by have := hiff.2 h; rw [hc] at this; cases this)]
    exact ⟨rfl, m34, hL34 n1 (by simp)⟩
end Fk
set_option linter.unusedVariables false
set_option linter.unusedSimpArgs false
set_option maxRecDepth 100000
set_option maxHeartbeats 2000000
namespace Fk
open Go Go.Proofs Go.RowKit
/-- The bit of a byte is asked. -/
theorem bit_in {q : Q4} {b : Nat} (hb : b < 256) (k a1 a2 a3 : Int) {b69 : Bool} {K : Bool → Prop} (kk : K (inQ q b)) :
    Bd (IntKind.wrap .u8 (Int.tdiv (b : Int) 64)) fun x70 => (b69 = true → 0 ≤ x70 ∧ x70 < ((4 : Nat) : Int)) ∧
      BdO (nthV [.int .u8 k, .int .u64 q.1, .int .u64 q.2.1, .int .u64 q.2.2.1, .int .u64 q.2.2.2, .int .i64 a1, .int .i64 a2, .int .i64 a3] (1 + x70.toNat * 1)) fun v72 => opI .u64 v72 fun x73 => Bd (Int.tmod (b : Int) 64) fun x74 =>
        (b69 = true → 0 ≤ x74) ∧ Bd (Int.fdiv x73 (2 ^ min x74.toNat 64)) fun x76 => Bd (IntKind.wrap .u64 ((BitVec.toNat (BitVec.ofInt 64 x76 &&& BitVec.ofInt 64 1) : Nat) : Int)) fun x77 => Bd (x77 == 1) K := by
  refine Bd_e (y := ((b / 64 : Nat) : Int)) (by rw [IntKind.wrap_u8, Int.tdiv_eq_ediv_of_nonneg (by omega)]; omega) ⟨fun _ => ⟨by omega, by omega⟩, ?_⟩
  refine BdO_in (v := .int .u64 (word q (b / 64))) ?_ ?_
  · rw [Int.toNat_natCast, Nat.mul_one, Nat.add_comm]
    have h := nth_word q (b / 64) (by omega)
    have h4 : b / 64 < 4 := by omega
    generalize b / 64 = j at *
    rcases j with _ | _ | _ | _ | j <;> first | exact h | omega
  refine opI_in ?_
  refine Bd_e (y := ((b % 64 : Nat) : Int)) (by rw [Int.tmod_eq_emod_of_nonneg (by omega)]; omega) ⟨fun _ => by omega, ?_⟩
  refine Bd_in fun x6 hx6 => Bd_in fun x7 hx7 => Bd_in fun b8 hb8 => ?_
  have : b8 = inQ q b := by
    rw [hb8, hx7, u64_and, bit_and_one, hx6, Int.toNat_natCast, Nat.min_eq_left (by omega), Int.fdiv_eq_ediv_of_nonneg _ (Int.pow_nonneg (by decide))]
    simp only [inQ]
    rw [Bool.eq_iff_iff]; simp
  rw [this]
  exact kk
theorem made4 (m : Nat) (w : World) (hm : m < 2 ^ 20) : ∃ w', (Instr.makeSlice 222 (.int .i64 (m : Int)) (.int .i64 (m : Int))).run Try.prog w = .ok (.slice (some ⟨w.heap.size, 0, none⟩) m m) w' ∧ OwnL w' w.heap.size 4 1 bE (some ⟨w.heap.size, 0, none⟩) m (offs m) ∧ Md [] w w' := by
  have h4 : (Try.prog.info? 4).isSome = true := by kernel_rfl
  obtain ⟨i4, hi4⟩ := Option.isSome_iff_exists.1 h4
  have hz4 : (Try.prog.info? 4).bind (·.zero) = some (.bool false) := by kernel_rfl
  have hs4 : (Try.prog.info? 4).map (fun i => (i.size, i.bytes)) = some (1, 1) := by kernel_rfl
  rw [hi4] at hz4 hs4
  simp only [Option.bind_some, Option.map_some, Option.some.injEq, Prod.mk.injEq] at hz4 hs4
  obtain ⟨w3, hrun, hown, hgr⟩ := run_makeSlice_full (P := Try.prog) w w.heap.size 222 4 i4 (.bool false) 1 (by kernel_rfl) hi4 hz4 hs4.1 .i64 .i64 m (by omega) (by rw [hs4.2]; omega) (by simp [maxLen]; omega) (Nat.le_refl _)
  refine ⟨w3, hrun, ?_, Md_of_grown hgr⟩
  have hmc : (madeCells (Value.bool false).cells (m * 1)).toList = (offs m).flatMap bE := by
    rw [bE_map, offs, List.map_replicate, Nat.mul_one]
    exact toList_madeCells_one _ m
  unfold OwnL
  rw [← hmc, show (offs m).length = m by simp [offs]]; exact hown
theorem offs_len (n : Nat) : (offs n).length = n := by simp [offs]
end Fk
set_option linter.unusedVariables false
set_option linter.unusedSimpArgs false
set_option maxRecDepth 100000
set_option maxHeartbeats 2000000
namespace Fk
open Go Go.Proofs Go.RowKit
theorem set_on {N : List Bool} {i : Nat} (h : On N i) : N.set i true = N := by
  apply List.ext_getElem?
  intro j
  rw [List.getElem?_set]
  split
  · rename_i e; subst e
    have := h.lt
    rw [if_pos this]
    exact h.symm
  · rfl
theorem ofc_set_le {N : List Bool} {i : Nat} (hi : i < N.length) : ofc (N.set i true) ≤ ofc N := by
  by_cases h : On N i
  · rw [set_on h]; exact Nat.le_refl _
  · have := ofc_set hi h; omega
theorem On_get {N : List Bool} {i : Nat} (hi : i < N.length) : On N i ↔ N[i] = true := by unfold On; rw [List.getElem?_eq_getElem hi]; simp
theorem f220_ok (st : Int) (l : List Ns) (pa : Option Addr) (pc : Nat) (xa : Option Addr) (xc bx : Nat) (N : List Bool) (w : World) (hr : RowAt w pa 8 nsE l) (hx : OwnL w bx 4 1 bE xa xc N) (hN : N.length = l.length) (hl : OkL l) (hlen : l.length ≤ 20000) :
    Ct Try.prog 220 #[.agg #[.int .i64 st, .slice pa l.length pc], .slice xa N.length xc] w fun v w' => (∃ (a : Option Addr) (c : Nat) (M : List Bool), v = .slice a M.length c ∧ OwnL w' w.heap.size 4 1 bE a c M ∧ IsSt l (On N) M) ∧ Md [] w w' := by
  apply f220_in
  intro n1 hn1 w2 h2 hL2
  have l1 := hL2 n1 (by simp)
  refine Nw_i ?_
  have ma : Md [] w2 (w2.alloc (.cells #[] 4)) := Md.alloc w2 _
  have ol : OwnL (w2.alloc (.cells #[] 4)) w2.heap.size 4 1 bE (some ⟨w2.heap.size, 0, none⟩) 0 [] := OwnL.lit (P := Try.prog) (base := w2.heap.size) encbE w2 4 [] #[] (Nat.le_refl _) (by simp) rfl
  have sa := ma.size
  refine app_own rowT222 encbE ol ((hx.md h2).md ma) (by omega) (fun b hb => by simp at hb; subst hb; omega) (fun b hb A hA => by simp at hb; subst hb; injection hA with hA; subst hA; simp; omega) (by simp [maxLen]; omega) (by simp; omega) fun a c w6 o6 m6 hA => opL_in ?_
  simp only [List.nil_append] at o6 ⊢
  have m06 : Md [] w w6 := (h2.trans ma).old m6 (fun d hd => by simp at hd; subst hd; exact h2.size)
  have o6' := o6.down (b := w.heap.size) h2.size
  have ln6 : n1 < w6.heap.size := by have := m6.size; omega
  have ane : ∀ A, a = some A → A.block ≠ n1 := fun A hA e => by have := (o6.lt hA).1; omega
  refine LoopP_in (fun mm us vs w' => ∃ (b : Bool) (O : List Bool), us = [.bool b] ∧ mm = 2 * ofc O + (if b then 1 else 0) ∧ O.length = l.length ∧ (∀ i, On N i → On O i) ∧ (∀ i, On O i → Rch l (On N) i) ∧
      (b = false → ∀ i x, On O i → l[i]? = some x → x.k = 2 → On O x.a.toNat ∧ On O x.b.toNat) ∧ OwnL w' w.heap.size 4 1 bE a c O ∧ Md [] w w' ∧ n1 < w'.heap.size) (2 * ofc N + 1)
    ⟨true, N, rfl, rfl, hN, fun _ h => h, fun _ h => .base h, (fun h => by cases h), o6', m06, ln6⟩ ?_
  rintro mm us vs w13 ⟨b, O, rfl, hmm, hO, hup, hfr, hcl, own, hmd, hn⟩
  refine opB_in <| If_in (fun hb => ?_) fun hb => ?_
  case refine_2 =>
    refine ⟨⟨a, c, O, by rw [hN, hO], own, hO, fun i => ⟨hfr i, fun hi => ?_⟩⟩, hmd⟩
    induction hi with
    | base h => exact hup _ h
    | a _ h1 h2 ih => exact (hcl hb _ _ ih h1 h2).1
    | b _ h1 h2 ih => exact (hcl hb _ _ ih h1 h2).2
  subst hb
  simp only [if_true] at hmm
  refine LoopP_in (fun mm us vs w' => ∃ (i : Nat) (m : Bool) (O' : List Bool), us = [.bool m, .int .i64 i] ∧ mm = l.length - i ∧ i ≤ l.length ∧ O'.length = l.length ∧ (∀ i, On N i → On O' i) ∧ (∀ i, On O' i → Rch l (On N) i) ∧ (m = true → ofc O' < ofc O) ∧
      (m = false → O' = O ∧ ∀ j x, j < i → On O' j → l[j]? = some x → x.k = 2 → On O' x.a.toNat ∧ On O' x.b.toNat) ∧ OwnL w' w.heap.size 4 1 bE a c O' ∧ Md [] w w' ∧ n1 < w'.heap.size) l.length
    ⟨0, false, O, rfl, rfl, by omega, hO, hup, hfr, (fun h => by cases h), fun _ => ⟨rfl, fun j x hj => by omega⟩, own, hmd, hn⟩ ?_
  rintro m' us vs w18 ⟨i, m, O', rfl, hm', hi, hO', hup', hfr', hmT, hmF, own', hmd', hn'⟩
  refine opB_in <| opI_in <| Bd_e rfl <| Bd_in fun b22 hb22 => If_in (fun hb => ?_) fun hb => ?_
  case refine_2 =>
    have hil : i = l.length := by
      have : ¬ (i : Int) < (N.length : Int) := by rw [hb22] at hb; exact of_decide_eq_false hb
      omega
    subst hil
    refine ⟨2 * ofc O' + (if m then 1 else 0), ?_, m, O', rfl, rfl, hO', hup', hfr', fun h => ?_, own', hmd', hn'⟩
    · cases m with
      | true => have := hmT rfl; simp; omega
      | false => have := (hmF rfl).1; subst this; simp; omega
    · intro j x hj hx
      exact (hmF h).2 j x (by have := hj.lt; omega) hj hx
  have hil : i < l.length := by rw [hb22] at hb; have : (i : Int) < (N.length : Int) := of_decide_eq_true hb
                                omega
  refine Jn_in (fun us vs w' => ∃ (m : Bool) (O' : List Bool), us = [.bool m] ∧ O'.length = l.length ∧ (∀ i, On N i → On O' i) ∧ (∀ i, On O' i → Rch l (On N) i) ∧ (m = true → ofc O' < ofc O) ∧
      (m = false → O' = O ∧ ∀ j x, j < i + 1 → On O' j → l[j]? = some x → x.k = 2 → On O' x.a.toNat ∧ On O' x.b.toNat) ∧ OwnL w' w.heap.size 4 1 bE a c O' ∧ Md [] w w' ∧ n1 < w'.heap.size) ?_ ?_
  · rintro us vs w25 ⟨m2, O2, rfl, a1, a2, a3, a4, a5, a6, a7, a8⟩
    exact opB_in <| Bd_e (inc_i64 (by omega)) ⟨l.length - (i + 1), by omega, i + 1, m2, O2, rfl, rfl, by omega, a1, a2, a3, a4, a5, a6, a7, a8⟩
  refine ⟨(hr.md hmd').ix hil, (hr.md hmd').ld8 hil ?_⟩
  intro n45 hn45
  have hiO : i < O'.length := by omega
  have hix : ∀ {j : Nat}, j < l.length → IxOk (j : Int) N.length a := fun {j} hj => by
    have := (own'.row encbE).ix (i := j) (by omega)
    rw [hN, ← hO']; exact this
  refine ⟨hix hil, fun w46 h46 hL46 => ?_⟩
  have m46 : Md [] w18 w46 := h46.fresh (by simp; exact hn45)
  have own46 := own'.md m46
  have md46 := hmd'.trans m46
  have hlb := hl _ (List.getElem_mem hil)
  have hln : ∀ b ∈ [n45, n1], b < w46.heap.size := hL46
  obtain ⟨ja, hja⟩ := Int.eq_ofNat_of_zero_le hlb.1
  obtain ⟨jb, hjb⟩ := Int.eq_ofNat_of_zero_le hlb.2.2.1
  have hjal : ja < l.length := by omega
  have hjbl : jb < l.length := by omega
  have hsi : l[i]? = some l[i] := List.getElem?_eq_getElem hil
  rw [hja, hjb]
  refine (own46.row encbE).ld1 hiO rfl <| opB_in <| Bd_in fun b49 hb49 => Bd_in fun b50 hb50 => ⟨fun _ => hix hjal, ?_⟩
  have e50 : b50 = true ↔ On O' i ∧ l[i].k = 2 := by
    rw [hb50, hb49, On_get hiO]
    cases O'[i] <;> simp
  refine Gd_to (fun b w' => w' = w46 ∧ (b50 = true → b = O'[ja]'(by omega))) (fun b55 w56 hJ => ?_) (fun fin hc => ?_) fun hc => ⟨rfl, fun h => by rw [h] at hc; cases hc⟩
  case refine_2 =>
    exact (own46.row encbE).ld1 (i := ja) (by omega) rfl <| opB_in <| fin _ _ ⟨rfl, fun _ => rfl⟩
  obtain ⟨rfl, h55⟩ := hJ
  refine Bd_in fun b57 hb57 => ⟨fun _ => hix hjbl, ?_⟩
  refine Gd_to (fun b w' => w' = w56 ∧ ((b50 && !b57) = true → b = O'[jb]'(by omega))) (fun b62 w63 hJ => ?_) (fun fin hc => ?_) fun hc => ⟨rfl, fun h => by rw [h] at hc; cases hc⟩
  case refine_2 =>
    exact (own46.row encbE).ld1 (i := jb) (by omega) rfl <| opB_in <| fin _ _ ⟨rfl, fun _ => rfl⟩
  obtain ⟨rfl, h62⟩ := hJ
  refine Bd_in fun b64 hb64 => Bd_in fun b65 hb65 => Bd_in fun b66 hb66 => ?_
  have e66 : b66 = true ↔ (On O' i ∧ l[i].k = 2) ∧ ¬ (On O' ja ∧ On O' jb) := by
    rw [hb66, hb65, hb64, ← e50, On_get (by omega : ja < O'.length), On_get (by omega : jb < O'.length)]
    cases hb50' : b50 with
    | false => simp
    | true =>
      have x1 := h55 hb50'
      rw [hb57, x1]
      cases h : O'[ja] with
      | false => simp
      | true =>
        rw [hb57, x1, h, hb50'] at h62
        rw [h62 rfl]
        cases O'[jb] <;> simp
  refine If_in (fun hc => ?_) fun hc => ?_
  · obtain ⟨⟨c1, c2⟩, c3⟩ := e66.1 hc
    obtain ⟨A, hA', p1, p2, p3, p4, p5, p6⟩ := own46.put encbE (by omega) (i := ja) (by omega) true
    refine ⟨hix hjal, by rw [p3]; simp; exact ⟨fun e => by have := (own'.lt hA').2; omega, ane A hA'⟩, p4, hix hjbl, ?_⟩
    obtain ⟨A2, hA2, q1, q2, q3, q4, q5, q6⟩ := p5.put encbE (by omega) (i := jb) (by simp; omega) true
    rw [hA'] at hA2
    injection hA2 with hA2
    subst hA2
    refine ⟨by rw [q3]; simp; exact ⟨fun e => by have := (own'.lt hA').2; omega, ane A hA'⟩, q4, ?_⟩
    have hset1 : ∀ {j}, On (O'.set ja true) j ↔ On O' j ∨ j = ja := fun {j} => On_set (by omega)
    have hset2 : ∀ {j}, On ((O'.set ja true).set jb true) j ↔ (On O' j ∨ j = ja) ∨ j = jb := fun {j} => by rw [On_set (by simp; omega), hset1]
    have hreach := hfr' i c1
    refine ⟨true, (O'.set ja true).set jb true, rfl, by simp [hO'], fun j hj => hset2.2 (.inl (.inl (hup' j hj))), fun j hj => ?_, fun _ => ?_, (fun h => by cases h), q5, (md46.old p6 (by simpa using p2)).old q6 (by simpa using q2), Nat.lt_of_lt_of_le (hln n1 (by simp)) (Nat.le_trans p6.size q6.size)⟩
    · rcases hset2.1 hj with (h | rfl) | rfl
      · exact hfr' j h
      · have := hreach.a hsi c2
        rw [hja] at this; simpa using this
      · have := hreach.b hsi c2
        rw [hjb] at this; simpa using this
    · have hle : ofc O' ≤ ofc O := by
        cases m with
        | true => exact Nat.le_of_lt (hmT rfl)
        | false => rw [(hmF rfl).1]; exact Nat.le_refl _
      have x1 := ofc_set_le (N := O') (i := ja) (by omega)
      have x2 := ofc_set_le (N := O'.set ja true) (i := jb) (by simp; omega)
      by_cases ca : On O' ja
      · have cb : ¬ On O' jb := fun h => c3 ⟨ca, h⟩
        rw [set_on ca]
        have := ofc_set (N := O') (i := jb) (by omega) cb
        omega
      · have := ofc_set (N := O') (i := ja) (by omega) ca
        omega
  · have hno : ¬ ((On O' i ∧ l[i].k = 2) ∧ ¬ (On O' ja ∧ On O' jb)) := fun h => by have := e66.2 h; rw [hc] at this; cases this
    refine ⟨m, O', rfl, hO', hup', hfr', hmT, fun h => ⟨(hmF h).1, fun j x hj hon hx hk => ?_⟩, own46, md46, hln n1 (by simp)⟩
    by_cases hji : j < i
    · exact (hmF h).2 j x hji hon hx hk
    · have : j = i := by omega
      subst this
      rw [hsi] at hx
      injection hx with hx
      subst hx
      rw [hja, hjb]
      simp only [Int.toNat_natCast]
      exact Classical.byContradiction fun hh => hno ⟨⟨hon, hk⟩, hh⟩
end Fk
