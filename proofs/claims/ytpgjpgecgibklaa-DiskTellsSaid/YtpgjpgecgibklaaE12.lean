/- The reference's disk: what its calls do. -/
import Derived.Test.YtpgjpgecgibklaaE10
import Derived.Test.YtpgjpgecgibklaaV10
set_option linter.unusedVariables false
set_option linter.unusedSimpArgs false
set_option maxRecDepth 100000
namespace Fk
open Go Go.Proofs Go.RowKit
def wr2 (q : Int × ByteArray) : List Value := [.int .i64 q.1, .string q.2]
theorem encw2 : Enc 2 wr2 := ⟨fun _ => rfl, by intro x v hv; simp [wr2] at hv; rcases hv with rfl | rfl <;> rfl⟩
theorem rowT137 : RowT Try.prog 137 257 2 24 := RowT.of (by kernel_rfl) (by kernel_rfl) (by kernel_rfl) (by omega)
structure Rf where
  sf : List ByteArray
  pe : List (Int × ByteArray)
  rf : Int
structure RfS where
  a : Option Addr
  c : Nat
  b : Option Addr
  e : Nat
def Rf.v (x : Rf) (p : RfS) : Value := .agg #[.slice p.a x.sf.length p.c, .slice p.b x.pe.length p.e, .int .i64 x.rf]
structure RfAt (w : World) (base : Nat) (x : Rf) (p : RfS) : Prop where
  sf : OwnL w base 9 1 s1 p.a p.c x.sf
  pe : OwnL w base 257 2 wr2 p.b p.e x.pe
  rf : 0 ≤ x.rf ∧ x.rf ≤ 9223372036854775807
  sl : x.sf.length < 2 ^ 30
  pl : x.pe.length < 2 ^ 29
/-- What stands elsewhere stands in new blocks. -/
def NewS (w : World) (p p' : RfS) : Prop := (∀ A, p'.a = some A → p.a = some A ∨ w.heap.size ≤ A.block) ∧ ∀ A, p'.b = some A → p.b = some A ∨ w.heap.size ≤ A.block
theorem NewS.refl (w : World) (p : RfS) : NewS w p p := ⟨fun _ h => .inl h, fun _ h => .inl h⟩
theorem RfAt.md {w w' : World} {base : Nat} {x : Rf} {p : RfS} (h : RfAt w base x p) (hm : Md [] w w') : RfAt w' base x p := ⟨h.sf.md hm, h.pe.md hm, h.rf, h.sl, h.pl⟩
/-! ### step -/
def Rf.step (x : Rf) : Rf × Bool := if x.rf = 0 then (x, true) else ({ x with rf := x.rf - 1 }, decide (x.rf - 1 ≠ 0))
theorem Rf.step_sf (x : Rf) : x.step.1.sf = x.sf ∧ x.step.1.pe = x.pe := by unfold Rf.step; split <;> exact ⟨rfl, rfl⟩
theorem RfAt.step {w : World} {base : Nat} {x : Rf} {p : RfS} (h : RfAt w base x p) : RfAt w base x.step.1 p := by
  have h1 := h.rf
  unfold Rf.step
  split
  · exact h
  · exact ⟨h.sf, h.pe, ⟨by simp only; omega, by simp only; omega⟩, h.sl, h.pl⟩
theorem f194_ok (x : Rf) (p : RfS) (hx : 0 ≤ x.rf ∧ x.rf ≤ 9223372036854775807) (w : World) : Ct Try.prog 194 #[x.v p] w fun v w' => v = .tuple #[x.step.1.v p, .bool x.step.2] ∧ Md [] w w' := by
  unfold Rf.v
  apply f194_in
  intro n1 hn1 n2 hn2
  refine Bd_in fun b3 hb3 => If_in (fun hb w4 h4 hL4 => ⟨?_, h4.fresh (by simp; exact hn2)⟩) fun hb => ?_
  · have : x.rf = 0 := by rw [hb3] at hb; simpa using hb
    unfold Rf.step
    rw [if_pos this]
  · have hne : x.rf ≠ 0 := by rw [hb3] at hb; simpa using hb
    refine Bd_e (y := x.rf - 1) (by rw [IntKind.wrap_i64]; omega) fun w6 h6 hL6 => Bd_in fun b7 hb7 w8 h8 hL8 => ⟨?_, ?_⟩
    · unfold Rf.step
      rw [if_neg hne, hb7]
      simp [Rf.v]
      rw [Bool.eq_iff_iff]; simp
    · have m6 : Md [] w w6 := h6.fresh (by simp; exact hn1)
      exact (m6.trans (Md_drew w6)).old h8 (by simp; omega)
/-! ### kept -/
def keptL (sf : List ByteArray) (l : List (Int × ByteArray)) : List ByteArray := l.foldl (fun sf q => sf.set q.1.toNat q.2) sf
theorem keptL_len (l : List (Int × ByteArray)) : ∀ sf, (keptL sf l).length = sf.length := by
  induction l with
  | nil => intro sf; rfl
  | cons q l ih => intro sf; unfold keptL at ih ⊢; rw [List.foldl_cons, ih, List.length_set]
theorem keptL_take {sf : List ByteArray} {l : List (Int × ByteArray)} {i : Nat} (hi : i < l.length) : keptL sf (l.take (i + 1)) = (keptL sf (l.take i)).set l[i].1.toNat l[i].2 := by
  unfold keptL
  rw [List.take_succ_eq_append_getElem hi, List.foldl_append]; rfl
theorem f195_ok (x : Rf) (p : RfS) (base : Nat) (w : World) (h : RfAt w base x p) (l : List (Int × ByteArray)) (B : Option Addr) (C : Nat) (hr : RowAt w B 2 wr2 l) (hin : ∀ q ∈ l, 0 ≤ q.1 ∧ q.1 < x.sf.length) (hl : l.length < 2 ^ 30) :
    Ct Try.prog 195 #[x.v p, .slice B l.length C] w fun v w' => (∃ a' c', v = .agg #[.slice a' x.sf.length c', .slice none 0 0, .int .i64 x.rf] ∧ OwnL w' w.heap.size 9 1 s1 a' c' (keptL x.sf l)) ∧ Md [] w w' := by
  unfold Rf.v
  apply f195_in
  intro n1 hn1 n2 hn2 w3 h3 hL3 n4 w5 e4 e5
  subst e4; subst e5
  have hsl := h.sl
  have l1 := hL3 n1 (by simp)
  have l2 := hL3 n2 (by simp)
  have ma : Md [] w3 (w3.alloc (.cells #[] 9)) := Md.alloc w3 _
  have hsz := ma.size
  have o5 : OwnL (w3.alloc (.cells #[] 9)) w3.heap.size 9 1 s1 (some ⟨w3.heap.size, 0, none⟩) 0 [] := OwnL.lit (P := Try.prog) encs1 w3 9 [] #[] (Nat.le_refl _) (by simp [maxLen]) rfl
  refine app_own rowT55 encs1 o5 (h.sf.md (h3.trans ma)) hsz (fun b hb => by have := hL3 b hb; omega) (fun b hb A hA e => by have := hL3 b hb; cases hA; simp at e; omega) (by simp [maxLen]; omega) (by simp; omega) fun a8 c8 w7 o7 m7 _ => opL_in ?_
  rw [List.nil_append] at *
  have hm7 : Md [] w w7 := md_app o5 m7 h3.size (h3.trans ma)
  refine LoopP_in (fun mm us vs w' => ∃ i : Nat, us = [.int .i64 i] ∧ mm = l.length - i ∧ i ≤ l.length ∧ Md [] w w' ∧ OwnL w' w3.heap.size 9 1 s1 a8 c8 (keptL x.sf (l.take i))) l.length ⟨0, rfl, rfl, by omega, hm7, by simpa [keptL] using o7⟩ ?_
  rintro mm us vs w14 ⟨i, rfl, rfl, hi, hmd, ho⟩
  refine opI_in <| Bd_e rfl <| Bd_in fun b17 hb17 => If_in (fun hb => ?_) fun hb w28 h28 hL28 => ?_
  · have hi' : i < l.length := by rw [hb17] at hb; have : (i : Int) < (l.length : Int) := by simpa using hb
                                  omega
    have hrow := hr.md (hmd.trans (Md_drew w14))
    obtain ⟨q1, q2⟩ := hin _ (List.getElem_mem hi')
    have eK := keptL_take (sf := x.sf) hi'
    generalize hq : l[i] = q at *
    obtain ⟨j, hj⟩ := Int.eq_ofNat_of_zero_le q1
    have hkl := keptL_len (l.take i) x.sf
    have hjl : j < (keptL x.sf (l.take i)).length := by omega
    have od := ho.md (Md_drew w14)
    have hix : IxOk q.1 x.sf.length a8 := by have := (ho.row encs1).ix hjl; rw [hkl] at this; rw [hj]; exact this
    obtain ⟨A, hA, p1, p2, p3, p4, p5, p6⟩ := od.put encs1 (by omega) hjl q.2
    have hnot : ¬ Addr.block (adAt a8 q.1 1) ∈ [n2, n1] := by
      rw [hj]
      show ¬ (adAt a8 (j : Int) 1).block ∈ [n2, n1]
      rw [p3]; simp; omega
    have hfin : ∃ m', m' < l.length - i ∧ ∃ i' : Nat, [Value.int .i64 ((i + 1 : Nat) : Int)] = [.int .i64 i'] ∧ m' = l.length - i' ∧ i' ≤ l.length ∧ Md [] w (setCells w14.drew (adAt a8 q.1 1) 0 [.string q.2]) ∧ OwnL (setCells w14.drew (adAt a8 q.1 1) 0 [.string q.2]) w3.heap.size 9 1 s1 a8 c8 (keptL x.sf (l.take i')) := by
      refine ⟨l.length - (i + 1), by omega, i + 1, rfl, rfl, by omega, ?_, ?_⟩
      · rw [hj]
        exact (hmd.trans (Md_drew w14)).old p6 (by simp; have := h3.size; omega)
      · rw [eK, hj]
        exact p5
    have hwr : Wr w14.drew (adAt a8 q.1 1) 1 := by rw [hj]; exact p4
    refine ⟨hr.ix hi', hr.ix hi', hrow.ldj hi' (v := .int .i64 q.1) (by rw [hq]; rfl) <| opI_in <| hrow.ldj hi' (v := .string q.2) (by rw [hq]; rfl) <| opStr_in ⟨hix, hnot, hwr, Bd_e (inc_i64 (by omega)) hfin⟩, hrow.ldj hi' (v := .string q.2) (by rw [hq]; rfl) <| opStr_in <| hrow.ldj hi' (v := .int .i64 q.1) (by rw [hq]; rfl) <| opI_in ⟨hix, hnot, hwr, Bd_e (inc_i64 (by omega)) hfin⟩⟩
  · have hi' : i = l.length := by rw [hb17] at hb; have : ¬ (i : Int) < (l.length : Int) := by simpa using hb
                                  omega
    subst hi'
    rw [List.take_length] at ho
    have hsz3 := h3.size
    refine ⟨⟨a8, c8, rfl, ?_⟩, hmd.old h28 (by simp; omega)⟩
    exact (ho.mdD h28 (fun A hA => by have := (ho.lt hA).1; simp; omega)).down hsz3
/-! ### Has, All -/
def Rf.has (x : Rf) (i : Nat) : ByteArray := x.pe.foldl (fun s q => if q.1 = (i : Int) then q.2 else s) (x.sf.getD i ByteArray.empty)
theorem f120_ok (x : Rf) (p : RfS) (base : Nat) (w : World) (h : RfAt w base x p) (i : Nat) (hi : i < x.sf.length) : Ct Try.prog 120 #[x.v p, .int .i64 i] w fun v w' => v = .string (x.has i) ∧ Md [] w w' := by
  unfold Rf.v
  apply f120_in
  intro n1 hn1
  have hpl := h.pl
  refine ⟨(h.sf.row encs1).ix hi, fun w2 h2 hL2 => ((h.sf.md h2).row encs1).ld1 hi rfl <| opStr_in ?_⟩
  refine LoopP_in (fun mm us vs w' => ∃ k : Nat, us = [.string ((x.pe.take k).foldl (fun s q => if q.1 = (i : Int) then q.2 else s) (x.sf.getD i ByteArray.empty)), .int .i64 k] ∧ mm = x.pe.length - k ∧ k ≤ x.pe.length ∧ Md [] w w') x.pe.length ⟨0, by simp [hi], rfl, by omega, h2⟩ ?_
  rintro mm us vs w8 ⟨k, rfl, rfl, hk, hmd⟩
  refine opStr_in <| opI_in <| Bd_e rfl <| Bd_in fun b12 hb12 => If_in (fun hb => ?_) fun hb => ?_
  · have hk' : k < x.pe.length := by rw [hb12] at hb; have : (k : Int) < (x.pe.length : Int) := by simpa using hb
                                     omega
    refine Jn_in (fun us vs w' => us = [.string ((x.pe.take (k + 1)).foldl (fun s q => if q.1 = (i : Int) then q.2 else s) (x.sf.getD i ByteArray.empty))] ∧ w' = w8) ?_ ?_
    · rintro us vs w15 ⟨rfl, rfl⟩
      exact opStr_in <| Bd_e (inc_i64 (by omega)) ⟨x.pe.length - (k + 1), by omega, k + 1, rfl, rfl, by omega, hmd⟩
    have hrow := (h.pe.md hmd).row encw2
    rw [List.take_succ_eq_append_getElem hk', List.foldl_append]
    refine ⟨hrow.ix hk', hrow.ldj hk' rfl <| opI_in <| Bd_in fun b21 hb21 => If_in (fun hb => ⟨hrow.ix hk', hrow.ldj hk' rfl <| opStr_in ⟨?_, rfl⟩⟩) fun hb => ⟨?_, rfl⟩⟩
    · have : x.pe[k].1 = (i : Int) := by rw [hb21] at hb; simpa using hb
      simp [this]
    · have : ¬ x.pe[k].1 = (i : Int) := by rw [hb21] at hb; simpa using hb
      simp [this]
  · have hk' : k = x.pe.length := by rw [hb12] at hb; have : ¬ (k : Int) < (x.pe.length : Int) := by simpa using hb
                                     omega
    subst hk'
    rw [List.take_length]
    exact ⟨rfl, hmd⟩
def Rf.all (x : Rf) (n : Nat) : ByteArray := (List.range n).foldl (fun s i => s ++ x.has i) ByteArray.empty
theorem f121_ok (x : Rf) (p : RfS) (base : Nat) (w : World) (h : RfAt w base x p) (hs : ∀ i, i < x.sf.length → (x.has i).size = 64) (h20 : x.sf.length ≤ 20) : Ct Try.prog 121 #[x.v p] w fun v w' => v = .string (x.all x.sf.length) ∧ Md [] w w' := by
  have hall : ∀ n, n ≤ x.sf.length → (x.all n).size = 64 * n := by
    intro n
    induction n with
    | zero => intro _; rfl
    | succ n ih =>
      intro hn
      unfold Rf.all at ih ⊢
      rw [List.range_succ, List.foldl_append, List.foldl_cons, List.foldl_nil, ByteArray.size_append, ih (by omega), hs n (by omega)]; omega
  unfold Rf.v
  apply f121_in
  intro n1 hn1 w2 h2 hL2
  refine LoopP_in (fun mm us vs w' => ∃ k : Nat, us = [.string (x.all k), .int .i64 k] ∧ mm = x.sf.length - k ∧ k ≤ x.sf.length ∧ Md [] w w' ∧ n1 < w'.heap.size) x.sf.length ⟨0, rfl, rfl, by omega, h2, hL2 n1 (by simp)⟩ ?_
  rintro mm us vs w6 ⟨k, rfl, rfl, hk, hmd, hn⟩
  refine opStr_in <| opI_in <| Bd_e rfl <| Bd_in fun b10 hb10 => If_in (fun hb => ?_) fun hb => ?_
  · have hk' : k < x.sf.length := by rw [hb10] at hb; have : (k : Int) < (x.sf.length : Int) := by simpa using hb
                                     omega
    refine (f120_ok x p base w6 (h.md hmd) k hk').call (by simpa using hn) ?_
    rintro v w12 rfl m12
    have := hall k (by omega)
    have := hs k hk'
    refine opStr_in <| RunW_in0 (run_addS w12 _ _ _ _ (by omega) (by omega)) <| opStr_in <| Bd_e (inc_i64 (by omega)) ⟨x.sf.length - (k + 1), by omega, k + 1, ?_, rfl, by omega, hmd.trans m12, by have := m12.size; omega⟩
    unfold Rf.all
    rw [List.range_succ, List.foldl_append]; rfl
  · have hk' : k = x.sf.length := by rw [hb10] at hb; have : ¬ (k : Int) < (x.sf.length : Int) := by simpa using hb
                                     omega
    subst hk'
    exact ⟨rfl, hmd⟩
end Fk
