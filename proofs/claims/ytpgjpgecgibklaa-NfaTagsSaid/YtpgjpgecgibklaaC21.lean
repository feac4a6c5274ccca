/- Contracts: names, which tables are right, and where a state comes to. -/
import Derived.Test.YtpgjpgecgibklaaC20
import Derived.Test.YtpgjpgecgibklaaTT
set_option linter.unusedVariables false
set_option linter.unusedSimpArgs false
set_option maxRecDepth 100000
namespace Fk
open Go Go.Proofs Go.RowKit
theorem str_eq (a b : ByteArray) : (a.toList == b.toList) = decide (a = b) := by
  rw [ByteArray.toList_eq, ByteArray.toList_eq, Bool.eq_iff_iff]
  simp only [beq_iff_eq, decide_eq_true_eq]
  constructor
  · intro h
    cases a; cases b
    congr 1
    exact Array.toList_inj.1 h
  · intro h; rw [h]
/-! ### Names -/
def digB (x : Int) : Bool := decide (48 ≤ x) && decide (x ≤ 57)
def smB (x : Int) : Bool := decide (97 ≤ x) && decide (x ≤ 122)
def nmAt (s : ByteArray) (i : Nat) : Bool := smB (byteAt s i) || (decide (i ≠ 0) && (decide (byteAt s i = 45) || digB (byteAt s i)))
def nmFrom (s : ByteArray) (i : Nat) : Bool := (List.range' i (s.size - i)).all (nmAt s)
def named (s : ByteArray) : Bool := nmFrom s 0 && decide (1 ≤ s.size) && decide (s.size ≤ 64)
theorem nmFrom_step {s : ByteArray} {i : Nat} (h : i < s.size) : nmFrom s i = (nmAt s i && nmFrom s (i + 1)) := by
  unfold nmFrom
  rw [show s.size - i = (s.size - (i + 1)) + 1 by omega, List.range'_succ]
  simp
theorem nmFrom_end {s : ByteArray} {i : Nat} (h : s.size ≤ i) : nmFrom s i = true := by
  unfold nmFrom
  rw [show s.size - i = 0 by omega]; simp
theorem f152_ok (s : ByteArray) (hs : s.size < 2 ^ 63) (w : World) : Ct Try.prog 152 #[.string s] w fun v w' => v = .bool (named s) ∧ Md [] w w' := by
  apply f152_in
  refine Bd_in fun x1 hx1 => ?_
  subst hx1
  refine LoopP_in (fun m us vs w' => ∃ i : Nat, us = [.bool false, .int .i64 i] ∧ m = s.size - i ∧ i ≤ s.size ∧ nmFrom s 0 = nmFrom s i ∧ Md [] w w') s.size ⟨0, rfl, rfl, by omega, rfl, Md.refl _ _⟩ ?_
  rintro m us vs w5 ⟨i, rfl, rfl, hi, hn, h5⟩
  refine opB_in <| opI_in <| Bd_in fun b8 hb8 => If_in (fun h => ?_) fun h => ?_
  · subst hb8
    simp only [decide_eq_true_eq, Int.ofNat_lt] at h
    have hix : (0 : Int) ≤ (i : Int) ∧ (i : Int) < (s.size : Int) := ⟨by omega, by omega⟩
    refine ⟨hix, Bd_in fun x9 hx9 => Bd_in fun b10 hb10 => ⟨fun _ => hix, Bd_in fun x12 hx12 => Bd_in fun b13 hb13 => Bd_in fun b14 hb14 => Bd_in fun b15 hb15 => Bd_in fun b16 hb16 => ⟨fun _ => hix, Bd_in fun x18 hx18 => Bd_in fun b19 hb19 => ⟨fun _ => hix,
      Bd_in fun x21 hx21 => Bd_in fun b22 hb22 => ⟨fun _ => hix, Bd_in fun x24 hx24 => Bd_in fun b25 hb25 => Bd_in fun b26 hb26 => Bd_in fun b27 hb27 => Bd_in fun b28 hb28 => Bd_in fun b29 hb29 => ?_⟩⟩⟩⟩⟩
    have e29 : b29 = !nmAt s i := by
      rw [hb29, hb28, hb27, hb26, hb25, hb22, hb19, hb16, hb15, hb14, hb13, hb10, hx24, hx21, hx18, hx12, hx9]
      unfold nmAt smB digB
      generalize byteAt s (i : Int) = x
      have e0 : ((i : Int) == 0) = decide (i = 0) := by rw [Bool.eq_iff_iff]; simp
      rw [e0]
      by_cases hi0 : i = 0 <;> by_cases h1 : 97 ≤ x <;> by_cases h2 : x ≤ 122 <;> by_cases h3 : x = 45 <;> by_cases h4 : 48 ≤ x <;> by_cases h5 : x ≤ 57 <;> simp [hi0, h1, h2, h3, h4, h5] <;> omega
    refine If_in (fun h => ⟨?_, h5⟩) fun h => Bd_in fun x30 hx30 => ?_
    · rw [e29, Bool.not_eq_true'] at h
      unfold named
      rw [hn, nmFrom_step ‹i < s.size›, h]; simp
    · rw [e29, Bool.not_eq_false'] at h
      rw [inc_len ‹i < s.size› hs] at hx30
      subst hx30
      exact ⟨s.size - (i + 1), by omega, i + 1, rfl, rfl, by omega, by rw [hn, nmFrom_step ‹i < s.size›, h]; rfl, h5⟩
  · subst hb8
    simp only [decide_eq_false_iff_not, Int.ofNat_lt] at h
    refine Bd_in fun x31 hx31 => Bd_in fun b32 hb32 => Bd_in fun x33 hx33 => Bd_in fun b34 hb34 => Bd_in fun b35 hb35 => ⟨?_, h5⟩
    rw [hb35, hb34, hb32, hx31, hx33]
    unfold named
    rw [hn, nmFrom_end (by omega)]
    have e1 : ((s.size : Int) ≤ 64) = (s.size ≤ 64) := by apply propext; omega
    have e2 : ((s.size : Int) ≥ 1) = (1 ≤ s.size) := by apply propext; omega
    simp only [e1, e2]
    cases decide (1 ≤ s.size) <;> rfl
theorem f216_ok (x : Int) (w : World) : Ct Try.prog 216 #[.int .u8 x] w fun v w' => v = .bool (digB x) ∧ Md [] w w' := by
  apply f216_in
  refine Bd_in fun b1 hb1 => Bd_in fun b2 hb2 => Bd_in fun b3 hb3 => ⟨?_, Md.refl _ _⟩
  rw [hb3, hb2, hb1]
  unfold digB
  by_cases h1 : 48 ≤ x <;> by_cases h2 : x ≤ 57 <;> simp [h1, h2] <;> omega
theorem f155_ok (s : ByteArray) (hs : s.size < 2 ^ 63) (w : World) : Ct Try.prog 155 #[.string s] w fun v w' => v = .bool (nmFrom s 0 && decide (1 ≤ s.size)) ∧ Md [] w w' := by
  apply f155_in
  refine Bd_in fun x1 hx1 => Bd_in fun b2 hb2 => ?_
  have hix0 : b2 = false → ((0 : Int) ≤ 0 ∧ (0 : Int) < (s.size : Int)) := by
    intro h
    rw [hb2, hx1] at h
    have : ¬ (s.size : Int) = 0 := by simpa using h
    omega
  refine ⟨fun h => hix0 (by simpa using h), Bd_in fun x4 hx4 => Bd_in fun b5 hb5 => Bd_in fun b6 hb6 => ⟨fun h => hix0 (by rw [hb6] at h; cases b2 <;> simp at h ⊢), Bd_in fun x8 hx8 => Bd_in fun b9 hb9 => Bd_in fun b10 hb10 => ?_⟩⟩
  have e10 : b10 = !(decide (1 ≤ s.size) && nmAt s 0) := by
    rw [hb10, hb9, hb6, hb5, hb2, hx8, hx4, hx1]
    unfold nmAt smB
    have e0 : ((s.size : Int) == 0) = !decide (1 ≤ s.size) := by rw [Bool.eq_iff_iff]; simp
    rw [e0]
    have : byteAt s ((0 : Nat) : Int) = byteAt s 0 := rfl
    rw [this]
    generalize byteAt s 0 = x
    by_cases hi0 : 1 ≤ s.size <;> by_cases h1 : 97 ≤ x <;> by_cases h2 : x ≤ 122 <;> simp [hi0, h1, h2] <;> omega
  refine If_in (fun h => ⟨?_, Md.refl _ _⟩) fun h => ?_
  · rw [e10, Bool.not_eq_true'] at h
    by_cases h1 : 1 ≤ s.size
    · rw [nmFrom_step (by omega)]
      simp only [h1, decide_true, Bool.true_and] at h
      rw [h]; simp
    · simp [h1]
  rw [e10, Bool.not_eq_false', Bool.and_eq_true, decide_eq_true_eq] at h
  obtain ⟨h1, h0⟩ := h
  refine LoopP_in (fun m us vs w' => ∃ i : Nat, us = [.bool false, .int .i64 i] ∧ m = s.size - i ∧ 1 ≤ i ∧ i ≤ s.size ∧ nmFrom s 0 = nmFrom s i ∧ Md [] w w') (s.size - 1) ⟨1, rfl, rfl, by omega, by omega, by rw [nmFrom_step (by omega), h0]; rfl, Md.refl _ _⟩ ?_
  rintro m us vs w14 ⟨i, rfl, rfl, hi0, hi, hn, h14⟩
  refine opB_in <| opI_in <| Bd_in fun x17 hx17 => Bd_in fun b18 hb18 => If_in (fun h => ?_) fun h => ⟨?_, h14⟩
  · rw [hb18, hx17] at h
    simp only [decide_eq_true_eq, Int.ofNat_lt] at h
    have hix : (0 : Int) ≤ (i : Int) ∧ (i : Int) < (s.size : Int) := ⟨by omega, by omega⟩
    refine ⟨hix, Bd_in fun x19 hx19 => Bd_in fun b20 hb20 => ⟨fun _ => hix, Bd_in fun x22 hx22 => Bd_in fun b23 hb23 => Bd_in fun b24 hb24 => ⟨fun _ => hix, Bd_in fun x26 hx26 => ?_⟩⟩⟩
    refine Gd_to (fun b w' => (b24 = true → b = digB (byteAt s i)) ∧ Md [] w w') (fun b31 w32 hJ => ?_) (fun fin hc => ?_) (fun hc => ⟨fun h => (by rw [h] at hc; cases hc), h14⟩)
    · refine Bd_in fun b33 hb33 => Bd_in fun b34 hb34 => ⟨fun _ => hix, Bd_in fun x36 hx36 => Bd_in fun b37 hb37 => Bd_in fun b38 hb38 => ?_⟩
      have e38 : b38 = !nmAt s i := by
        have e24 : b24 = !smB (byteAt s i) := by
          rw [hb24, hb23, hb20, hx22, hx19]
          unfold smB
          generalize byteAt s (i : Int) = x
          by_cases h1 : 97 ≤ x <;> by_cases h2 : x ≤ 122 <;> simp [h1, h2] <;> omega
        rw [hb38, hb37, hb34, hb33, hx36]
        unfold nmAt
        cases hc : b24 with
        | false =>
          rw [hc] at e24
          have : smB (byteAt s i) = true := by cases h : smB (byteAt s i) <;> rw [h] at e24 <;> simp at e24 ⊢
          rw [this]; rfl
        | true =>
          rw [hc] at e24
          have : smB (byteAt s i) = false := by cases h : smB (byteAt s i) <;> rw [h] at e24 <;> simp at e24 ⊢
          rw [this, hJ.1 hc]
          have : i ≠ 0 := by omega
          by_cases h3 : byteAt s (i : Int) = 45 <;> cases digB (byteAt s i) <;> simp [h3, this]
      refine If_in (fun h => ⟨?_, hJ.2⟩) fun h => Bd_in fun x30 hx30 => ?_
      · rw [e38, Bool.not_eq_true'] at h
        rw [hn, nmFrom_step ‹i < s.size›, h]; simp
      · rw [e38, Bool.not_eq_false'] at h
        rw [inc_len ‹i < s.size› hs] at hx30
        subst hx30
        exact ⟨s.size - (i + 1), by omega, i + 1, rfl, rfl, by omega, by omega, by rw [hn, nmFrom_step ‹i < s.size›, h]; rfl, hJ.2⟩
    · subst hx26
      refine (f216_ok _ w14).call (by simp) ?_
      rintro v w' rfl h'
      exact opB_in (fin _ _ ⟨fun _ => rfl, h14.trans h'⟩)
  · rw [hb18, hx17] at h
    simp only [decide_eq_false_iff_not, Int.ofNat_lt] at h
    rw [hn, nmFrom_end (by omega)]
    simp [h1]
/-! ### Rows of texts and of numbers -/
theorem RowAt.take {α : Type} {w : World} {A : Option Addr} {size : Nat} {enc : α → List Value} {l : List α} (h : RowAt w A size enc l) (n : Nat) : RowAt w A size enc (l.take n) := by
  intro i x hx
  have hi := (List.getElem?_eq_some_iff.1 hx).1
  rw [List.getElem?_take_of_lt (by simp at hi; omega)] at hx
  exact h i x hx
theorem f215_ok (l : List ByteArray) (n : Nat) (hln : l.length = n) (hn : n < 2 ^ 63) (A : Option Addr) (C : Nat) (s : ByteArray) (w : World) (hr : RowAt w A 1 s1 l) :
    Ct Try.prog 215 #[.slice A n C, .string s] w fun v w' => (∃ x : Int, v = .int .i64 x ∧ (0 ≤ x ↔ s ∈ l)) ∧ Md [] w w' := by
  subst hln
  apply f215_in
  refine Bd_in fun x1 hx1 => ?_
  subst hx1
  refine LoopP_in (fun m us vs w' => ∃ i : Nat, us = [.int .i64 0, .int .i64 i] ∧ m = l.length - i ∧ i ≤ l.length ∧ s ∉ l.take i ∧ Md [] w w') l.length ⟨0, rfl, rfl, by omega, by simp, Md.refl _ _⟩ ?_
  rintro m us vs w5 ⟨i, rfl, rfl, hi, hno, h5⟩
  refine opI_in <| opI_in <| Bd_in fun b8 hb8 => If_in (fun h => ?_) fun h => ⟨⟨_, rfl, ?_⟩, h5⟩
  · subst hb8
    simp only [decide_eq_true_eq, Int.ofNat_lt] at h
    refine ⟨hr.ix h, (hr.md h5).ld1 h rfl <| opStr_in <| Bd_in fun b11 hb11 => If_in (fun hb => ⟨⟨_, rfl, ?_⟩, h5⟩) fun hb => Bd_in fun x12 hx12 => ?_⟩
    · rw [hb11, str_eq, decide_eq_true_eq] at hb
      subst hb
      exact ⟨fun _ => List.getElem_mem h, fun _ => by omega⟩
    · rw [hb11, str_eq, decide_eq_false_iff_not] at hb
      rw [inc_len h hn] at hx12
      subst hx12
      refine ⟨l.length - (i + 1), by omega, i + 1, rfl, rfl, by omega, ?_, h5⟩
      rw [List.take_succ_eq_append_getElem h, List.mem_append]
      simpa using ⟨hno, hb⟩
  · subst hb8
    simp only [decide_eq_false_iff_not, Int.ofNat_lt] at h
    rw [List.take_of_length_le (by omega)] at hno
    simp [hno]
def memB (s : ByteArray) (l : List ByteArray) : Bool := l.any fun x => decide (x = s)
theorem memB_iff {s : ByteArray} {l : List ByteArray} : memB s l = true ↔ s ∈ l := by simp [memB]
theorem f153_ok (l : List ByteArray) (n : Nat) (hln : l.length = n) (hn : n < 2 ^ 63) (A : Option Addr) (C : Nat) (s : ByteArray) (w : World) (hr : RowAt w A 1 s1 l) :
    Ct Try.prog 153 #[.slice A n C, .string s] w fun v w' => v = .bool (memB s l) ∧ Md [] w w' := by
  apply f153_in
  refine (f215_ok l n hln hn A C s w hr).call (by simp) ?_
  rintro v w' ⟨x, rfl, hx⟩ h'
  refine opI_in <| Bd_in fun b4 hb4 => ⟨?_, h'⟩
  rw [hb4]
  congr 1
  rw [Bool.eq_iff_iff, memB_iff, ← hx]
  simp
theorem f154_ok (l : List Int) (A : Option Addr) (C : Nat) (w : World) (hr : RowAt w A 1 i1 l) (hn : l.length < 2 ^ 63) (h0 : 1 ≤ l.length) :
    Ct Try.prog 154 #[.slice A l.length C] w fun v w' => (∃ x : Int, v = .int .i64 x ∧ ∀ n : Int, x < n ↔ ∀ y ∈ l, y < n) ∧ Md [] w w' := by
  apply f154_in
  refine Jn_in (fun us vs w' => Md [] w w') ?_ ?_
  · intro us vs w3 h3
    refine ⟨by simpa using hr.ix (i := 0) (by omega), ?_⟩
    have h00 : 0 < l.length := by omega
    refine (hr.md h3).ld1 (i := 0) h00 rfl <| opI_in ?_
    refine LoopP_in (fun m us vs w' => ∃ (i : Nat) (x : Int), us = [.int .i64 x, .int .i64 i] ∧ m = l.length - i ∧ i ≤ l.length ∧ (∀ n : Int, x < n ↔ ∀ y ∈ l.take i, y < n) ∧ Md [] w w') (l.length - 1) ⟨1, l[0], rfl, rfl, by omega, ?_, h3⟩ ?_
    · intro n
      rw [List.take_succ_eq_append_getElem h00]; simp
    rintro m us vs w9 ⟨i, x, rfl, rfl, hi, hx, h9⟩
    refine opI_in <| opI_in <| Bd_in fun x12 hx12 => Bd_in fun b13 hb13 => If_in (fun h => ?_) fun h => ⟨⟨x, rfl, ?_⟩, h9⟩
    · rw [hb13, hx12] at h
      simp only [decide_eq_true_eq, Int.ofNat_lt] at h
      refine ⟨hr.ix h, (hr.md h9).ld1 h rfl <| opI_in <| Bd_in fun x16 hx16 => Bd_in fun x17 hx17 => ?_⟩
      rw [inc_len h hn] at hx17
      subst hx17
      refine ⟨l.length - (i + 1), by omega, i + 1, x16, rfl, rfl, by omega, ?_, h9⟩
      intro n
      rw [List.take_succ_eq_append_getElem h]
      simp only [List.mem_append, List.mem_singleton]
      have hxn := hx n
      rw [hx16]
      constructor
      · intro h y hy
        rcases hy with hy | rfl
        · exact hxn.1 (by split at h <;> omega) y hy
        · split at h <;> omega
      · intro h
        have a := hxn.2 fun y hy => h y (.inl hy)
        have b := h _ (.inr rfl)
        split <;> omega
    · rw [hb13, hx12] at h
      simp only [decide_eq_false_iff_not, Int.ofNat_lt] at h
      rw [List.take_of_length_le (by omega)] at hx
      exact hx
  · refine Bd_in fun x19 hx19 => Bd_in fun b20 hb20 => If_in (fun h => ?_) fun _ => Md.refl _ _
    rw [hb20, hx19] at h
    simp at h
    omega
theorem f73_ok (a b : List Int) (A B : Option Addr) (C D : Nat) (w : World) (ha : RowAt w A 1 i1 a) (hb : RowAt w B 1 i1 b) (hal : a.length < 2 ^ 63) :
    Ct Try.prog 73 #[.slice A a.length C, .slice B b.length D] w fun v w' => v = .bool (decide (a = b)) ∧ Md [] w w' := by
  apply f73_in
  refine Bd_in fun x1 hx1 => Bd_in fun x2 hx2 => Bd_in fun b3 hb3 => ?_
  rw [hx1, hx2] at hb3
  refine If_in (fun h => ⟨?_, Md.refl _ _⟩) fun h => Bd_in fun x4 hx4 => ?_
  · have : a ≠ b := by rintro rfl; rw [hb3] at h; simp at h
    simp [this]
  have hl : (a.length : Int) = b.length := by rw [hb3] at h; simpa using h
  subst hx4
  refine LoopP_in (fun m us vs w' => ∃ i : Nat, us = [.bool false, .int .i64 i] ∧ m = a.length - i ∧ i ≤ a.length ∧ a.take i = b.take i ∧ Md [] w w') a.length ⟨0, rfl, rfl, by omega, by simp, Md.refl _ _⟩ ?_
  rintro m us vs w8 ⟨i, rfl, rfl, hi, hpre, h8⟩
  refine opB_in <| opI_in <| Bd_in fun b11 hb11 => If_in (fun h => ?_) fun h => ⟨?_, h8⟩
  · subst hb11
    simp only [decide_eq_true_eq, Int.ofNat_lt] at h
    have hib : i < b.length := by omega
    refine ⟨fun w' => Md [] w w', h8.trans (Md_drew _), ha.ix h, .int .i64 a[i], fun w' hw' => (ha.md hw').ld1 h rfl rfl, opI_in ⟨hb.ix hib, .int .i64 b[i], fun w' hw' => (hb.md hw').ld1 hib rfl rfl, opI_in <| Bd_in fun b23 hb23 => ?_⟩⟩
    refine If_in (fun he => ⟨?_, h8.trans (Md_drew _)⟩) fun he => Bd_in fun x24 hx24 => ?_
    · have : a ≠ b := by rintro rfl; rw [hb23] at he; simp at he
      simp [this]
    · have he' : a[i] = b[i] := by rw [hb23] at he; simpa using he
      rw [inc_len h hal] at hx24
      subst hx24
      refine ⟨a.length - (i + 1), by omega, i + 1, rfl, rfl, by omega, ?_, h8.trans (Md_drew _)⟩
      rw [List.take_succ_eq_append_getElem h, List.take_succ_eq_append_getElem hib, hpre, he']
  · subst hb11
    simp only [decide_eq_false_iff_not, Int.ofNat_lt] at h
    rw [List.take_of_length_le (by omega), List.take_of_length_le (by omega)] at hpre
    simp [hpre]
theorem f160_ok (a b : List ByteArray) (A B : Option Addr) (C D : Nat) (w : World) (ha : RowAt w A 1 s1 a) (hb : RowAt w B 1 s1 b) (hal : a.length < 2 ^ 63) :
    Ct Try.prog 160 #[.slice A a.length C, .slice B b.length D] w fun v w' => v = .bool (decide (a = b)) ∧ Md [] w w' := by
  apply f160_in
  refine Bd_in fun x1 hx1 => Bd_in fun x2 hx2 => Bd_in fun b3 hb3 => ?_
  rw [hx1, hx2] at hb3
  refine If_in (fun h => ⟨?_, Md.refl _ _⟩) fun h => Bd_in fun x4 hx4 => ?_
  · have : a ≠ b := by rintro rfl; rw [hb3] at h; simp at h
    simp [this]
  have hl : (a.length : Int) = b.length := by rw [hb3] at h; simpa using h
  subst hx4
  refine LoopP_in (fun m us vs w' => ∃ i : Nat, us = [.bool false, .int .i64 i] ∧ m = a.length - i ∧ i ≤ a.length ∧ a.take i = b.take i ∧ Md [] w w') a.length ⟨0, rfl, rfl, by omega, by simp, Md.refl _ _⟩ ?_
  rintro m us vs w8 ⟨i, rfl, rfl, hi, hpre, h8⟩
  refine opB_in <| opI_in <| Bd_in fun b11 hb11 => If_in (fun h => ?_) fun h => ⟨?_, h8⟩
  · subst hb11
    simp only [decide_eq_true_eq, Int.ofNat_lt] at h
    have hib : i < b.length := by omega
    refine ⟨fun w' => Md [] w w', h8.trans (Md_drew _), ha.ix h, .string a[i], fun w' hw' => (ha.md hw').ld1 h rfl rfl, opStr_in ⟨hb.ix hib, .string b[i], fun w' hw' => (hb.md hw').ld1 hib rfl rfl, opStr_in <| Bd_in fun b23 hb23 => ?_⟩⟩
    rw [str_eq] at hb23
    refine If_in (fun he => ⟨?_, h8.trans (Md_drew _)⟩) fun he => Bd_in fun x24 hx24 => ?_
    · have : a ≠ b := by rintro rfl; rw [hb23] at he; simp at he
      simp [this]
    · have he' : a[i] = b[i] := by rw [hb23] at he; simpa using he
      rw [inc_len h hal] at hx24
      subst hx24
      refine ⟨a.length - (i + 1), by omega, i + 1, rfl, rfl, by omega, ?_, h8.trans (Md_drew _)⟩
      rw [List.take_succ_eq_append_getElem h, List.take_succ_eq_append_getElem hib, hpre, he']
  · subst hb11
    simp only [decide_eq_false_iff_not, Int.ofNat_lt] at h
    rw [List.take_of_length_le (by omega), List.take_of_length_le (by omega)] at hpre
    simp [hpre]
theorem f96_ok (dm em : Int) (na nb ta tb : List Int) (A B D E : Option Addr) (C1 C2 C3 C4 : Nat) (w : World) (h1 : RowAt w A 1 i1 na) (h2 : RowAt w B 1 i1 ta) (h3 : RowAt w D 1 i1 nb) (h4 : RowAt w E 1 i1 tb) (hl1 : na.length < 2 ^ 63) (hl2 : ta.length < 2 ^ 63) :
    Ct Try.prog 96 #[.agg #[.int .i64 dm, .slice A na.length C1, .slice B ta.length C2], .agg #[.int .i64 em, .slice D nb.length C3, .slice E tb.length C4]] w fun v w' => v = .bool (decide (dm = em) && decide (na = nb) && decide (ta = tb)) ∧ Md [] w w' := by
  apply f96_in
  intro n1 hn1 n2 hn2
  refine Bd_in fun b3 hb3 w4 h4' hL4 => ?_
  have g4 : Good [n2, n1] w w4 := ⟨h4', hL4⟩
  refine Gd_to (fun b w' => (b3 = true → b = decide (na = nb)) ∧ Good [n2, n1] w w') (fun b9 w10 hJ => ?_) (fun fin hc => ?_) (fun hc => ⟨fun h => (by rw [h] at hc; cases hc), g4⟩)
  · obtain ⟨hb9, g10⟩ := hJ
    refine Bd_in fun b11 hb11 => ?_
    have e11 : b11 = (decide (dm = em) && decide (na = nb)) := by
      have e3 : b3 = decide (dm = em) := by rw [hb3, Bool.eq_iff_iff]; simp
      rw [hb11]
      cases h : b3 with
      | false => rw [h] at e3; rw [← e3]; rfl
      | true => rw [h] at e3; rw [← e3, hb9 h]; rfl
    refine Gd_to (fun b w' => (b11 = true → b = decide (ta = tb)) ∧ Good [n2, n1] w w') (fun b16 w17 hJ => ?_) (fun fin hc => ?_) (fun hc => ⟨fun h => (by rw [h] at hc; cases hc), g10⟩)
    · refine Bd_in fun b18 hb18 => ⟨?_, hJ.2.1⟩
      rw [hb18]
      cases h : b11 with
      | false => rw [h] at e11; rw [← e11]; rfl
      | true => rw [h] at e11; rw [← e11, hJ.1 h]; rfl
    · refine (f73_ok ta tb B E C2 C4 w10 (h2.md g10.1) (h4.md g10.1) hl2).call g10.2 ?_
      rintro v w' rfl h'
      exact opB_in (fin _ _ ⟨fun _ => rfl, g10.tr h'⟩)
  · refine (f73_ok na nb A D C1 C3 w4 (h1.md h4') (h3.md h4') hl1).call hL4 ?_
    rintro v w' rfl h'
    exact opB_in (fin _ _ ⟨fun _ => rfl, g4.tr h'⟩)
end Fk
