/- Contracts of functions, and plain laws: several texts, joined. -/
import Derived.Test.YtpgjpgecgibklaaGR0
import Derived.Test.YtpgjpgecgibklaaGV0
import Derived.Laws.Slices
import Derived.Test.YtpgjpgecgibklaaGK2
import Derived.Laws.OwnMore
import Derived.Laws.CopyRow
import Derived.Laws.IdiomStrings
import Derived.SizedLaws
set_option linter.unusedVariables false
set_option linter.unusedSimpArgs false
set_option maxRecDepth 100000
namespace Fk
open Go Go.Proofs Go.RowKit
def i1 (x : Int) : List Value := [.int .i64 x]
def s1 (s : ByteArray) : List Value := [.string s]
theorem enci1 : Enc 1 i1 := ⟨fun _ => rfl, by intro x v hv; simp [i1] at hv; subst hv; rfl⟩
theorem encs1 : Enc 1 s1 := ⟨fun _ => rfl, by intro x v hv; simp [s1] at hv; subst hv; rfl⟩
theorem RowAt.ld1 {α : Type} {w : World} {A : Option Addr} {enc : α → List Value} {l : List α} (h : RowAt w A 1 enc l) {i : Nat} (hi : i < l.length) {v : Value} (hv : (enc l[i])[0]? = some v) {K : Value → Prop} (k : K v) : Ld w (adAt A (i : Int) 1) K := by
  obtain ⟨B, rfl, hc⟩ := h i l[i] (List.getElem?_eq_getElem hi)
  have := hc 0 v hv
  rw [addr_add0] at this
  exact Ld_in this k
where addr_add0 (A : Addr) : A.add 0 = A := by unfold Addr.add; simp
theorem f90_ok (dm : Int) (na ta : Option Addr) (nn nc tn tc : Nat) (w : World) : Ct Try.prog 90 #[.agg #[.int .i64 dm, .slice na nn nc, .slice ta tn tc]] w fun v w' => v = .bool (decide (tn ≤ 60) && decide (nn ≤ 2400)) ∧ Md [] w w' := by
  apply f90_in
  intro n1 hn1
  refine Bd_in fun x2 hx2 => Bd_in fun b3 hb3 => Bd_in fun x4 hx4 => Bd_in fun b5 hb5 => Bd_in fun b6 hb6 w7 h7 hL7 => ⟨?_, h7⟩
  rw [hb6, hb5, hb3, hx4, hx2]
  have e1 : ((tn : Int) ≤ 60) = (tn ≤ 60) := by apply propext; omega
  have e2 : ((nn : Int) ≤ 2400) = (nn ≤ 2400) := by apply propext; omega
  simp only [e1, e2]
  cases decide (tn ≤ 60) <;> rfl
/-- Which second machines are right. -/
def dRight (dm : Int) (next tags : List Int) : Bool :=
  decide (1 ≤ dm ∧ dm ≤ 256 ∧ 1 ≤ tags.length ∧ tags.length ≤ 5000 ∧ (next.length : Int) = dm * tags.length) && (tags.all fun x => decide (-1 ≤ x ∧ x < 200)) && (next.all fun x => decide (-1 ≤ x ∧ x < tags.length))
theorem mul_i64 {dm : Int} {n : Nat} (h1 : 1 ≤ dm) (h2 : dm ≤ 256) (h3 : n ≤ 5000) : IntKind.wrap .i64 (dm * (n : Int)) = dm * n := by
  have h4 : dm * (n : Int) ≤ 256 * 5000 := Int.mul_le_mul h2 (by omega) (by omega) (by omega)
  have h5 : 0 ≤ dm * (n : Int) := Int.mul_nonneg (by omega) (by omega)
  rw [IntKind.wrap_i64]; omega
theorem all_take {α : Type} {p : α → Bool} {l : List α} {i : Nat} (hi : i < l.length) (h : (l.take i).all p = true) (hp : p l[i] = true) : (l.take (i + 1)).all p = true := by
  rw [List.take_succ_eq_append_getElem hi, List.all_append, h]; simp [hp]
theorem all_false {α : Type} {p : α → Bool} {l : List α} {i : Nat} (hi : i < l.length) (hp : p l[i] = false) : l.all p = false := by
  rw [List.all_eq_false]; exact ⟨l[i], List.getElem_mem hi, by simp [hp]⟩
theorem inc_len {i n : Nat} (h : i < n) (hn : n < 2 ^ 63) : IntKind.wrap .i64 ((i : Int) + 1) = ((i + 1 : Nat) : Int) := by rw [IntKind.wrap_i64]; omega
theorem f72_ok (dm : Int) (next tags : List Int) (na ta : Option Addr) (nc tc : Nat) (w : World) (hn : RowAt w na 1 i1 next) (ht : RowAt w ta 1 i1 tags) (hnl : next.length < 2 ^ 63) (htl : tags.length < 2 ^ 63) :
    Ct Try.prog 72 #[.agg #[.int .i64 dm, .slice na next.length nc, .slice ta tags.length tc]] w fun v w' => v = .bool (dRight dm next tags) ∧ Md [] w w' := by
  apply f72_in
  intro n1 hn1
  refine Bd_in fun x2 hx2 => Bd_in fun b3 hb3 => Bd_in fun b4 hb4 => Bd_in fun b5 hb5 => Bd_in fun b6 hb6 => Bd_in fun b7 hb7 => Bd_in fun b8 hb8 => Bd_in fun b9 hb9 => Bd_in fun x10 hx10 => Bd_in fun x11 hx11 => Bd_in fun b12 hb12 => Bd_in fun b13 hb13 => ?_
  subst hx2; subst hx10
  have e13 : b13 = !decide (1 ≤ dm ∧ dm ≤ 256 ∧ 1 ≤ tags.length ∧ tags.length ≤ 5000 ∧ (next.length : Int) = dm * tags.length) := by
    rw [hb13, hb12, hb9, hb8, hb7, hb6, hb5, hb4, hb3]
    by_cases h1 : 1 ≤ dm
    · by_cases h2 : dm ≤ 256
      · by_cases h3 : 1 ≤ tags.length
        · by_cases h4 : tags.length ≤ 5000
          · rw [hx11, mul_i64 h1 h2 h4]
            have a1 : ¬ dm < 1 := by omega
            have a2 : ¬ 256 < dm := by omega
            have a3 : ¬ (tags.length : Int) < 1 := by omega
            have a4 : ¬ (5000 : Int) < (tags.length : Int) := by omega
            simp only [a1, a2, a3, a4, gt_iff_lt, decide_false, cond_false, h1, h2, h3, h4, true_and]
            by_cases h5 : (next.length : Int) = dm * tags.length <;> simp [h5]
          · have a4 : (5000 : Int) < (tags.length : Int) := by omega
            simp [h4, a4]
        · have a3 : (tags.length : Int) < 1 := by omega
          simp [h3, a3]
      · have a2 : 256 < dm := by omega
        simp [h2, a2]
    · have a1 : dm < 1 := by omega
      simp [h1, a1]
  refine If_in (fun h w14 h14 hL14 => ⟨?_, h14⟩) fun h => Bd_in fun x15 hx15 w16 h16 hL16 => ?_
  · rw [e13] at h
    have : decide (1 ≤ dm ∧ dm ≤ 256 ∧ 1 ≤ tags.length ∧ tags.length ≤ 5000 ∧ (next.length : Int) = dm * tags.length) = false := by rw [Bool.not_eq_true'] at h; exact h
    unfold dRight
    rw [this]; rfl
  have hd : decide (1 ≤ dm ∧ dm ≤ 256 ∧ 1 ≤ tags.length ∧ tags.length ≤ 5000 ∧ (next.length : Int) = dm * tags.length) = true := by rw [e13, Bool.not_eq_false'] at h; exact h
  subst hx15
  refine LoopP_in (fun m us vs w' => ∃ i : Nat, us = [.bool false, .int .i64 i] ∧ m = tags.length - i ∧ i ≤ tags.length ∧ (tags.take i).all (fun x => decide (-1 ≤ x ∧ x < 200)) = true ∧ Md [] w w') tags.length ⟨0, rfl, rfl, by omega, by simp, h16⟩ ?_
  rintro m us vs w20 ⟨i, rfl, rfl, hi, hall, h20⟩
  refine opB_in <| opI_in <| Bd_in fun b23 hb23 => If_in (fun hb => ?_) fun hb => ?_
  · subst hb23
    simp only [decide_eq_true_eq, Int.ofNat_lt] at hb
    refine ⟨ht.ix hb, (ht.md h20).ld1 hb rfl ?_⟩
    refine opI_in <| Bd_in fun b26 hb26 => Bd_in fun b27 hb27 => Bd_in fun b28 hb28 => If_in (fun h => ⟨?_, h20⟩) fun h => Bd_in fun x29 hx29 => ?_
    · have : (tags.all fun x => decide (-1 ≤ x ∧ x < 200)) = false := all_false hb (by
        rw [hb28, hb27, hb26] at h
        rw [decide_eq_false_iff_not]
        by_cases h1 : tags[i] < -1
        · omega
        · simp [h1] at h; omega)
      unfold dRight
      rw [this]; simp
    · rw [inc_len hb htl] at hx29
      subst hx29
      refine ⟨tags.length - (i + 1), by omega, i + 1, rfl, rfl, by omega, all_take hb hall ?_, h20⟩
      rw [hb28, hb27, hb26] at h
      rw [decide_eq_true_eq]
      by_cases h1 : tags[i] < -1
      · simp [h1] at h
      · simp [h1] at h; omega
  · subst hb23
    simp only [decide_eq_false_iff_not, Int.ofNat_lt] at hb
    rw [List.take_of_length_le (by omega)] at hall
    refine Bd_in fun x30 hx30 => ?_
    subst hx30
    refine LoopP_in (fun m us vs w' => ∃ i : Nat, us = [.bool false, .int .i64 i] ∧ m = next.length - i ∧ i ≤ next.length ∧ (next.take i).all (fun x => decide (-1 ≤ x ∧ x < tags.length)) = true ∧ Md [] w w') next.length ⟨0, rfl, rfl, by omega, by simp, h20⟩ ?_
    rintro m us vs w34 ⟨j, rfl, rfl, hj, hall2, h34⟩
    refine opB_in <| opI_in <| Bd_in fun b37 hb37 => If_in (fun hb => ?_) fun hb => ⟨?_, h34⟩
    · subst hb37
      simp only [decide_eq_true_eq, Int.ofNat_lt] at hb
      refine ⟨hn.ix hb, (hn.md h34).ld1 hb rfl ?_⟩
      refine opI_in <| Bd_in fun b40 hb40 => Bd_in fun b41 hb41 => Bd_in fun b42 hb42 => If_in (fun h => ⟨?_, h34⟩) fun h => Bd_in fun x43 hx43 => ?_
      · have : (next.all fun x => decide (-1 ≤ x ∧ x < tags.length)) = false := all_false hb (by
          rw [hb42, hb41, hb40] at h
          rw [decide_eq_false_iff_not]
          by_cases h1 : next[j] < -1
          · omega
          · simp [h1] at h; omega)
        unfold dRight
        rw [this]; simp
      · rw [inc_len hb hnl] at hx43
        subst hx43
        refine ⟨next.length - (j + 1), by omega, j + 1, rfl, rfl, by omega, all_take hb hall2 ?_, h34⟩
        rw [hb42, hb41, hb40] at h
        rw [decide_eq_true_eq]
        by_cases h1 : next[j] < -1
        · simp [h1] at h
        · simp [h1] at h; omega
    · subst hb37
      simp only [decide_eq_false_iff_not, Int.ofNat_lt] at hb
      rw [List.take_of_length_le (by omega)] at hall2
      unfold dRight
      rw [hd, hall, hall2]; rfl
end Fk
set_option linter.unusedVariables false
set_option linter.unusedSimpArgs false
set_option maxRecDepth 100000
namespace Fk
open Go Go.Proofs Go.RowKit
theorem addr_add0 (A : Addr) : A.add 0 = A := by unfold Addr.add; simp
/-- The first ones of a slice. -/
theorem slice_front {P : Program} {t e : TypeId} (ht : P.underlying t = some (.slice e)) (hs : ∀ w, ∃ s, (Go.sizeOf e).run P w = .ok s w) (w : World) (a : Option Addr) (n c m : Nat) (h : m ≤ c) :
    (Instr.sliceAt t (.slice a n c) none (some (.int .i64 (m : Int))) none).run P w = .ok (.slice a m c) w := by
  have he : P.elem t = e := by simp [Program.elem, ht]
  have ht' : P.underlying t = some (.slice (P.elem t)) := by rw [he]; exact ht
  rw [run_sliceAt_slice w t _ _ _ _ ht', run_slice_h w t a n c ht' .i64 m (by omega) (by omega), he]
  obtain ⟨s, hs⟩ := hs w
  rw [hs]
  simp only [Result.andThen, sliced, Int.toNat_natCast, Nat.sub_zero, Nat.zero_mul]
  congr 2
  split
  · rfl
  · cases a with
    | none => rfl
    | some A => simp [addr_add0]
end Fk
set_option linter.unusedVariables false
set_option linter.unusedSimpArgs false
set_option maxRecDepth 100000
namespace Fk
open Go Go.Proofs Go.RowKit
def digB (x : Int) : Bool := decide (48 ≤ x) && decide (x ≤ 57)
def smB (x : Int) : Bool := decide (97 ≤ x) && decide (x ≤ 122)
def nmAt (s : ByteArray) (i : Nat) : Bool := smB (byteAt s i) || (decide (i ≠ 0) && (decide (byteAt s i = 45) || digB (byteAt s i)))
def nmFrom (s : ByteArray) (i : Nat) : Bool := (List.range' i (s.size - i)).all (nmAt s)
def named (s : ByteArray) : Bool := nmFrom s 0 && decide (1 ≤ s.size) && decide (s.size ≤ 64)
theorem RowAt.take {α : Type} {w : World} {A : Option Addr} {size : Nat} {enc : α → List Value} {l : List α} (h : RowAt w A size enc l) (n : Nat) : RowAt w A size enc (l.take n) := by
  intro i x hx
  have hi := (List.getElem?_eq_some_iff.1 hx).1
  rw [List.getElem?_take_of_lt (by simp at hi; omega)] at hx
  exact h i x hx
def memB (s : ByteArray) (l : List ByteArray) : Bool := l.any fun x => decide (x = s)
theorem f73_ok (a b : List Int) (A B : Option Addr) (C D : Nat) (w : World) (ha : RowAt w A 1 i1 a) (hb : RowAt w B 1 i1 b) (hal : a.length < 2 ^ 63) :
    Ct Try.prog 73 #[.slice A a.length C, .slice B b.length D] w fun v w' => v = .bool (decide (a = b)) ∧ Md [] w w' := by
  apply f73_in
  refine Bd_in fun x1 hx1 => Bd_in fun x2 hx2 => Bd_in fun b3 hb3 => ?_
  rw [hx1, hx2] at hb3
  refine If_in (fun h => ⟨?_, Md.refl _ _⟩) fun h => Bd_in fun x4 hx4 => ?_
  · have : a ≠ b := by rintro rfl; rw [hb3] at h; simp at h
    simp [this]
  have hl : (a.length : Int) = b.length := by rw [hb3] at h; simpa using h
  subst hx4
  refine LoopP_in (fun m us vs w' => ∃ i : Nat, us = [.bool false, .int .i64 i] ∧ m = a.length - i ∧ i ≤ a.length ∧ a.take i = b.take i ∧ Md [] w w') a.length ⟨0, rfl, rfl, by omega, by simp, Md.refl _ _⟩ ?_
  rintro m us vs w8 ⟨i, rfl, rfl, hi, hpre, h8⟩
  refine opB_in <| opI_in <| Bd_in fun b11 hb11 => If_in (fun h => ?_) fun h => ⟨?_, h8⟩
  · subst hb11
    simp only [decide_eq_true_eq, Int.ofNat_lt] at h
    have hib : i < b.length := by omega
    refine ⟨fun w' => Md [] w w', h8.trans (Md_drew _), ha.ix h, .int .i64 a[i], fun w' hw' => (ha.md hw').ld1 h rfl rfl, opI_in ⟨hb.ix hib, .int .i64 b[i], fun w' hw' => (hb.md hw').ld1 hib rfl rfl, opI_in <| Bd_in fun b23 hb23 => ?_⟩⟩
    refine If_in (fun he => ⟨?_, h8.trans (Md_drew _)⟩) fun he => Bd_in fun x24 hx24 => ?_
    · have : a ≠ b := by rintro rfl; rw [hb23] at he; simp at he
      simp [this]
    · have he' : a[i] = b[i] := by rw [hb23] at he; simpa using he
      rw [inc_len h hal] at hx24
      subst hx24
      refine ⟨a.length - (i + 1), by omega, i + 1, rfl, rfl, by omega, ?_, h8.trans (Md_drew _)⟩
      rw [List.take_succ_eq_append_getElem h, List.take_succ_eq_append_getElem hib, hpre, he']
  · subst hb11
    simp only [decide_eq_false_iff_not, Int.ofNat_lt] at h
    rw [List.take_of_length_le (by omega), List.take_of_length_le (by omega)] at hpre
    simp [hpre]
theorem f96_ok (dm em : Int) (na nb ta tb : List Int) (A B D E : Option Addr) (C1 C2 C3 C4 : Nat) (w : World) (h1 : RowAt w A 1 i1 na) (h2 : RowAt w B 1 i1 ta) (h3 : RowAt w D 1 i1 nb) (h4 : RowAt w E 1 i1 tb) (hl1 : na.length < 2 ^ 63) (hl2 : ta.length < 2 ^ 63) :
    Ct Try.prog 96 #[.agg #[.int .i64 dm, .slice A na.length C1, .slice B ta.length C2], .agg #[.int .i64 em, .slice D nb.length C3, .slice E tb.length C4]] w fun v w' => v = .bool (decide (dm = em) && decide (na = nb) && decide (ta = tb)) ∧ Md [] w w' := by
  apply f96_in
  intro n1 hn1 n2 hn2
  refine Bd_in fun b3 hb3 w4 h4' hL4 => ?_
  have g4 : Good [n2, n1] w w4 := ⟨h4', hL4⟩
  refine Gd_to (fun b w' => (b3 = true → b = decide (na = nb)) ∧ Good [n2, n1] w w') (fun b9 w10 hJ => ?_) (fun fin hc => ?_) (fun hc => ⟨fun h => (by rw [h] at hc; cases hc), g4⟩)
  · obtain ⟨hb9, g10⟩ := hJ
    refine Bd_in fun b11 hb11 => ?_
    have e11 : b11 = (decide (dm = em) && decide (na = nb)) := by
      have e3 : b3 = decide (dm = em) := by rw [hb3, Bool.eq_iff_iff]; simp
      rw [hb11]
      cases h : b3 with
      | false => rw [h] at e3; rw [← e3]; rfl
      | true => rw [h] at e3; rw [← e3, hb9 h]; rfl
    refine Gd_to (fun b w' => (b11 = true → b = decide (ta = tb)) ∧ Good [n2, n1] w w') (fun b16 w17 hJ => ?_) (fun fin hc => ?_) (fun hc => ⟨fun h => (by rw [h] at hc; cases hc), g10⟩)
    · refine Bd_in fun b18 hb18 => ⟨?_, hJ.2.1⟩
      rw [hb18]
      cases h : b11 with
      | false => rw [h] at e11; rw [← e11]; rfl
      | true => rw [h] at e11; rw [← e11, hJ.1 h]; rfl
    · refine (f73_ok ta tb B E C2 C4 w10 (h2.md g10.1) (h4.md g10.1) hl2).call g10.2 ?_
      rintro v w' rfl h'
      exact opB_in (fin _ _ ⟨fun _ => rfl, g10.tr h'⟩)
  · refine (f73_ok na nb A D C1 C3 w4 (h1.md h4') (h3.md h4') hl1).call hL4 ?_
    rintro v w' rfl h'
    exact opB_in (fin _ _ ⟨fun _ => rfl, g4.tr h'⟩)
end Fk
set_option linter.unusedVariables false
set_option linter.unusedSimpArgs false
set_option maxRecDepth 100000
namespace Fk
open Go Go.Proofs Go.RowKit
/-- A table. -/
structure Tb where
  c : Cl
  dm : Int
  nx : List Int
  tg : List Int
  nm : List ByteArray
/-- Where its rows stand. -/
structure TbS where
  na : Option Addr
  nc : Nat
  ta : Option Addr
  tc : Nat
  sa : Option Addr
  sc : Nat
def Tb.d (t : Tb) (p : TbS) : List Value := [.int .i64 t.dm, .slice p.na t.nx.length p.nc, .slice p.ta t.tg.length p.tc]
def Tb.l (t : Tb) (p : TbS) : List Value := t.c.l ++ (t.d p ++ [.slice p.sa t.nm.length p.sc])
def Tb.v (t : Tb) (p : TbS) : Array Value := (t.l p).toArray
structure TbAt (w : World) (t : Tb) (p : TbS) : Prop where
  ok : t.c.ok
  nx : RowAt w p.na 1 i1 t.nx
  tg : RowAt w p.ta 1 i1 t.tg
  nm : RowAt w p.sa 1 s1 t.nm
  nxl : t.nx.length < 2 ^ 63
  tgl : t.tg.length < 2 ^ 63
  nml : t.nm.length < 2 ^ 63
  nsz : ∀ s ∈ t.nm, s.size < 2 ^ 63
  cap : t.nm.length ≤ p.sc
theorem TbAt.md {w w' : World} {t : Tb} {p : TbS} (h : TbAt w t p) (hm : Md [] w w') : TbAt w' t p := ⟨h.ok, h.nx.md hm, h.tg.md hm, h.nm.md hm, h.nxl, h.tgl, h.nml, h.nsz, h.cap⟩
section
variable {w : World} {t : Tb} {p : TbS}
theorem TbAt.len (h : TbAt w t p) : t.c.l.length = 257 := by simp [Cl.l, h.ok.len]
theorem TbAt.size (h : TbAt w t p) : (t.v p).size = 261 := by simp [Tb.v, Tb.l, Tb.d, h.len]
end
def namesOk : List ByteArray → List ByteArray → Bool
  | _, [] => true
  | pre, s :: l => named s && !memB s pre && namesOk (pre ++ [s]) l
def tHead (t : Tb) : Bool := t.c.right && dRight t.dm t.nx t.tg && decide (t.c.m = t.dm) && decide (1 ≤ t.nm.length ∧ t.nm.length ≤ 200)
def tTags (t : Tb) : Bool := t.tg.all fun x => decide (x < (t.nm.length : Int))
/-- Which tables are right. -/
def tRight (t : Tb) : Bool := tHead t && namesOk [] t.nm && tTags t
theorem dRight_tags {dm : Int} {nx tg : List Int} (h : dRight dm nx tg = true) : 1 ≤ dm ∧ dm ≤ 256 ∧ 1 ≤ tg.length ∧ tg.length ≤ 5000 ∧ (nx.length : Int) = dm * tg.length := by
  simp only [dRight, Bool.and_eq_true, decide_eq_true_eq] at h; exact h.1.1
section
variable {L : List Nat} {w0 w : World} {K : Bool → World → Prop}
end
section
variable {L : List Nat} {w0 w : World} {K : Bool → World → Prop}
end
end Fk
set_option linter.unusedVariables false
set_option linter.unusedSimpArgs false
set_option maxRecDepth 100000
namespace Fk
open Go Go.Proofs Go.RowKit
def b1 (x : Nat) : List Value := [.int .u8 (x : Int)]
theorem encb1 : Enc 1 b1 := ⟨fun _ => rfl, by intro x v hv; simp [b1] at hv; subst hv; rfl⟩
theorem rowT51 : RowT Try.prog 51 5 1 1 := RowT.of (by kernel_rfl) (by kernel_rfl) (by kernel_rfl) (by omega)
def Blk (w : World) (n : Nat) (ty : TypeId) (l : List Value) : Prop := w.heap[n]? = some (.cells l.toArray ty (0, 0))
theorem Blk.lt {w : World} {n : Nat} {ty : TypeId} {l : List Value} (h : Blk w n ty l) : n < w.heap.size := (Array.getElem?_eq_some_iff.1 h).1
theorem Blk.cell {w : World} {n : Nat} {ty : TypeId} {l : List Value} (h : Blk w n ty l) {j : Nat} {v : Value} (hv : l[j]? = some v) : w.cell? ⟨n, j, none⟩ = some v := by
  rw [cell_of_row w n j _ ty (0, 0) h]; simpa using hv
theorem Blk.wr {w : World} {n : Nat} {ty : TypeId} {l : List Value} (h : Blk w n ty l) {o k : Nat} (hk : o + k ≤ l.length) : Wr w ⟨n, o, none⟩ k := by
  intro j hj
  rw [Addr.add_lit]
  refine ⟨⟨_, h.cell (List.getElem?_eq_getElem (by omega))⟩, ?_⟩
  unfold Blk at h
  simp [World.frozen?, h]
theorem Blk.set {w : World} {n : Nat} {ty : TypeId} {l : List Value} (h : Blk w n ty l) {j : Nat} (hj : j < l.length) (v : Value) : Blk (setCells w ⟨n, j, none⟩ 0 [v]) n ty (l.set j v) := by
  rcases wrL_run (m := 0) (cells := []) (o := j) (vs := []) [v] 0 l w h with h' | h'
  · unfold Blk
    rw [h']
    congr 3
    unfold wrL
    simp [List.set_eq_take_append_cons_drop, hj]
  · simp at h'; omega
theorem setCells_env : ∀ (vs : List Value) (i : Nat) (w : World) (A : Addr), (setCells w A i vs).os = w.os ∧ (setCells w A i vs).tape = w.tape ∧ (setCells w A i vs).output = w.output ∧ (setCells w A i vs).heap.size = w.heap.size
  | [], _, _, _ => ⟨rfl, rfl, rfl, rfl⟩
  | v :: vs, i, w, A => by
    obtain ⟨h1, h2, h3, h4⟩ := setCells_env vs (i + 1) (w.setCell (A.add i) v) A
    simp only [setCells]
    exact ⟨h1, h2, h3, by rw [h4]; simp [World.setCell]⟩
theorem Md_setCells {w : World} (n o : Nat) (vs : List Value) : Md [n] w (setCells w ⟨n, o, none⟩ 0 vs) := by
  obtain ⟨h1, h2, h3, h4⟩ := setCells_env vs 0 w ⟨n, o, none⟩
  exact ⟨h1, h2, h3, by omega, fun k hk hm => setCells_heap _ _ _ _ (by simpa using hm)⟩
theorem Blk.md {w w' : World} {n : Nat} {ty : TypeId} {l : List Value} {D : List Nat} (h : Blk w n ty l) (hm : Md D w w') (hD : n ∉ D) : Blk w' n ty l := by
  unfold Blk
  rw [hm.blk n h.lt hD]; exact h
/-- Rows that a change elsewhere leaves. -/
theorem RowAt.mdD {α : Type} {w w' : World} {a : Option Addr} {size : Nat} {enc : α → List Value} {l : List α} {D : List Nat} (h : RowAt w a size enc l) (hm : Md D w w') (hD : ∀ A, a = some A → A.block ∉ D) : RowAt w' a size enc l := by
  intro i x hx
  obtain ⟨B, hB, hc⟩ := h i x hx
  refine ⟨B, hB, fun j u hu => hm.cell (hc j u hu) ?_⟩
  rw [add_block, add_block]
  exact hD B hB
theorem RowAt.mdE {α : Type} {w w' : World} {a : Option Addr} {size : Nat} {enc : α → List Value} {l : List α} {D : List Nat} (h : RowAt w a size enc l) (hm : Md D w w') (hD : ∀ A, a = some A → l ≠ [] → A.block ∉ D) : RowAt w' a size enc l := by
  cases l with
  | nil => intro i x hx; simp at hx
  | cons x l => exact h.mdD hm fun A hA => hD A hA (by simp)
theorem RowAt.lt {α : Type} {w : World} {a : Option Addr} {size : Nat} {enc : α → List Value} {l : List α} (h : RowAt w a size enc l) (he : Enc size enc) (hs : 0 < size) : ∀ A, a = some A → l ≠ [] → A.block < w.heap.size := by
  intro A hA hne
  obtain ⟨x, l', rfl⟩ := List.exists_cons_of_ne_nil hne
  obtain ⟨B, hB, hc⟩ := h 0 x rfl
  rw [hA] at hB
  cases hB
  have hl := he.len x
  have := cell_lt (hc 0 _ (List.getElem?_eq_getElem (by omega)))
  rw [add_block, add_block] at this
  exact this
theorem add_add (B : Addr) (x y : Nat) : (B.add x).add y = B.add (x + y) := by
  unfold Addr.add
  split <;> split <;> simp_all [Nat.add_assoc]
theorem RowAt.drop {α : Type} {w : World} {A : Option Addr} {size : Nat} {enc : α → List Value} {l : List α} (h : RowAt w A size enc l) (n : Nat) : RowAt w (A.map (·.add (n * size))) size enc (l.drop n) := by
  intro i x hx
  rw [List.getElem?_drop] at hx
  obtain ⟨B, rfl, hc⟩ := h (n + i) x hx
  refine ⟨_, rfl, fun j u hu => ?_⟩
  have := hc j u hu
  rw [show (B.add (n * size)).add (i * size) = B.add ((n + i) * size) by rw [Nat.add_mul]; exact add_add B _ _]
  exact this
theorem slice_rest {P : Program} {t e : TypeId} (ht : P.underlying t = some (.slice e)) (hs : ∀ w, (Go.sizeOf e).run P w = .ok 1 w) (w : World) (a : Option Addr) (n c m : Nat) (h : m ≤ n) :
    (Instr.sliceAt t (.slice a n c) (some (.int .i64 (m : Int))) none none).run P w = .ok (.slice (if c = m then a else a.map (·.add (m * 1))) (n - m) (c - m)) w := by
  have he : P.elem t = e := by simp [Program.elem, ht]
  have ht' : P.underlying t = some (.slice (P.elem t)) := by rw [he]; exact ht
  rw [run_sliceAt_slice w t _ _ _ _ ht', run_slice_l w t a n c ht' .i64 m (by omega) (by omega), he, hs w]
  simp [Result.andThen, sliced]
def takeO (o : Option (List Nat)) (m : Nat) : List Nat × Option (List Nat) := match o with
  | none => (List.replicate m 0, none)
  | some r => if r.length < m then (List.replicate m 0, none) else (r.take m, some (r.drop m))
theorem takeO_len (o : Option (List Nat)) (m : Nat) : (takeO o m).1.length = m := by
  unfold takeO
  split
  · simp
  · split
    · simp
    · simp; omega
def CuAt (w : World) (n : Nat) (o : Option (List Nat)) (tl : List Value) : Prop :=
  ∃ (r : List Nat) (off : Bool) (a : Option Addr) (c : Nat), o = (if off = true then none else some r) ∧ Blk w n 209 (.slice a r.length c :: .bool off :: tl) ∧ RowAt w a 1 b1 r ∧ r.length ≤ c ∧ (∀ A, a = some A → r ≠ [] → A.block < n)
def oneO (o : Option (List Nat)) : Nat × Option (List Nat) := ((takeO o 1).1.headD 0, (takeO o 1).2)
def pairO (o : Option (List Nat)) : Nat × Option (List Nat) := ((takeO o 2).1.headD 0 * 256 + ((takeO o 2).1.getD 1 0), (takeO o 2).2)
def okO (o : Option (List Nat)) : Prop := ∀ r, o = some r → ∀ x ∈ r, x < 256
theorem okO.take {o : Option (List Nat)} (h : okO o) (m : Nat) : okO (takeO o m).2 ∧ ∀ x ∈ (takeO o m).1, x < 256 := by
  cases o with
  | none => exact ⟨fun r hr => (by cases hr), fun x hx => by simp [takeO] at hx; omega⟩
  | some r =>
    unfold takeO
    by_cases hl : r.length < m
    · simp only [hl, if_true]
      exact ⟨fun r hr => (by cases hr), fun x hx => by simp at hx; omega⟩
    · simp only [hl, if_false]
      exact ⟨fun r' hr => (by cases hr; exact fun x hx => h r rfl x (List.mem_of_mem_drop hx)), fun x hx => h r rfl x (List.mem_of_mem_take hx)⟩
theorem okO.one {o : Option (List Nat)} (h : okO o) : okO (oneO o).2 ∧ (oneO o).1 < 256 := by
  obtain ⟨h1, h2⟩ := h.take 1
  refine ⟨h1, ?_⟩
  have hl := takeO_len o 1
  unfold oneO
  match hx : (takeO o 1).1, hl with
  | [x], _ => rw [hx] at h2; exact h2 x (by simp)
end Fk
set_option linter.unusedVariables false
set_option linter.unusedSimpArgs false
set_option maxRecDepth 100000
namespace Fk
open Go Go.Proofs Go.RowKit
section
variable {H : Type} {enc : TypeId × Value → H} {w : World} {base : Nat} {spare : Nat → Bool} {held : Bool} {fuel : Nat} {cs : List Value} {x : DataW H × List MemPlace}
/-- A row of elements of one kind. -/
theorem row_cs {α : Type} {t e : TypeId} {size : Nat} {en : α → List Value} {Q : α → Prop} (ht : Try.prog.underlying t = some (.slice e)) (hc : Try.prog.cellsOf e = size) (he : Enc size en)
    (hel : ∀ (m : Nat) (cs : List Value) (y : DataW H × List MemPlace), DataW.trod enc Try.prog w base spare held m e cs = some y → ∃ z : α, cs = en z ∧ Q z) (h : DataW.trod enc Try.prog w base spare held fuel t cs = some x) :
    ∃ (a : Option Addr) (c : Nat) (l : List α), cs = [.slice a l.length c] ∧ l.length ≤ c ∧ l.length < 2 ^ 63 ∧ RowAt w a size en l ∧ ∀ z ∈ l, Q z := by
  rcases DataW.trod_slice ht h with ⟨rfl, _⟩ | ⟨a, len, cap, elems, rest, n, rfl, rfl, _, _, hlc, hcm, hel', hat, _⟩
  · exact ⟨none, 0, [], rfl, by simp, by simp, fun i x hx => by simp at hx, by simp⟩
  have hx : ∀ j : Fin len, ∃ z : α, Q z ∧ ∀ k u, (en z)[k]? = some u → w.cell? ((a.add (j.1 * size)).add k) = some u := by
    intro j
    have h1 := hat j.1 j.2
    rw [List.getElem?_eq_getElem (by omega), hc] at h1
    obtain ⟨cs', hcs, htr⟩ := Option.bind_eq_some_iff.1 h1
    obtain ⟨z, rfl, hq⟩ := hel n _ _ htr
    obtain ⟨_, hl, hcell⟩ := World.cells?_some hcs
    refine ⟨z, hq, fun k u hu => ?_⟩
    rw [hcell k (by have := (List.getElem?_eq_some_iff.1 hu).1; omega)]
    exact hu
  refine ⟨some a, cap, List.ofFn fun j : Fin len => Classical.choose (hx j), by simp, by simpa using hlc, ?_, ?_, ?_⟩
  · simp only [maxLen] at hcm; simp; omega
  · intro i z hz
    have hi : i < len := by have := (List.getElem?_eq_some_iff.1 hz).1; simpa using this
    rw [List.getElem?_ofFn] at hz
    simp [hi] at hz
    refine ⟨a, rfl, fun k u hu => ?_⟩
    rw [← hz] at hu
    exact (Classical.choose_spec (hx ⟨i, hi⟩)).2 k u hu
  · intro z hz
    obtain ⟨j, rfl⟩ := List.mem_ofFn.1 hz
    exact (Classical.choose_spec (hx j)).1
theorem ints_row {t : TypeId} (ht : Try.prog.underlying t = some (.slice 3)) (h : DataW.trod enc Try.prog w base spare held fuel t cs = some x) :
    ∃ (a : Option Addr) (c : Nat) (l : List Int), cs = [.slice a l.length c] ∧ l.length ≤ c ∧ l.length < 2 ^ 63 ∧ RowAt w a 1 i1 l ∧ ∀ z ∈ l, -9223372036854775808 ≤ z ∧ z ≤ 9223372036854775807 :=
  row_cs ht (by kernel_rfl) enci1 (fun m cs y hy => by
    obtain ⟨v, rfl, hv⟩ := int_cs (k := .i64) (by kernel_rfl) hy
    exact ⟨v, rfl, i64_wf hv⟩) h
theorem dfa_cs (h : DataW.trod enc Try.prog w base spare held fuel 54 cs = some x) : ∃ (dm : Int) (na : Option Addr) (nc : Nat) (nx : List Int) (ta : Option Addr) (tc : Nat) (tg : List Int),
    cs = [.int .i64 dm, .slice na nx.length nc, .slice ta tg.length tc] ∧ nx.length < 2 ^ 63 ∧ tg.length < 2 ^ 63 ∧ RowAt w na 1 i1 nx ∧ RowAt w ta 1 i1 tg ∧
    (-9223372036854775808 ≤ dm ∧ dm ≤ 9223372036854775807) ∧ (∀ z ∈ nx, -9223372036854775808 ≤ z ∧ z ≤ 9223372036854775807) ∧ (∀ z ∈ tg, -9223372036854775808 ≤ z ∧ z ≤ 9223372036854775807) ∧ nx.length ≤ nc ∧ tg.length ≤ tc := by
  have u : Try.prog.underlying 54 = some (.struct (Try.prog.fieldsOf 54)) := by kernel_rfl
  have hF : fieldsL Try.prog 54 = [(false, 3, 0), (false, 52, 1), (false, 52, 2)] := by kernel_rfl
  have c3 : Try.prog.cellsOf 3 = 1 := by kernel_rfl
  have c52 : Try.prog.cellsOf 52 = 1 := by kernel_rfl
  have c54 : Try.prog.cellsOf 54 = 3 := by kernel_rfl
  have u3 : Try.prog.underlying 3 = some (.int .i64) := by kernel_rfl
  have u52 : Try.prog.underlying 52 = some (.slice 3) := by kernel_rfl
  unfold fieldsL at hF
  generalize Try.prog.fieldsOf 54 = fs at u hF
  obtain ⟨xs, m, rfl, rfl, hl, hx, hi⟩ := DataW.trod_struct u h
  obtain ⟨f1, f2, f3, rfl, e1, o1, e2, o2, e3, o3⟩ := three_fields hF
  have hx3 : xs.length = 3 := hx
  have h0 := hi 0 f1 rfl
  have h1 := hi 1 f2 rfl
  have h2 := hi 2 f3 rfl
  rw [List.getElem?_eq_getElem (by omega), e1, o1, c3] at h0
  rw [List.getElem?_eq_getElem (by omega), e2, o2, c52] at h1
  rw [List.getElem?_eq_getElem (by omega), e3, o3, c52] at h2
  obtain ⟨dm, hdm, hdw⟩ := int_cs u3 h0
  obtain ⟨na, nc, nx, hnx, hnc, hnl, hnr, hnw⟩ := ints_row u52 h1
  obtain ⟨ta, tc, tg, htg, htc, htl, htr, htw⟩ := ints_row u52 h2
  rw [c54] at hl
  match cs, hl with
  | [v0, v1, v2], _ =>
    simp at hdm hnx htg
    exact ⟨dm, na, nc, nx, ta, tc, tg, by rw [hdm, hnx, htg], hnl, htl, hnr, htr, i64_wf hdw, hnw, htw, hnc, htc⟩
end
end Fk
set_option linter.unusedVariables false
namespace Fk
open Go Go.RowKit
theorem Bd_e {α : Type} {x y : α} {K : α → Prop} (h : x = y) (k : K y) : Bd x K := Bd_in fun z hz => by rw [hz, h]; exact k
theorem Gd_t {α : Type} {d : α} {op : (α → World → Prop) → Prop} {K : α → World → Prop} {w : World} (h : op K) : Gd true d op K w := ⟨fun _ => h, fun e => by cases e⟩
theorem Good.of {L : List Nat} {w0 w1 w : World} (h : Md [] w0 w1) (g : Good L w1 w) : Good L w0 w := ⟨h.trans g.1, g.2⟩
end Fk
set_option linter.unusedVariables false
set_option linter.unusedSimpArgs false
set_option maxRecDepth 100000
namespace Fk
open Go Go.Proofs Go.RowKit
structure Ns where
  k : Int
  s1 : Int
  s2 : Int
  s3 : Int
  s4 : Int
  a : Int
  b : Int
  t : Int
  deriving DecidableEq
def nsE (x : Ns) : List Value := [.int .u8 x.k, .int .u64 x.s1, .int .u64 x.s2, .int .u64 x.s3, .int .u64 x.s4, .int .i64 x.a, .int .i64 x.b, .int .i64 x.t]
abbrev Ns.v (x : Ns) : Value := .agg #[.int .u8 x.k, .int .u64 x.s1, .int .u64 x.s2, .int .u64 x.s3, .int .u64 x.s4, .int .i64 x.a, .int .i64 x.b, .int .i64 x.t]
theorem encNs : Enc 8 nsE := ⟨fun _ => rfl, by intro x v hv; simp [nsE] at hv; rcases hv with rfl | rfl | rfl | rfl | rfl | rfl | rfl | rfl <;> rfl⟩
/-- A struct, field by field: each one's type, place, and whether both have the same there. -/
theorem run_structN {P : Program} {w : World} {t : TypeId} (ht : P.underlying t = some (.struct (P.fieldsOf t))) (hp : P.stoodInHeld t = false) {d : Nat} {xs ys : Array Value} (rs : List (TypeId × Nat × Bool))
    (hF : fieldsL P t = rs.map fun p => (false, p.1, p.2.1))
    (h : ∀ p ∈ rs, ∃ a b, (part p.1 xs p.2.1).run P w = .ok a w ∧ (part p.1 ys p.2.1).run P w = .ok b w ∧ (Op.equalIn d p.1 a b).run P w = .ok p.2.2 w) :
    (Op.equalIn (d + 1) t (.agg xs) (.agg ys)).run P w = .ok (rs.all fun p => p.2.2) w := by
  rw [run_equalIn_struct w d t xs ys ht hp]
  unfold fieldsL at hF
  generalize P.fieldsOf t = fs at hF ⊢
  obtain ⟨l⟩ := fs
  show (Op.eqFields d xs ys l).run P w = _
  simp only at hF
  induction l generalizing rs with
  | nil =>
    cases rs with
    | nil => simp [Op.eqFields]
    | cons p rs => simp at hF
  | cons f l ih =>
    cases rs with
    | nil => simp at hF
    | cons p rs =>
      simp only [List.map_cons, List.cons.injEq, Prod.mk.injEq, decide_eq_false_iff_not] at hF
      obtain ⟨⟨n1, n2, n3⟩, hF⟩ := hF
      obtain ⟨a, b, h1, h2, h3⟩ := h p (by simp)
      rw [← n2] at h1 h2 h3
      rw [← n3] at h1 h2
      have := run_eqFields_cons (d := d) n1 h1 h2 h3 (ih rs (fun p hp => h p (by simp [hp])) hF)
      rw [this, List.all_cons]
theorem size28 (w : World) : (Go.sizeOf 28).run Try.prog w = .ok 4 w := by
  have h : (Try.prog.info? 28).map (·.size) = some 4 := by kernel_rfl
  cases hi : Try.prog.info? 28 with
  | none => rw [hi] at h; cases h
  | some i => rw [hi] at h; simp [Go.sizeOf, typeInfo, hi]; simpa using h
theorem eq103 (x y : Ns) (w : World) (o1 o2 : Operand) : (eqS .neq 103 o1 o2 x.v y.v).run Try.prog w = .ok (.bool (!decide (x = y))) w := by
  have u28 : Try.prog.underlying 28 = some (.array 4 26) := by kernel_rfl
  have u3 : Try.prog.underlying 3 = some (.int .i64) := by kernel_rfl
  have u5 : Try.prog.underlying 5 = some (.int .u8) := by kernel_rfl
  have a28 : isAggT Try.prog 28 = true := by kernel_rfl
  have a3 : isAggT Try.prog 3 = false := by kernel_rfl
  have a5 : isAggT Try.prog 5 = false := by kernel_rfl
  have h26 : (Try.prog.info? 26).isSome = true := by kernel_rfl
  obtain ⟨i26, hi26⟩ := Option.isSome_iff_exists.1 h26
  have e28 := run_equal_ints (P := Try.prog) (w := w) (t := 28) (e := 26) (q := .u64) (n := 4) u28 hi26 (by kernel_rfl) (by kernel_rfl) .u64 [x.s1, x.s2, x.s3, x.s4] [y.s1, y.s2, y.s3, y.s4] rfl rfl 9997
  have eI := fun (p q : Int) => EqT.int (P := Try.prog) (t := 3) (q := .i64) u3 .i64 9999 w p q (by omega)
  have eB := EqT.int (P := Try.prog) (t := 5) (q := .u8) u5 .u8 9999 w x.k y.k (by omega)
  have h := run_structN (P := Try.prog) (w := w) (t := 103) (by kernel_rfl) (by kernel_rfl) (d := 9999) (xs := #[.int .u8 x.k, .int .u64 x.s1, .int .u64 x.s2, .int .u64 x.s3, .int .u64 x.s4, .int .i64 x.a, .int .i64 x.b, .int .i64 x.t])
    (ys := #[.int .u8 y.k, .int .u64 y.s1, .int .u64 y.s2, .int .u64 y.s3, .int .u64 y.s4, .int .i64 y.a, .int .i64 y.b, .int .i64 y.t])
    [(5, 0, decide (x.k = y.k)), (28, 1, decide ([x.s1, x.s2, x.s3, x.s4] = [y.s1, y.s2, y.s3, y.s4])), (3, 5, decide (x.a = y.a)), (3, 6, decide (x.b = y.b)), (3, 7, decide (x.t = y.t))] (by kernel_rfl) (by
      intro p hp
      simp only [List.mem_cons, List.not_mem_nil, or_false] at hp
      rcases hp with rfl | rfl | rfl | rfl | rfl
      · exact ⟨_, _, part_cell u5 a5 rfl, part_cell u5 a5 rfl, eB⟩
      · exact ⟨_, _, part_agg u28 a28 (size28 w), part_agg u28 a28 (size28 w), e28⟩
      · exact ⟨_, _, part_cell u3 a3 rfl, part_cell u3 a3 rfl, eI _ _⟩
      · exact ⟨_, _, part_cell u3 a3 rfl, part_cell u3 a3 rfl, eI _ _⟩
      · exact ⟨_, _, part_cell u3 a3 rfl, part_cell u3 a3 rfl, eI _ _⟩)
  have := (eqS_of (by kernel_rfl) h o1 o2).2
  rw [this]
  congr 3
  clear this h eB eI e28
  cases x; cases y
  simp only [List.all_cons, List.all_nil, Ns.mk.injEq, List.cons.injEq]
  rw [Bool.eq_iff_iff]
  simp only [Bool.and_eq_true, decide_eq_true_eq, and_true]
  omega
end Fk
set_option linter.unusedVariables false
set_option linter.unusedSimpArgs false
set_option maxRecDepth 100000
namespace Fk
open Go Go.Proofs Go.RowKit
def bytesOf (l : List Nat) : ByteArray := ⟨(l.map UInt8.ofNat).toArray⟩
section
variable {t : Tb} {p : TbS}
theorem Tb.len (hf : t.c.f.length = 256) : (t.l p).length = 261 := by simp [Tb.l, Tb.d, Cl.l, hf]
end
theorem CuAt.mdN {w w' : World} {n : Nat} {o : Option (List Nat)} {tl : List Value} {D : List Nat} (h : CuAt w n o tl) (hm : Md D w w') (hD : ∀ d ∈ D, n < d) : CuAt w' n o tl := by
  obtain ⟨r, off, a, c, ho, hb, hr, hc, ha⟩ := h
  exact ⟨r, off, a, c, ho, hb.md hm (fun h => by have := hD n h; omega), hr.mdE hm fun A hA hne hm => (by have := ha A hA hne; have := hD _ hm; omega), hc, ha⟩
theorem CuAt.setOff {w : World} {n : Nat} {o : Option (List Nat)} {tl : List Value} (h : CuAt w n o tl) (m : Bool) (x : Bool) (hx : x = (bif o.isNone then true else !m)) :
    CuAt (setCells w ⟨n, 1, none⟩ 0 [.bool x]) n (if m = true then o else none) tl ∧ Md [n] w (setCells w ⟨n, 1, none⟩ 0 [.bool x]) ∧ Wr w ⟨n, 1, none⟩ 1 := by
  obtain ⟨r, off, a, c, ho, hb, hr, hc, ha⟩ := h
  have hm := Md_setCells (w := w) n 1 [.bool x]
  have hb2 := hb.set (j := 1) (by simp) (.bool x)
  refine ⟨⟨r, x, a, c, ?_, hb2, hr.mdE hm fun A hA hne => by have := ha A hA hne; simp; omega, hc, ha⟩, hm, hb.wr (by simp)⟩
  rw [hx, ho]
  cases off <;> cases m <;> rfl
/-- All that is so while the head is read. -/
structure HS (w0 w : World) (n : Nat) (o : Option (List Nat)) (t : Tb) (p : TbS) : Prop where
  cu : CuAt w n o (t.l p)
  ok : okO o
  f : t.c.f.length = 256
  nm : OwnL w w0.heap.size 9 1 s1 p.sa p.sc t.nm
  tg : OwnL w w0.heap.size 3 1 i1 p.ta p.tc t.tg
  nx : OwnL w w0.heap.size 3 1 i1 p.na p.nc t.nx
  md : Md [n] w0 w
  lt : n < w0.heap.size
  d1 : ∀ A B, p.sa = some A → p.ta = some B → A.block ≠ B.block
  d2 : ∀ A B, p.sa = some A → p.na = some B → A.block ≠ B.block
  d3 : ∀ A B, p.ta = some A → p.na = some B → A.block ≠ B.block
section
variable {w0 w : World} {n : Nat} {o : Option (List Nat)} {t : Tb} {p : TbS} {L : List Nat}
theorem own_ne {α : Type} {w : World} {base n : Nat} {e : TypeId} {size : Nat} {enc : α → List Value} {a : Option Addr} {c : Nat} {l : List α} (h : OwnL w base e size enc a c l) (hn : n < base) : ∀ A, a = some A → A.block ∉ [n] := by
  intro A hA
  have := (h.lt hA).1
  simp; omega
theorem HS.step {w' : World} {o' : Option (List Nat)} (S : HS w0 w n o t p) (hm : Md [n] w w') (hc : CuAt w' n o' (t.l p)) (ho : okO o') : HS w0 w' n o' t p :=
  ⟨hc, ho, S.f, S.nm.mdD hm (own_ne S.nm S.lt), S.tg.mdD hm (own_ne S.tg S.lt), S.nx.mdD hm (own_ne S.nx S.lt), S.md.trans hm, S.lt, S.d1, S.d2, S.d3⟩
theorem HS.drew (S : HS w0 w n o t p) : HS w0 w.drew n o t p := S.step ((Md_drew w).mono (by simp)) (S.cu.mdN (Md_drew w) (by simp)) S.ok
theorem HS.size (S : HS w0 w n o t p) : w0.heap.size ≤ w.heap.size := S.md.size
theorem okO.pair {o : Option (List Nat)} (h : okO o) : okO (pairO o).2 := (h.take 2).1
theorem HS.off (S : HS w0 w n o t p) (m x : Bool) (hx : x = (bif o.isNone then true else !m)) : HS w0 (setCells w ⟨n, 1, none⟩ 0 [.bool x]) n (if m = true then o else none) t p ∧ Wr w ⟨n, 1, none⟩ 1 := by
  obtain ⟨hset, hm, hwr⟩ := S.cu.setOff m x hx
  exact ⟨S.step hm hset (by cases m; exact fun r hr => (by cases hr); exact S.ok), hwr⟩
end
def hd1 (o : Option (List Nat)) : Bool × Option (List Nat) :=
  if (oneO o).1 = 70 then (if (oneO (oneO o).2).1 = 84 then (decide ((oneO (oneO (oneO o).2).2).1 = 1), (oneO (oneO (oneO o).2).2).2) else (false, (oneO (oneO o).2).2)) else (false, (oneO o).2)
def hdOff (o : Option (List Nat)) : Option (List Nat) := if (hd1 o).1 = true then (hd1 o).2 else none
def hdM (o : Option (List Nat)) : Nat × Option (List Nat) := oneO (hdOff o)
def hdS (o : Option (List Nat)) : Nat × Option (List Nat) := pairO (hdM o).2
def hdC (o : Option (List Nat)) : Nat × Option (List Nat) := oneO (hdS o).2
def nmsO : Nat → Option (List Nat) → List ByteArray → List ByteArray × Option (List Nat)
  | 0, o, acc => (acc, o)
  | k + 1, o, acc => nmsO k (takeO (oneO o).2 (oneO o).1).2 (acc ++ [bytesOf (takeO (oneO o).2 (oneO o).1).1])
def hdN (o : Option (List Nat)) : List ByteArray × Option (List Nat) := nmsO (hdC o).1 (hdC o).2 []
def zT : Tb := ⟨zCl 0, 0, [], [], []⟩
def zP : TbS := ⟨none, 0, none, 0, none, 0⟩
end Fk
set_option linter.unusedVariables false
set_option linter.unusedSimpArgs false
set_option maxRecDepth 100000
namespace Fk
open Go Go.Proofs Go.RowKit
section
variable {H : Type} {enc : TypeId × Value → H} {w : World} {base : Nat} {spare : Nat → Bool} {held : Bool} {fuel : Nat} {cs : List Value} {x : DataW H × List MemPlace}
/-- A state's numbers are what they may be. -/
def Ns.wf (x : Ns) : Prop := 0 ≤ x.k ∧ x.k < 256
end
end Fk
set_option linter.unusedVariables false
set_option linter.unusedSimpArgs false
set_option maxRecDepth 100000
namespace Fk
open Go Go.Proofs Go.RowKit
section
variable {H : Type} {enc : TypeId × Value → H} {w : World} {base : Nat} {spare : Nat → Bool} {held : Bool}
theorem dfa_of {d : DataW H} {ps : List MemPlace} {cs : Array Value} (h : DataW.Trod enc Try.prog w base spare held 54 (.agg cs) d ps) : ∃ (dm : Int) (na : Option Addr) (nc : Nat) (nx : List Int) (ta : Option Addr) (tc : Nat) (tg : List Int),
    cs = #[.int .i64 dm, .slice na nx.length nc, .slice ta tg.length tc] ∧ nx.length < 2 ^ 63 ∧ tg.length < 2 ^ 63 ∧ RowAt w na 1 i1 nx ∧ RowAt w ta 1 i1 tg ∧
    (-9223372036854775808 ≤ dm ∧ dm ≤ 9223372036854775807) ∧ (∀ z ∈ nx, -9223372036854775808 ≤ z ∧ z ≤ 9223372036854775807) ∧ (∀ z ∈ tg, -9223372036854775808 ≤ z ∧ z ≤ 9223372036854775807) := by
  obtain ⟨fuel, h⟩ := h
  have e : (Value.agg cs).cells.toList = cs.toList := rfl
  rw [e] at h
  obtain ⟨dm, na, nc, nx, ta, tc, tg, h1, h2, h3, h4, h5, h6, h7, h8, _⟩ := dfa_cs h
  exact ⟨dm, na, nc, nx, ta, tc, tg, Array.ext' (by simpa using h1), h2, h3, h4, h5, h6, h7, h8⟩
theorem ints_of {d : DataW H} {ps : List MemPlace} {a : Option Addr} {n c : Nat} (h : DataW.Trod enc Try.prog w base spare held 52 (.slice a n c) d ps) : ∃ l : List Int, l.length = n ∧ n < 2 ^ 63 ∧ RowAt w a 1 i1 l ∧ ∀ z ∈ l, -9223372036854775808 ≤ z ∧ z ≤ 9223372036854775807 := by
  obtain ⟨fuel, h⟩ := h
  obtain ⟨a', c', l, he, h1, h2, h3, h4⟩ := ints_row (by kernel_rfl : Try.prog.underlying 52 = some (.slice 3)) h
  have he' : [Value.slice a n c] = [.slice a' l.length c'] := he
  simp at he'
  obtain ⟨rfl, rfl, rfl⟩ := he'
  exact ⟨l, rfl, h2, h3, h4⟩
end
end Fk
set_option linter.unusedVariables false
set_option linter.unusedSimpArgs false
set_option maxRecDepth 100000
namespace Fk
open Go Go.Proofs Go.RowKit
theorem ad0' (n j : Nat) : (Addr.mk n 0 none).add j = ⟨n, j, none⟩ := by rw [Addr.add_lit, Nat.zero_add]
theorem Blk.ld' {w : World} {n : Nat} {ty : TypeId} {l : List Value} (h : Blk w n ty l) {j : Nat} {v : Value} (hv : l[j]? = some v) {K : Value → Prop} (k : K v) : Ld w ((Addr.mk n 0 none).add j) K :=
  Ld_in (by rw [ad0']; exact h.cell hv) k
theorem Blk.new (w : World) (cs : Array Value) (ty : TypeId) : Blk (w.alloc (.cells cs ty)) w.heap.size ty cs.toList := by
  show (w.heap.push (.cells cs ty (0, 0)))[w.heap.size]? = _
  rw [Array.getElem?_push_size]
theorem RowAt.ld8v {w : World} {A : Option Addr} {l : List Ns} (h : RowAt w A 8 nsE l) {i : Nat} (hi : i < l.length) {K : Value → Value → Value → Value → Value → Value → Value → Value → Prop}
    (k : K (.int .u8 l[i].k) (.int .u64 l[i].s1) (.int .u64 l[i].s2) (.int .u64 l[i].s3) (.int .u64 l[i].s4) (.int .i64 l[i].a) (.int .i64 l[i].b) (.int .i64 l[i].t)) :
    Ld w ((adAt A (i : Int) 8).add 0) fun v1 => Ld w ((adAt A (i : Int) 8).add 1) fun v2 => Ld w ((adAt A (i : Int) 8).add 2) fun v3 => Ld w ((adAt A (i : Int) 8).add 3) fun v4 => Ld w ((adAt A (i : Int) 8).add 4) fun v5 => Ld w ((adAt A (i : Int) 8).add 5) fun v6 => Ld w ((adAt A (i : Int) 8).add 6) fun v7 => Ld w ((adAt A (i : Int) 8).add 7) fun v8 => K v1 v2 v3 v4 v5 v6 v7 v8 := by
  obtain ⟨B, rfl, hc⟩ := h i l[i] (List.getElem?_eq_getElem hi)
  exact Ld_in (hc 0 _ rfl) <| Ld_in (hc 1 _ rfl) <| Ld_in (hc 2 _ rfl) <| Ld_in (hc 3 _ rfl) <| Ld_in (hc 4 _ rfl) <| Ld_in (hc 5 _ rfl) <| Ld_in (hc 6 _ rfl) <| Ld_in (hc 7 _ rfl) k
theorem RowAt.ld8 {w : World} {A : Option Addr} {l : List Ns} (h : RowAt w A 8 nsE l) {i : Nat} (hi : i < l.length) {K : Int → Int → Int → Int → Int → Int → Int → Int → Prop}
    (k : K l[i].k l[i].s1 l[i].s2 l[i].s3 l[i].s4 l[i].a l[i].b l[i].t) :
    Ld w ((adAt A (i : Int) 8).add 0) fun v1 => Ld w ((adAt A (i : Int) 8).add 1) fun v2 => Ld w ((adAt A (i : Int) 8).add 2) fun v3 => Ld w ((adAt A (i : Int) 8).add 3) fun v4 => Ld w ((adAt A (i : Int) 8).add 4) fun v5 => Ld w ((adAt A (i : Int) 8).add 5) fun v6 => Ld w ((adAt A (i : Int) 8).add 6) fun v7 => Ld w ((adAt A (i : Int) 8).add 7) fun v8 =>
      opI .u8 v1 fun x1 => opI .u64 v2 fun x2 => opI .u64 v3 fun x3 => opI .u64 v4 fun x4 => opI .u64 v5 fun x5 => opI .i64 v6 fun x6 => opI .i64 v7 fun x7 => opI .i64 v8 fun x8 => K x1 x2 x3 x4 x5 x6 x7 x8 :=
  h.ld8v hi <| opI_in <| opI_in <| opI_in <| opI_in <| opI_in <| opI_in <| opI_in <| opI_in k
def Ns.zs (x : Ns) : Prop := x.s1 = 0 ∧ x.s2 = 0 ∧ x.s3 = 0 ∧ x.s4 = 0
instance (x : Ns) : Decidable x.zs := by unfold Ns.zs; infer_instance
def okNs (m : Int) (x : Ns) : Prop := (x.k = 0 ∧ x.zs ∧ x.a = 0 ∧ x.b = 0 ∧ 0 ≤ x.t ∧ x.t < 200) ∨ (x.k = 1 ∧ ¬ x.zs ∧ 0 ≤ x.a ∧ x.a < m ∧ x.b = 0 ∧ x.t = 0) ∨ (x.k = 2 ∧ x.zs ∧ 0 ≤ x.a ∧ x.a < m ∧ 0 ≤ x.b ∧ x.b < m ∧ x.t = 0)
instance (m : Int) (x : Ns) : Decidable (okNs m x) := by unfold okNs; infer_instance
def nfRight (st : Int) (l : List Ns) : Bool := decide (0 ≤ st ∧ st < l.length ∧ l.length ≤ 20000) && l.all fun x => decide (okNs l.length x)
theorem f186_ok (i : Int) (q : Addr) (A : Option Addr) (n C : Nat) (w : World) (h : w.cell? (q.add 1) = some (.slice A n C)) : Ct Try.prog 186 #[.int .i64 i, .pointer (some q)] w fun v w' => v = .bool (decide (0 ≤ i ∧ i < n)) ∧ Md [] w w' := by
  apply f186_in
  refine Bd_in fun b1 hb1 => Gd_to (fun (u : Option Addr × Nat × Nat) w' => (b1 = true → u.2.1 = n) ∧ Md [] w w') (fun u w8 hJ => ?_) (fun fin hc => Ld_in h <| opL_in <| fin _ _ ⟨fun _ => rfl, Md.refl _ _⟩) (fun hc => ⟨fun h => (by rw [hc] at h; cases h), Md.refl _ _⟩)
  obtain ⟨hu, hm⟩ := hJ
  refine Bd_e rfl <| Bd_in fun b10 hb10 => Bd_in fun b11 hb11 => ⟨?_, hm⟩
  rw [hb11]
  by_cases c : 0 ≤ i
  · have e1 : b1 = true := by rw [hb1]; simpa using c
    rw [e1, hb10, hu e1]
    simp [c]
  · have e1 : b1 = false := by rw [hb1]; simpa using c
    rw [e1]
    simp [c]
theorem in186 {L : List Nat} {w : World} {n1 : Nat} {st : Int} {A : Option Addr} {n C : Nat} (h : Blk w n1 71 [.int .i64 st, .slice A n C]) (i : Int) (hL : ∀ b ∈ L, b < w.heap.size) {K : Bool → World → Prop} (k : ∀ w', Md [] w w' → K (decide (0 ≤ i ∧ i < n)) w') :
    CallW Try.prog L 186 #[.int .i64 i, .pointer (some (Addr.mk n1 0 none))] (fun v w' => opB v fun b => K b w') w := by
  refine (f186_ok i _ A n C w (by rw [ad0']; exact h.cell rfl)).call hL ?_
  rintro v w' rfl m
  exact opB_in (k w' m)
theorem f81_ok (st : Int) (l : List Ns) (A : Option Addr) (C : Nat) (w : World) (hr : RowAt w A 8 nsE l) (hl : l.length < 2 ^ 60) :
    Ct Try.prog 81 #[.agg #[.int .i64 st, .slice A l.length C]] w fun v w' => v = .bool (nfRight st l) ∧ Md [] w w' := by
  apply f81_in
  intro n1 w2 e1 e2
  subst e1; subst e2
  have m2 : Md [] w (w.alloc (.cells #[.int .i64 st, .slice A l.length C] 71)) := Md.alloc w _
  have b2 : Blk (w.alloc (.cells #[.int .i64 st, .slice A l.length C] 71)) w.heap.size 71 [.int .i64 st, .slice A l.length C] := Blk.new w _ 71
  generalize w.alloc (.cells #[.int .i64 st, .slice A l.length C] 71) = w2 at *
  generalize hn1 : w.heap.size = n1 at *
  have hb : ∀ {w' : World}, Md [] w2 w' → Blk w' n1 71 [.int .i64 st, .slice A l.length C] := fun hm => b2.md hm (by simp)
  refine b2.ld' rfl <| opI_in <| in186 b2 st (by simp) fun w6 m6 => Bd_in fun b8 hb8 => ?_
  have hm6 := m2.trans m6
  refine Gd_to (fun (u : Option Addr × Nat × Nat) w' => (b8 = false → u.2.1 = l.length) ∧ w' = w6) (fun u w15 hJ => ?_) (fun fin hc => (hb m6).ld' rfl <| opL_in <| fin _ _ ⟨fun _ => rfl, rfl⟩) (fun hc => ⟨fun h => (by rw [h] at hc; cases hc), rfl⟩)
  obtain ⟨hu, rfl⟩ := hJ
  refine Bd_e rfl <| Bd_in fun b17 hb17 => Bd_in fun b18 hb18 => ?_
  have e18 : b18 = !decide (0 ≤ st ∧ st < l.length ∧ l.length ≤ 20000) := by
    rw [hb18]
    by_cases c : 0 ≤ st ∧ st < l.length
    · have e8 : b8 = false := by rw [hb8]; simpa using c
      rw [e8, hb17, hu e8]
      by_cases c2 : l.length ≤ 20000
      · simp [c, c2]; omega
      · simp [c, c2]; omega
    · have e8 : b8 = true := by rw [hb8, decide_eq_false c]; rfl
      rw [e8]
      have : ¬ (0 ≤ st ∧ st < l.length ∧ l.length ≤ 20000) := fun h => c ⟨h.1, h.2.1⟩
      simp [this]
  refine If_in (fun h => ⟨?_, hm6⟩) fun h => (hb m6).ld' rfl <| opL_in <| Bd_e rfl ?_
  · have : ¬ (0 ≤ st ∧ st < l.length ∧ l.length ≤ 20000) := fun hh => by rw [e18, decide_eq_true hh] at h; cases h
    unfold nfRight
    rw [decide_eq_false this]; rfl
  have hst : 0 ≤ st ∧ st < l.length ∧ l.length ≤ 20000 := by rw [e18] at h; simpa using h
  refine LoopP_in (fun mm us vs w' => ∃ i : Nat, us = [.bool false, .int .i64 i] ∧ mm = l.length - i ∧ i ≤ l.length ∧ Md [] w w' ∧ Md [] w2 w' ∧ ∀ x ∈ l.take i, okNs l.length x) l.length ⟨0, rfl, rfl, by omega, hm6, m6, by simp⟩ ?_
  rintro mm us vs w27 ⟨i, rfl, rfl, hi, hmd, hm2, hall⟩
  refine opB_in <| opI_in <| Bd_in fun b30 hb30 => If_in (fun h => ?_) fun h => ⟨?_, hmd⟩
  case refine_2 =>
    have hi' : i = l.length := by rw [hb30] at h; have : ¬ (i : Int) < (l.length : Int) := by simpa using h
                                  omega
    subst hi'
    rw [List.take_length] at hall
    unfold nfRight
    rw [decide_eq_true hst]
    have : (l.all fun x => decide (okNs l.length x)) = true := by rw [List.all_eq_true]; intro x hx; simpa using hall x hx
    rw [this]; rfl
  have hi' : i < l.length := by rw [hb30] at h; have : (i : Int) < (l.length : Int) := by simpa using h
                                omega
  have hnok : ¬ okNs l.length l[i] → nfRight st l = false := fun hno => by
    have : (l.all fun x => decide (okNs l.length x)) = false := by
      rw [List.all_eq_false]
      exact ⟨l[i], List.getElem_mem hi', by simpa using hno⟩
    unfold nfRight; rw [this]; simp
  have hstep : okNs l.length l[i] → ∀ x ∈ l.take (i + 1), okNs l.length x := fun ho x hx => by
    rw [List.take_succ_eq_append_getElem hi', List.mem_append] at hx
    rcases hx with hx | hx
    · exact hall x hx
    · simp at hx; rw [hx]; exact ho
  refine ⟨hr.ix hi', (hr.md hmd).ld8 hi' fun n47 hn47 n48 hn48 => ?_⟩
  generalize l[i] = x at *
  refine Jn_in (fun us vs w' => ∃ (ok bz : Bool) (y : Ns), us = [.bool ok, .bool bz] ∧ vs = [y.v] ∧ ((ok = true ∧ x = y) ↔ okNs l.length x) ∧ Md [] w w' ∧ Md [] w2 w' ∧ ∀ b ∈ [n48, n47], b < w'.heap.size) ?_ ?_
  · rintro us vs w51 ⟨ok, bz, y, rfl, rfl, hiff, hmd, hm2, hL⟩
    refine opB_in <| opB_in <| opAg_in <| opI_in <| opI_in <| opI_in <| opI_in <| opI_in <| opI_in <| opI_in <| opI_in <| SzIs_in rfl <| Bd_in fun b63 hb63 => ?_
    refine Gd_to (fun (b68 : Bool) w' => (b63 = false → b68 = !decide (x = y)) ∧ w' = w51) (fun b68 w69 hJ => ?_) (fun fin hc => RunW_in0 (eq103 x y w51 _ _) <| opB_in <| fin _ _ ⟨fun _ => rfl, rfl⟩) (fun hc => ⟨fun h => (by rw [h] at hc; cases hc), rfl⟩)
    obtain ⟨h68, rfl⟩ := hJ
    refine Bd_in fun b70 hb70 => ?_
    have e70 : b70 = !decide (okNs l.length x) := by
      rw [hb70, hb63]
      cases ok with
      | false =>
        have : ¬ okNs l.length x := fun h => by have := hiff.2 h; simp at this
        simp [this]
      | true =>
        rw [hb63] at h68
        rw [h68 rfl]
        by_cases c : x = y
        · have : okNs l.length x := hiff.1 ⟨rfl, c⟩
          simp [c, this]
          rw [← c]; exact this
        · have : ¬ okNs l.length x := fun h => c (hiff.2 h).2
          simp [c, this]
    refine If_in (fun h => ⟨?_, hmd⟩) fun h => Bd_e (inc_i64 (by omega)) ⟨l.length - (i + 1), by omega, i + 1, rfl, rfl, by omega, hmd, hm2, hstep ?_⟩
    · rw [hnok (by rw [e70] at h; simpa using h)]
    · rw [e70] at h; simpa using h
  have up : ∀ {w' w'' : World} {D : List Nat}, Md [] w w' → Md [] w2 w' → Md D w' w'' → (∀ d ∈ D, d = n48 ∨ d = n47) → Md [] w w'' ∧ Md [] w2 w'' := fun {w' w'' D} h1 h2 h3 hD => by
    have s1 := hmd.size
    have s2 := hm2.size
    exact ⟨h1.old h3 fun d hd => by rcases hD d hd with rfl | rfl <;> omega, h2.old h3 fun d hd => by rcases hD d hd with rfl | rfl <;> omega⟩
  have hbl : ∀ {w' : World}, Md [] w2 w' → Blk w' n1 71 [.int .i64 st, .slice A l.length C] := hb
  refine Bd_in fun b73 hb73 => If_in (fun h => ?_) fun h => ?_
  · have hk : x.k = 0 := by rw [hb73] at h; simpa using h
    refine Bd_in fun b74 hb74 => Bd_in fun b75 hb75 => Bd_in fun b76 hb76 w77 h77 hL77 => ?_
    obtain ⟨u1, u2⟩ := up hmd hm2 h77 (by simp)
    refine ⟨b76, b73, ⟨x.k, 0, 0, 0, 0, 0, 0, x.t⟩, rfl, rfl, ?_, u1, u2, hL77⟩
    have e : b76 = decide (0 ≤ x.t ∧ x.t < 200) := by rw [hb76, hb74, hb75]; by_cases c1 : 0 ≤ x.t <;> by_cases c2 : x.t < 200 <;> simp [c1, c2]
    rw [e]
    obtain ⟨k, s1, s2, s3, s4, a, b, t⟩ := x
    simp only at hk
    subst hk
    simp [okNs, Ns.zs]
    omega
  refine Bd_in fun b78 hb78 => If_in (fun h1 => ?_) fun h1 => ?_
  · have hk : x.k = 1 := by rw [hb78] at h1; simpa using h1
    refine Jn_in (fun us vs w' => vs = [(⟨x.k, x.s1, x.s2, x.s3, x.s4, x.a, 0, 0⟩ : Ns).v] ∧ Md [] w w' ∧ Md [] w2 w' ∧ ∀ b ∈ [n48, n47], b < w'.heap.size) ?_ ?_
    · rintro us vs w81 ⟨rfl, hm1, hm2', hL⟩
      refine opAg_in <| opI_in <| opI_in <| opI_in <| opI_in <| opI_in <| opI_in <| opI_in <| opI_in <| SzIs_in rfl <| RunW_in0 (ne28 _ _ x.s1 x.s2 x.s3 x.s4 0 0 0 0 w81) <| opB_in ?_
      refine Gd_to (fun (b98 : Bool) w' => ((!decide ([x.s1, x.s2, x.s3, x.s4] = [0, 0, 0, 0])) = true → b98 = decide (0 ≤ x.a ∧ x.a < l.length)) ∧ Md [] w81 w') (fun b98 w99 hJ => ?_) (fun fin hc => in186 (hbl hm2') x.a hL fun w96 m96 => fin _ _ ⟨fun _ => rfl, m96⟩) (fun hc => ⟨fun h => (by rw [h] at hc; cases hc), Md.refl _ _⟩)
      obtain ⟨h98, m99⟩ := hJ
      refine Bd_in fun b100 hb100 => ⟨b100, b73, _, rfl, rfl, ?_, hm1.trans m99, hm2'.trans m99, fun b hb => by have := hL b hb; have := m99.size; omega⟩
      have ez : ([x.s1, x.s2, x.s3, x.s4] = [0, 0, 0, 0]) ↔ x.zs := by simp [Ns.zs]
      have e : b100 = decide (¬ x.zs ∧ 0 ≤ x.a ∧ x.a < l.length) := by
        rw [hb100]
        by_cases c : x.zs
        · have : decide ([x.s1, x.s2, x.s3, x.s4] = [0, 0, 0, 0]) = true := by simpa using ez.2 c
          rw [this]; simp [c]
        · have : decide ([x.s1, x.s2, x.s3, x.s4] = [0, 0, 0, 0]) = false := decide_eq_false fun h => c (ez.1 h)
          rw [this] at h98 ⊢
          rw [h98 rfl]; simp [c]
      rw [e]
      obtain ⟨k, s1, s2, s3, s4, a, b, t⟩ := x
      simp only at hk
      subst hk
      simp [okNs, Ns.zs]
      omega
    intro w102 h102 hL102 w103 h103 hL103 w104 h104 hL104
    obtain ⟨u1, u2⟩ := up hmd hm2 h102 (by simp)
    obtain ⟨u3, u4⟩ := up (u1.trans (Md_drew w102)) (u2.trans (Md_drew w102)) h103 (by simp)
    obtain ⟨u5, u6⟩ := up u3 u4 h104 (by simp)
    exact ⟨rfl, u5, u6, hL104⟩
  refine Bd_in fun b105 hb105 => If_in (fun h2 => ?_) fun h2 => ?_
  · have hk : x.k = 2 := by rw [hb105] at h2; simpa using h2
    refine Jn_in (fun us vs w' => vs = [(⟨x.k, 0, 0, 0, 0, x.a, x.b, 0⟩ : Ns).v] ∧ Md [] w w' ∧ Md [] w2 w' ∧ ∀ b ∈ [n48, n47], b < w'.heap.size) ?_ ?_
    · rintro us vs w81 ⟨rfl, hm1, hm2', hL⟩
      refine opAg_in <| opI_in <| opI_in <| opI_in <| opI_in <| opI_in <| opI_in <| opI_in <| opI_in <| SzIs_in rfl <| in186 (hbl hm2') x.a hL fun w119 m119 => ?_
      have hL119 : ∀ b ∈ [n48, n47], b < w119.heap.size := fun b hb => by have := hL b hb; have := m119.size; omega
      refine Gd_to (fun (b98 : Bool) w' => (decide (0 ≤ x.a ∧ x.a < l.length) = true → b98 = decide (0 ≤ x.b ∧ x.b < l.length)) ∧ Md [] w119 w') (fun b98 w99 hJ => ?_) (fun fin hc => in186 (hbl (hm2'.trans m119)) x.b hL119 fun w96 m96 => fin _ _ ⟨fun _ => rfl, m96⟩) (fun hc => ⟨fun h => (by rw [h] at hc; cases hc), Md.refl _ _⟩)
      obtain ⟨h98, m99⟩ := hJ
      refine Bd_in fun b100 hb100 => ⟨b100, b73, _, rfl, rfl, ?_, (hm1.trans m119).trans m99, (hm2'.trans m119).trans m99, fun b hb => by have := hL119 b hb; have := m99.size; omega⟩
      have e : b100 = decide (0 ≤ x.a ∧ x.a < l.length ∧ 0 ≤ x.b ∧ x.b < l.length) := by
        rw [hb100]
        by_cases c : 0 ≤ x.a ∧ x.a < l.length
        · rw [decide_eq_true c] at h98 ⊢
          rw [h98 rfl]; simp [c]
        · rw [decide_eq_false c]
          have : ¬ (0 ≤ x.a ∧ x.a < l.length ∧ 0 ≤ x.b ∧ x.b < l.length) := fun h => c ⟨h.1, h.2.1⟩
          rw [decide_eq_false this]; rfl
      rw [e]
      obtain ⟨k, s1, s2, s3, s4, a, b, t⟩ := x
      simp only at hk
      subst hk
      simp [okNs, Ns.zs]
      omega
    intro w102 h102 hL102 w103 h103 hL103 w104 h104 hL104
    obtain ⟨u1, u2⟩ := up hmd hm2 h102 (by simp)
    obtain ⟨u3, u4⟩ := up (u1.trans (Md_drew w102)) (u2.trans (Md_drew w102)) h103 (by simp)
    obtain ⟨u5, u6⟩ := up u3 u4 h104 (by simp)
    exact ⟨rfl, u5, u6, hL104⟩
  intro w132 h132 hL132
  obtain ⟨u1, u2⟩ := up hmd hm2 h132 (by simp)
  refine ⟨false, b73, ⟨x.k, 0, 0, 0, 0, 0, 0, 0⟩, rfl, rfl, ?_, u1, u2, hL132⟩
  have k0 : x.k ≠ 0 := by rw [hb73] at h; simpa using h
  have k1 : x.k ≠ 1 := by rw [hb78] at h1; simpa using h1
  have k2 : x.k ≠ 2 := by rw [hb105] at h2; simpa using h2
  simp [okNs, k0, k1, k2]
end Fk
set_option linter.unusedVariables false
set_option linter.unusedSimpArgs false
namespace Fk
open Go Go.Proofs Go.RowKit
theorem wrL_len {cells vs : List Value} {o : Nat} (h : o + vs.length ≤ cells.length) : (wrL cells o vs).length = cells.length := by
  unfold wrL; simp; omega
theorem wrL_get {cells vs : List Value} {o : Nat} (h : o + vs.length ≤ cells.length) (j : Nat) : (wrL cells o vs)[j]? = if o ≤ j ∧ j < o + vs.length then vs[j - o]? else cells[j]? := by
  unfold wrL
  have hl : (cells.take o).length = o := by simp; omega
  split
  · rename_i hj
    rw [List.getElem?_append_right (by omega), hl, List.getElem?_append_left (by omega)]
  · rename_i hj
    rcases Nat.lt_or_ge j o with hjo | hjo
    · rw [List.getElem?_append_left (by omega), List.getElem?_take_of_lt hjo]
    · rw [List.getElem?_append_right (by omega), hl, List.getElem?_append_right (by omega), List.getElem?_drop]
      congr 1; omega
theorem wrL_take {cells vs : List Value} {o m : Nat} (h : o + vs.length ≤ m) (hm : m ≤ cells.length) : (wrL cells o vs).take m = wrL (cells.take m) o vs := by
  apply List.ext_getElem?
  intro j
  have h1 : (cells.take m).length = m := by simp; omega
  rw [wrL_get (by omega), List.getElem?_take, wrL_get (by omega), List.getElem?_take]
  split <;> split <;> rename_i a b <;> first | rfl | omega
theorem wrL_flat {α : Type} {size : Nat} {enc : α → List Value} (he : Enc size enc) : ∀ (l : List α) (i : Nat) (x : α), i < l.length → wrL (l.flatMap enc) (i * size) (enc x) = (l.set i x).flatMap enc
  | [], i, x, h => by simp at h
  | y :: l, 0, x, h => by
    simp only [wrL, List.flatMap_cons, Nat.zero_mul, List.take_zero, List.nil_append, Nat.zero_add, List.set_cons_zero]
    rw [he.len x, List.drop_left' (he.len y)]
  | y :: l, i + 1, x, h => by
    have ih := wrL_flat he l i x (by simpa using h)
    simp only [List.set_cons_succ, List.flatMap_cons, ← ih]
    unfold wrL
    rw [Nat.succ_mul, Nat.add_comm (i * size) size]
    rw [List.take_append, List.drop_append, he.len y]
    have h1 : List.take (size + i * size) (enc y) = enc y := List.take_of_length_le (by rw [he.len]; omega)
    have h2 : List.drop (size + i * size + (enc x).length) (enc y) = [] := List.drop_of_length_le (by rw [he.len, he.len]; omega)
    rw [h1, h2, List.append_assoc, List.nil_append, show size + i * size - size = i * size by omega, show size + i * size + (enc x).length - size = i * size + (enc x).length by omega]
theorem own_put {w : World} {base : Nat} {e : TypeId} {size n c : Nat} {a : Option Addr} {xs : List Value} (h : w.ownsRow base e size (.slice a n c) n xs) (o : Nat) (vs : List Value) (ho : o + vs.length ≤ xs.length) (hv : 0 < vs.length) :
    ∃ A, a = some A ∧ A.block < w.heap.size ∧ base ≤ A.block ∧ Wr w (A.add o) vs.length ∧ (setCells w (A.add o) 0 vs).ownsRow base e size (.slice a n c) n (wrL xs o vs) ∧ Md [A.block] w (setCells w (A.add o) 0 vs) := by
  obtain ⟨hxl, hh⟩ := h
  rcases hh with ⟨hv', hn⟩ | ⟨g, cap, cur, hv', hb, hg, hnc, hcm, hcs, htk⟩
  · subst hn; rw [Nat.zero_mul] at hxl; omega
  · simp only [Value.slice.injEq] at hv'
    obtain ⟨rfl, _, rfl⟩ := hv'
    have hle : n * size ≤ cur.toList.length := by rw [Array.length_toList, hcs]; exact Nat.mul_le_mul_right _ hnc
    have hadd : (Addr.mk g 0 none).add o = ⟨g, o, none⟩ := by simp [Addr.add_lit]
    have hblk : Blk w g e cur.toList := by unfold Blk; simpa using hg
    refine ⟨_, rfl, (Array.getElem?_eq_some_iff.1 hg).1, hb, ?_, ?_, ?_⟩
    · rw [hadd]; exact hblk.wr (by omega)
    · rw [hadd]
      refine ⟨by rw [wrL_len ho]; exact hxl, .inr ⟨g, c, (wrL cur.toList o vs).toArray, rfl, hb, ?_, hnc, hcm, ?_, ?_⟩⟩
      · rcases wrL_run (m := 0) (cells := []) (o := o) (vs := []) (b := g) (ty := e) vs 0 cur.toList w (by simpa using hg) with h' | h'
        · exact h'
        · omega
      · simp only [List.size_toArray]
        rw [wrL_len (by omega), Array.length_toList, hcs]
      · simp only
        rw [wrL_take (by omega) hle, htk]
    · rw [hadd]; exact Md_setCells _ _ _
theorem OwnL.put {α : Type} {w : World} {base : Nat} {e : TypeId} {size : Nat} {enc : α → List Value} {a : Option Addr} {c : Nat} {l : List α} (h : OwnL w base e size enc a c l) (he : Enc size enc) (hs : 0 < size) {i : Nat} (hi : i < l.length) (x : α) :
    ∃ A, a = some A ∧ A.block < w.heap.size ∧ base ≤ A.block ∧ (adAt a (i : Int) size).block = A.block ∧ Wr w (adAt a (i : Int) size) size ∧ OwnL (setCells w (adAt a (i : Int) size) 0 (enc x)) base e size enc a c (l.set i x) ∧
      Md [A.block] w (setCells w (adAt a (i : Int) size) 0 (enc x)) := by
  have hlen := he.lenL l
  have hmul : (i + 1) * size ≤ l.length * size := Nat.mul_le_mul_right _ hi
  rw [Nat.succ_mul] at hmul
  obtain ⟨A, rfl, h1, h2, h3, h4, h5⟩ := own_put h (i * size) (enc x) (by rw [he.len, hlen]; exact hmul) (by rw [he.len]; exact hs)
  have hA : adAt (some A) (i : Int) size = A.add (i * size) := by simp [adAt]
  rw [he.len] at h3
  rw [wrL_flat he l i x hi] at h4
  refine ⟨A, rfl, h1, h2, ?_, ?_, ?_, ?_⟩
  · rw [hA, add_block]
  · rw [hA]; exact h3
  · rw [hA]
    unfold OwnL
    rw [List.length_set]; exact h4
  · rw [hA]; exact h5
end Fk
set_option linter.unusedVariables false
set_option linter.unusedSimpArgs false
set_option maxRecDepth 100000
namespace Fk
open Go Go.Proofs Go.RowKit
theorem okO.off {o : Option (List Nat)} (h : okO o) : okO (hdOff o) := by
  have h1 := h.one.1
  have h2 := h1.one.1
  have h3 := h2.one.1
  have hh : okO (hd1 o).2 := by
    unfold hd1
    split
    · split
      · exact h3
      · exact h2
    · exact h1
  unfold hdOff
  split
  · exact hh
  · exact fun r hr => by cases hr
theorem okO.nms : ∀ (k : Nat) (o : Option (List Nat)) (acc : List ByteArray), okO o → (∀ s ∈ acc, s.size < 256) → okO (nmsO k o acc).2 ∧ (∀ s ∈ (nmsO k o acc).1, s.size < 256) ∧ (nmsO k o acc).1.length = acc.length + k
  | 0, o, acc, h, ha => ⟨h, ha, rfl⟩
  | k + 1, o, acc, h, ha => by
    have h1 := h.one
    have h2 := okO.nms k (takeO (oneO o).2 (oneO o).1).2 (acc ++ [bytesOf (takeO (oneO o).2 (oneO o).1).1]) (h1.1.take _).1 (by
      intro s hs
      rcases List.mem_append.1 hs with hs | hs
      · exact ha s hs
      · simp at hs
        subst hs
        simp [bytesOf, ByteArray.size, takeO_len, h1.2])
    refine ⟨h2.1, h2.2.1, ?_⟩
    rw [nmsO, h2.2.2]
    simp; omega
theorem okO.N {o : Option (List Nat)} (h : okO o) : okO (hdN o).2 ∧ (∀ s ∈ (hdN o).1, s.size < 256) ∧ (hdN o).1.length < 256 := by
  have h1 := (h.off.one.1.pair).one
  have h2 := okO.nms (hdC o).1 (hdC o).2 [] h1.1 (by simp)
  refine ⟨h2.1, h2.2.1, ?_⟩
  have : (hdN o).1.length = 0 + (hdC o).1 := h2.2.2
  have h3 : (hdC o).1 < 256 := h1.2
  omega
theorem OwnL.cap {α : Type} {w : World} {base : Nat} {e : TypeId} {size : Nat} {enc : α → List Value} {a : Option Addr} {c : Nat} {l : List α} (h : OwnL w base e size enc a c l) : l.length ≤ c := by
  rcases h.2 with ⟨hv, hn⟩ | ⟨g, cap, cur, hv, hb, hg, hnc, rest⟩
  · omega
  · simp only [Value.slice.injEq] at hv
    omega
/-- A table of one's own: no older than 'base'. -/
structure TbF (base : Nat) (w : World) (t : Tb) (p : TbS) : Prop where
  ok : t.c.ok
  nm : OwnL w base 9 1 s1 p.sa p.sc t.nm
  tg : OwnL w base 3 1 i1 p.ta p.tc t.tg
  nx : OwnL w base 3 1 i1 p.na p.nc t.nx
  nml : t.nm.length < 2 ^ 40
  tgl : t.tg.length < 2 ^ 40
  nxl : t.nx.length < 2 ^ 40
  nsz : ∀ s ∈ t.nm, s.size < 2 ^ 40
  d1 : ∀ A B, p.sa = some A → p.ta = some B → A.block ≠ B.block
  d2 : ∀ A B, p.sa = some A → p.na = some B → A.block ≠ B.block
  d3 : ∀ A B, p.ta = some A → p.na = some B → A.block ≠ B.block
theorem TbF.at {base : Nat} {w : World} {t : Tb} {p : TbS} (h : TbF base w t p) : TbAt w t p :=
  ⟨h.ok, h.nx.row enci1, h.tg.row enci1, h.nm.row encs1, by have := h.nxl; omega, by have := h.tgl; omega, by have := h.nml; omega, fun s hs => by have := h.nsz s hs; omega, h.nm.cap⟩
theorem TbF.mdN {base : Nat} {w w' : World} {t : Tb} {p : TbS} {D : List Nat} (h : TbF base w t p) (hm : Md D w w') (hD : ∀ d ∈ D, d < base) : TbF base w' t p := by
  have ne : ∀ {α : Type} {e : TypeId} {size : Nat} {enc : α → List Value} {a : Option Addr} {c : Nat} {l : List α}, OwnL w base e size enc a c l → ∀ A, a = some A → A.block ∉ D := by
    intro α e size enc a c l ho A hA hmem
    have := (ho.lt hA).1
    have := hD _ hmem
    omega
  exact ⟨h.ok, h.nm.mdD hm (ne h.nm), h.tg.mdD hm (ne h.tg), h.nx.mdD hm (ne h.nx), h.nml, h.tgl, h.nxl, h.nsz, h.d1, h.d2, h.d3⟩
theorem TbF.md {base : Nat} {w w' : World} {t : Tb} {p : TbS} (h : TbF base w t p) (hm : Md [] w w') : TbF base w' t p := h.mdN hm (by simp)
theorem TbF.down {base b : Nat} {w : World} {t : Tb} {p : TbS} (h : TbF base w t p) (hb : b ≤ base) : TbF b w t p := ⟨h.ok, h.nm.down hb, h.tg.down hb, h.nx.down hb, h.nml, h.tgl, h.nxl, h.nsz, h.d1, h.d2, h.d3⟩
theorem TbF.cells {base : Nat} {w : World} {t : Tb} {p : TbS} (h : TbF base w t p) : okCells (Array.toList (t.v p)) 261 = true := by
  have hl : (t.l p).length = 261 := Tb.len h.ok.len
  have : allOne (t.l p) = true := by
    simp [allOne, Tb.l, Tb.d, Cl.l, Value.oneCell']
  unfold okCells Tb.v
  rw [hl]
  exact this
theorem zT_ok : (zCl 0).ok := zCl_ok (by omega) (by omega)
theorem TbF.zero (base : Nat) (w : World) : TbF base w zT zP := ⟨zT_ok, OwnL.nil .., OwnL.nil .., OwnL.nil .., by simp [zT], by simp [zT], by simp [zT], by simp [zT], fun A B h => (by cases h), fun A B h => (by cases h), fun A B h => (by cases h)⟩
end Fk
set_option linter.unusedVariables false
set_option linter.unusedSimpArgs false
namespace Fk
open Go Go.Proofs Go.RowKit
/-- Two rows stand in blocks of their own. -/
def Apt (a b : Option Addr) : Prop := ∀ A B, a = some A → b = some B → A.block ≠ B.block
theorem Apt.symm {a b : Option Addr} (h : Apt a b) : Apt b a := fun A B hA hB e => h B A hB hA e.symm
/-- What stays when another row is appended to. -/
theorem own_keep {α : Type} {w w' : World} {base : Nat} {e : TypeId} {size : Nat} {enc : α → List Value} {a a' b : Option Addr} {c : Nat} {l : List α} (h : OwnL w base e size enc b c l)
    (hm : Md (a.map (·.block)).toList w w') (hA : ∀ A, a' = some A → a = some A ∨ w.heap.size ≤ A.block) (hd : Apt a b) : OwnL w' base e size enc b c l ∧ Apt a' b := by
  constructor
  · refine h.mdD hm fun B hB hmem => ?_
    cases a with
    | none => simp at hmem
    | some A => simp at hmem; exact hd A B rfl hB hmem.symm
  · intro A B hA' hB
    rcases hA A hA' with h1 | h1
    · exact hd A B h1 hB
    · have := (h.lt hB).2; omega
section
variable {base : Nat} {w : World} {t : Tb} {p : TbS} {L : List Nat}
end
end Fk
set_option linter.unusedVariables false
set_option linter.unusedSimpArgs false
set_option maxRecDepth 100000
namespace Fk
open Go Go.Proofs Go.RowKit
theorem rowT69 : RowT Try.prog 69 103 8 64 := RowT.of (by kernel_rfl) (by kernel_rfl) (by kernel_rfl) (by omega)
/-- A maker: its states, and how many there may be. -/
structure MkAt (w : World) (n : Nat) (l : List Ns) (most : Nat) (a : Option Addr) (c : Nat) : Prop where
  blk : Blk w n 214 [.slice a l.length c, .int .i64 most]
  own : OwnL w 0 103 8 nsE a c l
  ne : ∀ A, a = some A → A.block ≠ n
def fpM (n : Nat) (a : Option Addr) : List Nat := n :: (a.map (·.block)).toList
def Mkr (w : World) (n : Nat) (l : List Ns) (most : Nat) (F : List Nat) : Prop := ∃ a c, MkAt w n l most a c ∧ F = fpM n a
def FrN (w : World) (F F' : List Nat) : Prop := ∀ b ∈ F', b ∈ F ∨ w.heap.size ≤ b
theorem FrN.refl (w : World) (F : List Nat) : FrN w F F := fun _ h => .inl h
theorem FrN.trans {w w' : World} {F F' F'' : List Nat} (h : FrN w F F') (h2 : FrN w' F' F'') (hs : w.heap.size ≤ w'.heap.size) : FrN w F F'' := fun b hb => by
  rcases h2 b hb with h1 | h1
  · exact h b h1
  · right; omega
theorem mem_fpM {n : Nat} {a : Option Addr} {b : Nat} : b ∈ fpM n a ↔ b = n ∨ ∃ A, a = some A ∧ A.block = b := by
  unfold fpM
  cases a <;> simp [eq_comm]
theorem Mkr.md {w w' : World} {n : Nat} {l : List Ns} {most : Nat} {F D : List Nat} (h : Mkr w n l most F) (hm : Md D w w') (hD : ∀ b ∈ F, b ∉ D) : Mkr w' n l most F := by
  obtain ⟨a, c, h, rfl⟩ := h
  exact ⟨a, c, ⟨h.blk.md hm (hD n (by rw [mem_fpM]; exact .inl rfl)), h.own.mdD hm (fun A hA => hD _ (by rw [mem_fpM]; exact .inr ⟨A, hA, rfl⟩)), h.ne⟩, rfl⟩
theorem Mkr.md0 {w w' : World} {n : Nat} {l : List Ns} {most : Nat} {F : List Nat} (h : Mkr w n l most F) (hm : Md [] w w') : Mkr w' n l most F := h.md hm (by simp)
theorem Mkr.lt {w : World} {n : Nat} {l : List Ns} {most : Nat} {F : List Nat} (h : Mkr w n l most F) : ∀ b ∈ F, b < w.heap.size := by
  obtain ⟨a, c, h, rfl⟩ := h
  intro b hb
  rw [mem_fpM] at hb
  rcases hb with rfl | ⟨A, hA, rfl⟩
  · exact h.blk.lt
  · exact (h.own.lt hA).2
theorem f165_ok (n : Nat) (l : List Ns) (most : Nat) (F : List Nat) (w : World) (h : Mkr w n l most F) : Ct Try.prog 165 #[.pointer (some ⟨n, 0, none⟩)] w fun v w' => v = .bool (decide (l.length > most)) ∧ Md [] w w' := by
  apply f165_in
  obtain ⟨a, c, h, rfl⟩ := h
  refine ⟨fun w' => Md [] w.drew w', Md.refl _ _, ?_⟩
  show ∃ v3, _ ∧ _
  refine ⟨_, fun w' hm => (h.blk.md ((Md_drew w).trans hm) (by simp)).ld' rfl rfl, opL_in <| Bd_e rfl ?_⟩
  show ∃ v3, _ ∧ _
  refine ⟨_, fun w' hm => (h.blk.md ((Md_drew w).trans hm) (by simp)).ld' rfl rfl, opI_in <| Bd_in fun b17 hb17 => ⟨?_, Md_drew w⟩⟩
  rw [hb17]
  congr 2
  apply propext; omega
def mst (most : Nat) (l : List Ns) (x : Ns) : List Ns := if l.length ≤ most then l ++ [x] else l
theorem f164_ok (n : Nat) (l : List Ns) (most : Nat) (F : List Nat) (x : Ns) (w : World) (h : Mkr w n l most F) (hm : most ≤ 20000) (hl : l.length ≤ most + 1) :
    Ct Try.prog 164 #[.pointer (some ⟨n, 0, none⟩), x.v] w fun v w' => (v = .int .i64 ((mst most l x).length - 1 : Int) ∧ ∃ F', Mkr w' n (mst most l x) most F' ∧ FrN w F F') ∧ Md F w w' := by
  apply f164_in
  intro n1 hn1
  refine Jn_in (fun us vs w' => (∃ F', Mkr w' n (mst most l x) most F' ∧ FrN w F F') ∧ Md F w w') ?_ fun w13 h13 hL13 => ?_
  · rintro us vs w4 ⟨⟨F', ⟨a, c, hk, rfl⟩, hf⟩, hmd⟩
    have h1 : 1 ≤ (mst most l x).length := by unfold mst; split <;> (try simp) <;> omega
    have h2 : (mst most l x).length ≤ most + 2 := by unfold mst; split <;> (try simp) <;> omega
    show Ld _ _ _
    exact hk.blk.ld' rfl <| opL_in <| Bd_e rfl <| Bd_e (y := ((mst most l x).length - 1 : Int)) (by rw [IntKind.wrap_i64]; omega) ⟨⟨rfl, _, ⟨a, c, hk, rfl⟩, hf⟩, hmd⟩
  obtain ⟨a, c, hk, rfl⟩ := h
  have l1 := hL13 n1 (by simp)
  have hk13 : ∀ {w' : World}, Md [] w13.drew w' → Blk w' n 214 [.slice a l.length c, .int .i64 most] := fun hm => (hk.blk.md h13 (by simp)).md ((Md_drew w13).trans hm) (by simp)
  refine ⟨fun w' => Md [] w13.drew w', Md.refl _ _, ?_⟩
  show ∃ v3, _ ∧ _
  refine ⟨_, fun w' hm => (hk13 hm).ld' rfl rfl, opL_in <| Bd_e rfl ?_⟩
  show ∃ v3, _ ∧ _
  refine ⟨_, fun w' hm => (hk13 hm).ld' rfl rfl, opI_in <| Bd_in fun b30 hb30 => If_in (fun hb => ?_) fun hb => ?_⟩
  · have hle : l.length ≤ most := by rw [hb30] at hb; have : (l.length : Int) ≤ (most : Int) := by simpa using hb
                                     omega
    have ems : mst most l x = l ++ [x] := by unfold mst; rw [if_pos hle]
    have m0 : Md [] w w13.drew.drew := h13.trans ((Md_drew w13).trans (Md_drew _))
    have fin : ∀ (w' w2 : World), Md [] w w' → ∀ (a' : Option Addr) (c' : Nat), OwnL w2 0 103 8 nsE a' c' (l ++ [x]) → Md (a.map (·.block)).toList w' w2 → (∀ A, a' = some A → a = some A ∨ w'.heap.size ≤ A.block) →
        ¬ Addr.block (Addr.add (Addr.mk n 0 none) 0) ∈ [n1] ∧ Wr w2 (Addr.add (Addr.mk n 0 none) 0) 1 ∧ (∃ F', Mkr (setCells w2 (Addr.add (Addr.mk n 0 none) 0) 0 [.slice a' (l ++ [x]).length c']) n (mst most l x) most F' ∧ FrN w (fpM n a) F') ∧ Md (fpM n a) w (setCells w2 (Addr.add (Addr.mk n 0 none) 0) 0 [.slice a' (l ++ [x]).length c']) := by
      intro w' w2 hmw a' c' ho hm2 hA
      have hnlt := hk.blk.lt
      have hna : n ∉ (a.map (·.block)).toList := by
        cases a with
        | none => simp
        | some A => simp; exact fun e => hk.ne A rfl e.symm
      have b2 : Blk w2 n 214 [.slice a l.length c, .int .i64 most] := (hk.blk.md hmw (by simp)).md hm2 hna
      have hs1 := hmw.size
      have ne' : ∀ A, a' = some A → A.block ≠ n := fun A h e => by
        rcases hA A h with h1 | h1
        · exact hk.ne A h1 e
        · omega
      rw [ad0', ems]
      have b3 := b2.set (j := 0) (by simp) (.slice a' (l ++ [x]).length c')
      have ms := Md_setCells (w := w2) n 0 [.slice a' (l ++ [x]).length c']
      refine ⟨?_, b2.wr (by simp), ⟨_, ⟨a', c', ⟨b3, ho.mdD ms (fun A h => by simp; exact ne' A h), ne'⟩, rfl⟩, fun b hb => ?_⟩, ?_⟩
      · simp; omega
      · rw [mem_fpM] at hb ⊢
        rcases hb with rfl | ⟨A, h, rfl⟩
        · exact .inl (.inl rfl)
        · rcases hA A h with h1 | h1
          · exact .inl (.inr ⟨A, h1, rfl⟩)
          · right; omega
      · refine ⟨ms.os.trans (hm2.os.trans hmw.os), ms.tape.trans (hm2.tape.trans hmw.tape), ms.output.trans (hm2.output.trans hmw.output), by have := ms.size; have := hm2.size; omega, fun k hk' hkm => ?_⟩
        have hkn : k ≠ n := fun e => hkm (by rw [mem_fpM]; exact .inl e)
        have hka : k ∉ (a.map (·.block)).toList := fun hmem => hkm (by unfold fpM; exact List.mem_cons_of_mem _ hmem)
        have s2 := hm2.size
        exact ((ms.blk k (by omega) (by simpa using hkn)).trans (hm2.blk k (by omega) hka)).trans (hmw.blk k hk' (by simp))
    have hnot : ∀ b ∈ [n1], ∀ A, a = some A → A.block ≠ b := fun b hb A hA e => by have := (hk.own.lt hA).2; simp at hb; omega
    have hlD : ∀ {w' : World}, Md [] w13.drew.drew w' → ∀ b ∈ [n1], b < w'.heap.size := fun hm b hb => by
      have h1 := hm.size
      have h2 : w13.heap.size ≤ _ := h1
      simp at hb; omega
    have bD : ∀ {w' : World}, Md [] w13.drew.drew w' → Blk w' n 214 [.slice a l.length c, .int .i64 most] := fun hm => hk13 ((Md_drew _).trans hm)
    refine ⟨(bD (Md.refl _ _)).ld' rfl <| opL_in <| app_one rowT69 encNs x rfl (hk.own.md m0) (Nat.zero_le _) (hlD (Md.refl _ _)) hnot (by simp [maxLen]; omega) (by omega) fun a' c' w' ho hm hA => opL_in (fin _ w' m0 a' c' ho hm hA), ?_⟩
    intro n44 w45 e1 e2
    subst e1; subst e2
    have ma : Md [] w13.drew.drew (w13.drew.drew.alloc (.cells #[.int .u8 x.k, .int .u64 x.s1, .int .u64 x.s2, .int .u64 x.s3, .int .u64 x.s4, .int .i64 x.a, .int .i64 x.b, .int .i64 x.t] 103)) := Md.alloc _ _
    have ol := OwnL.lit (P := Try.prog) (base := 0) encNs w13.drew.drew 103 [x] #[.int .u8 x.k, .int .u64 x.s1, .int .u64 x.s2, .int .u64 x.s3, .int .u64 x.s4, .int .i64 x.a, .int .i64 x.b, .int .i64 x.t] (Nat.zero_le _) (by simp [maxLen]) rfl
    exact (bD ma).ld' rfl <| opL_in <| app_own rowT69 encNs ((hk.own.md m0).md ma) ol (Nat.zero_le _) (hlD ma) hnot (by simp [maxLen]; omega) (by simp; omega) fun a' c' w' ho hm hA => opL_in (fin _ w' (m0.trans ma) a' c' ho hm hA)
  · have hle : ¬ l.length ≤ most := by rw [hb30] at hb; have : ¬ (l.length : Int) ≤ (most : Int) := by simpa using hb
                                       omega
    have ems : mst most l x = l := by unfold mst; rw [if_neg hle]
    have m : Md [] w w13.drew := h13.trans (Md_drew w13)
    rw [ems]
    exact ⟨⟨_, ⟨a, c, ⟨hk13 (Md.refl _ _), hk.own.md m, hk.ne⟩, rfl⟩, FrN.refl _ _⟩, m.mono (by simp)⟩
end Fk
set_option linter.unusedVariables false
set_option linter.unusedSimpArgs false
set_option maxRecDepth 100000
namespace Fk
open Go Go.Proofs Go.RowKit
/-- A state more: all of them, and the last one's number. -/
def pst (most : Nat) (l : List Ns) (x : Ns) : List Ns × Int := (mst most l x, (mst most l x).length - 1)
def spl (a b : Int) : Ns := ⟨2, 0, 0, 0, 0, a, b, 0⟩
def setA (l : List Ns) (i k : Int) : List Ns := match l[i.toNat]? with
  | some x => l.set i.toNat { x with a := k }
  | none => l
/-- What a row of trees makes: as a row of a text; as choices; the first tree alone. -/
structure Tw where
  cat : List Ns × Int → List Ns × Int
  alt : Int → List Ns → List Ns × Option Int
  one : List Ns × Int → List Ns × Int
def twOne (most : Nat) (k a b c d : Int) (Q : Tw) (p : List Ns × Int) : List Ns × Int :=
  if p.1.length > most then p
  else if k = 1 then pst most p.1 ⟨1, a, b, c, d, p.2, 0, 0⟩
  else if k = 2 then Q.cat p
  else if k = 3 then ((Q.alt p.2 p.1).1, (Q.alt p.2 p.1).2.getD 0)
  else if k = 4 then
    let s := pst most p.1 (spl 0 p.2)
    let q := Q.one (s.1, s.2)
    (setA q.1 s.2 q.2, s.2)
  else p
def twAlt (most : Nat) (one : List Ns × Int → List Ns × Int) (R : Tw) (to : Int) (l : List Ns) : List Ns × Option Int :=
  let r := R.alt to l
  let q := one (r.1, to)
  match r.2 with
  | none => (q.1, some q.2)
  | some at' => ((pst most q.1 (spl q.2 at')).1, some (pst most q.1 (spl q.2 at')).2)
def tw (most : Nat) : Fo → Tw
  | .nil => ⟨id, fun _ l => (l, none), id⟩
  | .cons k a b c d q r =>
    let one := twOne most k a b c d (tw most q)
    ⟨fun p => one ((tw most r).cat p), twAlt most one (tw most r), one⟩
theorem mst_len (most : Nat) (l : List Ns) (x : Ns) (h : l.length ≤ most + 1) : l.length ≤ (mst most l x).length ∧ (mst most l x).length ≤ most + 1 := by
  unfold mst
  split
  · simp; omega
  · omega
theorem setA_len (l : List Ns) (i k : Int) : (setA l i k).length = l.length := by
  unfold setA
  split <;> simp
theorem tw_len (most : Nat) : ∀ f : Fo, (∀ p : List Ns × Int, p.1.length ≤ most + 1 → p.1.length ≤ ((tw most f).cat p).1.length ∧ ((tw most f).cat p).1.length ≤ most + 1) ∧
    (∀ (to : Int) (l : List Ns), l.length ≤ most + 1 → l.length ≤ ((tw most f).alt to l).1.length ∧ ((tw most f).alt to l).1.length ≤ most + 1) ∧
    (∀ p : List Ns × Int, p.1.length ≤ most + 1 → p.1.length ≤ ((tw most f).one p).1.length ∧ ((tw most f).one p).1.length ≤ most + 1)
  | .nil => ⟨fun p h => ⟨Nat.le_refl _, h⟩, fun to l h => ⟨Nat.le_refl _, h⟩, fun p h => ⟨Nat.le_refl _, h⟩⟩
  | .cons k a b c d q r => by
    obtain ⟨q1, q2, q3⟩ := tw_len most q
    obtain ⟨r1, r2, r3⟩ := tw_len most r
    have one : ∀ p : List Ns × Int, p.1.length ≤ most + 1 → p.1.length ≤ (twOne most k a b c d (tw most q) p).1.length ∧ (twOne most k a b c d (tw most q) p).1.length ≤ most + 1 := by
      intro p hp
      unfold twOne
      split
      · exact ⟨Nat.le_refl _, hp⟩
      · split
        · exact mst_len most p.1 _ hp
        · split
          · exact q1 p hp
          · split
            · exact q2 _ _ hp
            · split
              · have h1 := mst_len most p.1 (spl 0 p.2) hp
                have h2 := q3 (pst most p.1 (spl 0 p.2)) h1.2
                simp only [setA_len]
                exact ⟨Nat.le_trans h1.1 h2.1, h2.2⟩
              · exact ⟨Nat.le_refl _, hp⟩
    refine ⟨fun p hp => ?_, fun to l hl => ?_, one⟩
    · have h1 := r1 p hp
      have h2 := one _ h1.2
      exact ⟨Nat.le_trans h1.1 h2.1, h2.2⟩
    · have h1 := r2 to l hl
      have h2 := one (((tw most r).alt to l).1, to) h1.2
      show l.length ≤ (twAlt most _ _ to l).1.length ∧ (twAlt most _ _ to l).1.length ≤ most + 1
      unfold twAlt
      simp only
      split
      · exact ⟨Nat.le_trans h1.1 h2.1, h2.2⟩
      · rename_i at' _
        have h3 := mst_len most _ (spl (twOne most k a b c d (tw most q) (((tw most r).alt to l).1, to)).2 at') h2.2
        exact ⟨Nat.le_trans h1.1 (Nat.le_trans h2.1 h3.1), h3.2⟩
end Fk
set_option linter.unusedVariables false
set_option linter.unusedSimpArgs false
set_option maxRecDepth 100000
namespace Fk
open Go Go.Proofs Go.RowKit
theorem Md_frN {F F' : List Nat} {w w1 w2 : World} (h1 : Md F w w1) (h2 : Md F' w1 w2) (hf : FrN w F F') : Md F w w2 :=
  ⟨h2.os.trans h1.os, h2.tape.trans h1.tape, h2.output.trans h1.output, Nat.le_trans h1.size h2.size, fun k hk hm => (h2.blk k (Nat.lt_of_lt_of_le hk h1.size) fun hm' => by
    rcases hf k hm' with h | h
    · exact hm h
    · omega).trans (h1.blk k hk hm)⟩
def Fo.drop : Fo → Nat → Fo
  | f, 0 => f
  | .nil, _ + 1 => .nil
  | .cons _ _ _ _ _ _ r, n + 1 => r.drop n
theorem Fo.drop_len : ∀ (f : Fo) (j : Nat), (f.drop j).len = f.len - j
  | f, 0 => by simp [Fo.drop]
  | .nil, j + 1 => by simp [Fo.drop, Fo.len]
  | .cons _ _ _ _ _ _ r, j + 1 => by simp only [Fo.drop, Fo.len, Fo.drop_len r j]; omega
theorem Fo.drop_cons : ∀ (f : Fo) (j : Nat), j < f.len → ∃ k a b c d q, f.drop j = .cons k a b c d q (f.drop (j + 1)) ∧ q.size < f.size
  | .nil, j, h => by simp [Fo.len] at h
  | .cons k a b c d q r, 0, _ => ⟨k, a, b, c, d, q, by cases r <;> rfl, by simp only [Fo.size]; omega⟩
  | .cons k a b c d q r, j + 1, h => by
    obtain ⟨k', a', b', c', d', q', e, hs⟩ := Fo.drop_cons r j (by simp only [Fo.len] at h; omega)
    exact ⟨k', a', b', c', d', q', by simp only [Fo.drop]; exact e, by simp only [Fo.size]; omega⟩
theorem Fo.drop_all (f : Fo) : ∀ j, f.len ≤ j → f.drop j = .nil := by
  intro j hj
  have := Fo.drop_len f j
  cases h : f.drop j with
  | nil => rfl
  | cons => rw [h] at this; simp only [Fo.len] at this; omega
theorem RepF.drop {w : World} {A : Option Addr} : ∀ (f : Fo) (i j : Nat), RepF w A i f → RepF w A (i + j) (f.drop j)
  | f, i, 0, h => by simpa [Fo.drop] using h
  | .nil, i, j + 1, h => trivial
  | .cons _ _ _ _ _ _ r, i, j + 1, h => by
    obtain ⟨B, sa, sc, _, _, _, _, hr⟩ := h.at
    have := RepF.drop r (i + 1) j hr
    rw [show i + (j + 1) = i + 1 + j by omega]
    exact this
/-- Trees whose choices and stars have kids. -/
def Fo.gdP : Fo → Prop
  | .nil => True
  | .cons k _ _ _ _ q r => ((k = 3 ∨ k = 4) → 1 ≤ q.len) ∧ q.gdP ∧ r.gdP
theorem Fo.gdP_drop : ∀ (f : Fo) (j : Nat), f.gdP → (f.drop j).gdP
  | f, 0, h => by simpa [Fo.drop] using h
  | .nil, j + 1, h => trivial
  | .cons _ _ _ _ _ _ r, j + 1, h => Fo.gdP_drop r j h.2.2
/-- What a call of toward, or of state, brings. -/
structure Tws (w0 w : World) (n : Nat) (l : List Ns) (most : Nat) (F : List Nat) : Prop where
  mr : Mkr w n l most F
  md : Md [] w0 w
  lo : ∀ b ∈ F, w0.heap.size ≤ b
  len : l.length ≤ most + 1
theorem Tws.step {w0 w w' : World} {n : Nat} {l l' : List Ns} {most : Nat} {F F' : List Nat} (S : Tws w0 w n l most F) (h : Mkr w' n l' most F') (hm : Md F w w') (hf : FrN w F F') (hl : l'.length ≤ most + 1) : Tws w0 w' n l' most F' :=
  ⟨h, S.md.old hm S.lo, fun b hb => by rcases hf b hb with h | h; exact S.lo b h; have := S.md.size; omega, hl⟩
theorem Tws.md0 {w0 w w' : World} {n : Nat} {l : List Ns} {most : Nat} {F : List Nat} (S : Tws w0 w n l most F) (hm : Md [] w w') : Tws w0 w' n l most F := ⟨S.mr.md0 hm, S.md.trans hm, S.lo, S.len⟩
/-- Blocks that are there, and are none of the maker's. -/
def LN (L : List Nat) (w : World) (F : List Nat) : Prop := ∀ b ∈ L, b < w.heap.size ∧ b ∉ F
theorem LN.fr {L F F' : List Nat} {w w' : World} (h : LN L w F) (hf : FrN w F F') (hs : w.heap.size ≤ w'.heap.size) : LN L w' F' := fun b hb => by
  obtain ⟨h1, h2⟩ := h b hb
  refine ⟨by omega, fun hm => ?_⟩
  rcases hf b hm with h3 | h3
  · exact h2 h3
  · omega
theorem in164 {w0 w : World} {n : Nat} {l : List Ns} {most : Nat} {F L : List Nat} (S : Tws w0 w n l most F) (hL : LN L w F) (hm : most ≤ 20000) (k a b c d e f t : Int) {K : Int → World → Prop}
    (kk : ∀ F' w', Tws w0 w' n (pst most l ⟨k, a, b, c, d, e, f, t⟩).1 most F' → Md F w w' → FrN w F F' → LN L w' F' → K (pst most l ⟨k, a, b, c, d, e, f, t⟩).2 w') :
    CallW Try.prog L 164 #[.pointer (some ⟨n, 0, none⟩), .agg #[.int .u8 k, .int .u64 a, .int .u64 b, .int .u64 c, .int .u64 d, .int .i64 e, .int .i64 f, .int .i64 t]] (fun v w' => opI .i64 v fun x => K x w') w := by
  refine (f164_ok n l most F ⟨k, a, b, c, d, e, f, t⟩ w S.mr hm S.len).callD (fun b hb => (hL b hb).1) (fun b hb => (hL b hb).2) ?_
  rintro v w' ⟨rfl, F', h1, h2⟩ h'
  exact opI_in (kk F' w' (S.step h1 h' h2 (mst_len most l _ S.len).2) h' h2 (hL.fr h2 h'.size))
end Fk
set_option linter.unusedVariables false
set_option linter.unusedSimpArgs false
set_option maxRecDepth 100000
set_option maxHeartbeats 2000000
namespace Fk
open Go Go.Proofs Go.RowKit
theorem wrL_a {l : List Ns} {i : Nat} (hi : i < l.length) (y : Int) : wrL (l.flatMap nsE) (i * 8 + 5) [.int .i64 y] = (l.set i { l[i] with a := y }).flatMap nsE := by
  rw [← wrL_flat encNs l i { l[i] with a := y } hi]
  apply List.ext_getElem?
  intro j
  have hlen := encNs.lenL l
  rw [wrL_get (by simp only [List.length_cons, List.length_nil]; omega), wrL_get (by rw [encNs.len]; omega), encNs.len]
  simp only [List.length_cons, List.length_nil]
  by_cases h1 : i * 8 ≤ j ∧ j < i * 8 + 8
  · obtain ⟨r, rfl⟩ : ∃ r, j = i * 8 + r := ⟨j - i * 8, by omega⟩
    have hr : r < 8 := by omega
    rw [if_pos h1, encNs.at l i r l[i] (List.getElem?_eq_getElem hi) hr, show i * 8 + r - i * 8 = r by omega]
    rcases (by omega : r = 0 ∨ r = 1 ∨ r = 2 ∨ r = 3 ∨ r = 4 ∨ r = 5 ∨ r = 6 ∨ r = 7) with rfl | rfl | rfl | rfl | rfl | rfl | rfl | rfl
    case inr.inr.inr.inr.inr.inl => rw [if_pos (by omega)]; simp [nsE]
    all_goals (rw [if_neg (by omega)]; simp [nsE])
  · rw [if_neg h1, if_neg (by omega)]
theorem NN_in {A : Addr} {k : Addr → Prop} (h : k A) : NN (some A) k := h
theorem star_put {w0 w : World} {n : Nat} {l2 : List Ns} {most : Nat} {F : List Nat} {n1 : Nat} (S : Tws w0 w n l2 most F) (x : Int) (i : Nat) (hx : x = (i : Int)) (hi : i < l2.length) (kid : Int) (hn1 : n1 ∉ F) {K : World → Prop}
    (kk : ∀ w', Tws w0 w' n (setA l2 x kid) most F → Md F w w' → K w') :
    Ld w ((Addr.mk n 0 none).add 0) fun v115 => opL v115 fun a116 n117 n118 => IxOk x n117 a116 ∧ ¬ Addr.block (adAt a116 x 8) ∈ [n1] ∧ Wr w ((adAt a116 x 8).add 5) 1 ∧ K (setCells w ((adAt a116 x 8).add 5) 0 [.int .i64 kid]) := by
  subst hx
  obtain ⟨a, c, hk, hF⟩ := S.mr
  refine hk.blk.ld' rfl <| opL_in ?_
  have hlen := encNs.lenL l2
  obtain ⟨A, rfl, p1, p2, p3, p4, p5⟩ := own_put hk.own (i * 8 + 5) [.int .i64 kid] (by simp only [List.length_cons, List.length_nil]; omega) (by simp)
  have hA : (adAt (some A) (i : Int) 8).add 5 = A.add (i * 8 + 5) := by
    rw [← add_add]
    simp [adAt]
  have hB : (adAt (some A) (i : Int) 8).block = A.block := by simp [adAt, add_block]
  have hAF : A.block ∈ F := by rw [hF, mem_fpM]; exact .inr ⟨A, rfl, rfl⟩
  rw [wrL_a hi] at p4
  have es : setA l2 (i : Int) kid = l2.set i { l2[i] with a := kid } := by unfold setA; simp [hi]
  rw [hA, hB]
  have hne : A.block ≠ n := hk.ne A rfl
  have own' : OwnL (setCells w (A.add (i * 8 + 5)) 0 [.int .i64 kid]) 0 103 8 nsE (some A) c (l2.set i { l2[i] with a := kid }) := by
    unfold OwnL
    rw [List.length_set]; exact p4
  refine ⟨(hk.own.row encNs).ix hi, by simp; exact fun e => hn1 (e ▸ hAF), p3, kk _ ⟨⟨some A, c, ⟨?_, ?_, hk.ne⟩, hF⟩, S.md.old p5 (by simp; exact S.lo _ hAF), S.lo, by rw [es, List.length_set]; exact S.len⟩ (p5.mono (by simp; exact hAF))⟩
  · have := hk.blk.md p5 (by simp; exact fun e => hne e.symm)
    rw [es, List.length_set]; exact this
  · rw [es]; exact own'
def Tow (most : Nat) (q : Fo) : Prop := ∀ (k a b c d : Int) (sa : Option Addr) (sc : Nat) (to : Int) (n : Nat) (l : List Ns) (F : List Nat) (w0 w : World), RepF w0 sa 0 q → q.len < 2 ^ 63 → ((k = 3 ∨ k = 4) → 1 ≤ q.len) → q.gdP → Tws w0 w n l most F →
    Ct Try.prog 163 #[.pointer (some ⟨n, 0, none⟩), .agg #[.int .u8 k, .int .u64 a, .int .u64 b, .int .u64 c, .int .u64 d, .slice sa q.len sc], .int .i64 to] w
      fun v w' => (v = .int .i64 (twOne most k a b c d (tw most q) (l, to)).2 ∧ ∃ F', Tws w0 w' n (twOne most k a b c d (tw most q) (l, to)).1 most F' ∧ FrN w F F') ∧ Md F w w'
theorem in163 {most : Nat} {q : Fo} (hT : Tow most q) {k a b c d : Int} {sa : Option Addr} {sc : Nat} (to : Int) {n : Nat} {l : List Ns} {F L : List Nat} {w0 w : World} (h1 : RepF w0 sa 0 q) (h2 : q.len < 2 ^ 63) (h3 : (k = 3 ∨ k = 4) → 1 ≤ q.len) (h4 : q.gdP) (S : Tws w0 w n l most F) (hL : LN L w F) {K : Int → World → Prop}
    (kk : ∀ F' w', Tws w0 w' n (twOne most k a b c d (tw most q) (l, to)).1 most F' → Md F w w' → FrN w F F' → LN L w' F' → K (twOne most k a b c d (tw most q) (l, to)).2 w') :
    CallW Try.prog L 163 #[.pointer (some ⟨n, 0, none⟩), .agg #[.int .u8 k, .int .u64 a, .int .u64 b, .int .u64 c, .int .u64 d, .slice sa q.len sc], .int .i64 to] (fun v w' => opI .i64 v fun x => K x w') w := by
  refine (hT k a b c d sa sc to n l F w0 w h1 h2 h3 h4 S).callD (fun b hb => (hL b hb).1) (fun b hb => (hL b hb).2) ?_
  rintro v w' ⟨rfl, F', h5, h6⟩ h'
  exact opI_in (kk F' w' h5 h' h6 (hL.fr h6 h'.size))
/-- A kid is read. -/
theorem kid_ld {w0 w : World} {sa : Option Addr} {q : Fo} {j : Nat} {k a b c d : Int} {q' : Fo} (h : RepF w0 sa 0 q) (hm : Md [] w0 w) (he : q.drop j = .cons k a b c d q' (q.drop (j + 1))) (hj : j < q.len) {K : Int → Int → Int → Int → Int → Option Addr → Nat → Nat → Prop}
    (kk : ∀ sa' sc', q'.len < 2 ^ 63 → RepF w0 sa' 0 q' → K k a b c d sa' q'.len sc') :
    IxOk (j : Int) q.len sa ∧ Ld w ((adAt sa (j : Int) 6).add 0) fun v14 => Ld w ((adAt sa (j : Int) 6).add 1) fun v15 => Ld w ((adAt sa (j : Int) 6).add 2) fun v16 => Ld w ((adAt sa (j : Int) 6).add 3) fun v17 => Ld w ((adAt sa (j : Int) 6).add 4) fun v18 => Ld w ((adAt sa (j : Int) 6).add 5) fun v19 =>
      opI .u8 v14 fun x20 => opI .u64 v15 fun x21 => opI .u64 v16 fun x22 => opI .u64 v17 fun x23 => opI .u64 v18 fun x24 => opL v19 fun a25 n26 n27 => K x20 x21 x22 x23 x24 a25 n26 n27 := by
  have := h.drop q 0 j
  rw [he, Nat.zero_add] at this
  obtain ⟨B, sa', sc', rfl, hc, hql, hq, _⟩ := this.at
  exact ⟨⟨by omega, by omega, rfl⟩, ReC.ld (hc.md hm) (kk sa' sc' hql hq)⟩
theorem f163_step (most : Nat) (hm : most ≤ 20000) (q : Fo) (ih : ∀ q' : Fo, q'.size < q.size → Tow most q') : Tow most q := by
  intro k a b c d sa sc to n l F w0 w hr hql hk34 hgood S
  apply f163_in
  intro n1 hn1 w2 h2 hL2
  have S2 := S.md0 h2
  refine (f165_ok n l most F w2 S2.mr).call hL2 ?_
  rintro v w4 rfl m4
  have S4 := S2.md0 m4
  have m24 := h2.trans m4
  have l1 : n1 < w4.heap.size := by have := hL2 n1 (by simp); have := m4.size; omega
  have hLN : LN [n1] w4 F := fun b hb => by
    simp at hb; subst hb
    exact ⟨l1, fun hm => by have := S.mr.lt _ hm; omega⟩
  refine opB_in <| If_in (fun hb => ?_) fun hb => Bd_e rfl <| Bd_e (y := (q.len : Int) - 1) (by rw [IntKind.wrap_i64]; omega) ?_
  · have hfull : l.length > most := by simpa using hb
    have e : twOne most k a b c d (tw most q) (l, to) = (l, to) := by unfold twOne; rw [if_pos hfull]
    rw [e]
    exact ⟨⟨rfl, F, S4, FrN.refl _ _⟩, m24.mono (by simp)⟩
  have hnf : ¬ l.length > most := by simpa using hb
  have up : ∀ {F' : List Nat} {w' : World} {l' : List Ns}, Tws w0 w' n l' most F' → Md F w4 w' → FrN w4 F F' → (∃ F', Tws w0 w' n l' most F' ∧ FrN w F F') ∧ Md F w w' := fun {F' w' l'} h1 h2 h3 =>
    ⟨⟨F', h1, fun b hb => by rcases h3 b hb with h | h; exact .inl h; have := m24.size; right; omega⟩, Md_frN (m24.mono (by simp)) h2 (FrN.refl _ _)⟩
  refine Jn_in (fun us vs w' => ∃ (x y : Int) (b1 b2 : Bool), us = [.int .i64 x, .int .i64 y, .bool b1, .bool b2] ∧ x = (twOne most k a b c d (tw most q) (l, to)).2 ∧ (∃ F', Tws w0 w' n (twOne most k a b c d (tw most q) (l, to)).1 most F' ∧ FrN w F F') ∧ Md F w w') ?_ ?_
  · rintro us vs w10 ⟨x, y, b1, b2, rfl, rfl, h3, h4⟩
    exact opI_in <| opI_in <| opB_in <| opB_in ⟨⟨rfl, h3⟩, h4⟩
  refine Bd_in fun b16 hb16 => If_in (fun hb => ?_) fun hb1 => ?_
  · have hk : k = 1 := by rw [hb16] at hb; simpa using hb
    have e : twOne most k a b c d (tw most q) (l, to) = pst most l ⟨1, a, b, c, d, to, 0, 0⟩ := by unfold twOne; rw [if_neg hnf, if_pos hk]
    rw [e]
    refine in164 S4 hLN hm 1 a b c d to 0 0 fun F' w18 S18 m18 f18 _ => ?_
    obtain ⟨u1, u2⟩ := up S18 m18 f18
    exact ⟨⟨rfl, u1⟩, u2⟩

  have hk1 : k ≠ 1 := by rw [hb16] at hb1; simpa using hb1
  refine Bd_in fun b20 hb20 => If_in (fun hb => ?_) fun hb2 => ?_
  · have hk : k = 2 := by rw [hb20] at hb; simpa using hb
    have e : twOne most k a b c d (tw most q) (l, to) = (tw most q).cat (l, to) := by unfold twOne; rw [if_neg hnf, if_neg hk1, if_pos hk]
    refine LoopP_in (fun mm us vs w' => ∃ (j : Nat) (x : Int) (l' : List Ns) (F' : List Nat), us = [.int .i64 x, .int .i64 ((j : Int) - 1)] ∧ mm = j ∧ j ≤ q.len ∧ (tw most (q.drop j)).cat (l, to) = (l', x) ∧ Tws w0 w' n l' most F' ∧ Md F w4 w' ∧ FrN w4 F F' ∧ LN [n1] w' F') q.len
      ⟨q.len, to, l, F, rfl, rfl, Nat.le_refl _, by rw [Fo.drop_all q _ (Nat.le_refl _)]; rfl, S4, Md.refl _ _, FrN.refl _ _, hLN⟩ ?_
    rintro mm us vs w24 ⟨j, x, l', F', rfl, hmm, hj, hc, St, m, f, hL⟩
    refine opI_in <| opI_in <| Bd_in fun b27 hb27 => If_in (fun hb => ?_) fun hb => ?_
    · have hj1 : (j : Int) - 1 ≥ 0 := by rw [hb27] at hb; exact of_decide_eq_true hb
      obtain ⟨i, rfl⟩ : ∃ i, j = i + 1 := ⟨j - 1, by omega⟩
      have ei : (((i + 1 : Nat) : Int) - 1) = (i : Int) := by omega
      rw [ei]
      obtain ⟨k', a', b', c', d', q', he, hqs⟩ := Fo.drop_cons q i hj
      have hg := q.gdP_drop i hgood
      rw [he] at hg
      refine kid_ld hr St.md he hj fun sa' sc' hql' hr' => ?_
      refine in163 (ih q' hqs) x hr' hql' hg.1 hg.2.1 St hL fun F2 w43 S43 m43 f43 lf43 => Bd_e (y := (i : Int) - 1) (by rw [IntKind.wrap_i64]; omega) ⟨i, by omega, i, _, _, F2, rfl, rfl, by omega, ?_, S43, Md_frN m m43 f, f.trans f43 m.size, lf43⟩
      rw [he]
      show twOne most k' a' b' c' d' (tw most q') ((tw most (q.drop (i + 1))).cat (l, to)) = _
      rw [hc]
    · have hj1 : ¬ (j : Int) - 1 ≥ 0 := by rw [hb27] at hb; exact of_decide_eq_false hb
      have hj0 : j = 0 := by omega
      subst hj0
      obtain ⟨u1, u2⟩ := up St m f
      have hc' : (tw most q).cat (l, to) = (l', x) := by simpa [Fo.drop] using hc
      rw [e, hc']
      exact ⟨x, 0, b16, b20, rfl, rfl, u1, u2⟩
  have hk2 : k ≠ 2 := by rw [hb20] at hb2; simpa using hb2
  refine Bd_in fun b46 hb46 => If_in (fun hb => ?_) fun hb3 => ?_
  · have hk : k = 3 := by rw [hb46] at hb; simpa using hb
    have e : twOne most k a b c d (tw most q) (l, to) = (((tw most q).alt to l).1, ((tw most q).alt to l).2.getD 0) := by unfold twOne; rw [if_neg hnf, if_neg hk1, if_neg hk2, if_pos hk]
    have hl1 := hk34 (.inl hk)
    obtain ⟨j0, hj0⟩ : ∃ j0, q.len = j0 + 1 := ⟨q.len - 1, by omega⟩
    have ei : (q.len : Int) - 1 = (j0 : Int) := by omega
    rw [ei]
    obtain ⟨k', a', b', c', d', q', he, hqs⟩ := Fo.drop_cons q j0 (by omega)
    have hg := q.gdP_drop j0 hgood
    rw [he] at hg
    refine kid_ld hr S4.md he (by omega) fun sa' sc' hql' hr' => ?_
    refine in163 (ih q' hqs) to hr' hql' hg.1 hg.2.1 S4 hLN fun F1 w62 S62 m62 f62 lf62 => Bd_e (y := (j0 : Int) - 1) (by rw [IntKind.wrap_i64]; omega) ?_
    refine LoopP_in (fun mm us vs w' => ∃ (j : Nat) (x : Int) (l' : List Ns) (F' : List Nat), us = [.int .i64 x, .int .i64 ((j : Int) - 1)] ∧ mm = j ∧ j ≤ j0 ∧ (tw most (q.drop j)).alt to l = (l', some x) ∧ Tws w0 w' n l' most F' ∧ Md F w4 w' ∧ FrN w4 F F' ∧ LN [n1] w' F') j0
      ⟨j0, _, _, F1, rfl, rfl, Nat.le_refl _, by rw [he, Fo.drop_all q _ (by omega)]; rfl, S62, m62, f62, lf62⟩ ?_
    rintro mm us vs w24 ⟨j, x, l', F', rfl, hmm, hj, hc, St, m, f, hL⟩
    refine opI_in <| opI_in <| Bd_in fun b27 hb27 => If_in (fun hb => ?_) fun hb => ?_
    · have hj1 : (j : Int) - 1 ≥ 0 := by rw [hb27] at hb; exact of_decide_eq_true hb
      obtain ⟨i, rfl⟩ : ∃ i, j = i + 1 := ⟨j - 1, by omega⟩
      have ei : (((i + 1 : Nat) : Int) - 1) = (i : Int) := by omega
      rw [ei]
      obtain ⟨k2, a2, b2, c2, d2, q2, he2, hqs2⟩ := Fo.drop_cons q i (by omega)
      have hg2 := q.gdP_drop i hgood
      rw [he2] at hg2
      refine kid_ld hr St.md he2 (by omega) fun sa' sc' hql' hr' => ?_
      refine in163 (ih q2 hqs2) to hr' hql' hg2.1 hg2.2.1 St hL fun F2 w43 S43 m43 f43 lf43 => ?_
      refine in164 S43 lf43 hm 2 0 0 0 0 _ x 0 fun F3 w44 S44 m44 f44 lf44 => Bd_e (y := (i : Int) - 1) (by rw [IntKind.wrap_i64]; omega) ⟨i, by omega, i, _, _, F3, rfl, rfl, by omega, ?_, S44, Md_frN (Md_frN m m43 f) m44 (f.trans f43 m.size), (f.trans f43 m.size).trans f44 (by have := m.size; have := m43.size; omega), lf44⟩
      rw [he2]
      show twAlt most (twOne most k2 a2 b2 c2 d2 (tw most q2)) (tw most (q.drop (i + 1))) to l = _
      unfold twAlt
      simp only [hc]
      rfl
    · have hj1 : ¬ (j : Int) - 1 ≥ 0 := by rw [hb27] at hb; exact of_decide_eq_false hb
      have hj0 : j = 0 := by omega
      subst hj0
      obtain ⟨u1, u2⟩ := up St m f
      have hc' : (tw most q).alt to l = (l', some x) := by simpa [Fo.drop] using hc
      rw [e, hc']
      exact ⟨⟨rfl, u1⟩, u2⟩
  have hk3 : k ≠ 3 := by rw [hb46] at hb3; simpa using hb3
  refine Bd_in fun b93 hb93 => If_in (fun hb => ?_) fun hb4 => ?_
  case refine_2 =>
    have hk4 : k ≠ 4 := by rw [hb93] at hb4; simpa using hb4
    have e : twOne most k a b c d (tw most q) (l, to) = (l, to) := by unfold twOne; rw [if_neg hnf, if_neg hk1, if_neg hk2, if_neg hk3, if_neg hk4]
    obtain ⟨u1, u2⟩ := up S4 (Md.refl _ _) (FrN.refl _ _)
    rw [e]
    exact ⟨to, 0, b16, b20, rfl, rfl, u1, u2⟩
  have hk : k = 4 := by rw [hb93] at hb; simpa using hb
  have e : twOne most k a b c d (tw most q) (l, to) = (setA ((tw most q).one (pst most l (spl 0 to))).1 (pst most l (spl 0 to)).2 ((tw most q).one (pst most l (spl 0 to))).2, (pst most l (spl 0 to)).2) := by unfold twOne; rw [if_neg hnf, if_neg hk1, if_neg hk2, if_neg hk3, if_pos hk]
  have hl1 := hk34 (.inr hk)
  obtain ⟨k', a', b', c', d', q', he, hqs⟩ := Fo.drop_cons q 0 (by omega)
  have he0 : q = .cons k' a' b' c' d' q' (q.drop 1) := by have := he; simpa [Fo.drop] using this
  have hg := hgood
  rw [he0] at hg
  refine in164 S4 hLN hm 2 0 0 0 0 0 to 0 fun F1 w95 S95 m95 f95 lf95 => kid_ld (j := 0) hr S95.md he (by omega) fun sa' sc' hql' hr' => ?_
  refine in163 (ih q' hqs) _ hr' hql' hg.1 hg.2.1 S95 lf95 fun F2 w112 S112 m112 f112 lf112 => ?_
  have eone : (tw most q).one = twOne most k' a' b' c' d' (tw most q') := by rw [he0]; rfl
  have hlp := (tw_len most q).2.2 (pst most l (spl 0 to)) S95.len
  rw [eone] at e hlp
  have hp1 : 1 ≤ (pst most l (spl 0 to)).1.length := by show 1 ≤ (mst most l _).length; unfold mst; split <;> (try simp) <;> omega
  have hp2 : (pst most l (spl 0 to)).2 = ((pst most l (spl 0 to)).1.length : Int) - 1 := rfl
  change Tws w0 w112 n (twOne most k' a' b' c' d' (tw most q') (pst most l (spl 0 to))).1 most F2 at S112
  rw [e]
  refine NN_in <| star_put (K := fun w' => (Value.int .i64 (pst most l (spl 0 to)).2 = .int .i64 (pst most l (spl 0 to)).2 ∧ ∃ F', Tws w0 w' n (setA (twOne most k' a' b' c' d' (tw most q') (pst most l (spl 0 to))).1 (pst most l (spl 0 to)).2 (twOne most k' a' b' c' d' (tw most q') (pst most l (spl 0 to))).2) most F' ∧ FrN w F F') ∧ Md F w w') S112 (pst most l (spl 0 to)).2 ((pst most l (spl 0 to)).1.length - 1) (by omega) (by omega) _ (lf112 n1 (by simp)).2 fun w' S' m' => ?_
  have mm := Md_frN (Md_frN m95 m112 f95) m' ((f95.trans f112 m95.size))
  obtain ⟨u1, u2⟩ := up S' mm (f95.trans f112 m95.size)
  exact ⟨⟨rfl, u1⟩, u2⟩
theorem tow_ok (most : Nat) (hm : most ≤ 20000) : ∀ (s : Nat) (q : Fo), q.size < s → Tow most q
  | 0, q, h => by omega
  | s + 1, q, h => f163_step most hm q fun q' h' => tow_ok most hm s q' (by omega)
end Fk
set_option linter.unusedVariables false
set_option linter.unusedSimpArgs false
set_option maxRecDepth 100000
namespace Fk
open Go Go.Proofs Go.RowKit
theorem good_of_right : ∀ f : Fo, f.right = true → f.gdP
  | .nil, _ => trivial
  | .cons k a b c d q r, h => by
    simp only [Fo.right, Bool.and_eq_true] at h
    refine ⟨fun hk => ?_, good_of_right q h.1.2, good_of_right r h.2⟩
    have h1 := h.1.1
    unfold nodeOk at h1
    rcases hk with rfl | rfl <;> simp at h1 <;> omega
/-- The trees of a row, one behind the other: an end, what the tree makes, and where it begins. -/
def bldF (most : Nat) : Fo → Int → List Ns → List Int → List Ns × List Int
  | .nil, _, l, bs => (l, bs)
  | .cons k a b c d q r, i, l, bs =>
    let s := pst most l ⟨0, 0, 0, 0, 0, 0, 0, i⟩
    let t := twOne most k a b c d (tw most q) s
    bldF most r (i + 1) t.1 (bs ++ [t.2])
/-- The beginnings, joined from the last one on. -/
def joinB (most : Nat) : List Int → List Ns → List Ns × Int
  | [], l => (l, 0)
  | b :: bs, l => match bs with
    | [] => (l, b)
    | _ :: _ => pst most (joinB most bs l).1 (spl b (joinB most bs l).2)
def bld (f : Fo) (most : Int) : (Int × List Ns) × Int :=
  if 1 ≤ f.len ∧ f.len ≤ 200 ∧ 1 ≤ most ∧ most ≤ 20000 ∧ f.right = true then
    let t := bldF most.toNat f 0 [] []
    let j := joinB most.toNat t.2 t.1
    if (j.1.length : Int) > most then ((0, []), 40) else ((j.2, j.1), 0)
  else ((0, []), 2)
end Fk
set_option linter.unusedVariables false
set_option linter.unusedSimpArgs false
set_option maxRecDepth 100000
set_option maxHeartbeats 2000000
namespace Fk
open Go Go.Proofs Go.RowKit
theorem OwnL.up {α : Type} {w : World} {base b : Nat} {e : TypeId} {size : Nat} {enc : α → List Value} {a : Option Addr} {c : Nat} {l : List α} (h : OwnL w base e size enc a c l) (hb : ∀ A, a = some A → b ≤ A.block) : OwnL w b e size enc a c l := by
  refine ⟨h.1, ?_⟩
  rcases h.2 with hn | ⟨g, cap, cur, hv, hb', rest⟩
  · exact .inl hn
  · refine .inr ⟨g, cap, cur, hv, ?_, rest⟩
    simp only [Value.slice.injEq] at hv
    exact hb _ hv.1
theorem right_take : ∀ (f : Fo) (j : Nat), f.right = true → (f.drop j).right = true
  | f, 0, h => by simpa [Fo.drop] using h
  | .nil, j + 1, h => rfl
  | .cons _ _ _ _ _ _ r, j + 1, h => by
    simp only [Fo.right, Bool.and_eq_true] at h
    exact right_take r j h.2
theorem right_pre {f : Fo} {j : Nat} {k a b c d : Int} {q : Fo} (he : f.drop j = .cons k a b c d q (f.drop (j + 1))) (h : f.right = true) : nodeOk k (z4 a b c d) q.len = true ∧ q.right = true := by
  have := right_take f j h
  rw [he] at this
  simp only [Fo.right, Bool.and_eq_true] at this
  exact this.1
theorem right_at : ∀ (f : Fo), (∀ j k a b c d q, j < f.len → f.drop j = .cons k a b c d q (f.drop (j + 1)) → nodeOk k (z4 a b c d) q.len = true ∧ q.right = true) → f.right = true
  | .nil, _ => rfl
  | .cons k a b c d q r, h => by
    have h0 := h 0 k a b c d q (by simp [Fo.len]) (by simp only [Fo.drop])
    have hr := right_at r fun j k' a' b' c' d' q' hj he => h (j + 1) k' a' b' c' d' q' (by simp only [Fo.len]; omega) (by simp only [Fo.drop]; exact he)
    simp only [Fo.right, Bool.and_eq_true]
    exact ⟨⟨h0.1, h0.2⟩, hr⟩
/-- All trees are asked, as long as they are right. -/
def firstR (f : Fo) (i : Nat) : Prop := ∀ j k a b c d q, j < i → f.drop j = .cons k a b c d q (f.drop (j + 1)) → nodeOk k (z4 a b c d) q.len = true ∧ q.right = true
end Fk
