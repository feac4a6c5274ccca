/- Contracts: the sets of trees. -/
import Derived.Test.YtpgjpgecgibklaaTT
import Derived.Test.YtpgjpgecgibklaaC0
set_option linter.unusedVariables false
set_option linter.unusedSimpArgs false
set_option maxRecDepth 4000
namespace Fk
open Go Go.Proofs Go.RowKit
def nodeS (k a b c d : Int) : List Q4 := if k = 1 then [(a, b, c, d)] else []
def Fo.sets : Fo → List Q4
  | .nil => []
  | .cons k a b c d q r => nodeS k a b c d ++ (q.sets ++ r.sets)
theorem nodeS_le (k a b c d : Int) : (nodeS k a b c d).length ≤ 1 := by unfold nodeS; split <;> simp
theorem Fo.sets_le : ∀ fo : Fo, fo.sets.length ≤ fo.size
  | .nil => Nat.le_refl _
  | .cons k a b c d q r => by
    have := nodeS_le k a b c d
    have := q.sets_le
    have := r.sets_le
    simp only [Fo.sets, Fo.size, List.length_append]
    omega
theorem Md.own {α : Type} {w0 w w' : World} {e : TypeId} {size : Nat} {enc : α → List Value} {a : Option Addr} {c : Nat} {l : List α} (h0 : Md [] w0 w) (ho : OwnL w w0.heap.size e size enc a c l) (h : Md (a.map (·.block)).toList w w') : Md [] w0 w' :=
  h0.old h fun d hd => by
    cases a with
    | none => simp at hd
    | some A => simp at hd; rw [hd]; exact (ho.lt rfl).1
theorem f145_ok : ∀ (s : Nat) (fo : Fo) (sa : Option Addr) (sc : Nat) (w : World), fo.size ≤ s → RepF w sa 0 fo → fo.len < 2 ^ 63 → fo.size ≤ 2 ^ 40 →
    Ct Try.prog 145 #[.slice sa fo.len sc] w
      fun v w' => (∃ a c, v = .slice a fo.sets.length c ∧ OwnS w' w.heap.size a c fo.sets) ∧ Md [] w w' := by
  intro s
  induction s with
  | zero => ?_
  | succ s ih => ?_
  all_goals
    intro fo sa sc w hs hr hl hbig
    apply f145_in
    refine Bd_in fun x1 hx1 => ?_
    subst hx1
    refine LoopP_in (fun m us vs w' => ∃ (i : Nat) (r : Fo) (a : Option Addr) (c : Nat) (l : List Q4), us = [.slice a l.length c, .int .i64 i] ∧ vs = [] ∧ m = r.len ∧ i + r.len = fo.len ∧ l.length + r.size ≤ fo.size ∧ r.size ≤ fo.size ∧ RepF w sa i r ∧ Md [] w w' ∧
        OwnS w' w.heap.size a c l ∧ fo.sets = l ++ r.sets)
      fo.len ⟨0, fo, none, 0, [], rfl, rfl, rfl, by omega, by simp, by omega, hr, Md.refl _ _, OwnL.nil .., rfl⟩ ?_
    rintro m us vs w5 ⟨i, r, a, c, l, rfl, rfl, rfl, hi, hls, hrs, hri, h5, ho5, hset⟩
    refine opL_in <| opI_in <| Bd_in fun b10 hb10 => If_in (fun hb => ?_) fun hb => ?_
    rotate_left
    · subst hb10
      simp only [decide_eq_false_iff_not, Int.ofNat_lt] at hb
      cases r with
      | nil => simp only [Fo.sets, List.append_nil] at hset; rw [hset]; exact ⟨⟨a, c, rfl, ho5⟩, h5⟩
      | cons => simp only [Fo.len] at hi; omega
    subst hb10
    simp only [decide_eq_true_eq, Int.ofNat_lt] at hb
    cases r with
    | nil => simp [Fo.len] at hi; omega
    | cons k' a' b' c' d' q' r' => ?_
    obtain ⟨B, sa', sc', rfl, hc', hql, hq, hr'⟩ := hri.at
    simp only [Fo.len, Fo.size, Fo.sets] at hi hrs hls hset
  · omega
  · refine ⟨⟨by omega, by omega, rfl⟩, ?_⟩
    refine ReC.ld (hc'.md h5) ?_
    intro n25 hn25
    have hS := q'.sets_le
    have hN := nodeS_le k' a' b' c' d'
    refine Jn_in (fun us vs w' => ∃ (a : Option Addr) (c : Nat), us = [.slice a (l ++ nodeS k' a' b' c' d').length c] ∧ Md [] w w' ∧ n25 < w'.heap.size ∧ OwnS w' w.heap.size a c (l ++ nodeS k' a' b' c' d') ∧ ∀ A, a = some A → A.block ≠ n25) ?_ ?_
    · rintro us vs w28 ⟨a1, c1, rfl, h28, hn28, ho28, hA⟩
      refine opL_in ?_
      refine (ih q' _ _ _ (by omega) (hq.md h28) hql (by omega)).call (by simpa using hn28) ?_
      rintro v32 w33 ⟨a34, c34, rfl, ho34⟩ h33
      refine opL_in ?_
      have ho33 := ho28.md h33
      have hw33 := h28.trans h33
      refine app_own rowT43 enc4 ho33 ho34 hw33.size (by simpa using Nat.lt_of_lt_of_le hn28 h33.size) (by simpa using hA) ?_ ?_ ?_
      · rw [List.length_append]; simp only [maxLen]; omega
      · rw [List.length_append]; omega
      · intro a39 c39 w38 ho38 hm38 _
        refine opL_in <| Bd_in fun x42 hx42 => ?_
        have e : x42 = ((i + 1 : Nat) : Int) := by rw [hx42, IntKind.wrap_i64]; omega
        subst e
        exact ⟨r'.len, by simp [Fo.len], i + 1, r', a39, c39, _, rfl, rfl, rfl, by omega, by simp only [List.length_append]; omega, by omega, hr', hw33.own ho33 hm38, ho38, by rw [hset]; simp⟩
    · refine Bd_in fun b44 hb44 => If_in (fun hk w45 h45 hL45 => ?_) fun hk w53 h53 hL53 => ?_
      · have hk1 : k' = 1 := by rw [hb44] at hk; simpa using hk
        have hw45 := h5.old h45 (by simpa using Nat.le_trans h5.size hn25)
        have ho45 := ho5.mdN h45 (by simpa using hn25)
        have hn45 : n25 < w45.heap.size := by simpa using hL45
        refine app_one rowT43 enc4 (a', b', c', d') rfl ho45 hw45.size hL45 ?_ ?_ ?_ ?_
        · intro b hb A hA
          have := (ho5.lt hA).2
          simp at hb; omega
        · simp [maxLen]; omega
        · omega
        · intro a50 c50 w49 ho49 hm49 hA
          have e : nodeS k' a' b' c' d' = [(a', b', c', d')] := by simp [nodeS, hk1]
          refine opL_in ?_
          rw [e]
          refine ⟨a50, c50, rfl, hw45.own ho45 hm49, Nat.lt_of_lt_of_le hn45 hm49.size, ho49, fun A hA' => ?_⟩
          rcases hA A hA' with h | h
          · have := (ho5.lt h).2
            omega
          · omega
      · have hk1 : k' ≠ 1 := by rw [hb44] at hk; simpa using hk
        have e : l ++ nodeS k' a' b' c' d' = l := by simp [nodeS, hk1]
        rw [e]
        refine ⟨a, c, rfl, h5.old h53 (by simpa using Nat.le_trans h5.size hn25), hL53 _ (by simp), ho5.mdN h53 (by simpa using hn25), fun A hA => ?_⟩
        have := (ho5.lt hA).2
        omega

theorem f148_ok : ∀ (s : Nat) (fo : Fo) (k a b c d : Int) (sa : Option Addr) (sc : Nat) (w : World), fo.size ≤ s → RepF w sa 0 fo → fo.len < 2 ^ 63 → fo.size ≤ 2 ^ 40 →
    Ct Try.prog 148 #[.agg #[.int .u8 k, .int .u64 a, .int .u64 b, .int .u64 c, .int .u64 d, .slice sa fo.len sc]] w
      fun v w' => (∃ A C, v = .slice A (nodeS k a b c d ++ fo.sets).length C ∧ OwnS w' w.heap.size A C (nodeS k a b c d ++ fo.sets)) ∧ Md [] w w' := by
  intro s
  induction s with
  | zero => ?_
  | succ s ih => ?_
  all_goals
    intro fo k a b c d sa sc w hs hr hl hbig
    apply f148_in
    intro n1 hn1
    have hN := nodeS_le k a b c d
    refine Jn_in (fun us vs w' => ∃ (A : Option Addr) (C : Nat), us = [.slice A (nodeS k a b c d).length C] ∧ Md [] w w' ∧ n1 < w'.heap.size ∧ OwnS w' w.heap.size A C (nodeS k a b c d) ∧ ∀ B, A = some B → B.block ≠ n1) ?_ ?_
    rotate_left
    · refine Bd_in fun b44 hb44 => If_in (fun hk w45 h45 hL45 => ?_) fun hk w53 h53 hL53 => ?_
      · have hk1 : k = 1 := by rw [hb44] at hk; simpa using hk
        have hn45 : n1 < w45.heap.size := by simpa using hL45
        refine app_one rowT43 enc4 (a, b, c, d) (base := w.heap.size) (a := none) (c := 0) (l := []) rfl (OwnL.nil ..) h45.size hL45 (by simp) (by simp [maxLen]) (by simp) ?_
        intro a50 c50 w49 ho49 hm49 hA
        have e : nodeS k a b c d = [(a, b, c, d)] := by simp [nodeS, hk1]
        refine opL_in ?_
        rw [e]
        refine ⟨a50, c50, rfl, h45.trans (by simpa using hm49), Nat.lt_of_lt_of_le hn45 hm49.size, ho49, fun A hA' => ?_⟩
        rcases hA A hA' with h | h
        · cases h
        · omega
      · have hk1 : k ≠ 1 := by rw [hb44] at hk; simpa using hk
        have e : nodeS k a b c d = [] := by simp [nodeS, hk1]
        rw [e]
        exact ⟨none, 0, rfl, h53, hL53 _ (by simp), OwnL.nil .., by simp⟩
    rintro us vs w4 ⟨A, C, rfl, h4, hn4, ho4, hA4⟩
    refine opL_in ?_
    refine LoopP_in (fun m us vs w' => ∃ (i : Nat) (r : Fo) (A : Option Addr) (C : Nat) (l : List Q4), us = [.slice A l.length C, .int .i64 i] ∧ vs = [] ∧ m = r.len ∧ i + r.len = fo.len ∧ l.length + r.size ≤ fo.size + 1 ∧ r.size ≤ fo.size ∧ RepF w sa i r ∧ Md [] w w' ∧
        n1 < w'.heap.size ∧ (∀ B, A = some B → B.block ≠ n1) ∧ OwnS w' w.heap.size A C l ∧ nodeS k a b c d ++ fo.sets = l ++ r.sets)
      fo.len ⟨0, fo, A, C, _, rfl, rfl, rfl, by omega, by omega, by omega, hr, h4, hn4, hA4, ho4, rfl⟩ ?_
    rintro m us vs w5 ⟨i, r, A, C, l, rfl, rfl, rfl, hi, hls, hrs, hri, h5, hn5, hA5, ho5, hset⟩
    refine opL_in <| opI_in <| Bd_in fun x16 hx16 => Bd_in fun b10 hb10 => If_in (fun hb => ?_) fun hb => ?_
    rotate_left
    · subst hb10; subst hx16
      simp only [decide_eq_false_iff_not, Int.ofNat_lt] at hb
      cases r with
      | nil => simp only [Fo.sets, List.append_nil] at hset; rw [hset]; exact ⟨⟨A, C, rfl, ho5⟩, h5⟩
      | cons => simp only [Fo.len] at hi; omega
    subst hb10; subst hx16
    simp only [decide_eq_true_eq, Int.ofNat_lt] at hb
    cases r with
    | nil => simp [Fo.len] at hi; omega
    | cons k' a' b' c' d' q' r' => ?_
    obtain ⟨B, sa', sc', rfl, hc', hql, hq, hr'⟩ := hri.at
    simp only [Fo.len, Fo.size, Fo.sets] at hi hrs hls hset
  · omega
  · refine ⟨⟨by omega, by omega, rfl⟩, ?_⟩
    refine ReC.ld (hc'.md h5) ?_
    have hS := q'.sets_le
    have hN' := nodeS_le k' a' b' c' d'
    refine (ih q' k' a' b' c' d' _ _ _ (by omega) (hq.md h5) hql (by omega)).call (by simpa using hn5) ?_
    rintro v32 w33 ⟨a34, c34, rfl, ho34⟩ h33
    refine opL_in ?_
    have ho33 := ho5.md h33
    have hw33 := h5.trans h33
    have hn33 := Nat.lt_of_lt_of_le hn5 h33.size
    refine app_own rowT43 enc4 ho33 ho34 hw33.size (by simpa using hn33) (by simpa using hA5) ?_ ?_ ?_
    · rw [List.length_append]; simp only [maxLen]; omega
    · rw [List.length_append]; omega
    · intro a39 c39 w38 ho38 hm38 hA
      refine opL_in <| Bd_in fun x42 hx42 => ?_
      have e : x42 = ((i + 1 : Nat) : Int) := by rw [hx42, IntKind.wrap_i64]; omega
      subst e
      refine ⟨r'.len, by simp [Fo.len], i + 1, r', a39, c39, _, rfl, rfl, rfl, by omega, by simp only [List.length_append]; omega, by omega, hr', hw33.own ho33 hm38, Nat.lt_of_lt_of_le hn33 hm38.size, fun B' hB' => ?_, ho38, by rw [hset]; simp⟩
      rcases hA B' hB' with h | h
      · exact hA5 _ h
      · omega

/-- What is done to a row of one's own, again. -/
theorem Md.row {w w' w'' : World} {pa a : Option Addr} (h : Md (pa.map (·.block)).toList w w') (h' : Md (a.map (·.block)).toList w' w'') (hA : ∀ A, a = some A → pa = some A ∨ w.heap.size ≤ A.block) : Md (pa.map (·.block)).toList w w'' := by
  refine ⟨h'.os.trans h.os, h'.tape.trans h.tape, h'.output.trans h.output, Nat.le_trans h.size h'.size, fun k hk hm => (h'.blk k (Nat.lt_of_lt_of_le hk h.size) fun hm' => ?_).trans (h.blk k hk hm)⟩
  cases a with
  | none => simp at hm'
  | some A =>
    simp at hm'
    rcases hA A rfl with e | e
    · rw [e] at hm; simp at hm; exact hm hm'
    · omega
theorem f49_ok : ∀ (s : Nat) (fo : Fo) (k a b c d : Int) (sa : Option Addr) (sc : Nat) (base : Nat) (pa : Option Addr) (pc : Nat) (l0 : List Q4) (w0 w : World), fo.size ≤ s → RepF w0 sa 0 fo → fo.len < 2 ^ 63 → l0.length + fo.size ≤ 2 ^ 40 →
    Md [] w0 w → w0.heap.size ≤ base → base ≤ w.heap.size → OwnS w base pa pc l0 →
    Ct Try.prog 49 #[.agg #[.int .u8 k, .int .u64 a, .int .u64 b, .int .u64 c, .int .u64 d, .slice sa fo.len sc], .slice pa l0.length pc] w
      fun v w' => (∃ A C, v = .slice A (l0 ++ (nodeS k a b c d ++ fo.sets)).length C ∧ OwnS w' base A C (l0 ++ (nodeS k a b c d ++ fo.sets)) ∧ ∀ B, A = some B → pa = some B ∨ w.heap.size ≤ B.block) ∧ Md (pa.map (·.block)).toList w w' := by
  intro s
  induction s with
  | zero => ?_
  | succ s ih => ?_
  all_goals
    intro fo k a b c d sa sc base pa pc l0 w0 w hs hr hl hbig h0 hb0 hbase ho
    apply f49_in
    intro n1 hn1
    have hN := nodeS_le k a b c d
    have hpa : ∀ B, pa = some B → base ≤ B.block ∧ B.block < w.heap.size := fun B hB => ho.lt hB
    refine Jn_in (fun us vs w' => ∃ (A : Option Addr) (C : Nat), us = [.slice A (l0 ++ nodeS k a b c d).length C] ∧ Md (pa.map (·.block)).toList w w' ∧ n1 < w'.heap.size ∧ OwnS w' base A C (l0 ++ nodeS k a b c d) ∧ ∀ B, A = some B → B.block ≠ n1 ∧ (pa = some B ∨ w.heap.size ≤ B.block)) ?_ ?_
    rotate_left
    · refine Bd_in fun b44 hb44 => If_in (fun hk w45 h45 hL45 => ?_) fun hk w53 h53 hL53 => ?_
      · have hk1 : k = 1 := by rw [hb44] at hk; simpa using hk
        have hn45 : n1 < w45.heap.size := by simpa using hL45
        refine app_one rowT43 enc4 (a, b, c, d) rfl (ho.md h45) (Nat.le_trans hbase h45.size) hL45 ?_ (by simp [maxLen]; omega) (by omega) ?_
        · intro b hb A hA
          have := (hpa A hA).2
          simp at hb; omega
        intro a50 c50 w49 ho49 hm49 hA
        have e : nodeS k a b c d = [(a, b, c, d)] := by simp [nodeS, hk1]
        refine opL_in ?_
        rw [e]
        have h45' : Md (pa.map (·.block)).toList w w45 := h45.mono (by simp)
        refine ⟨a50, c50, rfl, h45'.row hm49 (fun A hA => .inl hA), Nat.lt_of_lt_of_le hn45 hm49.size, ho49, fun A hA' => ?_⟩
        rcases hA A hA' with h | h
        · have := (hpa A h).2
          exact ⟨by omega, .inl h⟩
        · exact ⟨by omega, .inr (by have := h45.size; omega)⟩
      · have hk1 : k ≠ 1 := by rw [hb44] at hk; simpa using hk
        have e : l0 ++ nodeS k a b c d = l0 := by simp [nodeS, hk1]
        rw [e]
        exact ⟨pa, pc, rfl, h53.mono (by simp), hL53 _ (by simp), ho.md h53, fun B hB => ⟨by have := (hpa B hB).2; omega, .inl hB⟩⟩
    rintro us vs w4 ⟨A, C, rfl, h4, hn4, ho4, hA4⟩
    refine opL_in <| Bd_in fun x8 hx8 => ?_
    subst hx8
    refine LoopP_in (fun m us vs w' => ∃ (i : Nat) (r : Fo) (A : Option Addr) (C : Nat) (l : List Q4), us = [.slice A l.length C, .int .i64 i] ∧ vs = [] ∧ m = r.len ∧ i + r.len = fo.len ∧ l.length + r.size ≤ l0.length + fo.size + 1 ∧ r.size ≤ fo.size ∧ RepF w0 sa i r ∧ Md (pa.map (·.block)).toList w w' ∧
        n1 < w'.heap.size ∧ (∀ B, A = some B → B.block ≠ n1 ∧ (pa = some B ∨ w.heap.size ≤ B.block)) ∧ OwnS w' base A C l ∧ l0 ++ (nodeS k a b c d ++ fo.sets) = l ++ r.sets)
      fo.len ⟨0, fo, A, C, _, rfl, rfl, rfl, by omega, by rw [List.length_append]; omega, by omega, hr, h4, hn4, hA4, ho4, by simp⟩ ?_
    rintro m us vs w5 ⟨i, r, A, C, l, rfl, rfl, rfl, hi, hls, hrs, hri, h5, hn5, hA5, ho5, hset⟩
    refine opL_in <| opI_in <| Bd_in fun b10 hb10 => If_in (fun hb => ?_) fun hb => ?_
    rotate_left
    · subst hb10
      simp only [decide_eq_false_iff_not, Int.ofNat_lt] at hb
      cases r with
      | nil => simp only [Fo.sets, List.append_nil] at hset; rw [hset]; exact ⟨⟨A, C, rfl, ho5, fun B hB => (hA5 B hB).2⟩, h5⟩
      | cons => simp only [Fo.len] at hi; omega
    subst hb10
    simp only [decide_eq_true_eq, Int.ofNat_lt] at hb
    have h05 : Md [] w0 w5 := h0.old h5 fun d hd => by
      cases hp : pa with
      | none => simp [hp] at hd
      | some B => simp [hp] at hd; rw [hd]; exact Nat.le_trans hb0 (hpa B hp).1
    cases r with
    | nil => simp [Fo.len] at hi; omega
    | cons k' a' b' c' d' q' r' => ?_
    obtain ⟨B, sa', sc', rfl, hc', hql, hq, hr'⟩ := hri.at
    simp only [Fo.len, Fo.size, Fo.sets] at hi hrs hls hset
  · omega
  · refine ⟨⟨by omega, by omega, rfl⟩, ?_⟩
    refine ReC.ld (hc'.md h05) ?_
    have hS := q'.sets_le
    have hN' := nodeS_le k' a' b' c' d'
    intro n32 hn32 w33 h33 hL33
    have ho33 := ho5.mdN h33 (by simpa using hn32)
    have h33' : Md [] w5 w33 := h33.fresh (by simpa using hn32)
    refine (ih q' k' a' b' c' d' _ _ base A C l w0 w33 (by omega) hq hql (by omega) (h05.trans h33') hb0 (by have := h5.size; have := h33.size; omega) ho33).callD hL33 ?_ ?_
    · intro b hb hmem
      cases A with
      | none => simp at hmem
      | some A =>
        simp at hmem hb
        have := (ho5.lt rfl).2
        have := (hA5 A rfl).1
        rcases hb with rfl | rfl <;> omega
    rintro v34 w35 ⟨a36, c36, rfl, ho35, hA36⟩ h35
    refine opL_in <| Bd_in fun x39 hx39 => ?_
    have e : x39 = ((i + 1 : Nat) : Int) := by rw [hx39, IntKind.wrap_i64]; omega
    subst e
    have hn35 : n1 < w35.heap.size := Nat.lt_of_lt_of_le (hL33 n1 (by simp)) h35.size
    have h5' : Md (pa.map (·.block)).toList w w33 := h5.trans (h33'.mono (by simp))
    refine ⟨r'.len, by simp [Fo.len], i + 1, r', a36, c36, _, rfl, rfl, rfl, by omega, by simp only [List.length_append]; omega, by omega, hr', h5'.row h35 (fun B' hB' => (hA5 B' hB').2), hn35, fun B' hB' => ?_, ho35, by rw [hset]; simp⟩
    rcases hA36 B' hB' with h | h
    · exact hA5 B' h
    · have := hL33 n1 (by simp)
      have := h5.size
      have := h33.size
      exact ⟨by omega, .inr (by omega)⟩
end Fk
