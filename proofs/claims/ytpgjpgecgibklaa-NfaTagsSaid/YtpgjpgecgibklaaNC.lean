/- First machines: several texts, joined. -/
import Derived.Test.YtpgjpgecgibklaaNB
import Derived.Test.YtpgjpgecgibklaaVO
import Derived.Laws.Strings2
import Derived.Test.YtpgjpgecgibklaaC10
/- First machines: how many states trees make, with a cap and without. -/
set_option linter.unusedVariables false
set_option linter.unusedSimpArgs false
namespace Fk
open Go Go.Proofs Go.RowKit
def cntK (k : Int) (n s : Nat) : Nat := (if k = 1 ∨ k = 4 then 1 else if k = 3 then n - 1 else 0) + s
/-- How many states trees make. -/
def Fo.cnt : Fo → Nat
  | .nil => 0
  | .cons k _ _ _ _ q r => cntK k q.len q.cnt + r.cnt
def Fo.cnt1 : Fo → Nat
  | .nil => 0
  | .cons k _ _ _ _ q r => cntK k q.len q.cnt
theorem Fo.cnt_le : ∀ f : Fo, f.cnt + f.len ≤ 2 * f.size
  | .nil => by simp [Fo.cnt, Fo.len, Fo.size]
  | .cons k _ _ _ _ q r => by
    have h1 := Fo.cnt_le q
    have h2 := Fo.cnt_le r
    simp only [Fo.cnt, Fo.len, Fo.size, cntK]
    split
    · omega
    · split <;> omega
theorem len_zero : ∀ {f : Fo}, f.len = 0 → f = .nil
  | .nil, _ => rfl
  | .cons _ _ _ _ _ _ r, h => by simp [Fo.len] at h
theorem nodeOk_inv {k : Int} {z : Bool} {n : Nat} (h : nodeOk k z n = true) : (k = 0 ∧ n = 0 ∧ z = true) ∨ (k = 1 ∧ n = 0 ∧ z = false) ∨ (k = 2 ∧ 2 ≤ n ∧ z = true) ∨ (k = 3 ∧ 2 ≤ n ∧ z = true) ∨ (k = 4 ∧ n = 1 ∧ z = true) := by
  unfold nodeOk at h
  cases z <;> simp at h ⊢ <;> omega
theorem mst_min (most : Nat) (l : List Ns) (x : Ns) (h : l.length ≤ most + 1) : (mst most l x).length = min (l.length + 1) (most + 1) := by
  unfold mst
  split
  · simp; omega
  · omega
theorem tw_min (most : Nat) : ∀ f : Fo, f.right = true →
    (∀ p : List Ns × Int, p.1.length ≤ most + 1 → ((tw most f).cat p).1.length = min (p.1.length + f.cnt) (most + 1)) ∧
    (∀ (to : Int) (l : List Ns), l.length ≤ most + 1 → ((tw most f).alt to l).1.length = min (l.length + (f.cnt + (f.len - 1))) (most + 1) ∧ (((tw most f).alt to l).2 = none ↔ f.len = 0)) ∧
    (∀ p : List Ns × Int, p.1.length ≤ most + 1 → ((tw most f).one p).1.length = min (p.1.length + f.cnt1) (most + 1))
  | .nil, _ => by
    refine ⟨fun p h => ?_, fun to l h => ⟨?_, by simp [tw, Fo.len]⟩, fun p h => ?_⟩
    · show p.1.length = _; simp [Fo.cnt]; omega
    · show l.length = _; simp [Fo.cnt, Fo.len]; omega
    · show p.1.length = _; simp [Fo.cnt1]; omega
  | .cons k a b c d q r, hr => by
    simp only [Fo.right, Bool.and_eq_true] at hr
    obtain ⟨q1, q2, q3⟩ := tw_min most q hr.1.2
    obtain ⟨r1, r2, r3⟩ := tw_min most r hr.2
    have hn := nodeOk_inv hr.1.1
    have one : ∀ p : List Ns × Int, p.1.length ≤ most + 1 → (twOne most k a b c d (tw most q) p).1.length = min (p.1.length + cntK k q.len q.cnt) (most + 1) := by
      intro p hp
      unfold twOne
      split
      · omega
      · rename_i hfull
        rcases hn with ⟨rfl, h2, _⟩ | ⟨rfl, h2, _⟩ | ⟨rfl, h2, _⟩ | ⟨rfl, h2, _⟩ | ⟨rfl, h2, _⟩
        · have := len_zero h2; subst this
          simp [cntK, Fo.cnt]; omega
        · have := len_zero h2; subst this
          simp only [if_true, cntK, Fo.cnt]
          have := mst_min most p.1 ⟨1, a, b, c, d, p.2, 0, 0⟩ hp
          simpa [pst] using this
        · simp [cntK]; have := q1 p hp; simpa using this
        · simp [cntK]
          rw [(q2 p.2 p.1 hp).1]
          omega
        · have hq : q.cnt1 = q.cnt := by
            cases q with
            | nil => simp [Fo.len] at h2
            | cons k' a' b' c' d' q' r' =>
              have hr' : r' = .nil := len_zero (by simp [Fo.len] at h2; omega)
              subst hr'
              simp [Fo.cnt, Fo.cnt1]
          simp [cntK, setA_len]
          have h1 := mst_min most p.1 (spl 0 p.2) hp
          have h3 := q3 (pst most p.1 (spl 0 p.2)) (by simp only [pst]; omega)
          simp only [pst] at h3 ⊢
          rw [h3, h1, hq]
          omega
    refine ⟨fun p hp => ?_, fun to l hl => ⟨?_, ?_⟩, fun p hp => one p hp⟩
    · have h1 := r1 p hp
      have h2 := one ((tw most r).cat p) (by omega)
      show (twOne most k a b c d (tw most q) ((tw most r).cat p)).1.length = _
      rw [h2, h1]
      simp only [Fo.cnt]
      omega
    · have h1 := r2 to l hl
      have h2 := one (((tw most r).alt to l).1, to) (by simp only; omega)
      simp only at h2
      show (twAlt most _ _ to l).1.length = _
      unfold twAlt
      simp only [Fo.cnt, Fo.len]
      cases hq : ((tw most r).alt to l).2 with
      | none =>
        have := h1.2.1 hq
        have hrn := len_zero this
        subst hrn
        simp only
        rw [h2, h1.1]
        simp [Fo.len, Fo.cnt]; omega
      | some at' =>
        have : ¬ r.len = 0 := fun h => by rw [h1.2.2 h] at hq; cases hq
        simp only
        have h3 := mst_min most (twOne most k a b c d (tw most q) (((tw most r).alt to l).1, to)).1 (spl (twOne most k a b c d (tw most q) (((tw most r).alt to l).1, to)).2 at') (by omega)
        show (mst most _ _).length = _
        rw [h3, h2, h1.1]
        omega
    · show (twAlt most _ _ to l).2 = none ↔ _
      unfold twAlt
      simp only [Fo.len]
      cases ((tw most r).alt to l).2 <;> simp
theorem mst_agree {most M : Nat} {l : List Ns} (x : Ns) (h : l.length ≤ most) (hM : most ≤ M) : mst most l x = mst M l x := by
  unfold mst
  rw [if_pos h, if_pos (by omega)]
/-- Where the cap is not met it does not matter. -/
theorem tw_agree {most M : Nat} (hM : most ≤ M) : ∀ f : Fo, f.right = true →
    (∀ p : List Ns × Int, p.1.length + f.cnt ≤ most → (tw most f).cat p = (tw M f).cat p) ∧
    (∀ (to : Int) (l : List Ns), l.length + (f.cnt + (f.len - 1)) ≤ most → (tw most f).alt to l = (tw M f).alt to l) ∧
    (∀ p : List Ns × Int, p.1.length + f.cnt1 ≤ most → (tw most f).one p = (tw M f).one p)
  | .nil, _ => ⟨fun p h => rfl, fun to l h => rfl, fun p h => rfl⟩
  | .cons k a b c d q r, hr => by
    have hr0 := hr
    simp only [Fo.right, Bool.and_eq_true] at hr
    obtain ⟨q1, q2, q3⟩ := tw_agree hM q hr.1.2
    obtain ⟨r1, r2, r3⟩ := tw_agree hM r hr.2
    have hn := nodeOk_inv hr.1.1
    have one : ∀ p : List Ns × Int, p.1.length + cntK k q.len q.cnt ≤ most → twOne most k a b c d (tw most q) p = twOne M k a b c d (tw M q) p := by
      intro p hp
      unfold twOne
      rw [if_neg (show ¬ p.1.length > most by omega), if_neg (show ¬ p.1.length > M by omega)]
      rcases hn with ⟨rfl, h2, _⟩ | ⟨rfl, h2, _⟩ | ⟨rfl, h2, _⟩ | ⟨rfl, h2, _⟩ | ⟨rfl, h2, _⟩
      · simp
      · simp only [if_true]
        unfold pst
        rw [mst_agree _ (by omega) hM]
      · simp [cntK] at hp ⊢; exact q1 p hp
      · simp [cntK] at hp ⊢
        have := q2 p.2 p.1 (by omega)
        rw [this]
        exact ⟨rfl, rfl⟩
      · have hq : q.cnt1 = q.cnt := by
          cases q with
          | nil => simp [Fo.len] at h2
          | cons k' a' b' c' d' q' r' =>
            have hr' : r' = .nil := len_zero (by simp [Fo.len] at h2; omega)
            subst hr'
            simp [Fo.cnt, Fo.cnt1]
        simp [cntK] at hp ⊢
        have h1 : pst most p.1 (spl 0 p.2) = pst M p.1 (spl 0 p.2) := by unfold pst; rw [mst_agree _ (by omega) hM]
        have h2 := mst_min M p.1 (spl 0 p.2) (by omega)
        rw [h1]
        have h3 := q3 (pst M p.1 (spl 0 p.2)) (by simp only [pst]; omega)
        rw [h3]
        exact ⟨rfl, rfl⟩
    refine ⟨fun p hp => ?_, fun to l hl => ?_, fun p hp => one p hp⟩
    · simp only [Fo.cnt] at hp
      have h1 := (tw_min M r hr.2).1 p (by omega)
      show twOne most k a b c d (tw most q) ((tw most r).cat p) = twOne M k a b c d (tw M q) ((tw M r).cat p)
      rw [r1 p (by omega)]
      exact one _ (by omega)
    · simp only [Fo.cnt, Fo.len] at hl
      have h1 := (tw_min M r hr.2).2.1 to l (by omega)
      show twAlt most _ _ to l = twAlt M _ _ to l
      unfold twAlt
      dsimp only
      rw [r2 to l (by omega)]
      have h2 := one (((tw M r).alt to l).1, to) (by simp only; omega)
      rw [h2]
      have h3 := (tw_min M (.cons k a b c d q r) hr0).2.2 (((tw M r).alt to l).1, to) (by simp only; omega)
      change (twOne M k a b c d (tw M q) (((tw M r).alt to l).1, to)).1.length = _ at h3
      simp only [Fo.cnt1] at h3
      cases hq : ((tw M r).alt to l).2 with
      | none => rfl
      | some at' =>
        have : ¬ r.len = 0 := fun h => by rw [h1.2.2 h] at hq; cases hq
        simp only [pst]
        rw [mst_agree _ (by omega) hM]
theorem drop_cnt {f : Fo} {j : Nat} {k a b c d : Int} {q : Fo} (he : f.drop j = .cons k a b c d q (f.drop (j + 1))) : (f.drop j).cnt = cntK k q.len q.cnt + (f.drop (j + 1)).cnt := by rw [he]; rfl
theorem drop_cnt_le : ∀ (f : Fo) (j : Nat), (f.drop j).cnt ≤ f.cnt
  | f, 0 => by simp [Fo.drop]
  | .nil, j + 1 => by simp [Fo.drop]
  | .cons _ _ _ _ _ _ r, j + 1 => by have := drop_cnt_le r j; simp only [Fo.drop, Fo.cnt]; omega
end Fk

/- First machines: the document's Count and toward. -/
set_option linter.unusedVariables false
set_option linter.unusedSimpArgs false
set_option maxRecDepth 100000
set_option maxHeartbeats 2000000
namespace Fk
open Go Go.Proofs Go.RowKit
theorem cntK_le (k : Int) (q : Fo) : cntK k q.len q.cnt ≤ 2 * q.size + 1 := by
  have := q.cnt_le
  unfold cntK
  split
  · omega
  · split <;> omega
theorem f181_ok : ∀ (s : Nat) (q : Fo) (k a b c d : Int) (sa : Option Addr) (sc : Nat) (w : World), q.size ≤ s → q.size ≤ 10000 → RepF w sa 0 q → q.len < 2 ^ 63 → nodeOk k (z4 a b c d) q.len = true → q.right = true →
    Ct Try.prog 181 #[.agg #[.int .u8 k, .int .u64 a, .int .u64 b, .int .u64 c, .int .u64 d, .slice sa q.len sc]] w fun v w' => v = .int .i64 (cntK k q.len q.cnt) ∧ Md [] w w' := by
  intro s
  induction s with
  | zero =>
    intro q k a b c d sa sc w hs
    cases q with
    | nil =>
      intro _ hr hl hn hq
      apply f181_in
      intro n1 hn1
      refine Jn_in (fun us vs w' => us = [.int .i64 ((cntK k 0 0 : Nat) : Int)] ∧ Md [] w w') ?_ ?_
      · rintro us vs w4 ⟨rfl, m4⟩
        refine opI_in <| Jn_in (fun us vs w' => us = [.int .i64 ((cntK k 0 0 : Nat) : Int)] ∧ Md [] w w') ?_ ?_
        · rintro us vs w8 ⟨rfl, m8⟩
          refine opI_in <| LoopP_in (fun mm us vs w' => us = [.int .i64 ((cntK k 0 0 : Nat) : Int), .int .i64 0, .int .i64 0] ∧ Md [] w w') 0 ⟨rfl, m8⟩ ?_
          rintro mm us vs w13 ⟨rfl, m13⟩
          exact opI_in <| opI_in <| opI_in <| Bd_e rfl <| Bd_in fun b18 hb18 => If_in (fun hb => by rw [hb18] at hb; simp [Fo.len] at hb) fun hb => ⟨rfl, m13⟩
        · refine Bd_in fun b40 hb40 => If_in (fun hb => ?_) fun hb => ⟨rfl, m4⟩
          have hk : k = 3 := by rw [hb40] at hb; simpa using hb
          subst hk
          simp [nodeOk, Fo.len] at hn
      · refine Bd_in fun b44 hb44 => Bd_in fun b45 hb45 => Bd_in fun b46 hb46 => If_in (fun hb w47 h47 _ => ?_) fun hb w47 h47 _ => ?_
        · have : k = 1 ∨ k = 4 := by
            rw [hb46, hb44, hb45] at hb
            by_cases c1 : k = 1
            · exact .inl c1
            · right; simpa [c1] using hb
          exact ⟨by unfold cntK; rw [if_pos this]; rfl, h47⟩
        · have : ¬ (k = 1 ∨ k = 4) := by
            rw [hb46, hb44, hb45] at hb
            by_cases c1 : k = 1
            · simp [c1] at hb
            · simpa [c1] using hb
          have h3 : k ≠ 3 := fun e => by subst e; simp [nodeOk, Fo.len] at hn
          exact ⟨by unfold cntK; rw [if_neg this, if_neg h3]; rfl, h47⟩
    | cons => simp only [Fo.size] at hs; omega
  | succ s ih =>
    intro q k a b c d sa sc w hs hsz hr hl hn hq
    apply f181_in
    intro n1 hn1
    have hlen := q.cnt_le
    let o := (if k = 1 ∨ k = 4 then 1 else 0 : Nat)
    have hfin : ∀ (w8 : World) (x : Nat), x = cntK k q.len 0 → Md [] w w8 → n1 < w8.heap.size → LoopP (fun l10 l11 J12 w13 => opI .i64 (nthD l10 0) fun x14 => opI .i64 (nthD l10 1) fun x15 => opI .i64 (nthD l10 2) fun x16 => Bd ((q.len : Nat) : Int) fun x17 => Bd (decide (x16 < x17)) fun b18 =>
      If b18 (IxOk x16 q.len sa ∧ Ld w13 (Addr.add (adAt sa x16 6) 0) fun v19 => Ld w13 (Addr.add (adAt sa x16 6) 1) fun v20 => Ld w13 (Addr.add (adAt sa x16 6) 2) fun v21 => Ld w13 (Addr.add (adAt sa x16 6) 3) fun v22 => Ld w13 (Addr.add (adAt sa x16 6) 4) fun v23 => Ld w13 (Addr.add (adAt sa x16 6) 5) fun v24 =>
        opI .u8 v19 fun x25 => opI .u64 v20 fun x26 => opI .u64 v21 fun x27 => opI .u64 v22 fun x28 => opI .u64 v23 fun x29 => opL v24 fun a30 n31 n32 =>
        CallW Try.prog [n1] 181 #[.agg #[.int .u8 x25, .int .u64 x26, .int .u64 x27, .int .u64 x28, .int .u64 x29, .slice a30 n31 n32]] (fun v33 w34 => opI .i64 v33 fun x35 => Bd (IntKind.wrap .i64 (x14 + x35)) fun x36 => Bd (decide (x36 > 30000)) fun b37 =>
          If b37 (Value.int .i64 x36 = .int .i64 (cntK k q.len q.cnt) ∧ Md [] w w34) (Bd (IntKind.wrap .i64 (x16 + 1)) fun x38 => J12 [.int .i64 x36, .int .i64 x15, .int .i64 x38] [] w34)) w13)
        (Value.int .i64 x14 = .int .i64 (cntK k q.len q.cnt) ∧ Md [] w w13)) [.int .i64 (x : Int), .int .i64 0, .int .i64 0] [] w8 := by
      intro w8 x hx m8 hn8
      refine LoopP_in (fun mm us vs w' => ∃ (i m : Nat), us = [.int .i64 m, .int .i64 0, .int .i64 i] ∧ mm = q.len - i ∧ i ≤ q.len ∧ m + (q.drop i).cnt = cntK k q.len q.cnt ∧ Md [] w w' ∧ n1 < w'.heap.size) q.len
        ⟨0, x, rfl, rfl, by omega, by rw [hx]; simp [Fo.drop, cntK], m8, hn8⟩ ?_
      rintro mm us vs w13 ⟨i, m, rfl, hmm, hi, hc, hmd, hnn⟩
      refine opI_in <| opI_in <| opI_in <| Bd_e rfl <| Bd_in fun b18 hb18 => If_in (fun hb => ?_) fun hb => ?_
      · have hi' : i < q.len := by rw [hb18] at hb; have : (i : Int) < (q.len : Int) := of_decide_eq_true hb
                                   omega
        obtain ⟨k', a', b', c', d', q', he, hqs⟩ := Fo.drop_cons q i hi'
        obtain ⟨hn', hq'⟩ := right_pre he hq
        have hdc := drop_cnt he
        have hcl := cntK_le k q
        refine kid_ld hr hmd he hi' fun sa' sc' hql' hr' => ?_
        refine (ih q' k' a' b' c' d' sa' sc' w13 (by omega) (by omega) (hr'.md hmd) hql' hn' hq').call (by simpa using hnn) ?_
        rintro v w34 rfl m34
        have hcl' := cntK_le k' q'
        refine opI_in <| Bd_e (y := ((m + cntK k' q'.len q'.cnt : Nat) : Int)) (by rw [IntKind.wrap_i64]; omega) <| Bd_in fun b37 hb37 => If_in (fun hb => ?_) fun hb => ?_
        · rw [hb37] at hb
          have := of_decide_eq_true hb
          omega
        · refine Bd_e (y := ((i + 1 : Nat) : Int)) (by rw [IntKind.wrap_i64]; omega) ⟨q.len - (i + 1), by omega, i + 1, _, rfl, rfl, by omega, by omega, hmd.trans m34, by have := m34.size; omega⟩
      · have hil : i = q.len := by
          have : ¬ (i : Int) < (q.len : Int) := by rw [hb18] at hb; exact of_decide_eq_false hb
          omega
        subst hil
        rw [Fo.drop_all q _ (Nat.le_refl _)] at hc
        simp only [Fo.cnt, Nat.add_zero] at hc
        exact ⟨by rw [hc], hmd⟩
    refine Jn_in (fun us vs w' => us = [.int .i64 ((o : Nat) : Int)] ∧ Md [] w w' ∧ n1 < w'.heap.size) ?_ ?_
    · rintro us vs w4 ⟨rfl, m4, hn4⟩
      refine opI_in <| Jn_in (fun us vs w' => us = [.int .i64 ((cntK k q.len 0 : Nat) : Int)] ∧ Md [] w w' ∧ n1 < w'.heap.size) ?_ ?_
      · rintro us vs w8 ⟨rfl, m8, hn8⟩
        exact opI_in (hfin w8 _ rfl m8 hn8)
      · refine Bd_in fun b40 hb40 => If_in (fun hb => ?_) fun hb => ?_
        · have hk : k = 3 := by rw [hb40] at hb; simpa using hb
          subst hk
          have h2 : 2 ≤ q.len := by have := nodeOk_inv hn; omega
          refine Bd_e rfl <| Bd_e (y := ((q.len - 1 : Nat) : Int)) (by rw [IntKind.wrap_i64]; omega) ⟨by unfold cntK; simp, m4, hn4⟩
        · have hk : k ≠ 3 := by rw [hb40] at hb; simpa using hb
          refine ⟨?_, m4, hn4⟩
          show [Value.int .i64 ((o : Nat) : Int)] = _
          unfold cntK
          rw [if_neg hk]
          rfl
    · refine Bd_in fun b44 hb44 => Bd_in fun b45 hb45 => Bd_in fun b46 hb46 => If_in (fun hb w47 h47 hL47 => ?_) fun hb w47 h47 hL47 => ?_
      · have : k = 1 ∨ k = 4 := by
          rw [hb46, hb44, hb45] at hb
          by_cases c1 : k = 1
          · exact .inl c1
          · right; simpa [c1] using hb
        exact ⟨by show _ = [Value.int .i64 (((if k = 1 ∨ k = 4 then 1 else 0 : Nat) : Nat) : Int)]; rw [if_pos this]; rfl, h47, hL47 n1 (by simp)⟩
      · have : ¬ (k = 1 ∨ k = 4) := by
          rw [hb46, hb44, hb45] at hb
          by_cases c1 : k = 1
          · simp [c1] at hb
          · simpa [c1] using hb
        exact ⟨by show _ = [Value.int .i64 (((if k = 1 ∨ k = 4 then 1 else 0 : Nat) : Nat) : Int)]; rw [if_neg this]; rfl, h47, hL47 n1 (by simp)⟩
end Fk

/- First machines: the document's toward. -/
set_option linter.unusedVariables false
set_option linter.unusedSimpArgs false
set_option maxRecDepth 100000
set_option maxHeartbeats 2000000
namespace Fk
open Go Go.Proofs Go.RowKit
structure RS (w0 w : World) (a : Option Addr) (c : Nat) (l : List Ns) : Prop where
  md : Md [] w0 w
  own : OwnL w w0.heap.size 103 8 nsE a c l
/-- A row of states that one appends to, from a world on. -/
structure Sq (w0 wb : World) (pa : Option Addr) (n1 : Nat) (w : World) (a : Option Addr) (c : Nat) (l : List Ns) : Prop where
  rs : RS w0 w a c l
  md : Md (pa.map (·.block)).toList wb w
  rel : ∀ A, a = some A → pa = some A ∨ wb.heap.size ≤ A.block
  nlt : n1 < wb.heap.size
  np : ∀ A, pa = some A → A.block ≠ n1
section
variable {w0 wb w : World} {pa a : Option Addr} {n1 c : Nat} {l : List Ns}
theorem Sq.ln (S : Sq w0 wb pa n1 w a c l) : ∀ b ∈ [n1], b < w.heap.size := fun b hb => by simp at hb; subst hb; have := S.nlt; have := S.md.size; omega
theorem Sq.la (S : Sq w0 wb pa n1 w a c l) : ∀ b ∈ [n1], ∀ A, a = some A → A.block ≠ b := fun b hb A hA e => by
  simp at hb; subst hb
  rcases S.rel A hA with h | h
  · exact S.np A h e
  · have := S.nlt; omega
theorem Sq.step (S : Sq w0 wb pa n1 w a c l) {w' : World} {a' : Option Addr} {c' : Nat} {l' : List Ns} (h : RS w0 w' a' c' l') (hm : Md (a.map (·.block)).toList w w') (hA : ∀ A, a' = some A → a = some A ∨ w.heap.size ≤ A.block) : Sq w0 wb pa n1 w' a' c' l' :=
  ⟨h, S.md.row hm S.rel, fun A h1 => by
    rcases hA A h1 with h2 | h2
    · exact S.rel A h2
    · have := S.md.size; right; omega, S.nlt, S.np⟩
theorem sq_app (S : Sq w0 wb pa n1 w a c l) (x : Ns) (hl : l.length ≤ 20000) {K : Option Addr → Nat → Nat → World → Prop}
    (kk : ∀ a' c' w', Sq w0 wb pa n1 w' a' c' (l ++ [x]) → K a' (l ++ [x]).length c' w') :
    Nw (.cells #[.int .u8 x.k, .int .u64 x.s1, .int .u64 x.s2, .int .u64 x.s3, .int .u64 x.s4, .int .i64 x.a, .int .i64 x.b, .int .i64 x.t] 103) w fun b w' =>
      RunW Try.prog [n1] (Builtin.append_ #[69, 69] 69 #[.slice a l.length c, .slice (some { block := b, off := 0 }) 1 1]) (fun v w'' => opL v fun a' n' c' => K a' n' c' w'') w' := by
  refine app_one rowT69 encNs x rfl S.rs.own S.rs.md.size S.ln S.la (by simp [maxLen]; omega) (by omega) fun a' c' w' o m hA => opL_in (kk a' c' w' (S.step ⟨?_, o⟩ m hA))
  exact S.rs.md.old m fun d hd => by obtain ⟨A, hA', rfl⟩ := mem_blk hd; exact (S.rs.own.lt hA').1
end
theorem own_setA {w : World} {base : Nat} {a : Option Addr} {c : Nat} {l : List Ns} (h : OwnL w base 103 8 nsE a c l) {i : Nat} (hi : i < l.length) (kid : Int) :
    ∃ A, a = some A ∧ base ≤ A.block ∧ A.block < w.heap.size ∧ (adAt a (i : Int) 8).block = A.block ∧ Wr w ((adAt a (i : Int) 8).add 5) 1 ∧ OwnL (setCells w ((adAt a (i : Int) 8).add 5) 0 [.int .i64 kid]) base 103 8 nsE a c (setA l i kid) ∧
      Md [A.block] w (setCells w ((adAt a (i : Int) 8).add 5) 0 [.int .i64 kid]) := by
  have hlen := encNs.lenL l
  obtain ⟨A, rfl, p1, p2, p3, p4, p5⟩ := own_put h (i * 8 + 5) [.int .i64 kid] (by simp only [List.length_cons, List.length_nil]; omega) (by simp)
  have hA : (adAt (some A) (i : Int) 8).add 5 = A.add (i * 8 + 5) := by
    rw [← add_add]
    simp [adAt]
  rw [wrL_a hi] at p4
  have es : setA l (i : Int) kid = l.set i { l[i] with a := kid } := by unfold setA; simp [hi]
  rw [hA]
  refine ⟨A, rfl, p2, p1, by simp [adAt, add_block], p3, ?_, p5⟩
  unfold OwnL
  rw [es, List.length_set]; exact p4
def Twd (q : Fo) : Prop := ∀ (k a b c d : Int) (sa : Option Addr) (sc : Nat) (to : Int) (pa : Option Addr) (pc : Nat) (l : List Ns) (w0 w : World), RepF w0 sa 0 q → q.len < 2 ^ 63 → nodeOk k (z4 a b c d) q.len = true → q.right = true → RS w0 w pa pc l → l.length + cntK k q.len q.cnt ≤ 20000 →
    Ct Try.prog 182 #[.slice pa l.length pc, .agg #[.int .u8 k, .int .u64 a, .int .u64 b, .int .u64 c, .int .u64 d, .slice sa q.len sc], .int .i64 to] w
      fun v w' => (∃ a' c', v = .tuple #[.slice a' (twOne 20000 k a b c d (tw 20000 q) (l, to)).1.length c', .int .i64 (twOne 20000 k a b c d (tw 20000 q) (l, to)).2] ∧ RS w0 w' a' c' (twOne 20000 k a b c d (tw 20000 q) (l, to)).1 ∧ (∀ A, a' = some A → pa = some A ∨ w.heap.size ≤ A.block)) ∧ Md (pa.map (·.block)).toList w w'
theorem sq_call {q : Fo} (hT : Twd q) {w0 wb w : World} {pa xa : Option Addr} {n1 xc : Nat} {l : List Ns} (S : Sq w0 wb pa n1 w xa xc l) {k a b c d : Int} {sa : Option Addr} {sc : Nat} (to : Int) (h1 : RepF w0 sa 0 q) (h2 : q.len < 2 ^ 63) (h3 : nodeOk k (z4 a b c d) q.len = true) (h4 : q.right = true) (h5 : l.length + cntK k q.len q.cnt ≤ 20000)
    {K : Option Addr → Nat → Nat → Int → World → Prop} (kk : ∀ a' c' w', Sq w0 wb pa n1 w' a' c' (twOne 20000 k a b c d (tw 20000 q) (l, to)).1 → K a' (twOne 20000 k a b c d (tw 20000 q) (l, to)).1.length c' (twOne 20000 k a b c d (tw 20000 q) (l, to)).2 w') :
    CallW Try.prog [n1] 182 #[.slice xa l.length xc, .agg #[.int .u8 k, .int .u64 a, .int .u64 b, .int .u64 c, .int .u64 d, .slice sa q.len sc], .int .i64 to] (fun v w' => opTu v fun cs => opL (nthD cs.toList 0) fun a' n' c' => opI .i64 (nthD cs.toList 1) fun x => SzIs cs.size 2 (K a' n' c' x w')) w := by
  refine (hT k a b c d sa sc to xa xc l w0 w h1 h2 h3 h4 S.rs h5).callD S.ln (fun b hb hd => by obtain ⟨A, hA, e⟩ := mem_blk hd; exact S.la b hb A hA e) ?_
  rintro v w' ⟨a', c', rfl, h6, h7⟩ h8
  exact opTu_in <| opL_in <| opI_in <| SzIs_in rfl (kk a' c' w' (S.step h6 h8 h7))
theorem mst_fit {most : Nat} {l : List Ns} {x : Ns} (h : l.length ≤ most) : mst most l x = l ++ [x] := by unfold mst; rw [if_pos h]
theorem pst_fit {most : Nat} {l : List Ns} {x : Ns} (h : l.length ≤ most) : pst most l x = (l ++ [x], (l.length : Int)) := by unfold pst; rw [mst_fit h]; simp
theorem twOne_len_fit {k a b c d : Int} {q : Fo} (hn : nodeOk k (z4 a b c d) q.len = true) (hq : q.right = true) (p : List Ns × Int) (h : p.1.length + cntK k q.len q.cnt ≤ 20000) : (twOne 20000 k a b c d (tw 20000 q) p).1.length = p.1.length + cntK k q.len q.cnt := by
  have h1 := (tw_min 20000 (.cons k a b c d q .nil) (by simp [Fo.right, hn, hq])).2.2 p (by omega)
  change (twOne 20000 k a b c d (tw 20000 q) p).1.length = _ at h1
  rw [h1]
  simp only [Fo.cnt1]
  omega
theorem f182_step (q : Fo) (ih : ∀ q' : Fo, q'.size < q.size → Twd q') : Twd q := by
  intro k a b c d sa sc to pa pc l w0 w hr hql hn hq S hfit
  apply f182_in
  intro n1 hn1
  have hnf : ¬ l.length > 20000 := by omega
  have hpa : ∀ A, pa = some A → A.block ≠ n1 := fun A hA e => by have := (S.own.lt hA).2; omega
  have start : ∀ w1, Md [] w w1 → n1 < w1.heap.size → Sq w0 w1 pa n1 w1 pa pc l := fun w1 hm hn => ⟨⟨S.md.trans hm, S.own.md hm⟩, Md.refl _ _, fun A hA => .inl hA, hn, hpa⟩
  have fin : ∀ {w1 w' : World} {a' : Option Addr} {c' : Nat} {l' : List Ns}, Md [] w w1 → Sq w0 w1 pa n1 w' a' c' l' → RS w0 w' a' c' l' ∧ (∀ A, a' = some A → pa = some A ∨ w.heap.size ≤ A.block) ∧ Md (pa.map (·.block)).toList w w' := fun hm Q => ⟨Q.rs, fun A hA => by
    rcases Q.rel A hA with h | h
    · exact .inl h
    · have := hm.size; right; omega, (hm.mono (by simp)).trans Q.md⟩
  refine Jn_in (fun us vs w' => ∃ (x y : Int) (a' : Option Addr) (c' : Nat) (b1 b2 : Bool), us = [.int .i64 x, .slice a' (twOne 20000 k a b c d (tw 20000 q) (l, to)).1.length c', .slice none 0 0, .int .i64 y, .bool b1, .bool b2] ∧ x = (twOne 20000 k a b c d (tw 20000 q) (l, to)).2 ∧
      RS w0 w' a' c' (twOne 20000 k a b c d (tw 20000 q) (l, to)).1 ∧ (∀ A, a' = some A → pa = some A ∨ w.heap.size ≤ A.block) ∧ Md (pa.map (·.block)).toList w w') ?_ ?_
  · rintro us vs w4 ⟨x, y, a', c', b1, b2, rfl, rfl, h1, h2, h3⟩
    exact opI_in <| opL_in <| opL_in <| opI_in <| opB_in <| opB_in ⟨⟨a', c', rfl, h1, h2⟩, h3⟩
  refine Bd_in fun b16 hb16 => If_in (fun hb w17 h17 hL17 => ?_) fun hb1 => ?_
  · have hk : k = 1 := by rw [hb16] at hb; simpa using hb
    have e : twOne 20000 k a b c d (tw 20000 q) (l, to) = (l ++ [⟨1, a, b, c, d, to, 0, 0⟩], (l.length : Int)) := by unfold twOne; rw [if_neg hnf, if_pos hk]; simp only; rw [pst_fit (by omega)]
    rw [e]
    refine sq_app (start w17 h17 (hL17 n1 (by simp))) ⟨1, a, b, c, d, to, 0, 0⟩ (by omega) fun a' c' w' Q => Bd_e rfl ?_
    obtain ⟨f1, f2, f3⟩ := fin h17 Q
    exact ⟨⟨a', c', rfl, f1, f2⟩, f3⟩
  have hk1 : k ≠ 1 := by rw [hb16] at hb1; simpa using hb1
  refine Bd_in fun b26 hb26 => If_in (fun hb => ?_) fun hb2 => ?_
  · have hk : k = 2 := by rw [hb26] at hb; simpa using hb
    have e : twOne 20000 k a b c d (tw 20000 q) (l, to) = (tw 20000 q).cat (l, to) := by unfold twOne; rw [if_neg hnf, if_neg hk1, if_pos hk]
    have hcq : l.length + q.cnt ≤ 20000 := by unfold cntK at hfit; omega
    refine Bd_e rfl <| Bd_e (y := (q.len : Int) - 1) (by rw [IntKind.wrap_i64]; omega) fun w29 h29 hL29 => ?_
    refine LoopP_in (fun mm us vs w' => ∃ (j : Nat) (x : Int) (a' : Option Addr) (c' : Nat) (l' : List Ns), us = [.slice a' l'.length c', .int .i64 x, .int .i64 ((j : Int) - 1)] ∧ mm = j ∧ j ≤ q.len ∧ (tw 20000 (q.drop j)).cat (l, to) = (l', x) ∧ Sq w0 w29 pa n1 w' a' c' l') q.len
      ⟨q.len, to, pa, pc, l, rfl, rfl, Nat.le_refl _, by rw [Fo.drop_all q _ (Nat.le_refl _)]; rfl, start w29 h29 (hL29 n1 (by simp))⟩ ?_
    rintro mm us vs w33 ⟨j, x, a', c', l', rfl, hmm, hj, hc, Q⟩
    refine opL_in <| opI_in <| opI_in <| Bd_in fun b39 hb39 => If_in (fun hb => ?_) fun hb => ?_
    · have hj1 : (j : Int) - 1 ≥ 0 := by rw [hb39] at hb; exact of_decide_eq_true hb
      obtain ⟨i, rfl⟩ : ∃ i, j = i + 1 := ⟨j - 1, by omega⟩
      have ei : (((i + 1 : Nat) : Int) - 1) = (i : Int) := by omega
      rw [ei]
      obtain ⟨k', a2, b2, c2, d2, q', he, hqs⟩ := Fo.drop_cons q i hj
      obtain ⟨hn', hq'⟩ := right_pre he hq
      have hdc := drop_cnt he
      have hdl := drop_cnt_le q i
      have hlen := (tw_min 20000 (q.drop (i + 1)) (right_take q _ hq)).1 (l, to) (by simp only; omega)
      rw [hc] at hlen
      simp only at hlen
      refine kid_ld hr Q.rs.md he hj fun sa' sc' hql' hr' => ?_
      refine sq_call (ih q' hqs) Q x hr' hql' hn' hq' (by omega) fun a3 c3 w3 Q3 => Bd_e (y := (i : Int) - 1) (by rw [IntKind.wrap_i64]; omega) ⟨i, by omega, i, _, a3, c3, _, rfl, rfl, by omega, ?_, Q3⟩
      rw [he]
      show twOne 20000 k' a2 b2 c2 d2 (tw 20000 q') ((tw 20000 (q.drop (i + 1))).cat (l, to)) = _
      rw [hc]
    · have hj1 : ¬ (j : Int) - 1 ≥ 0 := by rw [hb39] at hb; exact of_decide_eq_false hb
      have hj0 : j = 0 := by omega
      subst hj0
      have hc' : (tw 20000 q).cat (l, to) = (l', x) := by simpa [Fo.drop] using hc
      rw [e, hc']
      obtain ⟨f1, f2, f3⟩ := fin h29 Q
      exact ⟨x, 0, a', c', b16, b26, rfl, rfl, f1, f2, f3⟩
  have hk2 : k ≠ 2 := by rw [hb26] at hb2; simpa using hb2
  refine Bd_in fun b62 hb62 => If_in (fun hb => ?_) fun hb3 => ?_
  · have hk : k = 3 := by rw [hb62] at hb; simpa using hb
    have e : twOne 20000 k a b c d (tw 20000 q) (l, to) = (((tw 20000 q).alt to l).1, ((tw 20000 q).alt to l).2.getD 0) := by unfold twOne; rw [if_neg hnf, if_neg hk1, if_neg hk2, if_pos hk]
    have hcq : l.length + (q.cnt + (q.len - 1)) ≤ 20000 := by unfold cntK at hfit; rw [hk] at hfit; simp at hfit; omega
    refine Bd_e rfl <| Bd_e (y := (q.len : Int) - 1) (by rw [IntKind.wrap_i64]; omega) fun w65 h65 hL65 => ?_
    refine LoopP_in (fun mm us vs w' => ∃ (j : Nat) (o : Option Int) (a' : Option Addr) (c' : Nat) (l' : List Ns), us = [.slice a' l'.length c', .int .i64 (o.getD 0), .int .i64 ((j : Int) - 1)] ∧ mm = j ∧ j ≤ q.len ∧ (tw 20000 (q.drop j)).alt to l = (l', o) ∧ Sq w0 w65 pa n1 w' a' c' l') q.len
      ⟨q.len, none, pa, pc, l, rfl, rfl, Nat.le_refl _, by rw [Fo.drop_all q _ (Nat.le_refl _)]; rfl, start w65 h65 (hL65 n1 (by simp))⟩ ?_
    rintro mm us vs w69 ⟨j, o, a', c', l', rfl, hmm, hj, hc, Q⟩
    refine opL_in <| opI_in <| opI_in <| Bd_in fun b39 hb39 => If_in (fun hb => ?_) fun hb => ?_
    · have hj1 : (j : Int) - 1 ≥ 0 := by rw [hb39] at hb; exact of_decide_eq_true hb
      obtain ⟨i, rfl⟩ : ∃ i, j = i + 1 := ⟨j - 1, by omega⟩
      have ei : (((i + 1 : Nat) : Int) - 1) = (i : Int) := by omega
      rw [ei]
      obtain ⟨k', a2, b2, c2, d2, q', he, hqs⟩ := Fo.drop_cons q i hj
      obtain ⟨hn', hq'⟩ := right_pre he hq
      have hdc := drop_cnt he
      have hdl := drop_cnt_le q i
      have hdlen := Fo.drop_len q (i + 1)
      have hlen := (tw_min 20000 (q.drop (i + 1)) (right_take q _ hq)).2.1 to l (by omega)
      rw [hc] at hlen
      simp only at hlen
      have h1 := twOne_len_fit (k := k') (a := a2) (b := b2) (c := c2) (d := d2) hn' hq' (l', to) (by simp only; omega)
      simp only at h1
      refine kid_ld hr Q.rs.md he hj fun sa' sc' hql' hr' => ?_
      refine sq_call (ih q' hqs) Q to hr' hql' hn' hq' (by omega) fun a3 c3 w3 Q3 => ?_
      refine Jn_in (fun us vs w' => ∃ (o2 : Option Int) (a4 : Option Addr) (c4 : Nat) (l4 : List Ns), us = [.slice a4 l4.length c4, .int .i64 (o2.getD 0)] ∧ (tw 20000 (q.drop i)).alt to l = (l4, o2) ∧ Sq w0 w65 pa n1 w' a4 c4 l4) ?_ ?_
      · rintro us vs w99 ⟨o2, a4, c4, l4, rfl, hc4, Q4⟩
        exact opL_in <| opI_in <| Bd_e (y := (i : Int) - 1) (by rw [IntKind.wrap_i64]; omega) ⟨i, by omega, i, o2, a4, c4, l4, rfl, rfl, by omega, hc4, Q4⟩
      have ealt : (tw 20000 (q.drop i)).alt to l = twAlt 20000 (twOne 20000 k' a2 b2 c2 d2 (tw 20000 q')) (tw 20000 (q.drop (i + 1))) to l := by rw [he]; rfl
      refine Bd_e rfl <| Bd_e (y := (q.len : Int) - 1) (by rw [IntKind.wrap_i64]; omega) <| Bd_in fun b108 hb108 => If_in (fun hb => ?_) fun hb => ?_
      · have hlt : (i : Int) < (q.len : Int) - 1 := by rw [hb108] at hb; exact of_decide_eq_true hb
        cases ho : o with
        | none => have := hlen.2.1 ho; omega
        | some at' =>
          refine sq_app Q3 (spl (twOne 20000 k' a2 b2 c2 d2 (tw 20000 q') (l', to)).2 at') (by omega) fun a4 c4 w4 Q4 => Bd_e rfl <| Bd_e (y := (((twOne 20000 k' a2 b2 c2 d2 (tw 20000 q') (l', to)).1.length : Nat) : Int)) (by rw [IntKind.wrap_i64]; simp; omega) ?_
          refine ⟨some ((twOne 20000 k' a2 b2 c2 d2 (tw 20000 q') (l', to)).1.length : Int), a4, c4, _, rfl, ?_, Q4⟩
          rw [ealt]
          unfold twAlt
          simp only [hc, ho]
          rw [pst_fit (by omega)]
      · have hlt : ¬ (i : Int) < (q.len : Int) - 1 := by rw [hb108] at hb; exact of_decide_eq_false hb
        have ho : o = none := hlen.2.2 (by omega)
        refine ⟨some (twOne 20000 k' a2 b2 c2 d2 (tw 20000 q') (l', to)).2, a3, c3, _, rfl, ?_, Q3⟩
        rw [ealt]
        unfold twAlt
        simp only [hc, ho]
    · have hj1 : ¬ (j : Int) - 1 ≥ 0 := by rw [hb39] at hb; exact of_decide_eq_false hb
      have hj0 : j = 0 := by omega
      subst hj0
      have hc' : (tw 20000 q).alt to l = (l', o) := by simpa [Fo.drop] using hc
      rw [e, hc']
      obtain ⟨f1, f2, f3⟩ := fin h65 Q
      exact ⟨⟨a', c', rfl, f1, f2⟩, f3⟩
  have hk3 : k ≠ 3 := by rw [hb62] at hb3; simpa using hb3
  refine Bd_in fun b118 hb118 => If_in (fun hb => ?_) fun hb4 => ?_
  case refine_2 =>
    have hk4 : k ≠ 4 := by rw [hb118] at hb4; simpa using hb4
    have e : twOne 20000 k a b c d (tw 20000 q) (l, to) = (l, to) := by unfold twOne; rw [if_neg hnf, if_neg hk1, if_neg hk2, if_neg hk3, if_neg hk4]
    intro w149 h149 hL149
    obtain ⟨f1, f2, f3⟩ := fin h149 (start w149 h149 (hL149 n1 (by simp)))
    rw [e]
    exact ⟨to, 0, pa, pc, b16, b26, rfl, rfl, f1, f2, f3⟩
  have hk : k = 4 := by rw [hb118] at hb; simpa using hb
  have e : twOne 20000 k a b c d (tw 20000 q) (l, to) = (setA ((tw 20000 q).one (l ++ [spl 0 to], (l.length : Int))).1 l.length ((tw 20000 q).one (l ++ [spl 0 to], (l.length : Int))).2, (l.length : Int)) := by
    unfold twOne
    rw [if_neg hnf, if_neg hk1, if_neg hk2, if_neg hk3, if_pos hk]
    simp only
    rw [pst_fit (by omega)]
  have h1q : q.len = 1 := by have := nodeOk_inv hn; omega
  obtain ⟨k', a2, b2, c2, d2, q', he, hqs⟩ := Fo.drop_cons q 0 (by omega)
  obtain ⟨hn', hq'⟩ := right_pre he hq
  have hdc := drop_cnt he
  have he0 : q = .cons k' a2 b2 c2 d2 q' (q.drop 1) := by have := he; simpa [Fo.drop] using this
  have eone : (tw 20000 q).one = twOne 20000 k' a2 b2 c2 d2 (tw 20000 q') := by rw [he0]; rfl
  have hcq : l.length + 1 + cntK k' q'.len q'.cnt ≤ 20000 := by
    unfold cntK at hfit
    rw [if_pos (.inr hk)] at hfit
    simp only [Fo.drop] at hdc
    omega
  rw [eone] at e
  rw [e]
  refine Bd_e rfl fun w120 h120 hL120 => ?_
  refine sq_app (start w120 h120 (hL120 n1 (by simp))) (spl 0 to) (by omega) fun a3 c3 w3 Q3 => kid_ld (j := 0) hr Q3.rs.md he (by omega) fun sa' sc' hql' hr' => ?_
  refine sq_call (ih q' hqs) Q3 (l.length : Int) hr' hql' hn' hq' (by simp; omega) fun a4 c4 w4 Q4 => ?_
  have h1 := twOne_len_fit (k := k') (a := a2) (b := b2) (c := c2) (d := d2) hn' hq' (l ++ [spl 0 to], (l.length : Int)) (by simp; omega)
  simp at h1
  generalize twOne 20000 k' a2 b2 c2 d2 (tw 20000 q') (l ++ [spl 0 to], (l.length : Int)) = T at *
  have hi : l.length < T.1.length := by omega
  obtain ⟨A, hA, p1, p2, p3, p4, p5, p6⟩ := own_setA Q4.rs.own hi T.2
  refine ⟨(Q4.rs.own.row encNs).ix hi, ?_, p4, ?_⟩
  · rw [p3]
    exact fun hm => Q4.la _ hm A hA rfl
  · have Q5 := Q4.step ⟨Q4.rs.md.old p6 (by simpa using p1), p5⟩ (p6.mono (by rw [hA]; simp)) fun A hA => .inl hA
    obtain ⟨f1, f2, f3⟩ := fin h120 Q5
    refine ⟨⟨a4, c4, ?_, f1, f2⟩, f3⟩
    simp only [setA_len]
theorem tr_ok : ∀ (s : Nat) (q : Fo), q.size < s → Twd q
  | 0, q, h => by omega
  | s + 1, q, h => f182_step q fun q' h' => tr_ok s q' (by omega)
end Fk

/- First machines: the document's Build. -/
set_option linter.unusedVariables false
set_option linter.unusedSimpArgs false
set_option maxRecDepth 100000
set_option maxHeartbeats 2000000
namespace Fk
open Go Go.Proofs Go.RowKit
/-! ### How many states, and where the cap does not matter -/
theorem one_min {most : Nat} {k a b c d : Int} {q : Fo} (hn : nodeOk k (z4 a b c d) q.len = true) (hq : q.right = true) (p : List Ns × Int) (h : p.1.length ≤ most + 1) : (twOne most k a b c d (tw most q) p).1.length = min (p.1.length + cntK k q.len q.cnt) (most + 1) :=
  (tw_min most (.cons k a b c d q .nil) (by simp [Fo.right, hn, hq])).2.2 p h
theorem one_agree {most M : Nat} (hM : most ≤ M) {k a b c d : Int} {q : Fo} (hn : nodeOk k (z4 a b c d) q.len = true) (hq : q.right = true) (p : List Ns × Int) (h : p.1.length + cntK k q.len q.cnt ≤ most) : twOne most k a b c d (tw most q) p = twOne M k a b c d (tw M q) p :=
  (tw_agree hM (.cons k a b c d q .nil) (by simp [Fo.right, hn, hq])).2.2 p h
theorem bldF_min (most : Nat) : ∀ (f : Fo) (i : Int) (l : List Ns) (bs : List Int), f.right = true → l.length ≤ most + 1 → (bldF most f i l bs).1.length = min (l.length + (f.cnt + f.len)) (most + 1) ∧ (bldF most f i l bs).2.length = bs.length + f.len
  | .nil, i, l, bs, _, hl => by simp only [bldF, Fo.cnt, Fo.len]; omega
  | .cons k a b c d q r, i, l, bs, hr, hl => by
    simp only [Fo.right, Bool.and_eq_true] at hr
    have h1 := mst_min most l ⟨0, 0, 0, 0, 0, 0, 0, i⟩ hl
    have h2 := one_min (most := most) hr.1.1 hr.1.2 (pst most l ⟨0, 0, 0, 0, 0, 0, 0, i⟩) (by simp only [pst]; omega)
    simp only [pst] at h2
    obtain ⟨h3, h4⟩ := bldF_min most r (i + 1) (twOne most k a b c d (tw most q) (pst most l ⟨0, 0, 0, 0, 0, 0, 0, i⟩)).1 (bs ++ [(twOne most k a b c d (tw most q) (pst most l ⟨0, 0, 0, 0, 0, 0, 0, i⟩)).2]) hr.2 (by simp only [pst]; omega)
    simp only [bldF, Fo.cnt, Fo.len]
    simp only [pst] at h3 h4 ⊢
    rw [h3, h4, h2, h1]
    simp
    omega
theorem bldF_agree {most M : Nat} (hM : most ≤ M) : ∀ (f : Fo) (i : Int) (l : List Ns) (bs : List Int), f.right = true → l.length + (f.cnt + f.len) ≤ most → bldF most f i l bs = bldF M f i l bs
  | .nil, i, l, bs, _, hl => rfl
  | .cons k a b c d q r, i, l, bs, hr, hl => by
    simp only [Fo.right, Bool.and_eq_true] at hr
    simp only [Fo.cnt, Fo.len] at hl
    have e1 : pst most l ⟨0, 0, 0, 0, 0, 0, 0, i⟩ = pst M l ⟨0, 0, 0, 0, 0, 0, 0, i⟩ := by unfold pst; rw [mst_agree _ (by omega) hM]
    have h1 := mst_min M l ⟨0, 0, 0, 0, 0, 0, 0, i⟩ (by omega)
    have e2 := one_agree hM hr.1.1 hr.1.2 (pst M l ⟨0, 0, 0, 0, 0, 0, 0, i⟩) (by simp only [pst]; omega)
    have h2 := one_min (most := M) hr.1.1 hr.1.2 (pst M l ⟨0, 0, 0, 0, 0, 0, 0, i⟩) (by simp only [pst]; omega)
    simp only [bldF]
    rw [e1, e2]
    refine bldF_agree hM r _ _ _ hr.2 ?_
    rw [h2]
    simp only [pst]
    omega
theorem joinB_min (most : Nat) : ∀ (bs : List Int) (l : List Ns), l.length ≤ most + 1 → (joinB most bs l).1.length = min (l.length + (bs.length - 1)) (most + 1)
  | [], l, h => by simp [joinB]; omega
  | [b], l, h => by simp [joinB]; omega
  | b :: b2 :: bs, l, h => by
    have h1 := joinB_min most (b2 :: bs) l h
    have h2 := mst_min most (joinB most (b2 :: bs) l).1 (spl b (joinB most (b2 :: bs) l).2) (by omega)
    show (mst most _ _).length = _
    rw [h2, h1]
    simp
    omega
theorem joinB_agree {most M : Nat} (hM : most ≤ M) : ∀ (bs : List Int) (l : List Ns), l.length + (bs.length - 1) ≤ most → joinB most bs l = joinB M bs l
  | [], l, h => rfl
  | [b], l, h => rfl
  | b :: b2 :: bs, l, h => by
    simp only [List.length_cons] at h
    have h1 := joinB_agree hM (b2 :: bs) l (by simp; omega)
    have h2 := joinB_min M (b2 :: bs) l (by omega)
    simp only [List.length_cons] at h2
    show pst most (joinB most (b2 :: bs) l).1 _ = pst M (joinB M (b2 :: bs) l).1 _
    rw [h1]
    unfold pst
    rw [mst_agree _ (by omega) hM]
def Fo.total (f : Fo) : Nat := f.cnt + (2 * f.len - 1)
/-- The machine with a cap that is not met. -/
def bldM (f : Fo) : List Ns × Int := joinB 20000 (bldF 20000 f 0 [] []).2 (bldF 20000 f 0 [] []).1
theorem bld_eq {f : Fo} {most : Int} (h1 : 1 ≤ f.len) (h2 : f.len ≤ 200) (h3 : 1 ≤ most) (h4 : most ≤ 20000) (hr : f.right = true) : bld f most = if most < f.total then ((0, []), 40) else (((bldM f).2, (bldM f).1), 0) := by
  obtain ⟨m, rfl⟩ := Int.eq_ofNat_of_zero_le (show 0 ≤ most by omega)
  unfold bld
  rw [if_pos ⟨h1, h2, h3, h4, hr⟩]
  simp only [Int.toNat_natCast]
  obtain ⟨b1, b2⟩ := bldF_min m f 0 [] [] hr (by simp)
  have b3 := joinB_min m (bldF m f 0 [] []).2 (bldF m f 0 [] []).1 (by omega)
  simp only [List.length_nil] at b1 b2
  unfold Fo.total
  by_cases hc : (m : Int) < ((f.cnt + (2 * f.len - 1) : Nat) : Int)
  · rw [if_pos hc, if_pos (by omega)]
  · rw [if_neg hc, if_neg (by omega)]
    unfold bldM
    have e1 := bldF_agree (show m ≤ 20000 by omega) f 0 [] [] hr (by simp; omega)
    rw [e1] at b1 b2 ⊢
    rw [joinB_agree (show m ≤ 20000 by omega) _ _ (by omega)]
theorem bldM_len {f : Fo} (h1 : 1 ≤ f.len) (hr : f.right = true) (h : f.total ≤ 20000) : (bldM f).1.length = f.total := by
  obtain ⟨b1, b2⟩ := bldF_min 20000 f 0 [] [] hr (by simp)
  have b3 := joinB_min 20000 (bldF 20000 f 0 [] []).2 (bldF 20000 f 0 [] []).1 (by omega)
  simp only [List.length_nil] at b1 b2
  unfold bldM
  unfold Fo.total at h ⊢
  rw [b3]
  omega
/-! ### The walk -/
/-- States, and beginnings. -/
structure S2 (wb : World) (n1 : Nat) (w : World) (a : Option Addr) (c : Nat) (l : List Ns) (a2 : Option Addr) (c2 : Nat) (bs : List Int) : Prop where
  q : Sq wb wb none n1 w a c l
  o : OwnL w wb.heap.size 3 1 i1 a2 c2 bs
  ap : Apt a2 a
section
variable {wb w : World} {a a2 : Option Addr} {n1 c c2 : Nat} {l : List Ns} {bs : List Int}
theorem S2.st (S : S2 wb n1 w a c l a2 c2 bs) {w' : World} {a' : Option Addr} {c' : Nat} {l' : List Ns} (h : Sq wb wb none n1 w' a' c' l') (hm : Md (a.map (·.block)).toList w w') (hA : ∀ A, a' = some A → a = some A ∨ w.heap.size ≤ A.block) : S2 wb n1 w' a' c' l' a2 c2 bs :=
  ⟨h, S.o.mdD hm fun A hA' hd => by obtain ⟨B, hB, e⟩ := mem_blk hd; exact S.ap A B hA' hB e.symm, fun A B hA' hB e => by
    rcases hA B hB with h1 | h1
    · exact S.ap A B hA' h1 e
    · have := (S.o.lt hA').2; omega⟩
theorem s2_app (S : S2 wb n1 w a c l a2 c2 bs) (x : Ns) (hl : l.length ≤ 20000) {K : Option Addr → Nat → Nat → World → Prop}
    (kk : ∀ a' c' w', S2 wb n1 w' a' c' (l ++ [x]) a2 c2 bs → K a' (l ++ [x]).length c' w') :
    Nw (.cells #[.int .u8 x.k, .int .u64 x.s1, .int .u64 x.s2, .int .u64 x.s3, .int .u64 x.s4, .int .i64 x.a, .int .i64 x.b, .int .i64 x.t] 103) w fun b w' =>
      RunW Try.prog [n1] (Builtin.append_ #[69, 69] 69 #[.slice a l.length c, .slice (some { block := b, off := 0 }) 1 1]) (fun v w'' => opL v fun a' n' c' => K a' n' c' w'') w' := by
  refine app_one rowT69 encNs x rfl S.q.rs.own S.q.rs.md.size S.q.ln S.q.la (by simp [maxLen]; omega) (by omega) fun a' c' w' o m hA => opL_in (kk a' c' w' (S.st (S.q.step ⟨?_, o⟩ m hA) m hA))
  exact S.q.rs.md.old m fun d hd => by obtain ⟨A, hA', rfl⟩ := mem_blk hd; exact (S.q.rs.own.lt hA').1
theorem s2_call {q : Fo} (S : S2 wb n1 w a c l a2 c2 bs) {k x1 x2 x3 x4 : Int} {sa : Option Addr} {sc : Nat} (to : Int) (h1 : RepF wb sa 0 q) (h2 : q.len < 2 ^ 63) (h3 : nodeOk k (z4 x1 x2 x3 x4) q.len = true) (h4 : q.right = true) (h5 : l.length + cntK k q.len q.cnt ≤ 20000)
    {K : Option Addr → Nat → Nat → Int → World → Prop} (kk : ∀ a' c' w', S2 wb n1 w' a' c' (twOne 20000 k x1 x2 x3 x4 (tw 20000 q) (l, to)).1 a2 c2 bs → K a' (twOne 20000 k x1 x2 x3 x4 (tw 20000 q) (l, to)).1.length c' (twOne 20000 k x1 x2 x3 x4 (tw 20000 q) (l, to)).2 w') :
    CallW Try.prog [n1] 182 #[.slice a l.length c, .agg #[.int .u8 k, .int .u64 x1, .int .u64 x2, .int .u64 x3, .int .u64 x4, .slice sa q.len sc], .int .i64 to] (fun v w' => opTu v fun cs => opL (nthD cs.toList 0) fun a' n' c' => opI .i64 (nthD cs.toList 1) fun x => SzIs cs.size 2 (K a' n' c' x w')) w := by
  refine (tr_ok (q.size + 1) q (by omega) k x1 x2 x3 x4 sa sc to a c l wb w h1 h2 h3 h4 S.q.rs h5).callD S.q.ln (fun b hb hd => by obtain ⟨A, hA, e⟩ := mem_blk hd; exact S.q.la b hb A hA e) ?_
  rintro v w' ⟨a', c', rfl, h6, h7⟩ h8
  exact opTu_in <| opL_in <| opI_in <| SzIs_in rfl (kk a' c' w' (S.st (S.q.step h6 h8 h7) h8 h7))
theorem s2_beg (S : S2 wb n1 w a c l a2 c2 bs) (x : Int) (hl : bs.length ≤ 20000) {K : Option Addr → Nat → Nat → World → Prop}
    (kk : ∀ a' c' w', S2 wb n1 w' a c l a' c' (bs ++ [x]) → K a' (bs ++ [x]).length c' w') :
    Nw (.cells #[.int .i64 x] 3) w fun b w' =>
      RunW Try.prog [n1] (Builtin.append_ #[52, 52] 52 #[.slice a2 bs.length c2, .slice (some { block := b, off := 0 }) 1 1]) (fun v w'' => opL v fun a' n' c' => K a' n' c' w'') w' := by
  refine app_one rowT52 enci1 x rfl S.o S.q.rs.md.size S.q.ln (fun b hb A hA e => ?_) (by simp [maxLen]; omega) (by omega) fun a' c' w' o m hA => opL_in (kk a' c' w' ⟨?_, o, ?_⟩)
  · simp at hb; subst hb
    have := (S.o.lt hA).1; have := S.q.nlt; omega
  · obtain ⟨k1, _⟩ := own_keep S.q.rs.own m hA S.ap
    have hd : ∀ d ∈ (a2.map (·.block)).toList, wb.heap.size ≤ d := fun d hd => by obtain ⟨A, hA', rfl⟩ := mem_blk hd; exact (S.o.lt hA').1
    have md := S.q.rs.md.old m hd
    exact ⟨⟨md, k1⟩, md, S.q.rel, S.q.nlt, S.q.np⟩
  · exact (own_keep S.q.rs.own m hA S.ap).2
end
theorem f78_ok (f : Fo) (A : Option Addr) (C : Nat) (most : Int) (w : World) (hr : RepF w A 0 f) (hl : f.len < 2 ^ 60) (hsz : f.size ≤ 5000) :
    Ct Try.prog 78 #[.slice A f.len C, .int .i64 most] w fun v w' => (∃ a c, v = .tuple #[.agg #[.int .i64 (bld f most).1.1, .slice a (bld f most).1.2.length c], .int .i64 (bld f most).2] ∧ OwnL w' w.heap.size 103 8 nsE a c (bld f most).1.2) ∧ Md [] w w' := by
  apply f78_in
  intro n1 hn1
  have hcl := f.cnt_le
  have bad : ∀ {w' : World}, Md [] w w' → ¬ (1 ≤ f.len ∧ f.len ≤ 200 ∧ 1 ≤ most ∧ most ≤ 20000 ∧ f.right = true) → (∃ a c, Value.tuple #[.agg #[.int .i64 0, .slice none 0 0], .int .i64 2] = .tuple #[.agg #[.int .i64 (bld f most).1.1, .slice a (bld f most).1.2.length c], .int .i64 (bld f most).2] ∧ OwnL w' w.heap.size 103 8 nsE a c (bld f most).1.2) ∧ Md [] w w' := by
    intro w' hm hno
    have e : bld f most = ((0, []), 2) := by unfold bld; rw [if_neg hno]
    rw [e]
    exact ⟨⟨none, 0, rfl, OwnL.nil _ _ _ _ _⟩, hm⟩
  refine Bd_e rfl <| Bd_in fun b3 hb3 => Bd_e rfl <| Bd_in fun b5 hb5 => Bd_in fun b6 hb6 => Bd_in fun b7 hb7 => Bd_in fun b8 hb8 => Bd_in fun b9 hb9 => Bd_in fun b10 hb10 => ?_
  have e10 : b10 = true ↔ ¬ (1 ≤ f.len ∧ f.len ≤ 200 ∧ 1 ≤ most ∧ most ≤ 20000) := by
    rw [hb10, hb8, hb9, hb6, hb7, hb3, hb5]
    by_cases c1 : (f.len : Int) < 1 <;> by_cases c2 : (f.len : Int) > 200 <;> by_cases c3 : most < 1 <;> by_cases c4 : most > 20000 <;> simp [c1, c2, c3, c4] <;> omega
  refine If_in (fun hb w11 h11 _ => bad (h11.fresh (by simp; exact hn1)) fun h => e10.1 hb ⟨h.1, h.2.1, h.2.2.1, h.2.2.2.1⟩) fun hb => ?_
  have hcond : 1 ≤ f.len ∧ f.len ≤ 200 ∧ 1 ≤ most ∧ most ≤ 20000 := Classical.byContradiction fun h => by have := e10.2 h; rw [hb] at this; cases this
  obtain ⟨c1, c2, c3, c4⟩ := hcond
  refine Bd_e rfl <| Bd_e (y := ((2 * f.len : Nat) : Int)) (by rw [IntKind.wrap_i64]; omega) <| Bd_e (y := ((2 * f.len - 1 : Nat) : Int)) (by rw [IntKind.wrap_i64]; omega) fun w15 h15 hL15 => ?_
  have l15 := hL15 n1 (by simp)
  refine LoopP_in (fun mm us vs w' => ∃ (i m : Nat), us = [.int .i64 0, .int .i64 m, .int .i64 i] ∧ vs = [.agg #[.int .i64 0, .slice none 0 0]] ∧ mm = f.len - i ∧ i ≤ f.len ∧ (firstR f i → m + (f.drop i).cnt = f.total) ∧ firstR f i ∧ Md [] w15 w' ∧ m ≤ 30000) f.len
    ⟨0, 2 * f.len - 1, rfl, rfl, rfl, by omega, fun _ => by simp only [Fo.drop, Fo.total]; omega, fun j _ _ _ _ _ _ hj => by omega, Md.refl _ _, by omega⟩ ?_
  rintro mm us vs w19 ⟨i, m, rfl, rfl, hmm, hi, hm, hF, hmd, hmb⟩
  have hmw := h15.trans hmd
  have hln : ∀ {w' : World}, Md [] w15 w' → ∀ b ∈ [n1], b < w'.heap.size := fun hm b hb => by simp at hb; subst hb; have := hm.size; omega
  refine opI_in <| opI_in <| opI_in <| opAg_in <| opI_in <| opL_in <| SzIs_in rfl <| Bd_e rfl <| Bd_in fun b29 hb29 => If_in (fun hb => ?_) fun hb => ?_
  · have hi' : i < f.len := by rw [hb29] at hb; have : (i : Int) < (f.len : Int) := of_decide_eq_true hb
                               omega
    obtain ⟨k, a, b, c, d, q, he, hqs⟩ := Fo.drop_cons f i hi'
    refine kid_ld hr hmw he hi' fun sa' sc' hql' hr' => ?_
    refine (f147_ok q.size q k a b c d sa' sc' w19 (Nat.le_refl _) (hr'.md hmw) hql').call (hln hmd) ?_
    rintro v w45 rfl m45
    have md45 := hmd.trans m45
    have hmw45 := hmw.trans m45
    refine opB_in <| Bd_in fun b47 hb47 => If_in (fun hb w48 h48 _ => ?_) fun hb => ?_
    · refine bad (hmw45.old h48 (by simp; exact hn1)) fun h => ?_
      have := right_pre he h.2.2.2.2
      rw [hb47, this.1, this.2] at hb
      simp at hb
    have hok : nodeOk k (z4 a b c d) q.len = true ∧ q.right = true := by rw [hb47] at hb; simpa using hb
    have hF' : firstR f (i + 1) := fun j k' a' b' c' d' q' hj he' => by
      by_cases hji : j < i
      · exact hF j _ _ _ _ _ _ hji he'
      · have : j = i := by omega
        subst this
        rw [he] at he'
        injection he' with e1 e2 e3 e4 e5 e6
        subst e1; subst e2; subst e3; subst e4; subst e5; subst e6
        exact hok
    refine kid_ld hr hmw45 he hi' fun sa2 sc2 hql2 hr2 => ?_
    refine (f181_ok q.size q k a b c d sa2 sc2 w45 (Nat.le_refl _) (by omega) (hr2.md hmw45) hql2 hok.1 hok.2).call (hln md45) ?_
    rintro v w64 rfl m64
    have hdc := drop_cnt he
    have hmi := hm hF
    have htot : f.total ≤ 30000 := by unfold Fo.total; omega
    exact opI_in <| Bd_e (y := ((m + cntK k q.len q.cnt : Nat) : Int)) (by rw [IntKind.wrap_i64]; omega) <| Bd_e (y := ((i + 1 : Nat) : Int)) (by rw [IntKind.wrap_i64]; omega) ⟨f.len - (i + 1), by omega, i + 1, _, rfl, rfl, rfl, by omega, fun _ => by omega, hF', md45.trans m64, by omega⟩
  have hif : i = f.len := by
    have : ¬ (i : Int) < (f.len : Int) := by rw [hb29] at hb; exact of_decide_eq_false hb
    omega
  subst hif
  have hmt := hm hF
  rw [Fo.drop_all f _ (Nat.le_refl _)] at hmt
  simp only [Fo.cnt, Nat.add_zero] at hmt
  subst hmt
  have hright : f.right = true := right_at f fun j k a b c d q hj he => hF j k a b c d q hj he
  rw [bld_eq c1 c2 c3 c4 hright]
  refine Bd_in fun b68 hb68 => If_in (fun hb w69 h69 _ => ?_) fun hb => ?_
  · have : most < (f.total : Int) := by rw [hb68] at hb; have := of_decide_eq_true hb; omega
    rw [if_pos this]
    exact ⟨⟨none, 0, rfl, OwnL.nil _ _ _ _ _⟩, hmw.old h69 (by simp; exact hn1)⟩
  have htot : ¬ most < (f.total : Int) := by rw [hb68] at hb; have := of_decide_eq_false hb; omega
  rw [if_neg htot]
  have htn : f.total ≤ 20000 := by omega
  have hr19 : RepF w19 A 0 f := hr.md hmw
  have S0 : S2 w19 n1 w19 none 0 [] none 0 [] := ⟨⟨⟨Md.refl _ _, OwnL.nil _ _ _ _ _⟩, Md.refl _ _, (fun A hA => by cases hA), hln hmd n1 (by simp), fun A hA => by cases hA⟩, OwnL.nil _ _ _ _ _, fun A B hA => by cases hA⟩
  refine LoopP_in (fun mm us vs w' => ∃ (i : Nat) (a : Option Addr) (c : Nat) (l : List Ns) (a2 : Option Addr) (c2 : Nat) (bs : List Int), us = [.slice a l.length c, .slice a2 bs.length c2, .int .i64 i] ∧ mm = f.len - i ∧ i ≤ f.len ∧ bldF 20000 (f.drop i) i l bs = bldF 20000 f 0 [] [] ∧ S2 w19 n1 w' a c l a2 c2 bs ∧ bs.length = i ∧
      l.length + ((f.drop i).cnt + (f.drop i).len) + (f.len - 1) ≤ 20000) f.len
    ⟨0, none, 0, [], none, 0, [], rfl, rfl, by omega, by simp [Fo.drop], S0, rfl, by simp [Fo.drop]; unfold Fo.total at htn; omega⟩ ?_
  rintro mm us vs w73 ⟨i, a, c, l, a2, c2, bs, rfl, hmm, hi, hbl, S, hbs, hfit⟩
  refine opL_in <| opL_in <| opI_in <| Bd_e rfl <| Bd_in fun b82 hb82 => If_in (fun hb => ?_) fun hb => ?_
  · have hi' : i < f.len := by rw [hb82] at hb; have : (i : Int) < (f.len : Int) := of_decide_eq_true hb
                               omega
    obtain ⟨k, x1, x2, x3, x4, q, he, hqs⟩ := Fo.drop_cons f i hi'
    have hok := right_pre he hright
    have hdc := drop_cnt he
    have hdl := Fo.drop_len f i
    have hdl' := Fo.drop_len f (i + 1)
    refine s2_app S ⟨0, 0, 0, 0, 0, 0, 0, i⟩ (by omega) fun a87 c87 w86 S86 => ?_
    refine kid_ld hr19 S86.q.rs.md he hi' fun sa' sc' hql' hr' => ?_
    have hl1 : (l ++ [(⟨0, 0, 0, 0, 0, 0, 0, i⟩ : Ns)]).length = l.length + 1 := by simp
    refine Bd_e rfl <| Bd_e (y := (l.length : Int)) (by rw [IntKind.wrap_i64, hl1]; omega) ?_
    have hlen := twOne_len_fit (a := x1) (b := x2) (c := x3) (d := x4) hok.1 hok.2 (l ++ [(⟨0, 0, 0, 0, 0, 0, 0, i⟩ : Ns)], (l.length : Int)) (by rw [hl1]; omega)
    rw [hl1] at hlen
    refine s2_call S86 (l.length : Int) hr' hql' hok.1 hok.2 (by rw [hl1]; omega) fun a3 c3 w3 S3 => ?_
    refine s2_beg S3 _ (by omega) fun a4 c4 w4 S4 => Bd_e (y := ((i + 1 : Nat) : Int)) (by rw [IntKind.wrap_i64]; omega) ⟨f.len - (i + 1), by omega, i + 1, a3, c3, _, a4, c4, _, rfl, rfl, by omega, ?_, S4, by simp; omega, by omega⟩
    rw [← hbl, he]
    show _ = bldF 20000 (f.drop (i + 1)) ((i : Int) + 1) _ _
    rw [pst_fit (by omega)]
    rfl
  have hif : i = f.len := by
    have : ¬ (i : Int) < (f.len : Int) := by rw [hb82] at hb; exact of_decide_eq_false hb
    omega
  subst hif
  rw [Fo.drop_all f _ (Nat.le_refl _)] at hbl hfit
  change (l, bs) = _ at hbl
  simp only [Fo.cnt, Fo.len, Nat.add_zero] at hfit
  obtain ⟨j0, hj0⟩ : ∃ j0, f.len = j0 + 1 := ⟨f.len - 1, by omega⟩
  refine Bd_e rfl <| Bd_e (y := (j0 : Int)) (by rw [IntKind.wrap_i64]; omega) ⟨(S.o.row enci1).ix (by omega), (S.o.row enci1).ld1 (by omega) rfl <| opI_in <| Bd_e rfl <| Bd_e (y := (j0 : Int) - 1) (by rw [IntKind.wrap_i64]; omega) ?_⟩
  have e0 : joinB 20000 (bs.drop j0) l = (l, bs[j0]'(by omega)) := by
    rw [List.drop_eq_getElem_cons (by omega), List.drop_of_length_le (by omega)]
    rfl
  refine LoopP_in (fun mm us vs w' => ∃ (j : Nat) (x : Int) (a' : Option Addr) (c' : Nat) (l' : List Ns), us = [.slice a' l'.length c', .int .i64 x, .int .i64 ((j : Int) - 1)] ∧ mm = j ∧ j ≤ j0 ∧ joinB 20000 (bs.drop j) l = (l', x) ∧ S2 w19 n1 w' a' c' l' a2 c2 bs) j0
    ⟨j0, _, a, c, l, rfl, rfl, Nat.le_refl _, e0, S⟩ ?_
  rintro mm us vs w130 ⟨j, x, a', c', l', rfl, hmm, hj, hc, S'⟩
  have hlen := joinB_min 20000 (bs.drop j) l (by omega)
  rw [hc, List.length_drop] at hlen
  simp only at hlen
  refine opL_in <| opI_in <| opI_in <| Bd_in fun b136 hb136 => If_in (fun hb => ?_) fun hb w149 h149 hL149 => ?_
  · have hj1 : (j : Int) - 1 ≥ 0 := by rw [hb136] at hb; exact of_decide_eq_true hb
    obtain ⟨i, rfl⟩ : ∃ i, j = i + 1 := ⟨j - 1, by omega⟩
    have ei : (((i + 1 : Nat) : Int) - 1) = (i : Int) := by omega
    rw [ei]
    refine ⟨(S'.o.row enci1).ix (by omega), (S'.o.row enci1).ld1 (by omega) rfl <| opI_in ?_⟩
    refine s2_app S' (spl (bs[i]'(by omega)) x) (by omega) fun a4 c4 w4 S4 => Bd_e rfl <| Bd_e (y := (l'.length : Int)) (by rw [IntKind.wrap_i64]; simp; omega) <| Bd_e (y := (i : Int) - 1) (by rw [IntKind.wrap_i64]; omega) ⟨i, by omega, i, (l'.length : Int), a4, c4, _, rfl, rfl, by omega, ?_, S4⟩
    rw [List.drop_eq_getElem_cons (by omega : i < bs.length)]
    obtain ⟨y, ys, hys⟩ : ∃ y ys, bs.drop (i + 1) = y :: ys := ⟨_, _, List.drop_eq_getElem_cons (by omega)⟩
    rw [hys] at hc ⊢
    show pst 20000 (joinB 20000 (y :: ys) l).1 (spl _ (joinB 20000 (y :: ys) l).2) = _
    rw [hc, pst_fit (by simp only; omega)]
  · have hj1 : ¬ (j : Int) - 1 ≥ 0 := by rw [hb136] at hb; exact of_decide_eq_false hb
    have hjz : j = 0 := by omega
    subst hjz
    have hc' : bldM f = (l', x) := by unfold bldM; rw [← hbl]; simpa using hc
    rw [hc']
    refine ⟨⟨a', c', rfl, (S'.q.rs.own.mdD h149 fun A hA hd => S'.q.la _ hd A hA rfl).down hmw.size⟩, (hmw.trans S'.q.rs.md).old h149 (by simp; exact hn1)⟩
end Fk

/- First machines: the chapter's examples (awake), and calls in their places. -/
set_option linter.unusedVariables false
set_option linter.unusedSimpArgs false
set_option maxRecDepth 100000
set_option maxHeartbeats 2000000
namespace Fk
open Go Go.Proofs Go.RowKit
/-! ### Fronts of strings -/
theorem nbytes_ext (l : List Nat) (a b : Nat) : (bytesOf l).extract a b = bytesOf ((l.drop a).take (b - a)) := by
  apply ByteArray.ext
  apply Array.toList_inj.1
  simp [bytesOf, List.extract_eq_take_drop, List.map_take, List.map_drop]
theorem nund9 : Try.prog.underlying 9 = some .string := by kernel_rfl
theorem ncut_h (w : World) (l : List Nat) (y : Nat) (h2 : y ≤ l.length) :
    (Instr.sliceAt 9 (.string (bytesOf l)) none (some (.int .i64 (y : Int))) none).run Try.prog w = .ok (.string (bytesOf (l.take y))) w := by
  rw [run_sliceAt_string (h := nund9), run_slice_string_h w 9 (bytesOf l) nund9 .i64 (y : Int) (by omega) (by rw [nsz_bytesOf]; omega), nbytes_ext]
  simp
theorem f68_ok (s : List Nat) (n : Nat) (w : World) : Ct Try.prog 68 #[.string (bytesOf s), .int .i64 (n : Int)] w fun v w' => v = .string (bytesOf (s.take n)) ∧ Md [] w w' := by
  apply f68_in
  refine Bd_e rfl <| Bd_e (y := ((min n s.length : Nat) : Int)) (by rw [nsz_bytesOf]; split <;> omega) <| RunW_in0 (ncut_h w s (min n s.length) (by omega)) <| opStr_in ⟨?_, Md.refl _ _⟩
  congr 2
  by_cases h : n ≤ s.length
  · rw [Nat.min_eq_left h]
  · rw [Nat.min_eq_right (by omega), List.take_of_length_le (Nat.le_refl _), List.take_of_length_le (by omega)]
/-! ### The set of one byte -/
def reZ (_ : Unit) : List Value := [.int .u8 0, .int .u64 0, .int .u64 0, .int .u64 0, .int .u64 0, .slice none 0 0]
theorem encZ : Enc 6 reZ := ⟨fun _ => rfl, by intro x v hv; simp [reZ] at hv; rcases hv with rfl | rfl | rfl <;> rfl⟩
theorem f179_ok (b : Nat) (hb : b = 97 ∨ b = 98) (w : World) : Ct Try.prog 179 #[.int .u8 (b : Int)] w fun v w' => v = .agg #[.int .u8 1, .int .u64 0, .int .u64 (2 ^ (b - 64)), .int .u64 0, .int .u64 0, .slice none 0 0] ∧ Md [] w w' := by
  apply f179_in
  intro n1 hn1 w2 h2 hL2
  have l1 := hL2 n1 (by simp)
  refine Nw_i ?_
  have ma : Md [] w2 (w2.alloc (.cells #[.int .u8 0, .int .u64 0, .int .u64 0, .int .u64 0, .int .u64 0, .slice none 0 0] 42)) := Md.alloc w2 _
  have ol : OwnL (w2.alloc (.cells #[.int .u8 0, .int .u64 0, .int .u64 0, .int .u64 0, .int .u64 0, .slice none 0 0] 42)) w2.heap.size 42 6 reZ (some ⟨w2.heap.size, 0, none⟩) 1 [()] := OwnL.lit (P := Try.prog) (base := w2.heap.size) encZ w2 42 [()] _ (Nat.le_refl _) (by simp [maxLen]) rfl
  generalize w2.alloc (.cells #[.int .u8 0, .int .u64 0, .int .u64 0, .int .u64 0, .int .u64 0, .slice none 0 0] 42) = w4 at *
  have hN : n1 < w2.heap.size := l1
  have hsz := h2.size
  generalize w2.heap.size = n3 at *
  obtain ⟨A, hA, p1, p2, p3, p4, p5⟩ := own_put (n := 1) ol 0 [.int .u8 1, .int .u64 0, .int .u64 0, .int .u64 0, .int .u64 0, .slice none 0 0] (by simp [reZ]) (by simp)
  injection hA with hA
  subst hA
  have e0 : (Addr.mk n3 0 none).add 0 = ⟨n3, 0, none⟩ := Addr.add_lit _ _ _
  rw [e0] at p3 p4 p5
  generalize setCells w4 ⟨n3, 0, none⟩ 0 [.int .u8 1, .int .u64 0, .int .u64 0, .int .u64 0, .int .u64 0, .slice none 0 0] = w5 at *
  obtain ⟨A, hA, q1, q2, q3, q4, q5⟩ := own_put (n := 1) p4 2 [.int .u64 (2 ^ (b - 64))] (by simp [reZ, wrL]) (by simp)
  injection hA with hA
  subst hA
  have e2 : ((Addr.mk n3 0 none).add 1).add (1 * 1) = (Addr.mk n3 0 none).add 2 := by rw [add_add]
  refine ⟨by simp; omega, p3, Bd_e (y := 1) (by rcases hb with rfl | rfl <;> rfl) <| Bd_e (y := ((b - 64 : Nat) : Int)) (by rcases hb with rfl | rfl <;> rfl) ⟨by omega, Bd_e (y := 2 ^ (b - 64)) (by rcases hb with rfl | rfl <;> rfl) ⟨⟨by omega, by omega⟩, ?_⟩⟩⟩
  rw [show (Int.toNat 1 * 1) = 1 * 1 from rfl, e2]
  have cl := World.ownsRow.cells q4 rfl
  refine ⟨by rw [add_block]; simp; omega, q3, Ld_in (cl 0 _ rfl) <| Ld_in (cl 1 _ rfl) <| Ld_in (cl 2 _ rfl) <| Ld_in (cl 3 _ rfl) <| Ld_in (cl 4 _ rfl) <| Ld_in (cl 5 _ rfl) <| opI_in <| opI_in <| opI_in <| opI_in <| opI_in <| opL_in ?_⟩
  intro w22 h22 _
  exact ⟨rfl, ((((h2.trans ma).old p5 (by simp; omega)).old q5 (by simp; omega)).old h22 (by simp; omega))⟩
/-! ### Are these a text's tags? -/
theorem f180_ok (st : Int) (l : List Ns) (A : Option Addr) (C : Nat) (s : List Nat) (hs : ∀ x ∈ s, x < 256) (wt : List Int) (B : Option Addr) (D : Nat) (w : World) (hr : RowAt w A 8 nsE l) (hl : l.length < 2 ^ 40) (hsl : s.length < 2 ^ 30) (hw : RowAt w B 1 i1 wt) :
    Ct Try.prog 180 #[.agg #[.int .i64 st, .slice A l.length C], .string (bytesOf s), .slice B wt.length D] w fun v w' => v = .bool (decide (runA st l s = (wt, 0))) ∧ Md [] w w' := by
  apply f180_in
  intro n1 hn1 w2 h2 hL2
  refine (f69_ok st l A C s hs w2 (hr.md h2) hl hsl).call hL2 ?_
  rintro v w4 ⟨a, c, rfl, own⟩ m4
  have m24 := h2.trans m4
  have ln : ∀ b ∈ [n1], b < w4.heap.size := fun b hb => Nat.lt_of_lt_of_le (hL2 b hb) m4.size
  have hlen : (runA st l s).1.length < 2 ^ 63 := by
    unfold runA
    split
    · simp only [nfRun, List.length_cons, runF_len]; omega
    · simp
  refine opTu_in <| opL_in <| opI_in <| SzIs_in rfl <| Bd_in fun b10 hb10 => ?_
  refine Gd_to (fun b w' => Md [] w w' ∧ (b10 = true → b = decide ((runA st l s).1 = wt))) (fun b15 w16 hJ => ?_) (fun fin hc => ?_) fun hc => ⟨m24, fun h => by rw [h] at hc; cases hc⟩
  · obtain ⟨m16, h15⟩ := hJ
    refine Bd_in fun b17 hb17 => ⟨?_, m16⟩
    rw [hb17]
    cases h : b10 with
    | false =>
      have : (runA st l s).2 ≠ 0 := by rw [hb10] at h; simpa using h
      simp only [cond_false]
      rw [decide_eq_false]
      intro e; rw [e] at this; exact this rfl
    | true =>
      have : (runA st l s).2 = 0 := by rw [hb10] at h; simpa using h
      simp only [cond_true]
      rw [h15 h]
      congr 1
      rw [Bool.eq_iff_iff]
      simp only [decide_eq_true_eq]
      constructor
      · intro e; rw [← e, ← this]
      · intro e; rw [e]
  · refine (f73_ok (runA st l s).1 wt a B c D w4 (own.row enci1) (hw.md m24) hlen).call ln ?_
    rintro v w13 rfl m13
    exact opB_in <| fin _ _ ⟨m24.trans m13, fun _ => rfl⟩
end Fk

/- First machines: calls in their places; the chapter's examples (awake). -/
set_option linter.unusedVariables false
set_option linter.unusedSimpArgs false
set_option maxRecDepth 100000
set_option maxHeartbeats 2000000
namespace Fk
open Go Go.Proofs Go.RowKit
theorem rgU {L : List Nat} {w0 w : World} {K : Nat → World → Prop} (h : Good L w0 w) (k : ∀ n w', Good (n :: L) w0 w' → Md [] w w' → K n w') : Rg w fun n => Up [n] (n :: L) w (K n) :=
  fun n hn w' hm hL => k n w' ⟨h.1.trans (hm.fresh (by simp; exact hn)), hL⟩ (hm.fresh (by simp; exact hn))
section
variable {L : List Nat} {w0 w : World}
theorem in66 (f : Fo) (A : Option Addr) (C : Nat) (most : Int) (h : Good L w0 w) (hr : RepF w A 0 f) (hl : f.len < 2 ^ 63) {K : Int → Option Addr → Nat → Nat → Int → World → Prop}
    (kk : ∀ a c w', Good L w0 w' → Md [] w w' → OwnL w' w.heap.size 103 8 nsE a c (bld f most).1.2 → K (bld f most).1.1 a (bld f most).1.2.length c (bld f most).2 w') :
    CallW Try.prog L 66 #[.slice A f.len C, .int .i64 most] (fun v w' => opTu v fun cs => opAg (nthD cs.toList 0) fun cs2 => opI .i64 (nthD cs2.toList 0) fun x => opL (nthD cs2.toList 1) fun a n c => SzIs cs2.size 2 (opI .i64 (nthD cs.toList 1) fun e => SzIs cs.size 2 (K x a n c e w'))) w := by
  refine (f66_ok f A C most w hr hl).call h.2 ?_
  rintro v w' ⟨a, c, rfl, own⟩ h'
  exact opTu_in <| opAg_in <| opI_in <| opL_in <| SzIs_in rfl <| opI_in <| SzIs_in rfl <| kk a c w' (h.tr h') h' own
theorem in78 (f : Fo) (A : Option Addr) (C : Nat) (most : Int) (h : Good L w0 w) (hr : RepF w A 0 f) (hl : f.len < 2 ^ 60) (hsz : f.size ≤ 5000) {K : Int → Option Addr → Nat → Nat → Int → World → Prop}
    (kk : ∀ a c w', Good L w0 w' → Md [] w w' → OwnL w' w.heap.size 103 8 nsE a c (bld f most).1.2 → K (bld f most).1.1 a (bld f most).1.2.length c (bld f most).2 w') :
    CallW Try.prog L 78 #[.slice A f.len C, .int .i64 most] (fun v w' => opTu v fun cs => opAg (nthD cs.toList 0) fun cs2 => opI .i64 (nthD cs2.toList 0) fun x => opL (nthD cs2.toList 1) fun a n c => SzIs cs2.size 2 (opI .i64 (nthD cs.toList 1) fun e => SzIs cs.size 2 (K x a n c e w'))) w := by
  refine (f78_ok f A C most w hr hl hsz).call h.2 ?_
  rintro v w' ⟨a, c, rfl, own⟩ h'
  exact opTu_in <| opAg_in <| opI_in <| opL_in <| SzIs_in rfl <| opI_in <| SzIs_in rfl <| kk a c w' (h.tr h') h' own
theorem in69 (st : Int) (l : List Ns) (A : Option Addr) (C : Nat) (s : List Nat) (hs : ∀ x ∈ s, x < 256) (h : Good L w0 w) (hr : RowAt w A 8 nsE l) (hl : l.length < 2 ^ 40) (hsl : s.length < 2 ^ 30) {K : Option Addr → Nat → Nat → Int → World → Prop}
    (kk : ∀ a c w', Good L w0 w' → Md [] w w' → OwnL w' w.heap.size 3 1 i1 a c (runA st l s).1 → K a (runA st l s).1.length c (runA st l s).2 w') :
    CallW Try.prog L 69 #[.agg #[.int .i64 st, .slice A l.length C], .string (bytesOf s)] (fun v w' => opTu v fun cs => opL (nthD cs.toList 0) fun a n c => opI .i64 (nthD cs.toList 1) fun e => SzIs cs.size 2 (K a n c e w')) w := by
  refine (f69_ok st l A C s hs w hr hl hsl).call h.2 ?_
  rintro v w' ⟨a, c, rfl, own⟩ h'
  exact opTu_in <| opL_in <| opI_in <| SzIs_in rfl <| kk a c w' (h.tr h') h' own
theorem in80 (st : Int) (l : List Ns) (A : Option Addr) (C : Nat) (s : List Nat) (hs : ∀ x ∈ s, x < 256) (h : Good L w0 w) (hr : RowAt w A 8 nsE l) (hl : l.length < 2 ^ 40) (hk : ∀ x ∈ l, 0 ≤ x.k) (hsl : s.length < 2 ^ 30) {K : Option Addr → Nat → Nat → Int → World → Prop}
    (kk : ∀ a c w', Good L w0 w' → Md [] w w' → OwnL w' w.heap.size 3 1 i1 a c (runA st l s).1 → K a (runA st l s).1.length c (runA st l s).2 w') :
    CallW Try.prog L 80 #[.agg #[.int .i64 st, .slice A l.length C], .string (bytesOf s)] (fun v w' => opTu v fun cs => opL (nthD cs.toList 0) fun a n c => opI .i64 (nthD cs.toList 1) fun e => SzIs cs.size 2 (K a n c e w')) w := by
  refine (f80_ok st l A C s hs w hr hl hk hsl).call h.2 ?_
  rintro v w' ⟨a, c, rfl, own⟩ h'
  exact opTu_in <| opL_in <| opI_in <| SzIs_in rfl <| kk a c w' (h.tr h') h' own
theorem in79 (s1 s2 : Int) (l1 l2 : List Ns) (A1 A2 : Option Addr) (C1 C2 : Nat) (h : Good L w0 w) (h1 : RowAt w A1 8 nsE l1) (h2 : RowAt w A2 8 nsE l2) (hl : l1.length < 2 ^ 40) {K : Bool → World → Prop} (kk : ∀ w', Good L w0 w' → Md [] w w' → K (nfSame s1 l1 s2 l2) w') :
    CallW Try.prog L 79 #[.agg #[.int .i64 s1, .slice A1 l1.length C1], .agg #[.int .i64 s2, .slice A2 l2.length C2]] (fun v w' => opB v fun b => K b w') w := by
  refine (f79_ok s1 s2 l1 l2 A1 A2 C1 C2 w h1 h2 hl).call h.2 ?_
  rintro v w' rfl h'
  exact opB_in (kk w' (h.tr h') h')
theorem in81 (st : Int) (l : List Ns) (A : Option Addr) (C : Nat) (h : Good L w0 w) (hr : RowAt w A 8 nsE l) (hl : l.length < 2 ^ 40) {K : Bool → World → Prop} (kk : ∀ w', Good L w0 w' → Md [] w w' → K (nfRight st l) w') :
    CallW Try.prog L 81 #[.agg #[.int .i64 st, .slice A l.length C]] (fun v w' => opB v fun b => K b w') w := by
  refine (f81_ok st l A C w hr (by omega)).call h.2 ?_
  rintro v w' rfl h'
  exact opB_in (kk w' (h.tr h') h')
theorem in82 (st : Int) (l : List Ns) (A : Option Addr) (C : Nat) (h : Good L w0 w) (hr : RowAt w A 8 nsE l) (hl : l.length < 2 ^ 40) (hk : ∀ x ∈ l, 0 ≤ x.k) {K : Bool → World → Prop} (kk : ∀ w', Good L w0 w' → Md [] w w' → K (nfRight st l) w') :
    CallW Try.prog L 82 #[.agg #[.int .i64 st, .slice A l.length C]] (fun v w' => opB v fun b => K b w') w := by
  refine (f82_ok st l A C w hr (by omega) hk).call h.2 ?_
  rintro v w' rfl h'
  exact opB_in (kk w' (h.tr h') h')
theorem in73 (a b : List Int) (A B : Option Addr) (C D : Nat) (h : Good L w0 w) (ha : RowAt w A 1 i1 a) (hb : RowAt w B 1 i1 b) (hl : a.length < 2 ^ 63) {K : Bool → World → Prop} (kk : ∀ w', Good L w0 w' → Md [] w w' → K (decide (a = b)) w') :
    CallW Try.prog L 73 #[.slice A a.length C, .slice B b.length D] (fun v w' => opB v fun b => K b w') w := by
  refine (f73_ok a b A B C D w ha hb hl).call h.2 ?_
  rintro v w' rfl h'
  exact opB_in (kk w' (h.tr h') h')
theorem in68 (s : List Nat) (n : Nat) (h : Good L w0 w) {K : ByteArray → World → Prop} (kk : ∀ w', Good L w0 w' → Md [] w w' → K (bytesOf (s.take n)) w') :
    CallW Try.prog L 68 #[.string (bytesOf s), .int .i64 (n : Int)] (fun v w' => opStr v fun b => K b w') w := by
  refine (f68_ok s n w).call h.2 ?_
  rintro v w' rfl h'
  exact opStr_in (kk w' (h.tr h') h')
theorem in179 (b : Nat) (m : Int) (hb : (b = 97 ∧ m = 8589934592) ∨ (b = 98 ∧ m = 17179869184)) (h : Good L w0 w) {K : Int → Int → Int → Int → Int → Option Addr → Nat → Nat → World → Prop} (kk : ∀ w', Good L w0 w' → Md [] w w' → K 1 0 m 0 0 none 0 0 w') :
    CallW Try.prog L 179 #[.int .u8 (b : Int)] (fun v w' => opAg v fun cs => opI .u8 (nthD cs.toList 0) fun x4 => opI .u64 (nthD cs.toList 1) fun x5 => opI .u64 (nthD cs.toList 2) fun x6 => opI .u64 (nthD cs.toList 3) fun x7 => opI .u64 (nthD cs.toList 4) fun x8 => opL (nthD cs.toList 5) fun a n c => SzIs cs.size 6 (K x4 x5 x6 x7 x8 a n c w')) w := by
  refine (f179_ok b (hb.imp And.left And.left) w).call h.2 ?_
  rintro v w' rfl h'
  have e : (2 : Int) ^ (b - 64) = m := by rcases hb with ⟨rfl, rfl⟩ | ⟨rfl, rfl⟩ <;> rfl
  rw [e]
  exact opAg_in <| opI_in <| opI_in <| opI_in <| opI_in <| opI_in <| opL_in <| SzIs_in rfl <| kk w' (h.tr h') h'
theorem in180 (st : Int) (l : List Ns) (A : Option Addr) (C : Nat) (s : List Nat) (wt : List Int) (B : Option Addr) (D : Nat) (hs : ∀ x ∈ s, x < 256) (h : Good L w0 w) (hr : RowAt w A 8 nsE l) (hl : l.length < 2 ^ 40) (hsl : s.length < 2 ^ 30) (hw : RowAt w B 1 i1 wt) {K : Bool → World → Prop} (kk : ∀ w', Good L w0 w' → Md [] w w' → K (decide (runA st l s = (wt, 0))) w') :
    CallW Try.prog L 180 #[.agg #[.int .i64 st, .slice A l.length C], .string (bytesOf s), .slice B wt.length D] (fun v w' => opB v fun b => K b w') w := by
  refine (f180_ok st l A C s hs wt B D w hr hl hsl hw).call h.2 ?_
  rintro v w' rfl h'
  exact opB_in (kk w' (h.tr h') h')
end
/-! ### The examples -/
def exF : Fo := .cons 1 0 17179869184 0 0 .nil (.cons 4 0 0 0 0 (.cons 1 0 8589934592 0 0 .nil .nil) .nil)
def exS : List Ns := [⟨0, 0, 0, 0, 0, 0, 0, 0⟩, ⟨1, 0, 17179869184, 0, 0, 0, 0, 0⟩, ⟨0, 0, 0, 0, 0, 0, 0, 1⟩, ⟨2, 0, 0, 0, 0, 4, 2, 0⟩, ⟨1, 0, 8589934592, 0, 0, 3, 0, 0⟩, ⟨2, 0, 0, 0, 0, 1, 3, 0⟩]
theorem ex_bld6 : bld exF 6 = ((5, exS), 0) := by kernel_rfl
theorem ex_bld5 : bld exF 5 = ((0, []), 40) := by kernel_rfl
theorem ex_run1 : decide (runA 5 exS [98] = ([1, 0], 0)) = true := by kernel_rfl
theorem ex_run2 : decide (runA 5 exS [97, 97, 98] = ([1, 1, 1, -1], 0)) = true := by kernel_rfl
theorem ex_run3 : decide (runA 5 exS [] = ([1], 0)) = true := by kernel_rfl
theorem ex_same : nfSame 5 exS 5 exS = true := by unfold nfSame; simp
def o42a (m : Int) : Obj := .cells #[.int .u8 1, .int .u64 0, .int .u64 m, .int .u64 0, .int .u64 0, .slice none 0 0] 42
def o42b (m : Int) (n : Nat) : Obj := .cells #[.int .u8 1, .int .u64 0, .int .u64 m, .int .u64 0, .int .u64 0, .slice none 0 0, .int .u8 4, .int .u64 0, .int .u64 0, .int .u64 0, .int .u64 0, .slice (some ⟨n, 0, none⟩) 1 1] 42
theorem ReC.blk {w : World} {n : Nat} {ty : TypeId} {l : List Value} (h : Blk w n ty l) (o : Nat) {k a b c d : Int} {sa : Option Addr} {sn sc : Nat}
    (e0 : l[o]? = some (.int .u8 k)) (e1 : l[o + 1]? = some (.int .u64 a)) (e2 : l[o + 2]? = some (.int .u64 b)) (e3 : l[o + 3]? = some (.int .u64 c)) (e4 : l[o + 4]? = some (.int .u64 d)) (e5 : l[o + 5]? = some (.slice sa sn sc)) :
    ReC w ((Addr.mk n 0 none).add o) k a b c d sa sn sc := by
  have e : ∀ j, ((Addr.mk n 0 none).add o).add j = ⟨n, o + j, none⟩ := fun j => by rw [add_add, ad0']
  unfold ReC
  rw [e, e, e, e, e, e]
  exact ⟨h.cell e0, h.cell e1, h.cell e2, h.cell e3, h.cell e4, h.cell e5⟩
theorem exRep (w : World) : RepF ((w.alloc (o42a 8589934592)).alloc (o42b 17179869184 w.heap.size)) (some ⟨(w.alloc (o42a 8589934592)).heap.size, 0, none⟩) 0 exF := by
  have b1 : Blk (w.alloc (o42a 8589934592)) w.heap.size 42 _ := Blk.new w _ 42
  have b2 : Blk ((w.alloc (o42a 8589934592)).alloc (o42b 17179869184 w.heap.size)) (w.alloc (o42a 8589934592)).heap.size 42 _ := Blk.new (w.alloc (o42a 8589934592)) _ 42
  have b1' := b1.md (Md.alloc (M := []) _ (o42b 17179869184 w.heap.size)) (by simp)
  simp only [exF, RepF, Fo.len]
  refine ⟨⟨_, none, 0, rfl, ReC.blk b2 0 rfl rfl rfl rfl rfl rfl, by omega, trivial⟩, ⟨_, _, 1, rfl, ReC.blk b2 6 rfl rfl rfl rfl rfl rfl, by omega, ⟨_, none, 0, rfl, ReC.blk b1' 0 rfl rfl rfl rfl rfl rfl, by omega, trivial⟩, trivial⟩, trivial⟩
theorem Nw_cs {cs cs' : Array Value} {ty : TypeId} {w : World} {K : Nat → World → Prop} (h : cs' = cs) (k : K w.heap.size (w.alloc (.cells cs ty))) : Nw (.cells cs' ty) w K := by
  subst h
  exact Nw_i k
theorem f77_ok (w : World) : Ct Try.prog 77 #[] w fun v w' => v = .bool true ∧ Md [] w w' := by
  apply f77_in
  have g0 : Good [] w w := ⟨Md.refl _ _, by simp⟩
  refine in179 97 8589934592 (.inl ⟨rfl, rfl⟩) g0 fun w2 g2 _ => in179 98 17179869184 (.inr ⟨rfl, rfl⟩) g2 fun w13 g13 _ => ?_
  intro n23 h23 n24 h24 w25 h25 hL25
  have g25 : Good [n24, n23] w w25 := ⟨g13.1.trans (h25.fresh (by simp; omega)), hL25⟩
  refine Nw_i <| Nw_i ?_
  have m29 : Md [] w25 ((w25.alloc (o42a 8589934592)).alloc (o42b 17179869184 w25.heap.size)) := (Md.alloc w25 _).trans (Md.alloc _ _)
  have r29 := exRep w25
  change CallW _ _ _ _ _ ((w25.alloc (o42a 8589934592)).alloc (o42b 17179869184 w25.heap.size))
  refine in66 exF _ 2 6 (g25.tr m29) r29 (by decide) fun a c w31 g31 m31 own31 => ?_
  rw [ex_bld6] at own31 ⊢
  refine rgU g31 fun n39 w40 g40 m40 => ?_
  have own40 := own31.md m40
  refine Nw_i <| Nw_i ?_
  have m44 : Md [] w40 ((w40.alloc (o42a 8589934592)).alloc (o42b 17179869184 w40.heap.size)) := (Md.alloc w40 _).trans (Md.alloc _ _)
  have r44 := exRep w40
  change CallW _ _ _ _ _ ((w40.alloc (o42a 8589934592)).alloc (o42b 17179869184 w40.heap.size))
  have own44 := own40.md m44
  refine in66 exF _ 2 5 (g40.tr m44) r44 (by decide) fun a2 c2 w46 g46 m46 own46 => ?_
  rw [ex_bld5] at own46 ⊢
  refine rgU g46 fun n54 w55 g55 m55 => ?_
  have row55 := (((own44.md m46).md m55).row encNs)
  refine Nw_cs (cs := List.toArray (exS.flatMap nsE)) rfl ?_
  have m57 : Md [] w55 (w55.alloc (.cells (List.toArray (exS.flatMap nsE)) 103)) := Md.alloc w55 _
  have ol := OwnL.lit (P := Try.prog) (base := w55.heap.size) encNs w55 103 exS (List.toArray (exS.flatMap nsE)) (Nat.le_refl _) (by decide) (by simp)
  have g57 := g55.tr m57
  have row57 := row55.md m57
  have row57' := ol.row encNs
  generalize w55.alloc (.cells (List.toArray (exS.flatMap nsE)) 103) = w57 at *
  intro n58 h58
  refine Bd_e (y := true) rfl <| Bd_e (y := true) rfl <| Bd_e (y := true) rfl fun w62 h62 hL62 => ?_
  have m62 : Md [] w57 w62 := h62.fresh (by simp; exact h58)
  have g62 : Good [n58, n54, n39, n24, n23] w w62 := ⟨g57.1.trans m62, hL62⟩
  have row62 := row57.md m62
  refine Gd_in (fun _ => in79 5 5 exS exS _ _ _ _ g62 row62 (row57'.md m62) (by decide) fun w65 g65 m65 => ?_) (fun h => by cases h)
  rw [ex_same]
  have row65 := row62.md m65
  refine Bd_e (y := true) rfl <| Gd_in (fun _ => Nw_i ?_) (fun h => by cases h)
  have o1 := OwnL.lit (P := Try.prog) (base := w65.heap.size) enci1 w65 3 [1, 0] #[.int .i64 1, .int .i64 0] (Nat.le_refl _) (by decide) rfl
  have ma1 : Md [] w65 (w65.alloc (.cells #[.int .i64 1, .int .i64 0] 3)) := Md.alloc w65 _
  refine Gd_in (fun _ => in180 5 exS _ _ [98] [1, 0] _ _ (by decide) (g65.tr ma1) (row65.md ma1) (by decide) (by decide) (o1.row enci1) fun w77 g77 m77 => ?_) (fun h => by cases h)
  rw [ex_run1]
  have row77 := (row65.md ma1).md m77
  refine Bd_e (y := true) rfl <| Gd_in (fun _ => Nw_i ?_) (fun h => by cases h)
  have o2 := OwnL.lit (P := Try.prog) (base := w77.heap.size) enci1 w77 3 [1, 1, 1, -1] #[.int .i64 1, .int .i64 1, .int .i64 1, .int .i64 (-1)] (Nat.le_refl _) (by decide) rfl
  have ma2 : Md [] w77 (w77.alloc (.cells #[.int .i64 1, .int .i64 1, .int .i64 1, .int .i64 (-1)] 3)) := Md.alloc w77 _
  refine Gd_in (fun _ => in180 5 exS _ _ [97, 97, 98] [1, 1, 1, -1] _ _ (by decide) (g77.tr ma2) (row77.md ma2) (by decide) (by decide) (o2.row enci1) fun w89 g89 m89 => ?_) (fun h => by cases h)
  rw [ex_run2]
  have row89 := (row77.md ma2).md m89
  refine Bd_e (y := true) rfl <| Gd_in (fun _ => Nw_i ?_) (fun h => by cases h)
  have o3 := OwnL.lit (P := Try.prog) (base := w89.heap.size) enci1 w89 3 [1] #[.int .i64 1] (Nat.le_refl _) (by decide) rfl
  have ma3 : Md [] w89 (w89.alloc (.cells #[.int .i64 1] 3)) := Md.alloc w89 _
  refine Gd_in (fun _ => in180 5 exS _ _ [] [1] _ _ (by decide) (g89.tr ma3) (row89.md ma3) (by decide) (by decide) (o3.row enci1) fun w101 g101 m101 => ?_) (fun h => by cases h)
  rw [ex_run3]
  exact Bd_e (y := true) rfl ⟨rfl, g101.1⟩
end Fk

