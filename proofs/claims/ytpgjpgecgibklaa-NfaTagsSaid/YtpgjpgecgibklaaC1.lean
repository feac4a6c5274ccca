/- Contracts: whether a regular tree may be (the program's answer, and the document's). -/
import Derived.Test.YtpgjpgecgibklaaTT
import Derived.Test.YtpgjpgecgibklaaC0
set_option linter.unusedVariables false
set_option linter.unusedSimpArgs false
set_option maxRecDepth 4000
namespace Fk
open Go Go.Proofs Go.RowKit
/-- Is a set empty? -/
def z4 (a b c d : Int) : Bool := decide ([a, b, c, d] = [0, 0, 0, 0])
def nodeOk (k : Int) (z : Bool) (n : Nat) : Bool :=
  (decide (k = 0) && decide (n = 0) && z) || (decide (k = 1) && decide (n = 0) && !z) || ((decide (k = 2) || decide (k = 3)) && decide (2 ≤ n) && z) || (decide (k = 4) && decide (n = 1) && z)
def Fo.right : Fo → Bool
  | .nil => true
  | .cons k a b c d q r => nodeOk k (z4 a b c d) q.len && q.right && r.right
theorem nodeOk_eq {k p q : Int} {n : Nat} (z : Bool) (hpq : ((k = 2 ∨ k = 3) ∧ p = 2 ∧ q = n) ∨ (k = 4 ∧ p = 1 ∧ q = 1) ∨ ((k = 0 ∨ k = 1) ∧ p = 0 ∧ q = 0)) :
    nodeOk k z n = (!(decide ((n : Int) < p ∨ (n : Int) > q)) && !((k == 1) == z)) := by
  rw [Bool.eq_iff_iff]
  rcases hpq with ⟨hk | hk, rfl, rfl⟩ | ⟨hk, rfl, rfl⟩ | ⟨hk | hk, rfl, rfl⟩ <;> subst hk <;> cases z <;> simp [nodeOk] <;> omega
theorem f144_ok : ∀ (s : Nat) (fo : Fo) (k a b c d : Int) (sa : Option Addr) (sc : Nat) (w : World), fo.size ≤ s → RepF w sa 0 fo → fo.len < 2 ^ 63 →
    Ct Try.prog 144 #[.agg #[.int .u8 k, .int .u64 a, .int .u64 b, .int .u64 c, .int .u64 d, .slice sa fo.len sc]] w
      fun v w' => v = .bool (nodeOk k (z4 a b c d) fo.len && fo.right) ∧ Md [] w w' := by
  intro s
  induction s with
  | zero => ?_
  | succ s ih => ?_
  all_goals
    intro fo k a b c d sa sc w hs hr hl
    apply f144_in
    intro n1 hn1
    refine Jn_in (fun us vs w' => Md [] w w' ∧ n1 < w'.heap.size ∧ ∃ (p q : Int) (b1 b2 : Bool), us = [.int .i64 p, .int .i64 q, .bool b1, .bool b2] ∧
      (((k = 2 ∨ k = 3) ∧ p = 2 ∧ q = fo.len) ∨ (k = 4 ∧ p = 1 ∧ q = 1) ∨ ((k = 0 ∨ k = 1) ∧ p = 0 ∧ q = 0))) ?_ ?_
    rotate_left
    · refine Jn_in (fun us vs w' => Md [] w w' ∧ n1 < w'.heap.size ∧ us = [.bool (decide (k = 2 ∨ k = 3))]) ?_ ?_
      · rintro us vs w55 ⟨h55, hn55, rfl⟩
        refine opB_in <| If_in (fun hb => Bd_in fun x57 hx57 => ⟨h55.trans (Md_drew _), hn55, _, _, _, _, rfl, .inl ⟨by simpa using hb, rfl, hx57⟩⟩) fun hb => ?_
        refine Bd_in fun b58 hb58 => If_in (fun h => ⟨h55, hn55, _, _, _, _, rfl, .inr (.inl ⟨by rw [hb58] at h; simpa using h, rfl, rfl⟩)⟩) fun h58 => ?_
        refine Jn_in (fun us vs w' => Md [] w w' ∧ n1 < w'.heap.size ∧ us = [.bool (decide (k = 0 ∨ k = 1))]) ?_ ?_
        · rintro us vs w61 ⟨h61, hn61, rfl⟩
          refine opB_in <| If_in (fun h => ⟨h61, hn61, _, _, _, _, rfl, .inr (.inr ⟨by simpa using h, rfl, rfl⟩)⟩) fun h => ⟨?_, h61⟩
          rw [hb58] at h58
          simp at hb h58 h
          simp [nodeOk, hb, h58, h]
        · refine Bd_in fun b64 hb64 => If_in (fun h => ⟨h55, hn55, ?_⟩) fun h => Bd_in fun b65 hb65 => ⟨h55, hn55, ?_⟩
          · rw [hb64] at h ⊢; simp at h; simp [h]
          · rw [hb64] at h; rw [hb65]; simp at h; simp [h]
            exact (Bool.beq_eq_decide_eq k 1)
      · refine Bd_in fun b67 hb67 => If_in (fun h w68 h68 hL => ⟨h68, hL _ (by simp), ?_⟩) fun h => Bd_in fun b69 hb69 w70 h70 hL => ⟨h70, hL _ (by simp), ?_⟩
        · rw [hb67] at h ⊢; simp at h; simp [h]
        · rw [hb67] at h; rw [hb69]; simp at h; simp [h]
          exact (Bool.beq_eq_decide_eq k 3)
    rintro us vs w4 ⟨h4, hn4, p, q, b1, b2, rfl, hpq⟩
    refine opI_in <| opI_in <| opB_in <| opB_in <| Bd_in fun x9 hx9 => Bd_in fun b10 hb10 => Bd_in fun x11 hx11 => Bd_in fun b12 hb12 => Bd_in fun b13 hb13 => Bd_in fun b14 hb14 => ?_
    have e13 : b13 = decide ((fo.len : Int) < p ∨ (fo.len : Int) > q) := by
      rw [hb13, hb12, hb10, hx9, hx11]
      by_cases h : (fo.len : Int) < p <;> simp [h]
    have hno := nodeOk_eq (z4 a b c d) hpq
    rw [← e13, ← hb14] at hno
    refine Gd_to (fun y w' => (b13 = false → y = z4 a b c d) ∧ Md [] w w' ∧ n1 < w'.heap.size) (fun y w20 hy => ?_) (fun fin hg => ?_) fun hg => ⟨fun h => by rw [h] at hg; simp at hg, h4.trans (Md_drew _), hn4⟩
    rotate_left
    · exact RunW_in0 (eq28 ..) (opB_in (fin _ _ ⟨fun _ => rfl, h4.trans (Md_drew _), hn4⟩))
    obtain ⟨hy, h20, hn20⟩ := hy
    refine Bd_in fun b21 hb21 => Bd_in fun b22 hb22 => If_in (fun h => ⟨?_, h20⟩) fun h22 => ?_
    · cases h13 : b13 with
      | true => simp [hno, h13]
      | false =>
        rw [hb22, hb21, h13, hy h13] at h
        simp only [cond_false] at h
        simp [hno, h]
    have hnode : nodeOk k (z4 a b c d) fo.len = true := by
      cases h13 : b13 with
      | true => rw [hb22, h13] at h22; simp at h22
      | false =>
        rw [hb22, hb21, h13, hy h13] at h22
        simp only [cond_false] at h22
        simp [hno, h13, h22]
    refine Bd_in fun x23 hx23 => ?_
    subst hx23
    refine LoopP_in (fun m us vs w' => ∃ (i : Nat) (r : Fo), us = [.bool b1, .int .i64 i] ∧ vs = [] ∧ m = r.len ∧ i + r.len = fo.len ∧ r.size ≤ fo.size ∧ RepF w sa i r ∧ Md [] w w' ∧ n1 < w'.heap.size ∧ fo.right = r.right)
      fo.len ⟨0, fo, rfl, rfl, rfl, by omega, by omega, hr, h20, hn20, rfl⟩ ?_
    rintro m us vs w7 ⟨i, r, rfl, rfl, rfl, hi, hrs, hri, h7, hn7, hrr⟩
    refine opB_in <| opI_in ?_
    refine Bd_in fun b30 hb30 => If_in (fun hb => ?_) fun hb => ⟨?_, h7⟩
    rotate_left
    · subst hb30
      simp only [decide_eq_false_iff_not, Int.ofNat_lt] at hb
      rw [hnode, hrr]
      cases r with
      | nil => rfl
      | cons => simp only [Fo.len] at hi; omega
    subst hb30
    simp only [decide_eq_true_eq, Int.ofNat_lt] at hb
    cases r with
    | nil => simp [Fo.len] at hi; omega
    | cons k' a' b' c' d' q' r' => ?_
    obtain ⟨B, sa', sc', rfl, hc', hql, hq, hr'⟩ := hri.at
    simp only [Fo.len, Fo.size] at hi hrs
  · omega
  · refine ⟨⟨by omega, by omega, rfl⟩, ?_⟩
    refine ReC.ld (hc'.md h7) ?_
    intro n45 hn45 w46 h46 hL46
    have h46' := h7.old h46 (by simpa using Nat.le_trans h7.size hn45)
    refine (ih q' _ _ _ _ _ _ _ _ (by omega) (hq.md h46') hql).call hL46 ?_
    rintro v29 w48 rfl h48
    have hn48 : n1 < w48.heap.size := Nat.lt_of_lt_of_le (hL46 n1 (by simp)) h48.size
    refine opB_in <| Bd_in fun b50 hb50 => If_in (fun h => ⟨?_, h46'.trans h48⟩) fun h => Bd_in fun x51 hx51 => ?_
    · rw [hb50] at h; simp at h
      rw [hrr, Fo.right]
      rcases h with h | h <;> simp [h]
    · have e : x51 = ((i + 1 : Nat) : Int) := by rw [hx51, IntKind.wrap_i64]; omega
      subst e
      rw [hb50] at h; simp at h
      exact ⟨r'.len, by simp [Fo.len], i + 1, r', rfl, rfl, rfl, by omega, by omega, hr', h46'.trans h48, hn48, by rw [hrr, Fo.right]; simp [h]⟩

theorem f147_ok : ∀ (s : Nat) (fo : Fo) (k a b c d : Int) (sa : Option Addr) (sc : Nat) (w : World), fo.size ≤ s → RepF w sa 0 fo → fo.len < 2 ^ 63 →
    Ct Try.prog 147 #[.agg #[.int .u8 k, .int .u64 a, .int .u64 b, .int .u64 c, .int .u64 d, .slice sa fo.len sc]] w
      fun v w' => v = .bool (nodeOk k (z4 a b c d) fo.len && fo.right) ∧ Md [] w w' := by
  intro s
  induction s with
  | zero => ?_
  | succ s ih => ?_
  all_goals
    intro fo k a b c d sa sc w hs hr hl
    apply f147_in
    intro n1 hn1 n2 hn2
    refine Bd_in fun x3 hx3 => ?_
    subst hx3
    have n0 : (fo.len : Int) = 0 ↔ fo.len = 0 := by omega
    have n1' : (fo.len : Int) = 1 ↔ fo.len = 1 := by omega
    have n2' : (2 : Int) ≤ (fo.len : Int) ↔ 2 ≤ fo.len := by omega
    refine Jn_in (fun us vs w' => Md [] w w' ∧ (∀ x ∈ [n2, n1], x < w'.heap.size) ∧ ∃ b2, us = [.bool (nodeOk k (z4 a b c d) fo.len), .bool b2]) ?_ ?_
    rotate_left
    · refine Bd_in fun b36 hb36 => If_in (fun hb => ?_) fun hk0 => Bd_in fun b46 hb46 => If_in (fun hb => ?_) fun hk1 => ?_
      · have hk : k = 0 := by rw [hb36] at hb; simpa using hb
        subst hk
        refine Bd_in fun b37 hb37 w38 h38 hL => ?_
        refine Gd_to (fun x w' => (b37 = true → x = z4 a b c d) ∧ w' = w38) ?_ (fun fin _ => RunW_in0 (eq28 ..) <| opB_in <| fin _ _ ⟨fun _ => rfl, rfl⟩) fun h => ⟨fun h' => by simp [h] at h', rfl⟩
        rintro x w44 ⟨hx, rfl⟩
        refine Bd_in fun b45 hb45 => ⟨h38, hL, b36, ?_⟩
        rw [hb45]
        cases h : b37 <;> rw [hb37] at h <;> simp [n0] at h <;> simp [h, nodeOk, hx, hb37]
      · have hk : k = 1 := by rw [hb46] at hb; simpa using hb
        subst hk
        refine Bd_in fun b37 hb37 w38 h38 hL => ?_
        refine Gd_to (fun x w' => (b37 = true → x = !z4 a b c d) ∧ w' = w38) ?_ (fun fin _ => RunW_in0 (ne28 ..) <| opB_in <| fin _ _ ⟨fun _ => rfl, rfl⟩) fun h => ⟨fun h' => by simp [h] at h', rfl⟩
        rintro x w44 ⟨hx, rfl⟩
        refine Bd_in fun b45 hb45 => ⟨h38, hL, b36, ?_⟩
        rw [hb45]
        cases h : b37 <;> rw [hb37] at h <;> simp [n0] at h <;> simp [h, nodeOk, hx, hb37]
      · have hk0 : k ≠ 0 := by rw [hb36] at hk0; simpa using hk0
        have hk1 : k ≠ 1 := by rw [hb46] at hk1; simpa using hk1
        refine Jn_in (fun us vs w' => Md [] w w' ∧ (∀ x ∈ [n2, n1], x < w'.heap.size) ∧ us = [.bool (decide (k = 2 ∨ k = 3))]) ?_ ?_
        · rintro us vs w58 ⟨h58, hL, rfl⟩
          refine opB_in <| If_in (fun hk => Bd_in fun b60 hb60 => ?_) fun hk => Bd_in fun b68 hb68 => If_in (fun hb => Bd_in fun b69 hb69 => ?_) fun hb => ⟨h58, hL, b36, ?_⟩
          · refine Gd_to (fun x w' => (b60 = true → x = z4 a b c d) ∧ w' = w58) ?_ (fun fin _ => RunW_in0 (eq28 ..) <| opB_in <| fin _ _ ⟨fun _ => rfl, rfl⟩) fun h => ⟨fun h' => by simp [h] at h', rfl⟩
            rintro x w44 ⟨hx, rfl⟩
            refine Bd_in fun b45 hb45 => ⟨h58, hL, b36, ?_⟩
            rw [hb45]
            simp only [decide_eq_true_eq] at hk
            have hd : decide (2 ≤ fo.len) = b60 := by rw [hb60]; simp [n2']
            clear hb60
            rcases hk with hk | hk <;> subst hk <;> cases b60 <;> simp [nodeOk, hd, hx]
          · have hk4 : k = 4 := by rw [hb68] at hb; simpa using hb
            subst hk4
            refine Gd_to (fun x w' => (b69 = true → x = z4 a b c d) ∧ w' = w58) ?_ (fun fin _ => RunW_in0 (eq28 ..) <| opB_in <| fin _ _ ⟨fun _ => rfl, rfl⟩) fun h => ⟨fun h' => by simp [h] at h', rfl⟩
            rintro x w44 ⟨hx, rfl⟩
            refine Bd_in fun b45 hb45 => ⟨h58, hL, b36, ?_⟩
            rw [hb45]
            cases h : b69 <;> rw [hb69] at h <;> simp [n1'] at h <;> simp [h, nodeOk, hx, hb69]
          · rw [hb68] at hb
            simp at hk hb
            simp [nodeOk, hk, hb, hk0, hk1]
        · refine Bd_in fun b67 hb67 => If_in (fun h w68 h68 hL => ⟨h68, hL, ?_⟩) fun h => Bd_in fun b69 hb69 w70 h70 hL => ⟨h70, hL, ?_⟩
          · rw [hb67] at h ⊢; simp at h; simp [h]
          · rw [hb67] at h; rw [hb69]; simp at h; simp [h]
            exact (Bool.beq_eq_decide_eq k 3)
    rintro us vs w6 ⟨h6, hL6, b2, rfl⟩
    refine opB_in <| opB_in ?_
    refine LoopP_in (fun m us vs w' => ∃ (i : Nat) (r : Fo) (ok : Bool), us = [.bool ok, .int .i64 i] ∧ vs = [] ∧ m = r.len ∧ i + r.len = fo.len ∧ r.size ≤ fo.size ∧ RepF w sa i r ∧ Md [] w w' ∧ (∀ x ∈ [n2, n1], x < w'.heap.size) ∧
        (nodeOk k (z4 a b c d) fo.len && fo.right) = (ok && r.right))
      fo.len ⟨0, fo, _, rfl, rfl, rfl, by omega, by omega, hr, h6, hL6, rfl⟩ ?_
    rintro m us vs w7 ⟨i, r, ok, rfl, rfl, rfl, hi, hrs, hri, h7, hL7, hrr⟩
    refine opB_in <| opI_in ?_
    refine Bd_in fun b15 hb15 => Bd_in fun b16 hb16 => If_in (fun hb => ?_) fun hb => ⟨?_, h7⟩
    rotate_left
    · rw [hb16, hb15] at hb
      rw [hrr]
      cases r with
      | nil => simp [Fo.right]
      | cons => simp only [Fo.len] at hi; rw [decide_eq_true (by omega)] at hb; simp at hb; simp [hb]
    rw [hb16, hb15] at hb
    simp only [Bool.cond_eq_ite, decide_eq_true_eq, Int.ofNat_lt] at hb
    have hb0 : i < fo.len := by
      by_cases h : i < fo.len
      · exact h
      · simp [h] at hb
    simp only [hb0, if_true] at hb
    subst hb
    cases r with
    | nil => simp [Fo.len] at hi; omega
    | cons k' a' b' c' d' q' r' => ?_
    obtain ⟨B, sa', sc', rfl, hc', hql, hq, hr'⟩ := hri.at
    simp only [Fo.len, Fo.size] at hi hrs
  · omega
  · refine ⟨⟨by omega, by omega, rfl⟩, ?_⟩
    refine ReC.ld (hc'.md h7) ?_
    refine (ih q' _ _ _ _ _ _ _ _ (by omega) (hq.md h7) hql).call hL7 ?_
    rintro v29 w48 rfl h48
    refine opB_in <| Bd_in fun x51 hx51 => ?_
    have e : x51 = ((i + 1 : Nat) : Int) := by rw [hx51, IntKind.wrap_i64]; omega
    subst e
    exact ⟨r'.len, by simp [Fo.len], i + 1, r', _, rfl, rfl, rfl, by omega, by omega, hr', h7.trans h48, fun x hx => Nat.lt_of_lt_of_le (hL7 x hx) h48.size, by rw [hrr, Fo.right]; simp⟩
end Fk
