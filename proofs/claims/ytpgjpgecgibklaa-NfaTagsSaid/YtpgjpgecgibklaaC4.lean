/- Contracts: classes, which of them are right, and a class's first byte. -/
import Derived.Test.YtpgjpgecgibklaaC3
set_option linter.unusedVariables false
set_option linter.unusedSimpArgs false
set_option maxRecDepth 4000
namespace Fk
open Go Go.Proofs Go.RowKit
/-- Classes: of each byte, and how many. -/
structure Cl where
  f : List Nat
  m : Int
structure Cl.ok (c : Cl) : Prop where
  len : c.f.length = 256
  lt : ∀ i (h : i < c.f.length), c.f[i] < 256
  lo : -9223372036854775808 ≤ c.m
  hi : c.m ≤ 9223372036854775807
def Cl.l (c : Cl) : List Value := c.f.map (fun x => .int .u8 (x : Int)) ++ [.int .i64 c.m]
def Cl.v (c : Cl) : Array Value := c.l.toArray
theorem Cl.ok.size {c : Cl} (h : c.ok) : c.v.size = 257 := by simp [Cl.v, Cl.l, h.len]
theorem Cl.ok.nth {c : Cl} (h : c.ok) {i : Nat} (hi : i < c.f.length) : nthV c.v.toList i = some (.int .u8 (c.f[i] : Int)) := by
  simp [nthV, Cl.v, Cl.l, List.getElem?_append_left, hi]
theorem Cl.ok.nth' {c : Cl} (h : c.ok) {i : Nat} (hi : i < c.f.length) : nthV c.v.toList (0 + (i : Int).toNat * 1) = some (.int .u8 (c.f[i] : Int)) := by
  simp only [Int.toNat_natCast, Nat.zero_add, Nat.mul_one]
  exact h.nth hi
theorem Cl.ok.many {c : Cl} (h : c.ok) : nthV c.v.toList 256 = some (.int .i64 c.m) := by
  simp [nthV, Cl.v, Cl.l, h.len]
theorem Cl.ok.manyI {c : Cl} (h : c.ok) : isI .i64 c.v.toList 256 ∧ rdI c.v.toList 256 = c.m := by
  have := h.many
  unfold nthV at this
  exact ⟨⟨_, this⟩, by unfold rdI; rw [this]⟩
theorem Cl.ok.nthI {c : Cl} (h : c.ok) {i : Nat} (hi : i < c.f.length) : isI .u8 c.v.toList (0 + (i : Int).toNat * 1) ∧ rdI c.v.toList (0 + (i : Int).toNat * 1) = (c.f[i] : Int) := by
  have := h.nth' hi
  unfold nthV at this
  exact ⟨⟨_, this⟩, by unfold rdI; rw [this]⟩
theorem wrap_byte {x : Nat} (h : x < 256) : IntKind.wrap .i64 (x : Int) = x := by rw [IntKind.wrap_i64]; omega
theorem inc_i64 {i : Nat} (h : i < 2 ^ 40) : IntKind.wrap .i64 ((i : Int) + 1) = ((i + 1 : Nat) : Int) := by rw [IntKind.wrap_i64]; omega

/-! ### Right, as the program asks it -/
def rightGo : List Nat → Nat → Option Nat
  | [], n => some n
  | x :: l, n => if n < x then none else if x = n then rightGo l (n + 1) else rightGo l n
def Cl.right (c : Cl) : Bool := match rightGo c.f 0 with | none => false | some n => decide ((n : Int) = c.m)
theorem f44_ok (c : Cl) (hc : c.ok) (w : World) : Ct Try.prog 44 #[.agg c.v] w fun v w' => v = .bool c.right ∧ Md [] w w' := by
  apply f44_in
  intro n1 hn1 w2 h2 hL2
  refine LoopP_in (fun m us vs w' => ∃ i n : Nat, us = [.bool false, .int .i64 n, .int .i64 i] ∧ m = 256 - i ∧ i ≤ 256 ∧ n ≤ i ∧ rightGo c.f 0 = rightGo (c.f.drop i) n ∧ Md [] w w') 256 ⟨0, 0, rfl, rfl, by omega, by omega, by simp, h2⟩ ?_
  rintro m us vs w6 ⟨i, n, rfl, rfl, hi, hni, hg, h6⟩
  refine opB_in <| opI_in <| opI_in <| Bd_in fun b10 hb10 => If_in (fun hb => ?_) fun hb => ?_
  · subst hb10
    simp only [decide_eq_true_eq] at hb
    have hi' : i < c.f.length := by rw [hc.len]; omega
    have hx := hc.lt i hi'
    refine Jn_in (fun us vs w' => ∃ n' : Nat, us = [.bool false, .int .i64 n', .int .i64 i, .int .i64 c.f[i]] ∧ n' ≤ i + 1 ∧ rightGo c.f 0 = rightGo (c.f.drop (i + 1)) n' ∧ Md [] w w') ?_ ?_
    · rintro us vs w13 ⟨n', rfl, hn', hg', h13⟩
      refine opB_in <| opI_in <| opI_in <| opI_in <| Bd_in fun x18 hx18 => ?_
      rw [inc_i64 (by omega)] at hx18
      subst hx18
      exact ⟨256 - (i + 1), by omega, i + 1, n', rfl, rfl, by omega, by omega, hg', h13⟩
    · refine ⟨⟨by omega, by omega⟩, BdO_in (hc.nth' hi') ?_⟩
      refine opI_in <| Bd_in fun x22 hx22 => ?_
      rw [wrap_byte hx] at hx22
      subst hx22
      rw [List.drop_eq_getElem_cons hi', rightGo] at hg
      refine Bd_in fun b23 hb23 => If_in (fun h => ⟨?_, h6⟩) fun h => Bd_in fun b24 hb24 => If_in (fun h' => Bd_in fun x25 hx25 => ?_) fun h' => ?_
      · subst hb23
        simp only [decide_eq_true_eq] at h
        rw [if_pos (by omega)] at hg
        simp [Cl.right, hg]
      · subst hb23; subst hb24
        simp only [decide_eq_false_iff_not] at h
        simp only [beq_iff_eq] at h'
        rw [if_neg (by omega), if_pos (by omega)] at hg
        rw [inc_i64 (by omega)] at hx25
        subst hx25
        exact ⟨n + 1, rfl, by omega, hg, h6⟩
      · subst hb23; subst hb24
        simp only [decide_eq_false_iff_not] at h
        simp only [beq_eq_false_iff_ne] at h'
        rw [if_neg (by omega), if_neg (by omega)] at hg
        exact ⟨n, rfl, by omega, hg, h6⟩
  · subst hb10
    simp only [decide_eq_false_iff_not] at hb
    refine BdO_in hc.many ?_
    refine opI_in <| Bd_in fun b28 hb28 => ⟨?_, h6⟩
    have : c.f.drop i = [] := List.drop_of_length_le (by rw [hc.len]; omega)
    rw [this, rightGo] at hg
    rw [hb28, Cl.right, hg]
    exact congrArg Value.bool (by rw [Bool.eq_iff_iff]; simp)

/-! ### Right, as the document asks it -/
def least : List Nat → Int → Nat
  | [], _ => 0
  | x :: l, k => if (x : Int) = k then 0 else least l k + 1
theorem least_le : ∀ (l : List Nat) (k : Int), least l k ≤ l.length
  | [], k => Nat.le_refl _
  | x :: l, k => by have := least_le l k; simp only [least, List.length_cons]; split <;> omega
theorem f150_ok (c : Cl) (hc : c.ok) (k : Int) (w : World) : Ct Try.prog 150 #[.agg c.v, .int .i64 k] w fun v w' => v = .int .i64 (least c.f k) ∧ Md [] w w' := by
  apply f150_in
  intro n1 hn1 w2 h2 hL2
  refine LoopP_in (fun m us vs w' => ∃ i : Nat, us = [.int .i64 i] ∧ m = 256 - i ∧ i ≤ 256 ∧ least c.f k = i + least (c.f.drop i) k ∧ Md [] w w') 256 ⟨0, rfl, rfl, by omega, by simp, h2⟩ ?_
  rintro m us vs w6 ⟨i, rfl, rfl, hi, hg, h6⟩
  refine opI_in <| Bd_in fun b8 hb8 => ?_
  by_cases hlt : i < 256
  · have hi' : i < c.f.length := by rw [hc.len]; omega
    have hx := hc.lt i hi'
    have hr := hc.nthI hi'
    refine ⟨fun _ => ⟨by omega, by omega⟩, fun _ => hr.1, Bd_in fun x11 hx11 => Bd_in fun x12 hx12 => Bd_in fun b13 hb13 => Bd_in fun b14 hb14 => ?_⟩
    rw [hr.2] at hx11
    subst hx11
    rw [wrap_byte hx] at hx12
    subst hx12
    have h8 : b8 = true := by rw [hb8]; simp; omega
    rw [h8] at hb14
    simp only [cond_true] at hb14
    subst hb14
    rw [List.drop_eq_getElem_cons hi', least] at hg
    refine If_in (fun h => Bd_in fun x15 hx15 => ?_) fun h => ⟨?_, h6⟩
    · rw [inc_i64 (by omega)] at hx15
      subst hx15
      rw [hb13] at h
      simp only [bne_iff_ne] at h
      rw [if_neg h] at hg
      exact ⟨256 - (i + 1), by omega, i + 1, rfl, rfl, by omega, by omega, h6⟩
    · rw [hb13] at h
      simp only [bne_eq_false_iff_eq] at h
      rw [if_pos h] at hg
      rw [hg]; rfl
  · have h8 : b8 = false := by rw [hb8]; simp; omega
    have : c.f.drop i = [] := List.drop_of_length_le (by rw [hc.len]; omega)
    refine ⟨fun h => absurd h (by simp [h8]), fun h => absurd h (by simp [h8]), Bd_in fun x11 hx11 => Bd_in fun x12 hx12 => Bd_in fun b13 hb13 => Bd_in fun b14 hb14 => ?_⟩
    rw [h8] at hb14
    simp only [cond_false] at hb14
    subst hb14
    refine If_in (fun h => by cases h) fun h => ⟨?_, h6⟩
    rw [this] at hg
    rw [hg]; rfl
def okK (f : List Nat) (k : Nat) : Bool := decide (least f k ≠ 256) && (decide (k = 0) || decide (least f ((k : Int) - 1) ≤ least f k))
def Cl.rightR (c : Cl) : Bool := decide (1 ≤ c.m) && decide (c.m ≤ 256) && c.f.all (fun x => decide ((x : Int) < c.m)) && (List.range c.m.toNat).all (okK c.f)
theorem f45_ok (c : Cl) (hc : c.ok) (w : World) : Ct Try.prog 45 #[.agg c.v] w fun v w' => v = .bool c.rightR ∧ Md [] w w' := by
  apply f45_in
  intro n1 hn1
  refine BdO_in hc.many ?_
  refine opI_in <| Bd_in fun b4 hb4 => ⟨fun _ => hc.manyI.1, Bd_in fun x6 hx6 => Bd_in fun b7 hb7 => Bd_in fun b8 hb8 => If_in (fun h w9 h9 hL9 => ⟨?_, h9⟩) fun h w10 h10 hL10 => ?_⟩
  · rw [hc.manyI.2] at hx6
    subst hx6
    have : c.m < 1 ∨ c.m > 256 := by
      rw [hb8, hb7, hb4] at h
      by_cases h1 : c.m < 1
      · exact .inl h1
      · simp [h1] at h; exact .inr h
    simp only [Cl.rightR]
    rcases this with h | h
    · rw [decide_eq_false (by omega : ¬ 1 ≤ c.m)]; rfl
    · rw [decide_eq_false (by omega : ¬ c.m ≤ 256)]; simp
  rw [hc.manyI.2] at hx6
  subst hx6
  have hm : 1 ≤ c.m ∧ c.m ≤ 256 := by
    rw [hb8, hb7, hb4] at h
    by_cases h1 : c.m < 1
    · simp [h1] at h
    · simp [h1] at h; omega
  refine LoopP_in (fun m us vs w' => ∃ i : Nat, us = [.bool false, .int .i64 i] ∧ m = 256 - i ∧ i ≤ 256 ∧ (c.f.take i).all (fun x => decide ((x : Int) < c.m)) = true ∧ Md [] w w' ∧ n1 < w'.heap.size) 256 ⟨0, rfl, rfl, by omega, by simp, h10, by simpa using hL10⟩ ?_
  rintro m us vs w14 ⟨i, rfl, rfl, hi, hall, h14, hn14⟩
  refine opB_in <| opI_in <| Bd_in fun b17 hb17 => If_in (fun hb => ?_) fun hb => ?_
  · subst hb17
    simp only [decide_eq_true_eq] at hb
    have hi' : i < c.f.length := by rw [hc.len]; omega
    have hx := hc.lt i hi'
    refine ⟨⟨by omega, by omega⟩, BdO_in (hc.nth' hi') ?_⟩
    refine opI_in <| Bd_in fun x20 hx20 => BdO_in hc.many ?_
    rw [wrap_byte hx] at hx20
    subst hx20
    refine opI_in <| Bd_in fun b23 hb23 => If_in (fun h => ⟨?_, h14.trans (Md_drew _)⟩) fun h => Bd_in fun x24 hx24 => ?_
    · subst hb23
      simp only [decide_eq_true_eq] at h
      have : c.f.all (fun x => decide ((x : Int) < c.m)) = false := by
        rw [List.all_eq_false]
        exact ⟨c.f[i], List.getElem_mem hi', by simp; omega⟩
      simp [Cl.rightR, this]
    · subst hb23
      simp only [decide_eq_false_iff_not] at h
      rw [inc_i64 (by omega)] at hx24
      subst hx24
      refine ⟨256 - (i + 1), by omega, i + 1, rfl, rfl, by omega, ?_, h14.trans (Md_drew _), hn14⟩
      rw [List.take_succ_eq_append_getElem hi', List.all_append, hall]
      simp; omega
  · subst hb17
    simp only [decide_eq_false_iff_not] at hb
    rw [List.take_of_length_le (by rw [hc.len]; omega)] at hall
    have hM : ((c.m.toNat : Nat) : Int) = c.m := Int.toNat_of_nonneg (by omega)
    refine LoopP_in (fun m us vs w' => ∃ i : Nat, us = [.bool false, .int .i64 i] ∧ m = 256 - i ∧ i ≤ c.m.toNat ∧ (List.range i).all (okK c.f) = true ∧ Md [] w w' ∧ n1 < w'.heap.size) 256 ⟨0, rfl, rfl, by omega, by simp, h14, hn14⟩ ?_
    rintro m us vs w28 ⟨k, rfl, rfl, hk, hallk, h28, hn28⟩
    refine opB_in <| opI_in <| BdO_in hc.many ?_
    refine opI_in <| Bd_in fun b33 hb33 => If_in (fun hb => ?_) fun hb => ⟨?_, h28⟩
    · subst hb33
      simp only [decide_eq_true_eq] at hb
      refine Jn_in (fun us vs w' => us = [.bool (!okK c.f k)] ∧ Md [] w w' ∧ n1 < w'.heap.size) ?_ ?_
      · rintro us vs w36 ⟨rfl, h36, hn36⟩
        refine opB_in <| If_in (fun h => ⟨?_, h36⟩) fun h => Bd_in fun x38 hx38 => ?_
        · have : (List.range c.m.toNat).all (okK c.f) = false := by
            rw [List.all_eq_false]
            exact ⟨k, by simp; omega, by simpa using h⟩
          simp [Cl.rightR, this]
        · rw [inc_i64 (by omega)] at hx38
          subst hx38
          refine ⟨256 - (k + 1), by omega, k + 1, rfl, rfl, by omega, ?_, h36, hn36⟩
          rw [List.range_succ, List.all_append, hallk]
          simpa using h
      · refine ⟨hc.size, ?_⟩
        refine (f150_ok c hc k _).call (by simpa using hn28) ?_
        rintro v40 w41 rfl h41
        have hw41 := (h28.trans (Md_drew _)).trans h41
        have hn41 : n1 < w41.heap.size := Nat.lt_of_lt_of_le hn28 h41.size
        refine opI_in <| Bd_in fun b43 hb43 => Bd_in fun b44 hb44 => ⟨fun _ => hc.size, fun _ => hc.size, Bd_in fun x47 hx47 => ?_⟩
        have e47 : x47 = (k : Int) - 1 := by rw [hx47, IntKind.wrap_i64]; omega
        subst e47
        refine Gd_to (fun x w' => ((!b43 && b44) = true → x = least c.f k) ∧ Md [] w w' ∧ n1 < w'.heap.size) ?_ (fun fin _ => (f150_ok c hc k _).call (by simpa using hn41) ?_) fun h => ⟨fun h' => absurd h' (by simp [h]), hw41, hn41⟩
        rotate_left
        · rintro v49 w50 rfl h50
          exact opI_in (fin _ _ ⟨fun _ => rfl, hw41.trans h50, Nat.lt_of_lt_of_le hn41 h50.size⟩)
        rintro x52 w53 ⟨hx52, h53, hn53⟩
        refine Gd_to (fun x w' => ((!b43 && b44) = true → x = least c.f ((k : Int) - 1)) ∧ Md [] w w' ∧ n1 < w'.heap.size) ?_ (fun fin _ => (f150_ok c hc _ _).call (by simpa using hn53) ?_) fun h => ⟨fun h' => absurd h' (by simp [h]), h53, hn53⟩
        rotate_left
        · rintro v49 w50 rfl h50
          exact opI_in (fin _ _ ⟨fun _ => rfl, h53.trans h50, Nat.lt_of_lt_of_le hn53 h50.size⟩)
        rintro x58 w59 ⟨hx58, h59, hn59⟩
        refine Bd_in fun b60 hb60 => Bd_in fun b61 hb61 => Bd_in fun b62 hb62 => ⟨?_, h59, hn59⟩
        rw [hb62, hb61, hb60]
        congr 2
        cases h43 : b43 with
        | true =>
          rw [h43] at hb43
          have : least c.f k = 256 := by have := hb43.symm; simp at this; omega
          simp [okK, this]
        | false =>
          rw [h43] at hb43
          have h1 : ¬ least c.f k = 256 := fun h => by rw [h] at hb43; simp at hb43
          cases h44 : b44 with
          | false =>
            rw [h44] at hb44
            have : k = 0 := by simp at hb44; exact hb44
            subst this
            simp at h1
            simp [okK, h1]
          | true =>
            rw [h44] at hb44
            have h2 : ¬ k = 0 := by simp at hb44; omega
            rw [hx52 (by rw [h43, h44]; rfl), hx58 (by rw [h43, h44]; rfl)]
            simp [okK, h1, h2]
            rw [Bool.eq_iff_iff]
            simp
    · subst hb33
      simp only [decide_eq_false_iff_not] at hb
      have : k = c.m.toNat := by omega
      subst this
      simp [Cl.rightR, hall, hallk, hm]
end Fk
