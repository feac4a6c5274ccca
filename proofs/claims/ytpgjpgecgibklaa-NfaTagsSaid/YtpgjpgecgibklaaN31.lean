/- Which pieces of a text a tree has (OfRe). -/
import Derived.Test.YtpgjpgecgibklaaN30
set_option linter.unusedVariables false
set_option linter.unusedSimpArgs false
set_option maxRecDepth 100000
set_option maxHeartbeats 2000000
namespace Fk
open Go Go.Proofs Go.RowKit
theorem set_is {t : List Nat} (ht : t.length < 62) {q : Q4} {O : List Nat} (hO : O.length = t.length + 1) (h : ∀ j (hj : j < t.length), O[j]? = some (if inQ q t[j] = true then 2 ^ (j + 1) else 0)) (hl : O[t.length]? = some 0) : RelIs t O (fun u => ∃ x, u = [x] ∧ inQ q x = true) := by
  have hg : ∀ i (hi : i < O.length), i < t.length ∧ (∃ hj : i < t.length, O[i] = if inQ q t[i] = true then 2 ^ (i + 1) else 0) ∨ (i = t.length ∧ O[i] = 0) := fun i hi => by
    by_cases c : i < t.length
    · have := h i c
      rw [List.getElem?_eq_getElem hi] at this
      injection this with this
      exact .inl ⟨c, c, this⟩
    · have e : i = t.length := by omega
      subst e
      rw [List.getElem?_eq_getElem hi] at hl
      injection hl with hl
      exact .inr ⟨rfl, hl⟩
  refine ⟨hO, fun x hx => ?_, fun i hi j => ?_⟩
  · obtain ⟨i, hi, rfl⟩ := List.getElem_of_mem hx
    rcases hg i hi with ⟨c, _, e⟩ | ⟨_, e⟩ <;> rw [e]
    · split
      · exact Nat.pow_lt_pow_right (by decide) (by omega)
      · decide
    · decide
  · rcases hg i hi with ⟨c, _, e⟩ | ⟨hi2, e⟩ <;> rw [e]
    · constructor
      · intro hb
        split at hb
        · rename_i hq
          rw [Nat.testBit_two_pow, decide_eq_true_eq] at hb
          subst hb
          refine ⟨by omega, by omega, t[i], ?_, hq⟩
          unfold seg
          rw [show i + 1 - i = 1 by omega, List.drop_eq_getElem_cons c]
          rfl
        · simp at hb
      · rintro ⟨h1, h2, x, hx, hq⟩
        have hlen := seg_len h1 h2
        rw [hx] at hlen
        have hj : j = i + 1 := by simp at hlen; omega
        subst hj
        have hxe : x = t[i] := by
          unfold seg at hx
          rw [show i + 1 - i = 1 by omega, List.drop_eq_getElem_cons c] at hx
          simp only [List.take_succ_cons, List.take_zero] at hx
          injection hx with hx
          exact hx.symm
        subst hxe
        rw [if_pos hq]
        simp
    · constructor
      · intro hb; simp at hb
      · rintro ⟨h1, h2, x, hx, _⟩
        have hlen := seg_len h1 h2
        rw [hx] at hlen
        simp at hlen
        omega
def OfR (q : Fo) : Prop := ∀ (k a b c d : Int) (sa : Option Addr) (sc : Nat) (t : List Nat) (w : World), t.length ≤ 40 → (∀ x ∈ t, x < 256) → RepF w sa 0 q → q.len < 2 ^ 63 → nodeOk k (z4 a b c d) q.len = true → q.right = true →
    Ct Try.prog 74 #[.agg #[.int .u8 k, .int .u64 a, .int .u64 b, .int .u64 c, .int .u64 d, .slice sa q.len sc], .string (bytesOf t)] w fun v w' => (∃ (R : List Nat) (x : Option Addr) (cc : Nat), v = .slice x R.length cc ∧ OwnL w' w.heap.size 26 1 uE x cc R ∧ RelIs t R (lgOne k a b c d (lg q))) ∧ Md [] w w'
theorem in74 {q : Fo} (hT : OfR q) {L : List Nat} {w0 w : World} (h : Good L w0 w) {k a b c d : Int} {sa : Option Addr} {sc : Nat} {t : List Nat} (ht : t.length ≤ 40) (htb : ∀ x ∈ t, x < 256) (h1 : RepF w sa 0 q) (h2 : q.len < 2 ^ 63) (h3 : nodeOk k (z4 a b c d) q.len = true) (h4 : q.right = true)
    {K : Option Addr → Nat → Nat → World → Prop} (kk : ∀ R x cc w', Good L w0 w' → Md [] w w' → OwnL w' w.heap.size 26 1 uE x cc R → RelIs t R (lgOne k a b c d (lg q)) → K x R.length cc w') :
    CallW Try.prog L 74 #[.agg #[.int .u8 k, .int .u64 a, .int .u64 b, .int .u64 c, .int .u64 d, .slice sa q.len sc], .string (bytesOf t)] (fun v w' => opL v fun x n cc => K x n cc w') w := by
  refine (hT k a b c d sa sc t w ht htb h1 h2 h3 h4).call h.2 ?_
  rintro v w' ⟨R, x, cc, rfl, h5, h6⟩ h7
  exact opL_in (kk R x cc w' (h.tr h7) h7 h5 h6)
theorem f74_step (q : Fo) (ih : ∀ q' : Fo, q'.size < q.size → OfR q') : OfR q := by
  intro k a b c d sa sc t w ht htb hr hql hn hq
  apply f74_in
  intro n1 hn1
  refine Bd_e (y := (t.length : Int)) (by rw [nsz_bytesOf]) fun w3 h3 hL3 => ?_
  have g3 : Good [n1] w w3 := ⟨h3, hL3⟩
  refine (f174_ok t.length (by omega) w3).call hL3 ?_
  rintro v w5 ⟨a6, c8, rfl, own6⟩ m5
  have g5 := g3.tr m5
  have hnl : (noneR t.length).length = t.length + 1 := by simp [noneR]
  have own6' := own6.down (b := w.heap.size) h3.size
  refine opL_in <| Jn_in (fun us vs w' => ∃ (R : List Nat) (x : Option Addr) (cc : Nat) (b1 b2 : Bool), us = [.slice x R.length cc, .slice none 0 0, .bool b1, .bool b2] ∧ OwnL w' w.heap.size 26 1 uE x cc R ∧ RelIs t R (lgOne k a b c d (lg q)) ∧ Md [] w w') ?_ ?_
  · rintro us vs w11 ⟨R, x, cc, b1, b2, rfl, h1, h2, h3⟩
    exact opL_in <| opL_in <| opB_in <| opB_in ⟨⟨R, x, cc, rfl, h1, h2⟩, h3⟩
  refine Bd_in fun b21 hb21 => If_in (fun hb => ?_) fun hb0 => ?_
  · have hk : k = 0 := by rw [hb21] at hb; simpa using hb
    refine Bd_e (y := (t.length : Int)) (by rw [nsz_bytesOf]) ?_
    refine (f175_ok t.length (by omega) w5).call g5.2 ?_
    rintro v w24 ⟨x, cc, rfl, own⟩ m24
    refine opL_in ⟨⟨_, x, cc, rfl, own.down g5.1.size, (still_is t (by omega)).congr fun u => ?_⟩, g5.1.trans m24⟩
    subst hk
    simp [lgOne]
  have hk0 : k ≠ 0 := by rw [hb21] at hb0; simpa using hb0
  refine Bd_in fun b28 hb28 => If_in (fun hb => ?_) fun hb1 => ?_
  · have hk : k = 1 := by rw [hb28] at hb; simpa using hb
    refine Bd_e (y := (t.length : Int)) (by rw [nsz_bytesOf]) ?_
    refine LoopP_in (fun mm us vs w' => ∃ (i : Nat) (O : List Nat), us = [.int .i64 i] ∧ mm = t.length - i ∧ i ≤ t.length ∧ O.length = t.length + 1 ∧ (∀ j (hj : j < t.length), j < i → O[j]? = some (if inQ (a, b, c, d) t[j] = true then 2 ^ (j + 1) else 0)) ∧ (∀ j, i ≤ j → j ≤ t.length → O[j]? = some 0) ∧ OwnL w' w.heap.size 26 1 uE a6 c8 O ∧ Good [n1] w w') t.length
      ⟨0, noneR t.length, rfl, rfl, by omega, hnl, fun j _ hj => by omega, fun j _ hj => by unfold noneR; rw [List.getElem?_replicate, if_pos (by omega)], own6', g5⟩ ?_
    rintro mm us vs w33 ⟨i, O, rfl, hmm, hi, hO, hOj, hO0, ho, g33⟩
    refine opI_in <| Bd_in fun b35 hb35 => If_in (fun hb => ?_) fun hb => ?_
    · have hit : i < t.length := by rw [hb35] at hb; have := of_decide_eq_true hb; omega
      have hx256 := htb _ (List.getElem_mem hit)
      refine Jn_in (fun us vs w' => ∃ (O : List Nat), us = [.int .i64 i] ∧ O.length = t.length + 1 ∧ (∀ j (hj : j < t.length), j < i + 1 → O[j]? = some (if inQ (a, b, c, d) t[j] = true then 2 ^ (j + 1) else 0)) ∧ (∀ j, i + 1 ≤ j → j ≤ t.length → O[j]? = some 0) ∧ OwnL w' w.heap.size 26 1 uE a6 c8 O ∧ Good [n1] w w') ?_ ?_
      · rintro us vs w38 ⟨O', rfl, q1, q2, q3, q4, q5⟩
        exact opI_in <| Bd_e (inc_i64 (by omega)) ⟨t.length - (i + 1), by omega, i + 1, O', rfl, rfl, by omega, q1, q2, q3, q4, q5⟩
      refine ⟨fun _ => True, trivial, ⟨by omega, by rw [nsz_bytesOf]; omega⟩, Bd_e (byteAt_bytesOf htb hit) ?_⟩
      refine (f50_ok (a, b, c, d) t[i] hx256 w33.drew).call g33.drew.2 ?_
      rintro v w45 rfl m45
      have g45 := g33.drew.tr m45
      have ho45 := (ho.md (Md_drew w33)).md m45
      refine opB_in ⟨trivial, If_in (fun hq' => ?_) fun hq' => ?_⟩
      · have hix := (ho45.row encuE).ix (i := i) (by omega)
        obtain ⟨A', hA', p1, p2, p3, p4, p5, p6⟩ := ho45.put encuE (by omega) (i := i) (by omega) (2 ^ (i + 1))
        rw [hO, ← hnl] at hix
        refine Bd_e (inc_i64 (by omega)) ⟨by omega, Bd_e (powN (i + 1) (by omega)) ⟨hix, by rw [p3]; simp; intro e; have := (own6.lt hA').1; have := hL3 n1 (by simp); omega, p4, O.set i (2 ^ (i + 1)), rfl, by simp [hO], fun j hj hji => ?_, fun j h1 h2 => ?_, p5, ⟨g45.1.old p6 (by simpa using p2), fun z hz => Nat.lt_of_lt_of_le (g45.2 z hz) p6.size⟩⟩⟩
        · by_cases e : j = i
          · subst e; rw [List.getElem?_set_self (by omega), if_pos hq']
          · rw [List.getElem?_set_ne (by omega)]; exact hOj j hj (by omega)
        · rw [List.getElem?_set_ne (by omega)]; exact hO0 j (by omega) h2
      · refine ⟨O, rfl, hO, fun j hj hji => ?_, fun j h1 h2 => hO0 j (by omega) h2, ho45, g45⟩
        by_cases e : j = i
        · subst e; rw [hO0 j (Nat.le_refl _) (by omega), if_neg (by rw [hq']; simp)]
        · exact hOj j hj (by omega)
    · have hit : i = t.length := by rw [hb35] at hb; have := of_decide_eq_false hb; omega
      subst hit
      have hrel := set_is (by omega) hO (fun j hj => hOj j hj hj) (hO0 _ (Nat.le_refl _) (Nat.le_refl _))
      refine ⟨O, a6, c8, b21, b28, by rw [hnl, hO], ho, hrel.congr fun u => ?_, g33.1⟩
      subst hk
      simp [lgOne]
  have hk1 : k ≠ 1 := by rw [hb28] at hb1; simpa using hb1
  refine Bd_in fun b49 hb49 => If_in (fun hb => ?_) fun hb2 => ?_
  · have hk : k = 2 := by rw [hb49] at hb; simpa using hb
    refine Bd_e (y := (t.length : Int)) (by rw [nsz_bytesOf]) ?_
    refine (f175_ok t.length (by omega) w5).call g5.2 ?_
    rintro v w52 ⟨x0, cc0, rfl, own52⟩ m52
    refine opL_in <| Bd_e rfl ?_
    refine LoopP_in (fun mm us vs w' => ∃ (i : Nat) (R : List Nat) (x : Option Addr) (cc : Nat) (P : List Nat → Prop), us = [.slice x R.length cc, .int .i64 i] ∧ mm = q.len - i ∧ i ≤ q.len ∧ RelIs t R P ∧ (∀ u, (∃ v z, u = v ++ z ∧ P v ∧ (lg (q.drop i)).cat z) ↔ (lg q).cat u) ∧ OwnL w' w.heap.size 26 1 uE x cc R ∧ Good [n1] w w') q.len
      ⟨0, stillR t.length, x0, cc0, fun u => u = [], rfl, rfl, by omega, still_is t (by omega), fun u => ⟨fun ⟨v, z, e, e1, e2⟩ => by subst e1; subst e; simpa [Fo.drop] using e2, fun h => ⟨[], u, rfl, rfl, by simpa [Fo.drop] using h⟩⟩, own52.down g5.1.size, g5.tr m52⟩ ?_
    rintro mm us vs w60 ⟨i, R, x, cc, P, rfl, hmm, hi, hR, hP, ho, g60⟩
    refine opL_in <| opI_in <| Bd_in fun b65 hb65 => If_in (fun hb => ?_) fun hb => ?_
    · have hi' : i < q.len := by rw [hb65] at hb; have : (i : Int) < (q.len : Int) := of_decide_eq_true hb
                                 omega
      obtain ⟨k', a', b', c', d', q', he, hqs⟩ := Fo.drop_cons q i hi'
      obtain ⟨hn', hq'⟩ := right_pre he hq
      refine kid_ld hr g60.1 he hi' fun sa' sc' hql' hr' => rgU g60 fun n80 w81 g81 m81 => ?_
      refine in74 (ih q' hqs) g81 ht htb (hr'.md g81.1) hql' hn' hq' fun R2 x2 cc2 w83 g83 m83 own2 hR2 => ?_
      have l1 := hR.len
      have l2 := hR2.len
      have ho83 := (ho.md m81).md m83
      refine (f176_ok R R2 x x2 cc cc2 (by omega) (by omega) hR2.lt w83 (ho83.row encuE) (own2.row encuE)).call g83.2 ?_
      rintro v w88 ⟨x3, c3, rfl, own3⟩ m88
      refine opL_in <| Bd_e (y := ((i + 1 : Nat) : Int)) (by rw [IntKind.wrap_i64]; omega) ⟨q.len - (i + 1), by omega, i + 1, _, x3, c3, _, rfl, rfl, by omega, then_is hR hR2, fun u => ?_, own3.down g83.1.size, ⟨g83.1.trans m88, fun z hz => Nat.lt_of_lt_of_le (g83.2 z (by simp at hz ⊢; exact .inr hz)) m88.size⟩⟩
      rw [← hP u, he]
      constructor
      · rintro ⟨v, z, rfl, ⟨v1, v2, rfl, h1, h2⟩, h3⟩
        exact ⟨v1, v2 ++ z, by rw [List.append_assoc], h1, v2, z, rfl, h2, h3⟩
      · rintro ⟨v, z, rfl, h1, v2, z2, rfl, h2, h3⟩
        exact ⟨v ++ v2, z2, by rw [List.append_assoc], ⟨v, v2, rfl, h1, h2⟩, h3⟩
    · have hif : i = q.len := by
        have : ¬ (i : Int) < (q.len : Int) := by rw [hb65] at hb; exact of_decide_eq_false hb
        omega
      subst hif
      rw [Fo.drop_all q _ (Nat.le_refl _)] at hP
      refine ⟨R, x, cc, b21, b28, rfl, ho, hR.congr fun u => ?_, g60.1⟩
      subst hk
      rw [show lgOne 2 a b c d (lg q) u ↔ (lg q).cat u by simp [lgOne], ← hP u]
      constructor
      · intro h; exact ⟨u, [], by simp, h, rfl⟩
      · rintro ⟨v, z, rfl, h, hz⟩
        have hz : z = [] := hz
        subst hz; simpa using h
  have hk2 : k ≠ 2 := by rw [hb49] at hb2; simpa using hb2
  refine Bd_in fun b93 hb93 => If_in (fun hb => ?_) fun hb3 => ?_
  · have hk : k = 3 := by rw [hb93] at hb; simpa using hb
    refine Bd_e rfl ?_
    refine LoopP_in (fun mm us vs w' => ∃ (i : Nat) (R : List Nat) (x : Option Addr) (cc : Nat) (P : List Nat → Prop), us = [.slice x R.length cc, .int .i64 i] ∧ mm = q.len - i ∧ i ≤ q.len ∧ RelIs t R P ∧ (∀ u, (P u ∨ (lg (q.drop i)).alt u) ↔ (lg q).alt u) ∧ OwnL w' w.heap.size 26 1 uE x cc R ∧ Good [n1] w w') q.len
      ⟨0, noneR t.length, a6, c8, fun _ => False, rfl, rfl, by omega, none_is t, fun u => by simp [Fo.drop], own6', g5⟩ ?_
    rintro mm us vs w98 ⟨i, R, x, cc, P, rfl, hmm, hi, hR, hP, ho, g98⟩
    refine opL_in <| opI_in <| Bd_in fun b103 hb103 => If_in (fun hb => ?_) fun hb => ?_
    · have hi' : i < q.len := by rw [hb103] at hb; have : (i : Int) < (q.len : Int) := of_decide_eq_true hb
                                 omega
      obtain ⟨k', a', b', c', d', q', he, hqs⟩ := Fo.drop_cons q i hi'
      obtain ⟨hn', hq'⟩ := right_pre he hq
      refine kid_ld hr g98.1 he hi' fun sa' sc' hql' hr' => rgU g98 fun n118 w119 g119 m119 => ?_
      refine in74 (ih q' hqs) g119 ht htb (hr'.md g119.1) hql' hn' hq' fun R2 x2 cc2 w121 g121 m121 own2 hR2 => ?_
      have l1 := hR.len
      have l2 := hR2.len
      have ho121 := (ho.md m119).md m121
      refine (f177_ok R R2 x x2 cc cc2 (by omega) (by omega) hR.lt hR2.lt w121 (ho121.row encuE) (own2.row encuE)).call g121.2 ?_
      rintro v w126 ⟨x3, c3, rfl, own3⟩ m126
      refine opL_in <| Bd_e (y := ((i + 1 : Nat) : Int)) (by rw [IntKind.wrap_i64]; omega) ⟨q.len - (i + 1), by omega, i + 1, _, x3, c3, _, rfl, rfl, by omega, or_is hR hR2, fun u => ?_, own3.down g121.1.size, ⟨g121.1.trans m126, fun z hz => Nat.lt_of_lt_of_le (g121.2 z (by simp at hz ⊢; exact .inr hz)) m126.size⟩⟩
      rw [← hP u, he]
      constructor
      · rintro ((h | h) | h)
        · exact .inl h
        · exact .inr (.inl h)
        · exact .inr (.inr h)
      · rintro (h | h | h)
        · exact .inl (.inl h)
        · exact .inl (.inr h)
        · exact .inr h
    · have hif : i = q.len := by
        have : ¬ (i : Int) < (q.len : Int) := by rw [hb103] at hb; exact of_decide_eq_false hb
        omega
      subst hif
      rw [Fo.drop_all q _ (Nat.le_refl _)] at hP
      refine ⟨R, x, cc, b21, b28, rfl, ho, hR.congr fun u => ?_, g98.1⟩
      subst hk
      rw [show lgOne 3 a b c d (lg q) u ↔ (lg q).alt u by simp [lgOne], ← hP u]
      exact ⟨.inl, fun h => by rcases h with h | h; exact h; exact h.elim⟩
  have hk3 : k ≠ 3 := by rw [hb93] at hb3; simpa using hb3
  have hk4 : k = 4 := by have := nodeOk_inv hn; omega
  have h1q : q.len = 1 := by have := nodeOk_inv hn; omega
  refine Bd_e (y := true) (by rw [hk4]; rfl) <| If_in (fun _ => ?_) fun h => by cases h
  refine Bd_e rfl <| Bd_e (y := true) (by rw [h1q]; rfl) <| If_in (fun _ => ?_) fun h => by cases h
  obtain ⟨k', a', b', c', d', q', he, hqs⟩ := Fo.drop_cons q 0 (by omega)
  obtain ⟨hn', hq'⟩ := right_pre he hq
  have he0 : q = .cons k' a' b' c' d' q' (q.drop 1) := by have := he; simpa [Fo.drop] using this
  have eone : (lg q).one = lgOne k' a' b' c' d' (lg q') := by rw [he0]; rfl
  refine kid_ld (j := 0) hr g5.1 he (by omega) fun sa' sc' hql' hr' => ?_
  refine in74 (ih q' hqs) g5 ht htb (hr'.md g5.1) hql' hn' hq' fun R2 x2 cc2 w149 g149 m149 own2 hR2 => ?_
  refine Bd_e (y := (t.length : Int)) (by rw [nsz_bytesOf]) ?_
  refine (f175_ok t.length (by omega) w149).call g149.2 ?_
  rintro v w155 ⟨x3, c3, rfl, own3⟩ m155
  have g155 := g149.tr m155
  have hS := still_is t (by omega)
  have l2 := hR2.len
  have l3 := hS.len
  refine opL_in <| (f177_ok R2 (stillR t.length) x2 x3 cc2 c3 (by omega) (by omega) hR2.lt hS.lt w155 ((own2.md m155).row encuE) (own3.row encuE)).call g155.2 ?_
  rintro v w160 ⟨x4, c4, rfl, own4⟩ m160
  have g160 := g155.tr m160
  have hO := or_is hR2 hS
  refine opL_in <| Bd_e (y := (t.length : Int)) (by rw [nsz_bytesOf]) <| Bd_e (y := ((t.length + 1 : Nat) : Int)) (by rw [IntKind.wrap_i64]; omega) ?_
  refine (f178_ok t.length (orR R2 (stillR t.length)) x4 c4 (t.length + 1) (by omega) hO.len hO.lt (by omega) w160 (own4.row encuE)).call g160.2 ?_
  rintro v w167 ⟨x5, c5, rfl, own5⟩ m167
  refine opL_in ⟨⟨_, x5, c5, rfl, own5.down g160.1.size, ?_⟩, g160.1.trans m167⟩
  have hW := pow_is (by omega) hO (t.length + 1)
  refine ⟨hW.len, hW.lt, fun i hi j => ?_⟩
  rw [hW.bit i hi j]
  constructor
  · rintro ⟨h1, h2, h3⟩
    refine ⟨h1, h2, ?_⟩
    rw [show lgOne k a b c d (lg q) (seg t i j) ↔ StarL (lg q).one (seg t i j) by subst hk4; simp [lgOne], eone]
    exact (star_pow (t.length + 1) (by rw [seg_len h1 h2]; omega)).2 h3
  · rintro ⟨h1, h2, h3⟩
    refine ⟨h1, h2, ?_⟩
    rw [show lgOne k a b c d (lg q) (seg t i j) ↔ StarL (lg q).one (seg t i j) by subst hk4; simp [lgOne], eone] at h3
    exact (star_pow (t.length + 1) (by rw [seg_len h1 h2]; omega)).1 h3
theorem ofR_ok : ∀ (s : Nat) (q : Fo), q.size < s → OfR q
  | 0, q, h => by omega
  | s + 1, q, h => f74_step q fun q' h' => ofR_ok s q' (by omega)
end Fk
