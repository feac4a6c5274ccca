/- Contracts of functions, and plain laws: several texts, joined. -/
import Derived.Test.YtpgjpgecgibklaaGR1
import Derived.Test.YtpgjpgecgibklaaGR0
import Derived.Test.YtpgjpgecgibklaaGV0
import Derived.WalkSmall
import Derived.Lib.SliceRun
import Derived.Test.YtpgjpgecgibklaaGK2
import Derived.Test.YtpgjpgecgibklaaGV1
set_option linter.unusedVariables false
set_option linter.unusedSimpArgs false
set_option maxRecDepth 100000
namespace Fk
open Go Go.Proofs Go.RowKit
theorem Md_frN {F F' : List Nat} {w w1 w2 : World} (h1 : Md F w w1) (h2 : Md F' w1 w2) (hf : FrN w F F') : Md F w w2 :=
  ⟨h2.os.trans h1.os, h2.tape.trans h1.tape, h2.output.trans h1.output, Nat.le_trans h1.size h2.size, fun k hk hm => (h2.blk k (Nat.lt_of_lt_of_le hk h1.size) fun hm' => by
    rcases hf k hm' with h | h
    · exact hm h
    · omega).trans (h1.blk k hk hm)⟩
def Fo.drop : Fo → Nat → Fo
  | f, 0 => f
  | .nil, _ + 1 => .nil
  | .cons _ _ _ _ _ _ r, n + 1 => r.drop n
theorem Fo.drop_len : ∀ (f : Fo) (j : Nat), (f.drop j).len = f.len - j
  | f, 0 => by simp [Fo.drop]
  | .nil, j + 1 => by simp [Fo.drop, Fo.len]
  | .cons _ _ _ _ _ _ r, j + 1 => by simp only [Fo.drop, Fo.len, Fo.drop_len r j]; omega
theorem Fo.drop_cons : ∀ (f : Fo) (j : Nat), j < f.len → ∃ k a b c d q, f.drop j = .cons k a b c d q (f.drop (j + 1)) ∧ q.size < f.size
  | .nil, j, h => by simp [Fo.len] at h
  | .cons k a b c d q r, 0, _ => ⟨k, a, b, c, d, q, by cases r <;> rfl, by simp only [Fo.size]; omega⟩
  | .cons k a b c d q r, j + 1, h => by
    obtain ⟨k', a', b', c', d', q', e, hs⟩ := Fo.drop_cons r j (by simp only [Fo.len] at h; omega)
    exact ⟨k', a', b', c', d', q', by simp only [Fo.drop]; exact e, by simp only [Fo.size]; omega⟩
theorem Fo.drop_all (f : Fo) : ∀ j, f.len ≤ j → f.drop j = .nil := by
  intro j hj
  have := Fo.drop_len f j
  cases h : f.drop j with
  | nil => rfl
  | cons => rw [h] at this; simp only [Fo.len] at this; omega
theorem RepF.drop {w : World} {A : Option Addr} : ∀ (f : Fo) (i j : Nat), RepF w A i f → RepF w A (i + j) (f.drop j)
  | f, i, 0, h => by simpa [Fo.drop] using h
  | .nil, i, j + 1, h => trivial
  | .cons _ _ _ _ _ _ r, i, j + 1, h => by
    obtain ⟨B, sa, sc, _, _, _, _, hr⟩ := h.at
    have := RepF.drop r (i + 1) j hr
    rw [show i + (j + 1) = i + 1 + j by omega]
    exact this
/-- Trees whose choices and stars have kids. -/
def Fo.gdP : Fo → Prop
  | .nil => True
  | .cons k _ _ _ _ q r => ((k = 3 ∨ k = 4) → 1 ≤ q.len) ∧ q.gdP ∧ r.gdP
theorem Fo.gdP_drop : ∀ (f : Fo) (j : Nat), f.gdP → (f.drop j).gdP
  | f, 0, h => by simpa [Fo.drop] using h
  | .nil, j + 1, h => trivial
  | .cons _ _ _ _ _ _ r, j + 1, h => Fo.gdP_drop r j h.2.2
/-- What a call of toward, or of state, brings. -/
structure Tws (w0 w : World) (n : Nat) (l : List Ns) (most : Nat) (F : List Nat) : Prop where
  mr : Mkr w n l most F
  md : Md [] w0 w
  lo : ∀ b ∈ F, w0.heap.size ≤ b
  len : l.length ≤ most + 1
theorem Tws.step {w0 w w' : World} {n : Nat} {l l' : List Ns} {most : Nat} {F F' : List Nat} (S : Tws w0 w n l most F) (h : Mkr w' n l' most F') (hm : Md F w w') (hf : FrN w F F') (hl : l'.length ≤ most + 1) : Tws w0 w' n l' most F' :=
  ⟨h, S.md.old hm S.lo, fun b hb => by rcases hf b hb with h | h; exact S.lo b h; have := S.md.size; omega, hl⟩
theorem Tws.md0 {w0 w w' : World} {n : Nat} {l : List Ns} {most : Nat} {F : List Nat} (S : Tws w0 w n l most F) (hm : Md [] w w') : Tws w0 w' n l most F := ⟨S.mr.md0 hm, S.md.trans hm, S.lo, S.len⟩
/-- Blocks that are there, and are none of the maker's. -/
def LN (L : List Nat) (w : World) (F : List Nat) : Prop := ∀ b ∈ L, b < w.heap.size ∧ b ∉ F
theorem LN.fr {L F F' : List Nat} {w w' : World} (h : LN L w F) (hf : FrN w F F') (hs : w.heap.size ≤ w'.heap.size) : LN L w' F' := fun b hb => by
  obtain ⟨h1, h2⟩ := h b hb
  refine ⟨by omega, fun hm => ?_⟩
  rcases hf b hm with h3 | h3
  · exact h2 h3
  · omega
theorem in164 {w0 w : World} {n : Nat} {l : List Ns} {most : Nat} {F L : List Nat} (S : Tws w0 w n l most F) (hL : LN L w F) (hm : most ≤ 20000) (k a b c d e f t : Int) {K : Int → World → Prop}
    (kk : ∀ F' w', Tws w0 w' n (pst most l ⟨k, a, b, c, d, e, f, t⟩).1 most F' → Md F w w' → FrN w F F' → LN L w' F' → K (pst most l ⟨k, a, b, c, d, e, f, t⟩).2 w') :
    CallW Try.prog L 164 #[.pointer (some ⟨n, 0, none⟩), .agg #[.int .u8 k, .int .u64 a, .int .u64 b, .int .u64 c, .int .u64 d, .int .i64 e, .int .i64 f, .int .i64 t]] (fun v w' => opI .i64 v fun x => K x w') w := by
  refine (f164_ok n l most F ⟨k, a, b, c, d, e, f, t⟩ w S.mr hm S.len).callD (fun b hb => (hL b hb).1) (fun b hb => (hL b hb).2) ?_
  rintro v w' ⟨rfl, F', h1, h2⟩ h'
  exact opI_in (kk F' w' (S.step h1 h' h2 (mst_len most l _ S.len).2) h' h2 (hL.fr h2 h'.size))
end Fk
set_option linter.unusedVariables false
set_option linter.unusedSimpArgs false
set_option maxRecDepth 100000
set_option maxHeartbeats 2000000
namespace Fk
open Go Go.Proofs Go.RowKit
theorem wrL_a {l : List Ns} {i : Nat} (hi : i < l.length) (y : Int) : wrL (l.flatMap nsE) (i * 8 + 5) [.int .i64 y] = (l.set i { l[i] with a := y }).flatMap nsE := by
  rw [← wrL_flat encNs l i { l[i] with a := y } hi]
  apply List.ext_getElem?
  intro j
  have hlen := encNs.lenL l
  rw [wrL_get (by simp only [List.length_cons, List.length_nil]; omega), wrL_get (by rw [encNs.len]; omega), encNs.len]
  simp only [List.length_cons, List.length_nil]
  by_cases h1 : i * 8 ≤ j ∧ j < i * 8 + 8
  · obtain ⟨r, rfl⟩ : ∃ r, j = i * 8 + r := ⟨j - i * 8, by omega⟩
    have hr : r < 8 := by omega
    rw [if_pos h1, encNs.at l i r l[i] (List.getElem?_eq_getElem hi) hr, show i * 8 + r - i * 8 = r by omega]
    rcases (by omega : r = 0 ∨ r = 1 ∨ r = 2 ∨ r = 3 ∨ r = 4 ∨ r = 5 ∨ r = 6 ∨ r = 7) with rfl | rfl | rfl | rfl | rfl | rfl | rfl | rfl
    case inr.inr.inr.inr.inr.inl => rw [if_pos (by omega)]; simp [nsE]
    all_goals (rw [if_neg (by omega)]; simp [nsE])
  · rw [if_neg h1, if_neg (by omega)]
theorem NN_in {A : Addr} {k : Addr → Prop} (h : k A) : NN (some A) k := h
theorem star_put {w0 w : World} {n : Nat} {l2 : List Ns} {most : Nat} {F : List Nat} {n1 : Nat} (S : Tws w0 w n l2 most F) (x : Int) (i : Nat) (hx : x = (i : Int)) (hi : i < l2.length) (kid : Int) (hn1 : n1 ∉ F) {K : World → Prop}
    (kk : ∀ w', Tws w0 w' n (setA l2 x kid) most F → Md F w w' → K w') :
    Ld w ((Addr.mk n 0 none).add 0) fun v115 => opL v115 fun a116 n117 n118 => IxOk x n117 a116 ∧ ¬ Addr.block (adAt a116 x 8) ∈ [n1] ∧ Wr w ((adAt a116 x 8).add 5) 1 ∧ K (setCells w ((adAt a116 x 8).add 5) 0 [.int .i64 kid]) := by
  subst hx
  obtain ⟨a, c, hk, hF⟩ := S.mr
  refine hk.blk.ld' rfl <| opL_in ?_
  have hlen := encNs.lenL l2
  obtain ⟨A, rfl, p1, p2, p3, p4, p5⟩ := own_put hk.own (i * 8 + 5) [.int .i64 kid] (by simp only [List.length_cons, List.length_nil]; omega) (by simp)
  have hA : (adAt (some A) (i : Int) 8).add 5 = A.add (i * 8 + 5) := by
    rw [← add_add]
    simp [adAt]
  have hB : (adAt (some A) (i : Int) 8).block = A.block := by simp [adAt, add_block]
  have hAF : A.block ∈ F := by rw [hF, mem_fpM]; exact .inr ⟨A, rfl, rfl⟩
  rw [wrL_a hi] at p4
  have es : setA l2 (i : Int) kid = l2.set i { l2[i] with a := kid } := by unfold setA; simp [hi]
  rw [hA, hB]
  have hne : A.block ≠ n := hk.ne A rfl
  have own' : OwnL (setCells w (A.add (i * 8 + 5)) 0 [.int .i64 kid]) 0 103 8 nsE (some A) c (l2.set i { l2[i] with a := kid }) := by
    unfold OwnL
    rw [List.length_set]; exact p4
  refine ⟨(hk.own.row encNs).ix hi, by simp; exact fun e => hn1 (e ▸ hAF), p3, kk _ ⟨⟨some A, c, ⟨?_, ?_, hk.ne⟩, hF⟩, S.md.old p5 (by simp; exact S.lo _ hAF), S.lo, by rw [es, List.length_set]; exact S.len⟩ (p5.mono (by simp; exact hAF))⟩
  · have := hk.blk.md p5 (by simp; exact fun e => hne e.symm)
    rw [es, List.length_set]; exact this
  · rw [es]; exact own'
def Tow (most : Nat) (q : Fo) : Prop := ∀ (k a b c d : Int) (sa : Option Addr) (sc : Nat) (to : Int) (n : Nat) (l : List Ns) (F : List Nat) (w0 w : World), RepF w0 sa 0 q → q.len < 2 ^ 63 → ((k = 3 ∨ k = 4) → 1 ≤ q.len) → q.gdP → Tws w0 w n l most F →
    Ct Try.prog 163 #[.pointer (some ⟨n, 0, none⟩), .agg #[.int .u8 k, .int .u64 a, .int .u64 b, .int .u64 c, .int .u64 d, .slice sa q.len sc], .int .i64 to] w
      fun v w' => (v = .int .i64 (twOne most k a b c d (tw most q) (l, to)).2 ∧ ∃ F', Tws w0 w' n (twOne most k a b c d (tw most q) (l, to)).1 most F' ∧ FrN w F F') ∧ Md F w w'
theorem in163 {most : Nat} {q : Fo} (hT : Tow most q) {k a b c d : Int} {sa : Option Addr} {sc : Nat} (to : Int) {n : Nat} {l : List Ns} {F L : List Nat} {w0 w : World} (h1 : RepF w0 sa 0 q) (h2 : q.len < 2 ^ 63) (h3 : (k = 3 ∨ k = 4) → 1 ≤ q.len) (h4 : q.gdP) (S : Tws w0 w n l most F) (hL : LN L w F) {K : Int → World → Prop}
    (kk : ∀ F' w', Tws w0 w' n (twOne most k a b c d (tw most q) (l, to)).1 most F' → Md F w w' → FrN w F F' → LN L w' F' → K (twOne most k a b c d (tw most q) (l, to)).2 w') :
    CallW Try.prog L 163 #[.pointer (some ⟨n, 0, none⟩), .agg #[.int .u8 k, .int .u64 a, .int .u64 b, .int .u64 c, .int .u64 d, .slice sa q.len sc], .int .i64 to] (fun v w' => opI .i64 v fun x => K x w') w := by
  refine (hT k a b c d sa sc to n l F w0 w h1 h2 h3 h4 S).callD (fun b hb => (hL b hb).1) (fun b hb => (hL b hb).2) ?_
  rintro v w' ⟨rfl, F', h5, h6⟩ h'
  exact opI_in (kk F' w' h5 h' h6 (hL.fr h6 h'.size))
/-- A kid is read. -/
theorem kid_ld {w0 w : World} {sa : Option Addr} {q : Fo} {j : Nat} {k a b c d : Int} {q' : Fo} (h : RepF w0 sa 0 q) (hm : Md [] w0 w) (he : q.drop j = .cons k a b c d q' (q.drop (j + 1))) (hj : j < q.len) {K : Int → Int → Int → Int → Int → Option Addr → Nat → Nat → Prop}
    (kk : ∀ sa' sc', q'.len < 2 ^ 63 → RepF w0 sa' 0 q' → K k a b c d sa' q'.len sc') :
    IxOk (j : Int) q.len sa ∧ Ld w ((adAt sa (j : Int) 6).add 0) fun v14 => Ld w ((adAt sa (j : Int) 6).add 1) fun v15 => Ld w ((adAt sa (j : Int) 6).add 2) fun v16 => Ld w ((adAt sa (j : Int) 6).add 3) fun v17 => Ld w ((adAt sa (j : Int) 6).add 4) fun v18 => Ld w ((adAt sa (j : Int) 6).add 5) fun v19 =>
      opI .u8 v14 fun x20 => opI .u64 v15 fun x21 => opI .u64 v16 fun x22 => opI .u64 v17 fun x23 => opI .u64 v18 fun x24 => opL v19 fun a25 n26 n27 => K x20 x21 x22 x23 x24 a25 n26 n27 := by
  have := h.drop q 0 j
  rw [he, Nat.zero_add] at this
  obtain ⟨B, sa', sc', rfl, hc, hql, hq, _⟩ := this.at
  exact ⟨⟨by omega, by omega, rfl⟩, ReC.ld (hc.md hm) (kk sa' sc' hql hq)⟩
theorem f163_step (most : Nat) (hm : most ≤ 20000) (q : Fo) (ih : ∀ q' : Fo, q'.size < q.size → Tow most q') : Tow most q := by
  intro k a b c d sa sc to n l F w0 w hr hql hk34 hgood S
  apply f163_in
  intro n1 hn1 w2 h2 hL2
  have S2 := S.md0 h2
  refine (f165_ok n l most F w2 S2.mr).call hL2 ?_
  rintro v w4 rfl m4
  have S4 := S2.md0 m4
  have m24 := h2.trans m4
  have l1 : n1 < w4.heap.size := by have := hL2 n1 (by simp); have := m4.size; omega
  have hLN : LN [n1] w4 F := fun b hb => by
    simp at hb; subst hb
    exact ⟨l1, fun hm => by have := S.mr.lt _ hm; omega⟩
  refine opB_in <| If_in (fun hb => ?_) fun hb => Bd_e rfl <| Bd_e (y := (q.len : Int) - 1) (by rw [IntKind.wrap_i64]; omega) ?_
  · have hfull : l.length > most := by simpa using hb
    have e : twOne most k a b c d (tw most q) (l, to) = (l, to) := by unfold twOne; rw [if_pos hfull]
    rw [e]
    exact ⟨⟨rfl, F, S4, FrN.refl _ _⟩, m24.mono (by simp)⟩
  have hnf : ¬ l.length > most := by simpa using hb
  have up : ∀ {F' : List Nat} {w' : World} {l' : List Ns}, Tws w0 w' n l' most F' → Md F w4 w' → FrN w4 F F' → (∃ F', Tws w0 w' n l' most F' ∧ FrN w F F') ∧ Md F w w' := fun {F' w' l'} h1 h2 h3 =>
    ⟨⟨F', h1, fun b hb => by rcases h3 b hb with h | h; exact .inl h; have := m24.size; right; omega⟩, Md_frN (m24.mono (by simp)) h2 (FrN.refl _ _)⟩
  refine Jn_in (fun us vs w' => ∃ (x y : Int) (b1 b2 : Bool), us = [.int .i64 x, .int .i64 y, .bool b1, .bool b2] ∧ x = (twOne most k a b c d (tw most q) (l, to)).2 ∧ (∃ F', Tws w0 w' n (twOne most k a b c d (tw most q) (l, to)).1 most F' ∧ FrN w F F') ∧ Md F w w') ?_ ?_
  · rintro us vs w10 ⟨x, y, b1, b2, rfl, rfl, h3, h4⟩
    exact opI_in <| opI_in <| opB_in <| opB_in ⟨⟨rfl, h3⟩, h4⟩
  refine Bd_in fun b16 hb16 => If_in (fun hb => ?_) fun hb1 => ?_
  · have hk : k = 1 := by rw [hb16] at hb; simpa using hb
    have e : twOne most k a b c d (tw most q) (l, to) = pst most l ⟨1, a, b, c, d, to, 0, 0⟩ := by unfold twOne; rw [if_neg hnf, if_pos hk]
    rw [e]
    refine in164 S4 hLN hm 1 a b c d to 0 0 fun F' w18 S18 m18 f18 _ => ?_
    obtain ⟨u1, u2⟩ := up S18 m18 f18
    exact ⟨⟨rfl, u1⟩, u2⟩

  have hk1 : k ≠ 1 := by rw [hb16] at hb1; simpa using hb1
  refine Bd_in fun b20 hb20 => If_in (fun hb => ?_) fun hb2 => ?_
  · have hk : k = 2 := by rw [hb20] at hb; simpa using hb
    have e : twOne most k a b c d (tw most q) (l, to) = (tw most q).cat (l, to) := by unfold twOne; rw [if_neg hnf, if_neg hk1, if_pos hk]
    refine LoopP_in (fun mm us vs w' => ∃ (j : Nat) (x : Int) (l' : List Ns) (F' : List Nat), us = [.int .i64 x, .int .i64 ((j : Int) - 1)] ∧ mm = j ∧ j ≤ q.len ∧ (tw most (q.drop j)).cat (l, to) = (l', x) ∧ Tws w0 w' n l' most F' ∧ Md F w4 w' ∧ FrN w4 F F' ∧ LN [n1] w' F') q.len
      ⟨q.len, to, l, F, rfl, rfl, Nat.le_refl _, by rw [Fo.drop_all q _ (Nat.le_refl _)]; rfl, S4, Md.refl _ _, FrN.refl _ _, hLN⟩ ?_
    rintro mm us vs w24 ⟨j, x, l', F', rfl, hmm, hj, hc, St, m, f, hL⟩
    refine opI_in <| opI_in <| Bd_in fun b27 hb27 => If_in (fun hb => ?_) fun hb => ?_
    · have hj1 : (j : Int) - 1 ≥ 0 := by rw [hb27] at hb; exact of_decide_eq_true hb
      obtain ⟨i, rfl⟩ : ∃ i, j = i + 1 := ⟨j - 1, by omega⟩
      have ei : (((i + 1 : Nat) : Int) - 1) = (i : Int) := by omega
      rw [ei]
      obtain ⟨k', a', b', c', d', q', he, hqs⟩ := Fo.drop_cons q i hj
      have hg := q.gdP_drop i hgood
      rw [he] at hg
      refine kid_ld hr St.md he hj fun sa' sc' hql' hr' => ?_
      refine in163 (ih q' hqs) x hr' hql' hg.1 hg.2.1 St hL fun F2 w43 S43 m43 f43 lf43 => Bd_e (y := (i : Int) - 1) (by rw [IntKind.wrap_i64]; omega) ⟨i, by omega, i, _, _, F2, rfl, rfl, by omega, ?_, S43, Md_frN m m43 f, f.trans f43 m.size, lf43⟩
      rw [he]
      show twOne most k' a' b' c' d' (tw most q') ((tw most (q.drop (i + 1))).cat (l, to)) = _
      rw [hc]
    · have hj1 : ¬ (j : Int) - 1 ≥ 0 := by rw [hb27] at hb; exact of_decide_eq_false hb
      have hj0 : j = 0 := by omega
      subst hj0
      obtain ⟨u1, u2⟩ := up St m f
      have hc' : (tw most q).cat (l, to) = (l', x) := by simpa [Fo.drop] using hc
      rw [e, hc']
      exact ⟨x, 0, b16, b20, rfl, rfl, u1, u2⟩
  have hk2 : k ≠ 2 := by rw [hb20] at hb2; simpa using hb2
  refine Bd_in fun b46 hb46 => If_in (fun hb => ?_) fun hb3 => ?_
  · have hk : k = 3 := by rw [hb46] at hb; simpa using hb
    have e : twOne most k a b c d (tw most q) (l, to) = (((tw most q).alt to l).1, ((tw most q).alt to l).2.getD 0) := by unfold twOne; rw [if_neg hnf, if_neg hk1, if_neg hk2, if_pos hk]
    have hl1 := hk34 (.inl hk)
    obtain ⟨j0, hj0⟩ : ∃ j0, q.len = j0 + 1 := ⟨q.len - 1, by omega⟩
    have ei : (q.len : Int) - 1 = (j0 : Int) := by omega
    rw [ei]
    obtain ⟨k', a', b', c', d', q', he, hqs⟩ := Fo.drop_cons q j0 (by omega)
    have hg := q.gdP_drop j0 hgood
    rw [he] at hg
    refine kid_ld hr S4.md he (by omega) fun sa' sc' hql' hr' => ?_
    refine in163 (ih q' hqs) to hr' hql' hg.1 hg.2.1 S4 hLN fun F1 w62 S62 m62 f62 lf62 => Bd_e (y := (j0 : Int) - 1) (by rw [IntKind.wrap_i64]; omega) ?_
    refine LoopP_in (fun mm us vs w' => ∃ (j : Nat) (x : Int) (l' : List Ns) (F' : List Nat), us = [.int .i64 x, .int .i64 ((j : Int) - 1)] ∧ mm = j ∧ j ≤ j0 ∧ (tw most (q.drop j)).alt to l = (l', some x) ∧ Tws w0 w' n l' most F' ∧ Md F w4 w' ∧ FrN w4 F F' ∧ LN [n1] w' F') j0
      ⟨j0, _, _, F1, rfl, rfl, Nat.le_refl _, by rw [he, Fo.drop_all q _ (by omega)]; rfl, S62, m62, f62, lf62⟩ ?_
    rintro mm us vs w24 ⟨j, x, l', F', rfl, hmm, hj, hc, St, m, f, hL⟩
    refine opI_in <| opI_in <| Bd_in fun b27 hb27 => If_in (fun hb => ?_) fun hb => ?_
    · have hj1 : (j : Int) - 1 ≥ 0 := by rw [hb27] at hb; exact of_decide_eq_true hb
      obtain ⟨i, rfl⟩ : ∃ i, j = i + 1 := ⟨j - 1, by omega⟩
      have ei : (((i + 1 : Nat) : Int) - 1) = (i : Int) := by omega
      rw [ei]
      obtain ⟨k2, a2, b2, c2, d2, q2, he2, hqs2⟩ := Fo.drop_cons q i (by omega)
      have hg2 := q.gdP_drop i hgood
      rw [he2] at hg2
      refine kid_ld hr St.md he2 (by omega) fun sa' sc' hql' hr' => ?_
      refine in163 (ih q2 hqs2) to hr' hql' hg2.1 hg2.2.1 St hL fun F2 w43 S43 m43 f43 lf43 => ?_
      refine in164 S43 lf43 hm 2 0 0 0 0 _ x 0 fun F3 w44 S44 m44 f44 lf44 => Bd_e (y := (i : Int) - 1) (by rw [IntKind.wrap_i64]; omega) ⟨i, by omega, i, _, _, F3, rfl, rfl, by omega, ?_, S44, Md_frN (Md_frN m m43 f) m44 (f.trans f43 m.size), (f.trans f43 m.size).trans f44 (by have := m.size; have := m43.size; omega), lf44⟩
      rw [he2]
      show twAlt most (twOne most k2 a2 b2 c2 d2 (tw most q2)) (tw most (q.drop (i + 1))) to l = _
      unfold twAlt
      simp only [hc]
      rfl
    · have hj1 : ¬ (j : Int) - 1 ≥ 0 := by rw [hb27] at hb; exact of_decide_eq_false hb
      have hj0 : j = 0 := by omega
      subst hj0
      obtain ⟨u1, u2⟩ := up St m f
      have hc' : (tw most q).alt to l = (l', some x) := by simpa [Fo.drop] using hc
      rw [e, hc']
      exact ⟨⟨rfl, u1⟩, u2⟩
  have hk3 : k ≠ 3 := by rw [hb46] at hb3; simpa using hb3
  refine Bd_in fun b93 hb93 => If_in (fun hb => ?_) fun hb4 => ?_
  case refine_2 =>
    have hk4 : k ≠ 4 := by rw [hb93] at hb4; simpa using hb4
    have e : twOne most k a b c d (tw most q) (l, to) = (l, to) := by unfold twOne; rw [if_neg hnf, if_neg hk1, if_neg hk2, if_neg hk3, if_neg hk4]
    obtain ⟨u1, u2⟩ := up S4 (Md.refl _ _) (FrN.refl _ _)
    rw [e]
    exact ⟨to, 0, b16, b20, rfl, rfl, u1, u2⟩
  have hk : k = 4 := by rw [hb93] at hb; simpa using hb
  have e : twOne most k a b c d (tw most q) (l, to) = (setA ((tw most q).one (pst most l (spl 0 to))).1 (pst most l (spl 0 to)).2 ((tw most q).one (pst most l (spl 0 to))).2, (pst most l (spl 0 to)).2) := by unfold twOne; rw [if_neg hnf, if_neg hk1, if_neg hk2, if_neg hk3, if_pos hk]
  have hl1 := hk34 (.inr hk)
  obtain ⟨k', a', b', c', d', q', he, hqs⟩ := Fo.drop_cons q 0 (by omega)
  have he0 : q = .cons k' a' b' c' d' q' (q.drop 1) := by have := he; simpa [Fo.drop] using this
  have hg := hgood
  rw [he0] at hg
  refine in164 S4 hLN hm 2 0 0 0 0 0 to 0 fun F1 w95 S95 m95 f95 lf95 => kid_ld (j := 0) hr S95.md he (by omega) fun sa' sc' hql' hr' => ?_
  refine in163 (ih q' hqs) _ hr' hql' hg.1 hg.2.1 S95 lf95 fun F2 w112 S112 m112 f112 lf112 => ?_
  have eone : (tw most q).one = twOne most k' a' b' c' d' (tw most q') := by rw [he0]; rfl
  have hlp := (tw_len most q).2.2 (pst most l (spl 0 to)) S95.len
  rw [eone] at e hlp
  have hp1 : 1 ≤ (pst most l (spl 0 to)).1.length := by show 1 ≤ (mst most l _).length; unfold mst; split <;> (try simp) <;> omega
  have hp2 : (pst most l (spl 0 to)).2 = ((pst most l (spl 0 to)).1.length : Int) - 1 := rfl
  change Tws w0 w112 n (twOne most k' a' b' c' d' (tw most q') (pst most l (spl 0 to))).1 most F2 at S112
  rw [e]
  refine NN_in <| star_put (K := fun w' => (Value.int .i64 (pst most l (spl 0 to)).2 = .int .i64 (pst most l (spl 0 to)).2 ∧ ∃ F', Tws w0 w' n (setA (twOne most k' a' b' c' d' (tw most q') (pst most l (spl 0 to))).1 (pst most l (spl 0 to)).2 (twOne most k' a' b' c' d' (tw most q') (pst most l (spl 0 to))).2) most F' ∧ FrN w F F') ∧ Md F w w') S112 (pst most l (spl 0 to)).2 ((pst most l (spl 0 to)).1.length - 1) (by omega) (by omega) _ (lf112 n1 (by simp)).2 fun w' S' m' => ?_
  have mm := Md_frN (Md_frN m95 m112 f95) m' ((f95.trans f112 m95.size))
  obtain ⟨u1, u2⟩ := up S' mm (f95.trans f112 m95.size)
  exact ⟨⟨rfl, u1⟩, u2⟩
theorem tow_ok (most : Nat) (hm : most ≤ 20000) : ∀ (s : Nat) (q : Fo), q.size < s → Tow most q
  | 0, q, h => by omega
  | s + 1, q, h => f163_step most hm q fun q' h' => tow_ok most hm s q' (by omega)
end Fk
set_option linter.unusedVariables false
set_option linter.unusedSimpArgs false
set_option maxRecDepth 100000
namespace Fk
open Go Go.Proofs Go.RowKit
theorem good_of_right : ∀ f : Fo, f.right = true → f.gdP
  | .nil, _ => trivial
  | .cons k a b c d q r, h => by
    simp only [Fo.right, Bool.and_eq_true] at h
    refine ⟨fun hk => ?_, good_of_right q h.1.2, good_of_right r h.2⟩
    have h1 := h.1.1
    unfold nodeOk at h1
    rcases hk with rfl | rfl <;> simp at h1 <;> omega
/-- The trees of a row, one behind the other: an end, what the tree makes, and where it begins. -/
def bldF (most : Nat) : Fo → Int → List Ns → List Int → List Ns × List Int
  | .nil, _, l, bs => (l, bs)
  | .cons k a b c d q r, i, l, bs =>
    let s := pst most l ⟨0, 0, 0, 0, 0, 0, 0, i⟩
    let t := twOne most k a b c d (tw most q) s
    bldF most r (i + 1) t.1 (bs ++ [t.2])
/-- The beginnings, joined from the last one on. -/
def joinB (most : Nat) : List Int → List Ns → List Ns × Int
  | [], l => (l, 0)
  | b :: bs, l => match bs with
    | [] => (l, b)
    | _ :: _ => pst most (joinB most bs l).1 (spl b (joinB most bs l).2)
def bld (f : Fo) (most : Int) : (Int × List Ns) × Int :=
  if 1 ≤ f.len ∧ f.len ≤ 200 ∧ 1 ≤ most ∧ most ≤ 20000 ∧ f.right = true then
    let t := bldF most.toNat f 0 [] []
    let j := joinB most.toNat t.2 t.1
    if (j.1.length : Int) > most then ((0, []), 40) else ((j.2, j.1), 0)
  else ((0, []), 2)
end Fk
set_option linter.unusedVariables false
set_option linter.unusedSimpArgs false
set_option maxRecDepth 100000
set_option maxHeartbeats 2000000
namespace Fk
open Go Go.Proofs Go.RowKit
theorem OwnL.up {α : Type} {w : World} {base b : Nat} {e : TypeId} {size : Nat} {enc : α → List Value} {a : Option Addr} {c : Nat} {l : List α} (h : OwnL w base e size enc a c l) (hb : ∀ A, a = some A → b ≤ A.block) : OwnL w b e size enc a c l := by
  refine ⟨h.1, ?_⟩
  rcases h.2 with hn | ⟨g, cap, cur, hv, hb', rest⟩
  · exact .inl hn
  · refine .inr ⟨g, cap, cur, hv, ?_, rest⟩
    simp only [Value.slice.injEq] at hv
    exact hb _ hv.1
theorem right_take : ∀ (f : Fo) (j : Nat), f.right = true → (f.drop j).right = true
  | f, 0, h => by simpa [Fo.drop] using h
  | .nil, j + 1, h => rfl
  | .cons _ _ _ _ _ _ r, j + 1, h => by
    simp only [Fo.right, Bool.and_eq_true] at h
    exact right_take r j h.2
theorem right_pre {f : Fo} {j : Nat} {k a b c d : Int} {q : Fo} (he : f.drop j = .cons k a b c d q (f.drop (j + 1))) (h : f.right = true) : nodeOk k (z4 a b c d) q.len = true ∧ q.right = true := by
  have := right_take f j h
  rw [he] at this
  simp only [Fo.right, Bool.and_eq_true] at this
  exact this.1
theorem right_at : ∀ (f : Fo), (∀ j k a b c d q, j < f.len → f.drop j = .cons k a b c d q (f.drop (j + 1)) → nodeOk k (z4 a b c d) q.len = true ∧ q.right = true) → f.right = true
  | .nil, _ => rfl
  | .cons k a b c d q r, h => by
    have h0 := h 0 k a b c d q (by simp [Fo.len]) (by simp only [Fo.drop])
    have hr := right_at r fun j k' a' b' c' d' q' hj he => h (j + 1) k' a' b' c' d' q' (by simp only [Fo.len]; omega) (by simp only [Fo.drop]; exact he)
    simp only [Fo.right, Bool.and_eq_true]
    exact ⟨⟨h0.1, h0.2⟩, hr⟩
/-- All trees are asked, as long as they are right. -/
def firstR (f : Fo) (i : Nat) : Prop := ∀ j k a b c d q, j < i → f.drop j = .cons k a b c d q (f.drop (j + 1)) → nodeOk k (z4 a b c d) q.len = true ∧ q.right = true
end Fk
set_option linter.unusedVariables false
set_option linter.unusedSimpArgs false
set_option maxRecDepth 100000
set_option maxHeartbeats 2000000
namespace Fk
open Go Go.Proofs Go.RowKit
theorem Nw_i {o : Obj} {w : World} {K : Nat → World → Prop} (k : K w.heap.size (w.alloc o)) : Nw o w K := fun _ _ e1 e2 => by subst e1; subst e2; exact k
theorem f66_ok (f : Fo) (A : Option Addr) (C : Nat) (most : Int) (w : World) (hr : RepF w A 0 f) (hl : f.len < 2 ^ 63) :
    Ct Try.prog 66 #[.slice A f.len C, .int .i64 most] w fun v w' => (∃ a c, v = .tuple #[.agg #[.int .i64 (bld f most).1.1, .slice a (bld f most).1.2.length c], .int .i64 (bld f most).2] ∧ OwnL w' w.heap.size 103 8 nsE a c (bld f most).1.2) ∧ Md [] w w' := by
  apply f66_in
  intro n1 hn1
  refine Bd_e rfl <| Bd_in fun b3 hb3 => Bd_e rfl <| Bd_in fun b5 hb5 => Bd_in fun b6 hb6 => Bd_in fun b7 hb7 => Bd_in fun b8 hb8 => Bd_in fun b9 hb9 => Bd_in fun b10 hb10 w11 h11 hL11 => ?_
  have e10 : b10 = decide (1 ≤ f.len ∧ f.len ≤ 200 ∧ 1 ≤ most ∧ most ≤ 20000) := by
    rw [hb10, hb8, hb9, hb6, hb7, hb3, hb5]
    by_cases c1 : 1 ≤ f.len <;> by_cases c2 : f.len ≤ 200 <;> by_cases c3 : 1 ≤ most <;> by_cases c4 : most ≤ 20000 <;> simp [c1, c2, c3, c4] <;> omega
  refine LoopP_in (fun mm us vs w' => ∃ (i : Nat) (b : Bool), us = [.bool b, .int .i64 i] ∧ mm = f.len - i ∧ i ≤ f.len ∧ Md [] w w' ∧ n1 < w'.heap.size ∧ (b = true → b10 = true ∧ firstR f i) ∧ (b = false → b10 = false ∨ f.right = false)) f.len ⟨0, b10, rfl, rfl, by omega, h11, hL11 n1 (by simp), fun h => ⟨h, fun j _ _ _ _ _ _ hj => by omega⟩, fun h => .inl h⟩ ?_
  rintro mm us vs w15 ⟨i, b, rfl, hmm, hi, hmd, hn, hT, hFl⟩
  refine opB_in <| opI_in <| Bd_e rfl <| Bd_in fun b19 hb19 => Bd_in fun b20 hb20 => If_in (fun hb => ?_) fun hb => Bd_in fun b39 hb39 => If_in (fun hno w40 h40 hL40 => ?_) fun hyes => ?_
  · have hbt : i < f.len ∧ b = true := by
      rw [hb20, hb19] at hb
      by_cases c : i < f.len
      · simp [c] at hb; exact ⟨c, hb⟩
      · simp [c] at hb
    obtain ⟨k, a, b', c, d, q, he, hqs⟩ := Fo.drop_cons f i hbt.1
    refine kid_ld hr hmd he hbt.1 fun sa' sc' hql' hr' => ?_
    refine (f144_ok q.size q k a b' c d sa' sc' w15 (Nat.le_refl _) (hr'.md hmd) hql').call (by simpa using hn) ?_
    rintro v w36 rfl m36
    obtain ⟨g1, g2⟩ := hT hbt.2
    refine opB_in <| Bd_e (y := ((i + 1 : Nat) : Int)) (by rw [IntKind.wrap_i64]; omega) ⟨f.len - (i + 1), by omega, i + 1, _, rfl, rfl, by omega, hmd.trans m36, by have := m36.size; omega, fun h => ⟨g1, fun j k' a' b'' c' d' q' hj he' => ?_⟩, fun h => .inr ?_⟩
    · by_cases hji : j < i
      · exact g2 j _ _ _ _ _ _ hji he'
      · have : j = i := by omega
        subst this
        rw [he] at he'
        injection he' with e1 e2 e3 e4 e5 e6
        subst e1; subst e2; subst e3; subst e4; subst e5; subst e6
        simpa using h
    · by_cases hfr : f.right = true
      · have := right_pre he hfr
        rw [this.1, this.2] at h
        simp at h
      · simpa using hfr
  · have hbf : b = false := by rw [hb39] at hno; simpa using hno
    have m40 : Md [] w w40 := hmd.old h40 (by simp; exact hn1)
    have e : bld f most = ((0, []), 2) := by
      unfold bld
      rw [if_neg]
      rintro ⟨h1, h2, h3, h4, h5⟩
      rcases hFl hbf with h | h
      · rw [e10, decide_eq_true ⟨h1, h2, h3, h4⟩] at h; cases h
      · rw [h5] at h; cases h
    rw [e]
    exact ⟨⟨none, 0, rfl, OwnL.nil _ _ _ _ _⟩, m40⟩
  have hbt : b = true := by rw [hb39] at hyes; simpa using hyes
  have hif : i = f.len := by
    rw [hb20, hb19, hbt] at hb
    have : ¬ (i : Int) < (f.len : Int) := by simpa using hb
    omega
  subst hif
  obtain ⟨g1, g2⟩ := hT hbt
  have hright : f.right = true := right_at f fun j k a b c d q hj he => g2 j k a b c d q hj he
  have hcond : 1 ≤ f.len ∧ f.len ≤ 200 ∧ 1 ≤ most ∧ most ≤ 20000 := by rw [g1] at e10; exact of_decide_eq_true e10.symm
  obtain ⟨mo, rfl⟩ := Int.eq_ofNat_of_zero_le (show 0 ≤ most by omega)
  have hgood := good_of_right f hright
  intro n41 w42 e41 e42
  subst e41; subst e42
  have ma : Md [] w15 (w15.alloc (.cells #[.slice none 0 0, .int .i64 mo] 214)) := Md.alloc w15 _
  have b42 : Blk (w15.alloc (.cells #[.slice none 0 0, .int .i64 mo] 214)) w15.heap.size 214 [.slice none 0 0, .int .i64 mo] := Blk.new w15 _ 214
  have T42 : Tws w (w15.alloc (.cells #[.slice none 0 0, .int .i64 mo] 214)) w15.heap.size [] mo (fpM w15.heap.size none) := ⟨⟨none, 0, ⟨b42, OwnL.nil _ _ _ _ _, fun A hA => by cases hA⟩, rfl⟩, hmd.trans ma, (fun b hb => by
    rw [mem_fpM] at hb
    rcases hb with rfl | ⟨A, hA, _⟩
    · exact hmd.size
    · cases hA), Nat.zero_le _⟩
  have hn42 : n1 < (w15.alloc (.cells #[.slice none 0 0, .int .i64 mo] 214)).heap.size := by have := ma.size; omega
  have hn1n : LN [n1] (w15.alloc (.cells #[.slice none 0 0, .int .i64 mo] 214)) (fpM w15.heap.size none) := fun b hb => by
    simp at hb; subst hb
    refine ⟨hn42, fun hm => ?_⟩
    rw [mem_fpM] at hm
    rcases hm with h | ⟨A, hA, _⟩
    · omega
    · cases hA
  refine Bd_e rfl ?_
  generalize w15.alloc (.cells #[.slice none 0 0, .int .i64 mo] 214) = w42 at *
  generalize hF0 : fpM w15.heap.size none = F0 at *
  generalize w15.heap.size = n41 at *
  refine LoopP_in (fun mm us vs w' => ∃ (i : Nat) (a : Option Addr) (c : Nat) (l : List Ns) (bs : List Int) (F : List Nat), us = [.slice a bs.length c, .int .i64 i] ∧ mm = f.len - i ∧ i ≤ f.len ∧ bldF mo (f.drop i) i l bs = bldF mo f 0 [] [] ∧ Tws w w' n41 l mo F ∧ OwnL w' w.heap.size 3 1 i1 a c bs ∧ (∀ A, a = some A → A.block ∉ F) ∧ bs.length = i ∧ LN [n1] w' F ∧ (∀ A, a = some A → A.block ≠ n1)) f.len
    ⟨0, none, 0, [], [], F0, rfl, rfl, by omega, by simp [Fo.drop], T42, OwnL.nil _ _ _ _ _, (fun A hA => by cases hA), rfl, hn1n, fun A hA => by cases hA⟩ ?_
  rintro mm us vs w47 ⟨i, a, c, l, bs, F, rfl, hmm, hi, hbl, T, ho, haF, hbs, hL, ha1⟩
  refine opL_in <| opI_in <| Bd_in fun b52 hb52 => If_in (fun hb => ?_) fun hb => ?_
  · have hi' : i < f.len := by rw [hb52] at hb; have : (i : Int) < (f.len : Int) := by simpa using hb
                               omega
    obtain ⟨k, a1, b1', c1, d1, q, he, hqs⟩ := Fo.drop_cons f i hi'
    have hg := f.gdP_drop i hgood
    rw [he] at hg
    refine kid_ld hr T.md he hi' fun sa' sc' hql' hr' n67 hn67 w68 h68 hL68 => ?_
    have m68 : Md [] w47 w68 := h68.fresh (by simp; exact hn67)
    have T68 := (T.md0 m68).md0 (Md_drew w68)
    have L68 : LN [n67, n1] w68.drew F := fun b hb => by
      refine ⟨hL68 b hb, fun hm => ?_⟩
      simp at hb
      rcases hb with rfl | rfl
      · have := T.mr.lt _ hm; omega
      · exact (hL _ (by simp)).2 hm
    refine ⟨fun _ => True, trivial, in164 T68 L68 (by omega) 0 0 0 0 0 0 0 i fun F1 w71 T71 m71 f71 L71 => ⟨trivial, in163 (tow_ok mo (by omega) (q.size + 1) q (by omega)) _ hr' hql' hg.1 hg.2.1 T71 L71 fun F2 w74 T74 m74 f74 L74 => ⟨trivial, Nw_i ⟨trivial, ?_⟩⟩⟩⟩
    have mF : Md F w47 w74 := Md_frN (Md_frN (m68.trans (Md_drew w68) |>.mono (by simp)) m71 (FrN.refl _ _)) m74 (fun b hb => by
      rcases f71 b hb with h | h
      · exact .inl h
      · right; have := m68.size; have h2 : w68.drew.heap.size = w68.heap.size := rfl; omega)
    have ho74 : OwnL w74 w.heap.size 3 1 i1 a c bs := ho.mdD mF haF
    generalize hx75 : (twOne mo k a1 b1' c1 d1 (tw mo q) (_, _)).2 = x75
    have ma74 : Md [] w74 (w74.alloc (.cells #[.int .i64 x75] 3)) := Md.alloc w74 _
    have ol := OwnL.lit (P := Try.prog) (base := w74.heap.size) enci1 w74 3 [x75] #[.int .i64 x75] (Nat.le_refl _) (by simp [maxLen]) rfl
    have s1 := m68.size
    have s2 : w68.drew.heap.size = w68.heap.size := rfl
    have s3 := m71.size
    have s4 := m74.size
    have s5 := ma74.size
    have s0 := T.md.size
    have haF2 : ∀ A, a = some A → A.block ∉ F2 := fun A hA hm => by
      have hlt := (ho.lt hA).2
      rcases f74 _ hm with h | h
      · rcases f71 _ h with h | h
        · exact haF A hA h
        · omega
      · omega
    have hsp : ∀ A, a = some A → A.block ≠ n67 := fun A hA => by have := (ho.lt hA).2; omega
    refine app_own rowT52 enci1 (ho74.md ma74) ol (by omega) (fun b hb => by have := (L74 b hb).1; omega) (fun b hb A hA => by
      simp at hb
      rcases hb with rfl | rfl
      · exact hsp A hA
      · exact ha1 A hA) (by simp [maxLen]; omega) (by simp; omega) fun a' c' w79 o79 m79 hA' => opL_in ⟨trivial, Bd_e (inc_i64 (by omega)) ?_⟩
    have mT : Md [] w w74 := T74.md
    have T79 : Tws w w79 n41 _ mo F2 := ⟨(T74.md0 ma74).mr.md m79 (fun b hb hm => by
      cases a with
      | none => simp at hm
      | some A => simp at hm; exact haF2 A rfl (hm ▸ hb)), (T74.md0 ma74).md.old m79 (fun d hd => by
      cases a with
      | none => simp at hd
      | some A => simp at hd; rw [hd]; exact (ho.lt rfl).1), T74.lo, T74.len⟩
    have s6 := m79.size
    refine ⟨f.len - (i + 1), by omega, i + 1, a', c', _, bs ++ [x75], F2, rfl, rfl, by omega, ?_, T79, o79, fun A hA hm => ?_, by simp; omega, fun b hb => ?_, fun A hA e => ?_⟩
    · rw [he] at hbl
      rw [← hbl, ← hx75]
      rfl
    · rcases hA' A hA with h | h
      · exact haF2 A h hm
      · have := T74.mr.lt _ hm; omega
    · have := L74 b (by simp at hb ⊢; exact .inr hb)
      exact ⟨by omega, this.2⟩
    · rcases hA' A hA with h | h
      · exact ha1 A h e
      · have := (L74 n1 (by simp)).1; omega
  have hif : i = f.len := by
    have : ¬ (i : Int) < (f.len : Int) := by rw [hb52] at hb; exact of_decide_eq_false hb
    omega
  subst hif
  rw [Fo.drop_all f _ (Nat.le_refl _)] at hbl
  change (l, bs) = _ at hbl
  obtain ⟨j0, hj0⟩ : ∃ j0, f.len = j0 + 1 := ⟨f.len - 1, by omega⟩
  refine Bd_e rfl <| Bd_e (y := (j0 : Int)) (by rw [IntKind.wrap_i64]; omega) ⟨(ho.row enci1).ix (by omega), (ho.row enci1).ld1 (by omega) rfl <| opI_in <| Bd_e rfl <| Bd_e (y := (j0 : Int) - 1) (by rw [IntKind.wrap_i64]; omega) ?_⟩
  have e0 : joinB mo (bs.drop j0) l = (l, bs[j0]'(by omega)) := by
    rw [List.drop_eq_getElem_cons (by omega), List.drop_of_length_le (by omega)]
    rfl
  refine LoopP_in (fun mm us vs w' => ∃ (j : Nat) (x : Int) (l' : List Ns) (F' : List Nat), us = [.int .i64 x, .int .i64 ((j : Int) - 1)] ∧ mm = j ∧ j ≤ j0 ∧ joinB mo (bs.drop j) l = (l', x) ∧ Tws w w' n41 l' mo F' ∧ Md F w47 w' ∧ FrN w47 F F' ∧ LN [n1] w' F') j0
    ⟨j0, _, _, F, rfl, rfl, Nat.le_refl _, e0, T, Md.refl _ _, FrN.refl _ _, hL⟩ ?_
  rintro mm us vs w93 ⟨j, x, l', F', rfl, hmm, hj, hc, St, m, fr, hL'⟩
  refine opI_in <| opI_in <| Bd_in fun b96 hb96 => If_in (fun hb => ?_) fun hb => ?_
  · have hj1 : (j : Int) - 1 ≥ 0 := by rw [hb96] at hb; exact of_decide_eq_true hb
    obtain ⟨i, rfl⟩ : ∃ i, j = i + 1 := ⟨j - 1, by omega⟩
    have ei : (((i + 1 : Nat) : Int) - 1) = (i : Int) := by omega
    rw [ei]
    have ho' : OwnL w93 w.heap.size 3 1 i1 a c bs := ho.mdD m haF
    refine ⟨(ho'.row enci1).ix (by omega), (ho'.row enci1).ld1 (by omega) rfl <| opI_in ?_⟩
    refine in164 St hL' (by omega) 2 0 0 0 0 _ x 0 fun F3 w44 S44 m44 f44 lf44 => Bd_e (y := (i : Int) - 1) (by rw [IntKind.wrap_i64]; omega) ⟨i, by omega, i, _, _, F3, rfl, rfl, by omega, ?_, S44, Md_frN m m44 fr, fr.trans f44 m.size, lf44⟩
    rw [List.drop_eq_getElem_cons (by omega : i < bs.length)]
    obtain ⟨y, ys, hys⟩ : ∃ y ys, bs.drop (i + 1) = y :: ys := ⟨_, _, List.drop_eq_getElem_cons (by omega)⟩
    rw [hys] at hc ⊢
    show pst mo (joinB mo (y :: ys) l).1 (spl _ (joinB mo (y :: ys) l).2) = _
    rw [hc]
    rfl
  have hj1 : ¬ (j : Int) - 1 ≥ 0 := by rw [hb96] at hb; exact of_decide_eq_false hb
  have hjz : j = 0 := by omega
  subst hjz
  have hc' : joinB mo bs l = (l', x) := by simpa using hc
  have eb : bld f mo = if (l'.length : Int) > mo then ((0, []), 40) else ((x, l'), 0) := by
    unfold bld
    rw [if_pos ⟨hcond.1, hcond.2.1, hcond.2.2.1, hcond.2.2.2, hright⟩]
    simp only [Int.toNat_natCast, ← hbl, hc']
  refine (f165_ok n41 l' mo F' w93 St.mr).call (fun b hb => (hL' b hb).1) ?_
  rintro v w104 rfl m104
  have hn104 : n1 < w104.heap.size := by have := (hL' n1 (by simp)).1; have := m104.size; omega
  have mw : Md [] w w104 := St.md.trans m104
  refine opB_in <| If_in (fun hb w106 h106 hL106 => ?_) fun hb => NN_in ?_
  · have : l'.length > mo := by simpa using hb
    rw [eb, if_pos (by omega)]
    exact ⟨⟨none, 0, rfl, OwnL.nil _ _ _ _ _⟩, mw.old h106 (by simp; exact hn1)⟩
  · have hle : ¬ (l'.length : Int) > mo := by
      have : ¬ l'.length > mo := by simpa using hb
      omega
    rw [eb, if_neg hle]
    obtain ⟨a', c', hk, hF⟩ := St.mr.md0 m104
    refine hk.blk.ld' rfl <| opL_in fun w112 h112 hL112 => ?_
    refine ⟨⟨a', c', rfl, (hk.own.mdD h112 (fun A hA => by simp; have h1 := (hL' n1 (by simp)).2; intro e; exact h1 (by rw [hF, mem_fpM]; exact .inr ⟨A, hA, e⟩))).up fun A hA => St.lo _ (by rw [hF, mem_fpM]; exact .inr ⟨A, hA, rfl⟩)⟩, mw.old h112 (by simp; exact hn1)⟩
end Fk
set_option linter.unusedVariables false
set_option linter.unusedSimpArgs false
namespace Fk
open Go Go.Proofs Go.RowKit
def Ns.q (x : Ns) : Q4 := (x.s1, x.s2, x.s3, x.s4)
def On (N : List Bool) (i : Nat) : Prop := N[i]? = some true
instance (N : List Bool) (i : Nat) : Decidable (On N i) := by unfold On; infer_instance
/-- The states of a stack are come to, and what they come to without a byte. -/
def comeF (l : List Ns) : Nat → List Int → List Bool → List Bool
  | 0, _, N => N
  | m + 1, st, N => match st with
    | [] => N
    | x :: r => if On N x.toNat then comeF l m r N
      else comeF l m (match l[x.toNat]? with
        | some s => if s.k = 2 then s.b :: s.a :: r else r
        | none => r) (N.set x.toNat true)
def come (l : List Ns) (x : Int) (N : List Bool) : List Bool := comeF l (2 * l.length + 1) [x] N
/-- By a byte. -/
def stepF (l : List Ns) (b : Nat) : List Bool → List Ns → List Bool → List Bool
  | h :: hs, x :: xs, N => stepF l b hs xs (if h = true ∧ x.k = 1 ∧ inQ x.q b = true then come l x.a N else N)
  | _, _, N => N
def tagF : List Bool → List Ns → Int → Int
  | h :: hs, x :: xs, t => tagF hs xs (if h = true ∧ x.k = 0 ∧ (t < 0 ∨ x.t < t) then x.t else t)
  | _, _, t => t
def offs (n : Nat) : List Bool := List.replicate n false
def runF (l : List Ns) : List Nat → List Bool → List Int
  | [], _ => []
  | b :: bs, now => tagF (stepF l b now l (offs l.length)) l (-1) :: runF l bs (stepF l b now l (offs l.length))
def nfRun (st : Int) (l : List Ns) (s : List Nat) : List Int := tagF (come l st (offs l.length)) l (-1) :: runF l s (come l st (offs l.length))
/-- What some states come to without a byte. -/
inductive Rch (l : List Ns) (S : Nat → Prop) : Nat → Prop
  | base {i : Nat} : S i → Rch l S i
  | a {i : Nat} {x : Ns} : Rch l S i → l[i]? = some x → x.k = 2 → Rch l S x.a.toNat
  | b {i : Nat} {x : Ns} : Rch l S i → l[i]? = some x → x.k = 2 → Rch l S x.b.toNat
theorem Rch.sub {l : List Ns} {S T : Nat → Prop} (h : ∀ i, S i → Rch l T i) {i : Nat} (hi : Rch l S i) : Rch l T i := by
  induction hi with
  | base hs => exact h _ hs
  | a _ h1 h2 ih => exact .a ih h1 h2
  | b _ h1 h2 ih => exact .b ih h1 h2
theorem Rch.mono {l : List Ns} {S T : Nat → Prop} (h : ∀ i, S i → T i) {i : Nat} (hi : Rch l S i) : Rch l T i := hi.sub fun i hs => .base (h i hs)
def OkL (l : List Ns) : Prop := ∀ x ∈ l, 0 ≤ x.a ∧ x.a < l.length ∧ 0 ≤ x.b ∧ x.b < l.length
theorem okL_of_right {st : Int} {l : List Ns} (h : nfRight st l = true) : OkL l ∧ 0 ≤ st ∧ st < l.length ∧ l.length ≤ 20000 ∧ ∀ x ∈ l, okNs l.length x := by
  unfold nfRight at h
  rw [Bool.and_eq_true, decide_eq_true_eq, List.all_eq_true] at h
  refine ⟨fun x hx => ?_, h.1.1, h.1.2.1, h.1.2.2, fun x hx => of_decide_eq_true (h.2 x hx)⟩
  have := of_decide_eq_true (h.2 x hx)
  unfold okNs at this
  omega
theorem On.lt {N : List Bool} {i : Nat} (h : On N i) : i < N.length := by
  unfold On at h
  exact (List.getElem?_eq_some_iff.1 h).1
theorem On_set {N : List Bool} {i j : Nat} (hi : i < N.length) : On (N.set i true) j ↔ On N j ∨ j = i := by
  unfold On
  rw [List.getElem?_set]
  by_cases c : i = j
  · subst c; simp [hi]
  · simp [c]
    exact fun h => absurd h.symm c
def ofc (N : List Bool) : Nat := N.count false
theorem ofc_set {N : List Bool} {i : Nat} (hi : i < N.length) (hn : ¬ On N i) : ofc N = ofc (N.set i true) + 1 := by
  unfold ofc
  have e : N[i] = false := by
    unfold On at hn
    rw [List.getElem?_eq_getElem hi] at hn
    simpa using hn
  rw [List.count_set hi]
  have : 0 < N.count false := List.count_pos_iff.2 (e ▸ List.getElem_mem hi)
  simp [e]; omega
structure CoF (l : List Ns) (st : List Int) (N N' : List Bool) : Prop where
  len : N'.length = l.length
  up : ∀ i, On N i → On N' i
  has : ∀ x ∈ st, On N' x.toNat
  fr : ∀ i, On N' i → On N i ∨ Rch l (fun j => ∃ x ∈ st, x.toNat = j) i
  cl : ∀ i x, On N' i → l[i]? = some x → x.k = 2 → On N i ∨ (On N' x.a.toNat ∧ On N' x.b.toNat)
theorem comeF_ok (l : List Ns) (hl : OkL l) : ∀ (m : Nat) (st : List Int) (N : List Bool), N.length = l.length → (∀ x ∈ st, 0 ≤ x ∧ x < l.length) → 2 * ofc N + st.length ≤ m → CoF l st N (comeF l m st N)
  | 0, st, N, hN, hst, hm => by
    have : st = [] := List.eq_nil_of_length_eq_zero (by omega)
    subst this
    exact ⟨hN, fun _ h => h, by simp, fun _ h => .inl h, fun _ _ h _ _ => .inl h⟩
  | m + 1, [], N, hN, hst, hm => ⟨hN, fun _ h => h, by simp, fun _ h => .inl h, fun _ _ h _ _ => .inl h⟩
  | m + 1, x :: r, N, hN, hst, hm => by
    have hx := hst x (by simp)
    have hr : ∀ y ∈ r, 0 ≤ y ∧ y < l.length := fun y hy => hst y (by simp [hy])
    have hxl : x.toNat < l.length := by omega
    simp only [List.length_cons] at hm
    unfold comeF
    simp only
    split
    · rename_i hon
      have I := comeF_ok l hl m r N hN hr (by omega)
      exact ⟨I.len, I.up, fun y hy => by
        rcases List.mem_cons.1 hy with rfl | hy
        · exact I.up _ hon
        · exact I.has y hy, fun i hi => by
        rcases I.fr i hi with h | h
        · exact .inl h
        · exact .inr (h.mono fun j ⟨y, hy, e⟩ => ⟨y, by simp [hy], e⟩), I.cl⟩
    · rename_i hon
      have hf := ofc_set (N := N) (by omega) hon
      have hs : l[x.toNat]? = some l[x.toNat] := List.getElem?_eq_getElem hxl
      have hmem := hl _ (List.getElem_mem hxl)
      generalize l[x.toNat] = s at hs hmem
      rw [hs]
      simp only
      have hset : ∀ {j}, On (N.set x.toNat true) j ↔ On N j ∨ j = x.toNat := fun {j} => On_set (by omega)
      by_cases hk : s.k = 2
      · rw [if_pos hk]
        have I := comeF_ok l hl m (s.b :: s.a :: r) (N.set x.toNat true) (by simp [hN]) (fun y hy => by
          simp at hy
          rcases hy with rfl | rfl | hy
          · exact ⟨hmem.2.2.1, hmem.2.2.2⟩
          · exact ⟨hmem.1, hmem.2.1⟩
          · exact hr y hy) (by simp; omega)
        have hbase : Rch l (fun j => ∃ y ∈ x :: r, y.toNat = j) x.toNat := .base ⟨x, by simp, rfl⟩
        refine ⟨I.len, fun i hi => I.up i (hset.2 (.inl hi)), fun y hy => ?_, fun i hi => ?_, fun i z hi hz hzk => ?_⟩
        · rcases List.mem_cons.1 hy with rfl | hy
          · exact I.up _ (hset.2 (.inr rfl))
          · exact I.has y (by simp [hy])
        · rcases I.fr i hi with h | h
          · rcases hset.1 h with h | h
            · exact .inl h
            · subst h; exact .inr hbase
          · refine .inr (h.sub fun j hj => ?_)
            obtain ⟨y, hy, e⟩ := hj
            simp at hy
            rcases hy with rfl | rfl | hy
            · rw [← e]; exact .b hbase hs hk
            · rw [← e]; exact .a hbase hs hk
            · exact .base ⟨y, by simp [hy], e⟩
        · rcases I.cl i z hi hz hzk with h | h
          · rcases hset.1 h with h | h
            · exact .inl h
            · subst h
              rw [hs] at hz
              injection hz with hz
              subst hz
              exact .inr ⟨I.has _ (by simp), I.has _ (by simp)⟩
          · exact .inr h
      · rw [if_neg hk]
        have I := comeF_ok l hl m r (N.set x.toNat true) (by simp [hN]) hr (by omega)
        refine ⟨I.len, fun i hi => I.up i (hset.2 (.inl hi)), fun y hy => ?_, fun i hi => ?_, fun i z hi hz hzk => ?_⟩
        · rcases List.mem_cons.1 hy with rfl | hy
          · exact I.up _ (hset.2 (.inr rfl))
          · exact I.has y (by simp [hy])
        · rcases I.fr i hi with h | h
          · rcases hset.1 h with h | h
            · exact .inl h
            · subst h; exact .inr (.base ⟨x, by simp, rfl⟩)
          · exact .inr (h.mono fun j ⟨y, hy, e⟩ => ⟨y, by simp [hy], e⟩)
        · rcases I.cl i z hi hz hzk with h | h
          · rcases hset.1 h with h | h
            · exact .inl h
            · subst h
              rw [hs] at hz
              injection hz with hz
              subst hz
              exact absurd hzk hk
          · exact .inr h
/-- These are the states that some come to. -/
def IsSt (l : List Ns) (S : Nat → Prop) (N : List Bool) : Prop := N.length = l.length ∧ ∀ i, On N i ↔ Rch l S i
theorem IsSt.congr {l : List Ns} {S T : Nat → Prop} {N : List Bool} (h : IsSt l S N) (hi : ∀ i, S i ↔ T i) : IsSt l T N :=
  ⟨h.1, fun i => (h.2 i).trans ⟨Rch.mono fun i => (hi i).1, Rch.mono fun i => (hi i).2⟩⟩
theorem IsSt.uniq {l : List Ns} {S : Nat → Prop} {N N' : List Bool} (h : IsSt l S N) (h' : IsSt l S N') : N = N' := by
  apply List.ext_getElem (by rw [h.1, h'.1])
  intro i h1 h2
  have := (h.2 i).trans (h'.2 i).symm
  unfold On at this
  rw [List.getElem?_eq_getElem h1, List.getElem?_eq_getElem h2] at this
  simp at this
  revert this
  cases N[i] <;> cases N'[i] <;> simp
theorem IsSt.offs (l : List Ns) : IsSt l (fun _ => False) (offs l.length) := by
  refine ⟨by simp [Fk.offs], fun i => ⟨fun h => ?_, fun h => ?_⟩⟩
  · unfold On Fk.offs at h
    rw [List.getElem?_replicate] at h
    split at h <;> simp at h
  · exfalso
    induction h with
    | base h => exact h
    | a _ _ _ ih => exact ih
    | b _ _ _ ih => exact ih
theorem ofc_le (N : List Bool) : ofc N ≤ N.length := List.count_le_length
theorem come_is {l : List Ns} (hl : OkL l) {S : Nat → Prop} {N : List Bool} (h : IsSt l S N) {x : Int} (h0 : 0 ≤ x) (hx : x < l.length) : IsSt l (fun i => S i ∨ i = x.toNat) (come l x N) := by
  have I := comeF_ok l hl (2 * l.length + 1) [x] N h.1 (by simp; omega) (by have := ofc_le N; have := h.1; simp; omega)
  refine ⟨I.len, fun i => ⟨fun hi => ?_, fun hi => ?_⟩⟩
  · rcases I.fr i hi with h1 | h1
    · exact ((h.2 i).1 h1).mono fun _ => .inl
    · refine h1.mono fun j hj => .inr ?_
      obtain ⟨y, hy, e⟩ := hj
      simp at hy
      rw [← e, hy]
  · induction hi with
    | base hs =>
      rcases hs with hs | rfl
      · exact I.up _ ((h.2 _).2 (.base hs))
      · exact I.has x (by simp)
    | a _ h1 h2 ih =>
      rcases I.cl _ _ ih h1 h2 with h3 | h3
      · exact I.up _ ((h.2 _).2 (.a ((h.2 _).1 h3) h1 h2))
      · exact h3.1
    | b _ h1 h2 ih =>
      rcases I.cl _ _ ih h1 h2 with h3 | h3
      · exact I.up _ ((h.2 _).2 (.b ((h.2 _).1 h3) h1 h2))
      · exact h3.2
theorem stepF_is {l : List Ns} (hl : OkL l) (b : Nat) : ∀ (now : List Bool) (xs : List Ns) (S : Nat → Prop) (N : List Bool), (∀ x ∈ xs, 0 ≤ x.a ∧ x.a < l.length) → IsSt l S N →
    IsSt l (fun i => S i ∨ ∃ j x, On now j ∧ xs[j]? = some x ∧ x.k = 1 ∧ inQ x.q b = true ∧ i = x.a.toNat) (stepF l b now xs N)
  | [], xs, S, N, hx, h => by
    have : stepF l b [] xs N = N := by cases xs <;> rfl
    rw [this]
    exact h.congr fun i => ⟨.inl, fun h => by rcases h with h | ⟨j, x, h, _⟩; exact h; simp [On] at h⟩
  | h :: hs, [], S, N, hx, hN => by
    have : stepF l b (h :: hs) [] N = N := rfl
    rw [this]
    exact hN.congr fun i => ⟨.inl, fun h => by rcases h with h | ⟨j, x, _, h, _⟩; exact h; simp at h⟩
  | h :: hs, y :: ys, S, N, hx, hN => by
    show IsSt l _ (stepF l b hs ys _)
    have hy := hx y (by simp)
    have hys : ∀ x ∈ ys, 0 ≤ x.a ∧ x.a < l.length := fun x hm => hx x (by simp [hm])
    split
    · rename_i c
      refine (stepF_is hl b hs ys _ _ hys (come_is hl hN hy.1 hy.2)).congr fun i => ⟨?_, ?_⟩
      · rintro ((h1 | h1) | ⟨j, x, h1, h2⟩)
        · exact .inl h1
        · exact .inr ⟨0, y, by simp [On, c.1], by simp, c.2.1, c.2.2, h1⟩
        · exact .inr ⟨j + 1, x, by simpa [On] using h1, by simpa using h2⟩
      · rintro (h1 | ⟨j, x, h1, h2, h3⟩)
        · exact .inl (.inl h1)
        · cases j with
          | zero => simp at h2; subst h2; exact .inl (.inr h3.2.2)
          | succ j => exact .inr ⟨j, x, by simpa [On] using h1, by simpa using h2, h3⟩
    · rename_i c
      refine (stepF_is hl b hs ys _ _ hys hN).congr fun i => ⟨?_, ?_⟩
      · rintro (h1 | ⟨j, x, h1, h2⟩)
        · exact .inl h1
        · exact .inr ⟨j + 1, x, by simpa [On] using h1, by simpa using h2⟩
      · rintro (h1 | ⟨j, x, h1, h2, h3⟩)
        · exact .inl h1
        · cases j with
          | zero =>
            simp at h2; subst h2
            exact absurd ⟨by simpa [On] using h1, h3.1, h3.2.1⟩ c
          | succ j => exact .inr ⟨j, x, by simpa [On] using h1, by simpa using h2, h3⟩
theorem come_len {l : List Ns} (hl : OkL l) {N : List Bool} (h : N.length = l.length) {x : Int} (h0 : 0 ≤ x) (hx : x < l.length) : (come l x N).length = l.length :=
  (comeF_ok l hl (2 * l.length + 1) [x] N h (by simp; omega) (by have := ofc_le N; simp; omega)).len
theorem runF_len (l : List Ns) : ∀ (s : List Nat) (now : List Bool), (runF l s now).length = s.length
  | [], _ => rfl
  | b :: bs, now => by simp [runF, runF_len l bs]
end Fk
set_option linter.unusedVariables false
set_option linter.unusedSimpArgs false
set_option maxRecDepth 100000
set_option maxHeartbeats 1000000
namespace Fk
open Go Go.Proofs Go.RowKit
def bE (b : Bool) : List Value := [.bool b]
theorem encbE : Enc 1 bE := ⟨fun _ => rfl, by intro x v hv; simp [bE] at hv; subst hv; rfl⟩
theorem size3 (w : World) : ∃ m, (Go.sizeOf 3).run Try.prog w = .ok m w := by
  have h : (Try.prog.info? 3).isSome = true := by kernel_rfl
  obtain ⟨i, hi⟩ := Option.isSome_iff_exists.1 h
  exact ⟨i.size, by simp [Go.sizeOf, typeInfo, hi]⟩
/-- The last one is taken. -/
theorem OwnL.pop {α : Type} {w : World} {base : Nat} {e : TypeId} {size : Nat} {enc : α → List Value} (he : Enc size enc) {a : Option Addr} {c : Nat} {l : List α} {x : α} (h : OwnL w base e size enc a c (l ++ [x])) : OwnL w base e size enc a c l := by
  unfold OwnL at h ⊢
  obtain ⟨g, hg⟩ : ∃ g, a = some ⟨g, 0, none⟩ := by
    rcases h.2 with ⟨_, hn⟩ | ⟨g, cap, cur, hv, _⟩
    · simp at hn
    · simp only [Value.slice.injEq] at hv
      exact ⟨g, hv.1⟩
  subst hg
  rw [List.flatMap_append, List.length_append] at h
  exact ownsRow_pop (he.lenL l) h
theorem mem_blk {a : Option Addr} {d : Nat} (h : d ∈ (a.map (·.block)).toList) : ∃ A, a = some A ∧ A.block = d := by
  cases a with
  | none => simp at h
  | some A => simp at h; exact ⟨A, rfl, h.symm⟩
/-- A stand in memory: the machine, where it stands, and where it is to come to. -/
structure StAt (w0 w : World) (n : Nat) (st : Int) (pa : Option Addr) (pc : Nat) (l : List Ns) (an ax : Option Addr) (cn cx : Nat) (now next : List Bool) : Prop where
  blk : Blk w n 231 [.int .i64 st, .slice pa l.length pc, .slice an now.length cn, .slice ax next.length cx]
  row : RowAt w0 pa 8 nsE l
  md : Md [] w0 w
  nlo : w0.heap.size ≤ n
  onow : OwnL w w0.heap.size 4 1 bE an cn now
  onext : OwnL w w0.heap.size 4 1 bE ax cx next
  d1 : ∀ A, an = some A → A.block ≠ n
  d2 : ∀ A, ax = some A → A.block ≠ n
  d3 : Apt an ax
section
variable {w0 w w' : World} {n : Nat} {st : Int} {pa : Option Addr} {pc : Nat} {l : List Ns} {an ax : Option Addr} {cn cx : Nat} {now next : List Bool}
theorem StAt.md0 (S : StAt w0 w n st pa pc l an ax cn cx now next) (hm : Md [] w w') : StAt w0 w' n st pa pc l an ax cn cx now next :=
  ⟨S.blk.md hm (by simp), S.row, S.md.trans hm, S.nlo, S.onow.md hm, S.onext.md hm, S.d1, S.d2, S.d3⟩
theorem StAt.mdN {D : List Nat} (S : StAt w0 w n st pa pc l an ax cn cx now next) (hm : Md D w w') (hD : ∀ d ∈ D, w.heap.size ≤ d) : StAt w0 w' n st pa pc l an ax cn cx now next := S.md0 (hm.fresh hD)
theorem StAt.put (S : StAt w0 w n st pa pc l an ax cn cx now next) {i : Nat} (hi : i < next.length) (x : Bool) :
    ∃ A, ax = some A ∧ A.block < w.heap.size ∧ w0.heap.size ≤ A.block ∧ (adAt ax (i : Int) 1).block = A.block ∧ Wr w (adAt ax (i : Int) 1) 1 ∧ StAt w0 (setCells w (adAt ax (i : Int) 1) 0 [.bool x]) n st pa pc l an ax cn cx now (next.set i x) ∧
      Md [A.block] w (setCells w (adAt ax (i : Int) 1) 0 [.bool x]) := by
  obtain ⟨A, hA, h1, h2, h3, h4, h5, h6⟩ := S.onext.put encbE (by omega) hi x
  refine ⟨A, hA, h1, h2, h3, h4, ⟨?_, S.row, S.md.old h6 (by simpa using h2), S.nlo, S.onow.mdD h6 fun B hB => by simpa using S.d3 B A hB hA, h5, S.d1, S.d2, S.d3⟩, h6⟩
  have := S.blk.md h6 (by simpa using (S.d2 A hA).symm)
  rw [List.length_set]; exact this
end
theorem comeF_nil (l : List Ns) (m : Nat) (N : List Bool) : comeF l m [] N = N := by cases m <;> rfl
theorem comeF_on {l : List Ns} {m : Nat} {x : Int} {r : List Int} {N : List Bool} (h : On N x.toNat) : comeF l (m + 1) (x :: r) N = comeF l m r N := by
  conv => lhs; unfold comeF
  simp only
  rw [if_pos h]
theorem comeF_off {l : List Ns} {m : Nat} {i : Nat} {r : List Int} {N : List Bool} (h : ¬ On N i) (hi : i < l.length) : comeF l (m + 1) ((i : Int) :: r) N = comeF l m (if l[i].k = 2 then l[i].b :: l[i].a :: r else r) (N.set i true) := by
  conv => lhs; unfold comeF
  simp only
  rw [if_neg (by simpa using h), Int.toNat_natCast, List.getElem?_eq_getElem hi]
theorem f172_ok {w0 w : World} {n : Nat} {st : Int} {pa : Option Addr} {pc : Nat} {l : List Ns} {an ax : Option Addr} {cn cx : Nat} {now next : List Bool} (S : StAt w0 w n st pa pc l an ax cn cx now next) (hl : OkL l) (hlen : l.length ≤ 20000) (hnx : next.length = l.length)
    (x0 : Int) (h0 : 0 ≤ x0) (hx0 : x0 < l.length) :
    Ct Try.prog 172 #[.pointer (some ⟨n, 0, none⟩), .int .i64 x0] w fun v w' => (v = .tuple #[] ∧ StAt w0 w' n st pa pc l an ax cn cx now (come l x0 next)) ∧ Md (ax.map (·.block)).toList w w' := by
  apply f172_in
  refine Nw_i ?_
  have ma : Md [] w (w.alloc (.cells #[.int .i64 x0] 3)) := Md.alloc w _
  have ol := OwnL.lit (P := Try.prog) (base := w.heap.size) enci1 w 3 [x0] #[.int .i64 x0] (Nat.le_refl _) (by simp [maxLen]) rfl
  have hax : ∀ A, ax = some A → A.block < w.heap.size := fun A hA => (S.onext.lt hA).2
  refine LoopP_in (fun mm us vs w' => ∃ (x : Int) (a : Option Addr) (c : Nat) (R : List Int) (N : List Bool), us = [.int .i64 x, .slice a R.length c] ∧ OwnL w' w.heap.size 3 1 i1 a c R ∧ StAt w0 w' n st pa pc l an ax cn cx now N ∧ Md (ax.map (·.block)).toList w w' ∧
      N.length = l.length ∧ comeF l mm R.reverse N = come l x0 next ∧ 2 * ofc N + R.length ≤ mm ∧ (∀ y ∈ R, 0 ≤ y ∧ y < l.length) ∧ mm ≤ 40001) (2 * l.length + 1)
    ⟨x0, _, _, [x0], next, rfl, ol, S.md0 ma, ma.mono (by simp), hnx, rfl, by have := ofc_le next; simp; omega, by simp; omega, by omega⟩ ?_
  rintro mm us vs w6 ⟨x, a, c, R, N, rfl, ho, S6, hm, hN, hc, hf, hR, hmm⟩
  refine opI_in <| opL_in <| Bd_e rfl <| Bd_in fun b12 hb12 => If_in (fun hb => ?_) fun hb => ?_
  case refine_2 =>
    have hR0 : R = [] := by
      have : ¬ (R.length : Int) > 0 := by rw [hb12] at hb; exact of_decide_eq_false hb
      exact List.eq_nil_of_length_eq_zero (by omega)
    subst hR0
    rw [List.reverse_nil, comeF_nil] at hc
    rw [← hc]
    exact ⟨⟨rfl, S6⟩, hm⟩
  have hRp : 0 < R.length := by have : (R.length : Int) > 0 := by rw [hb12] at hb; exact of_decide_eq_true hb
                                omega
  rcases List.eq_nil_or_concat R with rfl | ⟨R', y, rfl⟩
  · simp at hRp
  rw [List.concat_eq_append] at *
  have hl1 : (R' ++ [y]).length = R'.length + 1 := by simp
  have hix := (ho.row enci1).ix (i := R'.length) (by omega)
  rw [hl1] at hix ⊢
  have hcap := ho.cap
  refine Bd_e rfl <| Bd_e (y := ((R'.length : Nat) : Int)) (by rw [IntKind.wrap_i64]; omega) ⟨hix, (ho.row enci1).ld1 (i := R'.length) (by omega) (v := .int .i64 y) (by simp [i1]) <| opI_in <| Bd_e rfl <| Bd_e (y := ((R'.length : Nat) : Int)) (by rw [IntKind.wrap_i64]; omega) ?_⟩
  refine RunW_in0 (slice_front (e := 3) (by kernel_rfl) size3 _ _ _ _ _ (by omega)) <| opL_in <| NN_in ?_
  have hy := hR y (by simp)
  obtain ⟨i, rfl⟩ := Int.eq_ofNat_of_zero_le hy.1
  have hil : i < l.length := by omega
  have hiN : i < N.length := by omega
  refine S6.blk.ld' rfl <| opL_in ⟨(S6.onext.row encbE).ix hiN, (S6.onext.row encbE).ld1 hiN rfl <| opB_in ?_⟩
  have hop := ho.pop enci1
  have hRr : ∀ z ∈ R', 0 ≤ z ∧ z < l.length := fun z hz => hR z (by simp [hz])
  rw [List.reverse_append, List.reverse_singleton, List.singleton_append] at hc
  obtain ⟨m, rfl⟩ : ∃ m, mm = m + 1 := ⟨mm - 1, by omega⟩
  refine If_in (fun hon => ?_) fun hoff => NN_in ?_
  · have hOn : On N i := by unfold On; rw [List.getElem?_eq_getElem hiN, hon]
    rw [comeF_on (by simpa using hOn)] at hc
    exact ⟨m, by omega, _, a, c, R', N, rfl, hop, S6, hm, hN, hc, by omega, hRr, by omega⟩
  have hOff : ¬ On N i := by unfold On; rw [List.getElem?_eq_getElem hiN, hoff]; simp
  rw [comeF_off hOff hil] at hc
  have hcnt := ofc_set hiN hOff
  refine S6.blk.ld' rfl <| opL_in ?_
  obtain ⟨A, hA, p1, p2, p3, p4, S7, p6⟩ := S6.put hiN true
  have m7 : Md (ax.map (·.block)).toList w (setCells w6 (adAt ax (i : Int) 1) 0 [.bool true]) := hm.trans (p6.mono (by rw [hA]; simp))
  have hoA : ∀ B, a = some B → B.block ≠ A.block := fun B hB => by have := (ho.lt hB).1; have := hax A hA; omega
  have ho7 : OwnL (setCells w6 (adAt ax (i : Int) 1) 0 [.bool true]) w.heap.size 3 1 i1 a c R' := hop.mdD p6 fun B hB => by simpa using hoA B hB
  have hs6 : w6.heap.size ≤ (setCells w6 (adAt ax (i : Int) 1) 0 [.bool true]).heap.size := p6.size
  generalize setCells w6 (adAt ax (i : Int) 1) 0 [.bool true] = w7 at *
  refine ⟨(S6.onext.row encbE).ix hiN, by simp, p4, NN_in ?_⟩
  rw [add_add]
  refine S7.blk.ld' rfl <| opL_in ⟨(S7.row.md S7.md).ix hil, (S7.row.md S7.md).ld8 hil ?_⟩
  intro n57 hn57
  refine Bd_in fun b58 hb58 => If_in (fun hk w59 h59 hL59 => ?_) fun hk w67 h67 hL67 => ?_
  · have hk2 : l[i].k = 2 := by rw [hb58] at hk; simpa using hk
    rw [if_pos hk2] at hc
    have m59 : Md [] w7 w59 := h59.fresh (by simp; exact hn57)
    refine Nw_i ?_
    have mb : Md [] w59 (w59.alloc (.cells #[.int .i64 l[i].a, .int .i64 l[i].b] 3)) := Md.alloc w59 _
    have ol2 := OwnL.lit (P := Try.prog) (base := w59.heap.size) enci1 w59 3 [l[i].a, l[i].b] #[.int .i64 l[i].a, .int .i64 l[i].b] (Nat.le_refl _) (by simp [maxLen]) rfl
    have m8 := m59.trans mb
    have ho8 := ho7.md m8
    have S8 := S7.md0 m8
    have h57 := hL59 n57 (by simp)
    have sz := mb.size
    have hlb := hl _ (List.getElem_mem hil)
    refine app_own rowT52 enci1 ho8 ol2 (by have := ho8.lt (A := a.getD ⟨0, 0, none⟩); have := m8.size; have := hm.size; omega) (fun b hb => by simp at hb; subst hb; omega) (fun b hb B hB => by simp at hb; subst hb; have := (ho7.lt hB).2; omega) (by simp [maxLen]; omega) (by simp; omega) fun a' c' w63 o63 m63 hA' => opL_in ?_
    have aD : ∀ d ∈ (a.map (·.block)).toList, w.heap.size ≤ d ∧ d < w7.heap.size := fun d hd => by
      obtain ⟨B, hB, rfl⟩ := mem_blk hd
      exact ho7.lt hB
    have S9 : StAt w0 w63 n st pa pc l an ax cn cx now (N.set i true) := by
      have s0 := S.md.size
      refine ⟨S8.blk.md m63 (fun hd => ?_), S8.row, S8.md.old m63 (fun d hd => by have := (aD d hd).1; omega), S8.nlo, S8.onow.mdD m63 (fun B hB hd => ?_), S8.onext.mdD m63 (fun B hB hd => ?_), S8.d1, S8.d2, S8.d3⟩
      · have := (aD _ hd).1; have := S.blk.lt; omega
      · have := (aD _ hd).1; have := (S.onow.lt hB).2; omega
      · have := (aD _ hd).1; have := hax B hB; omega
    refine ⟨m, by omega, _, a', c', R' ++ [l[i].a, l[i].b], N.set i true, rfl, o63, S9, ?_, by simp [hN], by simpa using hc, by simp; omega, fun z hz => ?_, by omega⟩
    · have h1 : Md (ax.map (·.block)).toList w (w59.alloc (.cells #[.int .i64 l[i].a, .int .i64 l[i].b] 3)) := m7.trans (m8.mono (by simp))
      exact h1.old' m63 fun d hd => (aD d hd).1
    · rcases List.mem_append.1 hz with h | h
      · exact hRr z h
      · simp at h
        rcases h with rfl | rfl
        · exact ⟨hlb.1, hlb.2.1⟩
        · exact ⟨hlb.2.2.1, hlb.2.2.2⟩
  · have hk2 : ¬ l[i].k = 2 := by rw [hb58] at hk; simpa using hk
    rw [if_neg hk2] at hc
    have m67 : Md [] w7 w67 := h67.fresh (by simp; exact hn57)
    exact ⟨m, by omega, _, a, c, R', N.set i true, rfl, ho7.md m67, S7.md0 m67, m7.trans (m67.mono (by simp)), by simp [hN], hc, by omega, hRr, by omega⟩
end Fk
set_option linter.unusedVariables false
set_option linter.unusedSimpArgs false
set_option maxRecDepth 100000
set_option maxHeartbeats 1000000
namespace Fk
open Go Go.Proofs Go.RowKit
theorem setCells_kit (b : Nat) : ∀ (vs : List Value) (o i : Nat) (w : World), w.setCells b (o + i) vs = setCells w ⟨b, o, none⟩ i vs
  | [], o, i, w => rfl
  | v :: vs, o, i, w => by
    have e : (Addr.mk b o none).add i = ⟨b, o + i, none⟩ := Addr.add_lit _ _ _
    simp only [World.setCells, setCells, e]
    exact setCells_kit b vs o (i + 1) _
theorem bE_map (l : List Bool) : l.flatMap bE = l.map Value.bool := by
  induction l with
  | nil => rfl
  | cons x l ih => rw [List.flatMap_cons, ih]; rfl
theorem wrL_whole {xs vs : List Value} (h : xs.length = vs.length) : wrL xs 0 vs = vs := by unfold wrL; simp [h]
/-- A row is made all false. -/
theorem own_clear {w : World} {base c : Nat} {a : Option Addr} {l : List Bool} (h : OwnL w base 4 1 bE a c l) (hl : 0 < l.length) :
    ∃ w', (Builtin.clear_ #[222] 0 #[.slice a l.length c]).run Try.prog w = .ok (.tuple #[]) w' ∧ OwnL w' base 4 1 bE a c (offs l.length) ∧ Md (a.map (·.block)).toList w w' := by
  have hlen := encbE.lenL l
  have hr : ((offs l.length).flatMap bE).length = l.length := by rw [encbE.lenL]; simp [offs]
  obtain ⟨A, hA, h1, h2, h3, h4, h5⟩ := own_put h 0 ((offs l.length).flatMap bE) (by rw [hr, hlen]; omega) (by rw [hr]; exact hl)
  rw [wrL_whole (by rw [hr, hlen]; omega)] at h4
  obtain ⟨g, hg⟩ : ∃ g, a = some ⟨g, 0, none⟩ := by
    rcases h.2 with ⟨_, hn⟩ | ⟨g, cap, cur, hv, _⟩
    · omega
    · simp only [Value.slice.injEq] at hv
      exact ⟨g, hv.1⟩
  have hAg : A = ⟨g, 0, none⟩ := by rw [hA] at hg; injection hg
  subst hAg; subst hA
  have ea : (Addr.mk g 0 none).add 0 = ⟨g, 0, none⟩ := Addr.add_lit _ _ _
  rw [ea] at h3 h4 h5
  have e2 := setCells_kit g ((offs l.length).flatMap bE) 0 0 w
  rw [Nat.zero_add] at e2
  have hb : (offs l.length).flatMap bE = List.replicate l.length (.bool false) := by rw [bE_map]; simp [offs]
  have h4i : (Try.prog.info? 4).isSome = true := by kernel_rfl
  obtain ⟨i4, hi4⟩ := Option.isSome_iff_exists.1 h4i
  have hz : (Try.prog.info? 4).bind (·.zero) = some (.bool false) := by kernel_rfl
  rw [hi4] at hz
  have hz' : i4.zero = some (.bool false) := hz
  have hw : ∀ j, j < l.length → (w.cell? ⟨g, 0 + j, none⟩).isSome = true ∧ w.frozen? ⟨g, 0 + j, none⟩ = false := fun j hj => by
    have := h3 j (by rw [hr]; exact hj)
    rw [Addr.add_lit] at this
    obtain ⟨⟨u, hu⟩, hf⟩ := this
    exact ⟨by rw [hu]; rfl, hf⟩
  have hrun := Go.Lib.run_clear_slice (P := Try.prog) w 222 4 0 (.bool false) (by kernel_rfl) (fun w => by simp [zeroValue, typeInfo, hi4, hz']) rfl rfl g 0 l.length c hl
    (fun j hj => (hw j hj).1) (fun j hj => (hw j hj).2)
  refine ⟨_, hrun, ?_, ?_⟩
  · rw [← hb, e2]
    unfold OwnL
    rw [show (offs l.length).length = l.length by simp [offs]]
    exact h4
  · rw [← hb, e2]
    simpa using h5
/-- A whole row is copied into another one. -/
theorem own_copyB {w : World} {base c cb : Nat} {a b : Option Addr} {l x : List Bool} (h : OwnL w base 4 1 bE a c l) (hl : 0 < l.length) (hx : x.length = l.length) (hr : RowAt w b 1 bE x) :
    ∃ w', (Builtin.copy_ #[222, 222] 3 #[.slice a l.length c, .slice b x.length cb]).run Try.prog w = .ok (.int .i64 l.length) w' ∧ OwnL w' base 4 1 bE a c x ∧ Md (a.map (·.block)).toList w w' := by
  obtain ⟨B, hB, _⟩ := hr 0 (x[0]'(by omega)) (List.getElem?_eq_getElem (by omega))
  subst hB
  obtain ⟨hxl, hh⟩ := h
  have hlx := encbE.lenL x
  have hll := encbE.lenL l
  rcases hh with ⟨hv', hn'⟩ | ⟨g, cap, cur, hv', hb, hg, hnc, hcm, hcs, htk⟩
  · omega
  · simp only [Value.slice.injEq] at hv'
    obtain ⟨rfl, _, rfl⟩ := hv'
    have hcl : cur.toList.length = cur.size := Array.length_toList
    have hle : l.length * 1 ≤ cur.toList.length := by omega
    have hs4 : (Try.prog.info? 4).map (·.size) = some 1 := by kernel_rfl
    have hrun := run_copy_row (P := Try.prog) w 222 222 3 4 g 0 l.length c B x.length cb cur 4 (x.flatMap bE) (by kernel_rfl) hs4 hg (by rw [hlx, hx]; simp) (by
      intro j v hv
      have hj : j < x.length := by have := (List.getElem?_eq_some_iff.1 hv).1; omega
      obtain ⟨B', hB', hcl⟩ := hr j x[j] (List.getElem?_eq_getElem hj)
      cases hB'
      have := encbE.at x j 0 x[j] (List.getElem?_eq_getElem hj) (by omega)
      rw [Nat.mul_one, Nat.add_zero] at this
      rw [this] at hv
      have := hcl 0 v hv
      rw [addr_add0, Nat.mul_one] at this
      exact this) (by rw [hlx]; omega) (fun v hv => encbE.oneL x v hv)
    rw [hlx, Nat.mul_one, hx] at hrun
    rw [hx]
    refine ⟨_, hrun, ?_, Md_setRow (w := w) (n := g) _⟩
    unfold OwnL
    rw [hx]
    refine ⟨by rw [hlx, hx], .inr ⟨g, c, (wrL cur.toList 0 (x.flatMap bE)).toArray, rfl, hb, ?_, hnc, hcm, ?_, ?_⟩⟩
    · have := setRow_heap w g cur (cur.toList.take 0 ++ x.flatMap bE ++ cur.toList.drop (0 + l.length)).toArray 4 (0, 0) hg
      rw [this]
      unfold wrL
      rw [hlx, hx, Nat.mul_one, List.append_assoc]
    · simp only [List.size_toArray]
      rw [wrL_len (by omega)]; omega
    · simp only
      rw [wrL_take (by omega) hle, htk, wrL_whole (by omega)]
theorem tagF_step {N : List Bool} {l : List Ns} {i : Nat} (h1 : i < N.length) (h2 : i < l.length) (t : Int) :
    tagF (N.drop i) (l.drop i) t = tagF (N.drop (i + 1)) (l.drop (i + 1)) (if N[i] = true ∧ l[i].k = 0 ∧ (t < 0 ∨ l[i].t < t) then l[i].t else t) := by
  rw [List.drop_eq_getElem_cons h1, List.drop_eq_getElem_cons h2]
  rfl
theorem f173_ok {w0 w : World} {n : Nat} {st : Int} {pa : Option Addr} {pc : Nat} {l : List Ns} {an ax : Option Addr} {cn cx : Nat} {now next : List Bool} (S : StAt w0 w n st pa pc l an ax cn cx now next) (hlen : l.length ≤ 20000) (h1 : 1 ≤ l.length) (hnw : now.length = l.length) (hnx : next.length = l.length) :
    Ct Try.prog 173 #[.pointer (some ⟨n, 0, none⟩)] w fun v w' => (v = .int .i64 (tagF next l (-1)) ∧ StAt w0 w' n st pa pc l an ax cn cx next (offs l.length)) ∧ Md ((an.map (·.block)).toList ++ (ax.map (·.block)).toList) w w' := by
  apply f173_in
  have anD : n ∉ (an.map (·.block)).toList := fun hd => by obtain ⟨A, hA, e⟩ := mem_blk hd; exact S.d1 A hA e
  have axD : n ∉ (ax.map (·.block)).toList := fun hd => by obtain ⟨A, hA, e⟩ := mem_blk hd; exact S.d2 A hA e
  refine ⟨fun w' => Md (an.map (·.block)).toList w.drew w', Md.refl _ _, NN_in ?_⟩
  have hb : ∀ {w' : World}, Md (an.map (·.block)).toList w.drew w' → Blk w' n 231 [.int .i64 st, .slice pa l.length pc, .slice an now.length cn, .slice ax next.length cx] := fun hm => (S.blk.md (Md_drew w) (by simp)).md hm anD
  show ∃ v3, _ ∧ _
  refine ⟨_, fun w' hm => (hb hm).ld' rfl rfl, opL_in <| NN_in ?_⟩
  show ∃ v3, _ ∧ _
  refine ⟨_, fun w' hm => (hb hm).ld' rfl rfl, opL_in ?_⟩
  have Sd := S.md0 (Md_drew w)
  obtain ⟨w19, r1, o1, m1⟩ := own_copyB (cb := cx) Sd.onow (by omega) (by omega) (Sd.onext.row encbE)
  refine RunW_in r1 (fun b hb => by simp at hb) <| opI_in ⟨m1, NN_in ?_⟩
  have x1 : OwnL w19 w0.heap.size 4 1 bE ax cx next := Sd.onext.mdD m1 fun A hA hd => by obtain ⟨B, hB, e⟩ := mem_blk hd; exact S.d3 B A hB hA e
  have b1' := hb m1
  refine b1'.ld' rfl <| opL_in ?_
  obtain ⟨w27, r2, o2, m2⟩ := own_clear x1 (by omega)
  rw [hnx] at o2
  have n2 : OwnL w27 w0.heap.size 4 1 bE an cn next := o1.mdD m2 fun A hA hd => by obtain ⟨B, hB, e⟩ := mem_blk hd; exact S.d3 A B hA hB e.symm
  have b2' := b1'.md m2 axD
  have bb : Blk w27 n 231 [.int .i64 st, .slice pa l.length pc, .slice an next.length cn, .slice ax (offs l.length).length cx] := by
    rw [hnx]
    have : (offs l.length).length = l.length := by simp [offs]
    rw [this]
    rw [hnw, hnx] at b2'
    exact b2'
  have lo1 : ∀ d ∈ (an.map (·.block)).toList, w0.heap.size ≤ d := fun d hd => by obtain ⟨A, hA, rfl⟩ := mem_blk hd; exact (S.onow.lt hA).1
  have lo2 : ∀ d ∈ (ax.map (·.block)).toList, w0.heap.size ≤ d := fun d hd => by obtain ⟨A, hA, rfl⟩ := mem_blk hd; exact (S.onext.lt hA).1
  have S2 : StAt w0 w27 n st pa pc l an ax cn cx next (offs l.length) := ⟨bb, S.row, (Sd.md.old m1 lo1).old m2 lo2, S.nlo, n2, o2, S.d1, S.d2, S.d3⟩
  have mm : Md ((an.map (·.block)).toList ++ (ax.map (·.block)).toList) w w27 := (((Md_drew w).mono (by simp)).trans (m1.mono (fun x hx => by simp at hx ⊢; exact .inl hx))).trans (m2.mono (fun x hx => by simp at hx ⊢; exact .inr hx))
  refine RunW_in r2 (fun b hb => by simp at hb) <| opTu_in <| SzIs_in rfl <| NN_in <| bb.ld' rfl <| opL_in <| Bd_e rfl ?_
  refine LoopP_in (fun mm us vs w' => ∃ (i : Nat) (t : Int), us = [.int .i64 t, .int .i64 i] ∧ mm = l.length - i ∧ i ≤ l.length ∧ Md [] w27 w' ∧ tagF (next.drop i) (l.drop i) t = tagF next l (-1)) l.length
    ⟨0, -1, rfl, rfl, by omega, Md.refl _ _, rfl⟩ ?_
  rintro m' us vs w38 ⟨i, t, rfl, hmm, hi, h38, ht⟩
  have S3 := S2.md0 h38
  refine opI_in <| opI_in <| Bd_in fun b41 hb41 => If_in (fun hb => ?_) fun hb => ?_
  case refine_2 =>
    have : ¬ (i : Int) < (next.length : Int) := by rw [hb41] at hb; exact of_decide_eq_false hb
    have hil : i = l.length := by omega
    subst hil
    rw [List.drop_of_length_le (by omega), List.drop_of_length_le (by omega)] at ht
    rw [← ht]
    exact ⟨⟨rfl, S3⟩, mm.trans (h38.mono (by simp))⟩
  have hin : i < next.length := by rw [hb41] at hb; have : (i : Int) < (next.length : Int) := of_decide_eq_true hb
                                   omega
  have hil : i < l.length := by omega
  rw [tagF_step hin hil] at ht
  have hrow := S3.row.md S3.md
  refine Jn_in (fun us vs w' => ∃ (b : Bool), us = [.int .i64 (if next[i] = true ∧ l[i].k = 0 ∧ (t < 0 ∨ l[i].t < t) then l[i].t else t), .int .i64 i, .bool b] ∧ Md [] w27 w') ?_ ?_
  · rintro us vs w44 ⟨b, rfl, h44⟩
    exact opI_in <| opI_in <| opB_in <| Bd_e (inc_i64 (by omega)) ⟨l.length - (i + 1), by omega, i + 1, _, rfl, rfl, by omega, h44, ht⟩
  refine ⟨(S3.onow.row encbE).ix hin, (S3.onow.row encbE).ld1 hin rfl <| opB_in <| NN_in ?_⟩
  rw [add_add]
  refine S3.blk.ld' rfl <| opL_in ⟨hrow.ix hil, hrow.ld8 hil ?_⟩
  intro n73 hn73
  refine Bd_in fun b74 hb74 => Bd_in fun b75 hb75 => Bd_in fun b76 hb76 => Bd_in fun b77 hb77 => Bd_in fun b78 hb78 => Bd_in fun b79 hb79 => ?_
  have hiff : b79 = true ↔ (next[i] = true ∧ l[i].k = 0 ∧ (t < 0 ∨ l[i].t < t)) := by
    rw [hb79, hb78, hb75, hb74, hb76, hb77]
    cases next[i] <;> simp
  refine If_in (fun hc w80 h80 hL80 => ?_) fun hc w80 h80 hL80 => ?_
  · rw [if_pos (hiff.1 hc)]
    exact ⟨_, rfl, h38.trans (h80.fresh (by simp; exact hn73))⟩
  · rw [if_neg (fun h => by have := hiff.2 h; rw [hc] at this; cases this)]
    exact ⟨_, rfl, h38.trans (h80.fresh (by simp; exact hn73))⟩
end Fk
set_option linter.unusedVariables false
set_option linter.unusedSimpArgs false
set_option maxRecDepth 100000
set_option maxHeartbeats 2000000
namespace Fk
open Go Go.Proofs Go.RowKit
theorem nsz_bytesOf (l : List Nat) : (bytesOf l).size = l.length := by simp [bytesOf, ByteArray.size]
theorem byteAt_bytesOf {s : List Nat} (hs : ∀ x ∈ s, x < 256) {i : Nat} (hi : i < s.length) : byteAt (bytesOf s) (i : Int) = ((s[i] : Nat) : Int) := by
  unfold byteAt bytesOf
  simp [hi]
  exact_mod_cast Nat.mod_eq_of_lt (hs _ (List.getElem_mem hi))
/-- The bit of a byte is asked. -/
theorem bit_in {q : Q4} {b : Nat} (hb : b < 256) (k a1 a2 a3 : Int) {b69 : Bool} {K : Bool → Prop} (kk : K (inQ q b)) :
    Bd (IntKind.wrap .u8 (Int.tdiv (b : Int) 64)) fun x70 => (b69 = true → 0 ≤ x70 ∧ x70 < ((4 : Nat) : Int)) ∧
      BdO (nthV [.int .u8 k, .int .u64 q.1, .int .u64 q.2.1, .int .u64 q.2.2.1, .int .u64 q.2.2.2, .int .i64 a1, .int .i64 a2, .int .i64 a3] (1 + x70.toNat * 1)) fun v72 => opI .u64 v72 fun x73 => Bd (Int.tmod (b : Int) 64) fun x74 =>
        (b69 = true → 0 ≤ x74) ∧ Bd (Int.fdiv x73 (2 ^ min x74.toNat 64)) fun x76 => Bd (IntKind.wrap .u64 ((BitVec.toNat (BitVec.ofInt 64 x76 &&& BitVec.ofInt 64 1) : Nat) : Int)) fun x77 => Bd (x77 == 1) K := by
  refine Bd_e (y := ((b / 64 : Nat) : Int)) (by rw [IntKind.wrap_u8, Int.tdiv_eq_ediv_of_nonneg (by omega)]; omega) ⟨fun _ => ⟨by omega, by omega⟩, ?_⟩
  refine BdO_in (v := .int .u64 (word q (b / 64))) ?_ ?_
  · rw [Int.toNat_natCast, Nat.mul_one, Nat.add_comm]
    have h := nth_word q (b / 64) (by omega)
    have h4 : b / 64 < 4 := by omega
    generalize b / 64 = j at *
    rcases j with _ | _ | _ | _ | j <;> first | exact h | omega
  refine opI_in ?_
  refine Bd_e (y := ((b % 64 : Nat) : Int)) (by rw [Int.tmod_eq_emod_of_nonneg (by omega)]; omega) ⟨fun _ => by omega, ?_⟩
  refine Bd_in fun x6 hx6 => Bd_in fun x7 hx7 => Bd_in fun b8 hb8 => ?_
  have : b8 = inQ q b := by
    rw [hb8, hx7, u64_and, bit_and_one, hx6, Int.toNat_natCast, Nat.min_eq_left (by omega), Int.fdiv_eq_ediv_of_nonneg _ (Int.pow_nonneg (by decide))]
    simp only [inQ]
    rw [Bool.eq_iff_iff]; simp
  rw [this]
  exact kk
theorem stepF_step {now : List Bool} {xs l : List Ns} {b j : Nat} (h1 : j < now.length) (h2 : j < xs.length) (N : List Bool) :
    stepF l b (now.drop j) (xs.drop j) N = stepF l b (now.drop (j + 1)) (xs.drop (j + 1)) (if now[j] = true ∧ xs[j].k = 1 ∧ inQ xs[j].q b = true then come l xs[j].a N else N) := by
  rw [List.drop_eq_getElem_cons h1, List.drop_eq_getElem_cons h2]
  rfl
def runA (st : Int) (l : List Ns) (s : List Nat) : List Int × Int := if nfRight st l = true then (nfRun st l s, 0) else ([], 2)
theorem made4 (m : Nat) (w : World) (hm : m < 2 ^ 20) : ∃ w', (Instr.makeSlice 222 (.int .i64 (m : Int)) (.int .i64 (m : Int))).run Try.prog w = .ok (.slice (some ⟨w.heap.size, 0, none⟩) m m) w' ∧ OwnL w' w.heap.size 4 1 bE (some ⟨w.heap.size, 0, none⟩) m (offs m) ∧ Md [] w w' := by
  have h4 : (Try.prog.info? 4).isSome = true := by kernel_rfl
  obtain ⟨i4, hi4⟩ := Option.isSome_iff_exists.1 h4
  have hz4 : (Try.prog.info? 4).bind (·.zero) = some (.bool false) := by kernel_rfl
  have hs4 : (Try.prog.info? 4).map (fun i => (i.size, i.bytes)) = some (1, 1) := by kernel_rfl
  rw [hi4] at hz4 hs4
  simp only [Option.bind_some, Option.map_some, Option.some.injEq, Prod.mk.injEq] at hz4 hs4
  obtain ⟨w3, hrun, hown, hgr⟩ := run_makeSlice_full (P := Try.prog) w w.heap.size 222 4 i4 (.bool false) 1 (by kernel_rfl) hi4 hz4 hs4.1 .i64 .i64 m (by omega) (by rw [hs4.2]; omega) (by simp [maxLen]; omega) (Nat.le_refl _)
  refine ⟨w3, hrun, ?_, Md_of_grown hgr⟩
  have hmc : (madeCells (Value.bool false).cells (m * 1)).toList = (offs m).flatMap bE := by
    rw [bE_map, offs, List.map_replicate, Nat.mul_one]
    exact toList_madeCells_one _ m
  unfold OwnL
  rw [← hmc, show (offs m).length = m by simp [offs]]; exact hown
theorem offs_len (n : Nat) : (offs n).length = n := by simp [offs]
theorem mkStand {w w1 w2 : World} (st : Int) {pa : Option Addr} (pc : Nat) {l : List Ns} {g1 g2 : Nat} (h : RowAt w pa 8 nsE l) (m1 : Md [] w w1) (m2 : Md [] w w2)
    (o1 : OwnL w2 w.heap.size 4 1 bE (some ⟨g1, 0, none⟩) l.length (offs l.length)) (o2 : OwnL w2 w.heap.size 4 1 bE (some ⟨g2, 0, none⟩) l.length (offs l.length)) (hne : g1 ≠ g2) :
    StAt w (w2.alloc (.cells #[.int .i64 st, .slice pa l.length pc, .slice (some ⟨g1, 0, none⟩) l.length l.length, .slice (some ⟨g2, 0, none⟩) l.length l.length] 231)) w2.heap.size st pa pc l (some ⟨g1, 0, none⟩) (some ⟨g2, 0, none⟩) l.length l.length (offs l.length) (offs l.length) := by
  have ma : Md [] w2 (w2.alloc (.cells #[.int .i64 st, .slice pa l.length pc, .slice (some ⟨g1, 0, none⟩) l.length l.length, .slice (some ⟨g2, 0, none⟩) l.length l.length] 231)) := Md.alloc w2 _
  have l1 := (o1.lt rfl).2
  have l2 := (o2.lt rfl).2
  refine ⟨?_, h, m2.trans ma, m2.size, o1.md ma, o2.md ma, fun A hA => ?_, fun A hA => ?_, fun A B hA hB => ?_⟩
  · rw [offs_len]; exact Blk.new _ _ _
  · injection hA with hA; subst hA; simp at l1 ⊢; omega
  · injection hA with hA; subst hA; simp at l2 ⊢; omega
  · injection hA with hA; injection hB with hB; subst hA; subst hB; exact hne
theorem f69_ok (st : Int) (l : List Ns) (A : Option Addr) (C : Nat) (s : List Nat) (hs : ∀ x ∈ s, x < 256) (w : World) (hr : RowAt w A 8 nsE l) (hl : l.length < 2 ^ 40) (hsl : s.length < 2 ^ 30) :
    Ct Try.prog 69 #[.agg #[.int .i64 st, .slice A l.length C], .string (bytesOf s)] w fun v w' => (∃ a c, v = .tuple #[.slice a (runA st l s).1.length c, .int .i64 (runA st l s).2] ∧ OwnL w' w.heap.size 3 1 i1 a c (runA st l s).1) ∧ Md [] w w' := by
  apply f69_in
  intro n1 hn1 w2 h2 hL2
  refine (f81_ok st l A C w2 (hr.md h2) (by omega)).call (by simpa using hL2 n1 (by simp)) ?_
  rintro v w4 rfl m4
  have m24 := h2.trans m4
  have ln1 : n1 < w4.heap.size := by have := hL2 n1 (by simp); have := m4.size; omega
  refine opB_in <| Bd_in fun b6 hb6 => If_in (fun hb => ?_) fun hb => ?_
  · have : nfRight st l = false := by rw [hb6] at hb; simpa using hb
    have e : runA st l s = ([], 2) := by unfold runA; rw [this]; rfl
    rw [e]
    exact ⟨⟨none, 0, rfl, OwnL.nil _ _ _ _ _⟩, m24⟩
  have hright : nfRight st l = true := by rw [hb6] at hb; simpa using hb
  have e : runA st l s = (nfRun st l s, 0) := by unfold runA; rw [if_pos hright]
  rw [e]
  obtain ⟨hok, hst0, hst1, hlen, hall⟩ := okL_of_right hright
  have hr4 := hr.md m24
  refine Jn_in (fun us vs w' => ∃ (n g1 g2 : Nat), us = [.pointer (some ⟨n, 0, none⟩)] ∧ StAt w4 w' n st A C l (some ⟨g1, 0, none⟩) (some ⟨g2, 0, none⟩) l.length l.length (offs l.length) (offs l.length)) ?_ ?_
  case refine_2 =>
    refine ⟨fun w' => Md [] w4.drew w', Md.refl _ _, Bd_e rfl <| Bd_e rfl ⟨?_, ?_⟩⟩
    · obtain ⟨w101, r1, o1, m1⟩ := made4 l.length w4.drew (by omega)
      refine RunW_in r1 (fun b hb => by simp at hb; subst hb; exact m1.blk b ln1 (by simp)) <| opL_in ⟨m1, ?_⟩
      obtain ⟨w106, r2, o2, m2⟩ := made4 l.length w101 (by omega)
      have s1 := m1.size
      have s2 := m2.size
      have q1 := (o1.lt rfl).2
      simp at q1
      have s3 : w4.heap.size ≤ w101.heap.size := s1
      refine RunW_in r2 (fun b hb => by simp at hb; subst hb; exact m2.blk b (by omega) (by simp)) <| opL_in ⟨m1.trans m2, Nw_i ⟨(m1.trans m2).trans (Md.alloc _ _), ?_⟩⟩
      exact ⟨_, _, _, rfl, mkStand st C hr4 ((Md_drew w4).trans m1) ((Md_drew w4).trans (m1.trans m2)) ((o1.down (b := w4.heap.size) (Nat.le_refl _)).md m2) (o2.down s3) (by show w4.heap.size ≠ _; have : w4.drew.heap.size = w4.heap.size := rfl; omega)⟩
    · obtain ⟨w101, r1, o1, m1⟩ := made4 l.length w4.drew (by omega)
      refine RunW_in r1 (fun b hb => by simp at hb; subst hb; exact m1.blk b ln1 (by simp)) <| opL_in ⟨m1, ?_⟩
      obtain ⟨w106, r2, o2, m2⟩ := made4 l.length w101 (by omega)
      have s1 := m1.size
      have s2 := m2.size
      have q1 := (o1.lt rfl).2
      simp at q1
      have s3 : w4.heap.size ≤ w101.heap.size := s1
      refine RunW_in r2 (fun b hb => by simp at hb; subst hb; exact m2.blk b (by omega) (by simp)) <| opL_in ⟨m1.trans m2, Nw_i ⟨(m1.trans m2).trans (Md.alloc _ _), ?_⟩⟩
      exact ⟨_, _, _, rfl, mkStand st C hr4 ((Md_drew w4).trans m1) ((Md_drew w4).trans (m1.trans m2)) (o2.down s3) ((o1.down (b := w4.heap.size) (Nat.le_refl _)).md m2) (by show _ ≠ w4.heap.size; have : w4.drew.heap.size = w4.heap.size := rfl; omega)⟩
  rintro us vs w9 ⟨n, g1, g2, rfl, S9⟩
  have L9 := (S9.onow.lt rfl)
  have L9' := (S9.onext.lt rfl)
  simp at L9 L9'
  have d12 : g1 ≠ g2 := by simpa using S9.d3 _ _ rfl rfl
  have hln : ∀ {w' : World}, Md [] w4 w' → ∀ b ∈ [n1], b < w'.heap.size := fun hm b hb => by simp at hb; subst hb; have := hm.size; omega
  refine opP_in ?_
  refine (f172_ok S9 hok hlen (offs_len _) st hst0 hst1).callD (hln S9.md) (fun b hb => by
    rw [List.mem_singleton] at hb; subst hb
    simp; omega) ?_
  rintro v w12 ⟨rfl, S12⟩ m12
  have hcl : (come l st (offs l.length)).length = l.length := come_len hok (offs_len _) hst0 hst1
  refine opTu_in <| SzIs_in rfl <| (f173_ok S12 hlen (by omega) (offs_len _) hcl).callD (hln S12.md) (fun b hb => by simp at hb; subst hb; simp; omega) ?_
  rintro v w15 ⟨rfl, S15⟩ m15
  refine opI_in <| Nw_i <| Bd_e rfl ?_
  rw [nsz_bytesOf]
  have ma : Md [] w15 (w15.alloc (.cells #[.int .i64 (tagF (come l st (offs l.length)) l (-1))] 3)) := Md.alloc w15 _
  have ol := OwnL.lit (P := Try.prog) (base := w15.heap.size) enci1 w15 3 [tagF (come l st (offs l.length)) l (-1)] #[.int .i64 (tagF (come l st (offs l.length)) l (-1))] (Nat.le_refl _) (by simp [maxLen]) rfl
  have sz12 := m12.size
  have sz15 := m15.size
  have sz4 := S9.md.size
  have hn9 := S9.blk.lt
  generalize hB : w15.heap.size = B at *
  have kD : ∀ {D : List Nat} {w' w'' : World} {a : Option Addr} {c : Nat} {x : List Int}, OwnL w' B 3 1 i1 a c x → Md D w' w'' → (∀ d ∈ D, d < B) → OwnL w'' B 3 1 i1 a c x := fun h hm hD => h.mdD hm fun A hA hd => by have := (h.lt hA).1; have := hD _ hd; omega
  refine LoopP_in (fun mm us vs w' => ∃ (i : Nat) (a : Option Addr) (c : Nat) (out : List Int) (now : List Bool), us = [.slice a out.length c, .int .i64 i] ∧ mm = s.length - i ∧ i ≤ s.length ∧ out ++ runF l (s.drop i) now = nfRun st l s ∧ out.length = i + 1 ∧ now.length = l.length ∧
      StAt w4 w' n st A C l (some ⟨g1, 0, none⟩) (some ⟨g2, 0, none⟩) l.length l.length now (offs l.length) ∧ OwnL w' B 3 1 i1 a c out ∧ B ≤ w'.heap.size) s.length
    ⟨0, _, _, [tagF (come l st (offs l.length)) l (-1)], come l st (offs l.length), rfl, rfl, by omega, rfl, rfl, hcl, S15.md0 ma, ol, by have := ma.size; omega⟩ ?_
  rintro mm us vs w23 ⟨i, a, c, out, now, rfl, hmm, hi, ho, hol, hnow, S23, own, hB23⟩
  refine opL_in <| opI_in <| Bd_in fun b28 hb28 => If_in (fun hb => ?_) fun hb => ?_
  case refine_2 =>
    have hil : i = s.length := by
      have : ¬ (i : Int) < (s.length : Int) := by rw [hb28] at hb; exact of_decide_eq_false hb
      omega
    subst hil
    rw [List.drop_of_length_le (by omega)] at ho
    rw [show runF l [] now = [] from rfl, List.append_nil] at ho
    rw [← ho]
    exact ⟨⟨a, c, rfl, own.down (by have := m24.size; omega)⟩, m24.trans S23.md⟩
  have his : i < s.length := by rw [hb28] at hb; have : (i : Int) < (s.length : Int) := of_decide_eq_true hb
                                omega
  refine ⟨⟨by omega, by omega⟩, Bd_e (byteAt_bytesOf hs his) <| NN_in <| S23.blk.ld' rfl <| opL_in <| Bd_e rfl ?_⟩
  have hb256 := hs _ (List.getElem_mem his)
  rw [List.drop_eq_getElem_cons his] at ho
  generalize s[i] = b at ho hb256 ⊢
  refine LoopP_in (fun mm us vs w' => ∃ (j : Nat) (N : List Bool), us = [.int .i64 j] ∧ mm = l.length - j ∧ j ≤ l.length ∧ stepF l b (now.drop j) (l.drop j) N = stepF l b now l (offs l.length) ∧ N.length = l.length ∧
      StAt w4 w' n st A C l (some ⟨g1, 0, none⟩) (some ⟨g2, 0, none⟩) l.length l.length now N ∧ OwnL w' B 3 1 i1 a c out ∧ B ≤ w'.heap.size) l.length
    ⟨0, offs l.length, rfl, rfl, by omega, rfl, offs_len _, S23, own, hB23⟩ ?_
  rintro m' us vs w39 ⟨j, N, rfl, hm', hj, hst, hN, S39, own39, hB39⟩
  refine opI_in <| Bd_in fun b41 hb41 => If_in (fun hb => ?_) fun hb => ?_
  case refine_2 =>
    have hjl : j = l.length := by
      have : ¬ (j : Int) < (now.length : Int) := by rw [hb41] at hb; exact of_decide_eq_false hb
      omega
    rw [List.drop_of_length_le (by omega)] at hst
    rw [show stepF l b [] (l.drop j) N = N by cases l.drop j <;> rfl] at hst
    refine (f173_ok S39 hlen (by omega) hnow hN).callD (hln S39.md) (fun b hb => by simp at hb; subst hb; simp; omega) ?_
    rintro v w86 ⟨rfl, S86⟩ m86
    have own86 := kD own39 m86 (fun d hd => by simp at hd; omega)
    have sz86 := m86.size
    have mb : Md [] w86 (w86.alloc (.cells #[.int .i64 (tagF N l (-1))] 3)) := Md.alloc w86 _
    have ol2 := OwnL.lit (P := Try.prog) (base := w86.heap.size) enci1 w86 3 [tagF N l (-1)] #[.int .i64 (tagF N l (-1))] (Nat.le_refl _) (by simp [maxLen]) rfl
    have szb := mb.size
    refine opI_in <| Nw_i <| app_own rowT52 enci1 (own86.md mb) ol2 (by omega) (hln (S86.md.trans mb)) (fun b hb A hA => by simp at hb; subst hb; have := (own86.lt hA).1; omega) (by simp [maxLen]; omega) (by simp; omega) fun a' c' w91 o91 m91 hA' => opL_in <| Bd_e (inc_i64 (by omega)) ?_
    have S91 : StAt w4 w91 n st A C l (some ⟨g1, 0, none⟩) (some ⟨g2, 0, none⟩) l.length l.length N (offs l.length) := by
      have T := S86.md0 mb
      have lo : ∀ d ∈ (a.map (·.block)).toList, B ≤ d := fun d hd => by obtain ⟨B', hB', rfl⟩ := mem_blk hd; exact (own86.lt hB').1
      refine ⟨T.blk.md m91 (fun hd => by have := lo _ hd; omega), T.row, T.md.old m91 (fun d hd => by have := lo _ hd; omega), T.nlo, T.onow.mdD m91 (fun B' hB' hd => ?_), T.onext.mdD m91 (fun B' hB' hd => ?_), T.d1, T.d2, T.d3⟩
      · have := lo _ hd; injection hB' with hB'; subst hB'; simp at this; omega
      · have := lo _ hd; injection hB' with hB'; subst hB'; simp at this; omega
    refine ⟨s.length - (i + 1), by omega, i + 1, a', c', out ++ [tagF N l (-1)], N, rfl, rfl, by omega, ?_, by simp; omega, hN, S91, o91, by have := m91.size; omega⟩
    rw [← ho, hst, List.append_assoc]
    rfl
  have hjn : j < now.length := by rw [hb41] at hb; have : (j : Int) < (now.length : Int) := of_decide_eq_true hb
                                  omega
  have hjl : j < l.length := by omega
  rw [stepF_step hjn hjl] at hst
  have hrow := S39.row.md S39.md
  refine Jn_in (fun us vs w' => ∃ (x : Int) (y : Bool), us = [.int .i64 x, .bool y] ∧ ∃ N' : List Bool, N' = (if now[j] = true ∧ l[j].k = 1 ∧ inQ l[j].q b = true then come l l[j].a N else N) ∧ N'.length = l.length ∧ StAt w4 w' n st A C l (some ⟨g1, 0, none⟩) (some ⟨g2, 0, none⟩) l.length l.length now N' ∧ OwnL w' B 3 1 i1 a c out ∧ B ≤ w'.heap.size) ?_ ?_
  · rintro us vs w44 ⟨x, y, rfl, N', rfl, hN', S44, own44, hB44⟩
    exact opI_in <| opB_in <| Bd_e (inc_i64 (by omega)) ⟨l.length - (j + 1), by omega, j + 1, _, rfl, rfl, by omega, hst, hN', S44, own44, hB44⟩
  refine ⟨(S39.onow.row encbE).ix hjn, (S39.onow.row encbE).ld1 hjn rfl <| opB_in ⟨hrow.ix hjl, hrow.ld8 hjl ?_⟩⟩
  intro n67 hn67
  refine Bd_in fun b68 hb68 => Bd_in fun b69 hb69 => bit_in (q := l[j].q) hb256 _ _ _ _ ?_
  refine Bd_in fun b79 hb79 => ?_
  have hiff : b79 = true ↔ (now[j] = true ∧ l[j].k = 1 ∧ inQ l[j].q b = true) := by
    rw [hb79, hb69, hb68]
    cases now[j] <;> simp
  have hlj := hok _ (List.getElem_mem hjl)
  refine If_in (fun hc w80 h80 hL80 => ?_) fun hc w80 h80 hL80 => ?_
  · rw [if_pos (hiff.1 hc)]
    have m80 : Md [] w39 w80 := h80.fresh (by simp; exact hn67)
    have S80 := S39.md0 m80
    have s80 := m80.size
    have l67 := hL80 n67 (by simp)
    refine (f172_ok S80 hok hlen hN l[j].a hlj.1 hlj.2.1).callD hL80 (fun b hb => ?_) ?_
    · simp at hb ⊢
      rcases hb with rfl | rfl <;> omega
    · rintro v w82 ⟨rfl, S82⟩ m82
      exact opTu_in <| SzIs_in rfl ⟨_, _, rfl, _, rfl, come_len hok hN hlj.1 hlj.2.1, S82, kD (own39.md m80) m82 (fun d hd => by simp at hd; omega), by have := m82.size; omega⟩
  · rw [if_neg (fun h => by have := hiff.2 h; rw [hc] at this; cases this)]
    have m80 : Md [] w39 w80 := h80.fresh (by simp; exact hn67)
    exact ⟨_, _, rfl, _, rfl, hN, S39.md0 m80, own39.md m80, by have := m80.size; omega⟩
end Fk
set_option linter.unusedVariables false
set_option linter.unusedSimpArgs false
set_option maxRecDepth 100000
set_option maxHeartbeats 2000000
namespace Fk
open Go Go.Proofs Go.RowKit
theorem On_offs {n i : Nat} : ¬ On (offs n) i := by
  unfold On offs
  rw [List.getElem?_replicate]
  split <;> simp
end Fk
set_option linter.unusedVariables false
set_option linter.unusedSimpArgs false
set_option maxRecDepth 100000
set_option maxHeartbeats 2000000
namespace Fk
open Go Go.Proofs Go.RowKit
def dst (l : List Ns) (todo : List Int) : List Bool := comeF l (2 * l.length + todo.length) todo.reverse (offs l.length)
theorem dst_ok {l : List Ns} (hl : OkL l) {todo : List Int} (ht : ∀ x ∈ todo, 0 ≤ x ∧ x < l.length) : IsSt l (fun i => ∃ x ∈ todo, x.toNat = i) (dst l todo) := by
  have I := comeF_ok l hl (2 * l.length + todo.length) todo.reverse (offs l.length) (offs_len _) (fun x hx => ht x (by simpa using hx)) (by have := ofc_le (offs l.length); rw [offs_len] at this; rw [List.length_reverse]; omega)
  refine ⟨I.len, fun i => ⟨fun hi => ?_, fun hi => ?_⟩⟩
  · rcases I.fr i hi with h | h
    · exact absurd h On_offs
    · exact h.mono fun j ⟨x, hx, e⟩ => ⟨x, by simpa using hx, e⟩
  · induction hi with
    | base h => obtain ⟨x, hx, rfl⟩ := h; exact I.has x (by simpa using hx)
    | a _ h1 h2 ih =>
      rcases I.cl _ _ ih h1 h2 with h3 | h3
      · exact absurd h3 On_offs
      · exact h3.1
    | b _ h1 h2 ih =>
      rcases I.cl _ _ ih h1 h2 with h3 | h3
      · exact absurd h3 On_offs
      · exact h3.2
def byL (b : Nat) : List Bool → List Ns → List Int
  | h :: hs, x :: xs => if h = true ∧ x.k = 1 ∧ inQ x.q b = true then x.a :: byL b hs xs else byL b hs xs
  | _, _ => []
theorem mem_byL (b : Nat) : ∀ (N : List Bool) (xs : List Ns) (y : Int), y ∈ byL b N xs ↔ ∃ j x, On N j ∧ xs[j]? = some x ∧ x.k = 1 ∧ inQ x.q b = true ∧ y = x.a
  | [], xs, y => by
    have e : byL b [] xs = [] := by cases xs <;> rfl
    rw [e]
    exact ⟨fun h => by simp at h, fun ⟨j, x, h, _⟩ => by simp [On] at h⟩
  | h :: hs, [], y => ⟨fun h => by simp [byL] at h, fun ⟨j, x, _, h, _⟩ => by simp at h⟩
  | h :: hs, x :: xs, y => by
    have ih := mem_byL b hs xs y
    unfold byL
    constructor
    · intro hy
      split at hy
      · rename_i c
        rcases List.mem_cons.1 hy with rfl | hy
        · exact ⟨0, x, by simp [On, c.1], rfl, c.2.1, c.2.2, rfl⟩
        · obtain ⟨j, z, h1, h2⟩ := ih.1 hy
          exact ⟨j + 1, z, by simpa [On] using h1, by simpa using h2⟩
      · obtain ⟨j, z, h1, h2⟩ := ih.1 hy
        exact ⟨j + 1, z, by simpa [On] using h1, by simpa using h2⟩
    · rintro ⟨j, z, h1, h2, h3⟩
      cases j with
      | zero =>
        simp at h2; subst h2
        rw [if_pos ⟨by simpa [On] using h1, h3.1, h3.2.1⟩, h3.2.2]
        simp
      | succ j =>
        have hm : y ∈ byL b hs xs := ih.2 ⟨j, z, by simpa [On] using h1, by simpa using h2, h3⟩
        split
        · exact List.mem_cons_of_mem _ hm
        · exact hm
theorem byL_in {l : List Ns} (hl : OkL l) (b : Nat) (N : List Bool) : ∀ y ∈ byL b N l, 0 ≤ y ∧ y < l.length := fun y hy => by
  obtain ⟨j, x, _, h2, _, _, rfl⟩ := (mem_byL b N l y).1 hy
  have := hl x (List.mem_of_getElem? h2)
  exact ⟨this.1, this.2.1⟩
theorem dst_by {l : List Ns} (hl : OkL l) (b : Nat) (N : List Bool) : dst l (byL b N l) = stepF l b N l (offs l.length) := by
  refine (dst_ok hl (byL_in hl b N)).uniq ((stepF_is hl b N l _ _ (fun x hx => ⟨(hl x hx).1, (hl x hx).2.1⟩) (IsSt.offs l)).congr fun i => ?_)
  constructor
  · rintro (h | ⟨j, x, h1, h2, h3, h4, rfl⟩)
    · exact h.elim
    · exact ⟨x.a, (mem_byL b N l _).2 ⟨j, x, h1, h2, h3, h4, rfl⟩, rfl⟩
  · rintro ⟨y, hy, rfl⟩
    obtain ⟨j, x, h1, h2, h3, h4, rfl⟩ := (mem_byL b N l y).1 hy
    exact .inr ⟨j, x, h1, h2, h3, h4, rfl⟩
theorem dst_begin {l : List Ns} (hl : OkL l) {st : Int} (h0 : 0 ≤ st) (h1 : st < l.length) : dst l [st] = come l st (offs l.length) := by
  refine (dst_ok hl (by simp; omega)).uniq ((come_is hl (IsSt.offs l) h0 h1).congr fun i => ?_)
  simp [eq_comm]
theorem byL_nil {l : List Ns} (hl : OkL l) (b : Nat) (N : List Bool) : byL b N l = [] ↔ ∀ i, ¬ On (stepF l b N l (offs l.length)) i := by
  rw [← dst_by hl b N]
  have h := dst_ok hl (byL_in hl b N)
  constructor
  · intro e i hi
    have := (h.2 i).1 hi
    rw [e] at this
    have hf : ∀ {j}, Rch l (fun i => ∃ x ∈ ([] : List Int), x.toNat = i) j → False := fun hr => by
      induction hr with
      | base h => obtain ⟨x, hx, _⟩ := h; simp at hx
      | a _ _ _ ih => exact ih
      | b _ _ _ ih => exact ih
    exact hf this
  · intro hn
    cases e : byL b N l with
    | nil => rfl
    | cons y ys => exact absurd ((h.2 y.toNat).2 (.base ⟨y, by rw [e]; simp, rfl⟩)) (hn _)
theorem byL_step {N : List Bool} {l : List Ns} {b j : Nat} (h1 : j < N.length) (h2 : j < l.length) : byL b (N.drop j) (l.drop j) = if N[j] = true ∧ l[j].k = 1 ∧ inQ l[j].q b = true then l[j].a :: byL b (N.drop (j + 1)) (l.drop (j + 1)) else byL b (N.drop (j + 1)) (l.drop (j + 1)) := by
  rw [List.drop_eq_getElem_cons h1, List.drop_eq_getElem_cons h2]
  rfl
theorem f171_ok (st : Int) (l : List Ns) (pa xa : Option Addr) (pc xc : Nat) (N : List Bool) (b : Nat) (hb : b < 256) (w : World) (hr : RowAt w pa 8 nsE l) (hx : RowAt w xa 1 bE N) (hN : N.length = l.length) (hlen : l.length ≤ 20000) :
    Ct Try.prog 171 #[.agg #[.int .i64 st, .slice pa l.length pc], .slice xa N.length xc, .int .u8 b] w fun v w' => (∃ (a : Option Addr) (c : Nat), v = .slice a (byL b N l).length c ∧ OwnL w' w.heap.size 3 1 i1 a c (byL b N l)) ∧ Md [] w w' := by
  apply f171_in
  intro n1 hn1
  refine Bd_e rfl fun w3 h3 hL3 => ?_
  have ln : n1 < w3.heap.size := hL3 n1 (by simp)
  refine LoopP_in (fun mm us vs w' => ∃ (i : Nat) (a : Option Addr) (c : Nat) (o : List Int), us = [.slice a o.length c, .int .i64 i] ∧ mm = l.length - i ∧ i ≤ l.length ∧ o ++ byL b (N.drop i) (l.drop i) = byL b N l ∧ o.length ≤ i ∧ OwnL w' w3.heap.size 3 1 i1 a c o ∧ Md [] w3 w') l.length
    ⟨0, none, 0, [], rfl, rfl, by omega, by simp, by simp, OwnL.nil .., Md.refl _ _⟩ ?_
  rintro mm us vs w7 ⟨i, a, c, o, rfl, hmm, hi, ho, hol, own, hmd⟩
  have m7 := h3.trans hmd
  have s7 := hmd.size
  refine opL_in <| opI_in <| Bd_in fun b12 hb12 => If_in (fun hbt => ?_) fun hbf => ?_
  case refine_2 =>
    have : ¬ (i : Int) < (N.length : Int) := by rw [hb12] at hbf; exact of_decide_eq_false hbf
    have hil : i = l.length := by omega
    subst hil
    rw [List.drop_of_length_le (by omega)] at ho
    rw [show byL b [] (l.drop l.length) = [] by cases l.drop l.length <;> rfl, List.append_nil] at ho
    rw [← ho]
    exact ⟨⟨a, c, rfl, own.down h3.size⟩, m7⟩
  have hiN : i < N.length := by rw [hb12] at hbt; have : (i : Int) < (N.length : Int) := of_decide_eq_true hbt
                                omega
  have hil : i < l.length := by omega
  rw [byL_step hiN hil] at ho
  have rl := hr.md m7
  refine Jn_in (fun us vs w' => ∃ (a : Option Addr) (c : Nat) (o' : List Int) (z : Bool), us = [.slice a o'.length c, .int .i64 i, .bool z] ∧ o' ++ byL b (N.drop (i + 1)) (l.drop (i + 1)) = byL b N l ∧ o'.length ≤ i + 1 ∧ OwnL w' w3.heap.size 3 1 i1 a c o' ∧ Md [] w3 w') ?_ ?_
  · rintro us vs w15 ⟨a, c, o', z, rfl, q1, q2, q3, q4⟩
    exact opL_in <| opI_in <| opB_in <| Bd_e (inc_i64 (by omega)) ⟨l.length - (i + 1), by omega, i + 1, a, c, o', rfl, rfl, by omega, q1, q2, q3, q4⟩
  refine ⟨(hx.md m7).ix hiN, (hx.md m7).ld1 hiN rfl <| opB_in ⟨rl.ix hil, rl.ld8 hil ?_⟩⟩
  intro n41 hn41
  refine Bd_in fun b42 hb42 => Bd_in fun b43 hb43 => bit_in (q := l[i].q) hb _ _ _ _ ?_
  refine Bd_in fun b53 hb53 => ?_
  have hiff : b53 = true ↔ (N[i] = true ∧ l[i].k = 1 ∧ inQ l[i].q b = true) := by
    rw [hb53, hb43, hb42]
    cases N[i] <;> simp
  refine If_in (fun hc w54 h54 hL54 => ?_) fun hc w54 h54 hL54 => ?_
  · rw [if_pos (hiff.1 hc)] at ho
    have m54 : Md [] w7 w54 := h54.fresh (by simp; exact hn41)
    refine Nw_i ?_
    have ma : Md [] w54 (w54.alloc (.cells #[.int .i64 l[i].a] 3)) := Md.alloc w54 _
    have ol := OwnL.lit (P := Try.prog) (base := w54.heap.size) enci1 w54 3 [l[i].a] #[.int .i64 l[i].a] (Nat.le_refl _) (by simp [maxLen]) rfl
    have own2 := (own.md m54).md ma
    have sz := m54.size
    have sz2 := ma.size
    refine app_own rowT52 enci1 own2 ol (by omega) (fun z hz => Nat.lt_of_lt_of_le (hL54 z hz) sz2) (fun z hz A hA e => ?_) (by simp [maxLen]; omega) (by simp; omega) fun a' c' w58 o58 m58 hA' => opL_in ⟨a', c', _, _, rfl, by rw [← ho]; simp, by simp; omega, o58, ((hmd.trans m54).trans ma).own own2 m58⟩
    have := own.lt hA
    simp at hz
    rcases hz with rfl | rfl <;> omega
  · rw [if_neg (fun h => by have := hiff.2 h; rw [hc] at this; cases this)] at ho
    have m54 : Md [] w7 w54 := h54.fresh (by simp; exact hn41)
    exact ⟨a, c, o, _, rfl, ho, by omega, own.md m54, hmd.trans m54⟩
theorem f170_ok (st : Int) (l : List Ns) (pa xa : Option Addr) (pc xc : Nat) (N : List Bool) (w : World) (h1 : RowAt w pa 8 nsE l) (h2 : RowAt w xa 1 bE N) (hN : N.length = l.length) (hlen : l.length ≤ 20000) :
    Ct Try.prog 170 #[.agg #[.int .i64 st, .slice pa l.length pc], .slice xa N.length xc] w fun v w' => v = .int .i64 (tagF N l (-1)) ∧ Md [] w w' := by
  apply f170_in
  intro n1 hn1
  refine Bd_e rfl fun w3 h3 hL3 => ?_
  refine LoopP_in (fun mm us vs w' => ∃ (i : Nat) (t : Int), us = [.int .i64 t, .int .i64 i] ∧ mm = l.length - i ∧ i ≤ l.length ∧ Md [] w w' ∧ tagF (N.drop i) (l.drop i) t = tagF N l (-1)) l.length
    ⟨0, -1, rfl, rfl, by omega, h3, rfl⟩ ?_
  rintro m' us vs w6 ⟨i, t, rfl, hmm, hi, h6, ht⟩
  refine opI_in <| opI_in <| Bd_in fun b41 hb41 => If_in (fun hb => ?_) fun hb => ?_
  case refine_2 =>
    have : ¬ (i : Int) < (N.length : Int) := by rw [hb41] at hb; exact of_decide_eq_false hb
    have hil : i = l.length := by omega
    subst hil
    rw [List.drop_of_length_le (by omega), List.drop_of_length_le (by omega)] at ht
    rw [← ht]
    exact ⟨rfl, h6⟩
  have hin : i < N.length := by rw [hb41] at hb; have : (i : Int) < (N.length : Int) := of_decide_eq_true hb
                                omega
  have hil : i < l.length := by omega
  rw [tagF_step hin hil] at ht
  refine Jn_in (fun us vs w' => ∃ (z : Bool), us = [.int .i64 (if N[i] = true ∧ l[i].k = 0 ∧ (t < 0 ∨ l[i].t < t) then l[i].t else t), .int .i64 i, .bool z] ∧ Md [] w w') ?_ ?_
  · rintro us vs w44 ⟨z, rfl, h44⟩
    exact opI_in <| opI_in <| opB_in <| Bd_e (inc_i64 (by omega)) ⟨l.length - (i + 1), by omega, i + 1, _, rfl, rfl, by omega, h44, ht⟩
  refine ⟨(h2.md h6).ix hin, ((h2.md h6).ld1 hin rfl) <| opB_in ⟨(h1.md h6).ix hil, (h1.md h6).ld8 hil ?_⟩⟩
  intro n37 hn37
  refine Bd_in fun b74 hb74 => Bd_in fun b75 hb75 => Bd_in fun b76 hb76 => Bd_in fun b77 hb77 => Bd_in fun b78 hb78 => Bd_in fun b79 hb79 => ?_
  have hiff : b79 = true ↔ (N[i] = true ∧ l[i].k = 0 ∧ (t < 0 ∨ l[i].t < t)) := by
    rw [hb79, hb78, hb75, hb74, hb76, hb77]
    cases N[i] <;> simp
  refine If_in (fun hc w44 h44 _ => ?_) fun hc w44 h44 _ => ?_
  · rw [if_pos (hiff.1 hc)]
    exact ⟨_, rfl, h6.trans (h44.fresh (by simp; exact hn37))⟩
  · rw [if_neg (fun h => by have := hiff.2 h; rw [hc] at this; cases this)]
    exact ⟨_, rfl, h6.trans (h44.fresh (by simp; exact hn37))⟩
theorem f167_ok (st : Int) (l : List Ns) (pa xa : Option Addr) (pc xc bx : Nat) (todo : List Int) (w : World) (hr : RowAt w pa 8 nsE l) (hx : OwnL w bx 3 1 i1 xa xc todo) (hl : OkL l) (hlen : l.length ≤ 20000) (htl : todo.length ≤ 20000) (ht : ∀ x ∈ todo, 0 ≤ x ∧ x < l.length) :
    Ct Try.prog 167 #[.agg #[.int .i64 st, .slice pa l.length pc], .slice xa todo.length xc] w fun v w' => (∃ (a : Option Addr) (c : Nat), v = .slice a (dst l todo).length c ∧ OwnL w' w.heap.size 4 1 bE a c (dst l todo)) ∧ Md [] w w' := by
  apply f167_in
  intro n1 hn1
  refine Bd_e rfl fun w3 h3 hL3 => ?_
  have l1 := hL3 n1 (by simp)
  obtain ⟨w5, r1, o1, m1⟩ := made4 l.length w3 (by omega)
  refine RunW_in r1 (fun b hb => by simp at hb; subst hb; exact m1.blk b l1 (by simp)) <| opL_in <| Nw_i ?_
  have s1 := m1.size
  generalize hxa : (some (Addr.mk w3.heap.size 0 none)) = a6 at *
  have mc : Md [] w5 (w5.alloc (.cells #[] 3)) := Md.alloc w5 _
  have olc : OwnL (w5.alloc (.cells #[] 3)) w5.heap.size 3 1 i1 (some ⟨w5.heap.size, 0, none⟩) 0 [] := OwnL.lit (P := Try.prog) (base := w5.heap.size) enci1 w5 3 [] #[] (Nat.le_refl _) (by simp) rfl
  have sc := mc.size
  have hxc := ((hx.md h3).md m1).md mc
  have ln5 : n1 < w5.heap.size := by omega
  refine app_own rowT52 enci1 olc hxc (by omega) (fun b hb => by simp at hb; subst hb; omega) (fun b hb A hA => by simp at hb; subst hb; injection hA with hA; subst hA; simp; omega) (by simp [maxLen]; omega) (by simp; omega) fun a13 c15 w12 o12 m12 hA12 => opL_in ?_
  simp only [List.nil_append] at o12 ⊢
  have m3_12 : Md [] w3 w12 := (m1.trans mc).old m12 (fun d hd => by simp at hd; omega)
  have b6 : ∀ A, a6 = some A → A.block = w3.heap.size := fun A hA => by rw [← hxa] at hA; injection hA with hA; subst hA; rfl
  have o6 : OwnL w12 w3.heap.size 4 1 bE a6 l.length (offs l.length) := ((o1.md mc).mdD m12 fun A hA => by have := b6 A hA; have := (o1.lt hA).2; simp; omega)
  refine LoopP_in (fun mm us vs w' => ∃ (a : Option Addr) (c : Nat) (R : List Int) (N : List Bool), us = [.slice a R.length c] ∧ OwnL w' w5.heap.size 3 1 i1 a c R ∧ OwnL w' w3.heap.size 4 1 bE a6 l.length N ∧ Md [] w3 w' ∧ w5.heap.size ≤ w'.heap.size ∧
      N.length = l.length ∧ comeF l mm R.reverse N = dst l todo ∧ 2 * ofc N + R.length ≤ mm ∧ (∀ y ∈ R, 0 ≤ y ∧ y < l.length) ∧ mm ≤ 60000) (2 * l.length + todo.length)
    ⟨a13, c15, todo, offs l.length, rfl, o12, o6, m3_12, by have := m12.size; omega, offs_len _, rfl, by have := ofc_le (offs l.length); rw [offs_len] at this; omega, ht, by omega⟩ ?_
  rintro mm us vs w6 ⟨a, c, R, N, rfl, ho, oN, hm, hs5, hN, hc, hf, hR, hmm⟩
  have hdst : (dst l todo).length = l.length := (dst_ok hl ht).1
  have ln6 : n1 < w6.heap.size := by have := hm.size; omega
  refine opL_in <| Bd_e rfl <| Bd_in fun b12 hb12 => If_in (fun hb => ?_) fun hb => ?_
  case refine_2 =>
    have hR0 : R = [] := by
      have : ¬ (R.length : Int) > 0 := by rw [hb12] at hb; exact of_decide_eq_false hb
      exact List.eq_nil_of_length_eq_zero (by omega)
    subst hR0
    rw [List.reverse_nil, comeF_nil] at hc
    rw [← hc]
    exact ⟨⟨a6, l.length, by rw [hN], oN.down h3.size⟩, h3.trans hm⟩
  have hRp : 0 < R.length := by have : (R.length : Int) > 0 := by rw [hb12] at hb; exact of_decide_eq_true hb
                                omega
  rcases List.eq_nil_or_concat R with rfl | ⟨R', y, rfl⟩
  · simp at hRp
  rw [List.concat_eq_append] at *
  have hl1 : (R' ++ [y]).length = R'.length + 1 := by simp
  have hix := (ho.row enci1).ix (i := R'.length) (by omega)
  rw [hl1] at hix ⊢
  have hcap := ho.cap
  refine Bd_e rfl <| Bd_e (y := ((R'.length : Nat) : Int)) (by rw [IntKind.wrap_i64]; omega) ⟨hix, (ho.row enci1).ld1 (i := R'.length) (by omega) (v := .int .i64 y) (by simp [i1]) <| opI_in <| Bd_e rfl <| Bd_e (y := ((R'.length : Nat) : Int)) (by rw [IntKind.wrap_i64]; omega) ?_⟩
  refine RunW_in0 (slice_front (e := 3) (by kernel_rfl) size3 _ _ _ _ _ (by omega)) <| opL_in ?_
  have hy := hR y (by simp)
  obtain ⟨i, rfl⟩ := Int.eq_ofNat_of_zero_le hy.1
  have hil : i < l.length := by omega
  have hiN : i < N.length := by omega
  have hixN := (oN.row encbE).ix hiN
  rw [hN] at hixN
  refine ⟨hixN, (oN.row encbE).ld1 hiN rfl <| opB_in ?_⟩
  have hop := ho.pop enci1
  have hRr : ∀ z ∈ R', 0 ≤ z ∧ z < l.length := fun z hz => hR z (by simp [hz])
  rw [List.reverse_append, List.reverse_singleton, List.singleton_append] at hc
  obtain ⟨m, rfl⟩ : ∃ m, mm = m + 1 := ⟨mm - 1, by omega⟩
  refine If_in (fun hon => ?_) fun hoff => ?_
  · have hOn : On N i := by unfold On; rw [List.getElem?_eq_getElem hiN, hon]
    rw [comeF_on (by simpa using hOn)] at hc
    exact ⟨m, by omega, a, c, R', N, rfl, hop, oN, hm, hs5, hN, hc, by omega, hRr, by omega⟩
  have hOff : ¬ On N i := by unfold On; rw [List.getElem?_eq_getElem hiN, hoff]; simp
  rw [comeF_off hOff hil] at hc
  have hcnt := ofc_set hiN hOff
  obtain ⟨A, hA, p1, p2, p3, p4, p5, p6⟩ := oN.put encbE (by omega) hiN true
  have hAb := b6 A hA
  have m7 : Md [] w3 (setCells w6 (adAt a6 (i : Int) 1) 0 [.bool true]) := hm.old p6 (by simpa using p2)
  have hoA : ∀ B, a = some B → B.block ≠ A.block := fun B hB => by have := (ho.lt hB).1; have := (o1.lt hA).2; omega
  have ho7 : OwnL (setCells w6 (adAt a6 (i : Int) 1) 0 [.bool true]) w5.heap.size 3 1 i1 a c R' := hop.mdD p6 fun B hB => by simpa using hoA B hB
  have hs6 : w6.heap.size ≤ (setCells w6 (adAt a6 (i : Int) 1) 0 [.bool true]).heap.size := p6.size
  change OwnL (setCells w6 (adAt a6 (i : Int) 1) 0 [.bool true]) w3.heap.size 4 1 bE a6 l.length (N.set i true) at p5
  generalize setCells w6 (adAt a6 (i : Int) 1) 0 [.bool true] = w7 at *
  have rl := hr.md (h3.trans m7)
  refine ⟨hixN, by rw [p3, hAb]; simp; omega, p4, rl.ix hil, rl.ld8 hil ?_⟩
  intro n57 hn57
  refine Bd_in fun b58 hb58 => If_in (fun hk w59 h59 hL59 => ?_) fun hk w67 h67 hL67 => ?_
  · have hk2 : l[i].k = 2 := by rw [hb58] at hk; simpa using hk
    rw [if_pos hk2] at hc
    have m59 : Md [] w7 w59 := h59.fresh (by simp; exact hn57)
    refine Nw_i ?_
    have mb : Md [] w59 (w59.alloc (.cells #[.int .i64 l[i].a, .int .i64 l[i].b] 3)) := Md.alloc w59 _
    have ol2 := OwnL.lit (P := Try.prog) (base := w59.heap.size) enci1 w59 3 [l[i].a, l[i].b] #[.int .i64 l[i].a, .int .i64 l[i].b] (Nat.le_refl _) (by simp [maxLen]) rfl
    have m8 := m59.trans mb
    have ho8 := ho7.md m8
    have oN8 := p5.md m8
    have sz := mb.size
    have sz8 := m8.size
    have szm := hm.size
    have sz12 := m12.size
    have hlb := hl _ (List.getElem_mem hil)
    have hbase : w5.heap.size ≤ (w59.alloc (.cells #[.int .i64 l[i].a, .int .i64 l[i].b] 3)).heap.size := by omega
    refine app_own rowT52 enci1 ho8 ol2 hbase (fun z hz => Nat.lt_of_lt_of_le (hL59 z hz) sz) (fun z hz B hB e => ?_) (by simp [maxLen]; omega) (by simp; omega) fun a' c' w63 o63 m63 hA' => opL_in ?_
    · have := ho7.lt hB
      simp at hz
      rcases hz with rfl | rfl <;> omega
    have aD : ∀ d ∈ (a.map (·.block)).toList, w5.heap.size ≤ d := fun d hd => by
      obtain ⟨B, hB, rfl⟩ := mem_blk hd
      exact (ho7.lt hB).1
    refine ⟨m, by omega, a', c', R' ++ [l[i].a, l[i].b], N.set i true, rfl, o63, oN8.mdD m63 (fun B hB hd => ?_), (m7.trans m8).old m63 (fun d hd => by have := aD d hd; omega), by have := m63.size; omega, by simp [hN], by simpa using hc, by simp; omega, fun z hz => ?_, by omega⟩
    · have := aD _ hd; have := b6 B hB; have := (o1.lt hB).2; omega
    · rcases List.mem_append.1 hz with h | h
      · exact hRr z h
      · simp at h
        rcases h with rfl | rfl
        · exact ⟨hlb.1, hlb.2.1⟩
        · exact ⟨hlb.2.2.1, hlb.2.2.2⟩
  · have hk2 : ¬ l[i].k = 2 := by rw [hb58] at hk; simpa using hk
    rw [if_neg hk2] at hc
    have m67 : Md [] w7 w67 := h67.fresh (by simp; exact hn57)
    exact ⟨m, by omega, a, c, R', N.set i true, rfl, ho7.md m67, p5.md m67, m7.trans m67, by have := m67.size; omega, by simp [hN], hc, by omega, hRr, by omega⟩
end Fk
