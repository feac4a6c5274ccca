/- Contracts of functions, and plain laws: several texts, joined. -/
import Derived.Test.YtpgjpgecgibklaaGR2
import Derived.Test.YtpgjpgecgibklaaGR0
import Derived.Test.YtpgjpgecgibklaaGK2
import Derived.WalkSmall
import Derived.Lib.SliceRun
import Derived.Test.YtpgjpgecgibklaaGV1
import Derived.Lib.AppendStr
import Derived.Laws.Cover3
set_option linter.unusedVariables false
set_option linter.unusedSimpArgs false
set_option maxRecDepth 100000
set_option maxHeartbeats 2000000
namespace Fk
open Go Go.Proofs Go.RowKit
theorem wrL_a {l : List Ns} {i : Nat} (hi : i < l.length) (y : Int) : wrL (l.flatMap nsE) (i * 8 + 5) [.int .i64 y] = (l.set i { l[i] with a := y }).flatMap nsE := by
  rw [← wrL_flat encNs l i { l[i] with a := y } hi]
  apply List.ext_getElem?
  intro j
  have hlen := encNs.lenL l
  rw [wrL_get (by simp only [List.length_cons, List.length_nil]; omega), wrL_get (by rw [encNs.len]; omega), encNs.len]
  simp only [List.length_cons, List.length_nil]
  by_cases h1 : i * 8 ≤ j ∧ j < i * 8 + 8
  · obtain ⟨r, rfl⟩ : ∃ r, j = i * 8 + r := ⟨j - i * 8, by omega⟩
    have hr : r < 8 := by omega
    rw [if_pos h1, encNs.at l i r l[i] (List.getElem?_eq_getElem hi) hr, show i * 8 + r - i * 8 = r by omega]
    rcases (by omega : r = 0 ∨ r = 1 ∨ r = 2 ∨ r = 3 ∨ r = 4 ∨ r = 5 ∨ r = 6 ∨ r = 7) with rfl | rfl | rfl | rfl | rfl | rfl | rfl | rfl
    case inr.inr.inr.inr.inr.inl => rw [if_pos (by omega)]; simp [nsE]
    all_goals (rw [if_neg (by omega)]; simp [nsE])
  · rw [if_neg h1, if_neg (by omega)]
theorem NN_in {A : Addr} {k : Addr → Prop} (h : k A) : NN (some A) k := h
theorem star_put {w0 w : World} {n : Nat} {l2 : List Ns} {most : Nat} {F : List Nat} {n1 : Nat} (S : Tws w0 w n l2 most F) (x : Int) (i : Nat) (hx : x = (i : Int)) (hi : i < l2.length) (kid : Int) (hn1 : n1 ∉ F) {K : World → Prop}
    (kk : ∀ w', Tws w0 w' n (setA l2 x kid) most F → Md F w w' → K w') :
    Ld w ((Addr.mk n 0 none).add 0) fun v115 => opL v115 fun a116 n117 n118 => IxOk x n117 a116 ∧ ¬ Addr.block (adAt a116 x 8) ∈ [n1] ∧ Wr w ((adAt a116 x 8).add 5) 1 ∧ K (setCells w ((adAt a116 x 8).add 5) 0 [.int .i64 kid]) := by
  subst hx
  obtain ⟨a, c, hk, hF⟩ := S.mr
  refine hk.blk.ld' rfl <| opL_in ?_
  have hlen := encNs.lenL l2
  obtain ⟨A, rfl, p1, p2, p3, p4, p5⟩ := own_put hk.own (i * 8 + 5) [.int .i64 kid] (by simp only [List.length_cons, List.length_nil]; omega) (by simp)
  have hA : (adAt (some A) (i : Int) 8).add 5 = A.add (i * 8 + 5) := by
    rw [← add_add]
    simp [adAt]
  have hB : (adAt (some A) (i : Int) 8).block = A.block := by simp [adAt, add_block]
  have hAF : A.block ∈ F := by rw [hF, mem_fpM]; exact .inr ⟨A, rfl, rfl⟩
  rw [wrL_a hi] at p4
  have es : setA l2 (i : Int) kid = l2.set i { l2[i] with a := kid } := by unfold setA; simp [hi]
  rw [hA, hB]
  have hne : A.block ≠ n := hk.ne A rfl
  have own' : OwnL (setCells w (A.add (i * 8 + 5)) 0 [.int .i64 kid]) 0 103 8 nsE (some A) c (l2.set i { l2[i] with a := kid }) := by
    unfold OwnL
    rw [List.length_set]; exact p4
  refine ⟨(hk.own.row encNs).ix hi, by simp; exact fun e => hn1 (e ▸ hAF), p3, kk _ ⟨⟨some A, c, ⟨?_, ?_, hk.ne⟩, hF⟩, S.md.old p5 (by simp; exact S.lo _ hAF), S.lo, by rw [es, List.length_set]; exact S.len⟩ (p5.mono (by simp; exact hAF))⟩
  · have := hk.blk.md p5 (by simp; exact fun e => hne e.symm)
    rw [es, List.length_set]; exact this
  · rw [es]; exact own'
def Tow (most : Nat) (q : Fo) : Prop := ∀ (k a b c d : Int) (sa : Option Addr) (sc : Nat) (to : Int) (n : Nat) (l : List Ns) (F : List Nat) (w0 w : World), RepF w0 sa 0 q → q.len < 2 ^ 63 → ((k = 3 ∨ k = 4) → 1 ≤ q.len) → q.gdP → Tws w0 w n l most F →
    Ct Try.prog 163 #[.pointer (some ⟨n, 0, none⟩), .agg #[.int .u8 k, .int .u64 a, .int .u64 b, .int .u64 c, .int .u64 d, .slice sa q.len sc], .int .i64 to] w
      fun v w' => (v = .int .i64 (twOne most k a b c d (tw most q) (l, to)).2 ∧ ∃ F', Tws w0 w' n (twOne most k a b c d (tw most q) (l, to)).1 most F' ∧ FrN w F F') ∧ Md F w w'
theorem in163 {most : Nat} {q : Fo} (hT : Tow most q) {k a b c d : Int} {sa : Option Addr} {sc : Nat} (to : Int) {n : Nat} {l : List Ns} {F L : List Nat} {w0 w : World} (h1 : RepF w0 sa 0 q) (h2 : q.len < 2 ^ 63) (h3 : (k = 3 ∨ k = 4) → 1 ≤ q.len) (h4 : q.gdP) (S : Tws w0 w n l most F) (hL : LN L w F) {K : Int → World → Prop}
    (kk : ∀ F' w', Tws w0 w' n (twOne most k a b c d (tw most q) (l, to)).1 most F' → Md F w w' → FrN w F F' → LN L w' F' → K (twOne most k a b c d (tw most q) (l, to)).2 w') :
    CallW Try.prog L 163 #[.pointer (some ⟨n, 0, none⟩), .agg #[.int .u8 k, .int .u64 a, .int .u64 b, .int .u64 c, .int .u64 d, .slice sa q.len sc], .int .i64 to] (fun v w' => opI .i64 v fun x => K x w') w := by
  refine (hT k a b c d sa sc to n l F w0 w h1 h2 h3 h4 S).callD (fun b hb => (hL b hb).1) (fun b hb => (hL b hb).2) ?_
  rintro v w' ⟨rfl, F', h5, h6⟩ h'
  exact opI_in (kk F' w' h5 h' h6 (hL.fr h6 h'.size))
/-- A kid is read. -/
theorem kid_ld {w0 w : World} {sa : Option Addr} {q : Fo} {j : Nat} {k a b c d : Int} {q' : Fo} (h : RepF w0 sa 0 q) (hm : Md [] w0 w) (he : q.drop j = .cons k a b c d q' (q.drop (j + 1))) (hj : j < q.len) {K : Int → Int → Int → Int → Int → Option Addr → Nat → Nat → Prop}
    (kk : ∀ sa' sc', q'.len < 2 ^ 63 → RepF w0 sa' 0 q' → K k a b c d sa' q'.len sc') :
    IxOk (j : Int) q.len sa ∧ Ld w ((adAt sa (j : Int) 6).add 0) fun v14 => Ld w ((adAt sa (j : Int) 6).add 1) fun v15 => Ld w ((adAt sa (j : Int) 6).add 2) fun v16 => Ld w ((adAt sa (j : Int) 6).add 3) fun v17 => Ld w ((adAt sa (j : Int) 6).add 4) fun v18 => Ld w ((adAt sa (j : Int) 6).add 5) fun v19 =>
      opI .u8 v14 fun x20 => opI .u64 v15 fun x21 => opI .u64 v16 fun x22 => opI .u64 v17 fun x23 => opI .u64 v18 fun x24 => opL v19 fun a25 n26 n27 => K x20 x21 x22 x23 x24 a25 n26 n27 := by
  have := h.drop q 0 j
  rw [he, Nat.zero_add] at this
  obtain ⟨B, sa', sc', rfl, hc, hql, hq, _⟩ := this.at
  exact ⟨⟨by omega, by omega, rfl⟩, ReC.ld (hc.md hm) (kk sa' sc' hql hq)⟩
theorem f163_step (most : Nat) (hm : most ≤ 20000) (q : Fo) (ih : ∀ q' : Fo, q'.size < q.size → Tow most q') : Tow most q := by
  intro k a b c d sa sc to n l F w0 w hr hql hk34 hgood S
  apply f163_in
  intro n1 hn1 w2 h2 hL2
  have S2 := S.md0 h2
  refine (f165_ok n l most F w2 S2.mr).call hL2 ?_
  rintro v w4 rfl m4
  have S4 := S2.md0 m4
  have m24 := h2.trans m4
  have l1 : n1 < w4.heap.size := by have := hL2 n1 (by simp); have := m4.size; omega
  have hLN : LN [n1] w4 F := fun b hb => by
    simp at hb; subst hb
    exact ⟨l1, fun hm => by have := S.mr.lt _ hm; omega⟩
  refine opB_in <| If_in (fun hb => ?_) fun hb => Bd_e rfl <| Bd_e (y := (q.len : Int) - 1) (by rw [IntKind.wrap_i64]; omega) ?_
  · have hfull : l.length > most := by simpa using hb
    have e : twOne most k a b c d (tw most q) (l, to) = (l, to) := by unfold twOne; rw [if_pos hfull]
    rw [e]
    exact ⟨⟨rfl, F, S4, FrN.refl _ _⟩, m24.mono (by simp)⟩
  have hnf : ¬ l.length > most := by simpa using hb
  have up : ∀ {F' : List Nat} {w' : World} {l' : List Ns}, Tws w0 w' n l' most F' → Md F w4 w' → FrN w4 F F' → (∃ F', Tws w0 w' n l' most F' ∧ FrN w F F') ∧ Md F w w' := fun {F' w' l'} h1 h2 h3 =>
    ⟨⟨F', h1, fun b hb => by rcases h3 b hb with h | h; exact .inl h; have := m24.size; right; omega⟩, Md_frN (m24.mono (by simp)) h2 (FrN.refl _ _)⟩
  refine Jn_in (fun us vs w' => ∃ (x y : Int) (b1 b2 : Bool), us = [.int .i64 x, .int .i64 y, .bool b1, .bool b2] ∧ x = (twOne most k a b c d (tw most q) (l, to)).2 ∧ (∃ F', Tws w0 w' n (twOne most k a b c d (tw most q) (l, to)).1 most F' ∧ FrN w F F') ∧ Md F w w') ?_ ?_
  · rintro us vs w10 ⟨x, y, b1, b2, rfl, rfl, h3, h4⟩
    exact opI_in <| opI_in <| opB_in <| opB_in ⟨⟨rfl, h3⟩, h4⟩
  refine Bd_in fun b16 hb16 => If_in (fun hb => ?_) fun hb1 => ?_
  · have hk : k = 1 := by rw [hb16] at hb; simpa using hb
    have e : twOne most k a b c d (tw most q) (l, to) = pst most l ⟨1, a, b, c, d, to, 0, 0⟩ := by unfold twOne; rw [if_neg hnf, if_pos hk]
    rw [e]
    refine in164 S4 hLN hm 1 a b c d to 0 0 fun F' w18 S18 m18 f18 _ => ?_
    obtain ⟨u1, u2⟩ := up S18 m18 f18
    exact ⟨⟨rfl, u1⟩, u2⟩

  have hk1 : k ≠ 1 := by rw [hb16] at hb1; simpa using hb1
  refine Bd_in fun b20 hb20 => If_in (fun hb => ?_) fun hb2 => ?_
  · have hk : k = 2 := by rw [hb20] at hb; simpa using hb
    have e : twOne most k a b c d (tw most q) (l, to) = (tw most q).cat (l, to) := by unfold twOne; rw [if_neg hnf, if_neg hk1, if_pos hk]
    refine LoopP_in (fun mm us vs w' => ∃ (j : Nat) (x : Int) (l' : List Ns) (F' : List Nat), us = [.int .i64 x, .int .i64 ((j : Int) - 1)] ∧ mm = j ∧ j ≤ q.len ∧ (tw most (q.drop j)).cat (l, to) = (l', x) ∧ Tws w0 w' n l' most F' ∧ Md F w4 w' ∧ FrN w4 F F' ∧ LN [n1] w' F') q.len
      ⟨q.len, to, l, F, rfl, rfl, Nat.le_refl _, by rw [Fo.drop_all q _ (Nat.le_refl _)]; rfl, S4, Md.refl _ _, FrN.refl _ _, hLN⟩ ?_
    rintro mm us vs w24 ⟨j, x, l', F', rfl, hmm, hj, hc, St, m, f, hL⟩
    refine opI_in <| opI_in <| Bd_in fun b27 hb27 => If_in (fun hb => ?_) fun hb => ?_
    · have hj1 : (j : Int) - 1 ≥ 0 := by rw [hb27] at hb; exact of_decide_eq_true hb
      obtain ⟨i, rfl⟩ : ∃ i, j = i + 1 := ⟨j - 1, by omega⟩
      have ei : (((i + 1 : Nat) : Int) - 1) = (i : Int) := by omega
      rw [ei]
      obtain ⟨k', a', b', c', d', q', he, hqs⟩ := Fo.drop_cons q i hj
      have hg := q.gdP_drop i hgood
      rw [he] at hg
      refine kid_ld hr St.md he hj fun sa' sc' hql' hr' => ?_
      refine in163 (ih q' hqs) x hr' hql' hg.1 hg.2.1 St hL fun F2 w43 S43 m43 f43 lf43 => Bd_e (y := (i : Int) - 1) (by rw [IntKind.wrap_i64]; omega) ⟨i, by omega, i, _, _, F2, rfl, rfl, by omega, ?_, S43, Md_frN m m43 f, f.trans f43 m.size, lf43⟩
      rw [he]
      show twOne most k' a' b' c' d' (tw most q') ((tw most (q.drop (i + 1))).cat (l, to)) = _
      rw [hc]
    · have hj1 : ¬ (j : Int) - 1 ≥ 0 := by rw [hb27] at hb; exact of_decide_eq_false hb
      have hj0 : j = 0 := by omega
      subst hj0
      obtain ⟨u1, u2⟩ := up St m f
      have hc' : (tw most q).cat (l, to) = (l', x) := by simpa [Fo.drop] using hc
      rw [e, hc']
      exact ⟨x, 0, b16, b20, rfl, rfl, u1, u2⟩
  have hk2 : k ≠ 2 := by rw [hb20] at hb2; simpa using hb2
  refine Bd_in fun b46 hb46 => If_in (fun hb => ?_) fun hb3 => ?_
  · have hk : k = 3 := by rw [hb46] at hb; simpa using hb
    have e : twOne most k a b c d (tw most q) (l, to) = (((tw most q).alt to l).1, ((tw most q).alt to l).2.getD 0) := by unfold twOne; rw [if_neg hnf, if_neg hk1, if_neg hk2, if_pos hk]
    have hl1 := hk34 (.inl hk)
    obtain ⟨j0, hj0⟩ : ∃ j0, q.len = j0 + 1 := ⟨q.len - 1, by omega⟩
    have ei : (q.len : Int) - 1 = (j0 : Int) := by omega
    rw [ei]
    obtain ⟨k', a', b', c', d', q', he, hqs⟩ := Fo.drop_cons q j0 (by omega)
    have hg := q.gdP_drop j0 hgood
    rw [he] at hg
    refine kid_ld hr S4.md he (by omega) fun sa' sc' hql' hr' => ?_
    refine in163 (ih q' hqs) to hr' hql' hg.1 hg.2.1 S4 hLN fun F1 w62 S62 m62 f62 lf62 => Bd_e (y := (j0 : Int) - 1) (by rw [IntKind.wrap_i64]; omega) ?_
    refine LoopP_in (fun mm us vs w' => ∃ (j : Nat) (x : Int) (l' : List Ns) (F' : List Nat), us = [.int .i64 x, .int .i64 ((j : Int) - 1)] ∧ mm = j ∧ j ≤ j0 ∧ (tw most (q.drop j)).alt to l = (l', some x) ∧ Tws w0 w' n l' most F' ∧ Md F w4 w' ∧ FrN w4 F F' ∧ LN [n1] w' F') j0
      ⟨j0, _, _, F1, rfl, rfl, Nat.le_refl _, by rw [he, Fo.drop_all q _ (by omega)]; rfl, S62, m62, f62, lf62⟩ ?_
    rintro mm us vs w24 ⟨j, x, l', F', rfl, hmm, hj, hc, St, m, f, hL⟩
    refine opI_in <| opI_in <| Bd_in fun b27 hb27 => If_in (fun hb => ?_) fun hb => ?_
    · have hj1 : (j : Int) - 1 ≥ 0 := by rw [hb27] at hb; exact of_decide_eq_true hb
      obtain ⟨i, rfl⟩ : ∃ i, j = i + 1 := ⟨j - 1, by omega⟩
      have ei : (((i + 1 : Nat) : Int) - 1) = (i : Int) := by omega
      rw [ei]
      obtain ⟨k2, a2, b2, c2, d2, q2, he2, hqs2⟩ := Fo.drop_cons q i (by omega)
      have hg2 := q.gdP_drop i hgood
      rw [he2] at hg2
      refine kid_ld hr St.md he2 (by omega) fun sa' sc' hql' hr' => ?_
      refine in163 (ih q2 hqs2) to hr' hql' hg2.1 hg2.2.1 St hL fun F2 w43 S43 m43 f43 lf43 => ?_
      refine in164 S43 lf43 hm 2 0 0 0 0 _ x 0 fun F3 w44 S44 m44 f44 lf44 => Bd_e (y := (i : Int) - 1) (by rw [IntKind.wrap_i64]; omega) ⟨i, by omega, i, _, _, F3, rfl, rfl, by omega, ?_, S44, Md_frN (Md_frN m m43 f) m44 (f.trans f43 m.size), (f.trans f43 m.size).trans f44 (by have := m.size; have := m43.size; omega), lf44⟩
      rw [he2]
      show twAlt most (twOne most k2 a2 b2 c2 d2 (tw most q2)) (tw most (q.drop (i + 1))) to l = _
      unfold twAlt
      simp only [hc]
      rfl
    · have hj1 : ¬ (j : Int) - 1 ≥ 0 := by rw [hb27] at hb; exact of_decide_eq_false hb
      have hj0 : j = 0 := by omega
      subst hj0
      obtain ⟨u1, u2⟩ := up St m f
      have hc' : (tw most q).alt to l = (l', some x) := by simpa [Fo.drop] using hc
      rw [e, hc']
      exact ⟨⟨rfl, u1⟩, u2⟩
  have hk3 : k ≠ 3 := by rw [hb46] at hb3; simpa using hb3
  refine Bd_in fun b93 hb93 => If_in (fun hb => ?_) fun hb4 => ?_
  case refine_2 =>
    have hk4 : k ≠ 4 := by rw [hb93] at hb4; simpa using hb4
    have e : twOne most k a b c d (tw most q) (l, to) = (l, to) := by unfold twOne; rw [if_neg hnf, if_neg hk1, if_neg hk2, if_neg hk3, if_neg hk4]
    obtain ⟨u1, u2⟩ := up S4 (Md.refl _ _) (FrN.refl _ _)
    rw [e]
    exact ⟨to, 0, b16, b20, rfl, rfl, u1, u2⟩
  have hk : k = 4 := by rw [hb93] at hb; simpa using hb
  have e : twOne most k a b c d (tw most q) (l, to) = (setA ((tw most q).one (pst most l (spl 0 to))).1 (pst most l (spl 0 to)).2 ((tw most q).one (pst most l (spl 0 to))).2, (pst most l (spl 0 to)).2) := by unfold twOne; rw [if_neg hnf, if_neg hk1, if_neg hk2, if_neg hk3, if_pos hk]
  have hl1 := hk34 (.inr hk)
  obtain ⟨k', a', b', c', d', q', he, hqs⟩ := Fo.drop_cons q 0 (by omega)
  have he0 : q = .cons k' a' b' c' d' q' (q.drop 1) := by have := he; simpa [Fo.drop] using this
  have hg := hgood
  rw [he0] at hg
  refine in164 S4 hLN hm 2 0 0 0 0 0 to 0 fun F1 w95 S95 m95 f95 lf95 => kid_ld (j := 0) hr S95.md he (by omega) fun sa' sc' hql' hr' => ?_
  refine in163 (ih q' hqs) _ hr' hql' hg.1 hg.2.1 S95 lf95 fun F2 w112 S112 m112 f112 lf112 => ?_
  have eone : (tw most q).one = twOne most k' a' b' c' d' (tw most q') := by rw [he0]; rfl
  have hlp := (tw_len most q).2.2 (pst most l (spl 0 to)) S95.len
  rw [eone] at e hlp
  have hp1 : 1 ≤ (pst most l (spl 0 to)).1.length := by show 1 ≤ (mst most l _).length; unfold mst; split <;> (try simp) <;> omega
  have hp2 : (pst most l (spl 0 to)).2 = ((pst most l (spl 0 to)).1.length : Int) - 1 := rfl
  change Tws w0 w112 n (twOne most k' a' b' c' d' (tw most q') (pst most l (spl 0 to))).1 most F2 at S112
  rw [e]
  refine NN_in <| star_put (K := fun w' => (Value.int .i64 (pst most l (spl 0 to)).2 = .int .i64 (pst most l (spl 0 to)).2 ∧ ∃ F', Tws w0 w' n (setA (twOne most k' a' b' c' d' (tw most q') (pst most l (spl 0 to))).1 (pst most l (spl 0 to)).2 (twOne most k' a' b' c' d' (tw most q') (pst most l (spl 0 to))).2) most F' ∧ FrN w F F') ∧ Md F w w') S112 (pst most l (spl 0 to)).2 ((pst most l (spl 0 to)).1.length - 1) (by omega) (by omega) _ (lf112 n1 (by simp)).2 fun w' S' m' => ?_
  have mm := Md_frN (Md_frN m95 m112 f95) m' ((f95.trans f112 m95.size))
  obtain ⟨u1, u2⟩ := up S' mm (f95.trans f112 m95.size)
  exact ⟨⟨rfl, u1⟩, u2⟩
theorem tow_ok (most : Nat) (hm : most ≤ 20000) : ∀ (s : Nat) (q : Fo), q.size < s → Tow most q
  | 0, q, h => by omega
  | s + 1, q, h => f163_step most hm q fun q' h' => tow_ok most hm s q' (by omega)
end Fk
set_option linter.unusedVariables false
set_option linter.unusedSimpArgs false
set_option maxRecDepth 100000
namespace Fk
open Go Go.Proofs Go.RowKit
theorem good_of_right : ∀ f : Fo, f.right = true → f.gdP
  | .nil, _ => trivial
  | .cons k a b c d q r, h => by
    simp only [Fo.right, Bool.and_eq_true] at h
    refine ⟨fun hk => ?_, good_of_right q h.1.2, good_of_right r h.2⟩
    have h1 := h.1.1
    unfold nodeOk at h1
    rcases hk with rfl | rfl <;> simp at h1 <;> omega
/-- The trees of a row, one behind the other: an end, what the tree makes, and where it begins. -/
def bldF (most : Nat) : Fo → Int → List Ns → List Int → List Ns × List Int
  | .nil, _, l, bs => (l, bs)
  | .cons k a b c d q r, i, l, bs =>
    let s := pst most l ⟨0, 0, 0, 0, 0, 0, 0, i⟩
    let t := twOne most k a b c d (tw most q) s
    bldF most r (i + 1) t.1 (bs ++ [t.2])
/-- The beginnings, joined from the last one on. -/
def joinB (most : Nat) : List Int → List Ns → List Ns × Int
  | [], l => (l, 0)
  | b :: bs, l => match bs with
    | [] => (l, b)
    | _ :: _ => pst most (joinB most bs l).1 (spl b (joinB most bs l).2)
def bld (f : Fo) (most : Int) : (Int × List Ns) × Int :=
  if 1 ≤ f.len ∧ f.len ≤ 200 ∧ 1 ≤ most ∧ most ≤ 20000 ∧ f.right = true then
    let t := bldF most.toNat f 0 [] []
    let j := joinB most.toNat t.2 t.1
    if (j.1.length : Int) > most then ((0, []), 40) else ((j.2, j.1), 0)
  else ((0, []), 2)
end Fk
set_option linter.unusedVariables false
set_option linter.unusedSimpArgs false
set_option maxRecDepth 100000
set_option maxHeartbeats 2000000
namespace Fk
open Go Go.Proofs Go.RowKit
theorem OwnL.up {α : Type} {w : World} {base b : Nat} {e : TypeId} {size : Nat} {enc : α → List Value} {a : Option Addr} {c : Nat} {l : List α} (h : OwnL w base e size enc a c l) (hb : ∀ A, a = some A → b ≤ A.block) : OwnL w b e size enc a c l := by
  refine ⟨h.1, ?_⟩
  rcases h.2 with hn | ⟨g, cap, cur, hv, hb', rest⟩
  · exact .inl hn
  · refine .inr ⟨g, cap, cur, hv, ?_, rest⟩
    simp only [Value.slice.injEq] at hv
    exact hb _ hv.1
theorem right_take : ∀ (f : Fo) (j : Nat), f.right = true → (f.drop j).right = true
  | f, 0, h => by simpa [Fo.drop] using h
  | .nil, j + 1, h => rfl
  | .cons _ _ _ _ _ _ r, j + 1, h => by
    simp only [Fo.right, Bool.and_eq_true] at h
    exact right_take r j h.2
theorem right_pre {f : Fo} {j : Nat} {k a b c d : Int} {q : Fo} (he : f.drop j = .cons k a b c d q (f.drop (j + 1))) (h : f.right = true) : nodeOk k (z4 a b c d) q.len = true ∧ q.right = true := by
  have := right_take f j h
  rw [he] at this
  simp only [Fo.right, Bool.and_eq_true] at this
  exact this.1
theorem right_at : ∀ (f : Fo), (∀ j k a b c d q, j < f.len → f.drop j = .cons k a b c d q (f.drop (j + 1)) → nodeOk k (z4 a b c d) q.len = true ∧ q.right = true) → f.right = true
  | .nil, _ => rfl
  | .cons k a b c d q r, h => by
    have h0 := h 0 k a b c d q (by simp [Fo.len]) (by simp only [Fo.drop])
    have hr := right_at r fun j k' a' b' c' d' q' hj he => h (j + 1) k' a' b' c' d' q' (by simp only [Fo.len]; omega) (by simp only [Fo.drop]; exact he)
    simp only [Fo.right, Bool.and_eq_true]
    exact ⟨⟨h0.1, h0.2⟩, hr⟩
/-- All trees are asked, as long as they are right. -/
def firstR (f : Fo) (i : Nat) : Prop := ∀ j k a b c d q, j < i → f.drop j = .cons k a b c d q (f.drop (j + 1)) → nodeOk k (z4 a b c d) q.len = true ∧ q.right = true
end Fk
set_option linter.unusedVariables false
set_option linter.unusedSimpArgs false
set_option maxRecDepth 100000
set_option maxHeartbeats 2000000
namespace Fk
open Go Go.Proofs Go.RowKit
theorem Nw_i {o : Obj} {w : World} {K : Nat → World → Prop} (k : K w.heap.size (w.alloc o)) : Nw o w K := fun _ _ e1 e2 => by subst e1; subst e2; exact k
theorem f66_ok (f : Fo) (A : Option Addr) (C : Nat) (most : Int) (w : World) (hr : RepF w A 0 f) (hl : f.len < 2 ^ 63) :
    Ct Try.prog 66 #[.slice A f.len C, .int .i64 most] w fun v w' => (∃ a c, v = .tuple #[.agg #[.int .i64 (bld f most).1.1, .slice a (bld f most).1.2.length c], .int .i64 (bld f most).2] ∧ OwnL w' w.heap.size 103 8 nsE a c (bld f most).1.2) ∧ Md [] w w' := by
  apply f66_in
  intro n1 hn1
  refine Bd_e rfl <| Bd_in fun b3 hb3 => Bd_e rfl <| Bd_in fun b5 hb5 => Bd_in fun b6 hb6 => Bd_in fun b7 hb7 => Bd_in fun b8 hb8 => Bd_in fun b9 hb9 => Bd_in fun b10 hb10 w11 h11 hL11 => ?_
  have e10 : b10 = decide (1 ≤ f.len ∧ f.len ≤ 200 ∧ 1 ≤ most ∧ most ≤ 20000) := by
    rw [hb10, hb8, hb9, hb6, hb7, hb3, hb5]
    by_cases c1 : 1 ≤ f.len <;> by_cases c2 : f.len ≤ 200 <;> by_cases c3 : 1 ≤ most <;> by_cases c4 : most ≤ 20000 <;> simp [c1, c2, c3, c4] <;> omega
  refine LoopP_in (fun mm us vs w' => ∃ (i : Nat) (b : Bool), us = [.bool b, .int .i64 i] ∧ mm = f.len - i ∧ i ≤ f.len ∧ Md [] w w' ∧ n1 < w'.heap.size ∧ (b = true → b10 = true ∧ firstR f i) ∧ (b = false → b10 = false ∨ f.right = false)) f.len ⟨0, b10, rfl, rfl, by omega, h11, hL11 n1 (by simp), fun h => ⟨h, fun j _ _ _ _ _ _ hj => by omega⟩, fun h => .inl h⟩ ?_
  rintro mm us vs w15 ⟨i, b, rfl, hmm, hi, hmd, hn, hT, hFl⟩
  refine opB_in <| opI_in <| Bd_e rfl <| Bd_in fun b19 hb19 => Bd_in fun b20 hb20 => If_in (fun hb => ?_) fun hb => Bd_in fun b39 hb39 => If_in (fun hno w40 h40 hL40 => ?_) fun hyes => ?_
  · have hbt : i < f.len ∧ b = true := by
      rw [hb20, hb19] at hb
      by_cases c : i < f.len
      · simp [c] at hb; exact ⟨c, hb⟩
      · simp [c] at hb
    obtain ⟨k, a, b', c, d, q, he, hqs⟩ := Fo.drop_cons f i hbt.1
    refine kid_ld hr hmd he hbt.1 fun sa' sc' hql' hr' => ?_
    refine (f144_ok q.size q k a b' c d sa' sc' w15 (Nat.le_refl _) (hr'.md hmd) hql').call (by simpa using hn) ?_
    rintro v w36 rfl m36
    obtain ⟨g1, g2⟩ := hT hbt.2
    refine opB_in <| Bd_e (y := ((i + 1 : Nat) : Int)) (by rw [IntKind.wrap_i64]; omega) ⟨f.len - (i + 1), by omega, i + 1, _, rfl, rfl, by omega, hmd.trans m36, by have := m36.size; omega, fun h => ⟨g1, fun j k' a' b'' c' d' q' hj he' => ?_⟩, fun h => .inr ?_⟩
    · by_cases hji : j < i
      · exact g2 j _ _ _ _ _ _ hji he'
      · have : j = i := by omega
        subst this
        rw [he] at he'
        injection he' with e1 e2 e3 e4 e5 e6
        subst e1; subst e2; subst e3; subst e4; subst e5; subst e6
        simpa using h
    · by_cases hfr : f.right = true
      · have := right_pre he hfr
        rw [this.1, this.2] at h
        simp at h
      · simpa using hfr
  · have hbf : b = false := by rw [hb39] at hno; simpa using hno
    have m40 : Md [] w w40 := hmd.old h40 (by simp; exact hn1)
    have e : bld f most = ((0, []), 2) := by
      unfold bld
      rw [if_neg]
      rintro ⟨h1, h2, h3, h4, h5⟩
      rcases hFl hbf with h | h
      · rw [e10, decide_eq_true ⟨h1, h2, h3, h4⟩] at h; cases h
      · rw [h5] at h; cases h
    rw [e]
    exact ⟨⟨none, 0, rfl, OwnL.nil _ _ _ _ _⟩, m40⟩
  have hbt : b = true := by rw [hb39] at hyes; simpa using hyes
  have hif : i = f.len := by
    rw [hb20, hb19, hbt] at hb
    have : ¬ (i : Int) < (f.len : Int) := by simpa using hb
    omega
  subst hif
  obtain ⟨g1, g2⟩ := hT hbt
  have hright : f.right = true := right_at f fun j k a b c d q hj he => g2 j k a b c d q hj he
  have hcond : 1 ≤ f.len ∧ f.len ≤ 200 ∧ 1 ≤ most ∧ most ≤ 20000 := by rw [g1] at e10; exact of_decide_eq_true e10.symm
  obtain ⟨mo, rfl⟩ := Int.eq_ofNat_of_zero_le (show 0 ≤ most by omega)
  have hgood := good_of_right f hright
  intro n41 w42 e41 e42
  subst e41; subst e42
  have ma : Md [] w15 (w15.alloc (.cells #[.slice none 0 0, .int .i64 mo] 214)) := Md.alloc w15 _
  have b42 : Blk (w15.alloc (.cells #[.slice none 0 0, .int .i64 mo] 214)) w15.heap.size 214 [.slice none 0 0, .int .i64 mo] := Blk.new w15 _ 214
  have T42 : Tws w (w15.alloc (.cells #[.slice none 0 0, .int .i64 mo] 214)) w15.heap.size [] mo (fpM w15.heap.size none) := ⟨⟨none, 0, ⟨b42, OwnL.nil _ _ _ _ _, fun A hA => by cases hA⟩, rfl⟩, hmd.trans ma, (fun b hb => by
    rw [mem_fpM] at hb
    rcases hb with rfl | ⟨A, hA, _⟩
    · exact hmd.size
    · cases hA), Nat.zero_le _⟩
  have hn42 : n1 < (w15.alloc (.cells #[.slice none 0 0, .int .i64 mo] 214)).heap.size := by have := ma.size; omega
  have hn1n : LN [n1] (w15.alloc (.cells #[.slice none 0 0, .int .i64 mo] 214)) (fpM w15.heap.size none) := fun b hb => by
    simp at hb; subst hb
    refine ⟨hn42, fun hm => ?_⟩
    rw [mem_fpM] at hm
    rcases hm with h | ⟨A, hA, _⟩
    · omega
    · cases hA
  refine Bd_e rfl ?_
  generalize w15.alloc (.cells #[.slice none 0 0, .int .i64 mo] 214) = w42 at *
  generalize hF0 : fpM w15.heap.size none = F0 at *
  generalize w15.heap.size = n41 at *
  refine LoopP_in (fun mm us vs w' => ∃ (i : Nat) (a : Option Addr) (c : Nat) (l : List Ns) (bs : List Int) (F : List Nat), us = [.slice a bs.length c, .int .i64 i] ∧ mm = f.len - i ∧ i ≤ f.len ∧ bldF mo (f.drop i) i l bs = bldF mo f 0 [] [] ∧ Tws w w' n41 l mo F ∧ OwnL w' w.heap.size 3 1 i1 a c bs ∧ (∀ A, a = some A → A.block ∉ F) ∧ bs.length = i ∧ LN [n1] w' F ∧ (∀ A, a = some A → A.block ≠ n1)) f.len
    ⟨0, none, 0, [], [], F0, rfl, rfl, by omega, by simp [Fo.drop], T42, OwnL.nil _ _ _ _ _, (fun A hA => by cases hA), rfl, hn1n, fun A hA => by cases hA⟩ ?_
  rintro mm us vs w47 ⟨i, a, c, l, bs, F, rfl, hmm, hi, hbl, T, ho, haF, hbs, hL, ha1⟩
  refine opL_in <| opI_in <| Bd_in fun b52 hb52 => If_in (fun hb => ?_) fun hb => ?_
  · have hi' : i < f.len := by rw [hb52] at hb; have : (i : Int) < (f.len : Int) := by simpa using hb
                               omega
    obtain ⟨k, a1, b1', c1, d1, q, he, hqs⟩ := Fo.drop_cons f i hi'
    have hg := f.gdP_drop i hgood
    rw [he] at hg
    refine kid_ld hr T.md he hi' fun sa' sc' hql' hr' n67 hn67 w68 h68 hL68 => ?_
    have m68 : Md [] w47 w68 := h68.fresh (by simp; exact hn67)
    have T68 := (T.md0 m68).md0 (Md_drew w68)
    have L68 : LN [n67, n1] w68.drew F := fun b hb => by
      refine ⟨hL68 b hb, fun hm => ?_⟩
      simp at hb
      rcases hb with rfl | rfl
      · have := T.mr.lt _ hm; omega
      · exact (hL _ (by simp)).2 hm
    refine ⟨fun _ => True, trivial, in164 T68 L68 (by omega) 0 0 0 0 0 0 0 i fun F1 w71 T71 m71 f71 L71 => ⟨trivial, in163 (tow_ok mo (by omega) (q.size + 1) q (by omega)) _ hr' hql' hg.1 hg.2.1 T71 L71 fun F2 w74 T74 m74 f74 L74 => ⟨trivial, Nw_i ⟨trivial, ?_⟩⟩⟩⟩
    have mF : Md F w47 w74 := Md_frN (Md_frN (m68.trans (Md_drew w68) |>.mono (by simp)) m71 (FrN.refl _ _)) m74 (fun b hb => by
      rcases f71 b hb with h | h
      · exact .inl h
      · right; have := m68.size; have h2 : w68.drew.heap.size = w68.heap.size := rfl; omega)
    have ho74 : OwnL w74 w.heap.size 3 1 i1 a c bs := ho.mdD mF haF
    generalize hx75 : (twOne mo k a1 b1' c1 d1 (tw mo q) (_, _)).2 = x75
    have ma74 : Md [] w74 (w74.alloc (.cells #[.int .i64 x75] 3)) := Md.alloc w74 _
    have ol := OwnL.lit (P := Try.prog) (base := w74.heap.size) enci1 w74 3 [x75] #[.int .i64 x75] (Nat.le_refl _) (by simp [maxLen]) rfl
    have s1 := m68.size
    have s2 : w68.drew.heap.size = w68.heap.size := rfl
    have s3 := m71.size
    have s4 := m74.size
    have s5 := ma74.size
    have s0 := T.md.size
    have haF2 : ∀ A, a = some A → A.block ∉ F2 := fun A hA hm => by
      have hlt := (ho.lt hA).2
      rcases f74 _ hm with h | h
      · rcases f71 _ h with h | h
        · exact haF A hA h
        · omega
      · omega
    have hsp : ∀ A, a = some A → A.block ≠ n67 := fun A hA => by have := (ho.lt hA).2; omega
    refine app_own rowT52 enci1 (ho74.md ma74) ol (by omega) (fun b hb => by have := (L74 b hb).1; omega) (fun b hb A hA => by
      simp at hb
      rcases hb with rfl | rfl
      · exact hsp A hA
      · exact ha1 A hA) (by simp [maxLen]; omega) (by simp; omega) fun a' c' w79 o79 m79 hA' => opL_in ⟨trivial, Bd_e (inc_i64 (by omega)) ?_⟩
    have mT : Md [] w w74 := T74.md
    have T79 : Tws w w79 n41 _ mo F2 := ⟨(T74.md0 ma74).mr.md m79 (fun b hb hm => by
      cases a with
      | none => simp at hm
      | some A => simp at hm; exact haF2 A rfl (hm ▸ hb)), (T74.md0 ma74).md.old m79 (fun d hd => by
      cases a with
      | none => simp at hd
      | some A => simp at hd; rw [hd]; exact (ho.lt rfl).1), T74.lo, T74.len⟩
    have s6 := m79.size
    refine ⟨f.len - (i + 1), by omega, i + 1, a', c', _, bs ++ [x75], F2, rfl, rfl, by omega, ?_, T79, o79, fun A hA hm => ?_, by simp; omega, fun b hb => ?_, fun A hA e => ?_⟩
    · rw [he] at hbl
      rw [← hbl, ← hx75]
      rfl
    · rcases hA' A hA with h | h
      · exact haF2 A h hm
      · have := T74.mr.lt _ hm; omega
    · have := L74 b (by simp at hb ⊢; exact .inr hb)
      exact ⟨by omega, this.2⟩
    · rcases hA' A hA with h | h
      · exact ha1 A h e
      · have := (L74 n1 (by simp)).1; omega
  have hif : i = f.len := by
    have : ¬ (i : Int) < (f.len : Int) := by rw [hb52] at hb; exact of_decide_eq_false hb
    omega
  subst hif
  rw [Fo.drop_all f _ (Nat.le_refl _)] at hbl
  change (l, bs) = _ at hbl
  obtain ⟨j0, hj0⟩ : ∃ j0, f.len = j0 + 1 := ⟨f.len - 1, by omega⟩
  refine Bd_e rfl <| Bd_e (y := (j0 : Int)) (by rw [IntKind.wrap_i64]; omega) ⟨(ho.row enci1).ix (by omega), (ho.row enci1).ld1 (by omega) rfl <| opI_in <| Bd_e rfl <| Bd_e (y := (j0 : Int) - 1) (by rw [IntKind.wrap_i64]; omega) ?_⟩
  have e0 : joinB mo (bs.drop j0) l = (l, bs[j0]'(by omega)) := by
    rw [List.drop_eq_getElem_cons (by omega), List.drop_of_length_le (by omega)]
    rfl
  refine LoopP_in (fun mm us vs w' => ∃ (j : Nat) (x : Int) (l' : List Ns) (F' : List Nat), us = [.int .i64 x, .int .i64 ((j : Int) - 1)] ∧ mm = j ∧ j ≤ j0 ∧ joinB mo (bs.drop j) l = (l', x) ∧ Tws w w' n41 l' mo F' ∧ Md F w47 w' ∧ FrN w47 F F' ∧ LN [n1] w' F') j0
    ⟨j0, _, _, F, rfl, rfl, Nat.le_refl _, e0, T, Md.refl _ _, FrN.refl _ _, hL⟩ ?_
  rintro mm us vs w93 ⟨j, x, l', F', rfl, hmm, hj, hc, St, m, fr, hL'⟩
  refine opI_in <| opI_in <| Bd_in fun b96 hb96 => If_in (fun hb => ?_) fun hb => ?_
  · have hj1 : (j : Int) - 1 ≥ 0 := by rw [hb96] at hb; exact of_decide_eq_true hb
    obtain ⟨i, rfl⟩ : ∃ i, j = i + 1 := ⟨j - 1, by omega⟩
    have ei : (((i + 1 : Nat) : Int) - 1) = (i : Int) := by omega
    rw [ei]
    have ho' : OwnL w93 w.heap.size 3 1 i1 a c bs := ho.mdD m haF
    refine ⟨(ho'.row enci1).ix (by omega), (ho'.row enci1).ld1 (by omega) rfl <| opI_in ?_⟩
    refine in164 St hL' (by omega) 2 0 0 0 0 _ x 0 fun F3 w44 S44 m44 f44 lf44 => Bd_e (y := (i : Int) - 1) (by rw [IntKind.wrap_i64]; omega) ⟨i, by omega, i, _, _, F3, rfl, rfl, by omega, ?_, S44, Md_frN m m44 fr, fr.trans f44 m.size, lf44⟩
    rw [List.drop_eq_getElem_cons (by omega : i < bs.length)]
    obtain ⟨y, ys, hys⟩ : ∃ y ys, bs.drop (i + 1) = y :: ys := ⟨_, _, List.drop_eq_getElem_cons (by omega)⟩
    rw [hys] at hc ⊢
    show pst mo (joinB mo (y :: ys) l).1 (spl _ (joinB mo (y :: ys) l).2) = _
    rw [hc]
    rfl
  have hj1 : ¬ (j : Int) - 1 ≥ 0 := by rw [hb96] at hb; exact of_decide_eq_false hb
  have hjz : j = 0 := by omega
  subst hjz
  have hc' : joinB mo bs l = (l', x) := by simpa using hc
  have eb : bld f mo = if (l'.length : Int) > mo then ((0, []), 40) else ((x, l'), 0) := by
    unfold bld
    rw [if_pos ⟨hcond.1, hcond.2.1, hcond.2.2.1, hcond.2.2.2, hright⟩]
    simp only [Int.toNat_natCast, ← hbl, hc']
  refine (f165_ok n41 l' mo F' w93 St.mr).call (fun b hb => (hL' b hb).1) ?_
  rintro v w104 rfl m104
  have hn104 : n1 < w104.heap.size := by have := (hL' n1 (by simp)).1; have := m104.size; omega
  have mw : Md [] w w104 := St.md.trans m104
  refine opB_in <| If_in (fun hb w106 h106 hL106 => ?_) fun hb => NN_in ?_
  · have : l'.length > mo := by simpa using hb
    rw [eb, if_pos (by omega)]
    exact ⟨⟨none, 0, rfl, OwnL.nil _ _ _ _ _⟩, mw.old h106 (by simp; exact hn1)⟩
  · have hle : ¬ (l'.length : Int) > mo := by
      have : ¬ l'.length > mo := by simpa using hb
      omega
    rw [eb, if_neg hle]
    obtain ⟨a', c', hk, hF⟩ := St.mr.md0 m104
    refine hk.blk.ld' rfl <| opL_in fun w112 h112 hL112 => ?_
    refine ⟨⟨a', c', rfl, (hk.own.mdD h112 (fun A hA => by simp; have h1 := (hL' n1 (by simp)).2; intro e; exact h1 (by rw [hF, mem_fpM]; exact .inr ⟨A, hA, e⟩))).up fun A hA => St.lo _ (by rw [hF, mem_fpM]; exact .inr ⟨A, hA, rfl⟩)⟩, mw.old h112 (by simp; exact hn1)⟩
end Fk
set_option linter.unusedVariables false
set_option linter.unusedSimpArgs false
namespace Fk
open Go Go.Proofs Go.RowKit
def Ns.q (x : Ns) : Q4 := (x.s1, x.s2, x.s3, x.s4)
def On (N : List Bool) (i : Nat) : Prop := N[i]? = some true
instance (N : List Bool) (i : Nat) : Decidable (On N i) := by unfold On; infer_instance
/-- The states of a stack are come to, and what they come to without a byte. -/
def comeF (l : List Ns) : Nat → List Int → List Bool → List Bool
  | 0, _, N => N
  | m + 1, st, N => match st with
    | [] => N
    | x :: r => if On N x.toNat then comeF l m r N
      else comeF l m (match l[x.toNat]? with
        | some s => if s.k = 2 then s.b :: s.a :: r else r
        | none => r) (N.set x.toNat true)
def come (l : List Ns) (x : Int) (N : List Bool) : List Bool := comeF l (2 * l.length + 1) [x] N
/-- By a byte. -/
def stepF (l : List Ns) (b : Nat) : List Bool → List Ns → List Bool → List Bool
  | h :: hs, x :: xs, N => stepF l b hs xs (if h = true ∧ x.k = 1 ∧ inQ x.q b = true then come l x.a N else N)
  | _, _, N => N
def tagF : List Bool → List Ns → Int → Int
  | h :: hs, x :: xs, t => tagF hs xs (if h = true ∧ x.k = 0 ∧ (t < 0 ∨ x.t < t) then x.t else t)
  | _, _, t => t
def offs (n : Nat) : List Bool := List.replicate n false
/-- What some states come to without a byte. -/
inductive Rch (l : List Ns) (S : Nat → Prop) : Nat → Prop
  | base {i : Nat} : S i → Rch l S i
  | a {i : Nat} {x : Ns} : Rch l S i → l[i]? = some x → x.k = 2 → Rch l S x.a.toNat
  | b {i : Nat} {x : Ns} : Rch l S i → l[i]? = some x → x.k = 2 → Rch l S x.b.toNat
theorem Rch.sub {l : List Ns} {S T : Nat → Prop} (h : ∀ i, S i → Rch l T i) {i : Nat} (hi : Rch l S i) : Rch l T i := by
  induction hi with
  | base hs => exact h _ hs
  | a _ h1 h2 ih => exact .a ih h1 h2
  | b _ h1 h2 ih => exact .b ih h1 h2
theorem Rch.mono {l : List Ns} {S T : Nat → Prop} (h : ∀ i, S i → T i) {i : Nat} (hi : Rch l S i) : Rch l T i := hi.sub fun i hs => .base (h i hs)
def OkL (l : List Ns) : Prop := ∀ x ∈ l, 0 ≤ x.a ∧ x.a < l.length ∧ 0 ≤ x.b ∧ x.b < l.length
theorem okL_of_right {st : Int} {l : List Ns} (h : nfRight st l = true) : OkL l ∧ 0 ≤ st ∧ st < l.length ∧ l.length ≤ 20000 ∧ ∀ x ∈ l, okNs l.length x := by
  unfold nfRight at h
  rw [Bool.and_eq_true, decide_eq_true_eq, List.all_eq_true] at h
  refine ⟨fun x hx => ?_, h.1.1, h.1.2.1, h.1.2.2, fun x hx => of_decide_eq_true (h.2 x hx)⟩
  have := of_decide_eq_true (h.2 x hx)
  unfold okNs at this
  omega
theorem On.lt {N : List Bool} {i : Nat} (h : On N i) : i < N.length := by
  unfold On at h
  exact (List.getElem?_eq_some_iff.1 h).1
theorem On_set {N : List Bool} {i j : Nat} (hi : i < N.length) : On (N.set i true) j ↔ On N j ∨ j = i := by
  unfold On
  rw [List.getElem?_set]
  by_cases c : i = j
  · subst c; simp [hi]
  · simp [c]
    exact fun h => absurd h.symm c
def ofc (N : List Bool) : Nat := N.count false
theorem ofc_set {N : List Bool} {i : Nat} (hi : i < N.length) (hn : ¬ On N i) : ofc N = ofc (N.set i true) + 1 := by
  unfold ofc
  have e : N[i] = false := by
    unfold On at hn
    rw [List.getElem?_eq_getElem hi] at hn
    simpa using hn
  rw [List.count_set hi]
  have : 0 < N.count false := List.count_pos_iff.2 (e ▸ List.getElem_mem hi)
  simp [e]; omega
structure CoF (l : List Ns) (st : List Int) (N N' : List Bool) : Prop where
  len : N'.length = l.length
  up : ∀ i, On N i → On N' i
  has : ∀ x ∈ st, On N' x.toNat
  fr : ∀ i, On N' i → On N i ∨ Rch l (fun j => ∃ x ∈ st, x.toNat = j) i
  cl : ∀ i x, On N' i → l[i]? = some x → x.k = 2 → On N i ∨ (On N' x.a.toNat ∧ On N' x.b.toNat)
theorem comeF_ok (l : List Ns) (hl : OkL l) : ∀ (m : Nat) (st : List Int) (N : List Bool), N.length = l.length → (∀ x ∈ st, 0 ≤ x ∧ x < l.length) → 2 * ofc N + st.length ≤ m → CoF l st N (comeF l m st N)
  | 0, st, N, hN, hst, hm => by
    have : st = [] := List.eq_nil_of_length_eq_zero (by omega)
    subst this
    exact ⟨hN, fun _ h => h, by simp, fun _ h => .inl h, fun _ _ h _ _ => .inl h⟩
  | m + 1, [], N, hN, hst, hm => ⟨hN, fun _ h => h, by simp, fun _ h => .inl h, fun _ _ h _ _ => .inl h⟩
  | m + 1, x :: r, N, hN, hst, hm => by
    have hx := hst x (by simp)
    have hr : ∀ y ∈ r, 0 ≤ y ∧ y < l.length := fun y hy => hst y (by simp [hy])
    have hxl : x.toNat < l.length := by omega
    simp only [List.length_cons] at hm
    unfold comeF
    simp only
    split
    · rename_i hon
      have I := comeF_ok l hl m r N hN hr (by omega)
      exact ⟨I.len, I.up, fun y hy => by
        rcases List.mem_cons.1 hy with rfl | hy
        · exact I.up _ hon
        · exact I.has y hy, fun i hi => by
        rcases I.fr i hi with h | h
        · exact .inl h
        · exact .inr (h.mono fun j ⟨y, hy, e⟩ => ⟨y, by simp [hy], e⟩), I.cl⟩
    · rename_i hon
      have hf := ofc_set (N := N) (by omega) hon
      have hs : l[x.toNat]? = some l[x.toNat] := List.getElem?_eq_getElem hxl
      have hmem := hl _ (List.getElem_mem hxl)
      generalize l[x.toNat] = s at hs hmem
      rw [hs]
      simp only
      have hset : ∀ {j}, On (N.set x.toNat true) j ↔ On N j ∨ j = x.toNat := fun {j} => On_set (by omega)
      by_cases hk : s.k = 2
      · rw [if_pos hk]
        have I := comeF_ok l hl m (s.b :: s.a :: r) (N.set x.toNat true) (by simp [hN]) (fun y hy => by
          simp at hy
          rcases hy with rfl | rfl | hy
          · exact ⟨hmem.2.2.1, hmem.2.2.2⟩
          · exact ⟨hmem.1, hmem.2.1⟩
          · exact hr y hy) (by simp; omega)
        have hbase : Rch l (fun j => ∃ y ∈ x :: r, y.toNat = j) x.toNat := .base ⟨x, by simp, rfl⟩
        refine ⟨I.len, fun i hi => I.up i (hset.2 (.inl hi)), fun y hy => ?_, fun i hi => ?_, fun i z hi hz hzk => ?_⟩
        · rcases List.mem_cons.1 hy with rfl | hy
          · exact I.up _ (hset.2 (.inr rfl))
          · exact I.has y (by simp [hy])
        · rcases I.fr i hi with h | h
          · rcases hset.1 h with h | h
            · exact .inl h
            · subst h; exact .inr hbase
          · refine .inr (h.sub fun j hj => ?_)
            obtain ⟨y, hy, e⟩ := hj
            simp at hy
            rcases hy with rfl | rfl | hy
            · rw [← e]; exact .b hbase hs hk
            · rw [← e]; exact .a hbase hs hk
            · exact .base ⟨y, by simp [hy], e⟩
        · rcases I.cl i z hi hz hzk with h | h
          · rcases hset.1 h with h | h
            · exact .inl h
            · subst h
              rw [hs] at hz
              injection hz with hz
              subst hz
              exact .inr ⟨I.has _ (by simp), I.has _ (by simp)⟩
          · exact .inr h
      · rw [if_neg hk]
        have I := comeF_ok l hl m r (N.set x.toNat true) (by simp [hN]) hr (by omega)
        refine ⟨I.len, fun i hi => I.up i (hset.2 (.inl hi)), fun y hy => ?_, fun i hi => ?_, fun i z hi hz hzk => ?_⟩
        · rcases List.mem_cons.1 hy with rfl | hy
          · exact I.up _ (hset.2 (.inr rfl))
          · exact I.has y (by simp [hy])
        · rcases I.fr i hi with h | h
          · rcases hset.1 h with h | h
            · exact .inl h
            · subst h; exact .inr (.base ⟨x, by simp, rfl⟩)
          · exact .inr (h.mono fun j ⟨y, hy, e⟩ => ⟨y, by simp [hy], e⟩)
        · rcases I.cl i z hi hz hzk with h | h
          · rcases hset.1 h with h | h
            · exact .inl h
            · subst h
              rw [hs] at hz
              injection hz with hz
              subst hz
              exact absurd hzk hk
          · exact .inr h
/-- These are the states that some come to. -/
def IsSt (l : List Ns) (S : Nat → Prop) (N : List Bool) : Prop := N.length = l.length ∧ ∀ i, On N i ↔ Rch l S i
theorem IsSt.congr {l : List Ns} {S T : Nat → Prop} {N : List Bool} (h : IsSt l S N) (hi : ∀ i, S i ↔ T i) : IsSt l T N :=
  ⟨h.1, fun i => (h.2 i).trans ⟨Rch.mono fun i => (hi i).1, Rch.mono fun i => (hi i).2⟩⟩
theorem IsSt.uniq {l : List Ns} {S : Nat → Prop} {N N' : List Bool} (h : IsSt l S N) (h' : IsSt l S N') : N = N' := by
  apply List.ext_getElem (by rw [h.1, h'.1])
  intro i h1 h2
  have := (h.2 i).trans (h'.2 i).symm
  unfold On at this
  rw [List.getElem?_eq_getElem h1, List.getElem?_eq_getElem h2] at this
  simp at this
  revert this
  cases N[i] <;> cases N'[i] <;> simp
theorem IsSt.offs (l : List Ns) : IsSt l (fun _ => False) (offs l.length) := by
  refine ⟨by simp [Fk.offs], fun i => ⟨fun h => ?_, fun h => ?_⟩⟩
  · unfold On Fk.offs at h
    rw [List.getElem?_replicate] at h
    split at h <;> simp at h
  · exfalso
    induction h with
    | base h => exact h
    | a _ _ _ ih => exact ih
    | b _ _ _ ih => exact ih
theorem ofc_le (N : List Bool) : ofc N ≤ N.length := List.count_le_length
theorem come_is {l : List Ns} (hl : OkL l) {S : Nat → Prop} {N : List Bool} (h : IsSt l S N) {x : Int} (h0 : 0 ≤ x) (hx : x < l.length) : IsSt l (fun i => S i ∨ i = x.toNat) (come l x N) := by
  have I := comeF_ok l hl (2 * l.length + 1) [x] N h.1 (by simp; omega) (by have := ofc_le N; have := h.1; simp; omega)
  refine ⟨I.len, fun i => ⟨fun hi => ?_, fun hi => ?_⟩⟩
  · rcases I.fr i hi with h1 | h1
    · exact ((h.2 i).1 h1).mono fun _ => .inl
    · refine h1.mono fun j hj => .inr ?_
      obtain ⟨y, hy, e⟩ := hj
      simp at hy
      rw [← e, hy]
  · induction hi with
    | base hs =>
      rcases hs with hs | rfl
      · exact I.up _ ((h.2 _).2 (.base hs))
      · exact I.has x (by simp)
    | a _ h1 h2 ih =>
      rcases I.cl _ _ ih h1 h2 with h3 | h3
      · exact I.up _ ((h.2 _).2 (.a ((h.2 _).1 h3) h1 h2))
      · exact h3.1
    | b _ h1 h2 ih =>
      rcases I.cl _ _ ih h1 h2 with h3 | h3
      · exact I.up _ ((h.2 _).2 (.b ((h.2 _).1 h3) h1 h2))
      · exact h3.2
theorem stepF_is {l : List Ns} (hl : OkL l) (b : Nat) : ∀ (now : List Bool) (xs : List Ns) (S : Nat → Prop) (N : List Bool), (∀ x ∈ xs, 0 ≤ x.a ∧ x.a < l.length) → IsSt l S N →
    IsSt l (fun i => S i ∨ ∃ j x, On now j ∧ xs[j]? = some x ∧ x.k = 1 ∧ inQ x.q b = true ∧ i = x.a.toNat) (stepF l b now xs N)
  | [], xs, S, N, hx, h => by
    have : stepF l b [] xs N = N := by cases xs <;> rfl
    rw [this]
    exact h.congr fun i => ⟨.inl, fun h => by rcases h with h | ⟨j, x, h, _⟩; exact h; simp [On] at h⟩
  | h :: hs, [], S, N, hx, hN => by
    have : stepF l b (h :: hs) [] N = N := rfl
    rw [this]
    exact hN.congr fun i => ⟨.inl, fun h => by rcases h with h | ⟨j, x, _, h, _⟩; exact h; simp at h⟩
  | h :: hs, y :: ys, S, N, hx, hN => by
    show IsSt l _ (stepF l b hs ys _)
    have hy := hx y (by simp)
    have hys : ∀ x ∈ ys, 0 ≤ x.a ∧ x.a < l.length := fun x hm => hx x (by simp [hm])
    split
    · rename_i c
      refine (stepF_is hl b hs ys _ _ hys (come_is hl hN hy.1 hy.2)).congr fun i => ⟨?_, ?_⟩
      · rintro ((h1 | h1) | ⟨j, x, h1, h2⟩)
        · exact .inl h1
        · exact .inr ⟨0, y, by simp [On, c.1], by simp, c.2.1, c.2.2, h1⟩
        · exact .inr ⟨j + 1, x, by simpa [On] using h1, by simpa using h2⟩
      · rintro (h1 | ⟨j, x, h1, h2, h3⟩)
        · exact .inl (.inl h1)
        · cases j with
          | zero => simp at h2; subst h2; exact .inl (.inr h3.2.2)
          | succ j => exact .inr ⟨j, x, by simpa [On] using h1, by simpa using h2, h3⟩
    · rename_i c
      refine (stepF_is hl b hs ys _ _ hys hN).congr fun i => ⟨?_, ?_⟩
      · rintro (h1 | ⟨j, x, h1, h2⟩)
        · exact .inl h1
        · exact .inr ⟨j + 1, x, by simpa [On] using h1, by simpa using h2⟩
      · rintro (h1 | ⟨j, x, h1, h2, h3⟩)
        · exact .inl h1
        · cases j with
          | zero =>
            simp at h2; subst h2
            exact absurd ⟨by simpa [On] using h1, h3.1, h3.2.1⟩ c
          | succ j => exact .inr ⟨j, x, by simpa [On] using h1, by simpa using h2, h3⟩
end Fk
set_option linter.unusedVariables false
set_option linter.unusedSimpArgs false
set_option maxRecDepth 100000
set_option maxHeartbeats 1000000
namespace Fk
open Go Go.Proofs Go.RowKit
def bE (b : Bool) : List Value := [.bool b]
theorem encbE : Enc 1 bE := ⟨fun _ => rfl, by intro x v hv; simp [bE] at hv; subst hv; rfl⟩
theorem size3 (w : World) : ∃ m, (Go.sizeOf 3).run Try.prog w = .ok m w := by
  have h : (Try.prog.info? 3).isSome = true := by kernel_rfl
  obtain ⟨i, hi⟩ := Option.isSome_iff_exists.1 h
  exact ⟨i.size, by simp [Go.sizeOf, typeInfo, hi]⟩
/-- The last one is taken. -/
theorem OwnL.pop {α : Type} {w : World} {base : Nat} {e : TypeId} {size : Nat} {enc : α → List Value} (he : Enc size enc) {a : Option Addr} {c : Nat} {l : List α} {x : α} (h : OwnL w base e size enc a c (l ++ [x])) : OwnL w base e size enc a c l := by
  unfold OwnL at h ⊢
  obtain ⟨g, hg⟩ : ∃ g, a = some ⟨g, 0, none⟩ := by
    rcases h.2 with ⟨_, hn⟩ | ⟨g, cap, cur, hv, _⟩
    · simp at hn
    · simp only [Value.slice.injEq] at hv
      exact ⟨g, hv.1⟩
  subst hg
  rw [List.flatMap_append, List.length_append] at h
  exact ownsRow_pop (he.lenL l) h
theorem mem_blk {a : Option Addr} {d : Nat} (h : d ∈ (a.map (·.block)).toList) : ∃ A, a = some A ∧ A.block = d := by
  cases a with
  | none => simp at h
  | some A => simp at h; exact ⟨A, rfl, h.symm⟩
/-- A stand in memory: the machine, where it stands, and where it is to come to. -/
structure StAt (w0 w : World) (n : Nat) (st : Int) (pa : Option Addr) (pc : Nat) (l : List Ns) (an ax : Option Addr) (cn cx : Nat) (now next : List Bool) : Prop where
  blk : Blk w n 231 [.int .i64 st, .slice pa l.length pc, .slice an now.length cn, .slice ax next.length cx]
  row : RowAt w0 pa 8 nsE l
  md : Md [] w0 w
  nlo : w0.heap.size ≤ n
  onow : OwnL w w0.heap.size 4 1 bE an cn now
  onext : OwnL w w0.heap.size 4 1 bE ax cx next
  d1 : ∀ A, an = some A → A.block ≠ n
  d2 : ∀ A, ax = some A → A.block ≠ n
  d3 : Apt an ax
section
variable {w0 w w' : World} {n : Nat} {st : Int} {pa : Option Addr} {pc : Nat} {l : List Ns} {an ax : Option Addr} {cn cx : Nat} {now next : List Bool}
theorem StAt.md0 (S : StAt w0 w n st pa pc l an ax cn cx now next) (hm : Md [] w w') : StAt w0 w' n st pa pc l an ax cn cx now next :=
  ⟨S.blk.md hm (by simp), S.row, S.md.trans hm, S.nlo, S.onow.md hm, S.onext.md hm, S.d1, S.d2, S.d3⟩
theorem StAt.mdN {D : List Nat} (S : StAt w0 w n st pa pc l an ax cn cx now next) (hm : Md D w w') (hD : ∀ d ∈ D, w.heap.size ≤ d) : StAt w0 w' n st pa pc l an ax cn cx now next := S.md0 (hm.fresh hD)
theorem StAt.put (S : StAt w0 w n st pa pc l an ax cn cx now next) {i : Nat} (hi : i < next.length) (x : Bool) :
    ∃ A, ax = some A ∧ A.block < w.heap.size ∧ w0.heap.size ≤ A.block ∧ (adAt ax (i : Int) 1).block = A.block ∧ Wr w (adAt ax (i : Int) 1) 1 ∧ StAt w0 (setCells w (adAt ax (i : Int) 1) 0 [.bool x]) n st pa pc l an ax cn cx now (next.set i x) ∧
      Md [A.block] w (setCells w (adAt ax (i : Int) 1) 0 [.bool x]) := by
  obtain ⟨A, hA, h1, h2, h3, h4, h5, h6⟩ := S.onext.put encbE (by omega) hi x
  refine ⟨A, hA, h1, h2, h3, h4, ⟨?_, S.row, S.md.old h6 (by simpa using h2), S.nlo, S.onow.mdD h6 fun B hB => by simpa using S.d3 B A hB hA, h5, S.d1, S.d2, S.d3⟩, h6⟩
  have := S.blk.md h6 (by simpa using (S.d2 A hA).symm)
  rw [List.length_set]; exact this
end
theorem comeF_nil (l : List Ns) (m : Nat) (N : List Bool) : comeF l m [] N = N := by cases m <;> rfl
theorem comeF_on {l : List Ns} {m : Nat} {x : Int} {r : List Int} {N : List Bool} (h : On N x.toNat) : comeF l (m + 1) (x :: r) N = comeF l m r N := by
  conv => lhs; unfold comeF
  simp only
  rw [if_pos h]
theorem comeF_off {l : List Ns} {m : Nat} {i : Nat} {r : List Int} {N : List Bool} (h : ¬ On N i) (hi : i < l.length) : comeF l (m + 1) ((i : Int) :: r) N = comeF l m (if l[i].k = 2 then l[i].b :: l[i].a :: r else r) (N.set i true) := by
  conv => lhs; unfold comeF
  simp only
  rw [if_neg (by simpa using h), Int.toNat_natCast, List.getElem?_eq_getElem hi]
end Fk
set_option linter.unusedVariables false
set_option linter.unusedSimpArgs false
set_option maxRecDepth 100000
set_option maxHeartbeats 1000000
namespace Fk
open Go Go.Proofs Go.RowKit
theorem bE_map (l : List Bool) : l.flatMap bE = l.map Value.bool := by
  induction l with
  | nil => rfl
  | cons x l ih => rw [List.flatMap_cons, ih]; rfl
theorem tagF_step {N : List Bool} {l : List Ns} {i : Nat} (h1 : i < N.length) (h2 : i < l.length) (t : Int) :
    tagF (N.drop i) (l.drop i) t = tagF (N.drop (i + 1)) (l.drop (i + 1)) (if N[i] = true ∧ l[i].k = 0 ∧ (t < 0 ∨ l[i].t < t) then l[i].t else t) := by
  rw [List.drop_eq_getElem_cons h1, List.drop_eq_getElem_cons h2]
  rfl
end Fk
set_option linter.unusedVariables false
set_option linter.unusedSimpArgs false
set_option maxRecDepth 100000
set_option maxHeartbeats 2000000
namespace Fk
open Go Go.Proofs Go.RowKit
/-- The bit of a byte is asked. -/
theorem bit_in {q : Q4} {b : Nat} (hb : b < 256) (k a1 a2 a3 : Int) {b69 : Bool} {K : Bool → Prop} (kk : K (inQ q b)) :
    Bd (IntKind.wrap .u8 (Int.tdiv (b : Int) 64)) fun x70 => (b69 = true → 0 ≤ x70 ∧ x70 < ((4 : Nat) : Int)) ∧
      BdO (nthV [.int .u8 k, .int .u64 q.1, .int .u64 q.2.1, .int .u64 q.2.2.1, .int .u64 q.2.2.2, .int .i64 a1, .int .i64 a2, .int .i64 a3] (1 + x70.toNat * 1)) fun v72 => opI .u64 v72 fun x73 => Bd (Int.tmod (b : Int) 64) fun x74 =>
        (b69 = true → 0 ≤ x74) ∧ Bd (Int.fdiv x73 (2 ^ min x74.toNat 64)) fun x76 => Bd (IntKind.wrap .u64 ((BitVec.toNat (BitVec.ofInt 64 x76 &&& BitVec.ofInt 64 1) : Nat) : Int)) fun x77 => Bd (x77 == 1) K := by
  refine Bd_e (y := ((b / 64 : Nat) : Int)) (by rw [IntKind.wrap_u8, Int.tdiv_eq_ediv_of_nonneg (by omega)]; omega) ⟨fun _ => ⟨by omega, by omega⟩, ?_⟩
  refine BdO_in (v := .int .u64 (word q (b / 64))) ?_ ?_
  · rw [Int.toNat_natCast, Nat.mul_one, Nat.add_comm]
    have h := nth_word q (b / 64) (by omega)
    have h4 : b / 64 < 4 := by omega
    generalize b / 64 = j at *
    rcases j with _ | _ | _ | _ | j <;> first | exact h | omega
  refine opI_in ?_
  refine Bd_e (y := ((b % 64 : Nat) : Int)) (by rw [Int.tmod_eq_emod_of_nonneg (by omega)]; omega) ⟨fun _ => by omega, ?_⟩
  refine Bd_in fun x6 hx6 => Bd_in fun x7 hx7 => Bd_in fun b8 hb8 => ?_
  have : b8 = inQ q b := by
    rw [hb8, hx7, u64_and, bit_and_one, hx6, Int.toNat_natCast, Nat.min_eq_left (by omega), Int.fdiv_eq_ediv_of_nonneg _ (Int.pow_nonneg (by decide))]
    simp only [inQ]
    rw [Bool.eq_iff_iff]; simp
  rw [this]
  exact kk
theorem made4 (m : Nat) (w : World) (hm : m < 2 ^ 20) : ∃ w', (Instr.makeSlice 222 (.int .i64 (m : Int)) (.int .i64 (m : Int))).run Try.prog w = .ok (.slice (some ⟨w.heap.size, 0, none⟩) m m) w' ∧ OwnL w' w.heap.size 4 1 bE (some ⟨w.heap.size, 0, none⟩) m (offs m) ∧ Md [] w w' := by
  have h4 : (Try.prog.info? 4).isSome = true := by kernel_rfl
  obtain ⟨i4, hi4⟩ := Option.isSome_iff_exists.1 h4
  have hz4 : (Try.prog.info? 4).bind (·.zero) = some (.bool false) := by kernel_rfl
  have hs4 : (Try.prog.info? 4).map (fun i => (i.size, i.bytes)) = some (1, 1) := by kernel_rfl
  rw [hi4] at hz4 hs4
  simp only [Option.bind_some, Option.map_some, Option.some.injEq, Prod.mk.injEq] at hz4 hs4
  obtain ⟨w3, hrun, hown, hgr⟩ := run_makeSlice_full (P := Try.prog) w w.heap.size 222 4 i4 (.bool false) 1 (by kernel_rfl) hi4 hz4 hs4.1 .i64 .i64 m (by omega) (by rw [hs4.2]; omega) (by simp [maxLen]; omega) (Nat.le_refl _)
  refine ⟨w3, hrun, ?_, Md_of_grown hgr⟩
  have hmc : (madeCells (Value.bool false).cells (m * 1)).toList = (offs m).flatMap bE := by
    rw [bE_map, offs, List.map_replicate, Nat.mul_one]
    exact toList_madeCells_one _ m
  unfold OwnL
  rw [← hmc, show (offs m).length = m by simp [offs]]; exact hown
theorem offs_len (n : Nat) : (offs n).length = n := by simp [offs]
end Fk
set_option linter.unusedVariables false
set_option linter.unusedSimpArgs false
set_option maxRecDepth 100000
set_option maxHeartbeats 2000000
namespace Fk
open Go Go.Proofs Go.RowKit
theorem On_offs {n i : Nat} : ¬ On (offs n) i := by
  unfold On offs
  rw [List.getElem?_replicate]
  split <;> simp
end Fk
set_option linter.unusedVariables false
set_option linter.unusedSimpArgs false
set_option maxRecDepth 100000
set_option maxHeartbeats 2000000
namespace Fk
open Go Go.Proofs Go.RowKit
def dst (l : List Ns) (todo : List Int) : List Bool := comeF l (2 * l.length + todo.length) todo.reverse (offs l.length)
theorem dst_ok {l : List Ns} (hl : OkL l) {todo : List Int} (ht : ∀ x ∈ todo, 0 ≤ x ∧ x < l.length) : IsSt l (fun i => ∃ x ∈ todo, x.toNat = i) (dst l todo) := by
  have I := comeF_ok l hl (2 * l.length + todo.length) todo.reverse (offs l.length) (offs_len _) (fun x hx => ht x (by simpa using hx)) (by have := ofc_le (offs l.length); rw [offs_len] at this; rw [List.length_reverse]; omega)
  refine ⟨I.len, fun i => ⟨fun hi => ?_, fun hi => ?_⟩⟩
  · rcases I.fr i hi with h | h
    · exact absurd h On_offs
    · exact h.mono fun j ⟨x, hx, e⟩ => ⟨x, by simpa using hx, e⟩
  · induction hi with
    | base h => obtain ⟨x, hx, rfl⟩ := h; exact I.has x (by simpa using hx)
    | a _ h1 h2 ih =>
      rcases I.cl _ _ ih h1 h2 with h3 | h3
      · exact absurd h3 On_offs
      · exact h3.1
    | b _ h1 h2 ih =>
      rcases I.cl _ _ ih h1 h2 with h3 | h3
      · exact absurd h3 On_offs
      · exact h3.2
def byL (b : Nat) : List Bool → List Ns → List Int
  | h :: hs, x :: xs => if h = true ∧ x.k = 1 ∧ inQ x.q b = true then x.a :: byL b hs xs else byL b hs xs
  | _, _ => []
theorem mem_byL (b : Nat) : ∀ (N : List Bool) (xs : List Ns) (y : Int), y ∈ byL b N xs ↔ ∃ j x, On N j ∧ xs[j]? = some x ∧ x.k = 1 ∧ inQ x.q b = true ∧ y = x.a
  | [], xs, y => by
    have e : byL b [] xs = [] := by cases xs <;> rfl
    rw [e]
    exact ⟨fun h => by simp at h, fun ⟨j, x, h, _⟩ => by simp [On] at h⟩
  | h :: hs, [], y => ⟨fun h => by simp [byL] at h, fun ⟨j, x, _, h, _⟩ => by simp at h⟩
  | h :: hs, x :: xs, y => by
    have ih := mem_byL b hs xs y
    unfold byL
    constructor
    · intro hy
      split at hy
      · rename_i c
        rcases List.mem_cons.1 hy with rfl | hy
        · exact ⟨0, x, by simp [On, c.1], rfl, c.2.1, c.2.2, rfl⟩
        · obtain ⟨j, z, h1, h2⟩ := ih.1 hy
          exact ⟨j + 1, z, by simpa [On] using h1, by simpa using h2⟩
      · obtain ⟨j, z, h1, h2⟩ := ih.1 hy
        exact ⟨j + 1, z, by simpa [On] using h1, by simpa using h2⟩
    · rintro ⟨j, z, h1, h2, h3⟩
      cases j with
      | zero =>
        simp at h2; subst h2
        rw [if_pos ⟨by simpa [On] using h1, h3.1, h3.2.1⟩, h3.2.2]
        simp
      | succ j =>
        have hm : y ∈ byL b hs xs := ih.2 ⟨j, z, by simpa [On] using h1, by simpa using h2, h3⟩
        split
        · exact List.mem_cons_of_mem _ hm
        · exact hm
theorem byL_in {l : List Ns} (hl : OkL l) (b : Nat) (N : List Bool) : ∀ y ∈ byL b N l, 0 ≤ y ∧ y < l.length := fun y hy => by
  obtain ⟨j, x, _, h2, _, _, rfl⟩ := (mem_byL b N l y).1 hy
  have := hl x (List.mem_of_getElem? h2)
  exact ⟨this.1, this.2.1⟩
theorem dst_by {l : List Ns} (hl : OkL l) (b : Nat) (N : List Bool) : dst l (byL b N l) = stepF l b N l (offs l.length) := by
  refine (dst_ok hl (byL_in hl b N)).uniq ((stepF_is hl b N l _ _ (fun x hx => ⟨(hl x hx).1, (hl x hx).2.1⟩) (IsSt.offs l)).congr fun i => ?_)
  constructor
  · rintro (h | ⟨j, x, h1, h2, h3, h4, rfl⟩)
    · exact h.elim
    · exact ⟨x.a, (mem_byL b N l _).2 ⟨j, x, h1, h2, h3, h4, rfl⟩, rfl⟩
  · rintro ⟨y, hy, rfl⟩
    obtain ⟨j, x, h1, h2, h3, h4, rfl⟩ := (mem_byL b N l y).1 hy
    exact .inr ⟨j, x, h1, h2, h3, h4, rfl⟩
theorem byL_nil {l : List Ns} (hl : OkL l) (b : Nat) (N : List Bool) : byL b N l = [] ↔ ∀ i, ¬ On (stepF l b N l (offs l.length)) i := by
  rw [← dst_by hl b N]
  have h := dst_ok hl (byL_in hl b N)
  constructor
  · intro e i hi
    have := (h.2 i).1 hi
    rw [e] at this
    have hf : ∀ {j}, Rch l (fun i => ∃ x ∈ ([] : List Int), x.toNat = i) j → False := fun hr => by
      induction hr with
      | base h => obtain ⟨x, hx, _⟩ := h; simp at hx
      | a _ _ _ ih => exact ih
      | b _ _ _ ih => exact ih
    exact hf this
  · intro hn
    cases e : byL b N l with
    | nil => rfl
    | cons y ys => exact absurd ((h.2 y.toNat).2 (.base ⟨y, by rw [e]; simp, rfl⟩)) (hn _)
theorem byL_step {N : List Bool} {l : List Ns} {b j : Nat} (h1 : j < N.length) (h2 : j < l.length) : byL b (N.drop j) (l.drop j) = if N[j] = true ∧ l[j].k = 1 ∧ inQ l[j].q b = true then l[j].a :: byL b (N.drop (j + 1)) (l.drop (j + 1)) else byL b (N.drop (j + 1)) (l.drop (j + 1)) := by
  rw [List.drop_eq_getElem_cons h1, List.drop_eq_getElem_cons h2]
  rfl
theorem f171_ok (st : Int) (l : List Ns) (pa xa : Option Addr) (pc xc : Nat) (N : List Bool) (b : Nat) (hb : b < 256) (w : World) (hr : RowAt w pa 8 nsE l) (hx : RowAt w xa 1 bE N) (hN : N.length = l.length) (hlen : l.length ≤ 20000) :
    Ct Try.prog 171 #[.agg #[.int .i64 st, .slice pa l.length pc], .slice xa N.length xc, .int .u8 b] w fun v w' => (∃ (a : Option Addr) (c : Nat), v = .slice a (byL b N l).length c ∧ OwnL w' w.heap.size 3 1 i1 a c (byL b N l)) ∧ Md [] w w' := by
  apply f171_in
  intro n1 hn1
  refine Bd_e rfl fun w3 h3 hL3 => ?_
  have ln : n1 < w3.heap.size := hL3 n1 (by simp)
  refine LoopP_in (fun mm us vs w' => ∃ (i : Nat) (a : Option Addr) (c : Nat) (o : List Int), us = [.slice a o.length c, .int .i64 i] ∧ mm = l.length - i ∧ i ≤ l.length ∧ o ++ byL b (N.drop i) (l.drop i) = byL b N l ∧ o.length ≤ i ∧ OwnL w' w3.heap.size 3 1 i1 a c o ∧ Md [] w3 w') l.length
    ⟨0, none, 0, [], rfl, rfl, by omega, by simp, by simp, OwnL.nil .., Md.refl _ _⟩ ?_
  rintro mm us vs w7 ⟨i, a, c, o, rfl, hmm, hi, ho, hol, own, hmd⟩
  have m7 := h3.trans hmd
  have s7 := hmd.size
  refine opL_in <| opI_in <| Bd_in fun b12 hb12 => If_in (fun hbt => ?_) fun hbf => ?_
  case refine_2 =>
    have : ¬ (i : Int) < (N.length : Int) := by rw [hb12] at hbf; exact of_decide_eq_false hbf
    have hil : i = l.length := by omega
    subst hil
    rw [List.drop_of_length_le (by omega)] at ho
    rw [show byL b [] (l.drop l.length) = [] by cases l.drop l.length <;> rfl, List.append_nil] at ho
    rw [← ho]
    exact ⟨⟨a, c, rfl, own.down h3.size⟩, m7⟩
  have hiN : i < N.length := by rw [hb12] at hbt; have : (i : Int) < (N.length : Int) := of_decide_eq_true hbt
                                omega
  have hil : i < l.length := by omega
  rw [byL_step hiN hil] at ho
  have rl := hr.md m7
  refine Jn_in (fun us vs w' => ∃ (a : Option Addr) (c : Nat) (o' : List Int) (z : Bool), us = [.slice a o'.length c, .int .i64 i, .bool z] ∧ o' ++ byL b (N.drop (i + 1)) (l.drop (i + 1)) = byL b N l ∧ o'.length ≤ i + 1 ∧ OwnL w' w3.heap.size 3 1 i1 a c o' ∧ Md [] w3 w') ?_ ?_
  · rintro us vs w15 ⟨a, c, o', z, rfl, q1, q2, q3, q4⟩
    exact opL_in <| opI_in <| opB_in <| Bd_e (inc_i64 (by omega)) ⟨l.length - (i + 1), by omega, i + 1, a, c, o', rfl, rfl, by omega, q1, q2, q3, q4⟩
  refine ⟨(hx.md m7).ix hiN, (hx.md m7).ld1 hiN rfl <| opB_in ⟨rl.ix hil, rl.ld8 hil ?_⟩⟩
  intro n41 hn41
  refine Bd_in fun b42 hb42 => Bd_in fun b43 hb43 => bit_in (q := l[i].q) hb _ _ _ _ ?_
  refine Bd_in fun b53 hb53 => ?_
  have hiff : b53 = true ↔ (N[i] = true ∧ l[i].k = 1 ∧ inQ l[i].q b = true) := by
    rw [hb53, hb43, hb42]
    cases N[i] <;> simp
  refine If_in (fun hc w54 h54 hL54 => ?_) fun hc w54 h54 hL54 => ?_
  · rw [if_pos (hiff.1 hc)] at ho
    have m54 : Md [] w7 w54 := h54.fresh (by simp; exact hn41)
    refine Nw_i ?_
    have ma : Md [] w54 (w54.alloc (.cells #[.int .i64 l[i].a] 3)) := Md.alloc w54 _
    have ol := OwnL.lit (P := Try.prog) (base := w54.heap.size) enci1 w54 3 [l[i].a] #[.int .i64 l[i].a] (Nat.le_refl _) (by simp [maxLen]) rfl
    have own2 := (own.md m54).md ma
    have sz := m54.size
    have sz2 := ma.size
    refine app_own rowT52 enci1 own2 ol (by omega) (fun z hz => Nat.lt_of_lt_of_le (hL54 z hz) sz2) (fun z hz A hA e => ?_) (by simp [maxLen]; omega) (by simp; omega) fun a' c' w58 o58 m58 hA' => opL_in ⟨a', c', _, _, rfl, by rw [← ho]; simp, by simp; omega, o58, ((hmd.trans m54).trans ma).own own2 m58⟩
    have := own.lt hA
    simp at hz
    rcases hz with rfl | rfl <;> omega
  · rw [if_neg (fun h => by have := hiff.2 h; rw [hc] at this; cases this)] at ho
    have m54 : Md [] w7 w54 := h54.fresh (by simp; exact hn41)
    exact ⟨a, c, o, _, rfl, ho, by omega, own.md m54, hmd.trans m54⟩
theorem f170_ok (st : Int) (l : List Ns) (pa xa : Option Addr) (pc xc : Nat) (N : List Bool) (w : World) (h1 : RowAt w pa 8 nsE l) (h2 : RowAt w xa 1 bE N) (hN : N.length = l.length) (hlen : l.length ≤ 20000) :
    Ct Try.prog 170 #[.agg #[.int .i64 st, .slice pa l.length pc], .slice xa N.length xc] w fun v w' => v = .int .i64 (tagF N l (-1)) ∧ Md [] w w' := by
  apply f170_in
  intro n1 hn1
  refine Bd_e rfl fun w3 h3 hL3 => ?_
  refine LoopP_in (fun mm us vs w' => ∃ (i : Nat) (t : Int), us = [.int .i64 t, .int .i64 i] ∧ mm = l.length - i ∧ i ≤ l.length ∧ Md [] w w' ∧ tagF (N.drop i) (l.drop i) t = tagF N l (-1)) l.length
    ⟨0, -1, rfl, rfl, by omega, h3, rfl⟩ ?_
  rintro m' us vs w6 ⟨i, t, rfl, hmm, hi, h6, ht⟩
  refine opI_in <| opI_in <| Bd_in fun b41 hb41 => If_in (fun hb => ?_) fun hb => ?_
  case refine_2 =>
    have : ¬ (i : Int) < (N.length : Int) := by rw [hb41] at hb; exact of_decide_eq_false hb
    have hil : i = l.length := by omega
    subst hil
    rw [List.drop_of_length_le (by omega), List.drop_of_length_le (by omega)] at ht
    rw [← ht]
    exact ⟨rfl, h6⟩
  have hin : i < N.length := by rw [hb41] at hb; have : (i : Int) < (N.length : Int) := of_decide_eq_true hb
                                omega
  have hil : i < l.length := by omega
  rw [tagF_step hin hil] at ht
  refine Jn_in (fun us vs w' => ∃ (z : Bool), us = [.int .i64 (if N[i] = true ∧ l[i].k = 0 ∧ (t < 0 ∨ l[i].t < t) then l[i].t else t), .int .i64 i, .bool z] ∧ Md [] w w') ?_ ?_
  · rintro us vs w44 ⟨z, rfl, h44⟩
    exact opI_in <| opI_in <| opB_in <| Bd_e (inc_i64 (by omega)) ⟨l.length - (i + 1), by omega, i + 1, _, rfl, rfl, by omega, h44, ht⟩
  refine ⟨(h2.md h6).ix hin, ((h2.md h6).ld1 hin rfl) <| opB_in ⟨(h1.md h6).ix hil, (h1.md h6).ld8 hil ?_⟩⟩
  intro n37 hn37
  refine Bd_in fun b74 hb74 => Bd_in fun b75 hb75 => Bd_in fun b76 hb76 => Bd_in fun b77 hb77 => Bd_in fun b78 hb78 => Bd_in fun b79 hb79 => ?_
  have hiff : b79 = true ↔ (N[i] = true ∧ l[i].k = 0 ∧ (t < 0 ∨ l[i].t < t)) := by
    rw [hb79, hb78, hb75, hb74, hb76, hb77]
    cases N[i] <;> simp
  refine If_in (fun hc w44 h44 _ => ?_) fun hc w44 h44 _ => ?_
  · rw [if_pos (hiff.1 hc)]
    exact ⟨_, rfl, h6.trans (h44.fresh (by simp; exact hn37))⟩
  · rw [if_neg (fun h => by have := hiff.2 h; rw [hc] at this; cases this)]
    exact ⟨_, rfl, h6.trans (h44.fresh (by simp; exact hn37))⟩
theorem f167_ok (st : Int) (l : List Ns) (pa xa : Option Addr) (pc xc bx : Nat) (todo : List Int) (w : World) (hr : RowAt w pa 8 nsE l) (hx : OwnL w bx 3 1 i1 xa xc todo) (hl : OkL l) (hlen : l.length ≤ 20000) (htl : todo.length ≤ 20000) (ht : ∀ x ∈ todo, 0 ≤ x ∧ x < l.length) :
    Ct Try.prog 167 #[.agg #[.int .i64 st, .slice pa l.length pc], .slice xa todo.length xc] w fun v w' => (∃ (a : Option Addr) (c : Nat), v = .slice a (dst l todo).length c ∧ OwnL w' w.heap.size 4 1 bE a c (dst l todo)) ∧ Md [] w w' := by
  apply f167_in
  intro n1 hn1
  refine Bd_e rfl fun w3 h3 hL3 => ?_
  have l1 := hL3 n1 (by simp)
  obtain ⟨w5, r1, o1, m1⟩ := made4 l.length w3 (by omega)
  refine RunW_in r1 (fun b hb => by simp at hb; subst hb; exact m1.blk b l1 (by simp)) <| opL_in <| Nw_i ?_
  have s1 := m1.size
  generalize hxa : (some (Addr.mk w3.heap.size 0 none)) = a6 at *
  have mc : Md [] w5 (w5.alloc (.cells #[] 3)) := Md.alloc w5 _
  have olc : OwnL (w5.alloc (.cells #[] 3)) w5.heap.size 3 1 i1 (some ⟨w5.heap.size, 0, none⟩) 0 [] := OwnL.lit (P := Try.prog) (base := w5.heap.size) enci1 w5 3 [] #[] (Nat.le_refl _) (by simp) rfl
  have sc := mc.size
  have hxc := ((hx.md h3).md m1).md mc
  have ln5 : n1 < w5.heap.size := by omega
  refine app_own rowT52 enci1 olc hxc (by omega) (fun b hb => by simp at hb; subst hb; omega) (fun b hb A hA => by simp at hb; subst hb; injection hA with hA; subst hA; simp; omega) (by simp [maxLen]; omega) (by simp; omega) fun a13 c15 w12 o12 m12 hA12 => opL_in ?_
  simp only [List.nil_append] at o12 ⊢
  have m3_12 : Md [] w3 w12 := (m1.trans mc).old m12 (fun d hd => by simp at hd; omega)
  have b6 : ∀ A, a6 = some A → A.block = w3.heap.size := fun A hA => by rw [← hxa] at hA; injection hA with hA; subst hA; rfl
  have o6 : OwnL w12 w3.heap.size 4 1 bE a6 l.length (offs l.length) := ((o1.md mc).mdD m12 fun A hA => by have := b6 A hA; have := (o1.lt hA).2; simp; omega)
  refine LoopP_in (fun mm us vs w' => ∃ (a : Option Addr) (c : Nat) (R : List Int) (N : List Bool), us = [.slice a R.length c] ∧ OwnL w' w5.heap.size 3 1 i1 a c R ∧ OwnL w' w3.heap.size 4 1 bE a6 l.length N ∧ Md [] w3 w' ∧ w5.heap.size ≤ w'.heap.size ∧
      N.length = l.length ∧ comeF l mm R.reverse N = dst l todo ∧ 2 * ofc N + R.length ≤ mm ∧ (∀ y ∈ R, 0 ≤ y ∧ y < l.length) ∧ mm ≤ 60000) (2 * l.length + todo.length)
    ⟨a13, c15, todo, offs l.length, rfl, o12, o6, m3_12, by have := m12.size; omega, offs_len _, rfl, by have := ofc_le (offs l.length); rw [offs_len] at this; omega, ht, by omega⟩ ?_
  rintro mm us vs w6 ⟨a, c, R, N, rfl, ho, oN, hm, hs5, hN, hc, hf, hR, hmm⟩
  have hdst : (dst l todo).length = l.length := (dst_ok hl ht).1
  have ln6 : n1 < w6.heap.size := by have := hm.size; omega
  refine opL_in <| Bd_e rfl <| Bd_in fun b12 hb12 => If_in (fun hb => ?_) fun hb => ?_
  case refine_2 =>
    have hR0 : R = [] := by
      have : ¬ (R.length : Int) > 0 := by rw [hb12] at hb; exact of_decide_eq_false hb
      exact List.eq_nil_of_length_eq_zero (by omega)
    subst hR0
    rw [List.reverse_nil, comeF_nil] at hc
    rw [← hc]
    exact ⟨⟨a6, l.length, by rw [hN], oN.down h3.size⟩, h3.trans hm⟩
  have hRp : 0 < R.length := by have : (R.length : Int) > 0 := by rw [hb12] at hb; exact of_decide_eq_true hb
                                omega
  rcases List.eq_nil_or_concat R with rfl | ⟨R', y, rfl⟩
  · simp at hRp
  rw [List.concat_eq_append] at *
  have hl1 : (R' ++ [y]).length = R'.length + 1 := by simp
  have hix := (ho.row enci1).ix (i := R'.length) (by omega)
  rw [hl1] at hix ⊢
  have hcap := ho.cap
  refine Bd_e rfl <| Bd_e (y := ((R'.length : Nat) : Int)) (by rw [IntKind.wrap_i64]; omega) ⟨hix, (ho.row enci1).ld1 (i := R'.length) (by omega) (v := .int .i64 y) (by simp [i1]) <| opI_in <| Bd_e rfl <| Bd_e (y := ((R'.length : Nat) : Int)) (by rw [IntKind.wrap_i64]; omega) ?_⟩
  refine RunW_in0 (slice_front (e := 3) (by kernel_rfl) size3 _ _ _ _ _ (by omega)) <| opL_in ?_
  have hy := hR y (by simp)
  obtain ⟨i, rfl⟩ := Int.eq_ofNat_of_zero_le hy.1
  have hil : i < l.length := by omega
  have hiN : i < N.length := by omega
  have hixN := (oN.row encbE).ix hiN
  rw [hN] at hixN
  refine ⟨hixN, (oN.row encbE).ld1 hiN rfl <| opB_in ?_⟩
  have hop := ho.pop enci1
  have hRr : ∀ z ∈ R', 0 ≤ z ∧ z < l.length := fun z hz => hR z (by simp [hz])
  rw [List.reverse_append, List.reverse_singleton, List.singleton_append] at hc
  obtain ⟨m, rfl⟩ : ∃ m, mm = m + 1 := ⟨mm - 1, by omega⟩
  refine If_in (fun hon => ?_) fun hoff => ?_
  · have hOn : On N i := by unfold On; rw [List.getElem?_eq_getElem hiN, hon]
    rw [comeF_on (by simpa using hOn)] at hc
    exact ⟨m, by omega, a, c, R', N, rfl, hop, oN, hm, hs5, hN, hc, by omega, hRr, by omega⟩
  have hOff : ¬ On N i := by unfold On; rw [List.getElem?_eq_getElem hiN, hoff]; simp
  rw [comeF_off hOff hil] at hc
  have hcnt := ofc_set hiN hOff
  obtain ⟨A, hA, p1, p2, p3, p4, p5, p6⟩ := oN.put encbE (by omega) hiN true
  have hAb := b6 A hA
  have m7 : Md [] w3 (setCells w6 (adAt a6 (i : Int) 1) 0 [.bool true]) := hm.old p6 (by simpa using p2)
  have hoA : ∀ B, a = some B → B.block ≠ A.block := fun B hB => by have := (ho.lt hB).1; have := (o1.lt hA).2; omega
  have ho7 : OwnL (setCells w6 (adAt a6 (i : Int) 1) 0 [.bool true]) w5.heap.size 3 1 i1 a c R' := hop.mdD p6 fun B hB => by simpa using hoA B hB
  have hs6 : w6.heap.size ≤ (setCells w6 (adAt a6 (i : Int) 1) 0 [.bool true]).heap.size := p6.size
  change OwnL (setCells w6 (adAt a6 (i : Int) 1) 0 [.bool true]) w3.heap.size 4 1 bE a6 l.length (N.set i true) at p5
  generalize setCells w6 (adAt a6 (i : Int) 1) 0 [.bool true] = w7 at *
  have rl := hr.md (h3.trans m7)
  refine ⟨hixN, by rw [p3, hAb]; simp; omega, p4, rl.ix hil, rl.ld8 hil ?_⟩
  intro n57 hn57
  refine Bd_in fun b58 hb58 => If_in (fun hk w59 h59 hL59 => ?_) fun hk w67 h67 hL67 => ?_
  · have hk2 : l[i].k = 2 := by rw [hb58] at hk; simpa using hk
    rw [if_pos hk2] at hc
    have m59 : Md [] w7 w59 := h59.fresh (by simp; exact hn57)
    refine Nw_i ?_
    have mb : Md [] w59 (w59.alloc (.cells #[.int .i64 l[i].a, .int .i64 l[i].b] 3)) := Md.alloc w59 _
    have ol2 := OwnL.lit (P := Try.prog) (base := w59.heap.size) enci1 w59 3 [l[i].a, l[i].b] #[.int .i64 l[i].a, .int .i64 l[i].b] (Nat.le_refl _) (by simp [maxLen]) rfl
    have m8 := m59.trans mb
    have ho8 := ho7.md m8
    have oN8 := p5.md m8
    have sz := mb.size
    have sz8 := m8.size
    have szm := hm.size
    have sz12 := m12.size
    have hlb := hl _ (List.getElem_mem hil)
    have hbase : w5.heap.size ≤ (w59.alloc (.cells #[.int .i64 l[i].a, .int .i64 l[i].b] 3)).heap.size := by omega
    refine app_own rowT52 enci1 ho8 ol2 hbase (fun z hz => Nat.lt_of_lt_of_le (hL59 z hz) sz) (fun z hz B hB e => ?_) (by simp [maxLen]; omega) (by simp; omega) fun a' c' w63 o63 m63 hA' => opL_in ?_
    · have := ho7.lt hB
      simp at hz
      rcases hz with rfl | rfl <;> omega
    have aD : ∀ d ∈ (a.map (·.block)).toList, w5.heap.size ≤ d := fun d hd => by
      obtain ⟨B, hB, rfl⟩ := mem_blk hd
      exact (ho7.lt hB).1
    refine ⟨m, by omega, a', c', R' ++ [l[i].a, l[i].b], N.set i true, rfl, o63, oN8.mdD m63 (fun B hB hd => ?_), (m7.trans m8).old m63 (fun d hd => by have := aD d hd; omega), by have := m63.size; omega, by simp [hN], by simpa using hc, by simp; omega, fun z hz => ?_, by omega⟩
    · have := aD _ hd; have := b6 B hB; have := (o1.lt hB).2; omega
    · rcases List.mem_append.1 hz with h | h
      · exact hRr z h
      · simp at h
        rcases h with rfl | rfl
        · exact ⟨hlb.1, hlb.2.1⟩
        · exact ⟨hlb.2.2.1, hlb.2.2.2⟩
  · have hk2 : ¬ l[i].k = 2 := by rw [hb58] at hk; simpa using hk
    rw [if_neg hk2] at hc
    have m67 : Md [] w7 w67 := h67.fresh (by simp; exact hn57)
    exact ⟨m, by omega, a, c, R', N.set i true, rfl, ho7.md m67, p5.md m67, m7.trans m67, by have := m67.size; omega, by simp [hN], hc, by omega, hRr, by omega⟩
end Fk
set_option linter.unusedVariables false
set_option linter.unusedSimpArgs false
set_option maxRecDepth 100000
namespace Fk
open Go Go.Proofs Go.RowKit
def encN (s : ByteArray) : List Nat := s.size :: bytesL s
def tagB (x : Int) : Nat := (x + 1).toNat
def encX (n : Int) : List Nat := [(n + 1).toNat / 256, (n + 1).toNat % 256]
def hdrL (t : Tb) : List Nat := [70, 84, 1, (t.dm - 1).toNat, t.tg.length / 256, t.tg.length % 256, t.nm.length]
/-- A table's bytes. -/
def packL (t : Tb) : List Nat := hdrL t ++ t.nm.flatMap encN ++ t.c.f ++ t.tg.map tagB ++ t.nx.flatMap encX
theorem wrap_u8 {x : Nat} (h : x < 256) : IntKind.wrap .u8 (x : Int) = x := by rw [IntKind.wrap_u8]; omega
theorem nat_i64 {x : Int} (h1 : 0 ≤ x) (h2 : x < 2 ^ 40) : IntKind.wrap .i64 x = ((x.toNat : Nat) : Int) := by rw [IntKind.wrap_i64]; omega
theorem dec_u8 {d : Int} (h1 : 1 ≤ d) (h2 : d ≤ 256) : IntKind.wrap .u8 (IntKind.wrap .i64 (d - 1)) = (((d - 1).toNat : Nat) : Int) := by
  rw [nat_i64 (by omega) (by omega), wrap_u8 (by omega)]
theorem tag_u8 {x : Int} (h1 : -1 ≤ x) (h2 : x < 200) : IntKind.wrap .u8 (IntKind.wrap .i64 (x + 1)) = ((tagB x : Nat) : Int) := by
  unfold tagB
  rw [nat_i64 (by omega) (by omega), wrap_u8 (by omega)]
/-- What a right table is like. -/
structure RtF (t : Tb) : Prop where
  d1 : 1 ≤ t.dm
  d2 : t.dm ≤ 256
  m : t.c.m = t.dm
  tg1 : 1 ≤ t.tg.length
  tg2 : t.tg.length ≤ 5000
  nx : (t.nx.length : Int) = t.dm * t.tg.length
  nxl : t.nx.length ≤ 1280000
  n1 : 1 ≤ t.nm.length
  n2 : t.nm.length ≤ 200
  sz : ∀ s ∈ t.nm, s.size ≤ 64
  tag : ∀ x ∈ t.tg, -1 ≤ x ∧ x < 200
  nxt : ∀ x ∈ t.nx, -1 ≤ x ∧ x < 5000
theorem namesOk_sz : ∀ (l pre : List ByteArray), namesOk pre l = true → ∀ s ∈ l, s.size ≤ 64
  | [], _, _ => by simp
  | s :: l, pre, h => by
    unfold namesOk at h
    simp only [Bool.and_eq_true] at h
    intro x hx
    rcases List.mem_cons.1 hx with rfl | hx
    · have := h.1.1
      unfold named at this
      simp only [Bool.and_eq_true, decide_eq_true_eq] at this
      exact this.2
    · exact namesOk_sz l _ h.2 x hx
theorem RtF.of {t : Tb} (h : tRight t = true) : RtF t := by
  have h0 := h
  unfold tRight tHead at h
  simp only [Bool.and_eq_true, decide_eq_true_eq] at h
  obtain ⟨⟨⟨⟨⟨hc, hd⟩, hm⟩, hn⟩, hnm⟩, ht⟩ := h
  obtain ⟨d1, d2, d3, d4, d5⟩ := dRight_tags hd
  unfold dRight at hd
  simp only [Bool.and_eq_true, List.all_eq_true, decide_eq_true_eq] at hd
  refine ⟨d1, d2, hm, d3, d4, d5, ?_, hn.1, hn.2, namesOk_sz _ _ hnm, hd.1.2, fun x hx => ?_⟩
  · have : t.dm * (t.tg.length : Int) ≤ 256 * 5000 := Int.mul_le_mul d2 (by omega) (by omega) (by omega)
    omega
  · have := hd.2 x hx; omega
theorem flat_le {α : Type} {f : α → List Nat} {k : Nat} : ∀ {l : List α}, (∀ x ∈ l, (f x).length ≤ k) → (l.flatMap f).length ≤ l.length * k
  | [], _ => by simp
  | x :: l, h => by
    have h1 := h x (by simp)
    have h2 := flat_le (l := l) fun y hy => h y (List.mem_cons_of_mem _ hy)
    rw [List.flatMap_cons, List.length_append, List.length_cons, Nat.succ_mul]; omega
theorem bytesL_len (s : ByteArray) : (bytesL s).length = s.size := by unfold bytesL; rw [List.length_map]; rfl
theorem RtF.names {t : Tb} (h : RtF t) (i : Nat) : ((t.nm.take i).flatMap encN).length ≤ 200 * 65 := by
  have := flat_le (f := encN) (k := 65) (l := t.nm.take i) fun s hs => by
    have := h.sz s (List.mem_of_mem_take hs)
    simp [encN, bytesL_len]; omega
  have hl : (t.nm.take i).length ≤ 200 := by have := h.n2; rw [List.length_take]; omega
  have : (t.nm.take i).length * 65 ≤ 200 * 65 := Nat.mul_le_mul_right _ hl
  omega
theorem RtF.nexts {t : Tb} (h : RtF t) (i : Nat) : ((t.nx.take i).flatMap encX).length ≤ 2560000 := by
  have := flat_le (f := encX) (k := 2) (l := t.nx.take i) fun s hs => by simp [encX]
  have hl : (t.nx.take i).length ≤ 1280000 := by have := h.nxl; rw [List.length_take]; omega
  omega
structure PS (w2 w : World) (a : Option Addr) (c : Nat) (acc : List Nat) : Prop where
  md : Md [] w2 w
  own : OwnL w w2.heap.size 5 1 b1 a c acc
section
variable {w2 w : World} {a : Option Addr} {c : Nat} {acc : List Nat} {L : List Nat}
theorem PS.drew (S : PS w2 w a c acc) : PS w2 w.drew a c acc := ⟨S.md.trans (Md_drew _), S.own.md (Md_drew _)⟩
theorem PS.tr {w' : World} (S : PS w2 w a c acc) (h : Md [] w w') : PS w2 w' a c acc := ⟨S.md.trans h, S.own.md h⟩
theorem PS.blk (S : PS w2 w a c acc) : ∀ d ∈ (a.map (·.block)).toList, w2.heap.size ≤ d ∧ d < w.heap.size := by
  intro d hd
  cases ha : a with
  | none => rw [ha] at hd; simp at hd
  | some A => rw [ha] at hd; simp at hd; have := S.own.lt ha; omega
theorem PS.appC (S : PS w2 w a c acc) (A2 : Addr) (m c2 : Nat) (xs : List Nat) (hm : xs.length = m) (hn : ∀ (j x : Nat), xs[j]? = some x → w.cell? (A2.add j) = some (.int .u8 (x : Int))) (hL : ∀ b ∈ L, b < w2.heap.size) (hl : acc.length + m ≤ 2 ^ 40) {K : Value → World → Prop}
    (k : ∀ a' c' w', PS w2 w' a' c' (acc ++ xs) → Md (a.map (·.block)).toList w w' → K (.slice a' (acc ++ xs).length c') w') :
    RunW Try.prog L (Builtin.append_ #[51, 51] 51 #[.slice a acc.length c, .slice (some A2) m c2]) K w := by
  have hsz := S.md.size
  obtain ⟨a', c', w', hr, ho, hmd, hA⟩ := run_app (ty := 51) rowT51 S.own A2 m c2 (xs.flatMap b1) (by rw [encb1.lenL, hm]) (by
    intro j u hu
    have hj : j < xs.length := by have := (List.getElem?_eq_some_iff.1 hu).1; rw [encb1.lenL] at this; omega
    have := encb1.at xs j 0 xs[j] (List.getElem?_eq_getElem hj) (by omega)
    rw [Nat.mul_one, Nat.add_zero] at this
    rw [this] at hu
    rw [hn j xs[j] (List.getElem?_eq_getElem hj)]
    exact hu) (encb1.oneL xs) (by simp [maxLen]; omega) (by omega) hsz
  refine RunW_in hr (fun b hb => hmd.blk b (by have := hL b hb; omega) fun hmem => by have := (S.blk b hmem).1; have := hL b hb; omega) ?_
  have hPS : PS w2 w' a' c' (acc ++ xs) := ⟨S.md.old hmd fun d hd => (S.blk d hd).1, by unfold OwnL; rw [List.flatMap_append, List.length_append, hm]; exact ho⟩
  have := k a' c' w' hPS hmd
  rwa [List.length_append, hm] at this
theorem PS.appN (S : PS w2 w a c acc) (m : Nat) (xs : List Nat) (cs : Array Value) (hm : xs.length = m) (hcs : cs.toList = xs.flatMap b1) (hL : ∀ b ∈ L, b < w2.heap.size) (hl : acc.length + m ≤ 2 ^ 40) {K : Value → World → Prop}
    (k : ∀ a' c' w', PS w2 w' a' c' (acc ++ xs) → K (.slice a' (acc ++ xs).length c') w') :
    Nw (.cells cs 5) w fun b w' => RunW Try.prog L (Builtin.append_ #[51, 51] 51 #[.slice a acc.length c, .slice (some { block := b, off := 0 }) m m]) K w' := by
  intro b w1 e1 e2
  subst e1; subst e2
  refine (S.tr (Md.alloc w _)).appC _ m m xs hm ?_ hL hl fun a' c' w' S' _ => k a' c' w' S'
  intro j x hx
  have hj : j < xs.length := (List.getElem?_eq_some_iff.1 hx).1
  have h1 := encb1.at xs j 0 x hx (by omega)
  rw [Nat.mul_one, Nat.add_zero, ← hcs] at h1
  refine alloc_at w cs 5 0 j ?_
  rw [Nat.zero_add, ← Array.getElem?_toList, h1]; rfl
theorem strCells_b1 (s : ByteArray) : Lib.strCells s = (bytesL s).flatMap b1 := by
  unfold Lib.strCells bytesL
  generalize s.data.toList = l
  induction l with
  | nil => rfl
  | cons x l ih => rw [List.map_cons, ih]; rfl
theorem PS.appS (S : PS w2 w a c acc) (s : ByteArray) (hL : ∀ b ∈ L, b < w2.heap.size) (hl : acc.length + s.size ≤ 2 ^ 40) {K : Value → World → Prop}
    (k : ∀ a' c' w', PS w2 w' a' c' (acc ++ bytesL s) → K (.slice a' (acc ++ bytesL s).length c') w') :
    RunW Try.prog L (Builtin.append_ #[51, 9] 51 #[.slice a acc.length c, .string s]) K w := by
  have hsz := S.md.size
  have h5 : (Try.prog.info? 5).isSome = true := by kernel_rfl
  obtain ⟨i5, hi5⟩ := Option.isSome_iff_exists.1 h5
  have hz5 : (Try.prog.info? 5).bind (·.zero) = some (.int .u8 0) := by kernel_rfl
  have hs5 : (Try.prog.info? 5).map (fun i => (i.size, i.bytes)) = some (1, 1) := by kernel_rfl
  rw [hi5] at hz5 hs5
  simp only [Option.bind_some, Option.map_some, Option.some.injEq, Prod.mk.injEq] at hz5 hs5
  obtain ⟨v', w', hr, ho, hg, _⟩ := Lib.run_append_own_string (P := Try.prog) (w := w) w2.heap.size 51 9 51 5 i5 (by kernel_rfl) (by kernel_rfl) hi5 hz5 hs5.1 hs5.2 _ acc.length (acc.flatMap b1) S.own s (by simp [maxLen]; omega) (by omega) hsz
  obtain ⟨a', c', rfl⟩ := own_slice ho
  have hmd : Md (a.map (·.block)).toList w w' := by
    have := Md_of_grown hg
    have e : (Value.slice a acc.length c).ownBlock = a.map (·.block) := by cases a <;> rfl
    rwa [e] at this
  refine RunW_in hr (fun b hb => hmd.blk b (by have := hL b hb; omega) fun hmem => by have := (S.blk b hmem).1; have := hL b hb; omega) ?_
  have hPS : PS w2 w' a' c' (acc ++ bytesL s) := ⟨S.md.old hmd fun d hd => (S.blk d hd).1, by unfold OwnL; rw [List.flatMap_append, List.length_append, bytesL_len, ← strCells_b1]; exact ho⟩
  have := k a' c' w' hPS
  rwa [List.length_append, bytesL_len] at this
theorem in156 (S : PS w2 w a c acc) (n : Nat) (hn : n < 65536) (hL : ∀ b ∈ L, b < w2.heap.size) (hl : acc.length + 2 ≤ 2 ^ 40) {K : Option Addr → Nat → Nat → World → Prop}
    (k : ∀ a' c' w', PS w2 w' a' c' (acc ++ [n / 256, n % 256]) → Md (a.map (·.block)).toList w w' → K a' (acc ++ [n / 256, n % 256]).length c' w') :
    CallW Try.prog L 156 #[.slice a acc.length c, .int .i64 n] (fun v w' => opL v fun a n c => K a n c w') w := by
  have hct : Ct Try.prog 156 #[.slice a acc.length c, .int .i64 n] w fun v w' => (∃ a' c', v = .slice a' (acc ++ [n / 256, n % 256]).length c' ∧ PS w2 w' a' c' (acc ++ [n / 256, n % 256])) ∧ Md (a.map (·.block)).toList w w' := by
    apply f156_in
    refine Bd_in fun x1 hx1 => Bd_in fun x2 hx2 => Bd_in fun x3 hx3 => ?_
    have e1 : x1 = ((n / 256 : Nat) : Int) := by
      rw [hx1, show (2 : Int) ^ min 8 64 = 256 by decide, Int.fdiv_eq_ediv_of_nonneg _ (by omega)]; omega
    have e2 : x2 = ((n / 256 : Nat) : Int) := by rw [hx2, e1, wrap_u8 (by omega)]
    have e3 : x3 = ((n % 256 : Nat) : Int) := by rw [hx3, IntKind.wrap_u8]; omega
    rw [e2, e3]
    intro b w1 eb ew
    subst eb; subst ew
    refine (S.tr (Md.alloc w _)).appC (L := []) _ 2 2 [n / 256, n % 256] rfl ?_ (by simp) hl ?_
    · intro j x hx
      refine alloc_at w _ 5 0 j ?_
      match j, hx with
      | 0, hx => simp at hx; subst hx; rfl
      | 1, hx => simp at hx; subst hx; rfl
    · intro a' c' w' S' hm
      exact opL_in ⟨⟨a', c', rfl, S'⟩, ((show Md [] w _ from Md.alloc w (.cells #[.int .u8 ((n / 256 : Nat) : Int), .int .u8 ((n % 256 : Nat) : Int)] 5)).mono (by simp)).trans hm⟩
  have hsz := S.md.size
  refine hct.callD (fun b hb => by have := hL b hb; omega) (fun b hb hmem => by have := (S.blk b hmem).1; have := hL b hb; omega) ?_
  rintro v w' ⟨a', c', rfl, S'⟩ hm
  exact opL_in (k a' c' w' S' hm)
end
/-- What is told of packing. -/
def PkOut (t : Tb) (base : Nat) (w : World) (v : Value) (e : Int) : Prop := if tRight t = true then e = 0 ∧ ∃ a c, v = .slice a (packL t).length c ∧ OwnL w base 5 1 b1 a c (packL t) else e = 100 ∧ v = .slice none 0 0
theorem take_flat {α : Type} {f : α → List Nat} {l : List α} {i : Nat} (hi : i < l.length) : (l.take (i + 1)).flatMap f = (l.take i).flatMap f ++ f l[i] := by
  rw [List.take_succ_eq_append_getElem hi, List.flatMap_append]; simp
theorem take_map {α : Type} {f : α → Nat} {l : List α} {i : Nat} (hi : i < l.length) : (l.take (i + 1)).map f = (l.take i).map f ++ [f l[i]] := by
  rw [List.take_succ_eq_append_getElem hi, List.map_append]; simp
theorem f59_ok (t : Tb) (p : TbS) (w : World) (ht : TbAt w t p) : Ct Try.prog 59 #[.agg (t.v p)] w fun v w' => (∃ u e, v = .tuple #[u, .int .i64 e] ∧ PkOut t w.heap.size w' u e) ∧ Md [] w w' := by
  apply f59_in
  intro n1 w2 e1 e2
  subst e1; subst e2
  have hma : Md [] w (w.alloc (.cells (t.v p) 57)) := Md.alloc w _
  have hblk : Blk (w.alloc (.cells (t.v p) 57)) w.heap.size 57 (t.l p) := heap_alloc_new w _
  have hbs : w.heap.size ≤ w.heap.size := Nat.le_refl _
  generalize hw2 : w.alloc (.cells (t.v p) 57) = w2 at *
  generalize hn1 : w.heap.size = n1 at *
  have ht2 := ht.md hma
  have hf : t.c.f.length = 256 := ht.ok.len
  -- what the box has, from here on
  have cell : ∀ {w' : World} {j : Nat} {v : Value}, Md [] w2 w' → (t.l p)[j]? = some v → w'.cell? ⟨n1, j, none⟩ = some v := fun hm hv => (hblk.md hm (by simp)).cell hv
  refine LdN_in (l := t.l p) (Tb.len hf) ?_ <| Bd_in fun cs4 hcs => ?_
  · intro k u hu
    rw [Addr.add_lit, Nat.zero_add]
    exact hblk.cell hu
  have ecs : cs4 = t.v p := hcs
  subst ecs
  refine ⟨ht2.size, (f55_ok t p w2 ht2).call (by simp) ?_⟩
  rintro v w6 rfl h6
  refine opB_in <| Bd_in fun b8 hb8 => If_in (fun h => ⟨⟨_, _, rfl, ?_⟩, hma.trans h6⟩) fun h => ?_
  · unfold PkOut; rw [(not_eq_of hb8).1 h, if_neg (by simp)]; exact ⟨rfl, rfl⟩
  have hr := (not_eq_of hb8).2 h
  have hR := RtF.of hr
  have r1 := hR.d1
  have r2 := hR.d2
  have r3 := hR.tg2
  have r4 := hR.n2
  refine Ld_in (cell h6 (Tb.at257 hf)) <| opI_in <| Bd_in fun x11 hx11 => Bd_in fun x12 hx12 => ?_
  have e12 : x12 = (((t.dm - 1).toNat : Nat) : Int) := by rw [hx12, hx11]; exact dec_u8 r1 r2
  rw [e12]
  intro n13 w14 en ew
  subst en; subst ew
  have S14 : PS w6 (w6.alloc (.cells #[.int .u8 70, .int .u8 84, .int .u8 1, .int .u8 (((t.dm - 1).toNat : Nat) : Int)] 5)) (some ⟨w6.heap.size, 0, none⟩) 4 [70, 84, 1, (t.dm - 1).toNat] :=
    ⟨Md.alloc w6 _, OwnL.lit (P := Try.prog) encb1 w6 5 [70, 84, 1, (t.dm - 1).toNat] _ (Nat.le_refl _) (by simp [maxLen]) rfl⟩
  have m2 : ∀ {w' : World} {a : Option Addr} {c : Nat} {acc : List Nat}, PS w6 w' a c acc → Md [] w2 w' := fun S => h6.trans S.md
  have ht' : ∀ {w' : World} {a : Option Addr} {c : Nat} {acc : List Nat}, PS w6 w' a c acc → TbAt w' t p := fun S => ht2.md (m2 S)
  refine Jn_in (fun us vs w' => ∃ a c, us = [.slice a (hdrL t).length c] ∧ PS w6 w' a c (hdrL t)) ?_ ?_
  · rintro us vs w17 ⟨a17, c17, rfl, S17⟩
    refine opL_in <| Ld_in (cell (m2 S17) (Tb.at260 hf)) <| opL_in <| Bd_in fun x25 hx25 => ?_
    refine LoopP_in (fun m us vs w' => ∃ (i : Nat) (a : Option Addr) (c : Nat) (acc : List Nat), us = [.slice a acc.length c, .int .i64 i] ∧ m = t.nm.length - i ∧ i ≤ t.nm.length ∧ acc = hdrL t ++ (t.nm.take i).flatMap encN ∧ PS w6 w' a c acc) t.nm.length ⟨0, _, _, hdrL t, rfl, rfl, by omega, by simp, S17⟩ ?_
    rintro m us vs w29 ⟨i, a, c, acc, rfl, rfl, hi, hacc, S29⟩
    have hal : acc.length ≤ 7 + 200 * 65 := by rw [hacc, List.length_append]; have := hR.names i; have h7 : (hdrL t).length = 7 := rfl; omega
    refine opL_in <| opI_in <| Bd_in fun b34 hb34 => If_in (fun hb => ?_) fun hb => ?_
    · rw [hb34, hx25] at hb
      simp only [decide_eq_true_eq, Int.ofNat_lt] at hb
      have hsz := hR.sz _ (List.getElem_mem hb)
      refine ⟨ht.nm.ix hb, (ht' S29).nm.ld1 hb rfl <| opStr_in <| Bd_in fun x37 hx37 => Bd_in fun x38 hx38 => ?_⟩
      rw [hx37, wrap_u8 (by omega)] at hx38
      rw [hx38]
      refine S29.appN 1 [t.nm[i].size] _ rfl rfl (by simp) (by omega) fun a1 c1 w42 S42 => opL_in ?_
      refine S42.appS _ (by simp) (by simp; omega) fun a2 c2 w47 S47 => opL_in <| Bd_in fun x51 hx51 => ?_
      rw [inc_len hb ht.nml] at hx51
      subst hx51
      exact ⟨t.nm.length - (i + 1), by omega, i + 1, a2, c2, _, rfl, rfl, by omega, by rw [take_flat hb, hacc]; simp [encN], S47⟩
    rw [hb34, hx25] at hb
    simp only [decide_eq_false_iff_not, Int.ofNat_lt] at hb
    rw [List.take_of_length_le (by omega)] at hacc
    refine RunW_in0 (slice_arr _ _) <| opL_in ?_
    refine S29.appC ⟨n1, 0, none⟩ 256 256 t.c.f hf ?_ (by simp) (by omega) fun a58 c58 w58 S58 _ => opL_in ?_
    · intro j x hx
      rw [Addr.add_lit, Nat.zero_add]
      refine cell (m2 S29) ?_
      have hj := (List.getElem?_eq_some_iff.1 hx).1
      rw [Tb.l, List.getElem?_append_left (by rw [ht.len]; omega), Cl.l, List.getElem?_append_left (by simp; omega), List.getElem?_map, hx]
      rfl
    refine Ld_in (cell (m2 S58) (Tb.at259 hf)) <| opL_in <| Bd_in fun x66 hx66 => ?_
    generalize hacc2 : acc ++ t.c.f = acc2 at *
    have hal2 : acc2.length ≤ 7 + 200 * 65 + 256 := by rw [← hacc2, List.length_append]; omega
    refine LoopP_in (fun m us vs w' => ∃ (i : Nat) (a : Option Addr) (c : Nat) (acc3 : List Nat), us = [.slice a acc3.length c, .int .i64 i] ∧ m = t.tg.length - i ∧ i ≤ t.tg.length ∧ acc3 = acc2 ++ (t.tg.take i).map tagB ∧ PS w6 w' a c acc3) t.tg.length ⟨0, a58, c58, acc2, rfl, rfl, by omega, by simp, S58⟩ ?_
    rintro m us vs w70 ⟨k, a3, c3, acc3, rfl, rfl, hk, hacc3, S70⟩
    have hal3 : acc3.length ≤ 7 + 200 * 65 + 256 + 5000 := by rw [hacc3, List.length_append, List.length_map, List.length_take]; omega
    refine opL_in <| opI_in <| Bd_in fun b75 hb75 => If_in (fun hb => ?_) fun hb => ?_
    · rw [hb75, hx66] at hb
      simp only [decide_eq_true_eq, Int.ofNat_lt] at hb
      have htag := hR.tag _ (List.getElem_mem hb)
      refine ⟨ht.tg.ix hb, (ht' S70).tg.ld1 hb rfl <| opI_in <| Bd_in fun x78 hx78 => Bd_in fun x79 hx79 => ?_⟩
      have e79 : x79 = ((tagB t.tg[k] : Nat) : Int) := by rw [hx79, hx78]; exact tag_u8 htag.1 htag.2
      rw [e79]
      refine S70.appN 1 [tagB t.tg[k]] _ rfl rfl (by simp) (by omega) fun a1 c1 w88 S88 => opL_in <| Bd_in fun x87 hx87 => ?_
      rw [inc_len hb ht.tgl] at hx87
      subst hx87
      exact ⟨t.tg.length - (k + 1), by omega, k + 1, a1, c1, _, rfl, rfl, by omega, by rw [take_map hb, hacc3]; simp, S88⟩
    rw [hb75, hx66] at hb
    simp only [decide_eq_false_iff_not, Int.ofNat_lt] at hb
    rw [List.take_of_length_le (by omega)] at hacc3
    refine Ld_in (cell (m2 S70) (Tb.at258 hf)) <| opL_in <| Bd_in fun x92 hx92 => ?_
    refine LoopP_in (fun m us vs w' => ∃ (i : Nat) (a : Option Addr) (c : Nat) (acc4 : List Nat), us = [.slice a acc4.length c, .int .i64 i] ∧ m = t.nx.length - i ∧ i ≤ t.nx.length ∧ acc4 = acc3 ++ (t.nx.take i).flatMap encX ∧ PS w6 w' a c acc4) t.nx.length ⟨0, a3, c3, acc3, rfl, rfl, by omega, by simp, S70⟩ ?_
    rintro m us vs w96 ⟨q, a4, c4, acc4, rfl, rfl, hq, hacc4, S96⟩
    have hal4 : acc4.length ≤ 7 + 200 * 65 + 256 + 5000 + 2560000 := by rw [hacc4, List.length_append]; have := hR.nexts q; omega
    refine opL_in <| opI_in <| Bd_in fun b101 hb101 => If_in (fun hb => ?_) fun hb => ?_
    · rw [hb101, hx92] at hb
      simp only [decide_eq_true_eq, Int.ofNat_lt] at hb
      have htag := hR.nxt _ (List.getElem_mem hb)
      refine ⟨ht.nx.ix hb, (ht' S96).nx.ld1 hb rfl <| opI_in <| Bd_in fun x104 hx104 => ?_⟩
      have e104 : x104 = (((t.nx[q] + 1).toNat : Nat) : Int) := by rw [hx104]; exact nat_i64 (by omega) (by omega)
      rw [e104]
      refine in156 S96 _ (by omega) (by simp) (by omega) fun a1 c1 w88 S88 _ => Bd_in fun x110 hx110 => ?_
      rw [inc_len hb ht.nxl] at hx110
      subst hx110
      exact ⟨t.nx.length - (q + 1), by omega, q + 1, a1, c1, _, rfl, rfl, by omega, by rw [take_flat hb, hacc4]; simp [encX], S88⟩
    rw [hb101, hx92] at hb
    simp only [decide_eq_false_iff_not, Int.ofNat_lt] at hb
    rw [List.take_of_length_le (by omega)] at hacc4
    have hfin : acc4 = packL t := by rw [hacc4, hacc3, ← hacc2, hacc]; rfl
    subst hfin
    refine ⟨⟨_, _, rfl, ?_⟩, (hma.trans (m2 S96))⟩
    unfold PkOut
    rw [if_pos hr]
    exact ⟨rfl, a4, c4, rfl, S96.own.down (by have := (hma.trans h6).size; omega)⟩
  · have S14d := S14.drew
    refine ⟨fun w' => Md [] w2 w', m2 S14d, .slice p.ta t.tg.length p.tc, fun w' hw' => Ld_in (cell hw' (Tb.at259 hf)) rfl, opL_in <| Bd_in fun x120 hx120 => ⟨.slice p.sa t.nm.length p.sc, fun w' hw' => Ld_in (cell hw' (Tb.at260 hf)) rfl, opL_in <| Bd_in fun x128 hx128 => Bd_in fun x129 hx129 => ?_⟩⟩
    rw [hx128, wrap_u8 (by omega)] at hx129
    rw [hx129, hx120]
    refine ⟨?_, ?_⟩
    · refine in156 S14d _ (by omega) (by simp) (by simp) fun a1 c1 w131 S131 _ => ⟨m2 S131, ?_⟩
      intro n135 w136 en ew
      subst en; subst ew
      have S136 := S131.tr (show Md [] w131 (w131.alloc (.cells #[.int .u8 ((t.nm.length : Nat) : Int)] 5)) from Md.alloc w131 _)
      refine ⟨m2 S136, S136.appC _ 1 1 [t.nm.length] rfl ?_ (by simp) (by simp) fun a2 c2 w138 S138 _ => opL_in ⟨m2 S138, a2, c2, rfl, S138⟩⟩
      intro j x hx
      refine alloc_at w131 _ 5 0 j ?_
      match j, hx with
      | 0, hx => simp at hx; subst hx; rfl
    · intro n142 w143 en ew
      subst en; subst ew
      have hmd : Md [] (w6.alloc (.cells #[.int .u8 70, .int .u8 84, .int .u8 1, .int .u8 (((t.dm - 1).toNat : Nat) : Int)] 5)).drew _ := Md.alloc _ (.cells #[.int .u8 ((t.nm.length : Nat) : Int)] 5)
      have S143 := S14d.tr hmd
      refine ⟨m2 S143, in156 S143 _ (by omega) (by simp) (by simp) fun a1 c1 w145 S145 hm145 => ⟨m2 S145, S145.appC _ 1 1 [t.nm.length] rfl ?_ (by simp) (by simp) fun a2 c2 w138 S138 _ => opL_in ⟨m2 S138, a2, c2, rfl, S138⟩⟩⟩
      intro j x hx
      refine hm145.cell (alloc_at _ _ 5 0 j ?_) ?_
      · match j, hx with
        | 0, hx => simp at hx; subst hx; rfl
      · intro hmem
        have := (S14d.blk _ hmem).2
        rw [Addr.add_lit] at this
        simp at this
end Fk
set_option linter.unusedVariables false
set_option linter.unusedSimpArgs false
set_option maxRecDepth 100000
namespace Fk
open Go Go.Proofs Go.RowKit
theorem eqNilP {P : Program} (a : Option Addr) (w : World) (o1 o2 : Operand) (t : TypeId) (e : TypeId) (ht : P.underlying t = some (.pointer e)) (hg : P.eqGuardType P.depth t = false) :
    (eqS .eql t o1 o2 (.pointer a) (.pointer none)).run P w = .ok (.bool a.isNone) w ∧ (eqS .neq t o1 o2 (.pointer a) (.pointer none)).run P w = .ok (.bool (!a.isNone)) w := by
  have h : ∀ d, (Op.equalIn (d + 1) t (.pointer a) (.pointer none)).run P w = .ok a.isNone w := by
    intro d
    cases a <;> simp [Op.equalIn, run_underlying ht]
  have h := h 9999
  constructor
  · unfold eqS eqGuard binOp Op.equal
    simp only [Sem.run_bind]
    simp [hg, h, Op.maxDepth]
  · unfold eqS eqGuard binOp Op.equal
    simp only [Sem.run_bind]
    simp [hg, h, Op.maxDepth]
/-- A part is laid. -/
theorem fold_wr (off : Nat) : ∀ (vs : List Value) (k : Nat) (cs : List Value), off + k + vs.length ≤ cs.length → (vs.zipIdx k).foldl (fun cs (c, j) => cs.setIfInBounds (off + j) c) cs.toArray = (wrL cs (off + k) vs).toArray
  | [], k, cs, h => by simp [wrL]
  | v :: vs, k, cs, h => by
    simp only [List.length_cons] at h
    rw [List.zipIdx_cons, List.foldl_cons]
    have e : cs.toArray.setIfInBounds (off + k) v = (cs.set (off + k) v).toArray := by simp
    simp only [e]
    rw [fold_wr off vs (k + 1) (cs.set (off + k) v) (by simp; omega)]
    congr 1
    apply List.ext_getElem?
    intro j
    rw [wrL_get (by simp; omega), wrL_get (by simp; omega), List.getElem?_set]
    by_cases h1 : j = off + k
    · subst h1
      have c1 : ¬ (off + (k + 1) ≤ off + k ∧ off + k < off + (k + 1) + vs.length) := by omega
      have c2 : off + k ≤ off + k ∧ off + k < off + k + (v :: vs).length := by simp
      rw [if_neg c1, if_pos c2]
      simp; omega
    · by_cases h2 : off + (k + 1) ≤ j ∧ j < off + (k + 1) + vs.length
      · have c2 : off + k ≤ j ∧ j < off + k + (v :: vs).length := by simp; omega
        rw [if_pos h2, if_pos c2, show j - (off + k) = (j - (off + (k + 1))) + 1 by omega, List.getElem?_cons_succ]
      · have c2 : ¬ (off + k ≤ j ∧ j < off + k + (v :: vs).length) := by simp; omega
        rw [if_neg h2, if_neg c2, if_neg (fun e => h1 e.symm)]
theorem fill_step' {place : Nat → Option (Nat × Nat)} {i off size : Nat} {v : Value} {rest : List (Nat × Value)} {cs : List Value} (hp : place i = some (off, size)) (hs : v.cells.size = size) (ho : off + size ≤ cs.length) :
    Instr.fill place cs.toArray ((i, v) :: rest) = Instr.fill place (wrL cs off v.cells.toList).toArray rest := by
  rw [Instr.fill]
  simp only [hp]
  have h1 : ¬ (v.cells.size ≠ size ∨ off + v.cells.size > cs.toArray.size) := by simp only [List.size_toArray]; omega
  rw [if_neg (by simpa using h1)]
  have := fold_wr off v.cells.toList 0 cs (by simp; omega)
  rw [← Array.foldl_toList, Array.toList_zipIdx, this]
  simp
end Fk
