/- Contracts of functions, and plain laws: several texts, joined. -/
import Derived.Test.YtpgjpgecgibklaaGR1
import Derived.Test.YtpgjpgecgibklaaGR0
import Derived.Test.YtpgjpgecgibklaaGK2
import Derived.WalkSmall
import Derived.Lib.SliceRun
import Derived.Test.YtpgjpgecgibklaaGV0
import Derived.Lib.AppendStr
import Derived.Laws.Cover3
import Derived.Lib.Builder
import Derived.Lib.UnsafeStr
import Derived.Laws.Externs
set_option linter.unusedVariables false
set_option linter.unusedSimpArgs false
set_option maxRecDepth 100000
namespace Fk
open Go Go.Proofs Go.RowKit
/-- A state more: all of them, and the last one's number. -/
def pst (most : Nat) (l : List Ns) (x : Ns) : List Ns × Int := (mst most l x, (mst most l x).length - 1)
def spl (a b : Int) : Ns := ⟨2, 0, 0, 0, 0, a, b, 0⟩
def setA (l : List Ns) (i k : Int) : List Ns := match l[i.toNat]? with
  | some x => l.set i.toNat { x with a := k }
  | none => l
/-- What a row of trees makes: as a row of a text; as choices; the first tree alone. -/
structure Tw where
  cat : List Ns × Int → List Ns × Int
  alt : Int → List Ns → List Ns × Option Int
  one : List Ns × Int → List Ns × Int
def twOne (most : Nat) (k a b c d : Int) (Q : Tw) (p : List Ns × Int) : List Ns × Int :=
  if p.1.length > most then p
  else if k = 1 then pst most p.1 ⟨1, a, b, c, d, p.2, 0, 0⟩
  else if k = 2 then Q.cat p
  else if k = 3 then ((Q.alt p.2 p.1).1, (Q.alt p.2 p.1).2.getD 0)
  else if k = 4 then
    let s := pst most p.1 (spl 0 p.2)
    let q := Q.one (s.1, s.2)
    (setA q.1 s.2 q.2, s.2)
  else p
def twAlt (most : Nat) (one : List Ns × Int → List Ns × Int) (R : Tw) (to : Int) (l : List Ns) : List Ns × Option Int :=
  let r := R.alt to l
  let q := one (r.1, to)
  match r.2 with
  | none => (q.1, some q.2)
  | some at' => ((pst most q.1 (spl q.2 at')).1, some (pst most q.1 (spl q.2 at')).2)
def tw (most : Nat) : Fo → Tw
  | .nil => ⟨id, fun _ l => (l, none), id⟩
  | .cons k a b c d q r =>
    let one := twOne most k a b c d (tw most q)
    ⟨fun p => one ((tw most r).cat p), twAlt most one (tw most r), one⟩
theorem mst_len (most : Nat) (l : List Ns) (x : Ns) (h : l.length ≤ most + 1) : l.length ≤ (mst most l x).length ∧ (mst most l x).length ≤ most + 1 := by
  unfold mst
  split
  · simp; omega
  · omega
theorem setA_len (l : List Ns) (i k : Int) : (setA l i k).length = l.length := by
  unfold setA
  split <;> simp
theorem tw_len (most : Nat) : ∀ f : Fo, (∀ p : List Ns × Int, p.1.length ≤ most + 1 → p.1.length ≤ ((tw most f).cat p).1.length ∧ ((tw most f).cat p).1.length ≤ most + 1) ∧
    (∀ (to : Int) (l : List Ns), l.length ≤ most + 1 → l.length ≤ ((tw most f).alt to l).1.length ∧ ((tw most f).alt to l).1.length ≤ most + 1) ∧
    (∀ p : List Ns × Int, p.1.length ≤ most + 1 → p.1.length ≤ ((tw most f).one p).1.length ∧ ((tw most f).one p).1.length ≤ most + 1)
  | .nil => ⟨fun p h => ⟨Nat.le_refl _, h⟩, fun to l h => ⟨Nat.le_refl _, h⟩, fun p h => ⟨Nat.le_refl _, h⟩⟩
  | .cons k a b c d q r => by
    obtain ⟨q1, q2, q3⟩ := tw_len most q
    obtain ⟨r1, r2, r3⟩ := tw_len most r
    have one : ∀ p : List Ns × Int, p.1.length ≤ most + 1 → p.1.length ≤ (twOne most k a b c d (tw most q) p).1.length ∧ (twOne most k a b c d (tw most q) p).1.length ≤ most + 1 := by
      intro p hp
      unfold twOne
      split
      · exact ⟨Nat.le_refl _, hp⟩
      · split
        · exact mst_len most p.1 _ hp
        · split
          · exact q1 p hp
          · split
            · exact q2 _ _ hp
            · split
              · have h1 := mst_len most p.1 (spl 0 p.2) hp
                have h2 := q3 (pst most p.1 (spl 0 p.2)) h1.2
                simp only [setA_len]
                exact ⟨Nat.le_trans h1.1 h2.1, h2.2⟩
              · exact ⟨Nat.le_refl _, hp⟩
    refine ⟨fun p hp => ?_, fun to l hl => ?_, one⟩
    · have h1 := r1 p hp
      have h2 := one _ h1.2
      exact ⟨Nat.le_trans h1.1 h2.1, h2.2⟩
    · have h1 := r2 to l hl
      have h2 := one (((tw most r).alt to l).1, to) h1.2
      show l.length ≤ (twAlt most _ _ to l).1.length ∧ (twAlt most _ _ to l).1.length ≤ most + 1
      unfold twAlt
      simp only
      split
      · exact ⟨Nat.le_trans h1.1 h2.1, h2.2⟩
      · rename_i at' _
        have h3 := mst_len most _ (spl (twOne most k a b c d (tw most q) (((tw most r).alt to l).1, to)).2 at') h2.2
        exact ⟨Nat.le_trans h1.1 (Nat.le_trans h2.1 h3.1), h3.2⟩
end Fk
set_option linter.unusedVariables false
set_option linter.unusedSimpArgs false
set_option maxRecDepth 100000
namespace Fk
open Go Go.Proofs Go.RowKit
theorem Md_frN {F F' : List Nat} {w w1 w2 : World} (h1 : Md F w w1) (h2 : Md F' w1 w2) (hf : FrN w F F') : Md F w w2 :=
  ⟨h2.os.trans h1.os, h2.tape.trans h1.tape, h2.output.trans h1.output, Nat.le_trans h1.size h2.size, fun k hk hm => (h2.blk k (Nat.lt_of_lt_of_le hk h1.size) fun hm' => by
    rcases hf k hm' with h | h
    · exact hm h
    · omega).trans (h1.blk k hk hm)⟩
def Fo.drop : Fo → Nat → Fo
  | f, 0 => f
  | .nil, _ + 1 => .nil
  | .cons _ _ _ _ _ _ r, n + 1 => r.drop n
theorem Fo.drop_len : ∀ (f : Fo) (j : Nat), (f.drop j).len = f.len - j
  | f, 0 => by simp [Fo.drop]
  | .nil, j + 1 => by simp [Fo.drop, Fo.len]
  | .cons _ _ _ _ _ _ r, j + 1 => by simp only [Fo.drop, Fo.len, Fo.drop_len r j]; omega
theorem Fo.drop_cons : ∀ (f : Fo) (j : Nat), j < f.len → ∃ k a b c d q, f.drop j = .cons k a b c d q (f.drop (j + 1)) ∧ q.size < f.size
  | .nil, j, h => by simp [Fo.len] at h
  | .cons k a b c d q r, 0, _ => ⟨k, a, b, c, d, q, by cases r <;> rfl, by simp only [Fo.size]; omega⟩
  | .cons k a b c d q r, j + 1, h => by
    obtain ⟨k', a', b', c', d', q', e, hs⟩ := Fo.drop_cons r j (by simp only [Fo.len] at h; omega)
    exact ⟨k', a', b', c', d', q', by simp only [Fo.drop]; exact e, by simp only [Fo.size]; omega⟩
theorem Fo.drop_all (f : Fo) : ∀ j, f.len ≤ j → f.drop j = .nil := by
  intro j hj
  have := Fo.drop_len f j
  cases h : f.drop j with
  | nil => rfl
  | cons => rw [h] at this; simp only [Fo.len] at this; omega
theorem RepF.drop {w : World} {A : Option Addr} : ∀ (f : Fo) (i j : Nat), RepF w A i f → RepF w A (i + j) (f.drop j)
  | f, i, 0, h => by simpa [Fo.drop] using h
  | .nil, i, j + 1, h => trivial
  | .cons _ _ _ _ _ _ r, i, j + 1, h => by
    obtain ⟨B, sa, sc, _, _, _, _, hr⟩ := h.at
    have := RepF.drop r (i + 1) j hr
    rw [show i + (j + 1) = i + 1 + j by omega]
    exact this
/-- Trees whose choices and stars have kids. -/
def Fo.gdP : Fo → Prop
  | .nil => True
  | .cons k _ _ _ _ q r => ((k = 3 ∨ k = 4) → 1 ≤ q.len) ∧ q.gdP ∧ r.gdP
theorem Fo.gdP_drop : ∀ (f : Fo) (j : Nat), f.gdP → (f.drop j).gdP
  | f, 0, h => by simpa [Fo.drop] using h
  | .nil, j + 1, h => trivial
  | .cons _ _ _ _ _ _ r, j + 1, h => Fo.gdP_drop r j h.2.2
/-- What a call of toward, or of state, brings. -/
structure Tws (w0 w : World) (n : Nat) (l : List Ns) (most : Nat) (F : List Nat) : Prop where
  mr : Mkr w n l most F
  md : Md [] w0 w
  lo : ∀ b ∈ F, w0.heap.size ≤ b
  len : l.length ≤ most + 1
theorem Tws.step {w0 w w' : World} {n : Nat} {l l' : List Ns} {most : Nat} {F F' : List Nat} (S : Tws w0 w n l most F) (h : Mkr w' n l' most F') (hm : Md F w w') (hf : FrN w F F') (hl : l'.length ≤ most + 1) : Tws w0 w' n l' most F' :=
  ⟨h, S.md.old hm S.lo, fun b hb => by rcases hf b hb with h | h; exact S.lo b h; have := S.md.size; omega, hl⟩
theorem Tws.md0 {w0 w w' : World} {n : Nat} {l : List Ns} {most : Nat} {F : List Nat} (S : Tws w0 w n l most F) (hm : Md [] w w') : Tws w0 w' n l most F := ⟨S.mr.md0 hm, S.md.trans hm, S.lo, S.len⟩
/-- Blocks that are there, and are none of the maker's. -/
def LN (L : List Nat) (w : World) (F : List Nat) : Prop := ∀ b ∈ L, b < w.heap.size ∧ b ∉ F
theorem LN.fr {L F F' : List Nat} {w w' : World} (h : LN L w F) (hf : FrN w F F') (hs : w.heap.size ≤ w'.heap.size) : LN L w' F' := fun b hb => by
  obtain ⟨h1, h2⟩ := h b hb
  refine ⟨by omega, fun hm => ?_⟩
  rcases hf b hm with h3 | h3
  · exact h2 h3
  · omega
theorem in164 {w0 w : World} {n : Nat} {l : List Ns} {most : Nat} {F L : List Nat} (S : Tws w0 w n l most F) (hL : LN L w F) (hm : most ≤ 20000) (k a b c d e f t : Int) {K : Int → World → Prop}
    (kk : ∀ F' w', Tws w0 w' n (pst most l ⟨k, a, b, c, d, e, f, t⟩).1 most F' → Md F w w' → FrN w F F' → LN L w' F' → K (pst most l ⟨k, a, b, c, d, e, f, t⟩).2 w') :
    CallW Try.prog L 164 #[.pointer (some ⟨n, 0, none⟩), .agg #[.int .u8 k, .int .u64 a, .int .u64 b, .int .u64 c, .int .u64 d, .int .i64 e, .int .i64 f, .int .i64 t]] (fun v w' => opI .i64 v fun x => K x w') w := by
  refine (f164_ok n l most F ⟨k, a, b, c, d, e, f, t⟩ w S.mr hm S.len).callD (fun b hb => (hL b hb).1) (fun b hb => (hL b hb).2) ?_
  rintro v w' ⟨rfl, F', h1, h2⟩ h'
  exact opI_in (kk F' w' (S.step h1 h' h2 (mst_len most l _ S.len).2) h' h2 (hL.fr h2 h'.size))
end Fk
set_option linter.unusedVariables false
set_option linter.unusedSimpArgs false
set_option maxRecDepth 100000
set_option maxHeartbeats 2000000
namespace Fk
open Go Go.Proofs Go.RowKit
theorem wrL_a {l : List Ns} {i : Nat} (hi : i < l.length) (y : Int) : wrL (l.flatMap nsE) (i * 8 + 5) [.int .i64 y] = (l.set i { l[i] with a := y }).flatMap nsE := by
  rw [← wrL_flat encNs l i { l[i] with a := y } hi]
  apply List.ext_getElem?
  intro j
  have hlen := encNs.lenL l
  rw [wrL_get (by simp only [List.length_cons, List.length_nil]; omega), wrL_get (by rw [encNs.len]; omega), encNs.len]
  simp only [List.length_cons, List.length_nil]
  by_cases h1 : i * 8 ≤ j ∧ j < i * 8 + 8
  · obtain ⟨r, rfl⟩ : ∃ r, j = i * 8 + r := ⟨j - i * 8, by omega⟩
    have hr : r < 8 := by omega
    rw [if_pos h1, encNs.at l i r l[i] (List.getElem?_eq_getElem hi) hr, show i * 8 + r - i * 8 = r by omega]
    rcases (by omega : r = 0 ∨ r = 1 ∨ r = 2 ∨ r = 3 ∨ r = 4 ∨ r = 5 ∨ r = 6 ∨ r = 7) with rfl | rfl | rfl | rfl | rfl | rfl | rfl | rfl
    case inr.inr.inr.inr.inr.inl => rw [if_pos (by omega)]; simp [nsE]
    all_goals (rw [if_neg (by omega)]; simp [nsE])
  · rw [if_neg h1, if_neg (by omega)]
theorem NN_in {A : Addr} {k : Addr → Prop} (h : k A) : NN (some A) k := h
theorem star_put {w0 w : World} {n : Nat} {l2 : List Ns} {most : Nat} {F : List Nat} {n1 : Nat} (S : Tws w0 w n l2 most F) (x : Int) (i : Nat) (hx : x = (i : Int)) (hi : i < l2.length) (kid : Int) (hn1 : n1 ∉ F) {K : World → Prop}
    (kk : ∀ w', Tws w0 w' n (setA l2 x kid) most F → Md F w w' → K w') :
    Ld w ((Addr.mk n 0 none).add 0) fun v115 => opL v115 fun a116 n117 n118 => IxOk x n117 a116 ∧ ¬ Addr.block (adAt a116 x 8) ∈ [n1] ∧ Wr w ((adAt a116 x 8).add 5) 1 ∧ K (setCells w ((adAt a116 x 8).add 5) 0 [.int .i64 kid]) := by
  subst hx
  obtain ⟨a, c, hk, hF⟩ := S.mr
  refine hk.blk.ld' rfl <| opL_in ?_
  have hlen := encNs.lenL l2
  obtain ⟨A, rfl, p1, p2, p3, p4, p5⟩ := own_put hk.own (i * 8 + 5) [.int .i64 kid] (by simp only [List.length_cons, List.length_nil]; omega) (by simp)
  have hA : (adAt (some A) (i : Int) 8).add 5 = A.add (i * 8 + 5) := by
    rw [← add_add]
    simp [adAt]
  have hB : (adAt (some A) (i : Int) 8).block = A.block := by simp [adAt, add_block]
  have hAF : A.block ∈ F := by rw [hF, mem_fpM]; exact .inr ⟨A, rfl, rfl⟩
  rw [wrL_a hi] at p4
  have es : setA l2 (i : Int) kid = l2.set i { l2[i] with a := kid } := by unfold setA; simp [hi]
  rw [hA, hB]
  have hne : A.block ≠ n := hk.ne A rfl
  have own' : OwnL (setCells w (A.add (i * 8 + 5)) 0 [.int .i64 kid]) 0 103 8 nsE (some A) c (l2.set i { l2[i] with a := kid }) := by
    unfold OwnL
    rw [List.length_set]; exact p4
  refine ⟨(hk.own.row encNs).ix hi, by simp; exact fun e => hn1 (e ▸ hAF), p3, kk _ ⟨⟨some A, c, ⟨?_, ?_, hk.ne⟩, hF⟩, S.md.old p5 (by simp; exact S.lo _ hAF), S.lo, by rw [es, List.length_set]; exact S.len⟩ (p5.mono (by simp; exact hAF))⟩
  · have := hk.blk.md p5 (by simp; exact fun e => hne e.symm)
    rw [es, List.length_set]; exact this
  · rw [es]; exact own'
def Tow (most : Nat) (q : Fo) : Prop := ∀ (k a b c d : Int) (sa : Option Addr) (sc : Nat) (to : Int) (n : Nat) (l : List Ns) (F : List Nat) (w0 w : World), RepF w0 sa 0 q → q.len < 2 ^ 63 → ((k = 3 ∨ k = 4) → 1 ≤ q.len) → q.gdP → Tws w0 w n l most F →
    Ct Try.prog 163 #[.pointer (some ⟨n, 0, none⟩), .agg #[.int .u8 k, .int .u64 a, .int .u64 b, .int .u64 c, .int .u64 d, .slice sa q.len sc], .int .i64 to] w
      fun v w' => (v = .int .i64 (twOne most k a b c d (tw most q) (l, to)).2 ∧ ∃ F', Tws w0 w' n (twOne most k a b c d (tw most q) (l, to)).1 most F' ∧ FrN w F F') ∧ Md F w w'
theorem in163 {most : Nat} {q : Fo} (hT : Tow most q) {k a b c d : Int} {sa : Option Addr} {sc : Nat} (to : Int) {n : Nat} {l : List Ns} {F L : List Nat} {w0 w : World} (h1 : RepF w0 sa 0 q) (h2 : q.len < 2 ^ 63) (h3 : (k = 3 ∨ k = 4) → 1 ≤ q.len) (h4 : q.gdP) (S : Tws w0 w n l most F) (hL : LN L w F) {K : Int → World → Prop}
    (kk : ∀ F' w', Tws w0 w' n (twOne most k a b c d (tw most q) (l, to)).1 most F' → Md F w w' → FrN w F F' → LN L w' F' → K (twOne most k a b c d (tw most q) (l, to)).2 w') :
    CallW Try.prog L 163 #[.pointer (some ⟨n, 0, none⟩), .agg #[.int .u8 k, .int .u64 a, .int .u64 b, .int .u64 c, .int .u64 d, .slice sa q.len sc], .int .i64 to] (fun v w' => opI .i64 v fun x => K x w') w := by
  refine (hT k a b c d sa sc to n l F w0 w h1 h2 h3 h4 S).callD (fun b hb => (hL b hb).1) (fun b hb => (hL b hb).2) ?_
  rintro v w' ⟨rfl, F', h5, h6⟩ h'
  exact opI_in (kk F' w' h5 h' h6 (hL.fr h6 h'.size))
/-- A kid is read. -/
theorem kid_ld {w0 w : World} {sa : Option Addr} {q : Fo} {j : Nat} {k a b c d : Int} {q' : Fo} (h : RepF w0 sa 0 q) (hm : Md [] w0 w) (he : q.drop j = .cons k a b c d q' (q.drop (j + 1))) (hj : j < q.len) {K : Int → Int → Int → Int → Int → Option Addr → Nat → Nat → Prop}
    (kk : ∀ sa' sc', q'.len < 2 ^ 63 → RepF w0 sa' 0 q' → K k a b c d sa' q'.len sc') :
    IxOk (j : Int) q.len sa ∧ Ld w ((adAt sa (j : Int) 6).add 0) fun v14 => Ld w ((adAt sa (j : Int) 6).add 1) fun v15 => Ld w ((adAt sa (j : Int) 6).add 2) fun v16 => Ld w ((adAt sa (j : Int) 6).add 3) fun v17 => Ld w ((adAt sa (j : Int) 6).add 4) fun v18 => Ld w ((adAt sa (j : Int) 6).add 5) fun v19 =>
      opI .u8 v14 fun x20 => opI .u64 v15 fun x21 => opI .u64 v16 fun x22 => opI .u64 v17 fun x23 => opI .u64 v18 fun x24 => opL v19 fun a25 n26 n27 => K x20 x21 x22 x23 x24 a25 n26 n27 := by
  have := h.drop q 0 j
  rw [he, Nat.zero_add] at this
  obtain ⟨B, sa', sc', rfl, hc, hql, hq, _⟩ := this.at
  exact ⟨⟨by omega, by omega, rfl⟩, ReC.ld (hc.md hm) (kk sa' sc' hql hq)⟩
theorem f163_step (most : Nat) (hm : most ≤ 20000) (q : Fo) (ih : ∀ q' : Fo, q'.size < q.size → Tow most q') : Tow most q := by
  intro k a b c d sa sc to n l F w0 w hr hql hk34 hgood S
  apply f163_in
  intro n1 hn1 w2 h2 hL2
  have S2 := S.md0 h2
  refine (f165_ok n l most F w2 S2.mr).call hL2 ?_
  rintro v w4 rfl m4
  have S4 := S2.md0 m4
  have m24 := h2.trans m4
  have l1 : n1 < w4.heap.size := by have := hL2 n1 (by simp); have := m4.size; omega
  have hLN : LN [n1] w4 F := fun b hb => by
    simp at hb; subst hb
    exact ⟨l1, fun hm => by have := S.mr.lt _ hm; omega⟩
  refine opB_in <| If_in (fun hb => ?_) fun hb => Bd_e rfl <| Bd_e (y := (q.len : Int) - 1) (by rw [IntKind.wrap_i64]; omega) ?_
  · have hfull : l.length > most := by simpa using hb
    have e : twOne most k a b c d (tw most q) (l, to) = (l, to) := by unfold twOne; rw [if_pos hfull]
    rw [e]
    exact ⟨⟨rfl, F, S4, FrN.refl _ _⟩, m24.mono (by simp)⟩
  have hnf : ¬ l.length > most := by simpa using hb
  have up : ∀ {F' : List Nat} {w' : World} {l' : List Ns}, Tws w0 w' n l' most F' → Md F w4 w' → FrN w4 F F' → (∃ F', Tws w0 w' n l' most F' ∧ FrN w F F') ∧ Md F w w' := fun {F' w' l'} h1 h2 h3 =>
    ⟨⟨F', h1, fun b hb => by rcases h3 b hb with h | h; exact .inl h; have := m24.size; right; omega⟩, Md_frN (m24.mono (by simp)) h2 (FrN.refl _ _)⟩
  refine Jn_in (fun us vs w' => ∃ (x y : Int) (b1 b2 : Bool), us = [.int .i64 x, .int .i64 y, .bool b1, .bool b2] ∧ x = (twOne most k a b c d (tw most q) (l, to)).2 ∧ (∃ F', Tws w0 w' n (twOne most k a b c d (tw most q) (l, to)).1 most F' ∧ FrN w F F') ∧ Md F w w') ?_ ?_
  · rintro us vs w10 ⟨x, y, b1, b2, rfl, rfl, h3, h4⟩
    exact opI_in <| opI_in <| opB_in <| opB_in ⟨⟨rfl, h3⟩, h4⟩
  refine Bd_in fun b16 hb16 => If_in (fun hb => ?_) fun hb1 => ?_
  · have hk : k = 1 := by rw [hb16] at hb; simpa using hb
    have e : twOne most k a b c d (tw most q) (l, to) = pst most l ⟨1, a, b, c, d, to, 0, 0⟩ := by unfold twOne; rw [if_neg hnf, if_pos hk]
    rw [e]
    refine in164 S4 hLN hm 1 a b c d to 0 0 fun F' w18 S18 m18 f18 _ => ?_
    obtain ⟨u1, u2⟩ := up S18 m18 f18
    exact ⟨⟨rfl, u1⟩, u2⟩

  have hk1 : k ≠ 1 := by rw [hb16] at hb1; simpa using hb1
  refine Bd_in fun b20 hb20 => If_in (fun hb => ?_) fun hb2 => ?_
  · have hk : k = 2 := by rw [hb20] at hb; simpa using hb
    have e : twOne most k a b c d (tw most q) (l, to) = (tw most q).cat (l, to) := by unfold twOne; rw [if_neg hnf, if_neg hk1, if_pos hk]
    refine LoopP_in (fun mm us vs w' => ∃ (j : Nat) (x : Int) (l' : List Ns) (F' : List Nat), us = [.int .i64 x, .int .i64 ((j : Int) - 1)] ∧ mm = j ∧ j ≤ q.len ∧ (tw most (q.drop j)).cat (l, to) = (l', x) ∧ Tws w0 w' n l' most F' ∧ Md F w4 w' ∧ FrN w4 F F' ∧ LN [n1] w' F') q.len
      ⟨q.len, to, l, F, rfl, rfl, Nat.le_refl _, by rw [Fo.drop_all q _ (Nat.le_refl _)]; rfl, S4, Md.refl _ _, FrN.refl _ _, hLN⟩ ?_
    rintro mm us vs w24 ⟨j, x, l', F', rfl, hmm, hj, hc, St, m, f, hL⟩
    refine opI_in <| opI_in <| Bd_in fun b27 hb27 => If_in (fun hb => ?_) fun hb => ?_
    · have hj1 : (j : Int) - 1 ≥ 0 := by rw [hb27] at hb; exact of_decide_eq_true hb
      obtain ⟨i, rfl⟩ : ∃ i, j = i + 1 := ⟨j - 1, by omega⟩
      have ei : (((i + 1 : Nat) : Int) - 1) = (i : Int) := by omega
      rw [ei]
      obtain ⟨k', a', b', c', d', q', he, hqs⟩ := Fo.drop_cons q i hj
      have hg := q.gdP_drop i hgood
      rw [he] at hg
      refine kid_ld hr St.md he hj fun sa' sc' hql' hr' => ?_
      refine in163 (ih q' hqs) x hr' hql' hg.1 hg.2.1 St hL fun F2 w43 S43 m43 f43 lf43 => Bd_e (y := (i : Int) - 1) (by rw [IntKind.wrap_i64]; omega) ⟨i, by omega, i, _, _, F2, rfl, rfl, by omega, ?_, S43, Md_frN m m43 f, f.trans f43 m.size, lf43⟩
      rw [he]
      show twOne most k' a' b' c' d' (tw most q') ((tw most (q.drop (i + 1))).cat (l, to)) = _
      rw [hc]
    · have hj1 : ¬ (j : Int) - 1 ≥ 0 := by rw [hb27] at hb; exact of_decide_eq_false hb
      have hj0 : j = 0 := by omega
      subst hj0
      obtain ⟨u1, u2⟩ := up St m f
      have hc' : (tw most q).cat (l, to) = (l', x) := by simpa [Fo.drop] using hc
      rw [e, hc']
      exact ⟨x, 0, b16, b20, rfl, rfl, u1, u2⟩
  have hk2 : k ≠ 2 := by rw [hb20] at hb2; simpa using hb2
  refine Bd_in fun b46 hb46 => If_in (fun hb => ?_) fun hb3 => ?_
  · have hk : k = 3 := by rw [hb46] at hb; simpa using hb
    have e : twOne most k a b c d (tw most q) (l, to) = (((tw most q).alt to l).1, ((tw most q).alt to l).2.getD 0) := by unfold twOne; rw [if_neg hnf, if_neg hk1, if_neg hk2, if_pos hk]
    have hl1 := hk34 (.inl hk)
    obtain ⟨j0, hj0⟩ : ∃ j0, q.len = j0 + 1 := ⟨q.len - 1, by omega⟩
    have ei : (q.len : Int) - 1 = (j0 : Int) := by omega
    rw [ei]
    obtain ⟨k', a', b', c', d', q', he, hqs⟩ := Fo.drop_cons q j0 (by omega)
    have hg := q.gdP_drop j0 hgood
    rw [he] at hg
    refine kid_ld hr S4.md he (by omega) fun sa' sc' hql' hr' => ?_
    refine in163 (ih q' hqs) to hr' hql' hg.1 hg.2.1 S4 hLN fun F1 w62 S62 m62 f62 lf62 => Bd_e (y := (j0 : Int) - 1) (by rw [IntKind.wrap_i64]; omega) ?_
    refine LoopP_in (fun mm us vs w' => ∃ (j : Nat) (x : Int) (l' : List Ns) (F' : List Nat), us = [.int .i64 x, .int .i64 ((j : Int) - 1)] ∧ mm = j ∧ j ≤ j0 ∧ (tw most (q.drop j)).alt to l = (l', some x) ∧ Tws w0 w' n l' most F' ∧ Md F w4 w' ∧ FrN w4 F F' ∧ LN [n1] w' F') j0
      ⟨j0, _, _, F1, rfl, rfl, Nat.le_refl _, by rw [he, Fo.drop_all q _ (by omega)]; rfl, S62, m62, f62, lf62⟩ ?_
    rintro mm us vs w24 ⟨j, x, l', F', rfl, hmm, hj, hc, St, m, f, hL⟩
    refine opI_in <| opI_in <| Bd_in fun b27 hb27 => If_in (fun hb => ?_) fun hb => ?_
    · have hj1 : (j : Int) - 1 ≥ 0 := by rw [hb27] at hb; exact of_decide_eq_true hb
      obtain ⟨i, rfl⟩ : ∃ i, j = i + 1 := ⟨j - 1, by omega⟩
      have ei : (((i + 1 : Nat) : Int) - 1) = (i : Int) := by omega
      rw [ei]
      obtain ⟨k2, a2, b2, c2, d2, q2, he2, hqs2⟩ := Fo.drop_cons q i (by omega)
      have hg2 := q.gdP_drop i hgood
      rw [he2] at hg2
      refine kid_ld hr St.md he2 (by omega) fun sa' sc' hql' hr' => ?_
      refine in163 (ih q2 hqs2) to hr' hql' hg2.1 hg2.2.1 St hL fun F2 w43 S43 m43 f43 lf43 => ?_
      refine in164 S43 lf43 hm 2 0 0 0 0 _ x 0 fun F3 w44 S44 m44 f44 lf44 => Bd_e (y := (i : Int) - 1) (by rw [IntKind.wrap_i64]; omega) ⟨i, by omega, i, _, _, F3, rfl, rfl, by omega, ?_, S44, Md_frN (Md_frN m m43 f) m44 (f.trans f43 m.size), (f.trans f43 m.size).trans f44 (by have := m.size; have := m43.size; omega), lf44⟩
      rw [he2]
      show twAlt most (twOne most k2 a2 b2 c2 d2 (tw most q2)) (tw most (q.drop (i + 1))) to l = _
      unfold twAlt
      simp only [hc]
      rfl
    · have hj1 : ¬ (j : Int) - 1 ≥ 0 := by rw [hb27] at hb; exact of_decide_eq_false hb
      have hj0 : j = 0 := by omega
      subst hj0
      obtain ⟨u1, u2⟩ := up St m f
      have hc' : (tw most q).alt to l = (l', some x) := by simpa [Fo.drop] using hc
      rw [e, hc']
      exact ⟨⟨rfl, u1⟩, u2⟩
  have hk3 : k ≠ 3 := by rw [hb46] at hb3; simpa using hb3
  refine Bd_in fun b93 hb93 => If_in (fun hb => ?_) fun hb4 => ?_
  case refine_2 =>
    have hk4 : k ≠ 4 := by rw [hb93] at hb4; simpa using hb4
    have e : twOne most k a b c d (tw most q) (l, to) = (l, to) := by unfold twOne; rw [if_neg hnf, if_neg hk1, if_neg hk2, if_neg hk3, if_neg hk4]
    obtain ⟨u1, u2⟩ := up S4 (Md.refl _ _) (FrN.refl _ _)
    rw [e]
    exact ⟨to, 0, b16, b20, rfl, rfl, u1, u2⟩
  have hk : k = 4 := by rw [hb93] at hb; simpa using hb
  have e : twOne most k a b c d (tw most q) (l, to) = (setA ((tw most q).one (pst most l (spl 0 to))).1 (pst most l (spl 0 to)).2 ((tw most q).one (pst most l (spl 0 to))).2, (pst most l (spl 0 to)).2) := by unfold twOne; rw [if_neg hnf, if_neg hk1, if_neg hk2, if_neg hk3, if_pos hk]
  have hl1 := hk34 (.inr hk)
  obtain ⟨k', a', b', c', d', q', he, hqs⟩ := Fo.drop_cons q 0 (by omega)
  have he0 : q = .cons k' a' b' c' d' q' (q.drop 1) := by have := he; simpa [Fo.drop] using this
  have hg := hgood
  rw [he0] at hg
  refine in164 S4 hLN hm 2 0 0 0 0 0 to 0 fun F1 w95 S95 m95 f95 lf95 => kid_ld (j := 0) hr S95.md he (by omega) fun sa' sc' hql' hr' => ?_
  refine in163 (ih q' hqs) _ hr' hql' hg.1 hg.2.1 S95 lf95 fun F2 w112 S112 m112 f112 lf112 => ?_
  have eone : (tw most q).one = twOne most k' a' b' c' d' (tw most q') := by rw [he0]; rfl
  have hlp := (tw_len most q).2.2 (pst most l (spl 0 to)) S95.len
  rw [eone] at e hlp
  have hp1 : 1 ≤ (pst most l (spl 0 to)).1.length := by show 1 ≤ (mst most l _).length; unfold mst; split <;> (try simp) <;> omega
  have hp2 : (pst most l (spl 0 to)).2 = ((pst most l (spl 0 to)).1.length : Int) - 1 := rfl
  change Tws w0 w112 n (twOne most k' a' b' c' d' (tw most q') (pst most l (spl 0 to))).1 most F2 at S112
  rw [e]
  refine NN_in <| star_put (K := fun w' => (Value.int .i64 (pst most l (spl 0 to)).2 = .int .i64 (pst most l (spl 0 to)).2 ∧ ∃ F', Tws w0 w' n (setA (twOne most k' a' b' c' d' (tw most q') (pst most l (spl 0 to))).1 (pst most l (spl 0 to)).2 (twOne most k' a' b' c' d' (tw most q') (pst most l (spl 0 to))).2) most F' ∧ FrN w F F') ∧ Md F w w') S112 (pst most l (spl 0 to)).2 ((pst most l (spl 0 to)).1.length - 1) (by omega) (by omega) _ (lf112 n1 (by simp)).2 fun w' S' m' => ?_
  have mm := Md_frN (Md_frN m95 m112 f95) m' ((f95.trans f112 m95.size))
  obtain ⟨u1, u2⟩ := up S' mm (f95.trans f112 m95.size)
  exact ⟨⟨rfl, u1⟩, u2⟩
theorem tow_ok (most : Nat) (hm : most ≤ 20000) : ∀ (s : Nat) (q : Fo), q.size < s → Tow most q
  | 0, q, h => by omega
  | s + 1, q, h => f163_step most hm q fun q' h' => tow_ok most hm s q' (by omega)
end Fk
set_option linter.unusedVariables false
set_option linter.unusedSimpArgs false
set_option maxRecDepth 100000
namespace Fk
open Go Go.Proofs Go.RowKit
theorem good_of_right : ∀ f : Fo, f.right = true → f.gdP
  | .nil, _ => trivial
  | .cons k a b c d q r, h => by
    simp only [Fo.right, Bool.and_eq_true] at h
    refine ⟨fun hk => ?_, good_of_right q h.1.2, good_of_right r h.2⟩
    have h1 := h.1.1
    unfold nodeOk at h1
    rcases hk with rfl | rfl <;> simp at h1 <;> omega
/-- The trees of a row, one behind the other: an end, what the tree makes, and where it begins. -/
def bldF (most : Nat) : Fo → Int → List Ns → List Int → List Ns × List Int
  | .nil, _, l, bs => (l, bs)
  | .cons k a b c d q r, i, l, bs =>
    let s := pst most l ⟨0, 0, 0, 0, 0, 0, 0, i⟩
    let t := twOne most k a b c d (tw most q) s
    bldF most r (i + 1) t.1 (bs ++ [t.2])
/-- The beginnings, joined from the last one on. -/
def joinB (most : Nat) : List Int → List Ns → List Ns × Int
  | [], l => (l, 0)
  | b :: bs, l => match bs with
    | [] => (l, b)
    | _ :: _ => pst most (joinB most bs l).1 (spl b (joinB most bs l).2)
def bld (f : Fo) (most : Int) : (Int × List Ns) × Int :=
  if 1 ≤ f.len ∧ f.len ≤ 200 ∧ 1 ≤ most ∧ most ≤ 20000 ∧ f.right = true then
    let t := bldF most.toNat f 0 [] []
    let j := joinB most.toNat t.2 t.1
    if (j.1.length : Int) > most then ((0, []), 40) else ((j.2, j.1), 0)
  else ((0, []), 2)
end Fk
set_option linter.unusedVariables false
set_option linter.unusedSimpArgs false
set_option maxRecDepth 100000
set_option maxHeartbeats 2000000
namespace Fk
open Go Go.Proofs Go.RowKit
theorem OwnL.up {α : Type} {w : World} {base b : Nat} {e : TypeId} {size : Nat} {enc : α → List Value} {a : Option Addr} {c : Nat} {l : List α} (h : OwnL w base e size enc a c l) (hb : ∀ A, a = some A → b ≤ A.block) : OwnL w b e size enc a c l := by
  refine ⟨h.1, ?_⟩
  rcases h.2 with hn | ⟨g, cap, cur, hv, hb', rest⟩
  · exact .inl hn
  · refine .inr ⟨g, cap, cur, hv, ?_, rest⟩
    simp only [Value.slice.injEq] at hv
    exact hb _ hv.1
theorem right_take : ∀ (f : Fo) (j : Nat), f.right = true → (f.drop j).right = true
  | f, 0, h => by simpa [Fo.drop] using h
  | .nil, j + 1, h => rfl
  | .cons _ _ _ _ _ _ r, j + 1, h => by
    simp only [Fo.right, Bool.and_eq_true] at h
    exact right_take r j h.2
theorem right_pre {f : Fo} {j : Nat} {k a b c d : Int} {q : Fo} (he : f.drop j = .cons k a b c d q (f.drop (j + 1))) (h : f.right = true) : nodeOk k (z4 a b c d) q.len = true ∧ q.right = true := by
  have := right_take f j h
  rw [he] at this
  simp only [Fo.right, Bool.and_eq_true] at this
  exact this.1
theorem right_at : ∀ (f : Fo), (∀ j k a b c d q, j < f.len → f.drop j = .cons k a b c d q (f.drop (j + 1)) → nodeOk k (z4 a b c d) q.len = true ∧ q.right = true) → f.right = true
  | .nil, _ => rfl
  | .cons k a b c d q r, h => by
    have h0 := h 0 k a b c d q (by simp [Fo.len]) (by simp only [Fo.drop])
    have hr := right_at r fun j k' a' b' c' d' q' hj he => h (j + 1) k' a' b' c' d' q' (by simp only [Fo.len]; omega) (by simp only [Fo.drop]; exact he)
    simp only [Fo.right, Bool.and_eq_true]
    exact ⟨⟨h0.1, h0.2⟩, hr⟩
/-- All trees are asked, as long as they are right. -/
def firstR (f : Fo) (i : Nat) : Prop := ∀ j k a b c d q, j < i → f.drop j = .cons k a b c d q (f.drop (j + 1)) → nodeOk k (z4 a b c d) q.len = true ∧ q.right = true
end Fk
set_option linter.unusedVariables false
set_option linter.unusedSimpArgs false
set_option maxRecDepth 100000
set_option maxHeartbeats 2000000
namespace Fk
open Go Go.Proofs Go.RowKit
theorem Nw_i {o : Obj} {w : World} {K : Nat → World → Prop} (k : K w.heap.size (w.alloc o)) : Nw o w K := fun _ _ e1 e2 => by subst e1; subst e2; exact k
theorem f66_ok (f : Fo) (A : Option Addr) (C : Nat) (most : Int) (w : World) (hr : RepF w A 0 f) (hl : f.len < 2 ^ 63) :
    Ct Try.prog 66 #[.slice A f.len C, .int .i64 most] w fun v w' => (∃ a c, v = .tuple #[.agg #[.int .i64 (bld f most).1.1, .slice a (bld f most).1.2.length c], .int .i64 (bld f most).2] ∧ OwnL w' w.heap.size 103 8 nsE a c (bld f most).1.2) ∧ Md [] w w' := by
  apply f66_in
  intro n1 hn1
  refine Bd_e rfl <| Bd_in fun b3 hb3 => Bd_e rfl <| Bd_in fun b5 hb5 => Bd_in fun b6 hb6 => Bd_in fun b7 hb7 => Bd_in fun b8 hb8 => Bd_in fun b9 hb9 => Bd_in fun b10 hb10 w11 h11 hL11 => ?_
  have e10 : b10 = decide (1 ≤ f.len ∧ f.len ≤ 200 ∧ 1 ≤ most ∧ most ≤ 20000) := by
    rw [hb10, hb8, hb9, hb6, hb7, hb3, hb5]
    by_cases c1 : 1 ≤ f.len <;> by_cases c2 : f.len ≤ 200 <;> by_cases c3 : 1 ≤ most <;> by_cases c4 : most ≤ 20000 <;> simp [c1, c2, c3, c4] <;> omega
  refine LoopP_in (fun mm us vs w' => ∃ (i : Nat) (b : Bool), us = [.bool b, .int .i64 i] ∧ mm = f.len - i ∧ i ≤ f.len ∧ Md [] w w' ∧ n1 < w'.heap.size ∧ (b = true → b10 = true ∧ firstR f i) ∧ (b = false → b10 = false ∨ f.right = false)) f.len ⟨0, b10, rfl, rfl, by omega, h11, hL11 n1 (by simp), fun h => ⟨h, fun j _ _ _ _ _ _ hj => by omega⟩, fun h => .inl h⟩ ?_
  rintro mm us vs w15 ⟨i, b, rfl, hmm, hi, hmd, hn, hT, hFl⟩
  refine opB_in <| opI_in <| Bd_e rfl <| Bd_in fun b19 hb19 => Bd_in fun b20 hb20 => If_in (fun hb => ?_) fun hb => Bd_in fun b39 hb39 => If_in (fun hno w40 h40 hL40 => ?_) fun hyes => ?_
  · have hbt : i < f.len ∧ b = true := by
      rw [hb20, hb19] at hb
      by_cases c : i < f.len
      · simp [c] at hb; exact ⟨c, hb⟩
      · simp [c] at hb
    obtain ⟨k, a, b', c, d, q, he, hqs⟩ := Fo.drop_cons f i hbt.1
    refine kid_ld hr hmd he hbt.1 fun sa' sc' hql' hr' => ?_
    refine (f144_ok q.size q k a b' c d sa' sc' w15 (Nat.le_refl _) (hr'.md hmd) hql').call (by simpa using hn) ?_
    rintro v w36 rfl m36
    obtain ⟨g1, g2⟩ := hT hbt.2
    refine opB_in <| Bd_e (y := ((i + 1 : Nat) : Int)) (by rw [IntKind.wrap_i64]; omega) ⟨f.len - (i + 1), by omega, i + 1, _, rfl, rfl, by omega, hmd.trans m36, by have := m36.size; omega, fun h => ⟨g1, fun j k' a' b'' c' d' q' hj he' => ?_⟩, fun h => .inr ?_⟩
    · by_cases hji : j < i
      · exact g2 j _ _ _ _ _ _ hji he'
      · have : j = i := by omega
        subst this
        rw [he] at he'
        injection he' with e1 e2 e3 e4 e5 e6
        subst e1; subst e2; subst e3; subst e4; subst e5; subst e6
        simpa using h
    · by_cases hfr : f.right = true
      · have := right_pre he hfr
        rw [this.1, this.2] at h
        simp at h
      · simpa using hfr
  · have hbf : b = false := by rw [hb39] at hno; simpa using hno
    have m40 : Md [] w w40 := hmd.old h40 (by simp; exact hn1)
    have e : bld f most = ((0, []), 2) := by
      unfold bld
      rw [if_neg]
      rintro ⟨h1, h2, h3, h4, h5⟩
      rcases hFl hbf with h | h
      · rw [e10, decide_eq_true ⟨h1, h2, h3, h4⟩] at h; cases h
      · rw [h5] at h; cases h
    rw [e]
    exact ⟨⟨none, 0, rfl, OwnL.nil _ _ _ _ _⟩, m40⟩
  have hbt : b = true := by rw [hb39] at hyes; simpa using hyes
  have hif : i = f.len := by
    rw [hb20, hb19, hbt] at hb
    have : ¬ (i : Int) < (f.len : Int) := by simpa using hb
    omega
  subst hif
  obtain ⟨g1, g2⟩ := hT hbt
  have hright : f.right = true := right_at f fun j k a b c d q hj he => g2 j k a b c d q hj he
  have hcond : 1 ≤ f.len ∧ f.len ≤ 200 ∧ 1 ≤ most ∧ most ≤ 20000 := by rw [g1] at e10; exact of_decide_eq_true e10.symm
  obtain ⟨mo, rfl⟩ := Int.eq_ofNat_of_zero_le (show 0 ≤ most by omega)
  have hgood := good_of_right f hright
  intro n41 w42 e41 e42
  subst e41; subst e42
  have ma : Md [] w15 (w15.alloc (.cells #[.slice none 0 0, .int .i64 mo] 214)) := Md.alloc w15 _
  have b42 : Blk (w15.alloc (.cells #[.slice none 0 0, .int .i64 mo] 214)) w15.heap.size 214 [.slice none 0 0, .int .i64 mo] := Blk.new w15 _ 214
  have T42 : Tws w (w15.alloc (.cells #[.slice none 0 0, .int .i64 mo] 214)) w15.heap.size [] mo (fpM w15.heap.size none) := ⟨⟨none, 0, ⟨b42, OwnL.nil _ _ _ _ _, fun A hA => by cases hA⟩, rfl⟩, hmd.trans ma, (fun b hb => by
    rw [mem_fpM] at hb
    rcases hb with rfl | ⟨A, hA, _⟩
    · exact hmd.size
    · cases hA), Nat.zero_le _⟩
  have hn42 : n1 < (w15.alloc (.cells #[.slice none 0 0, .int .i64 mo] 214)).heap.size := by have := ma.size; omega
  have hn1n : LN [n1] (w15.alloc (.cells #[.slice none 0 0, .int .i64 mo] 214)) (fpM w15.heap.size none) := fun b hb => by
    simp at hb; subst hb
    refine ⟨hn42, fun hm => ?_⟩
    rw [mem_fpM] at hm
    rcases hm with h | ⟨A, hA, _⟩
    · omega
    · cases hA
  refine Bd_e rfl ?_
  generalize w15.alloc (.cells #[.slice none 0 0, .int .i64 mo] 214) = w42 at *
  generalize hF0 : fpM w15.heap.size none = F0 at *
  generalize w15.heap.size = n41 at *
  refine LoopP_in (fun mm us vs w' => ∃ (i : Nat) (a : Option Addr) (c : Nat) (l : List Ns) (bs : List Int) (F : List Nat), us = [.slice a bs.length c, .int .i64 i] ∧ mm = f.len - i ∧ i ≤ f.len ∧ bldF mo (f.drop i) i l bs = bldF mo f 0 [] [] ∧ Tws w w' n41 l mo F ∧ OwnL w' w.heap.size 3 1 i1 a c bs ∧ (∀ A, a = some A → A.block ∉ F) ∧ bs.length = i ∧ LN [n1] w' F ∧ (∀ A, a = some A → A.block ≠ n1)) f.len
    ⟨0, none, 0, [], [], F0, rfl, rfl, by omega, by simp [Fo.drop], T42, OwnL.nil _ _ _ _ _, (fun A hA => by cases hA), rfl, hn1n, fun A hA => by cases hA⟩ ?_
  rintro mm us vs w47 ⟨i, a, c, l, bs, F, rfl, hmm, hi, hbl, T, ho, haF, hbs, hL, ha1⟩
  refine opL_in <| opI_in <| Bd_in fun b52 hb52 => If_in (fun hb => ?_) fun hb => ?_
  · have hi' : i < f.len := by rw [hb52] at hb; have : (i : Int) < (f.len : Int) := by simpa using hb
                               omega
    obtain ⟨k, a1, b1', c1, d1, q, he, hqs⟩ := Fo.drop_cons f i hi'
    have hg := f.gdP_drop i hgood
    rw [he] at hg
    refine kid_ld hr T.md he hi' fun sa' sc' hql' hr' n67 hn67 w68 h68 hL68 => ?_
    have m68 : Md [] w47 w68 := h68.fresh (by simp; exact hn67)
    have T68 := (T.md0 m68).md0 (Md_drew w68)
    have L68 : LN [n67, n1] w68.drew F := fun b hb => by
      refine ⟨hL68 b hb, fun hm => ?_⟩
      simp at hb
      rcases hb with rfl | rfl
      · have := T.mr.lt _ hm; omega
      · exact (hL _ (by simp)).2 hm
    refine ⟨fun _ => True, trivial, in164 T68 L68 (by omega) 0 0 0 0 0 0 0 i fun F1 w71 T71 m71 f71 L71 => ⟨trivial, in163 (tow_ok mo (by omega) (q.size + 1) q (by omega)) _ hr' hql' hg.1 hg.2.1 T71 L71 fun F2 w74 T74 m74 f74 L74 => ⟨trivial, Nw_i ⟨trivial, ?_⟩⟩⟩⟩
    have mF : Md F w47 w74 := Md_frN (Md_frN (m68.trans (Md_drew w68) |>.mono (by simp)) m71 (FrN.refl _ _)) m74 (fun b hb => by
      rcases f71 b hb with h | h
      · exact .inl h
      · right; have := m68.size; have h2 : w68.drew.heap.size = w68.heap.size := rfl; omega)
    have ho74 : OwnL w74 w.heap.size 3 1 i1 a c bs := ho.mdD mF haF
    generalize hx75 : (twOne mo k a1 b1' c1 d1 (tw mo q) (_, _)).2 = x75
    have ma74 : Md [] w74 (w74.alloc (.cells #[.int .i64 x75] 3)) := Md.alloc w74 _
    have ol := OwnL.lit (P := Try.prog) (base := w74.heap.size) enci1 w74 3 [x75] #[.int .i64 x75] (Nat.le_refl _) (by simp [maxLen]) rfl
    have s1 := m68.size
    have s2 : w68.drew.heap.size = w68.heap.size := rfl
    have s3 := m71.size
    have s4 := m74.size
    have s5 := ma74.size
    have s0 := T.md.size
    have haF2 : ∀ A, a = some A → A.block ∉ F2 := fun A hA hm => by
      have hlt := (ho.lt hA).2
      rcases f74 _ hm with h | h
      · rcases f71 _ h with h | h
        · exact haF A hA h
        · omega
      · omega
    have hsp : ∀ A, a = some A → A.block ≠ n67 := fun A hA => by have := (ho.lt hA).2; omega
    refine app_own rowT52 enci1 (ho74.md ma74) ol (by omega) (fun b hb => by have := (L74 b hb).1; omega) (fun b hb A hA => by
      simp at hb
      rcases hb with rfl | rfl
      · exact hsp A hA
      · exact ha1 A hA) (by simp [maxLen]; omega) (by simp; omega) fun a' c' w79 o79 m79 hA' => opL_in ⟨trivial, Bd_e (inc_i64 (by omega)) ?_⟩
    have mT : Md [] w w74 := T74.md
    have T79 : Tws w w79 n41 _ mo F2 := ⟨(T74.md0 ma74).mr.md m79 (fun b hb hm => by
      cases a with
      | none => simp at hm
      | some A => simp at hm; exact haF2 A rfl (hm ▸ hb)), (T74.md0 ma74).md.old m79 (fun d hd => by
      cases a with
      | none => simp at hd
      | some A => simp at hd; rw [hd]; exact (ho.lt rfl).1), T74.lo, T74.len⟩
    have s6 := m79.size
    refine ⟨f.len - (i + 1), by omega, i + 1, a', c', _, bs ++ [x75], F2, rfl, rfl, by omega, ?_, T79, o79, fun A hA hm => ?_, by simp; omega, fun b hb => ?_, fun A hA e => ?_⟩
    · rw [he] at hbl
      rw [← hbl, ← hx75]
      rfl
    · rcases hA' A hA with h | h
      · exact haF2 A h hm
      · have := T74.mr.lt _ hm; omega
    · have := L74 b (by simp at hb ⊢; exact .inr hb)
      exact ⟨by omega, this.2⟩
    · rcases hA' A hA with h | h
      · exact ha1 A h e
      · have := (L74 n1 (by simp)).1; omega
  have hif : i = f.len := by
    have : ¬ (i : Int) < (f.len : Int) := by rw [hb52] at hb; exact of_decide_eq_false hb
    omega
  subst hif
  rw [Fo.drop_all f _ (Nat.le_refl _)] at hbl
  change (l, bs) = _ at hbl
  obtain ⟨j0, hj0⟩ : ∃ j0, f.len = j0 + 1 := ⟨f.len - 1, by omega⟩
  refine Bd_e rfl <| Bd_e (y := (j0 : Int)) (by rw [IntKind.wrap_i64]; omega) ⟨(ho.row enci1).ix (by omega), (ho.row enci1).ld1 (by omega) rfl <| opI_in <| Bd_e rfl <| Bd_e (y := (j0 : Int) - 1) (by rw [IntKind.wrap_i64]; omega) ?_⟩
  have e0 : joinB mo (bs.drop j0) l = (l, bs[j0]'(by omega)) := by
    rw [List.drop_eq_getElem_cons (by omega), List.drop_of_length_le (by omega)]
    rfl
  refine LoopP_in (fun mm us vs w' => ∃ (j : Nat) (x : Int) (l' : List Ns) (F' : List Nat), us = [.int .i64 x, .int .i64 ((j : Int) - 1)] ∧ mm = j ∧ j ≤ j0 ∧ joinB mo (bs.drop j) l = (l', x) ∧ Tws w w' n41 l' mo F' ∧ Md F w47 w' ∧ FrN w47 F F' ∧ LN [n1] w' F') j0
    ⟨j0, _, _, F, rfl, rfl, Nat.le_refl _, e0, T, Md.refl _ _, FrN.refl _ _, hL⟩ ?_
  rintro mm us vs w93 ⟨j, x, l', F', rfl, hmm, hj, hc, St, m, fr, hL'⟩
  refine opI_in <| opI_in <| Bd_in fun b96 hb96 => If_in (fun hb => ?_) fun hb => ?_
  · have hj1 : (j : Int) - 1 ≥ 0 := by rw [hb96] at hb; exact of_decide_eq_true hb
    obtain ⟨i, rfl⟩ : ∃ i, j = i + 1 := ⟨j - 1, by omega⟩
    have ei : (((i + 1 : Nat) : Int) - 1) = (i : Int) := by omega
    rw [ei]
    have ho' : OwnL w93 w.heap.size 3 1 i1 a c bs := ho.mdD m haF
    refine ⟨(ho'.row enci1).ix (by omega), (ho'.row enci1).ld1 (by omega) rfl <| opI_in ?_⟩
    refine in164 St hL' (by omega) 2 0 0 0 0 _ x 0 fun F3 w44 S44 m44 f44 lf44 => Bd_e (y := (i : Int) - 1) (by rw [IntKind.wrap_i64]; omega) ⟨i, by omega, i, _, _, F3, rfl, rfl, by omega, ?_, S44, Md_frN m m44 fr, fr.trans f44 m.size, lf44⟩
    rw [List.drop_eq_getElem_cons (by omega : i < bs.length)]
    obtain ⟨y, ys, hys⟩ : ∃ y ys, bs.drop (i + 1) = y :: ys := ⟨_, _, List.drop_eq_getElem_cons (by omega)⟩
    rw [hys] at hc ⊢
    show pst mo (joinB mo (y :: ys) l).1 (spl _ (joinB mo (y :: ys) l).2) = _
    rw [hc]
    rfl
  have hj1 : ¬ (j : Int) - 1 ≥ 0 := by rw [hb96] at hb; exact of_decide_eq_false hb
  have hjz : j = 0 := by omega
  subst hjz
  have hc' : joinB mo bs l = (l', x) := by simpa using hc
  have eb : bld f mo = if (l'.length : Int) > mo then ((0, []), 40) else ((x, l'), 0) := by
    unfold bld
    rw [if_pos ⟨hcond.1, hcond.2.1, hcond.2.2.1, hcond.2.2.2, hright⟩]
    simp only [Int.toNat_natCast, ← hbl, hc']
  refine (f165_ok n41 l' mo F' w93 St.mr).call (fun b hb => (hL' b hb).1) ?_
  rintro v w104 rfl m104
  have hn104 : n1 < w104.heap.size := by have := (hL' n1 (by simp)).1; have := m104.size; omega
  have mw : Md [] w w104 := St.md.trans m104
  refine opB_in <| If_in (fun hb w106 h106 hL106 => ?_) fun hb => NN_in ?_
  · have : l'.length > mo := by simpa using hb
    rw [eb, if_pos (by omega)]
    exact ⟨⟨none, 0, rfl, OwnL.nil _ _ _ _ _⟩, mw.old h106 (by simp; exact hn1)⟩
  · have hle : ¬ (l'.length : Int) > mo := by
      have : ¬ l'.length > mo := by simpa using hb
      omega
    rw [eb, if_neg hle]
    obtain ⟨a', c', hk, hF⟩ := St.mr.md0 m104
    refine hk.blk.ld' rfl <| opL_in fun w112 h112 hL112 => ?_
    refine ⟨⟨a', c', rfl, (hk.own.mdD h112 (fun A hA => by simp; have h1 := (hL' n1 (by simp)).2; intro e; exact h1 (by rw [hF, mem_fpM]; exact .inr ⟨A, hA, e⟩))).up fun A hA => St.lo _ (by rw [hF, mem_fpM]; exact .inr ⟨A, hA, rfl⟩)⟩, mw.old h112 (by simp; exact hn1)⟩
end Fk
set_option linter.unusedVariables false
set_option linter.unusedSimpArgs false
namespace Fk
open Go Go.Proofs Go.RowKit
def Ns.q (x : Ns) : Q4 := (x.s1, x.s2, x.s3, x.s4)
def On (N : List Bool) (i : Nat) : Prop := N[i]? = some true
instance (N : List Bool) (i : Nat) : Decidable (On N i) := by unfold On; infer_instance
/-- The states of a stack are come to, and what they come to without a byte. -/
def comeF (l : List Ns) : Nat → List Int → List Bool → List Bool
  | 0, _, N => N
  | m + 1, st, N => match st with
    | [] => N
    | x :: r => if On N x.toNat then comeF l m r N
      else comeF l m (match l[x.toNat]? with
        | some s => if s.k = 2 then s.b :: s.a :: r else r
        | none => r) (N.set x.toNat true)
def tagF : List Bool → List Ns → Int → Int
  | h :: hs, x :: xs, t => tagF hs xs (if h = true ∧ x.k = 0 ∧ (t < 0 ∨ x.t < t) then x.t else t)
  | _, _, t => t
def offs (n : Nat) : List Bool := List.replicate n false
/-- What some states come to without a byte. -/
inductive Rch (l : List Ns) (S : Nat → Prop) : Nat → Prop
  | base {i : Nat} : S i → Rch l S i
  | a {i : Nat} {x : Ns} : Rch l S i → l[i]? = some x → x.k = 2 → Rch l S x.a.toNat
  | b {i : Nat} {x : Ns} : Rch l S i → l[i]? = some x → x.k = 2 → Rch l S x.b.toNat
theorem Rch.sub {l : List Ns} {S T : Nat → Prop} (h : ∀ i, S i → Rch l T i) {i : Nat} (hi : Rch l S i) : Rch l T i := by
  induction hi with
  | base hs => exact h _ hs
  | a _ h1 h2 ih => exact .a ih h1 h2
  | b _ h1 h2 ih => exact .b ih h1 h2
theorem Rch.mono {l : List Ns} {S T : Nat → Prop} (h : ∀ i, S i → T i) {i : Nat} (hi : Rch l S i) : Rch l T i := hi.sub fun i hs => .base (h i hs)
def OkL (l : List Ns) : Prop := ∀ x ∈ l, 0 ≤ x.a ∧ x.a < l.length ∧ 0 ≤ x.b ∧ x.b < l.length
theorem okL_of_right {st : Int} {l : List Ns} (h : nfRight st l = true) : OkL l ∧ 0 ≤ st ∧ st < l.length ∧ l.length ≤ 20000 ∧ ∀ x ∈ l, okNs l.length x := by
  unfold nfRight at h
  rw [Bool.and_eq_true, decide_eq_true_eq, List.all_eq_true] at h
  refine ⟨fun x hx => ?_, h.1.1, h.1.2.1, h.1.2.2, fun x hx => of_decide_eq_true (h.2 x hx)⟩
  have := of_decide_eq_true (h.2 x hx)
  unfold okNs at this
  omega
theorem On.lt {N : List Bool} {i : Nat} (h : On N i) : i < N.length := by
  unfold On at h
  exact (List.getElem?_eq_some_iff.1 h).1
theorem On_set {N : List Bool} {i j : Nat} (hi : i < N.length) : On (N.set i true) j ↔ On N j ∨ j = i := by
  unfold On
  rw [List.getElem?_set]
  by_cases c : i = j
  · subst c; simp [hi]
  · simp [c]
    exact fun h => absurd h.symm c
def ofc (N : List Bool) : Nat := N.count false
theorem ofc_set {N : List Bool} {i : Nat} (hi : i < N.length) (hn : ¬ On N i) : ofc N = ofc (N.set i true) + 1 := by
  unfold ofc
  have e : N[i] = false := by
    unfold On at hn
    rw [List.getElem?_eq_getElem hi] at hn
    simpa using hn
  rw [List.count_set hi]
  have : 0 < N.count false := List.count_pos_iff.2 (e ▸ List.getElem_mem hi)
  simp [e]; omega
structure CoF (l : List Ns) (st : List Int) (N N' : List Bool) : Prop where
  len : N'.length = l.length
  up : ∀ i, On N i → On N' i
  has : ∀ x ∈ st, On N' x.toNat
  fr : ∀ i, On N' i → On N i ∨ Rch l (fun j => ∃ x ∈ st, x.toNat = j) i
  cl : ∀ i x, On N' i → l[i]? = some x → x.k = 2 → On N i ∨ (On N' x.a.toNat ∧ On N' x.b.toNat)
theorem comeF_ok (l : List Ns) (hl : OkL l) : ∀ (m : Nat) (st : List Int) (N : List Bool), N.length = l.length → (∀ x ∈ st, 0 ≤ x ∧ x < l.length) → 2 * ofc N + st.length ≤ m → CoF l st N (comeF l m st N)
  | 0, st, N, hN, hst, hm => by
    have : st = [] := List.eq_nil_of_length_eq_zero (by omega)
    subst this
    exact ⟨hN, fun _ h => h, by simp, fun _ h => .inl h, fun _ _ h _ _ => .inl h⟩
  | m + 1, [], N, hN, hst, hm => ⟨hN, fun _ h => h, by simp, fun _ h => .inl h, fun _ _ h _ _ => .inl h⟩
  | m + 1, x :: r, N, hN, hst, hm => by
    have hx := hst x (by simp)
    have hr : ∀ y ∈ r, 0 ≤ y ∧ y < l.length := fun y hy => hst y (by simp [hy])
    have hxl : x.toNat < l.length := by omega
    simp only [List.length_cons] at hm
    unfold comeF
    simp only
    split
    · rename_i hon
      have I := comeF_ok l hl m r N hN hr (by omega)
      exact ⟨I.len, I.up, fun y hy => by
        rcases List.mem_cons.1 hy with rfl | hy
        · exact I.up _ hon
        · exact I.has y hy, fun i hi => by
        rcases I.fr i hi with h | h
        · exact .inl h
        · exact .inr (h.mono fun j ⟨y, hy, e⟩ => ⟨y, by simp [hy], e⟩), I.cl⟩
    · rename_i hon
      have hf := ofc_set (N := N) (by omega) hon
      have hs : l[x.toNat]? = some l[x.toNat] := List.getElem?_eq_getElem hxl
      have hmem := hl _ (List.getElem_mem hxl)
      generalize l[x.toNat] = s at hs hmem
      rw [hs]
      simp only
      have hset : ∀ {j}, On (N.set x.toNat true) j ↔ On N j ∨ j = x.toNat := fun {j} => On_set (by omega)
      by_cases hk : s.k = 2
      · rw [if_pos hk]
        have I := comeF_ok l hl m (s.b :: s.a :: r) (N.set x.toNat true) (by simp [hN]) (fun y hy => by
          simp at hy
          rcases hy with rfl | rfl | hy
          · exact ⟨hmem.2.2.1, hmem.2.2.2⟩
          · exact ⟨hmem.1, hmem.2.1⟩
          · exact hr y hy) (by simp; omega)
        have hbase : Rch l (fun j => ∃ y ∈ x :: r, y.toNat = j) x.toNat := .base ⟨x, by simp, rfl⟩
        refine ⟨I.len, fun i hi => I.up i (hset.2 (.inl hi)), fun y hy => ?_, fun i hi => ?_, fun i z hi hz hzk => ?_⟩
        · rcases List.mem_cons.1 hy with rfl | hy
          · exact I.up _ (hset.2 (.inr rfl))
          · exact I.has y (by simp [hy])
        · rcases I.fr i hi with h | h
          · rcases hset.1 h with h | h
            · exact .inl h
            · subst h; exact .inr hbase
          · refine .inr (h.sub fun j hj => ?_)
            obtain ⟨y, hy, e⟩ := hj
            simp at hy
            rcases hy with rfl | rfl | hy
            · rw [← e]; exact .b hbase hs hk
            · rw [← e]; exact .a hbase hs hk
            · exact .base ⟨y, by simp [hy], e⟩
        · rcases I.cl i z hi hz hzk with h | h
          · rcases hset.1 h with h | h
            · exact .inl h
            · subst h
              rw [hs] at hz
              injection hz with hz
              subst hz
              exact .inr ⟨I.has _ (by simp), I.has _ (by simp)⟩
          · exact .inr h
      · rw [if_neg hk]
        have I := comeF_ok l hl m r (N.set x.toNat true) (by simp [hN]) hr (by omega)
        refine ⟨I.len, fun i hi => I.up i (hset.2 (.inl hi)), fun y hy => ?_, fun i hi => ?_, fun i z hi hz hzk => ?_⟩
        · rcases List.mem_cons.1 hy with rfl | hy
          · exact I.up _ (hset.2 (.inr rfl))
          · exact I.has y (by simp [hy])
        · rcases I.fr i hi with h | h
          · rcases hset.1 h with h | h
            · exact .inl h
            · subst h; exact .inr (.base ⟨x, by simp, rfl⟩)
          · exact .inr (h.mono fun j ⟨y, hy, e⟩ => ⟨y, by simp [hy], e⟩)
        · rcases I.cl i z hi hz hzk with h | h
          · rcases hset.1 h with h | h
            · exact .inl h
            · subst h
              rw [hs] at hz
              injection hz with hz
              subst hz
              exact absurd hzk hk
          · exact .inr h
/-- These are the states that some come to. -/
def IsSt (l : List Ns) (S : Nat → Prop) (N : List Bool) : Prop := N.length = l.length ∧ ∀ i, On N i ↔ Rch l S i
theorem IsSt.congr {l : List Ns} {S T : Nat → Prop} {N : List Bool} (h : IsSt l S N) (hi : ∀ i, S i ↔ T i) : IsSt l T N :=
  ⟨h.1, fun i => (h.2 i).trans ⟨Rch.mono fun i => (hi i).1, Rch.mono fun i => (hi i).2⟩⟩
theorem IsSt.offs (l : List Ns) : IsSt l (fun _ => False) (offs l.length) := by
  refine ⟨by simp [Fk.offs], fun i => ⟨fun h => ?_, fun h => ?_⟩⟩
  · unfold On Fk.offs at h
    rw [List.getElem?_replicate] at h
    split at h <;> simp at h
  · exfalso
    induction h with
    | base h => exact h
    | a _ _ _ ih => exact ih
    | b _ _ _ ih => exact ih
theorem ofc_le (N : List Bool) : ofc N ≤ N.length := List.count_le_length
end Fk
set_option linter.unusedVariables false
set_option linter.unusedSimpArgs false
set_option maxRecDepth 100000
set_option maxHeartbeats 1000000
namespace Fk
open Go Go.Proofs Go.RowKit
def bE (b : Bool) : List Value := [.bool b]
theorem encbE : Enc 1 bE := ⟨fun _ => rfl, by intro x v hv; simp [bE] at hv; subst hv; rfl⟩
theorem size3 (w : World) : ∃ m, (Go.sizeOf 3).run Try.prog w = .ok m w := by
  have h : (Try.prog.info? 3).isSome = true := by kernel_rfl
  obtain ⟨i, hi⟩ := Option.isSome_iff_exists.1 h
  exact ⟨i.size, by simp [Go.sizeOf, typeInfo, hi]⟩
/-- The last one is taken. -/
theorem OwnL.pop {α : Type} {w : World} {base : Nat} {e : TypeId} {size : Nat} {enc : α → List Value} (he : Enc size enc) {a : Option Addr} {c : Nat} {l : List α} {x : α} (h : OwnL w base e size enc a c (l ++ [x])) : OwnL w base e size enc a c l := by
  unfold OwnL at h ⊢
  obtain ⟨g, hg⟩ : ∃ g, a = some ⟨g, 0, none⟩ := by
    rcases h.2 with ⟨_, hn⟩ | ⟨g, cap, cur, hv, _⟩
    · simp at hn
    · simp only [Value.slice.injEq] at hv
      exact ⟨g, hv.1⟩
  subst hg
  rw [List.flatMap_append, List.length_append] at h
  exact ownsRow_pop (he.lenL l) h
theorem mem_blk {a : Option Addr} {d : Nat} (h : d ∈ (a.map (·.block)).toList) : ∃ A, a = some A ∧ A.block = d := by
  cases a with
  | none => simp at h
  | some A => simp at h; exact ⟨A, rfl, h.symm⟩
/-- A stand in memory: the machine, where it stands, and where it is to come to. -/
structure StAt (w0 w : World) (n : Nat) (st : Int) (pa : Option Addr) (pc : Nat) (l : List Ns) (an ax : Option Addr) (cn cx : Nat) (now next : List Bool) : Prop where
  blk : Blk w n 231 [.int .i64 st, .slice pa l.length pc, .slice an now.length cn, .slice ax next.length cx]
  row : RowAt w0 pa 8 nsE l
  md : Md [] w0 w
  nlo : w0.heap.size ≤ n
  onow : OwnL w w0.heap.size 4 1 bE an cn now
  onext : OwnL w w0.heap.size 4 1 bE ax cx next
  d1 : ∀ A, an = some A → A.block ≠ n
  d2 : ∀ A, ax = some A → A.block ≠ n
  d3 : Apt an ax
section
variable {w0 w w' : World} {n : Nat} {st : Int} {pa : Option Addr} {pc : Nat} {l : List Ns} {an ax : Option Addr} {cn cx : Nat} {now next : List Bool}
theorem StAt.md0 (S : StAt w0 w n st pa pc l an ax cn cx now next) (hm : Md [] w w') : StAt w0 w' n st pa pc l an ax cn cx now next :=
  ⟨S.blk.md hm (by simp), S.row, S.md.trans hm, S.nlo, S.onow.md hm, S.onext.md hm, S.d1, S.d2, S.d3⟩
theorem StAt.mdN {D : List Nat} (S : StAt w0 w n st pa pc l an ax cn cx now next) (hm : Md D w w') (hD : ∀ d ∈ D, w.heap.size ≤ d) : StAt w0 w' n st pa pc l an ax cn cx now next := S.md0 (hm.fresh hD)
theorem StAt.put (S : StAt w0 w n st pa pc l an ax cn cx now next) {i : Nat} (hi : i < next.length) (x : Bool) :
    ∃ A, ax = some A ∧ A.block < w.heap.size ∧ w0.heap.size ≤ A.block ∧ (adAt ax (i : Int) 1).block = A.block ∧ Wr w (adAt ax (i : Int) 1) 1 ∧ StAt w0 (setCells w (adAt ax (i : Int) 1) 0 [.bool x]) n st pa pc l an ax cn cx now (next.set i x) ∧
      Md [A.block] w (setCells w (adAt ax (i : Int) 1) 0 [.bool x]) := by
  obtain ⟨A, hA, h1, h2, h3, h4, h5, h6⟩ := S.onext.put encbE (by omega) hi x
  refine ⟨A, hA, h1, h2, h3, h4, ⟨?_, S.row, S.md.old h6 (by simpa using h2), S.nlo, S.onow.mdD h6 fun B hB => by simpa using S.d3 B A hB hA, h5, S.d1, S.d2, S.d3⟩, h6⟩
  have := S.blk.md h6 (by simpa using (S.d2 A hA).symm)
  rw [List.length_set]; exact this
end
theorem comeF_nil (l : List Ns) (m : Nat) (N : List Bool) : comeF l m [] N = N := by cases m <;> rfl
theorem comeF_on {l : List Ns} {m : Nat} {x : Int} {r : List Int} {N : List Bool} (h : On N x.toNat) : comeF l (m + 1) (x :: r) N = comeF l m r N := by
  conv => lhs; unfold comeF
  simp only
  rw [if_pos h]
theorem comeF_off {l : List Ns} {m : Nat} {i : Nat} {r : List Int} {N : List Bool} (h : ¬ On N i) (hi : i < l.length) : comeF l (m + 1) ((i : Int) :: r) N = comeF l m (if l[i].k = 2 then l[i].b :: l[i].a :: r else r) (N.set i true) := by
  conv => lhs; unfold comeF
  simp only
  rw [if_neg (by simpa using h), Int.toNat_natCast, List.getElem?_eq_getElem hi]
end Fk
set_option linter.unusedVariables false
set_option linter.unusedSimpArgs false
set_option maxRecDepth 100000
set_option maxHeartbeats 1000000
namespace Fk
open Go Go.Proofs Go.RowKit
theorem bE_map (l : List Bool) : l.flatMap bE = l.map Value.bool := by
  induction l with
  | nil => rfl
  | cons x l ih => rw [List.flatMap_cons, ih]; rfl
theorem tagF_step {N : List Bool} {l : List Ns} {i : Nat} (h1 : i < N.length) (h2 : i < l.length) (t : Int) :
    tagF (N.drop i) (l.drop i) t = tagF (N.drop (i + 1)) (l.drop (i + 1)) (if N[i] = true ∧ l[i].k = 0 ∧ (t < 0 ∨ l[i].t < t) then l[i].t else t) := by
  rw [List.drop_eq_getElem_cons h1, List.drop_eq_getElem_cons h2]
  rfl
end Fk
set_option linter.unusedVariables false
set_option linter.unusedSimpArgs false
set_option maxRecDepth 100000
set_option maxHeartbeats 2000000
namespace Fk
open Go Go.Proofs Go.RowKit
/-- The bit of a byte is asked. -/
theorem bit_in {q : Q4} {b : Nat} (hb : b < 256) (k a1 a2 a3 : Int) {b69 : Bool} {K : Bool → Prop} (kk : K (inQ q b)) :
    Bd (IntKind.wrap .u8 (Int.tdiv (b : Int) 64)) fun x70 => (b69 = true → 0 ≤ x70 ∧ x70 < ((4 : Nat) : Int)) ∧
      BdO (nthV [.int .u8 k, .int .u64 q.1, .int .u64 q.2.1, .int .u64 q.2.2.1, .int .u64 q.2.2.2, .int .i64 a1, .int .i64 a2, .int .i64 a3] (1 + x70.toNat * 1)) fun v72 => opI .u64 v72 fun x73 => Bd (Int.tmod (b : Int) 64) fun x74 =>
        (b69 = true → 0 ≤ x74) ∧ Bd (Int.fdiv x73 (2 ^ min x74.toNat 64)) fun x76 => Bd (IntKind.wrap .u64 ((BitVec.toNat (BitVec.ofInt 64 x76 &&& BitVec.ofInt 64 1) : Nat) : Int)) fun x77 => Bd (x77 == 1) K := by
  refine Bd_e (y := ((b / 64 : Nat) : Int)) (by rw [IntKind.wrap_u8, Int.tdiv_eq_ediv_of_nonneg (by omega)]; omega) ⟨fun _ => ⟨by omega, by omega⟩, ?_⟩
  refine BdO_in (v := .int .u64 (word q (b / 64))) ?_ ?_
  · rw [Int.toNat_natCast, Nat.mul_one, Nat.add_comm]
    have h := nth_word q (b / 64) (by omega)
    have h4 : b / 64 < 4 := by omega
    generalize b / 64 = j at *
    rcases j with _ | _ | _ | _ | j <;> first | exact h | omega
  refine opI_in ?_
  refine Bd_e (y := ((b % 64 : Nat) : Int)) (by rw [Int.tmod_eq_emod_of_nonneg (by omega)]; omega) ⟨fun _ => by omega, ?_⟩
  refine Bd_in fun x6 hx6 => Bd_in fun x7 hx7 => Bd_in fun b8 hb8 => ?_
  have : b8 = inQ q b := by
    rw [hb8, hx7, u64_and, bit_and_one, hx6, Int.toNat_natCast, Nat.min_eq_left (by omega), Int.fdiv_eq_ediv_of_nonneg _ (Int.pow_nonneg (by decide))]
    simp only [inQ]
    rw [Bool.eq_iff_iff]; simp
  rw [this]
  exact kk
theorem made4 (m : Nat) (w : World) (hm : m < 2 ^ 20) : ∃ w', (Instr.makeSlice 222 (.int .i64 (m : Int)) (.int .i64 (m : Int))).run Try.prog w = .ok (.slice (some ⟨w.heap.size, 0, none⟩) m m) w' ∧ OwnL w' w.heap.size 4 1 bE (some ⟨w.heap.size, 0, none⟩) m (offs m) ∧ Md [] w w' := by
  have h4 : (Try.prog.info? 4).isSome = true := by kernel_rfl
  obtain ⟨i4, hi4⟩ := Option.isSome_iff_exists.1 h4
  have hz4 : (Try.prog.info? 4).bind (·.zero) = some (.bool false) := by kernel_rfl
  have hs4 : (Try.prog.info? 4).map (fun i => (i.size, i.bytes)) = some (1, 1) := by kernel_rfl
  rw [hi4] at hz4 hs4
  simp only [Option.bind_some, Option.map_some, Option.some.injEq, Prod.mk.injEq] at hz4 hs4
  obtain ⟨w3, hrun, hown, hgr⟩ := run_makeSlice_full (P := Try.prog) w w.heap.size 222 4 i4 (.bool false) 1 (by kernel_rfl) hi4 hz4 hs4.1 .i64 .i64 m (by omega) (by rw [hs4.2]; omega) (by simp [maxLen]; omega) (Nat.le_refl _)
  refine ⟨w3, hrun, ?_, Md_of_grown hgr⟩
  have hmc : (madeCells (Value.bool false).cells (m * 1)).toList = (offs m).flatMap bE := by
    rw [bE_map, offs, List.map_replicate, Nat.mul_one]
    exact toList_madeCells_one _ m
  unfold OwnL
  rw [← hmc, show (offs m).length = m by simp [offs]]; exact hown
theorem offs_len (n : Nat) : (offs n).length = n := by simp [offs]
end Fk
set_option linter.unusedVariables false
set_option linter.unusedSimpArgs false
set_option maxRecDepth 100000
set_option maxHeartbeats 2000000
namespace Fk
open Go Go.Proofs Go.RowKit
theorem On_offs {n i : Nat} : ¬ On (offs n) i := by
  unfold On offs
  rw [List.getElem?_replicate]
  split <;> simp
end Fk
set_option linter.unusedVariables false
set_option linter.unusedSimpArgs false
set_option maxRecDepth 100000
set_option maxHeartbeats 2000000
namespace Fk
open Go Go.Proofs Go.RowKit
def dst (l : List Ns) (todo : List Int) : List Bool := comeF l (2 * l.length + todo.length) todo.reverse (offs l.length)
theorem dst_ok {l : List Ns} (hl : OkL l) {todo : List Int} (ht : ∀ x ∈ todo, 0 ≤ x ∧ x < l.length) : IsSt l (fun i => ∃ x ∈ todo, x.toNat = i) (dst l todo) := by
  have I := comeF_ok l hl (2 * l.length + todo.length) todo.reverse (offs l.length) (offs_len _) (fun x hx => ht x (by simpa using hx)) (by have := ofc_le (offs l.length); rw [offs_len] at this; rw [List.length_reverse]; omega)
  refine ⟨I.len, fun i => ⟨fun hi => ?_, fun hi => ?_⟩⟩
  · rcases I.fr i hi with h | h
    · exact absurd h On_offs
    · exact h.mono fun j ⟨x, hx, e⟩ => ⟨x, by simpa using hx, e⟩
  · induction hi with
    | base h => obtain ⟨x, hx, rfl⟩ := h; exact I.has x (by simpa using hx)
    | a _ h1 h2 ih =>
      rcases I.cl _ _ ih h1 h2 with h3 | h3
      · exact absurd h3 On_offs
      · exact h3.1
    | b _ h1 h2 ih =>
      rcases I.cl _ _ ih h1 h2 with h3 | h3
      · exact absurd h3 On_offs
      · exact h3.2
def byL (b : Nat) : List Bool → List Ns → List Int
  | h :: hs, x :: xs => if h = true ∧ x.k = 1 ∧ inQ x.q b = true then x.a :: byL b hs xs else byL b hs xs
  | _, _ => []
theorem mem_byL (b : Nat) : ∀ (N : List Bool) (xs : List Ns) (y : Int), y ∈ byL b N xs ↔ ∃ j x, On N j ∧ xs[j]? = some x ∧ x.k = 1 ∧ inQ x.q b = true ∧ y = x.a
  | [], xs, y => by
    have e : byL b [] xs = [] := by cases xs <;> rfl
    rw [e]
    exact ⟨fun h => by simp at h, fun ⟨j, x, h, _⟩ => by simp [On] at h⟩
  | h :: hs, [], y => ⟨fun h => by simp [byL] at h, fun ⟨j, x, _, h, _⟩ => by simp at h⟩
  | h :: hs, x :: xs, y => by
    have ih := mem_byL b hs xs y
    unfold byL
    constructor
    · intro hy
      split at hy
      · rename_i c
        rcases List.mem_cons.1 hy with rfl | hy
        · exact ⟨0, x, by simp [On, c.1], rfl, c.2.1, c.2.2, rfl⟩
        · obtain ⟨j, z, h1, h2⟩ := ih.1 hy
          exact ⟨j + 1, z, by simpa [On] using h1, by simpa using h2⟩
      · obtain ⟨j, z, h1, h2⟩ := ih.1 hy
        exact ⟨j + 1, z, by simpa [On] using h1, by simpa using h2⟩
    · rintro ⟨j, z, h1, h2, h3⟩
      cases j with
      | zero =>
        simp at h2; subst h2
        rw [if_pos ⟨by simpa [On] using h1, h3.1, h3.2.1⟩, h3.2.2]
        simp
      | succ j =>
        have hm : y ∈ byL b hs xs := ih.2 ⟨j, z, by simpa [On] using h1, by simpa using h2, h3⟩
        split
        · exact List.mem_cons_of_mem _ hm
        · exact hm
theorem byL_in {l : List Ns} (hl : OkL l) (b : Nat) (N : List Bool) : ∀ y ∈ byL b N l, 0 ≤ y ∧ y < l.length := fun y hy => by
  obtain ⟨j, x, _, h2, _, _, rfl⟩ := (mem_byL b N l y).1 hy
  have := hl x (List.mem_of_getElem? h2)
  exact ⟨this.1, this.2.1⟩
theorem byL_step {N : List Bool} {l : List Ns} {b j : Nat} (h1 : j < N.length) (h2 : j < l.length) : byL b (N.drop j) (l.drop j) = if N[j] = true ∧ l[j].k = 1 ∧ inQ l[j].q b = true then l[j].a :: byL b (N.drop (j + 1)) (l.drop (j + 1)) else byL b (N.drop (j + 1)) (l.drop (j + 1)) := by
  rw [List.drop_eq_getElem_cons h1, List.drop_eq_getElem_cons h2]
  rfl
theorem f171_ok (st : Int) (l : List Ns) (pa xa : Option Addr) (pc xc : Nat) (N : List Bool) (b : Nat) (hb : b < 256) (w : World) (hr : RowAt w pa 8 nsE l) (hx : RowAt w xa 1 bE N) (hN : N.length = l.length) (hlen : l.length ≤ 20000) :
    Ct Try.prog 171 #[.agg #[.int .i64 st, .slice pa l.length pc], .slice xa N.length xc, .int .u8 b] w fun v w' => (∃ (a : Option Addr) (c : Nat), v = .slice a (byL b N l).length c ∧ OwnL w' w.heap.size 3 1 i1 a c (byL b N l)) ∧ Md [] w w' := by
  apply f171_in
  intro n1 hn1
  refine Bd_e rfl fun w3 h3 hL3 => ?_
  have ln : n1 < w3.heap.size := hL3 n1 (by simp)
  refine LoopP_in (fun mm us vs w' => ∃ (i : Nat) (a : Option Addr) (c : Nat) (o : List Int), us = [.slice a o.length c, .int .i64 i] ∧ mm = l.length - i ∧ i ≤ l.length ∧ o ++ byL b (N.drop i) (l.drop i) = byL b N l ∧ o.length ≤ i ∧ OwnL w' w3.heap.size 3 1 i1 a c o ∧ Md [] w3 w') l.length
    ⟨0, none, 0, [], rfl, rfl, by omega, by simp, by simp, OwnL.nil .., Md.refl _ _⟩ ?_
  rintro mm us vs w7 ⟨i, a, c, o, rfl, hmm, hi, ho, hol, own, hmd⟩
  have m7 := h3.trans hmd
  have s7 := hmd.size
  refine opL_in <| opI_in <| Bd_in fun b12 hb12 => If_in (fun hbt => ?_) fun hbf => ?_
  case refine_2 =>
    have : ¬ (i : Int) < (N.length : Int) := by rw [hb12] at hbf; exact of_decide_eq_false hbf
    have hil : i = l.length := by omega
    subst hil
    rw [List.drop_of_length_le (by omega)] at ho
    rw [show byL b [] (l.drop l.length) = [] by cases l.drop l.length <;> rfl, List.append_nil] at ho
    rw [← ho]
    exact ⟨⟨a, c, rfl, own.down h3.size⟩, m7⟩
  have hiN : i < N.length := by rw [hb12] at hbt; have : (i : Int) < (N.length : Int) := of_decide_eq_true hbt
                                omega
  have hil : i < l.length := by omega
  rw [byL_step hiN hil] at ho
  have rl := hr.md m7
  refine Jn_in (fun us vs w' => ∃ (a : Option Addr) (c : Nat) (o' : List Int) (z : Bool), us = [.slice a o'.length c, .int .i64 i, .bool z] ∧ o' ++ byL b (N.drop (i + 1)) (l.drop (i + 1)) = byL b N l ∧ o'.length ≤ i + 1 ∧ OwnL w' w3.heap.size 3 1 i1 a c o' ∧ Md [] w3 w') ?_ ?_
  · rintro us vs w15 ⟨a, c, o', z, rfl, q1, q2, q3, q4⟩
    exact opL_in <| opI_in <| opB_in <| Bd_e (inc_i64 (by omega)) ⟨l.length - (i + 1), by omega, i + 1, a, c, o', rfl, rfl, by omega, q1, q2, q3, q4⟩
  refine ⟨(hx.md m7).ix hiN, (hx.md m7).ld1 hiN rfl <| opB_in ⟨rl.ix hil, rl.ld8 hil ?_⟩⟩
  intro n41 hn41
  refine Bd_in fun b42 hb42 => Bd_in fun b43 hb43 => bit_in (q := l[i].q) hb _ _ _ _ ?_
  refine Bd_in fun b53 hb53 => ?_
  have hiff : b53 = true ↔ (N[i] = true ∧ l[i].k = 1 ∧ inQ l[i].q b = true) := by
    rw [hb53, hb43, hb42]
    cases N[i] <;> simp
  refine If_in (fun hc w54 h54 hL54 => ?_) fun hc w54 h54 hL54 => ?_
  · rw [if_pos (hiff.1 hc)] at ho
    have m54 : Md [] w7 w54 := h54.fresh (by simp; exact hn41)
    refine Nw_i ?_
    have ma : Md [] w54 (w54.alloc (.cells #[.int .i64 l[i].a] 3)) := Md.alloc w54 _
    have ol := OwnL.lit (P := Try.prog) (base := w54.heap.size) enci1 w54 3 [l[i].a] #[.int .i64 l[i].a] (Nat.le_refl _) (by simp [maxLen]) rfl
    have own2 := (own.md m54).md ma
    have sz := m54.size
    have sz2 := ma.size
    refine app_own rowT52 enci1 own2 ol (by omega) (fun z hz => Nat.lt_of_lt_of_le (hL54 z hz) sz2) (fun z hz A hA e => ?_) (by simp [maxLen]; omega) (by simp; omega) fun a' c' w58 o58 m58 hA' => opL_in ⟨a', c', _, _, rfl, by rw [← ho]; simp, by simp; omega, o58, ((hmd.trans m54).trans ma).own own2 m58⟩
    have := own.lt hA
    simp at hz
    rcases hz with rfl | rfl <;> omega
  · rw [if_neg (fun h => by have := hiff.2 h; rw [hc] at this; cases this)] at ho
    have m54 : Md [] w7 w54 := h54.fresh (by simp; exact hn41)
    exact ⟨a, c, o, _, rfl, ho, by omega, own.md m54, hmd.trans m54⟩
theorem f170_ok (st : Int) (l : List Ns) (pa xa : Option Addr) (pc xc : Nat) (N : List Bool) (w : World) (h1 : RowAt w pa 8 nsE l) (h2 : RowAt w xa 1 bE N) (hN : N.length = l.length) (hlen : l.length ≤ 20000) :
    Ct Try.prog 170 #[.agg #[.int .i64 st, .slice pa l.length pc], .slice xa N.length xc] w fun v w' => v = .int .i64 (tagF N l (-1)) ∧ Md [] w w' := by
  apply f170_in
  intro n1 hn1
  refine Bd_e rfl fun w3 h3 hL3 => ?_
  refine LoopP_in (fun mm us vs w' => ∃ (i : Nat) (t : Int), us = [.int .i64 t, .int .i64 i] ∧ mm = l.length - i ∧ i ≤ l.length ∧ Md [] w w' ∧ tagF (N.drop i) (l.drop i) t = tagF N l (-1)) l.length
    ⟨0, -1, rfl, rfl, by omega, h3, rfl⟩ ?_
  rintro m' us vs w6 ⟨i, t, rfl, hmm, hi, h6, ht⟩
  refine opI_in <| opI_in <| Bd_in fun b41 hb41 => If_in (fun hb => ?_) fun hb => ?_
  case refine_2 =>
    have : ¬ (i : Int) < (N.length : Int) := by rw [hb41] at hb; exact of_decide_eq_false hb
    have hil : i = l.length := by omega
    subst hil
    rw [List.drop_of_length_le (by omega), List.drop_of_length_le (by omega)] at ht
    rw [← ht]
    exact ⟨rfl, h6⟩
  have hin : i < N.length := by rw [hb41] at hb; have : (i : Int) < (N.length : Int) := of_decide_eq_true hb
                                omega
  have hil : i < l.length := by omega
  rw [tagF_step hin hil] at ht
  refine Jn_in (fun us vs w' => ∃ (z : Bool), us = [.int .i64 (if N[i] = true ∧ l[i].k = 0 ∧ (t < 0 ∨ l[i].t < t) then l[i].t else t), .int .i64 i, .bool z] ∧ Md [] w w') ?_ ?_
  · rintro us vs w44 ⟨z, rfl, h44⟩
    exact opI_in <| opI_in <| opB_in <| Bd_e (inc_i64 (by omega)) ⟨l.length - (i + 1), by omega, i + 1, _, rfl, rfl, by omega, h44, ht⟩
  refine ⟨(h2.md h6).ix hin, ((h2.md h6).ld1 hin rfl) <| opB_in ⟨(h1.md h6).ix hil, (h1.md h6).ld8 hil ?_⟩⟩
  intro n37 hn37
  refine Bd_in fun b74 hb74 => Bd_in fun b75 hb75 => Bd_in fun b76 hb76 => Bd_in fun b77 hb77 => Bd_in fun b78 hb78 => Bd_in fun b79 hb79 => ?_
  have hiff : b79 = true ↔ (N[i] = true ∧ l[i].k = 0 ∧ (t < 0 ∨ l[i].t < t)) := by
    rw [hb79, hb78, hb75, hb74, hb76, hb77]
    cases N[i] <;> simp
  refine If_in (fun hc w44 h44 _ => ?_) fun hc w44 h44 _ => ?_
  · rw [if_pos (hiff.1 hc)]
    exact ⟨_, rfl, h6.trans (h44.fresh (by simp; exact hn37))⟩
  · rw [if_neg (fun h => by have := hiff.2 h; rw [hc] at this; cases this)]
    exact ⟨_, rfl, h6.trans (h44.fresh (by simp; exact hn37))⟩
theorem f167_ok (st : Int) (l : List Ns) (pa xa : Option Addr) (pc xc bx : Nat) (todo : List Int) (w : World) (hr : RowAt w pa 8 nsE l) (hx : OwnL w bx 3 1 i1 xa xc todo) (hl : OkL l) (hlen : l.length ≤ 20000) (htl : todo.length ≤ 20000) (ht : ∀ x ∈ todo, 0 ≤ x ∧ x < l.length) :
    Ct Try.prog 167 #[.agg #[.int .i64 st, .slice pa l.length pc], .slice xa todo.length xc] w fun v w' => (∃ (a : Option Addr) (c : Nat), v = .slice a (dst l todo).length c ∧ OwnL w' w.heap.size 4 1 bE a c (dst l todo)) ∧ Md [] w w' := by
  apply f167_in
  intro n1 hn1
  refine Bd_e rfl fun w3 h3 hL3 => ?_
  have l1 := hL3 n1 (by simp)
  obtain ⟨w5, r1, o1, m1⟩ := made4 l.length w3 (by omega)
  refine RunW_in r1 (fun b hb => by simp at hb; subst hb; exact m1.blk b l1 (by simp)) <| opL_in <| Nw_i ?_
  have s1 := m1.size
  generalize hxa : (some (Addr.mk w3.heap.size 0 none)) = a6 at *
  have mc : Md [] w5 (w5.alloc (.cells #[] 3)) := Md.alloc w5 _
  have olc : OwnL (w5.alloc (.cells #[] 3)) w5.heap.size 3 1 i1 (some ⟨w5.heap.size, 0, none⟩) 0 [] := OwnL.lit (P := Try.prog) (base := w5.heap.size) enci1 w5 3 [] #[] (Nat.le_refl _) (by simp) rfl
  have sc := mc.size
  have hxc := ((hx.md h3).md m1).md mc
  have ln5 : n1 < w5.heap.size := by omega
  refine app_own rowT52 enci1 olc hxc (by omega) (fun b hb => by simp at hb; subst hb; omega) (fun b hb A hA => by simp at hb; subst hb; injection hA with hA; subst hA; simp; omega) (by simp [maxLen]; omega) (by simp; omega) fun a13 c15 w12 o12 m12 hA12 => opL_in ?_
  simp only [List.nil_append] at o12 ⊢
  have m3_12 : Md [] w3 w12 := (m1.trans mc).old m12 (fun d hd => by simp at hd; omega)
  have b6 : ∀ A, a6 = some A → A.block = w3.heap.size := fun A hA => by rw [← hxa] at hA; injection hA with hA; subst hA; rfl
  have o6 : OwnL w12 w3.heap.size 4 1 bE a6 l.length (offs l.length) := ((o1.md mc).mdD m12 fun A hA => by have := b6 A hA; have := (o1.lt hA).2; simp; omega)
  refine LoopP_in (fun mm us vs w' => ∃ (a : Option Addr) (c : Nat) (R : List Int) (N : List Bool), us = [.slice a R.length c] ∧ OwnL w' w5.heap.size 3 1 i1 a c R ∧ OwnL w' w3.heap.size 4 1 bE a6 l.length N ∧ Md [] w3 w' ∧ w5.heap.size ≤ w'.heap.size ∧
      N.length = l.length ∧ comeF l mm R.reverse N = dst l todo ∧ 2 * ofc N + R.length ≤ mm ∧ (∀ y ∈ R, 0 ≤ y ∧ y < l.length) ∧ mm ≤ 60000) (2 * l.length + todo.length)
    ⟨a13, c15, todo, offs l.length, rfl, o12, o6, m3_12, by have := m12.size; omega, offs_len _, rfl, by have := ofc_le (offs l.length); rw [offs_len] at this; omega, ht, by omega⟩ ?_
  rintro mm us vs w6 ⟨a, c, R, N, rfl, ho, oN, hm, hs5, hN, hc, hf, hR, hmm⟩
  have hdst : (dst l todo).length = l.length := (dst_ok hl ht).1
  have ln6 : n1 < w6.heap.size := by have := hm.size; omega
  refine opL_in <| Bd_e rfl <| Bd_in fun b12 hb12 => If_in (fun hb => ?_) fun hb => ?_
  case refine_2 =>
    have hR0 : R = [] := by
      have : ¬ (R.length : Int) > 0 := by rw [hb12] at hb; exact of_decide_eq_false hb
      exact List.eq_nil_of_length_eq_zero (by omega)
    subst hR0
    rw [List.reverse_nil, comeF_nil] at hc
    rw [← hc]
    exact ⟨⟨a6, l.length, by rw [hN], oN.down h3.size⟩, h3.trans hm⟩
  have hRp : 0 < R.length := by have : (R.length : Int) > 0 := by rw [hb12] at hb; exact of_decide_eq_true hb
                                omega
  rcases List.eq_nil_or_concat R with rfl | ⟨R', y, rfl⟩
  · simp at hRp
  rw [List.concat_eq_append] at *
  have hl1 : (R' ++ [y]).length = R'.length + 1 := by simp
  have hix := (ho.row enci1).ix (i := R'.length) (by omega)
  rw [hl1] at hix ⊢
  have hcap := ho.cap
  refine Bd_e rfl <| Bd_e (y := ((R'.length : Nat) : Int)) (by rw [IntKind.wrap_i64]; omega) ⟨hix, (ho.row enci1).ld1 (i := R'.length) (by omega) (v := .int .i64 y) (by simp [i1]) <| opI_in <| Bd_e rfl <| Bd_e (y := ((R'.length : Nat) : Int)) (by rw [IntKind.wrap_i64]; omega) ?_⟩
  refine RunW_in0 (slice_front (e := 3) (by kernel_rfl) size3 _ _ _ _ _ (by omega)) <| opL_in ?_
  have hy := hR y (by simp)
  obtain ⟨i, rfl⟩ := Int.eq_ofNat_of_zero_le hy.1
  have hil : i < l.length := by omega
  have hiN : i < N.length := by omega
  have hixN := (oN.row encbE).ix hiN
  rw [hN] at hixN
  refine ⟨hixN, (oN.row encbE).ld1 hiN rfl <| opB_in ?_⟩
  have hop := ho.pop enci1
  have hRr : ∀ z ∈ R', 0 ≤ z ∧ z < l.length := fun z hz => hR z (by simp [hz])
  rw [List.reverse_append, List.reverse_singleton, List.singleton_append] at hc
  obtain ⟨m, rfl⟩ : ∃ m, mm = m + 1 := ⟨mm - 1, by omega⟩
  refine If_in (fun hon => ?_) fun hoff => ?_
  · have hOn : On N i := by unfold On; rw [List.getElem?_eq_getElem hiN, hon]
    rw [comeF_on (by simpa using hOn)] at hc
    exact ⟨m, by omega, a, c, R', N, rfl, hop, oN, hm, hs5, hN, hc, by omega, hRr, by omega⟩
  have hOff : ¬ On N i := by unfold On; rw [List.getElem?_eq_getElem hiN, hoff]; simp
  rw [comeF_off hOff hil] at hc
  have hcnt := ofc_set hiN hOff
  obtain ⟨A, hA, p1, p2, p3, p4, p5, p6⟩ := oN.put encbE (by omega) hiN true
  have hAb := b6 A hA
  have m7 : Md [] w3 (setCells w6 (adAt a6 (i : Int) 1) 0 [.bool true]) := hm.old p6 (by simpa using p2)
  have hoA : ∀ B, a = some B → B.block ≠ A.block := fun B hB => by have := (ho.lt hB).1; have := (o1.lt hA).2; omega
  have ho7 : OwnL (setCells w6 (adAt a6 (i : Int) 1) 0 [.bool true]) w5.heap.size 3 1 i1 a c R' := hop.mdD p6 fun B hB => by simpa using hoA B hB
  have hs6 : w6.heap.size ≤ (setCells w6 (adAt a6 (i : Int) 1) 0 [.bool true]).heap.size := p6.size
  change OwnL (setCells w6 (adAt a6 (i : Int) 1) 0 [.bool true]) w3.heap.size 4 1 bE a6 l.length (N.set i true) at p5
  generalize setCells w6 (adAt a6 (i : Int) 1) 0 [.bool true] = w7 at *
  have rl := hr.md (h3.trans m7)
  refine ⟨hixN, by rw [p3, hAb]; simp; omega, p4, rl.ix hil, rl.ld8 hil ?_⟩
  intro n57 hn57
  refine Bd_in fun b58 hb58 => If_in (fun hk w59 h59 hL59 => ?_) fun hk w67 h67 hL67 => ?_
  · have hk2 : l[i].k = 2 := by rw [hb58] at hk; simpa using hk
    rw [if_pos hk2] at hc
    have m59 : Md [] w7 w59 := h59.fresh (by simp; exact hn57)
    refine Nw_i ?_
    have mb : Md [] w59 (w59.alloc (.cells #[.int .i64 l[i].a, .int .i64 l[i].b] 3)) := Md.alloc w59 _
    have ol2 := OwnL.lit (P := Try.prog) (base := w59.heap.size) enci1 w59 3 [l[i].a, l[i].b] #[.int .i64 l[i].a, .int .i64 l[i].b] (Nat.le_refl _) (by simp [maxLen]) rfl
    have m8 := m59.trans mb
    have ho8 := ho7.md m8
    have oN8 := p5.md m8
    have sz := mb.size
    have sz8 := m8.size
    have szm := hm.size
    have sz12 := m12.size
    have hlb := hl _ (List.getElem_mem hil)
    have hbase : w5.heap.size ≤ (w59.alloc (.cells #[.int .i64 l[i].a, .int .i64 l[i].b] 3)).heap.size := by omega
    refine app_own rowT52 enci1 ho8 ol2 hbase (fun z hz => Nat.lt_of_lt_of_le (hL59 z hz) sz) (fun z hz B hB e => ?_) (by simp [maxLen]; omega) (by simp; omega) fun a' c' w63 o63 m63 hA' => opL_in ?_
    · have := ho7.lt hB
      simp at hz
      rcases hz with rfl | rfl <;> omega
    have aD : ∀ d ∈ (a.map (·.block)).toList, w5.heap.size ≤ d := fun d hd => by
      obtain ⟨B, hB, rfl⟩ := mem_blk hd
      exact (ho7.lt hB).1
    refine ⟨m, by omega, a', c', R' ++ [l[i].a, l[i].b], N.set i true, rfl, o63, oN8.mdD m63 (fun B hB hd => ?_), (m7.trans m8).old m63 (fun d hd => by have := aD d hd; omega), by have := m63.size; omega, by simp [hN], by simpa using hc, by simp; omega, fun z hz => ?_, by omega⟩
    · have := aD _ hd; have := b6 B hB; have := (o1.lt hB).2; omega
    · rcases List.mem_append.1 hz with h | h
      · exact hRr z h
      · simp at h
        rcases h with rfl | rfl
        · exact ⟨hlb.1, hlb.2.1⟩
        · exact ⟨hlb.2.2.1, hlb.2.2.2⟩
  · have hk2 : ¬ l[i].k = 2 := by rw [hb58] at hk; simpa using hk
    rw [if_neg hk2] at hc
    have m67 : Md [] w7 w67 := h67.fresh (by simp; exact hn57)
    exact ⟨m, by omega, a, c, R', N.set i true, rfl, ho7.md m67, p5.md m67, m7.trans m67, by have := m67.size; omega, by simp [hN], hc, by omega, hRr, by omega⟩
end Fk
set_option linter.unusedVariables false
set_option linter.unusedSimpArgs false
set_option maxRecDepth 100000
namespace Fk
open Go Go.Proofs Go.RowKit
theorem wrap_u8 {x : Nat} (h : x < 256) : IntKind.wrap .u8 (x : Int) = x := by rw [IntKind.wrap_u8]; omega
/-- What a right table is like. -/
structure RtF (t : Tb) : Prop where
  d1 : 1 ≤ t.dm
  d2 : t.dm ≤ 256
  m : t.c.m = t.dm
  tg1 : 1 ≤ t.tg.length
  tg2 : t.tg.length ≤ 5000
  nx : (t.nx.length : Int) = t.dm * t.tg.length
  nxl : t.nx.length ≤ 1280000
  n1 : 1 ≤ t.nm.length
  n2 : t.nm.length ≤ 200
  sz : ∀ s ∈ t.nm, s.size ≤ 64
  tag : ∀ x ∈ t.tg, -1 ≤ x ∧ x < 200
  nxt : ∀ x ∈ t.nx, -1 ≤ x ∧ x < 5000
theorem namesOk_sz : ∀ (l pre : List ByteArray), namesOk pre l = true → ∀ s ∈ l, s.size ≤ 64
  | [], _, _ => by simp
  | s :: l, pre, h => by
    unfold namesOk at h
    simp only [Bool.and_eq_true] at h
    intro x hx
    rcases List.mem_cons.1 hx with rfl | hx
    · have := h.1.1
      unfold named at this
      simp only [Bool.and_eq_true, decide_eq_true_eq] at this
      exact this.2
    · exact namesOk_sz l _ h.2 x hx
theorem RtF.of {t : Tb} (h : tRight t = true) : RtF t := by
  have h0 := h
  unfold tRight tHead at h
  simp only [Bool.and_eq_true, decide_eq_true_eq] at h
  obtain ⟨⟨⟨⟨⟨hc, hd⟩, hm⟩, hn⟩, hnm⟩, ht⟩ := h
  obtain ⟨d1, d2, d3, d4, d5⟩ := dRight_tags hd
  unfold dRight at hd
  simp only [Bool.and_eq_true, List.all_eq_true, decide_eq_true_eq] at hd
  refine ⟨d1, d2, hm, d3, d4, d5, ?_, hn.1, hn.2, namesOk_sz _ _ hnm, hd.1.2, fun x hx => ?_⟩
  · have : t.dm * (t.tg.length : Int) ≤ 256 * 5000 := Int.mul_le_mul d2 (by omega) (by omega) (by omega)
    omega
  · have := hd.2 x hx; omega
structure PS (w2 w : World) (a : Option Addr) (c : Nat) (acc : List Nat) : Prop where
  md : Md [] w2 w
  own : OwnL w w2.heap.size 5 1 b1 a c acc
section
variable {w2 w : World} {a : Option Addr} {c : Nat} {acc : List Nat} {L : List Nat}
theorem PS.drew (S : PS w2 w a c acc) : PS w2 w.drew a c acc := ⟨S.md.trans (Md_drew _), S.own.md (Md_drew _)⟩
theorem PS.tr {w' : World} (S : PS w2 w a c acc) (h : Md [] w w') : PS w2 w' a c acc := ⟨S.md.trans h, S.own.md h⟩
theorem PS.blk (S : PS w2 w a c acc) : ∀ d ∈ (a.map (·.block)).toList, w2.heap.size ≤ d ∧ d < w.heap.size := by
  intro d hd
  cases ha : a with
  | none => rw [ha] at hd; simp at hd
  | some A => rw [ha] at hd; simp at hd; have := S.own.lt ha; omega
end
end Fk
set_option linter.unusedVariables false
set_option linter.unusedSimpArgs false
set_option maxRecDepth 100000
namespace Fk
open Go Go.Proofs Go.RowKit
theorem eqNilP {P : Program} (a : Option Addr) (w : World) (o1 o2 : Operand) (t : TypeId) (e : TypeId) (ht : P.underlying t = some (.pointer e)) (hg : P.eqGuardType P.depth t = false) :
    (eqS .eql t o1 o2 (.pointer a) (.pointer none)).run P w = .ok (.bool a.isNone) w ∧ (eqS .neq t o1 o2 (.pointer a) (.pointer none)).run P w = .ok (.bool (!a.isNone)) w := by
  have h : ∀ d, (Op.equalIn (d + 1) t (.pointer a) (.pointer none)).run P w = .ok a.isNone w := by
    intro d
    cases a <;> simp [Op.equalIn, run_underlying ht]
  have h := h 9999
  constructor
  · unfold eqS eqGuard binOp Op.equal
    simp only [Sem.run_bind]
    simp [hg, h, Op.maxDepth]
  · unfold eqS eqGuard binOp Op.equal
    simp only [Sem.run_bind]
    simp [hg, h, Op.maxDepth]
/-- A part is laid. -/
theorem fold_wr (off : Nat) : ∀ (vs : List Value) (k : Nat) (cs : List Value), off + k + vs.length ≤ cs.length → (vs.zipIdx k).foldl (fun cs (c, j) => cs.setIfInBounds (off + j) c) cs.toArray = (wrL cs (off + k) vs).toArray
  | [], k, cs, h => by simp [wrL]
  | v :: vs, k, cs, h => by
    simp only [List.length_cons] at h
    rw [List.zipIdx_cons, List.foldl_cons]
    have e : cs.toArray.setIfInBounds (off + k) v = (cs.set (off + k) v).toArray := by simp
    simp only [e]
    rw [fold_wr off vs (k + 1) (cs.set (off + k) v) (by simp; omega)]
    congr 1
    apply List.ext_getElem?
    intro j
    rw [wrL_get (by simp; omega), wrL_get (by simp; omega), List.getElem?_set]
    by_cases h1 : j = off + k
    · subst h1
      have c1 : ¬ (off + (k + 1) ≤ off + k ∧ off + k < off + (k + 1) + vs.length) := by omega
      have c2 : off + k ≤ off + k ∧ off + k < off + k + (v :: vs).length := by simp
      rw [if_neg c1, if_pos c2]
      simp; omega
    · by_cases h2 : off + (k + 1) ≤ j ∧ j < off + (k + 1) + vs.length
      · have c2 : off + k ≤ j ∧ j < off + k + (v :: vs).length := by simp; omega
        rw [if_pos h2, if_pos c2, show j - (off + k) = (j - (off + (k + 1))) + 1 by omega, List.getElem?_cons_succ]
      · have c2 : ¬ (off + k ≤ j ∧ j < off + k + (v :: vs).length) := by simp; omega
        rw [if_neg h2, if_neg c2, if_neg (fun e => h1 e.symm)]
end Fk
set_option linter.unusedVariables false
set_option linter.unusedSimpArgs false
set_option maxRecDepth 100000
set_option maxHeartbeats 2000000
namespace Fk
open Go Go.Proofs Go.RowKit
theorem nb1_map (l : List Nat) : l.flatMap b1 = l.map fun x : Nat => Value.int .u8 (x : Int) := by
  induction l with
  | nil => rfl
  | cons x l ih => rw [List.flatMap_cons, ih]; rfl
theorem Ct.call0 {P : Program} {f : FuncId} {args : Array Value} {w : World} {Φ K : Value → World → Prop} (h : Ct P f args w Φ) (hk : ∀ v w', Φ v w' → K v w') : CallW P [] f args K w :=
  ⟨.inl ⟨h.1, h.2.mono fun e w' he => by cases e <;> first | exact ⟨(fun b hb => by cases hb), hk _ _ he⟩ | exact he.elim⟩⟩
structure BldS (w0 w : World) (n : Nat) (used : Bool) (a : Option Addr) (c : Nat) (bs : List Nat) : Prop where
  blk : Blk w n 285 [.pointer (if used = true then some ⟨n, 0, none⟩ else none), .slice a bs.length c]
  md : Md [] w0 w
  nlo : w0.heap.size ≤ n
  own : OwnL w w0.heap.size 5 1 b1 a c bs
  ne : ∀ A, a = some A → A.block ≠ n
  nz : a = none ∨ c ≠ 0
theorem eqPtrSame (w : World) (a : Addr) (o1 o2 : Operand) : (eqS .neq 283 o1 o2 (.pointer (some a)) (.pointer (some a))).run Try.prog w = .ok (.bool false) w := by
  have hi : (Try.prog.info? 285).isSome = true := by kernel_rfl
  obtain ⟨j, hj⟩ := Option.isSome_iff_exists.1 hi
  have h := Go.Lib.run_neq_ptr_same (P := Try.prog) w (tp := 283) (te := 285) a (by kernel_rfl) hj
  have hg : Try.prog.eqGuardType Try.prog.depth 283 = false := by kernel_rfl
  unfold eqS eqGuard
  simp only [Sem.run_bind]
  simp [hg, h]
theorem Blk.shape {w : World} {n : Nat} {ty : TypeId} {l : List Value} (h : Blk w n ty l) : w.shape? n = some (ty, l.length) := by
  unfold World.shape?
  rw [h]
  simp
theorem f229_ok {w0 w : World} {n : Nat} {u : Bool} {a : Option Addr} {c : Nat} {bs : List Nat} (S : BldS w0 w n u a c bs) : Ct Try.prog 229 #[.pointer (some ⟨n, 0, none⟩)] w fun v w' => (v = .tuple #[] ∧ BldS w0 w' n true a c bs) ∧ Md [n] w w' := by
  apply f229_in
  refine NN_in <| S.blk.ld' rfl <| opP_in ?_
  cases u with
  | false =>
    simp only [Bool.false_eq_true, if_false]
    refine RunW_in0 (eqNilP (P := Try.prog) none w _ _ 283 285 (by kernel_rfl) (by kernel_rfl)).1 <| opB_in <| If_in (fun _ => ?_) fun h => by cases h
    have hi : (Try.prog.info? 285).isSome = true := by kernel_rfl
    obtain ⟨j, hj⟩ := Option.isSome_iff_exists.1 hi
    have hsz : (Try.prog.info? 285).map (·.size) = some 2 := by kernel_rfl
    rw [hj] at hsz
    have hsz' : j.size = 2 := by simpa using hsz
    have hsh := S.blk.shape
    refine RunW_in0 (Go.Lib.run_to_unsafe (P := Try.prog) w (src := 283) (dst := 303) (t := 285) ⟨n, 0, none⟩ (by kernel_rfl) (by kernel_rfl) hj (by omega) hsh (by simp)) ?_
    have hc := run_callFunc_extern (P := Try.prog) (f := 234) (fn := Try.f234) Try.func234 (by kernel_rfl) (by kernel_rfl) (e := Extern.AbiNoEscape.same) (by kernel_rfl) (by kernel_rfl) #[.pointer (some ⟨n, 0, none⟩)] w
    rw [Go.Lib.run_noEscape] at hc
    refine ⟨.inr ⟨_, _, hc, fun _ _ => rfl, ?_⟩⟩
    refine RunW_in0 (Go.Lib.run_from_unsafe (P := Try.prog) w (src := 303) (dst := 283) (u := 285) ⟨n, 0, none⟩ (by kernel_rfl) (by kernel_rfl) hj hsh (by kernel_rfl)) <| opP_in <| NN_in ?_
    rw [ad0']
    have m := Md_setCells (w := w) n 0 [.pointer (some ⟨n, 0, none⟩)]
    have b' := S.blk.set (j := 0) (by simp) (.pointer (some ⟨n, 0, none⟩))
    exact ⟨by simp, S.blk.wr (by simp), ⟨by trivial, b', S.md.old m (by simp; exact S.nlo), S.nlo, S.own.mdD m (fun A hA => by simp; exact S.ne A hA), S.ne, S.nz⟩, m⟩
  | true =>
    simp only [if_true]
    refine RunW_in0 (eqNilP (P := Try.prog) (some ⟨n, 0, none⟩) w _ _ 283 285 (by kernel_rfl) (by kernel_rfl)).1 <| opB_in <| If_in (fun h => by cases h) fun _ => NN_in <| S.blk.ld' rfl <| opP_in ?_
    simp only [if_true]
    exact RunW_in0 (eqPtrSame w ⟨n, 0, none⟩ _ _) <| opB_in <| If_in (fun h => by cases h) fun _ => ⟨⟨by trivial, S⟩, Md.refl _ _⟩
theorem f218_ok {w0 w : World} {n : Nat} {u : Bool} {a : Option Addr} {c : Nat} {bs : List Nat} (S : BldS w0 w n u a c bs) (x : Nat) (hl : bs.length < 2 ^ 30) : Ct Try.prog 218 #[.pointer (some ⟨n, 0, none⟩), .int .u8 x] w fun v w' => ∃ a' c', BldS w0 w' n true a' c' (bs ++ [x]) := by
  apply f218_in
  refine (f229_ok S).callD (by simp) (by simp) ?_
  rintro v w2 ⟨rfl, S2⟩ m2
  refine opTu_in <| SzIs_in rfl <| NN_in <| S2.blk.ld' rfl <| opL_in ?_
  refine app_one rowT51 encb1 x rfl S2.own S2.md.size (by simp) (by simp) (by simp [maxLen]; omega) (by omega) fun a' c' w12 o12 m12 hA => opL_in <| NN_in ?_
  rw [ad0']
  have hnd : n ∉ (a.map (·.block)).toList := fun hd => by obtain ⟨A, hA', e⟩ := mem_blk hd; exact S.ne A hA' e
  have b12 := S2.blk.md m12 hnd
  have hlt := S2.blk.lt
  have md12 : Md [] w0 w12 := S2.md.old m12 (fun d hd => by obtain ⟨A, hA', rfl⟩ := mem_blk hd; exact (S2.own.lt hA').1)
  have m := Md_setCells (w := w12) n 1 [.slice a' (bs ++ [x]).length c']
  have ne' : ∀ A, a' = some A → A.block ≠ n := fun A h e => by
    rcases hA A h with h1 | h1
    · exact S.ne A h1 e
    · omega
  have b' := b12.set (j := 1) (by simp) (.slice a' (bs ++ [x]).length c')
  have hcap := o12.cap
  exact ⟨by simp, b12.wr (by simp), a', c', ⟨b', md12.old m (by simp; exact S.nlo), S.nlo, o12.mdD m (fun A hA => by simp; exact ne' A hA), ne', .inr (by simp at hcap; omega)⟩⟩
theorem Md_freeze (w : World) (g n : Nat) : Md [g] w (w.freeze ⟨g, 0, none⟩ n) := by
  unfold World.freeze
  split
  · exact Md.refl _ _
  · refine ⟨rfl, rfl, rfl, by simp, fun k hk hm => ?_⟩
    have hne : ¬ g = k := fun e => hm (by simp [e])
    simp [Array.getElem?_modify, hne]
theorem f219_ok {w0 w : World} {n : Nat} {u : Bool} {a : Option Addr} {c : Nat} {bs : List Nat} (S : BldS w0 w n u a c bs) (hb : ∀ x ∈ bs, x < 256) (hl : bs.length < 2 ^ 30) : Ct Try.prog 219 #[.pointer (some ⟨n, 0, none⟩)] w fun v w' => v = .string (bytesOf bs) ∧ Md [] w0 w' := by
  apply f219_in
  have hnd : n ∉ (a.map (·.block)).toList := fun hd => by obtain ⟨A, hA', e⟩ := mem_blk hd; exact S.ne A hA' e
  have hbk : ∀ {w' : World}, Md (a.map (·.block)).toList w.drew w' → Blk w' n 285 [.pointer (if u = true then some ⟨n, 0, none⟩ else none), .slice a bs.length c] := fun hm => (S.blk.md (Md_drew w) (by simp)).md hm hnd
  have lo : ∀ d ∈ (a.map (·.block)).toList, w0.heap.size ≤ d := fun d hd => by obtain ⟨A, hA', rfl⟩ := mem_blk hd; exact (S.own.lt hA').1
  refine ⟨fun w' => Md (a.map (·.block)).toList w.drew w', Md.refl _ _, NN_in ?_⟩
  show ∃ v3, _ ∧ _
  refine ⟨_, fun w' hm => (hbk hm).ld' rfl rfl, opL_in <| NN_in ?_⟩
  show ∃ v3, _ ∧ _
  refine ⟨_, fun w' hm => (hbk hm).ld' rfl rfl, opL_in <| Bd_e rfl ?_⟩
  have md := S.md.trans (Md_drew w)
  cases ha : a with
  | none =>
    have h0 : bs = [] := by
      rcases S.own.2 with ⟨_, h⟩ | ⟨g, _, _, hv, _⟩
      · exact List.eq_nil_of_length_eq_zero h
      · simp [ha] at hv
    subst h0
    refine RunW_in0 (Go.Lib.run_unsafeSliceData_nil (P := Try.prog) w.drew _ _ _ _) <| opP_in ⟨Md.refl _ _, ?_⟩
    exact RunW_in0 (Go.Lib.run_unsafeString_none (P := Try.prog) w.drew 296 3 9 none) <| opStr_in ⟨Md.refl _ _, rfl, md⟩
  | some A =>
    have hc0 : c ≠ 0 := by rcases S.nz with h | h; rw [ha] at h; cases h; exact h
    refine RunW_in0 (Go.Lib.run_unsafeSliceData_row (P := Try.prog) w.drew _ _ A bs.length c hc0) <| opP_in ⟨Md.refl _ _, ?_⟩
    have own := S.own.md (Md_drew w)
    rw [ha] at own
    by_cases hbs : bs = []
    · subst hbs
      exact RunW_in0 (Go.Lib.run_unsafeString_none (P := Try.prog) w.drew 296 3 9 (some A)) <| opStr_in ⟨Md.refl _ _, rfl, md⟩
    · rcases own.2 with ⟨hv, _⟩ | ⟨g, cap, cur, hv, hbg, hg, hnc, hcm, hcs, htk⟩
      · simp at hv
      · simp only [Value.slice.injEq, Option.some.injEq] at hv
        obtain ⟨rfl, _, rfl⟩ := hv
        have hsh : w.drew.shape? g = some (5, cur.size) := by
          unfold World.shape?
          rw [hg]
        have hlen : (bs.map UInt8.ofNat).length = bs.length := by simp
        have hrun := Go.Lib.run_unsafeString_row (P := Try.prog) w.drew 296 3 9 5 (by kernel_rfl) (by kernel_rfl) g cur.size hsh (bs.map UInt8.ofNat) (by simpa using hbs) (by rw [hlen]; omega) (by rw [hlen]; omega) (fun j x hx => by
          rw [List.getElem?_map] at hx
          obtain ⟨y, hy, rfl⟩ := Option.map_eq_some_iff.1 hx
          obtain ⟨B, hB, hcl⟩ := own.cells j (.int .u8 (y : Int)) (by rw [nb1_map, List.getElem?_map, hy]; rfl)
          injection hB with hB
          subst hB
          have hy256 := hb y (List.mem_of_getElem? hy)
          rw [hcl]
          simp
          omega)
        rw [hlen] at hrun
        have mf := Md_freeze w.drew g bs.length
        refine RunW_in hrun (fun b hb => by cases hb) <| opStr_in ⟨by simpa using mf, rfl, md.old mf (by simp; exact hbg)⟩
def byteG : List Bool → Nat → Nat → Nat
  | [], _, acc => acc
  | h :: hs, i, acc => byteG hs (i + 1) (if h = true then acc ||| 2 ^ i else acc)
theorem byteG_bit (j : Nat) : ∀ (ch : List Bool) (i acc : Nat), (byteG ch i acc).testBit j = true ↔ acc.testBit j = true ∨ (i ≤ j ∧ ch[j - i]? = some true)
  | [], i, acc => by simp [byteG]
  | h :: hs, i, acc => by
    unfold byteG
    rw [byteG_bit j hs (i + 1)]
    by_cases hj : j = i
    · subst hj
      cases h with
      | true => simp [Nat.testBit_or]
      | false => simp; intro h2; omega
    · have e2 : (i + 1 ≤ j ∧ hs[j - (i + 1)]? = some true) ↔ (i ≤ j ∧ (h :: hs)[j - i]? = some true) := by
        constructor
        · rintro ⟨h1, h2⟩
          refine ⟨by omega, ?_⟩
          rw [show j - i = (j - (i + 1)) + 1 by omega, List.getElem?_cons_succ]; exact h2
        · rintro ⟨h1, h2⟩
          refine ⟨by omega, ?_⟩
          rw [show j - i = (j - (i + 1)) + 1 by omega, List.getElem?_cons_succ] at h2; exact h2
      rw [e2]
      cases h with
      | true => have hij : ¬ i = j := fun e => hj e.symm; simp [Nat.testBit_or, Nat.testBit_two_pow, hij]
      | false => simp
theorem byteG_lt : ∀ (ch : List Bool) (i acc : Nat), acc < 256 → i + ch.length ≤ 8 → byteG ch i acc < 256
  | [], i, acc, h, _ => h
  | h :: hs, i, acc, ha, hi => by
    simp only [List.length_cons] at hi
    unfold byteG
    refine byteG_lt hs _ _ ?_ (by omega)
    split
    · have h2 : 2 ^ i < 2 ^ 8 := Nat.pow_lt_pow_right (by decide) (by omega)
      exact Nat.or_lt_two_pow (n := 8) ha h2
    · exact ha
def chunk (N : List Bool) (q : Nat) : List Bool := (N.drop (8 * q)).take 8
/-- Marks, eight to a byte. -/
def keyL (N : List Bool) (m : Nat) : List Nat := (List.range m).map fun q => byteG (chunk N q) 0 0
def keyN (n : Nat) : Nat := (n + 7) / 8
theorem keyL_succ (N : List Bool) (m : Nat) : keyL N (m + 1) = keyL N m ++ [byteG (chunk N m) 0 0] := by
  unfold keyL
  rw [List.range_succ, List.map_append]
  rfl
theorem keyL_lt (N : List Bool) (m : Nat) : ∀ x ∈ keyL N m, x < 256 := fun x hx => by
  simp only [keyL, List.mem_map, List.mem_range] at hx
  obtain ⟨q, _, rfl⟩ := hx
  exact byteG_lt _ _ _ (by decide) (by unfold chunk; rw [List.length_take]; omega)
theorem keyL_inj {N N' : List Bool} (hl : N.length = N'.length) (h : keyL N (keyN N.length) = keyL N' (keyN N.length)) : N = N' := by
  apply List.ext_getElem hl
  intro i h1 h2
  have hq : i / 8 < keyN N.length := by unfold keyN; omega
  have e := congrArg (fun l => l[i / 8]?) h
  simp only [keyL, List.getElem?_map, List.getElem?_range hq, Option.map_some, Option.some.injEq] at e
  have b1 := byteG_bit (i % 8) (chunk N (i / 8)) 0 0
  have b2 := byteG_bit (i % 8) (chunk N' (i / 8)) 0 0
  rw [e] at b1
  have b3 := b1.symm.trans b2
  simp only [Nat.zero_testBit, Bool.false_eq_true, false_or, Nat.zero_le, true_and, Nat.sub_zero] at b3
  have hc : ∀ (M : List Bool), (chunk M (i / 8))[i % 8]? = M[i]? := fun M => by
    unfold chunk
    rw [List.getElem?_take, if_pos (Nat.mod_lt _ (by decide)), List.getElem?_drop]
    congr 1; omega
  rw [hc, hc, List.getElem?_eq_getElem h1, List.getElem?_eq_getElem h2] at b3
  simp at b3
  revert b3
  cases N[i] <;> cases N'[i] <;> simp
theorem orB8 (x y : Nat) (hx : x < 256) (hy : y < 256) : IntKind.wrap .u8 ((BitVec.toNat (BitVec.ofInt 8 (x : Int) ||| BitVec.ofInt 8 (y : Int)) : Nat) : Int) = ((x ||| y : Nat) : Int) := by
  have h : x ||| y < 2 ^ 8 := Nat.or_lt_two_pow hx hy
  have e : BitVec.toNat (BitVec.ofInt 8 (x : Int) ||| BitVec.ofInt 8 (y : Int)) = x ||| y := by
    rw [BitVec.toNat_or, BitVec.ofInt_natCast, BitVec.ofInt_natCast, BitVec.toNat_ofNat, BitVec.toNat_ofNat, Nat.mod_eq_of_lt (by omega), Nat.mod_eq_of_lt (by omega)]
  rw [e, IntKind.wrap_u8]
  generalize x ||| y = m at *
  omega
theorem pow8 (j : Nat) (hj : j < 8) : IntKind.wrap .u8 (1 * 2 ^ min (Int.toNat (j : Int)) 8) = ((2 ^ j : Nat) : Int) := by
  have h2 : 2 ^ j < 2 ^ 8 := Nat.pow_lt_pow_right (by decide) hj
  have h1 : (2 : Int) ^ j = ((2 ^ j : Nat) : Int) := by simp
  rw [Int.toNat_natCast, Nat.min_eq_left (by omega), Int.one_mul, h1, IntKind.wrap_u8]
  generalize 2 ^ j = m at *
  omega
theorem size41 (w : World) : (Go.sizeOf 4).run Try.prog w = .ok 1 w := by
  have h : (Try.prog.info? 4).map (·.size) = some 1 := by kernel_rfl
  cases hi : Try.prog.info? 4 with
  | none => simp [hi] at h
  | some i => simp [hi] at h; simp [Go.sizeOf, typeInfo, hi, h]
theorem nslice_mid {P : Program} {t e : TypeId} (ht : P.underlying t = some (.slice e)) (hs : ∀ w, (Go.sizeOf e).run P w = .ok 1 w) (w : World) (a : Option Addr) (n c lo hi : Nat) (h : lo ≤ hi) (h2 : hi ≤ c) :
    (Instr.sliceAt t (.slice a n c) (some (.int .i64 (lo : Int))) (some (.int .i64 (hi : Int))) none).run P w = .ok (.slice (if c = lo then a else a.map (·.add (lo * 1))) (hi - lo) (c - lo)) w := by
  have he : P.elem t = e := by simp [Program.elem, ht]
  have ht' : P.underlying t = some (.slice (P.elem t)) := by rw [he]; exact ht
  rw [run_sliceAt_slice w t _ _ _ _ ht', run_slice_lh w t a n c ht' .i64 .i64 lo hi (by omega) (by omega) (by omega), he, hs w]
  simp [Result.andThen, sliced]
theorem f169_ok (N : List Bool) (A : Option Addr) (C bx : Nat) (hl : N.length ≤ 20000) (w : World) (hx : OwnL w bx 4 1 bE A C N) :
    Ct Try.prog 169 #[.slice A N.length C] w fun v w' => v = .string (bytesOf (keyL N (keyN N.length))) ∧ Md [] w w' := by
  apply f169_in
  refine Nw_i ?_
  have ma : Md [] w (w.alloc (.cells #[.pointer none, .slice none 0 0] 285)) := Md.alloc w _
  have S0 : BldS w (w.alloc (.cells #[.pointer none, .slice none 0 0] 285)) w.heap.size false none 0 [] := ⟨Blk.new w _ 285, ma, Nat.le_refl _, OwnL.nil .., (fun A hA => by cases hA), .inl rfl⟩
  refine LoopP_in (fun mm us vs w' => ∃ (q : Nat) (u : Bool) (a : Option Addr) (c : Nat), us = [.int .i64 ((8 * q : Nat) : Int)] ∧ mm = keyN N.length - q ∧ q ≤ keyN N.length ∧ BldS w w' w.heap.size u a c (keyL N q)) (keyN N.length)
    ⟨0, false, none, 0, rfl, rfl, by omega, S0⟩ ?_
  rintro mm us vs w6 ⟨q, u, a, c, rfl, hmm, hq, S⟩
  have hkl : (keyL N q).length = q := by simp [keyL]
  refine opI_in <| Bd_e rfl <| Bd_in fun b9 hb9 => If_in (fun hb => ?_) fun hb => ?_
  case refine_2 =>
    have hqe : q = keyN N.length := by
      have : ¬ ((8 * q : Nat) : Int) < (N.length : Int) := by rw [hb9] at hb; exact of_decide_eq_false hb
      unfold keyN at hq ⊢
      omega
    subst hqe
    refine (f219_ok S (keyL_lt N _) (by rw [hkl]; unfold keyN; omega)).call0 ?_
    rintro v w42 ⟨rfl, m42⟩
    exact opStr_in ⟨rfl, m42⟩
  have hlt : 8 * q < N.length := by rw [hb9] at hb; have : ((8 * q : Nat) : Int) < (N.length : Int) := of_decide_eq_true hb; omega
  have hcap := hx.cap
  have hxw := hx.md S.md
  refine Bd_e (y := ((8 * q + 8 : Nat) : Int)) (by rw [IntKind.wrap_i64]; omega) <| Bd_e rfl <| Bd_e (y := ((min (8 * q + 8) N.length : Nat) : Int)) (by split <;> omega) ?_
  refine RunW_in0 (nslice_mid (e := 4) (by kernel_rfl) size41 _ _ _ _ (8 * q) (min (8 * q + 8) N.length) (by omega) (by omega)) <| opL_in ?_
  have hch : chunk N q = (N.drop (8 * q)).take (min (8 * q + 8) N.length - 8 * q) := by
    unfold chunk
    by_cases h8 : 8 * q + 8 ≤ N.length
    · rw [Nat.min_eq_left h8]; congr 1; omega
    · rw [Nat.min_eq_right (by omega), List.take_of_length_le (by simp; omega), List.take_of_length_le (by simp)]
  have hcl : (chunk N q).length = min (8 * q + 8) N.length - 8 * q := by rw [hch]; simp; omega
  have hrow : RowAt w6 (if C = 8 * q then A else A.map (·.add (8 * q * 1))) 1 bE (chunk N q) := by
    rw [if_neg (by omega), hch]
    exact ((hxw.row encbE).drop (8 * q)).take _
  rw [← hcl]
  refine Bd_e rfl ?_
  refine LoopP_in (fun mm us vs w' => ∃ (i acc : Nat), us = [.int .u8 acc, .int .i64 i] ∧ mm = (chunk N q).length - i ∧ i ≤ (chunk N q).length ∧ byteG ((chunk N q).drop i) i acc = byteG (chunk N q) 0 0 ∧ acc < 256 ∧ w' = w6) (chunk N q).length
    ⟨0, 0, rfl, rfl, by omega, by simp, by omega, rfl⟩ ?_
  rintro m2 us vs w22 ⟨i, acc, rfl, hm2, hi, hacc, ha256, rfl⟩
  refine opI_in <| opI_in <| Bd_in fun b25 hb25 => If_in (fun hb => ?_) fun hb => ?_
  · have hic : i < (chunk N q).length := by rw [hb25] at hb; have : (i : Int) < ((chunk N q).length : Int) := of_decide_eq_true hb; omega
    rw [List.drop_eq_getElem_cons hic] at hacc
    rw [show byteG ((chunk N q)[i] :: (chunk N q).drop (i + 1)) i acc = byteG ((chunk N q).drop (i + 1)) (i + 1) (if (chunk N q)[i] = true then acc ||| 2 ^ i else acc) from rfl] at hacc
    refine Jn_in (fun us vs w' => ∃ (acc' : Nat) (z : Bool), us = [.int .u8 acc', .int .i64 i, .bool z] ∧ byteG ((chunk N q).drop (i + 1)) (i + 1) acc' = byteG (chunk N q) 0 0 ∧ acc' < 256 ∧ w' = w22) ?_ ?_
    · rintro us vs w28 ⟨acc', z, rfl, q1, q2, rfl⟩
      exact opI_in <| opI_in <| opB_in <| Bd_e (inc_i64 (by omega)) ⟨(chunk N q).length - (i + 1), by omega, i + 1, acc', rfl, rfl, by omega, q1, q2, rfl⟩
    refine ⟨hrow.ix hic, hrow.ld1 hic rfl <| opB_in <| If_in (fun hz => ?_) fun hz => ?_⟩
    · rw [if_pos hz] at hacc
      have h8 : 2 ^ i < 2 ^ 8 := Nat.pow_lt_pow_right (by decide) (by omega)
      exact ⟨by omega, Bd_e (pow8 i (by omega)) <| Bd_e (orB8 acc (2 ^ i) ha256 h8) ⟨_, _, rfl, hacc, Nat.or_lt_two_pow (n := 8) ha256 h8, rfl⟩⟩
    · rw [if_neg (by rw [hz]; simp)] at hacc
      exact ⟨acc, _, rfl, hacc, ha256, rfl⟩
  · have hic : i = (chunk N q).length := by
      have : ¬ (i : Int) < ((chunk N q).length : Int) := by rw [hb25] at hb; exact of_decide_eq_false hb
      omega
    subst hic
    rw [List.drop_of_length_le (Nat.le_refl _)] at hacc
    have hacc : acc = byteG (chunk N q) 0 0 := hacc
    refine (f218_ok S acc (by rw [hkl]; unfold keyN at hq; omega)).call0 ?_
    rintro v w39 ⟨a', c', S'⟩
    refine Bd_e (y := ((8 * (q + 1) : Nat) : Int)) (by rw [IntKind.wrap_i64]; omega) ⟨keyN N.length - (q + 1), by unfold keyN at *; omega, q + 1, true, a', c', rfl, rfl, by unfold keyN at *; omega, ?_⟩
    rw [keyL_succ, ← hacc]
    exact S'
end Fk
