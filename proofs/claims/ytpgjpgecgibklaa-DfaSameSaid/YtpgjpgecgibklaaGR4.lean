/- Contracts of functions, and plain laws: several texts, joined. -/
import Derived.Test.YtpgjpgecgibklaaGR2
import Derived.Test.YtpgjpgecgibklaaGK2
import Derived.Laws.Strings2
import Derived.Test.YtpgjpgecgibklaaGR1
import Derived.Test.YtpgjpgecgibklaaGR3
import Derived.Test.YtpgjpgecgibklaaGV1
set_option linter.unusedVariables false
set_option linter.unusedSimpArgs false
namespace Fk
open Go Go.Proofs Go.RowKit
def cntK (k : Int) (n s : Nat) : Nat := (if k = 1 ∨ k = 4 then 1 else if k = 3 then n - 1 else 0) + s
/-- How many states trees make. -/
def Fo.cnt : Fo → Nat
  | .nil => 0
  | .cons k _ _ _ _ q r => cntK k q.len q.cnt + r.cnt
def Fo.cnt1 : Fo → Nat
  | .nil => 0
  | .cons k _ _ _ _ q r => cntK k q.len q.cnt
theorem Fo.cnt_le : ∀ f : Fo, f.cnt + f.len ≤ 2 * f.size
  | .nil => by simp [Fo.cnt, Fo.len, Fo.size]
  | .cons k _ _ _ _ q r => by
    have h1 := Fo.cnt_le q
    have h2 := Fo.cnt_le r
    simp only [Fo.cnt, Fo.len, Fo.size, cntK]
    split
    · omega
    · split <;> omega
theorem len_zero : ∀ {f : Fo}, f.len = 0 → f = .nil
  | .nil, _ => rfl
  | .cons _ _ _ _ _ _ r, h => by simp [Fo.len] at h
theorem nodeOk_inv {k : Int} {z : Bool} {n : Nat} (h : nodeOk k z n = true) : (k = 0 ∧ n = 0 ∧ z = true) ∨ (k = 1 ∧ n = 0 ∧ z = false) ∨ (k = 2 ∧ 2 ≤ n ∧ z = true) ∨ (k = 3 ∧ 2 ≤ n ∧ z = true) ∨ (k = 4 ∧ n = 1 ∧ z = true) := by
  unfold nodeOk at h
  cases z <;> simp at h ⊢ <;> omega
theorem mst_min (most : Nat) (l : List Ns) (x : Ns) (h : l.length ≤ most + 1) : (mst most l x).length = min (l.length + 1) (most + 1) := by
  unfold mst
  split
  · simp; omega
  · omega
theorem tw_min (most : Nat) : ∀ f : Fo, f.right = true →
    (∀ p : List Ns × Int, p.1.length ≤ most + 1 → ((tw most f).cat p).1.length = min (p.1.length + f.cnt) (most + 1)) ∧
    (∀ (to : Int) (l : List Ns), l.length ≤ most + 1 → ((tw most f).alt to l).1.length = min (l.length + (f.cnt + (f.len - 1))) (most + 1) ∧ (((tw most f).alt to l).2 = none ↔ f.len = 0)) ∧
    (∀ p : List Ns × Int, p.1.length ≤ most + 1 → ((tw most f).one p).1.length = min (p.1.length + f.cnt1) (most + 1))
  | .nil, _ => by
    refine ⟨fun p h => ?_, fun to l h => ⟨?_, by simp [tw, Fo.len]⟩, fun p h => ?_⟩
    · show p.1.length = _; simp [Fo.cnt]; omega
    · show l.length = _; simp [Fo.cnt, Fo.len]; omega
    · show p.1.length = _; simp [Fo.cnt1]; omega
  | .cons k a b c d q r, hr => by
    simp only [Fo.right, Bool.and_eq_true] at hr
    obtain ⟨q1, q2, q3⟩ := tw_min most q hr.1.2
    obtain ⟨r1, r2, r3⟩ := tw_min most r hr.2
    have hn := nodeOk_inv hr.1.1
    have one : ∀ p : List Ns × Int, p.1.length ≤ most + 1 → (twOne most k a b c d (tw most q) p).1.length = min (p.1.length + cntK k q.len q.cnt) (most + 1) := by
      intro p hp
      unfold twOne
      split
      · omega
      · rename_i hfull
        rcases hn with ⟨rfl, h2, _⟩ | ⟨rfl, h2, _⟩ | ⟨rfl, h2, _⟩ | ⟨rfl, h2, _⟩ | ⟨rfl, h2, _⟩
        · have := len_zero h2; subst this
          simp [cntK, Fo.cnt]; omega
        · have := len_zero h2; subst this
          simp only [if_true, cntK, Fo.cnt]
          have := mst_min most p.1 ⟨1, a, b, c, d, p.2, 0, 0⟩ hp
          simpa [pst] using this
        · simp [cntK]; have := q1 p hp; simpa using this
        · simp [cntK]
          rw [(q2 p.2 p.1 hp).1]
          omega
        · have hq : q.cnt1 = q.cnt := by
            cases q with
            | nil => simp [Fo.len] at h2
            | cons k' a' b' c' d' q' r' =>
              have hr' : r' = .nil := len_zero (by simp [Fo.len] at h2; omega)
              subst hr'
              simp [Fo.cnt, Fo.cnt1]
          simp [cntK, setA_len]
          have h1 := mst_min most p.1 (spl 0 p.2) hp
          have h3 := q3 (pst most p.1 (spl 0 p.2)) (by simp only [pst]; omega)
          simp only [pst] at h3 ⊢
          rw [h3, h1, hq]
          omega
    refine ⟨fun p hp => ?_, fun to l hl => ⟨?_, ?_⟩, fun p hp => one p hp⟩
    · have h1 := r1 p hp
      have h2 := one ((tw most r).cat p) (by omega)
      show (twOne most k a b c d (tw most q) ((tw most r).cat p)).1.length = _
      rw [h2, h1]
      simp only [Fo.cnt]
      omega
    · have h1 := r2 to l hl
      have h2 := one (((tw most r).alt to l).1, to) (by simp only; omega)
      simp only at h2
      show (twAlt most _ _ to l).1.length = _
      unfold twAlt
      simp only [Fo.cnt, Fo.len]
      cases hq : ((tw most r).alt to l).2 with
      | none =>
        have := h1.2.1 hq
        have hrn := len_zero this
        subst hrn
        simp only
        rw [h2, h1.1]
        simp [Fo.len, Fo.cnt]; omega
      | some at' =>
        have : ¬ r.len = 0 := fun h => by rw [h1.2.2 h] at hq; cases hq
        simp only
        have h3 := mst_min most (twOne most k a b c d (tw most q) (((tw most r).alt to l).1, to)).1 (spl (twOne most k a b c d (tw most q) (((tw most r).alt to l).1, to)).2 at') (by omega)
        show (mst most _ _).length = _
        rw [h3, h2, h1.1]
        omega
    · show (twAlt most _ _ to l).2 = none ↔ _
      unfold twAlt
      simp only [Fo.len]
      cases ((tw most r).alt to l).2 <;> simp
theorem mst_agree {most M : Nat} {l : List Ns} (x : Ns) (h : l.length ≤ most) (hM : most ≤ M) : mst most l x = mst M l x := by
  unfold mst
  rw [if_pos h, if_pos (by omega)]
/-- Where the cap is not met it does not matter. -/
theorem tw_agree {most M : Nat} (hM : most ≤ M) : ∀ f : Fo, f.right = true →
    (∀ p : List Ns × Int, p.1.length + f.cnt ≤ most → (tw most f).cat p = (tw M f).cat p) ∧
    (∀ (to : Int) (l : List Ns), l.length + (f.cnt + (f.len - 1)) ≤ most → (tw most f).alt to l = (tw M f).alt to l) ∧
    (∀ p : List Ns × Int, p.1.length + f.cnt1 ≤ most → (tw most f).one p = (tw M f).one p)
  | .nil, _ => ⟨fun p h => rfl, fun to l h => rfl, fun p h => rfl⟩
  | .cons k a b c d q r, hr => by
    have hr0 := hr
    simp only [Fo.right, Bool.and_eq_true] at hr
    obtain ⟨q1, q2, q3⟩ := tw_agree hM q hr.1.2
    obtain ⟨r1, r2, r3⟩ := tw_agree hM r hr.2
    have hn := nodeOk_inv hr.1.1
    have one : ∀ p : List Ns × Int, p.1.length + cntK k q.len q.cnt ≤ most → twOne most k a b c d (tw most q) p = twOne M k a b c d (tw M q) p := by
      intro p hp
      unfold twOne
      rw [if_neg (show ¬ p.1.length > most by omega), if_neg (show ¬ p.1.length > M by omega)]
      rcases hn with ⟨rfl, h2, _⟩ | ⟨rfl, h2, _⟩ | ⟨rfl, h2, _⟩ | ⟨rfl, h2, _⟩ | ⟨rfl, h2, _⟩
      · simp
      · simp only [if_true]
        unfold pst
        rw [mst_agree _ (by omega) hM]
      · simp [cntK] at hp ⊢; exact q1 p hp
      · simp [cntK] at hp ⊢
        have := q2 p.2 p.1 (by omega)
        rw [this]
        exact ⟨rfl, rfl⟩
      · have hq : q.cnt1 = q.cnt := by
          cases q with
          | nil => simp [Fo.len] at h2
          | cons k' a' b' c' d' q' r' =>
            have hr' : r' = .nil := len_zero (by simp [Fo.len] at h2; omega)
            subst hr'
            simp [Fo.cnt, Fo.cnt1]
        simp [cntK] at hp ⊢
        have h1 : pst most p.1 (spl 0 p.2) = pst M p.1 (spl 0 p.2) := by unfold pst; rw [mst_agree _ (by omega) hM]
        have h2 := mst_min M p.1 (spl 0 p.2) (by omega)
        rw [h1]
        have h3 := q3 (pst M p.1 (spl 0 p.2)) (by simp only [pst]; omega)
        rw [h3]
        exact ⟨rfl, rfl⟩
    refine ⟨fun p hp => ?_, fun to l hl => ?_, fun p hp => one p hp⟩
    · simp only [Fo.cnt] at hp
      have h1 := (tw_min M r hr.2).1 p (by omega)
      show twOne most k a b c d (tw most q) ((tw most r).cat p) = twOne M k a b c d (tw M q) ((tw M r).cat p)
      rw [r1 p (by omega)]
      exact one _ (by omega)
    · simp only [Fo.cnt, Fo.len] at hl
      have h1 := (tw_min M r hr.2).2.1 to l (by omega)
      show twAlt most _ _ to l = twAlt M _ _ to l
      unfold twAlt
      dsimp only
      rw [r2 to l (by omega)]
      have h2 := one (((tw M r).alt to l).1, to) (by simp only; omega)
      rw [h2]
      have h3 := (tw_min M (.cons k a b c d q r) hr0).2.2 (((tw M r).alt to l).1, to) (by simp only; omega)
      change (twOne M k a b c d (tw M q) (((tw M r).alt to l).1, to)).1.length = _ at h3
      simp only [Fo.cnt1] at h3
      cases hq : ((tw M r).alt to l).2 with
      | none => rfl
      | some at' =>
        have : ¬ r.len = 0 := fun h => by rw [h1.2.2 h] at hq; cases hq
        simp only [pst]
        rw [mst_agree _ (by omega) hM]
end Fk
set_option linter.unusedVariables false
set_option linter.unusedSimpArgs false
set_option maxRecDepth 100000
set_option maxHeartbeats 2000000
namespace Fk
open Go Go.Proofs Go.RowKit
structure RS (w0 w : World) (a : Option Addr) (c : Nat) (l : List Ns) : Prop where
  md : Md [] w0 w
  own : OwnL w w0.heap.size 103 8 nsE a c l
/-- A row of states that one appends to, from a world on. -/
structure Sq (w0 wb : World) (pa : Option Addr) (n1 : Nat) (w : World) (a : Option Addr) (c : Nat) (l : List Ns) : Prop where
  rs : RS w0 w a c l
  md : Md (pa.map (·.block)).toList wb w
  rel : ∀ A, a = some A → pa = some A ∨ wb.heap.size ≤ A.block
  nlt : n1 < wb.heap.size
  np : ∀ A, pa = some A → A.block ≠ n1
section
variable {w0 wb w : World} {pa a : Option Addr} {n1 c : Nat} {l : List Ns}
theorem Sq.ln (S : Sq w0 wb pa n1 w a c l) : ∀ b ∈ [n1], b < w.heap.size := fun b hb => by simp at hb; subst hb; have := S.nlt; have := S.md.size; omega
theorem Sq.step (S : Sq w0 wb pa n1 w a c l) {w' : World} {a' : Option Addr} {c' : Nat} {l' : List Ns} (h : RS w0 w' a' c' l') (hm : Md (a.map (·.block)).toList w w') (hA : ∀ A, a' = some A → a = some A ∨ w.heap.size ≤ A.block) : Sq w0 wb pa n1 w' a' c' l' :=
  ⟨h, S.md.row hm S.rel, fun A h1 => by
    rcases hA A h1 with h2 | h2
    · exact S.rel A h2
    · have := S.md.size; right; omega, S.nlt, S.np⟩
end
theorem mst_fit {most : Nat} {l : List Ns} {x : Ns} (h : l.length ≤ most) : mst most l x = l ++ [x] := by unfold mst; rw [if_pos h]
theorem pst_fit {most : Nat} {l : List Ns} {x : Ns} (h : l.length ≤ most) : pst most l x = (l ++ [x], (l.length : Int)) := by unfold pst; rw [mst_fit h]; simp
theorem twOne_len_fit {k a b c d : Int} {q : Fo} (hn : nodeOk k (z4 a b c d) q.len = true) (hq : q.right = true) (p : List Ns × Int) (h : p.1.length + cntK k q.len q.cnt ≤ 20000) : (twOne 20000 k a b c d (tw 20000 q) p).1.length = p.1.length + cntK k q.len q.cnt := by
  have h1 := (tw_min 20000 (.cons k a b c d q .nil) (by simp [Fo.right, hn, hq])).2.2 p (by omega)
  change (twOne 20000 k a b c d (tw 20000 q) p).1.length = _ at h1
  rw [h1]
  simp only [Fo.cnt1]
  omega
end Fk
set_option linter.unusedVariables false
set_option linter.unusedSimpArgs false
set_option maxRecDepth 100000
set_option maxHeartbeats 2000000
namespace Fk
open Go Go.Proofs Go.RowKit
theorem one_min {most : Nat} {k a b c d : Int} {q : Fo} (hn : nodeOk k (z4 a b c d) q.len = true) (hq : q.right = true) (p : List Ns × Int) (h : p.1.length ≤ most + 1) : (twOne most k a b c d (tw most q) p).1.length = min (p.1.length + cntK k q.len q.cnt) (most + 1) :=
  (tw_min most (.cons k a b c d q .nil) (by simp [Fo.right, hn, hq])).2.2 p h
theorem one_agree {most M : Nat} (hM : most ≤ M) {k a b c d : Int} {q : Fo} (hn : nodeOk k (z4 a b c d) q.len = true) (hq : q.right = true) (p : List Ns × Int) (h : p.1.length + cntK k q.len q.cnt ≤ most) : twOne most k a b c d (tw most q) p = twOne M k a b c d (tw M q) p :=
  (tw_agree hM (.cons k a b c d q .nil) (by simp [Fo.right, hn, hq])).2.2 p h
theorem bldF_min (most : Nat) : ∀ (f : Fo) (i : Int) (l : List Ns) (bs : List Int), f.right = true → l.length ≤ most + 1 → (bldF most f i l bs).1.length = min (l.length + (f.cnt + f.len)) (most + 1) ∧ (bldF most f i l bs).2.length = bs.length + f.len
  | .nil, i, l, bs, _, hl => by simp only [bldF, Fo.cnt, Fo.len]; omega
  | .cons k a b c d q r, i, l, bs, hr, hl => by
    simp only [Fo.right, Bool.and_eq_true] at hr
    have h1 := mst_min most l ⟨0, 0, 0, 0, 0, 0, 0, i⟩ hl
    have h2 := one_min (most := most) hr.1.1 hr.1.2 (pst most l ⟨0, 0, 0, 0, 0, 0, 0, i⟩) (by simp only [pst]; omega)
    simp only [pst] at h2
    obtain ⟨h3, h4⟩ := bldF_min most r (i + 1) (twOne most k a b c d (tw most q) (pst most l ⟨0, 0, 0, 0, 0, 0, 0, i⟩)).1 (bs ++ [(twOne most k a b c d (tw most q) (pst most l ⟨0, 0, 0, 0, 0, 0, 0, i⟩)).2]) hr.2 (by simp only [pst]; omega)
    simp only [bldF, Fo.cnt, Fo.len]
    simp only [pst] at h3 h4 ⊢
    rw [h3, h4, h2, h1]
    simp
    omega
theorem bldF_agree {most M : Nat} (hM : most ≤ M) : ∀ (f : Fo) (i : Int) (l : List Ns) (bs : List Int), f.right = true → l.length + (f.cnt + f.len) ≤ most → bldF most f i l bs = bldF M f i l bs
  | .nil, i, l, bs, _, hl => rfl
  | .cons k a b c d q r, i, l, bs, hr, hl => by
    simp only [Fo.right, Bool.and_eq_true] at hr
    simp only [Fo.cnt, Fo.len] at hl
    have e1 : pst most l ⟨0, 0, 0, 0, 0, 0, 0, i⟩ = pst M l ⟨0, 0, 0, 0, 0, 0, 0, i⟩ := by unfold pst; rw [mst_agree _ (by omega) hM]
    have h1 := mst_min M l ⟨0, 0, 0, 0, 0, 0, 0, i⟩ (by omega)
    have e2 := one_agree hM hr.1.1 hr.1.2 (pst M l ⟨0, 0, 0, 0, 0, 0, 0, i⟩) (by simp only [pst]; omega)
    have h2 := one_min (most := M) hr.1.1 hr.1.2 (pst M l ⟨0, 0, 0, 0, 0, 0, 0, i⟩) (by simp only [pst]; omega)
    simp only [bldF]
    rw [e1, e2]
    refine bldF_agree hM r _ _ _ hr.2 ?_
    rw [h2]
    simp only [pst]
    omega
theorem joinB_min (most : Nat) : ∀ (bs : List Int) (l : List Ns), l.length ≤ most + 1 → (joinB most bs l).1.length = min (l.length + (bs.length - 1)) (most + 1)
  | [], l, h => by simp [joinB]; omega
  | [b], l, h => by simp [joinB]; omega
  | b :: b2 :: bs, l, h => by
    have h1 := joinB_min most (b2 :: bs) l h
    have h2 := mst_min most (joinB most (b2 :: bs) l).1 (spl b (joinB most (b2 :: bs) l).2) (by omega)
    show (mst most _ _).length = _
    rw [h2, h1]
    simp
    omega
theorem joinB_agree {most M : Nat} (hM : most ≤ M) : ∀ (bs : List Int) (l : List Ns), l.length + (bs.length - 1) ≤ most → joinB most bs l = joinB M bs l
  | [], l, h => rfl
  | [b], l, h => rfl
  | b :: b2 :: bs, l, h => by
    simp only [List.length_cons] at h
    have h1 := joinB_agree hM (b2 :: bs) l (by simp; omega)
    have h2 := joinB_min M (b2 :: bs) l (by omega)
    simp only [List.length_cons] at h2
    show pst most (joinB most (b2 :: bs) l).1 _ = pst M (joinB M (b2 :: bs) l).1 _
    rw [h1]
    unfold pst
    rw [mst_agree _ (by omega) hM]
def Fo.total (f : Fo) : Nat := f.cnt + (2 * f.len - 1)
/-- The machine with a cap that is not met. -/
def bldM (f : Fo) : List Ns × Int := joinB 20000 (bldF 20000 f 0 [] []).2 (bldF 20000 f 0 [] []).1
theorem bld_eq {f : Fo} {most : Int} (h1 : 1 ≤ f.len) (h2 : f.len ≤ 200) (h3 : 1 ≤ most) (h4 : most ≤ 20000) (hr : f.right = true) : bld f most = if most < f.total then ((0, []), 40) else (((bldM f).2, (bldM f).1), 0) := by
  obtain ⟨m, rfl⟩ := Int.eq_ofNat_of_zero_le (show 0 ≤ most by omega)
  unfold bld
  rw [if_pos ⟨h1, h2, h3, h4, hr⟩]
  simp only [Int.toNat_natCast]
  obtain ⟨b1, b2⟩ := bldF_min m f 0 [] [] hr (by simp)
  have b3 := joinB_min m (bldF m f 0 [] []).2 (bldF m f 0 [] []).1 (by omega)
  simp only [List.length_nil] at b1 b2
  unfold Fo.total
  by_cases hc : (m : Int) < ((f.cnt + (2 * f.len - 1) : Nat) : Int)
  · rw [if_pos hc, if_pos (by omega)]
  · rw [if_neg hc, if_neg (by omega)]
    unfold bldM
    have e1 := bldF_agree (show m ≤ 20000 by omega) f 0 [] [] hr (by simp; omega)
    rw [e1] at b1 b2 ⊢
    rw [joinB_agree (show m ≤ 20000 by omega) _ _ (by omega)]
theorem bldM_len {f : Fo} (h1 : 1 ≤ f.len) (hr : f.right = true) (h : f.total ≤ 20000) : (bldM f).1.length = f.total := by
  obtain ⟨b1, b2⟩ := bldF_min 20000 f 0 [] [] hr (by simp)
  have b3 := joinB_min 20000 (bldF 20000 f 0 [] []).2 (bldF 20000 f 0 [] []).1 (by omega)
  simp only [List.length_nil] at b1 b2
  unfold bldM
  unfold Fo.total at h ⊢
  rw [b3]
  omega
/-- States, and beginnings. -/
structure S2 (wb : World) (n1 : Nat) (w : World) (a : Option Addr) (c : Nat) (l : List Ns) (a2 : Option Addr) (c2 : Nat) (bs : List Int) : Prop where
  q : Sq wb wb none n1 w a c l
  o : OwnL w wb.heap.size 3 1 i1 a2 c2 bs
  ap : Apt a2 a
section
variable {wb w : World} {a a2 : Option Addr} {n1 c c2 : Nat} {l : List Ns} {bs : List Int}
theorem S2.st (S : S2 wb n1 w a c l a2 c2 bs) {w' : World} {a' : Option Addr} {c' : Nat} {l' : List Ns} (h : Sq wb wb none n1 w' a' c' l') (hm : Md (a.map (·.block)).toList w w') (hA : ∀ A, a' = some A → a = some A ∨ w.heap.size ≤ A.block) : S2 wb n1 w' a' c' l' a2 c2 bs :=
  ⟨h, S.o.mdD hm fun A hA' hd => by obtain ⟨B, hB, e⟩ := mem_blk hd; exact S.ap A B hA' hB e.symm, fun A B hA' hB e => by
    rcases hA B hB with h1 | h1
    · exact S.ap A B hA' h1 e
    · have := (S.o.lt hA').2; omega⟩
end
end Fk
set_option linter.unusedVariables false
set_option linter.unusedSimpArgs false
set_option maxRecDepth 100000
set_option maxHeartbeats 2000000
namespace Fk
open Go Go.Proofs Go.RowKit
theorem nbytes_ext (l : List Nat) (a b : Nat) : (bytesOf l).extract a b = bytesOf ((l.drop a).take (b - a)) := by
  apply ByteArray.ext
  apply Array.toList_inj.1
  simp [bytesOf, List.extract_eq_take_drop, List.map_take, List.map_drop]
theorem nund9 : Try.prog.underlying 9 = some .string := by kernel_rfl
theorem ncut_h (w : World) (l : List Nat) (y : Nat) (h2 : y ≤ l.length) :
    (Instr.sliceAt 9 (.string (bytesOf l)) none (some (.int .i64 (y : Int))) none).run Try.prog w = .ok (.string (bytesOf (l.take y))) w := by
  rw [run_sliceAt_string (h := nund9), run_slice_string_h w 9 (bytesOf l) nund9 .i64 (y : Int) (by omega) (by rw [nsz_bytesOf]; omega), nbytes_ext]
  simp
theorem f68_ok (s : List Nat) (n : Nat) (w : World) : Ct Try.prog 68 #[.string (bytesOf s), .int .i64 (n : Int)] w fun v w' => v = .string (bytesOf (s.take n)) ∧ Md [] w w' := by
  apply f68_in
  refine Bd_e rfl <| Bd_e (y := ((min n s.length : Nat) : Int)) (by rw [nsz_bytesOf]; split <;> omega) <| RunW_in0 (ncut_h w s (min n s.length) (by omega)) <| opStr_in ⟨?_, Md.refl _ _⟩
  congr 2
  by_cases h : n ≤ s.length
  · rw [Nat.min_eq_left h]
  · rw [Nat.min_eq_right (by omega), List.take_of_length_le (Nat.le_refl _), List.take_of_length_le (by omega)]
def reZ (_ : Unit) : List Value := [.int .u8 0, .int .u64 0, .int .u64 0, .int .u64 0, .int .u64 0, .slice none 0 0]
theorem encZ : Enc 6 reZ := ⟨fun _ => rfl, by intro x v hv; simp [reZ] at hv; rcases hv with rfl | rfl | rfl <;> rfl⟩
end Fk
set_option linter.unusedVariables false
set_option linter.unusedSimpArgs false
set_option maxRecDepth 100000
set_option maxHeartbeats 2000000
namespace Fk
open Go Go.Proofs Go.RowKit
theorem rgU {L : List Nat} {w0 w : World} {K : Nat → World → Prop} (h : Good L w0 w) (k : ∀ n w', Good (n :: L) w0 w' → Md [] w w' → K n w') : Rg w fun n => Up [n] (n :: L) w (K n) :=
  fun n hn w' hm hL => k n w' ⟨h.1.trans (hm.fresh (by simp; exact hn)), hL⟩ (hm.fresh (by simp; exact hn))
section
variable {L : List Nat} {w0 w : World}
theorem in66 (f : Fo) (A : Option Addr) (C : Nat) (most : Int) (h : Good L w0 w) (hr : RepF w A 0 f) (hl : f.len < 2 ^ 63) {K : Int → Option Addr → Nat → Nat → Int → World → Prop}
    (kk : ∀ a c w', Good L w0 w' → Md [] w w' → OwnL w' w.heap.size 103 8 nsE a c (bld f most).1.2 → K (bld f most).1.1 a (bld f most).1.2.length c (bld f most).2 w') :
    CallW Try.prog L 66 #[.slice A f.len C, .int .i64 most] (fun v w' => opTu v fun cs => opAg (nthD cs.toList 0) fun cs2 => opI .i64 (nthD cs2.toList 0) fun x => opL (nthD cs2.toList 1) fun a n c => SzIs cs2.size 2 (opI .i64 (nthD cs.toList 1) fun e => SzIs cs.size 2 (K x a n c e w'))) w := by
  refine (f66_ok f A C most w hr hl).call h.2 ?_
  rintro v w' ⟨a, c, rfl, own⟩ h'
  exact opTu_in <| opAg_in <| opI_in <| opL_in <| SzIs_in rfl <| opI_in <| SzIs_in rfl <| kk a c w' (h.tr h') h' own
theorem in69 (st : Int) (l : List Ns) (A : Option Addr) (C : Nat) (s : List Nat) (hs : ∀ x ∈ s, x < 256) (h : Good L w0 w) (hr : RowAt w A 8 nsE l) (hl : l.length < 2 ^ 40) (hsl : s.length < 2 ^ 30) {K : Option Addr → Nat → Nat → Int → World → Prop}
    (kk : ∀ a c w', Good L w0 w' → Md [] w w' → OwnL w' w.heap.size 3 1 i1 a c (runA st l s).1 → K a (runA st l s).1.length c (runA st l s).2 w') :
    CallW Try.prog L 69 #[.agg #[.int .i64 st, .slice A l.length C], .string (bytesOf s)] (fun v w' => opTu v fun cs => opL (nthD cs.toList 0) fun a n c => opI .i64 (nthD cs.toList 1) fun e => SzIs cs.size 2 (K a n c e w')) w := by
  refine (f69_ok st l A C s hs w hr hl hsl).call h.2 ?_
  rintro v w' ⟨a, c, rfl, own⟩ h'
  exact opTu_in <| opL_in <| opI_in <| SzIs_in rfl <| kk a c w' (h.tr h') h' own
theorem in73 (a b : List Int) (A B : Option Addr) (C D : Nat) (h : Good L w0 w) (ha : RowAt w A 1 i1 a) (hb : RowAt w B 1 i1 b) (hl : a.length < 2 ^ 63) {K : Bool → World → Prop} (kk : ∀ w', Good L w0 w' → Md [] w w' → K (decide (a = b)) w') :
    CallW Try.prog L 73 #[.slice A a.length C, .slice B b.length D] (fun v w' => opB v fun b => K b w') w := by
  refine (f73_ok a b A B C D w ha hb hl).call h.2 ?_
  rintro v w' rfl h'
  exact opB_in (kk w' (h.tr h') h')
theorem in68 (s : List Nat) (n : Nat) (h : Good L w0 w) {K : ByteArray → World → Prop} (kk : ∀ w', Good L w0 w' → Md [] w w' → K (bytesOf (s.take n)) w') :
    CallW Try.prog L 68 #[.string (bytesOf s), .int .i64 (n : Int)] (fun v w' => opStr v fun b => K b w') w := by
  refine (f68_ok s n w).call h.2 ?_
  rintro v w' rfl h'
  exact opStr_in (kk w' (h.tr h') h')
end
def exF : Fo := .cons 1 0 17179869184 0 0 .nil (.cons 4 0 0 0 0 (.cons 1 0 8589934592 0 0 .nil .nil) .nil)
def exS : List Ns := [⟨0, 0, 0, 0, 0, 0, 0, 0⟩, ⟨1, 0, 17179869184, 0, 0, 0, 0, 0⟩, ⟨0, 0, 0, 0, 0, 0, 0, 1⟩, ⟨2, 0, 0, 0, 0, 4, 2, 0⟩, ⟨1, 0, 8589934592, 0, 0, 3, 0, 0⟩, ⟨2, 0, 0, 0, 0, 1, 3, 0⟩]
def o42a (m : Int) : Obj := .cells #[.int .u8 1, .int .u64 0, .int .u64 m, .int .u64 0, .int .u64 0, .slice none 0 0] 42
def o42b (m : Int) (n : Nat) : Obj := .cells #[.int .u8 1, .int .u64 0, .int .u64 m, .int .u64 0, .int .u64 0, .slice none 0 0, .int .u8 4, .int .u64 0, .int .u64 0, .int .u64 0, .int .u64 0, .slice (some ⟨n, 0, none⟩) 1 1] 42
theorem ReC.blk {w : World} {n : Nat} {ty : TypeId} {l : List Value} (h : Blk w n ty l) (o : Nat) {k a b c d : Int} {sa : Option Addr} {sn sc : Nat}
    (e0 : l[o]? = some (.int .u8 k)) (e1 : l[o + 1]? = some (.int .u64 a)) (e2 : l[o + 2]? = some (.int .u64 b)) (e3 : l[o + 3]? = some (.int .u64 c)) (e4 : l[o + 4]? = some (.int .u64 d)) (e5 : l[o + 5]? = some (.slice sa sn sc)) :
    ReC w ((Addr.mk n 0 none).add o) k a b c d sa sn sc := by
  have e : ∀ j, ((Addr.mk n 0 none).add o).add j = ⟨n, o + j, none⟩ := fun j => by rw [add_add, ad0']
  unfold ReC
  rw [e, e, e, e, e, e]
  exact ⟨h.cell e0, h.cell e1, h.cell e2, h.cell e3, h.cell e4, h.cell e5⟩
theorem exRep (w : World) : RepF ((w.alloc (o42a 8589934592)).alloc (o42b 17179869184 w.heap.size)) (some ⟨(w.alloc (o42a 8589934592)).heap.size, 0, none⟩) 0 exF := by
  have b1 : Blk (w.alloc (o42a 8589934592)) w.heap.size 42 _ := Blk.new w _ 42
  have b2 : Blk ((w.alloc (o42a 8589934592)).alloc (o42b 17179869184 w.heap.size)) (w.alloc (o42a 8589934592)).heap.size 42 _ := Blk.new (w.alloc (o42a 8589934592)) _ 42
  have b1' := b1.md (Md.alloc (M := []) _ (o42b 17179869184 w.heap.size)) (by simp)
  simp only [exF, RepF, Fo.len]
  refine ⟨⟨_, none, 0, rfl, ReC.blk b2 0 rfl rfl rfl rfl rfl rfl, by omega, trivial⟩, ⟨_, _, 1, rfl, ReC.blk b2 6 rfl rfl rfl rfl rfl rfl, by omega, ⟨_, none, 0, rfl, ReC.blk b1' 0 rfl rfl rfl rfl rfl rfl, by omega, trivial⟩, trivial⟩, trivial⟩
end Fk
set_option linter.unusedVariables false
set_option linter.unusedSimpArgs false
set_option maxRecDepth 100000
set_option maxHeartbeats 2000000
namespace Fk
open Go Go.Proofs Go.RowKit
theorem bld_len (f : Fo) (most : Int) : (bld f most).1.2.length ≤ 20000 := by
  by_cases h : 1 ≤ f.len ∧ f.len ≤ 200 ∧ 1 ≤ most ∧ most ≤ 20000 ∧ f.right = true
  · rw [bld_eq h.1 h.2.1 h.2.2.1 h.2.2.2.1 h.2.2.2.2]
    split
    · simp
    · rename_i hc
      simp only
      rw [bldM_len h.1 h.2.2.2.2 (by omega)]
      omega
  · unfold bld; rw [if_neg h]; simp
end Fk
set_option linter.unusedVariables false
set_option linter.unusedSimpArgs false
set_option linter.unusedSectionVars false
set_option maxRecDepth 100000
namespace Fk
open Go Go.Proofs Go.RowKit
theorem num_right {K : Type} [DecidableEq K] : ∀ (ks kn : List K), rightGo (numGo ks kn).1 kn.length = some (numGo ks kn).2.length
  | [], kn => rfl
  | k :: ks, kn => by
    rw [numGo]
    by_cases h : k ∈ kn
    · have := idxK_lt h
      simp only [rightGo]
      rw [if_neg (by omega), if_neg (by omega), addK_old h]
      exact num_right ks kn
    · have := idxK_new h
      simp only [rightGo]
      rw [if_neg (by omega), if_pos (by omega), addK_new h]
      have ih := num_right ks (kn ++ [k])
      simpa using ih
theorem ref_go (l : List Q4) : rightGo (refCl l).f 0 = some (numGo ((List.range 256).map (sig l)) []).2.length := num_right _ []
theorem ref_m (l : List Q4) : (refCl l).m = ((numGo ((List.range 256).map (sig l)) []).2.length : Int) := rfl
theorem ref_right (l : List Q4) : (refCl l).right = true := by
  unfold Cl.right
  rw [ref_go, ref_m]
  simp
theorem sig_iff (l : List Q4) (a b : Nat) : sig l a = sig l b ↔ ∀ q ∈ l, inQ q a = inQ q b := by
  unfold sig
  rw [List.map_inj_left]
theorem num_lab_iff {K : Type} [DecidableEq K] (σ : Nat → K) (n : Nat) {a b : Nat} (ha : a < n) (hb : b < n) : (numGo ((List.range n).map σ) []).1[a]? = (numGo ((List.range n).map σ) []).1[b]? ↔ σ a = σ b := by
  rw [num_at σ n ha, num_at σ n hb]
  constructor
  · intro h
    exact idxK_inj (num_mem σ n ha) (num_mem σ n hb) (Option.some.inj h)
  · intro h; rw [h]
theorem ref_lab_iff (l : List Q4) {a b : Nat} (ha : a < 256) (hb : b < 256) : (refCl l).f[a]? = (refCl l).f[b]? ↔ ∀ q ∈ l, inQ q a = inQ q b := by
  rw [← sig_iff]
  exact num_lab_iff (sig l) 256 ha hb
theorem ref_fits (l : List Q4) (q : Q4) (hq : q ∈ l) : (refCl l).fits q = true := by
  have hok := refCl_ok l
  rw [fits_eq hok]
  unfold Cl.fitsR
  rw [← right_iff hok, ref_right, Bool.true_and, List.all_eq_true]
  rintro ⟨x, b⟩ hp
  rw [List.mem_zipIdx_iff_getElem?] at hp
  have hb : (refCl l).f[b]? = some x := hp
  have hb' := (List.getElem?_eq_some_iff.1 hb).1
  have hlb := least_at hb
  have hg := least_get _ _ (show least (refCl l).f (x : Int) < (refCl l).f.length by omega)
  rw [hok.len] at hb'
  have := (ref_lab_iff l (a := b) (b := least (refCl l).f (x : Int)) hb' (by omega)).1 (by rw [hb, hg]) q hq
  simpa using this
end Fk
set_option linter.unusedVariables false
set_option linter.unusedSimpArgs false
set_option maxRecDepth 100000
namespace Fk
open Go Go.Proofs Go.RowKit
def Fo.app : Fo → Fo → Fo
  | .nil, x => x
  | .cons k a b c d q r, x => .cons k a b c d q (r.app x)
theorem Fo.app_nil : ∀ x : Fo, x.app .nil = x
  | .nil => rfl
  | .cons k a b c d q r => by rw [Fo.app, r.app_nil]
theorem Fo.app_assoc : ∀ x y z : Fo, (x.app y).app z = x.app (y.app z)
  | .nil, y, z => rfl
  | .cons k a b c d q r, y, z => by simp only [Fo.app, r.app_assoc]
theorem TrF.app {w : World} : ∀ {l l2 : List Tr} {f f2 : Fo}, TrF w l f → TrF w l2 f2 → TrF w (l ++ l2) (f.app f2)
  | [], l2, .nil, f2, _, h2 => h2
  | t :: l, l2, .cons k a b c d q r, f2, ⟨h, h1⟩, h2 => ⟨h, TrF.app h1 h2⟩
  | [], _, .cons .., _, h, _ => h.elim
  | _ :: _, _, .nil, _, h, _ => h.elim
/-- Those that are right. -/
def Fo.good : Fo → Fo
  | .nil => .nil
  | .cons k a b c d q r => if (nodeOk k (z4 a b c d) q.len && q.right) = true then .cons k a b c d q r.good else r.good
theorem Fo.good_right : ∀ f : Fo, f.good.right = true
  | .nil => rfl
  | .cons k a b c d q r => by
    simp only [Fo.good]
    split
    · rename_i h; simp only [Fo.right, h, r.good_right]; rfl
    · exact r.good_right
theorem Fo.good_len : ∀ f : Fo, f.good.len ≤ f.len
  | .nil => Nat.le_refl _
  | .cons k a b c d q r => by
    have := r.good_len
    simp only [Fo.good]
    split <;> simp only [Fo.len] <;> omega
end Fk
set_option linter.unusedVariables false
set_option linter.unusedSimpArgs false
set_option maxRecDepth 100000
set_option maxHeartbeats 4000000
namespace Fk
open Go Go.Proofs Go.RowKit
theorem f64_ok (fo : Fo) (sa : Option Addr) (sc : Nat) (w : World) (hr : RepF w sa 0 fo) (hl : fo.len ≤ 2 ^ 41) :
    Ct Try.prog 64 #[.slice sa fo.len sc] w fun v w' => (∃ a c L, v = .slice a L.length c ∧ OwnT w' w.heap.size a c L ∧ TrF w' L fo.good) ∧ Md [] w w' := by
  apply f64_in
  refine Bd_in fun x1 hx1 => ?_
  subst hx1
  refine LoopP_in (fun m us vs w' => ∃ (i : Nat) (r : Fo) (a : Option Addr) (c : Nat) (L : List Tr) (f1 : Fo), us = [.slice a L.length c, .int .i64 i] ∧ vs = [] ∧ m = r.len ∧ i + r.len = fo.len ∧ L.length + r.len ≤ fo.len ∧ RepF w sa i r ∧ Md [] w w' ∧
      OwnT w' w.heap.size a c L ∧ TrF w L f1 ∧ f1.app r.good = fo.good)
    fo.len ⟨0, fo, none, 0, [], .nil, rfl, rfl, rfl, by omega, by simp, hr, Md.refl _ _, OwnL.nil .., trivial, rfl⟩ ?_
  rintro m us vs w5 ⟨i, r, a, c, L, f1, rfl, rfl, rfl, hi, hls, hri, h5, ho5, hT5, hf1⟩
  refine opL_in <| opI_in <| Bd_in fun b10 hb10 => If_in (fun hb => ?_) fun hb => ?_
  · subst hb10
    simp only [decide_eq_true_eq, Int.ofNat_lt] at hb
    cases r with
    | nil => simp [Fo.len] at hi; omega
    | cons k' a' b' c' d' q' r' => ?_
    obtain ⟨B, sa', sc', rfl, hc', hql, hq, hr'⟩ := hri.at
    simp only [Fo.len] at hi hls
    refine Jn_in (fun us vs w' => ∃ (a : Option Addr) (c : Nat) (L' : List Tr) (f2 : Fo), us = [.slice a L'.length c] ∧ L'.length ≤ L.length + 1 ∧ Md [] w w' ∧ OwnT w' w.heap.size a c L' ∧ TrF w L' f2 ∧ f2.app r'.good = fo.good) ?_ ?_
    · rintro us vs w13 ⟨a1, c1, L', f2, rfl, hL', h13, ho13, hT13, hf2⟩
      refine opL_in <| Bd_in fun x17 hx17 => ?_
      rw [show IntKind.wrap .i64 ((i : Int) + 1) = ((i + 1 : Nat) : Int) by rw [IntKind.wrap_i64]; omega] at hx17
      subst hx17
      exact ⟨r'.len, by simp [Fo.len], i + 1, r', a1, c1, L', f2, rfl, rfl, rfl, by omega, by omega, hr', h13, ho13, hT13, hf2⟩
    · refine ⟨⟨by omega, by omega, rfl⟩, ?_⟩
      refine ReC.ld (hc'.md h5) ?_
      intro n33 hn33 w34 h34 hL34
      have h34' := h5.old h34 (by simpa using Nat.le_trans h5.size hn33)
      have ho34 := ho5.mdN h34 (by simpa using hn33)
      refine (f144_ok _ q' _ _ _ _ _ _ _ _ (Nat.le_refl _) (hq.md h34') hql).call hL34 ?_
      rintro v35 w36 rfl h36
      have h36' := h34'.trans h36
      have ho36 := ho34.md h36
      simp only [Fo.good] at hf1
      refine opB_in <| If_in (fun h => ?_) fun h => ?_
      · rw [if_pos h] at hf1
        refine app_one rowT22 enc6 ⟨k', (a', b', c', d'), sa', q'.len, sc'⟩ rfl ho36 h36'.size (fun b hb => Nat.lt_of_lt_of_le (hL34 b hb) h36.size) ?_ (by simp [maxLen]; omega) (by omega) ?_
        · intro b hb A hA
          have := (ho5.lt hA).2
          simp at hb; omega
        intro a42 c42 w41 ho41 hm41 _
        have h41 := h36'.own ho36 hm41
        have hTt : TrF w [⟨k', (a', b', c', d'), sa', q'.len, sc'⟩] (.cons k' a' b' c' d' q' .nil) := ⟨⟨rfl, rfl, rfl, hql, hq⟩, trivial⟩
        refine opL_in ⟨a42, c42, _, f1.app (.cons k' a' b' c' d' q' .nil), rfl, by simp, h41, ho41, TrF.app hT5 hTt, ?_⟩
        rw [← hf1, Fo.app_assoc]; rfl
      · rw [if_neg (by simp [h])] at hf1
        exact ⟨a, c, L, f1, rfl, by omega, h36', ho36, hT5, hf1⟩
  · subst hb10
    simp only [decide_eq_false_iff_not, Int.ofNat_lt] at hb
    cases r with
    | nil => simp only [Fo.good, Fo.app_nil] at hf1; rw [← hf1]; exact ⟨⟨a, c, L, rfl, ho5, hT5.md h5⟩, h5⟩
    | cons => simp only [Fo.len] at hi; omega
theorem in64 (fo : Fo) (A : Option Addr) (C : Nat) (hl : fo.len ≤ 2 ^ 41) {L : List Nat} {w0 w : World} {K : Option Addr → Nat → Nat → World → Prop} (h : Good L w0 w) (hr : RepF w A 0 fo)
    (kk : ∀ w' a c, Good L w0 w' → RepF w' a 0 fo.good → K a fo.good.len c w') :
    CallW Try.prog L 64 #[.slice A fo.len C] (fun v w' => opL v fun a n c => K a n c w') w := by
  refine (f64_ok fo A C w hr hl).call h.2 ?_
  rintro v w' ⟨a, c, L', rfl, ho, hT⟩ h'
  have hrep : RepF w' a 0 fo.good := TrF.rep (ho.row enc6) hT rfl
  refine opL_in ?_
  rw [hT.len]
  exact kk w' a c (h.tr h') hrep
theorem f161_ok (b : Nat) (hb : b = 97 ∨ b = 98) (w : World) : Ct Try.prog 161 #[.int .u8 (b : Int)] w fun v w' => v = .agg #[.int .u8 1, .int .u64 0, .int .u64 (2 ^ (b - 64)), .int .u64 0, .int .u64 0, .slice none 0 0] ∧ Md [] w w' := by
  apply f161_in
  intro n1 hn1 w2 h2 hL2
  have l1 := hL2 n1 (by simp)
  refine Nw_i ?_
  have ma : Md [] w2 (w2.alloc (.cells #[.int .u8 0, .int .u64 0, .int .u64 0, .int .u64 0, .int .u64 0, .slice none 0 0] 42)) := Md.alloc w2 _
  have ol : OwnL (w2.alloc (.cells #[.int .u8 0, .int .u64 0, .int .u64 0, .int .u64 0, .int .u64 0, .slice none 0 0] 42)) w2.heap.size 42 6 reZ (some ⟨w2.heap.size, 0, none⟩) 1 [()] := OwnL.lit (P := Try.prog) (base := w2.heap.size) encZ w2 42 [()] _ (Nat.le_refl _) (by simp [maxLen]) rfl
  generalize w2.alloc (.cells #[.int .u8 0, .int .u64 0, .int .u64 0, .int .u64 0, .int .u64 0, .slice none 0 0] 42) = w4 at *
  have hN : n1 < w2.heap.size := l1
  have hsz := h2.size
  generalize w2.heap.size = n3 at *
  obtain ⟨A, hA, p1, p2, p3, p4, p5⟩ := own_put (n := 1) ol 0 [.int .u8 1, .int .u64 0, .int .u64 0, .int .u64 0, .int .u64 0, .slice none 0 0] (by simp [reZ]) (by simp)
  injection hA with hA
  subst hA
  have e0 : (Addr.mk n3 0 none).add 0 = ⟨n3, 0, none⟩ := Addr.add_lit _ _ _
  rw [e0] at p3 p4 p5
  generalize setCells w4 ⟨n3, 0, none⟩ 0 [.int .u8 1, .int .u64 0, .int .u64 0, .int .u64 0, .int .u64 0, .slice none 0 0] = w5 at *
  obtain ⟨A, hA, q1, q2, q3, q4, q5⟩ := own_put (n := 1) p4 2 [.int .u64 (2 ^ (b - 64))] (by simp [reZ, wrL]) (by simp)
  injection hA with hA
  subst hA
  have e2 : ((Addr.mk n3 0 none).add 1).add (1 * 1) = (Addr.mk n3 0 none).add 2 := by rw [add_add]
  refine ⟨by simp; omega, p3, Bd_e (y := 1) (by rcases hb with rfl | rfl <;> rfl) <| Bd_e (y := ((b - 64 : Nat) : Int)) (by rcases hb with rfl | rfl <;> rfl) ⟨by omega, Bd_e (y := 2 ^ (b - 64)) (by rcases hb with rfl | rfl <;> rfl) ⟨⟨by omega, by omega⟩, ?_⟩⟩⟩
  rw [show (Int.toNat 1 * 1) = 1 * 1 from rfl, e2]
  have cl := World.ownsRow.cells q4 rfl
  refine ⟨by rw [add_block]; simp; omega, q3, Ld_in (cl 0 _ rfl) <| Ld_in (cl 1 _ rfl) <| Ld_in (cl 2 _ rfl) <| Ld_in (cl 3 _ rfl) <| Ld_in (cl 4 _ rfl) <| Ld_in (cl 5 _ rfl) <| opI_in <| opI_in <| opI_in <| opI_in <| opI_in <| opL_in ?_⟩
  intro w22 h22 _
  exact ⟨rfl, ((((h2.trans ma).old p5 (by simp; omega)).old q5 (by simp; omega)).old h22 (by simp; omega))⟩
section
variable {L : List Nat} {w0 w : World}
theorem in161 (b : Nat) (m : Int) (hb : (b = 97 ∧ m = 8589934592) ∨ (b = 98 ∧ m = 17179869184)) (h : Good L w0 w) {K : Int → Int → Int → Int → Int → Option Addr → Nat → Nat → World → Prop} (kk : ∀ w', Good L w0 w' → Md [] w w' → K 1 0 m 0 0 none 0 0 w') :
    CallW Try.prog L 161 #[.int .u8 (b : Int)] (fun v w' => opAg v fun cs => opI .u8 (nthD cs.toList 0) fun x4 => opI .u64 (nthD cs.toList 1) fun x5 => opI .u64 (nthD cs.toList 2) fun x6 => opI .u64 (nthD cs.toList 3) fun x7 => opI .u64 (nthD cs.toList 4) fun x8 => opL (nthD cs.toList 5) fun a n c => SzIs cs.size 6 (K x4 x5 x6 x7 x8 a n c w')) w := by
  refine (f161_ok b (hb.imp And.left And.left) w).call h.2 ?_
  rintro v w' rfl h'
  have e : (2 : Int) ^ (b - 64) = m := by rcases hb with ⟨rfl, rfl⟩ | ⟨rfl, rfl⟩ <;> rfl
  rw [e]
  exact opAg_in <| opI_in <| opI_in <| opI_in <| opI_in <| opI_in <| opL_in <| SzIs_in rfl <| kk w' (h.tr h') h'
abbrev DIn (L : List Nat) (w0 w : World) (r : Dm × Int) (K : Int → Option Addr → Nat → Nat → Option Addr → Nat → Nat → Int → World → Prop) : Prop :=
  ∀ na nc ta tc w', Good L w0 w' → Md [] w w' → OwnL w' w.heap.size 3 1 i1 na nc r.1.2.1 → OwnL w' w.heap.size 3 1 i1 ta tc r.1.2.2 → K r.1.1 na r.1.2.1.length nc ta r.1.2.2.length tc r.2 w'
theorem in67 (st : Int) (l : List Ns) (A : Option Addr) (C : Nat) (c : Cl) (hc : c.ok) (most : Int) (h : Good L w0 w) (hr : RowAt w A 8 nsE l) (hl : l.length < 2 ^ 40) {K : Int → Option Addr → Nat → Nat → Option Addr → Nat → Nat → Int → World → Prop}
    (kk : DIn L w0 w (dBld st l c most) K) :
    CallW Try.prog L 67 #[.agg #[.int .i64 st, .slice A l.length C], .agg c.v, .int .i64 most] (fun v w' => opTu v fun cs => opAg (nthD cs.toList 0) fun cs2 => opI .i64 (nthD cs2.toList 0) fun x => opL (nthD cs2.toList 1) fun a n c => opL (nthD cs2.toList 2) fun a2 n2 c2 => SzIs cs2.size 3 (opI .i64 (nthD cs.toList 1) fun e => SzIs cs.size 2 (K x a n c a2 n2 c2 e w'))) w := by
  refine (f67_ok st l A C c hc most w hr (by omega)).call h.2 ?_
  rintro v w' ⟨na, nc, ta, tc, rfl, o1, o2, _⟩ h'
  exact opTu_in <| opAg_in <| opI_in <| opL_in <| opL_in <| SzIs_in rfl <| opI_in <| SzIs_in rfl <| kk na nc ta tc w' (h.tr h') h' o1 o2
theorem in70 (dm : Int) (nx tg cs : List Int) (na ta ca : Option Addr) (nc tc cc : Nat) (h : Good L w0 w) (h1 : RowAt w na 1 i1 nx) (h2 : RowAt w ta 1 i1 tg) (h3 : RowAt w ca 1 i1 cs) (hl1 : nx.length < 2 ^ 63) (hl2 : tg.length < 2 ^ 63) (hl3 : cs.length < 2 ^ 30) {K : Option Addr → Nat → Nat → Int → World → Prop}
    (kk : ∀ a c w', Good L w0 w' → Md [] w w' → OwnL w' w.heap.size 3 1 i1 a c (dRun dm nx tg cs).1 → K a (dRun dm nx tg cs).1.length c (dRun dm nx tg cs).2 w') :
    CallW Try.prog L 70 #[.agg #[.int .i64 dm, .slice na nx.length nc, .slice ta tg.length tc], .slice ca cs.length cc] (fun v w' => opTu v fun cs => opL (nthD cs.toList 0) fun a n c => opI .i64 (nthD cs.toList 1) fun e => SzIs cs.size 2 (K a n c e w')) w := by
  refine (f70_ok dm nx tg cs na ta ca nc tc cc w h1 h2 h3 hl1 hl2 hl3).call h.2 ?_
  rintro v w' ⟨a, c, rfl, own⟩ h'
  exact opTu_in <| opL_in <| opI_in <| SzIs_in rfl <| kk a c w' (h.tr h') h' own
theorem in72d (dm : Int) (nx tg : List Int) (na ta : Option Addr) (nc tc : Nat) (h : Good L w0 w) (h1 : RowAt w na 1 i1 nx) (h2 : RowAt w ta 1 i1 tg) (hl1 : nx.length < 2 ^ 63) (hl2 : tg.length < 2 ^ 63) {K : Bool → World → Prop} (kk : ∀ w', Good L w0 w' → Md [] w w' → K (dRight dm nx tg) w') :
    CallW Try.prog L 72 #[.agg #[.int .i64 dm, .slice na nx.length nc, .slice ta tg.length tc]] (fun v w' => opB v fun b => K b w') w := by
  refine (f72_ok dm nx tg na ta nc tc w h1 h2 hl1 hl2).call h.2 ?_
  rintro v w' rfl h'
  exact opB_in (kk w' (h.tr h') h')
theorem in96 (dm em : Int) (na nb ta tb : List Int) (A B D E : Option Addr) (C1 C2 C3 C4 : Nat) (h : Good L w0 w) (h1 : RowAt w A 1 i1 na) (h2 : RowAt w B 1 i1 ta) (h3 : RowAt w D 1 i1 nb) (h4 : RowAt w E 1 i1 tb) (hl1 : na.length < 2 ^ 63) (hl2 : ta.length < 2 ^ 63) {K : Bool → World → Prop} (kk : ∀ w', Good L w0 w' → Md [] w w' → K (decide (dm = em) && decide (na = nb) && decide (ta = tb)) w') :
    CallW Try.prog L 96 #[.agg #[.int .i64 dm, .slice A na.length C1, .slice B ta.length C2], .agg #[.int .i64 em, .slice D nb.length C3, .slice E tb.length C4]] (fun v w' => opB v fun b => K b w') w := by
  refine (f96_ok dm em na nb ta tb A B D E C1 C2 C3 C4 w h1 h2 h3 h4 hl1 hl2).call h.2 ?_
  rintro v w' rfl h'
  exact opB_in (kk w' (h.tr h') h')
end
def clTx (c : Cl) (s : List Nat) : List Int := s.map fun b => ((c.f.getD b 0 : Nat) : Int)
theorem f71_ok (c : Cl) (hc : c.ok) (s : List Nat) (hs : ∀ x ∈ s, x < 256) (n : Nat) (hn : n < 2 ^ 20) (w : World) : Ct Try.prog 71 #[.agg c.v, .string (bytesOf s), .int .i64 (n : Int)] w fun v w' => (∃ (a : Option Addr) (cc : Nat), v = .slice a (clTx c (s.take n)).length cc ∧ OwnL w' w.heap.size 3 1 i1 a cc (clTx c (s.take n))) ∧ Md [] w w' := by
  apply f71_in
  intro n1 hn1 w2 m2 hL2
  refine (f68_ok s n w2).call hL2 ?_
  rintro v w4 rfl m4
  have m24 := m2.trans m4
  have hs2 : ∀ x ∈ s.take n, x < 256 := fun x hx => hs x (List.mem_of_mem_take hx)
  have hsl : (s.take n).length ≤ n := by rw [List.length_take]; omega
  generalize s.take n = t at hs2 hsl ⊢
  have l4 : n1 < w4.heap.size := by have := hL2 n1 (by simp); have := m4.size; omega
  refine opStr_in <| Bd_e (y := (t.length : Int)) (by rw [nsz_bytesOf]) ?_
  refine LoopP_in (fun mm us vs w' => ∃ (i : Nat) (a : Option Addr) (cc : Nat) (o : List Int), us = [.slice a o.length cc, .int .i64 i] ∧ mm = t.length - i ∧ i ≤ t.length ∧ o = clTx c (t.take i) ∧ OwnL w' w4.heap.size 3 1 i1 a cc o ∧ w4.heap.size ≤ w'.heap.size ∧ Md [] w w') t.length
    ⟨0, none, 0, [], rfl, rfl, by omega, rfl, OwnL.nil _ _ _ _ _, Nat.le_refl _, m24⟩ ?_
  rintro mm us vs w10 ⟨i, a, cc, o, rfl, hmm, hi, ho, own, hsz, hm⟩
  refine opL_in <| opI_in <| Bd_in fun b15 hb15 => If_in (fun hb => ?_) fun hb => ?_
  · have hit : i < t.length := by rw [hb15] at hb; have : (i : Int) < (t.length : Int) := of_decide_eq_true hb
                                  omega
    have hb256 := hs2 _ (List.getElem_mem hit)
    have hcf : t[i] < c.f.length := by rw [hc.len]; exact hb256
    refine ⟨⟨by omega, by rw [nsz_bytesOf]; omega⟩, Bd_e (byteAt_bytesOf hs2 hit) ⟨⟨by omega, by omega⟩, BdO_in (hc.nth' hcf) <| opI_in <| Bd_e (y := ((c.f[t[i]] : Nat) : Int)) (by have := hc.lt _ hcf; rw [IntKind.wrap_i64]; omega) ?_⟩⟩
    have hol : o.length = i := by rw [ho]; simp [clTx]; omega
    refine app_one rowT52 enci1 _ rfl own hsz (by simp; omega) (fun b hb A hA => by simp at hb; subst hb; have := (own.lt hA).1; omega) (by simp [maxLen]; omega) (by omega) fun a' c' w' o' m hA' => opL_in <| Bd_e (inc_i64 (by omega)) ⟨t.length - (i + 1), by omega, i + 1, a', c', _, rfl, rfl, by omega, ?_, o', by have := m.size; omega, hm.old m fun d hd => by obtain ⟨A, hA, rfl⟩ := mem_blk hd; have := (own.lt hA).1; have := m24.size; omega⟩
    rw [List.take_succ_eq_append_getElem hit, ho]
    simp only [clTx, List.map_append, List.map_cons, List.map_nil]
    rw [List.getD_eq_getElem?_getD, List.getElem?_eq_getElem hcf]
    rfl
  · have hit : i = t.length := by
      have : ¬ (i : Int) < (t.length : Int) := by rw [hb15] at hb; exact of_decide_eq_false hb
      omega
    subst hit
    rw [List.take_length] at ho
    subst ho
    exact ⟨⟨a, cc, rfl, own.down m24.size⟩, hm⟩
theorem f162_ok (dm : Int) (nx tg cs wt : List Int) (na ta ca wa : Option Addr) (nc tc cc wc : Nat) (w : World) (h1 : RowAt w na 1 i1 nx) (h2 : RowAt w ta 1 i1 tg) (h3 : RowAt w ca 1 i1 cs) (h4 : RowAt w wa 1 i1 wt) (hl1 : nx.length < 2 ^ 63) (hl2 : tg.length < 2 ^ 63) (hl3 : cs.length < 2 ^ 30) :
    Ct Try.prog 162 #[.agg #[.int .i64 dm, .slice na nx.length nc, .slice ta tg.length tc], .slice ca cs.length cc, .slice wa wt.length wc] w fun v w' => v = .bool (decide (dRun dm nx tg cs = (wt, 0))) ∧ Md [] w w' := by
  apply f162_in
  intro n1 hn1 w2 m2 hL2
  have g2 : Good [n1] w w2 := ⟨m2, hL2⟩
  have hrl : (dRun dm nx tg cs).1.length < 2 ^ 63 := by
    unfold dRun
    split
    · have : ∀ (l : List Int) (a : Int), (dGo dm nx tg l a).length = l.length := fun l => by
        induction l with
        | nil => intro a; rfl
        | cons x l ih => intro a; simp [dGo, ih]
      simp [this]; omega
    · simp
  refine in70 dm nx tg cs na ta ca nc tc cc g2 (h1.md m2) (h2.md m2) (h3.md m2) hl1 hl2 hl3 fun a c w4 g4 m4 own => ?_
  refine Bd_in fun b10 hb10 => Gd_to (fun b w' => (b10 = true → b = decide ((dRun dm nx tg cs).1 = wt)) ∧ Md [] w w') (fun b w' hJ => ?_) (fun fin hc => ?_) (fun hc => ⟨(fun h => by rw [h] at hc; cases hc), g4.1⟩)
  · obtain ⟨hb, hm⟩ := hJ
    refine Bd_in fun b17 hb17 => ⟨?_, hm⟩
    rw [hb17]
    have e : (dRun dm nx tg cs = (wt, 0)) ↔ ((dRun dm nx tg cs).1 = wt ∧ (dRun dm nx tg cs).2 = 0) := by rw [Prod.ext_iff]
    rw [show decide (dRun dm nx tg cs = (wt, 0)) = decide ((dRun dm nx tg cs).1 = wt ∧ (dRun dm nx tg cs).2 = 0) from decide_eq_decide.2 e]
    cases h10 : b10 with
    | false =>
      have : ¬ (dRun dm nx tg cs).2 = 0 := by rw [hb10] at h10; simpa using h10
      simp [this]
    | true =>
      have : (dRun dm nx tg cs).2 = 0 := by rw [hb10] at h10; simpa using h10
      rw [hb h10]
      simp [this]
  · exact in73 _ wt a wa c wc g4 (own.row enci1) (h4.md g4.1) hrl fun w' g' m' => fin _ _ ⟨fun _ => rfl, g'.1⟩
end Fk
set_option linter.unusedVariables false
set_option linter.unusedSimpArgs false
set_option maxRecDepth 100000
set_option maxHeartbeats 4000000
namespace Fk
open Go Go.Proofs Go.RowKit
def ofC (f : Fo) : Cl × Int := if f.right = true then (clOf f.sets, 0) else (zCl 0, 2)
theorem ofC_ok (f : Fo) : (ofC f).1.ok := by
  unfold ofC
  split
  · exact clOf_ok _ _ (zCl_ok (by omega) (by omega))
  · exact zCl_ok (by omega) (by omega)
section
variable {L : List Nat} {w0 w : World}
theorem in40c (fo : Fo) (A : Option Addr) (C : Nat) (hl : fo.len < 2 ^ 40) (hbig : fo.size ≤ 2 ^ 39) {K : Array Value → Int → World → Prop} (h : Good L w0 w) (hr : RepF w A 0 fo)
    (k : ∀ w', Good L w0 w' → Md [] w w' → K (ofC fo).1.v (ofC fo).2 w') :
    CallW Try.prog L 40 #[.slice A fo.len C] (fun v w' => opTu v fun cs => opBig (nthD cs.toList 0) fun c => c.size = 257 ∧ opI .i64 (nthD cs.toList 1) fun e => SzIs cs.size 2 (K c e w')) w := by
  refine (f40_ok fo A C w hr hl hbig).call h.2 ?_
  rintro v w' rfl h'
  have hok := ofC_ok fo
  have e : (if fo.right = true then ofV (clOf fo.sets) 0 else ofV (zCl 0) 2) = ofV (ofC fo).1 (ofC fo).2 := by unfold ofC; cases fo.right <;> rfl
  rw [e]
  exact opTu_in <| opBig_in ⟨hok.size, opI_in <| SzIs_in rfl <| k w' (h.tr h') h'⟩
end
def ofD (f : Fo) (most : Int) : Dm × Int := dBld (bld f 20000).1.1 (bld f 20000).1.2 (ofC f).1 most
def ofB (f : Fo) (most : Int) : Bool := decide ((bld f 20000).2 = 0 ∧ (ofC f).2 = 0 ∧ (ofD f most).2 = 0)
theorem f85_ok (f : Fo) (A : Option Addr) (C : Nat) (most : Int) (w : World) (hr : RepF w A 0 f) (hl : f.len < 2 ^ 40) (hbig : f.size ≤ 2 ^ 39) :
    Ct Try.prog 85 #[.slice A f.len C, .int .i64 most] w fun v w' => (∃ a c na nc ta tc, v = .tuple #[.agg #[.int .i64 (bld f 20000).1.1, .slice a (bld f 20000).1.2.length c], .agg (ofC f).1.v, dmV (ofD f most).1 na nc ta tc, .bool (ofB f most)] ∧ OwnL w' w.heap.size 103 8 nsE a c (bld f 20000).1.2 ∧ OwnL w' w.heap.size 3 1 i1 na nc (ofD f most).1.2.1 ∧ OwnL w' w.heap.size 3 1 i1 ta tc (ofD f most).1.2.2) ∧ Md [] w w' := by
  apply f85_in
  intro n1 hn1 n2 hn2 n3 hn3 w4 m4 hL4
  have g4 : Good [n3, n2, n1] w w4 := ⟨m4, hL4⟩
  have hok := ofC_ok f
  have s4 := m4.size
  refine in66 f A C 20000 g4 (hr.md m4) (by omega) fun a c w6 g6 m6 own6 => rgU g6 fun n14 w15 g15 m15 => ?_
  refine in40c f A C hl hbig g15 (hr.md g15.1) fun w17 g17 m17 => ⟨hok.size, ?_⟩
  intro n21 hn21
  refine OkC_in hok.cells ⟨hok.size, fun w22 h22 hL22 => ?_⟩
  have m22 : Md [] w17 w22 := h22.fresh (by simp; exact hn21)
  have g22 : Good [n21, n14, n3, n2, n1] w w22 := ⟨g17.1.trans m22, hL22⟩
  have own22 := ((own6.md m15).md m17).md m22
  have hbl := bld_len f 20000
  refine in67 _ _ a c _ hok most g22 (own22.row encNs) (by omega) fun na nc ta tc w24 g24 m24 o1 o2 => ?_
  intro n35 hn35
  have own24 := own22.md m24
  have e0 : ofD f most = dBld (bld f 20000).1.1 (bld f 20000).1.2 (ofC f).1 most := rfl
  rw [← e0] at o1 o2 ⊢
  refine Jn_in (fun us vs w' => us = [.bool (ofB f most)] ∧ vs = [dmV (ofD f most).1 na nc ta tc, .agg (ofC f).1.v, .agg #[.int .i64 (bld f 20000).1.1, .slice a (bld f 20000).1.2.length c]] ∧ Md [] w w' ∧ OwnL w' w.heap.size 103 8 nsE a c (bld f 20000).1.2 ∧ OwnL w' w.heap.size 3 1 i1 na nc (ofD f most).1.2.1 ∧ OwnL w' w.heap.size 3 1 i1 ta tc (ofD f most).1.2.2) ?_ ?_
  · rintro us vs w38 ⟨rfl, rfl, q1, q2, q3, q4⟩
    exact opB_in <| opAg_in <| opI_in <| opL_in <| opL_in <| SzIs_in rfl <| opBig_in <| opAg_in <| opI_in <| opL_in <| SzIs_in rfl ⟨hok.size, ⟨a, c, na, nc, ta, tc, rfl, q2, q3, q4⟩, q1⟩
  · intro w55 h55 hL55
    have m55 : Md [] w24 w55 := h55.fresh (by simp; exact hn35)
    refine ⟨hok.size, Bd_in fun b56 hb56 => Bd_in fun b57 hb57 => Bd_in fun b58 hb58 => Bd_in fun b59 hb59 => Bd_in fun b60 hb60 => ?_⟩
    intro w61 h61 _
    refine OkC_in hok.cells ?_
    intro w62 h62 _ w63 h63 _
    have keep : ∀ {α : Type} {w' w'' : World} {n e size : Nat} {enc : α → List Value} {x : Option Addr} {y : Nat} {l : List α}, n < w4.heap.size → Md [n] w' w'' → OwnL w' w4.heap.size e size enc x y l → OwnL w'' w4.heap.size e size enc x y l := fun hn hm ho => ho.mdD hm fun A hA hd => by
      have := (ho.lt hA).1
      simp at hd
      omega
    have l1 := hL4 n1 (by simp)
    have l2 := hL4 n2 (by simp)
    have l3 := hL4 n3 (by simp)
    have s22 : w4.heap.size ≤ w22.heap.size := by have := m6.size; have := m15.size; have := m17.size; have := m22.size; omega
    have md24 : Md [] w24 w55.drew := m55.trans (Md_drew w55)
    have all : ∀ {α : Type} {e size : Nat} {enc : α → List Value} {x : Option Addr} {y : Nat} {l : List α}, OwnL w24 w4.heap.size e size enc x y l → OwnL w63 w.heap.size e size enc x y l := fun ho => (keep l3 h63 (keep l2 h62 (keep l1 h61 (ho.md md24)))).down s4
    refine ⟨?_, rfl, (((g24.1.trans md24).old h61 (by simp; exact hn1)).old h62 (by simp; exact hn2)).old h63 (by simp; exact hn3), all own24, all (o1.down s22), all (o2.down s22)⟩
    congr 2
    rw [hb60, hb59, hb58, hb57, hb56]
    unfold ofB
    by_cases c1 : (bld f 20000).2 = 0 <;> by_cases c2 : (ofC f).2 = 0 <;> by_cases c3 : (ofD f most).2 = 0 <;> simp [c1, c2, c3]
section
variable {L : List Nat} {w0 w : World}
theorem in85 (f : Fo) (A : Option Addr) (C : Nat) (most : Int) (h : Good L w0 w) (hr : RepF w A 0 f) (hl : f.len < 2 ^ 40) (hbig : f.size ≤ 2 ^ 39) {K : Int → Option Addr → Nat → Nat → Array Value → Int → Option Addr → Nat → Nat → Option Addr → Nat → Nat → Bool → World → Prop}
    (kk : ∀ a c na nc ta tc w', Good L w0 w' → Md [] w w' → OwnL w' w.heap.size 103 8 nsE a c (bld f 20000).1.2 → OwnL w' w.heap.size 3 1 i1 na nc (ofD f most).1.2.1 → OwnL w' w.heap.size 3 1 i1 ta tc (ofD f most).1.2.2 → K (bld f 20000).1.1 a (bld f 20000).1.2.length c (ofC f).1.v (ofD f most).1.1 na (ofD f most).1.2.1.length nc ta (ofD f most).1.2.2.length tc (ofB f most) w') :
    CallW Try.prog L 85 #[.slice A f.len C, .int .i64 most] (fun v w' => opTu v fun cs => opAg (nthD cs.toList 0) fun cs2 => opI .i64 (nthD cs2.toList 0) fun x => opL (nthD cs2.toList 1) fun a n c => SzIs cs2.size 2 (opBig (nthD cs.toList 1) fun cs3 => cs3.size = 257 ∧ opAg (nthD cs.toList 2) fun cs4 => opI .i64 (nthD cs4.toList 0) fun x2 => opL (nthD cs4.toList 1) fun a3 n3 c3 => opL (nthD cs4.toList 2) fun a4 n4 c4 => SzIs cs4.size 3 (opB (nthD cs.toList 3) fun b => SzIs cs.size 4 (K x a n c cs3 x2 a3 n3 c3 a4 n4 c4 b w')))) w := by
  refine (f85_ok f A C most w hr hl hbig).call h.2 ?_
  rintro v w' ⟨a, c, na, nc, ta, tc, rfl, o1, o2, o3⟩ h'
  exact opTu_in <| opAg_in <| opI_in <| opL_in <| SzIs_in rfl <| opBig_in ⟨(ofC_ok f).size, opAg_in <| opI_in <| opL_in <| opL_in <| SzIs_in rfl <| opB_in <| SzIs_in rfl <| kk a c na nc ta tc w' (h.tr h') h' o1 o2 o3⟩
end
def exC : Cl := ⟨List.replicate 97 0 ++ [1, 2] ++ List.replicate 157 0, 3⟩
theorem ex_C : ofC exF = (exC, 0) := by kernel_rfl
theorem ex_bld2 : bld exF 20000 = ((5, exS), 0) := by kernel_rfl
theorem ex_D3 : dBld 5 exS exC 3 = ((3, [-1, 1, 2, -1, 1, -1, -1, -1, -1], [1, 1, 0]), 0) := by kernel_rfl
theorem ex_D2 : dBld 5 exS exC 2 = ((0, [], []), 40) := by kernel_rfl
theorem ex_ofB : ofB exF 3 = true := by
  unfold ofB ofD
  rw [ex_bld2, ex_C]
  simp only
  rw [ex_D3]
  rfl
theorem ex_ofD : ofD exF 3 = ((3, [-1, 1, 2, -1, 1, -1, -1, -1, -1], [1, 1, 0]), 0) := by
  unfold ofD
  rw [ex_bld2, ex_C]
  exact ex_D3
theorem ex_runs : dRun 3 [-1, 1, 2, -1, 1, -1, -1, -1, -1] [1, 1, 0] [3] = ([], 2) := by kernel_rfl
theorem ex_runs1 : decide (dRun 3 [-1, 1, 2, -1, 1, -1, -1, -1, -1] [1, 1, 0] [1, 1] = ([1, 1, 1], 0)) = true := by kernel_rfl
theorem ex_runs2 : decide (dRun 3 [-1, 1, 2, -1, 1, -1, -1, -1, -1] [1, 1, 0] [2, 1] = ([1, 0, -1], 0)) = true := by kernel_rfl
section
variable {L : List Nat} {w0 w : World}
theorem in162 (dm : Int) (nx tg cs wt : List Int) (na ta ca wa : Option Addr) (nc tc cc wc : Nat) (h : Good L w0 w) (h1 : RowAt w na 1 i1 nx) (h2 : RowAt w ta 1 i1 tg) (h3 : RowAt w ca 1 i1 cs) (h4 : RowAt w wa 1 i1 wt) (hl1 : nx.length < 2 ^ 63) (hl2 : tg.length < 2 ^ 63) (hl3 : cs.length < 2 ^ 30) {K : Bool → World → Prop} (kk : ∀ w', Good L w0 w' → Md [] w w' → K (decide (dRun dm nx tg cs = (wt, 0))) w') :
    CallW Try.prog L 162 #[.agg #[.int .i64 dm, .slice na nx.length nc, .slice ta tg.length tc], .slice ca cs.length cc, .slice wa wt.length wc] (fun v w' => opB v fun b => K b w') w := by
  refine (f162_ok dm nx tg cs wt na ta ca wa nc tc cc wc w h1 h2 h3 h4 hl1 hl2 hl3).call h.2 ?_
  rintro v w' rfl h'
  exact opB_in (kk w' (h.tr h') h')
end
theorem ints_lit {w : World} (l : List Int) (cs : Array Value) (hc : cs.toList = l.flatMap i1) (hl : l.length ≤ 1000) : RowAt (w.alloc (.cells cs 3)) (some ⟨w.heap.size, 0, none⟩) 1 i1 l :=
  (OwnL.lit (P := Try.prog) (base := w.heap.size) enci1 w 3 l cs (Nat.le_refl _) (by simp [maxLen]; omega) hc).row enci1
theorem f65_ok (w : World) : Ct Try.prog 65 #[] w fun v w' => v = .bool true ∧ Md [] w w' := by
  apply f65_in
  have g0 : Good [] w w := ⟨Md.refl _ _, by simp⟩
  refine in161 98 17179869184 (.inr ⟨rfl, rfl⟩) g0 fun w2 g2 _ => in161 97 8589934592 (.inl ⟨rfl, rfl⟩) g2 fun w13 g13 _ => Nw_i <| Nw_i ?_
  have m26 : Md [] w13 ((w13.alloc (o42a 8589934592)).alloc (o42b 17179869184 w13.heap.size)) := (Md.alloc w13 _).trans (Md.alloc _ _)
  have r26 := exRep w13
  change CallW _ _ _ _ _ ((w13.alloc (o42a 8589934592)).alloc (o42b 17179869184 w13.heap.size))
  have hok : exC.ok := by have := ofC_ok exF; rw [ex_C] at this; exact this
  refine in85 exF _ 2 3 (g13.tr m26) r26 (by decide) (by decide) fun a c na nc ta tc w28 g28 m28 o1 o2 o3 => ?_
  rw [ex_bld2, ex_ofD] at *
  rw [ex_ofB, ex_C]
  simp only at o1 o2 o3 ⊢
  refine ⟨hok.size, fun n45 h45 n46 h46 n47 h47 => OkC_in hok.cells ⟨hok.size, fun w48 h48 hL48 => ?_⟩⟩
  have m48 : Md [] w28 w48 := h48.fresh (by simp; omega)
  have g48 : Good [n47, n46, n45] w w48 := ⟨g28.1.trans m48, hL48⟩
  have nx48 := ((o2.md m48).row enci1)
  have tg48 := ((o3.md m48).row enci1)
  refine in67 5 exS a c exC hok 2 g48 ((o1.md m48).row encNs) (by decide) fun na2 nc2 ta2 tc2 w50 g50 m50 p1 p2 => ?_
  rw [ex_D2]
  simp only
  refine rgU g50 fun n61 w62 g62 m62 => Nw_i ?_
  have m64 : Md [] w62 (w62.alloc (.cells #[.int .i64 3] 3)) := Md.alloc w62 _
  have r64 := ints_lit (w := w62) [3] #[.int .i64 3] rfl (by decide)
  have md64 := (m50.trans m62).trans m64
  refine in70 3 _ _ [3] na ta _ nc tc 1 (g62.tr m64) (nx48.md md64) (tg48.md md64) r64 (by decide) (by decide) (by decide) fun a68 c70 w66 g66 m66 _ => ?_
  rw [ex_runs]
  simp only
  have nx66 := (nx48.md md64).md m66
  have tg66 := (tg48.md md64).md m66
  refine Bd_e (y := true) rfl <| Bd_e (y := true) rfl <| Bd_e (y := true) rfl <| Bd_e (y := true) rfl ⟨fun _ => hok.manyI.1, Bd_e (y := 3) (by rw [hok.manyI.2]; rfl) <| Bd_e (y := true) rfl <| Bd_e (y := true) rfl ?_⟩
  refine Gd_t <| Nw_i <| Gd_t <| Nw_i ?_
  have ma1 : Md [] w66 (w66.alloc (.cells #[.int .i64 (-1), .int .i64 1, .int .i64 2, .int .i64 (-1), .int .i64 1, .int .i64 (-1), .int .i64 (-1), .int .i64 (-1), .int .i64 (-1)] 3)) := Md.alloc w66 _
  have q1 := ints_lit (w := w66) [-1, 1, 2, -1, 1, -1, -1, -1, -1] #[.int .i64 (-1), .int .i64 1, .int .i64 2, .int .i64 (-1), .int .i64 1, .int .i64 (-1), .int .i64 (-1), .int .i64 (-1), .int .i64 (-1)] rfl (by decide)
  have g84 := g66.tr ma1
  generalize w66.alloc (.cells #[.int .i64 (-1), .int .i64 1, .int .i64 2, .int .i64 (-1), .int .i64 1, .int .i64 (-1), .int .i64 (-1), .int .i64 (-1), .int .i64 (-1)] 3) = w84 at *
  have ma2 : Md [] w84 (w84.alloc (.cells #[.int .i64 1, .int .i64 1, .int .i64 0] 3)) := Md.alloc w84 _
  have q2 := ints_lit (w := w84) [1, 1, 0] #[.int .i64 1, .int .i64 1, .int .i64 0] rfl (by decide)
  have nx89 := (nx66.md ma1).md ma2
  have tg89 := (tg66.md ma1).md ma2
  refine Gd_t <| in96 3 3 [-1, 1, 2, -1, 1, -1, -1, -1, -1] [-1, 1, 2, -1, 1, -1, -1, -1, -1] [1, 1, 0] [1, 1, 0] na ta _ _ nc tc 9 3 (g84.tr ma2) nx89 tg89 (q1.md ma2) q2 (by decide) (by decide) fun w95 g95 m95 => ?_
  have nx95 := nx89.md m95
  have tg95 := tg89.md m95
  refine Bd_e (y := true) rfl <| Gd_t <| Nw_i <| Gd_t <| Nw_i ?_
  have ma3 : Md [] w95 (w95.alloc (.cells #[.int .i64 1, .int .i64 1] 3)) := Md.alloc w95 _
  have q3 := ints_lit (w := w95) [1, 1] #[.int .i64 1, .int .i64 1] rfl (by decide)
  have g101 := g95.tr ma3
  generalize w95.alloc (.cells #[.int .i64 1, .int .i64 1] 3) = w101 at *
  have ma4 : Md [] w101 (w101.alloc (.cells #[.int .i64 1, .int .i64 1, .int .i64 1] 3)) := Md.alloc w101 _
  have q4 := ints_lit (w := w101) [1, 1, 1] #[.int .i64 1, .int .i64 1, .int .i64 1] rfl (by decide)
  have nx106 := (nx95.md ma3).md ma4
  have tg106 := (tg95.md ma3).md ma4
  refine Gd_t <| in162 3 _ _ [1, 1] [1, 1, 1] na ta _ _ nc tc 2 3 (g101.tr ma4) nx106 tg106 (q3.md ma4) q4 (by decide) (by decide) (by decide) fun w112 g112 m112 => ?_
  rw [ex_runs1]
  have nx112 := nx106.md m112
  have tg112 := tg106.md m112
  refine Bd_e (y := true) rfl <| Gd_t <| Nw_i <| Gd_t <| Nw_i ?_
  have ma5 : Md [] w112 (w112.alloc (.cells #[.int .i64 2, .int .i64 1] 3)) := Md.alloc w112 _
  have q5 := ints_lit (w := w112) [2, 1] #[.int .i64 2, .int .i64 1] rfl (by decide)
  have g118 := g112.tr ma5
  generalize w112.alloc (.cells #[.int .i64 2, .int .i64 1] 3) = w118 at *
  have ma6 : Md [] w118 (w118.alloc (.cells #[.int .i64 1, .int .i64 0, .int .i64 (-1)] 3)) := Md.alloc w118 _
  have q6 := ints_lit (w := w118) [1, 0, -1] #[.int .i64 1, .int .i64 0, .int .i64 (-1)] rfl (by decide)
  have nx123 := (nx112.md ma5).md ma6
  have tg123 := (tg112.md ma5).md ma6
  refine Gd_t <| in162 3 _ _ [2, 1] [1, 0, -1] na ta _ _ nc tc 2 3 (g118.tr ma6) nx123 tg123 (q5.md ma6) q6 (by decide) (by decide) (by decide) fun w129 g129 m129 => ?_
  rw [ex_runs2]
  exact Bd_e (y := true) rfl ⟨rfl, g129.1⟩
theorem in65 {L : List Nat} {w0 w : World} {K : Bool → World → Prop} (h : Good L w0 w) (kk : ∀ w', Good L w0 w' → K true w') : CallW Try.prog L 65 #[] (fun v w' => opB v fun b => K b w') w := by
  refine (f65_ok w).call h.2 ?_
  rintro v w' rfl h'
  exact opB_in (kk w' (h.tr h'))
end Fk
set_option linter.unusedVariables false
set_option linter.unusedSimpArgs false
set_option maxRecDepth 100000
set_option maxHeartbeats 4000000
namespace Fk
open Go Go.Proofs Go.RowKit
theorem oneB_grow (l : List Ns) (b : Nat) (N : List Bool) (p : DP) : p.1.length ≤ (oneB l b N p).1.length := by
  unfold oneB
  split
  · exact Nat.le_refl _
  · split
    · exact Nat.le_refl _
    · simp
theorem dRow_grow {l : List Ns} {M : Nat} : ∀ {F : List Nat} {N : List Bool} {p q : DP}, dRow l M F N p = some q → p.1.length ≤ q.1.length
  | [], N, p, q, h => by simp only [dRow, Option.some.injEq] at h; rw [h]; exact Nat.le_refl _
  | b :: F, N, p, q, h => by
    unfold dRow at h
    split at h
    · cases h
    · exact Nat.le_trans (oneB_grow l b N p) (dRow_grow h)
theorem dRow_le {l : List Ns} {M : Nat} : ∀ {F : List Nat} {N : List Bool} {p q : DP}, dRow l M F N p = some q → p.1.length ≤ M → q.1.length ≤ M
  | [], N, p, q, h, hp => by simp only [dRow, Option.some.injEq] at h; rw [← h]; exact hp
  | b :: F, N, p, q, h, hp => by
    unfold dRow at h
    split at h
    · cases h
    · exact dRow_le h (by omega)
theorem dRow_cap {l : List Ns} {M : Nat} (M' : Nat) : ∀ {F : List Nat} {N : List Bool} {p q : DP}, dRow l M F N p = some q → p.1.length ≤ M' → dRow l M' F N p = if q.1.length ≤ M' then some q else none
  | [], N, p, q, h, hp => by
    simp only [dRow, Option.some.injEq] at h ⊢
    rw [← h, if_pos hp]
  | b :: F, N, p, q, h, hp => by
    unfold dRow at h ⊢
    split at h
    · cases h
    · have hg := dRow_grow h
      split
      · rw [if_neg (by omega)]
      · exact dRow_cap M' h (by omega)
theorem dAll_grow {l : List Ns} {M : Nat} {F : List Nat} : ∀ {f i : Nat} {p q : DP}, dAll l M F f i p = some q → p.1.length ≤ q.1.length
  | 0, i, p, q, h => by simp only [dAll, Option.some.injEq] at h; rw [h]; exact Nat.le_refl _
  | f + 1, i, p, q, h => by
    unfold dAll at h
    split at h
    · simp only [Option.some.injEq] at h; rw [h]; exact Nat.le_refl _
    · rename_i N hN
      cases hr : dRow l M F N p with
      | none => rw [hr] at h; cases h
      | some p' =>
        rw [hr] at h
        exact Nat.le_trans (dRow_grow hr) (dAll_grow h)
theorem dAll_le {l : List Ns} {M : Nat} {F : List Nat} : ∀ {f i : Nat} {p q : DP}, dAll l M F f i p = some q → p.1.length ≤ M → q.1.length ≤ M
  | 0, i, p, q, h, hp => by simp only [dAll, Option.some.injEq] at h; rw [← h]; exact hp
  | f + 1, i, p, q, h, hp => by
    unfold dAll at h
    split at h
    · simp only [Option.some.injEq] at h; rw [← h]; exact hp
    · rename_i N hN
      cases hr : dRow l M F N p with
      | none => rw [hr] at h; cases h
      | some p' =>
        rw [hr] at h
        exact dAll_le h (dRow_le hr hp)
theorem dAll_cap {l : List Ns} {M : Nat} {F : List Nat} (M' : Nat) : ∀ {f f' i : Nat} {p q : DP}, dAll l M F f i p = some q → p.1.length ≤ M → p.1.length ≤ M' → i ≤ p.1.length → i + f = M + 1 → i + f' = M' + 1 → dAll l M' F f' i p = if q.1.length ≤ M' then some q else none
  | 0, f', i, p, q, h, h1, h2, h3, h4, h5 => by omega
  | f + 1, 0, i, p, q, h, h1, h2, h3, h4, h5 => by omega
  | f + 1, f' + 1, i, p, q, h, h1, h2, h3, h4, h5 => by
    unfold dAll at h ⊢
    cases hN : p.1[i]? with
    | none =>
      rw [hN] at h
      simp only [Option.some.injEq] at h ⊢
      rw [← h, if_pos h2]
    | some N =>
      rw [hN] at h
      simp only at h ⊢
      have hil := (List.getElem?_eq_some_iff.1 hN).1
      cases hr : dRow l M F N p with
      | none => rw [hr] at h; cases h
      | some p' =>
        rw [hr] at h
        have h : dAll l M F f (i + 1) p' = some q := h
        have hg := dRow_grow hr
        rw [dRow_cap M' hr h2]
        have hgq := dAll_grow h
        by_cases c : p'.1.length ≤ M'
        · rw [if_pos c]
          exact dAll_cap M' h (dRow_le hr h1) c (by omega) (by omega) (by omega)
        · rw [if_neg c, if_neg (by omega)]
          rfl
/-- The cap: as many states as there are is enough. -/
theorem dBld_cap {st : Int} {l : List Ns} {c : Cl} {m : Int} {d : Dm} (h : dBld st l c m = (d, 0)) (x : Int) : d.2.2.length ≤ m ∧ 1 ≤ d.2.2.length ∧
    dBld st l c x = if x < 1 ∨ x > 5000 then ((0, [], []), 2) else if x < d.2.2.length then ((0, [], []), 40) else (d, 0) := by
  unfold dBld at h
  split at h
  case isFalse => exact absurd (congrArg Prod.snd h) (by simp)
  rename_i hc
  split at h
  case h_1 => exact absurd (congrArg Prod.snd h) (by simp)
  rename_i p hp
  obtain ⟨hr, hf, hm1, hm2⟩ := hc
  have hd : d = (c.m, p.2, tagL l p.1) := by injection h with h; exact h.symm
  have hlen : d.2.2.length = p.1.length := by rw [hd]; simp [tagL]
  have hg := dAll_grow hp
  have hle := dAll_le hp (by simp; omega)
  simp only [List.length_cons, List.length_nil] at hg
  refine ⟨by omega, by omega, ?_⟩
  rw [hlen]
  unfold dBld
  by_cases hx : x < 1 ∨ x > 5000
  · rw [if_pos hx, if_neg (by omega)]
  · rw [if_neg hx, if_pos ⟨hr, hf, by omega, by omega⟩]
    have := dAll_cap (f' := x.toNat + 1) x.toNat hp (by simp; omega) (by simp; omega) (by simp) (by omega) (by omega)
    rw [this]
    by_cases hc : x < (p.1.length : Int)
    · rw [if_pos hc, if_neg (by omega)]
    · rw [if_neg hc, if_pos (by omega), hd]
end Fk
set_option linter.unusedVariables false
set_option linter.unusedSimpArgs false
set_option maxRecDepth 100000
set_option maxHeartbeats 4000000
namespace Fk
open Go Go.Proofs Go.RowKit
theorem Good.up {L D : List Nat} {w0 w w' : World} (g : Good L w0 w) (hD : ∀ d ∈ D, w.heap.size ≤ d) (hm : Md D w w') {L' : List Nat} (hL : ∀ b ∈ L', b < w'.heap.size) : Good L' w0 w' ∧ Md [] w w' :=
  ⟨⟨g.1.trans (hm.fresh hD), hL⟩, hm.fresh hD⟩
theorem dRow_nx {l : List Ns} {M : Nat} : ∀ {F : List Nat} {N : List Bool} {p q : DP}, dRow l M F N p = some q → q.2.length = p.2.length + F.length
  | [], N, p, q, h => by simp only [dRow, Option.some.injEq] at h; rw [h]; rfl
  | b :: F, N, p, q, h => by
    unfold dRow at h
    split at h
    · cases h
    · have := dRow_nx h
      have e : (oneB l b N p).2.length = p.2.length + 1 := by
        unfold oneB
        split
        · simp
        · split <;> simp
      simp; omega
theorem dAll_nx {l : List Ns} {M : Nat} {F : List Nat} : ∀ {f i : Nat} {p q : DP}, dAll l M F f i p = some q → p.1.length ≤ M → i ≤ p.1.length → i + f = M + 1 → p.2.length = i * F.length → q.2.length = q.1.length * F.length
  | 0, i, p, q, h, h1, h2, h3, h4 => by omega
  | f + 1, i, p, q, h, h1, h2, h3, h4 => by
    unfold dAll at h
    cases hN : p.1[i]? with
    | none =>
      rw [hN] at h
      simp only [Option.some.injEq] at h
      have := List.getElem?_eq_none_iff.1 hN
      have e : i = p.1.length := by omega
      rw [← h, ← e, h4]
    | some N =>
      rw [hN] at h
      have hil := (List.getElem?_eq_some_iff.1 hN).1
      simp only at h
      cases hr : dRow l M F N p with
      | none => rw [hr] at h; cases h
      | some p' =>
        rw [hr] at h
        have h : dAll l M F f (i + 1) p' = some q := h
        exact dAll_nx h (dRow_le hr h1) (by have := dRow_grow hr; omega) (by omega) (by rw [dRow_nx hr, h4, Nat.succ_mul])
theorem dBld_sz {st : Int} {l : List Ns} {c : Cl} (hc : c.ok) {m : Int} : (dBld st l c m).1.2.2.length ≤ 5000 ∧ (dBld st l c m).1.2.1.length ≤ 1280000 ∧ ((dBld st l c m).2 = 0 → ((dBld st l c m).1.2.1.length : Int) = c.m * (dBld st l c m).1.2.2.length ∧ (dBld st l c m).1.1 = c.m ∧ 1 ≤ c.m ∧ c.m ≤ 256) := by
  unfold dBld
  split
  case isFalse => simp
  rename_i hcd
  obtain ⟨hr, hf, hm1, hm2⟩ := hcd
  have hcr : c.right = true := by unfold fitsN at hf; rw [Bool.and_eq_true] at hf; exact hf.2
  obtain ⟨cm1, cm2⟩ := right_m hc hcr
  split
  case h_1 => simp
  rename_i p hp
  have hle := dAll_le hp (by simp; omega)
  have hnx := dAll_nx hp (by simp; omega) (by simp) (by omega) (by simp)
  rw [firsts_len] at hnx
  have hl : (tagL l p.1).length = p.1.length := by simp [tagL]
  have hmul : p.1.length * c.m.toNat ≤ 5000 * 256 := Nat.mul_le_mul (by omega) (by omega)
  refine ⟨by rw [hl]; omega, by simp only; omega, fun _ => ⟨?_, rfl, cm1, cm2⟩⟩
  simp only [hl]
  rw [hnx, Int.natCast_mul, Int.mul_comm]
  congr 1
  omega
end Fk
set_option linter.unusedVariables false
set_option linter.unusedSimpArgs false
namespace Fk
open Go Go.Proofs Go.RowKit
inductive StarL (La : List Nat → Prop) : List Nat → Prop
  | nil : StarL La []
  | app {u v : List Nat} : La u → StarL La v → StarL La (u ++ v)
structure Lg where
  cat : List Nat → Prop
  alt : List Nat → Prop
  one : List Nat → Prop
def lgOne (k a b c d : Int) (Q : Lg) (u : List Nat) : Prop :=
  (k = 1 ∧ ∃ x, u = [x] ∧ inQ (a, b, c, d) x = true) ∨ (k = 2 ∧ Q.cat u) ∨ (k = 3 ∧ Q.alt u) ∨ (k = 4 ∧ StarL Q.one u) ∨ (k = 0 ∧ u = [])
/-- The texts of a row of trees: one behind the other; of one of them; of the first. -/
def lg : Fo → Lg
  | .nil => ⟨fun u => u = [], fun _ => False, fun _ => False⟩
  | .cons k a b c d q r => ⟨fun u => ∃ v w, u = v ++ w ∧ lgOne k a b c d (lg q) v ∧ (lg r).cat w, fun u => lgOne k a b c d (lg q) u ∨ (lg r).alt u, lgOne k a b c d (lg q)⟩
/-- A way from a state to a state, of at most so many steps, by a text. -/
inductive Pn (L : List Ns) : Nat → Nat → List Nat → Nat → Prop
  | refl (n i : Nat) : Pn L n i [] i
  | a {n i : Nat} {x : Ns} {u : List Nat} {j : Nat} : L[i]? = some x → x.k = 2 → Pn L n x.a.toNat u j → Pn L (n + 1) i u j
  | b {n i : Nat} {x : Ns} {u : List Nat} {j : Nat} : L[i]? = some x → x.k = 2 → Pn L n x.b.toNat u j → Pn L (n + 1) i u j
  | byte {n i : Nat} {x : Ns} {c : Nat} {u : List Nat} {j : Nat} : L[i]? = some x → x.k = 1 → inQ x.q c = true → Pn L n x.a.toNat u j → Pn L (n + 1) i (c :: u) j
theorem Pn.up {L : List Ns} {n m i j : Nat} {u : List Nat} (h : Pn L n i u j) (hm : n ≤ m) : Pn L m i u j := by
  induction h generalizing m with
  | refl n i => exact .refl _ _
  | a h1 h2 _ ih => obtain ⟨m, rfl⟩ : ∃ k, m = k + 1 := ⟨m - 1, by omega⟩; exact .a h1 h2 (ih (by omega))
  | b h1 h2 _ ih => obtain ⟨m, rfl⟩ : ∃ k, m = k + 1 := ⟨m - 1, by omega⟩; exact .b h1 h2 (ih (by omega))
  | byte h1 h2 h3 _ ih => obtain ⟨m, rfl⟩ : ∃ k, m = k + 1 := ⟨m - 1, by omega⟩; exact .byte h1 h2 h3 (ih (by omega))
theorem Pn.trans {L : List Ns} {n m i j k : Nat} {u v : List Nat} (h : Pn L n i u j) (h2 : Pn L m j v k) : Pn L (n + m) i (u ++ v) k := by
  induction h with
  | refl n i => exact h2.up (by omega)
  | @a n i x u j e1 e2 _ ih => rw [show n + 1 + m = (n + m) + 1 by omega]; exact .a e1 e2 (ih h2)
  | @b n i x u j e1 e2 _ ih => rw [show n + 1 + m = (n + m) + 1 by omega]; exact .b e1 e2 (ih h2)
  | @byte n i x c u j e1 e2 e3 _ ih => rw [show n + 1 + m = (n + m) + 1 by omega]; exact .byte e1 e2 e3 (ih h2)
def FragP (L : List Ns) (lo hi : Nat) (x to : Int) (La : List Nat → Prop) : Prop :=
  (∀ u, La u → ∃ n, Pn L n x.toNat u to.toNat) ∧ (∀ n w j, (j < lo ∨ hi ≤ j) → Pn L n x.toNat w j → ∃ u v m, m ≤ n ∧ w = u ++ v ∧ La u ∧ Pn L m to.toNat v j)
def AllOk (l : List Ns) : Prop := ∀ x ∈ l, okNs l.length x
theorem okNs_mono {m m' : Int} {x : Ns} (h : okNs m x) (hm : m ≤ m') : okNs m' x := by
  rcases h with h | h | h
  · exact .inl h
  · exact .inr (.inl ⟨h.1, h.2.1, h.2.2.1, by omega, h.2.2.2.2⟩)
  · exact .inr (.inr ⟨h.1, h.2.1, h.2.2.1, by omega, h.2.2.2.2.1, by omega, h.2.2.2.2.2.2⟩)
theorem AllOk.snoc {l : List Ns} {x : Ns} (h : AllOk l) (hx : okNs (l.length + 1) x) : AllOk (l ++ [x]) := by
  intro y hy
  rw [List.length_append, List.length_singleton]
  rcases List.mem_append.1 hy with h1 | h1
  · exact okNs_mono (h y h1) (by omega)
  · simp at h1; subst h1
    rw [Int.natCast_add]
    exact hx
/-- A piece of a machine: from x on, toward 'to', it reads these texts. -/
structure Frp (l : List Ns) (to : Int) (l' : List Ns) (x : Int) (La : List Nat → Prop) : Prop where
  le : l.length ≤ l'.length
  pre : ∀ i, i < l.length → l'[i]? = l[i]?
  x0 : 0 ≤ x ∧ x < l'.length
  kk : ∀ i s, l.length ≤ i → l'[i]? = some s → s.k ≠ 0
  ok : AllOk l → AllOk l'
  fr : ∀ L : List Ns, (∀ i, l.length ≤ i → i < l'.length → L[i]? = l'[i]?) → FragP L l.length l'.length x to La
theorem Frp.congr {l : List Ns} {to : Int} {l' : List Ns} {x : Int} {La Lb : List Nat → Prop} (h : Frp l to l' x La) (hi : ∀ u, La u ↔ Lb u) : Frp l to l' x Lb := by
  have : La = Lb := funext fun u => propext (hi u)
  rw [← this]; exact h
theorem Frp.refl {l : List Ns} {to : Int} (h : 0 ≤ to ∧ to < l.length) : Frp l to l to (fun u => u = []) :=
  ⟨Nat.le_refl _, fun _ _ => rfl, h, (fun i s h1 h2 => by rw [List.getElem?_eq_none h1] at h2; cases h2), fun h => h, fun L _ => ⟨fun u hu => by subst hu; exact ⟨0, .refl _ _⟩, fun n w j _ hp => ⟨[], w, n, Nat.le_refl _, rfl, rfl, hp⟩⟩⟩
theorem Frp.cat {l l1 l2 : List Ns} {to x1 x2 : Int} {La Lb : List Nat → Prop} (h1 : Frp l to l1 x1 La) (h2 : Frp l1 x1 l2 x2 Lb) : Frp l to l2 x2 (fun u => ∃ v w, u = v ++ w ∧ Lb v ∧ La w) := by
  have e1 := h1.le
  have e2 := h2.le
  refine ⟨by omega, fun i hi => (h2.pre i (by omega)).trans (h1.pre i hi), h2.x0, fun i s hi hs => ?_, fun h => h2.ok (h1.ok h), fun L hL => ?_⟩
  · by_cases c : i < l1.length
    · exact h1.kk i s hi ((h2.pre i c).symm.trans hs)
    · exact h2.kk i s (by omega) hs
  · obtain ⟨a1, a2⟩ := h1.fr L fun i hi hi2 => (hL i hi (by omega)).trans (h2.pre i hi2)
    obtain ⟨b1, b2⟩ := h2.fr L fun i hi hi2 => hL i (by omega) hi2
    refine ⟨fun u hu => ?_, fun n w j hj hp => ?_⟩
    · obtain ⟨v, w, rfl, hv, hw⟩ := hu
      obtain ⟨n, hn⟩ := b1 v hv
      obtain ⟨m, hm⟩ := a1 w hw
      exact ⟨n + m, hn.trans hm⟩
    · obtain ⟨u, v, m, hm, rfl, hu, hp2⟩ := b2 n w j (by omega) hp
      obtain ⟨u2, v2, m2, hm2, rfl, hu2, hp3⟩ := a2 m v j (by omega) hp2
      exact ⟨u ++ u2, v2, m2, by omega, by rw [List.append_assoc], ⟨u, u2, rfl, hu, hu2⟩, hp3⟩
theorem get_last (l : List Ns) (x : Ns) : (l ++ [x])[l.length]? = some x := by simp
theorem get_pre {l : List Ns} {x : Ns} {i : Nat} (h : i < l.length) : (l ++ [x])[i]? = l[i]? := List.getElem?_append_left h
theorem Frp.set {l : List Ns} {to : Int} (h : 0 ≤ to ∧ to < l.length) {a b c d : Int} (hz : z4 a b c d = false) : Frp l to (l ++ [⟨1, a, b, c, d, to, 0, 0⟩]) (l.length : Int) (fun u => ∃ x, u = [x] ∧ inQ (a, b, c, d) x = true) := by
  refine ⟨by simp, fun i hi => get_pre hi, by simp; omega, fun i s h1 h2 => ?_, fun h' => h'.snoc ?_, fun L hL => ?_⟩
  · have hi : i = l.length := by
      have := (List.getElem?_eq_some_iff.1 h2).1
      simp at this; omega
    subst hi
    rw [get_last] at h2
    injection h2 with h2; subst h2; simp
  · unfold okNs
    refine .inr (.inl ⟨rfl, ?_, h.1, by simp only; omega, rfl, rfl⟩)
    unfold z4 at hz
    simp [Ns.zs] at hz ⊢
    omega
  · have e := hL l.length (Nat.le_refl _) (by simp)
    rw [get_last] at e
    refine ⟨fun u hu => ?_, fun n w j hj hp => ?_⟩
    · obtain ⟨x, rfl, hx⟩ := hu
      exact ⟨1, by rw [Int.toNat_natCast]; exact .byte e rfl hx (.refl 0 _)⟩
    · rw [Int.toNat_natCast] at hp
      simp only [List.length_append, List.length_singleton] at hj
      generalize hx : l.length = i at *
      cases hp with
      | refl => omega
      | a e1 e2 _ => rw [e] at e1; injection e1 with e1; subst e1; simp at e2
      | b e1 e2 _ => rw [e] at e1; injection e1 with e1; subst e1; simp at e2
      | @byte n _ x c u _ e1 e2 e3 hp =>
        rw [e] at e1; injection e1 with e1; subst e1
        exact ⟨[c], u, n, by omega, rfl, ⟨c, rfl, e3⟩, hp⟩
/-- Behind a choice. -/
theorem split_way {L : List Ns} {i : Nat} {a b : Int} (e : L[i]? = some (spl a b)) {n : Nat} {w : List Nat} {j : Nat} (hj : j ≠ i) (hp : Pn L n i w j) : ∃ m, n = m + 1 ∧ (Pn L m a.toNat w j ∨ Pn L m b.toNat w j) := by
  cases hp with
  | refl => exact absurd rfl hj
  | @a n _ x _ _ e1 e2 hp => rw [e] at e1; injection e1 with e1; subst e1; exact ⟨n, rfl, .inl hp⟩
  | @b n _ x _ _ e1 e2 hp => rw [e] at e1; injection e1 with e1; subst e1; exact ⟨n, rfl, .inr hp⟩
  | byte e1 e2 _ _ => rw [e] at e1; injection e1 with e1; subst e1; simp [spl] at e2
theorem spl_ok {m a b : Int} (ha : 0 ≤ a ∧ a < m) (hb : 0 ≤ b ∧ b < m) : okNs m (spl a b) := .inr (.inr ⟨rfl, by unfold Ns.zs spl; simp, ha.1, ha.2, hb.1, hb.2, rfl⟩)
theorem Frp.alt {l l1 l2 : List Ns} {to x1 x2 : Int} {La Lb : List Nat → Prop} (h1 : Frp l to l1 x1 La) (h2 : Frp l1 to l2 x2 Lb) : Frp l to (l2 ++ [spl x2 x1]) (l2.length : Int) (fun u => Lb u ∨ La u) := by
  have e1 := h1.le
  have e2 := h2.le
  have y1 := h1.x0
  have y2 := h2.x0
  refine ⟨by simp; omega, fun i hi => (get_pre (by omega)).trans ((h2.pre i (by omega)).trans (h1.pre i hi)), by simp; omega, fun i s hi hs => ?_, fun h => (h2.ok (h1.ok h)).snoc (spl_ok (by omega) (by omega)), fun L hL => ?_⟩
  · by_cases c2 : i < l2.length
    · rw [get_pre c2] at hs
      by_cases c : i < l1.length
      · exact h1.kk i s hi ((h2.pre i c).symm.trans hs)
      · exact h2.kk i s (by omega) hs
    · have : i = l2.length := by
        have := (List.getElem?_eq_some_iff.1 hs).1
        simp at this; omega
      subst this
      rw [get_last] at hs
      injection hs with hs; subst hs; simp [spl]
  · simp only [List.length_append, List.length_singleton] at hL ⊢
    obtain ⟨a1, a2⟩ := h1.fr L fun i hi hi2 => ((hL i hi (by omega)).trans (get_pre (by omega))).trans (h2.pre i hi2)
    obtain ⟨b1, b2⟩ := h2.fr L fun i hi hi2 => (hL i (by omega) (by omega)).trans (get_pre hi2)
    have e := hL l2.length (by omega) (by omega)
    rw [get_last] at e
    refine ⟨fun u hu => ?_, fun n w j hj hp => ?_⟩
    · rw [Int.toNat_natCast]
      rcases hu with hu | hu
      · obtain ⟨n, hn⟩ := b1 u hu
        exact ⟨n + 1, .a e rfl hn⟩
      · obtain ⟨n, hn⟩ := a1 u hu
        exact ⟨n + 1, .b e rfl hn⟩
    · rw [Int.toNat_natCast] at hp
      obtain ⟨m, rfl, hp | hp⟩ := split_way e (by omega) hp
      · obtain ⟨u, v, m2, hm2, rfl, hu, hp2⟩ := b2 m w j (by omega) hp
        exact ⟨u, v, m2, by omega, rfl, .inl hu, hp2⟩
      · obtain ⟨u, v, m2, hm2, rfl, hu, hp2⟩ := a2 m w j (by omega) hp
        exact ⟨u, v, m2, by omega, rfl, .inr hu, hp2⟩
theorem Frp.star {l l2 : List Ns} {to kid : Int} {La : List Nat → Prop} (ht : 0 ≤ to ∧ to < l.length) (h : Frp (l ++ [spl 0 to]) (l.length : Int) l2 kid La) : Frp l to (setA l2 (l.length : Int) kid) (l.length : Int) (StarL La) := by
  have e1 := h.le
  simp only [List.length_append, List.length_singleton] at e1
  have eg : l2[l.length]? = some (spl 0 to) := (h.pre l.length (by simp)).trans (get_last _ _)
  have es : setA l2 (l.length : Int) kid = l2.set l.length (spl kid to) := by
    unfold setA
    rw [Int.toNat_natCast, eg]
    rfl
  have hk := h.x0
  rw [es]
  refine ⟨by simp; omega, fun i hi => ?_, by simp; omega, fun i s hi hs => ?_, fun ha => ?_, fun L hL => ?_⟩
  · rw [List.getElem?_set_ne (by omega), h.pre i (by simp; omega), get_pre hi]
  · by_cases c : i = l.length
    · subst c
      rw [List.getElem?_set_self (by omega)] at hs
      injection hs with hs; subst hs; simp [spl]
    · rw [List.getElem?_set_ne (by omega)] at hs
      exact h.kk i s (by simp; omega) hs
  · have := h.ok (ha.snoc (spl_ok (by omega) (by omega)))
    intro y hy
    rw [List.length_set]
    rcases List.mem_or_eq_of_mem_set hy with h1 | h1
    · exact this y h1
    · subst h1; exact spl_ok (by omega) (by omega)
  · rw [List.length_set] at hL ⊢
    have e := hL l.length (Nat.le_refl _) (by omega)
    rw [List.getElem?_set_self (by omega)] at e
    obtain ⟨a1, a2⟩ := h.fr L fun i hi hi2 => by
      simp at hi
      rw [hL i (by omega) hi2, List.getElem?_set_ne (by omega)]
    rw [Int.toNat_natCast] at a1 a2
    simp only [List.length_append, List.length_singleton] at a2
    refine ⟨fun u hu => ?_, fun n => ?_⟩
    · rw [Int.toNat_natCast]
      induction hu with
      | nil => exact ⟨1, .b e rfl (.refl _ _)⟩
      | app hu _ ih =>
        obtain ⟨n, hn⟩ := a1 _ hu
        obtain ⟨m, hm⟩ := ih
        exact ⟨n + m + 1, .a e rfl (hn.trans hm)⟩
    · rw [Int.toNat_natCast]
      induction n using Nat.strongRecOn with
      | ind n ih =>
        intro w j hj hp
        obtain ⟨m, rfl, hp | hp⟩ := split_way e (by omega) hp
        · obtain ⟨u, v, m2, hm2, rfl, hu, hp2⟩ := a2 m w j (by omega) hp
          obtain ⟨u3, v3, m3, hm3, rfl, hu3, hp3⟩ := ih m2 (by omega) v j hj hp2
          exact ⟨u ++ u3, v3, m3, by omega, by rw [List.append_assoc], .app hu hu3, hp3⟩
        · exact ⟨[], w, m, by omega, rfl, .nil, hp⟩
theorem tw_fr : ∀ f : Fo, f.right = true →
    (∀ p : List Ns × Int, p.1.length + f.cnt ≤ 20000 → 0 ≤ p.2 ∧ p.2 < p.1.length → Frp p.1 p.2 ((tw 20000 f).cat p).1 ((tw 20000 f).cat p).2 (lg f).cat) ∧
    (∀ (to : Int) (l : List Ns), l.length + (f.cnt + (f.len - 1)) ≤ 20000 → 0 ≤ to ∧ to < l.length → 1 ≤ f.len → ∃ x, ((tw 20000 f).alt to l).2 = some x ∧ Frp l to ((tw 20000 f).alt to l).1 x (lg f).alt) ∧
    (∀ p : List Ns × Int, p.1.length + f.cnt1 ≤ 20000 → 0 ≤ p.2 ∧ p.2 < p.1.length → 1 ≤ f.len → Frp p.1 p.2 ((tw 20000 f).one p).1 ((tw 20000 f).one p).2 (lg f).one)
  | .nil, _ => ⟨fun p _ h => Frp.refl h, fun to l _ _ h => by simp [Fo.len] at h, fun p _ _ h => by simp [Fo.len] at h⟩
  | .cons k a b c d q r, hr => by
    have hr0 := hr
    simp only [Fo.right, Bool.and_eq_true] at hr
    obtain ⟨q1, q2, q3⟩ := tw_fr q hr.1.2
    obtain ⟨r1, r2, r3⟩ := tw_fr r hr.2
    have hn := nodeOk_inv hr.1.1
    have one : ∀ p : List Ns × Int, p.1.length + cntK k q.len q.cnt ≤ 20000 → 0 ≤ p.2 ∧ p.2 < p.1.length → Frp p.1 p.2 (twOne 20000 k a b c d (tw 20000 q) p).1 (twOne 20000 k a b c d (tw 20000 q) p).2 (lgOne k a b c d (lg q)) := by
      intro p hp ht
      unfold twOne
      rw [if_neg (show ¬ p.1.length > 20000 by omega)]
      rcases hn with ⟨rfl, h2, _⟩ | ⟨rfl, h2, hz⟩ | ⟨rfl, h2, _⟩ | ⟨rfl, h2, _⟩ | ⟨rfl, h2, _⟩
      · simp
        exact (Frp.refl ht).congr fun u => by simp [lgOne]
      · simp only [if_true]
        rw [pst_fit (by omega)]
        exact (Frp.set ht hz).congr fun u => by simp [lgOne]
      · simp [cntK] at hp ⊢
        exact (q1 p hp ht).congr fun u => by simp [lgOne]
      · simp [cntK] at hp ⊢
        obtain ⟨x, hx, hf⟩ := q2 p.2 p.1 (by omega) ht (by omega)
        rw [hx]
        exact hf.congr fun u => by simp [lgOne]
      · have hq : q.cnt1 = q.cnt := by
          cases q with
          | nil => simp [Fo.len] at h2
          | cons k' a' b' c' d' q' r' =>
            have hr' : r' = .nil := len_zero (by simp [Fo.len] at h2; omega)
            subst hr'
            simp [Fo.cnt, Fo.cnt1]
        simp [cntK] at hp ⊢
        rw [pst_fit (by omega)]
        have hf := q3 (p.1 ++ [spl 0 p.2], (p.1.length : Int)) (by simp; omega) (by simp; omega) (by omega)
        exact (Frp.star ht hf).congr fun u => by simp [lgOne]
    refine ⟨fun p hp ht => ?_, fun to l hl ht _ => ?_, fun p hp ht _ => one p hp ht⟩
    · simp only [Fo.cnt] at hp
      have f1 := r1 p (by omega) ht
      have h1 := (tw_min 20000 r hr.2).1 p (by omega)
      exact f1.cat (one _ (by omega) f1.x0)
    · simp only [Fo.cnt, Fo.len] at hl
      have h1 := (tw_min 20000 r hr.2).2.1 to l (by omega)
      show ∃ x, (twAlt 20000 _ _ to l).2 = some x ∧ Frp l to (twAlt 20000 _ _ to l).1 x _
      unfold twAlt
      simp only
      have hlen : ((tw 20000 r).alt to l).1.length = l.length + (r.cnt + (r.len - 1)) := by omega
      by_cases hrl : r.len = 0
      · have := len_zero hrl
        subst this
        have e : (tw 20000 .nil).alt to l = (l, none) := rfl
        rw [e]
        simp only
        refine ⟨_, rfl, (one (l, to) (by simp only; omega) ht).congr fun u => ?_⟩
        simp [lg]
      · obtain ⟨x, hx, hf⟩ := r2 to l (by omega) ht (by omega)
        rw [hx]
        simp only
        have f2 := one (((tw 20000 r).alt to l).1, to) (by simp only; omega) ⟨ht.1, by simp only; omega⟩
        have h3 := twOne_len_fit (a := a) (b := b) (c := c) (d := d) hr.1.1 hr.1.2 (((tw 20000 r).alt to l).1, to) (by simp only; omega)
        simp only at h3
        rw [pst_fit (by omega)]
        exact ⟨_, rfl, hf.alt f2⟩
end Fk
set_option linter.unusedVariables false
set_option linter.unusedSimpArgs false
namespace Fk
open Go Go.Proofs Go.RowKit
theorem Rch_iff {l : List Ns} {S : Nat → Prop} {i : Nat} : Rch l S i ↔ ∃ j n, S j ∧ Pn l n j [] i := by
  constructor
  · intro h
    induction h with
    | base h => exact ⟨_, 0, h, .refl _ _⟩
    | a _ h1 h2 ih =>
      obtain ⟨j, n, hs, hp⟩ := ih
      exact ⟨j, n + 1, hs, hp.trans (.a h1 h2 (.refl 0 _))⟩
    | b _ h1 h2 ih =>
      obtain ⟨j, n, hs, hp⟩ := ih
      exact ⟨j, n + 1, hs, hp.trans (.b h1 h2 (.refl 0 _))⟩
  · rintro ⟨j, n, hs, hp⟩
    have h0 : Rch l S j := .base hs
    clear hs
    generalize hu : ([] : List Nat) = u at hp
    induction hp with
    | refl => exact h0
    | a h1 h2 _ ih => exact ih (h0.a h1 h2) hu
    | b h1 h2 _ ih => exact ih (h0.b h1 h2) hu
    | byte => cases hu
theorem Pn_snoc {l : List Ns} {c : Nat} : ∀ {n i j : Nat} {u : List Nat}, Pn l n i (u ++ [c]) j → ∃ m x n1 n2, Pn l n1 i u m ∧ l[m]? = some x ∧ x.k = 1 ∧ inQ x.q c = true ∧ Pn l n2 x.a.toNat [] j := by
  intro n i j u h
  generalize hw : u ++ [c] = w at h
  induction h generalizing u with
  | refl => simp at hw
  | @a n i x _ j e1 e2 _ ih =>
    obtain ⟨m, y, n1, n2, p, q⟩ := ih hw
    exact ⟨m, y, n1 + 1, n2, .a e1 e2 p, q⟩
  | @b n i x _ j e1 e2 _ ih =>
    obtain ⟨m, y, n1, n2, p, q⟩ := ih hw
    exact ⟨m, y, n1 + 1, n2, .b e1 e2 p, q⟩
  | @byte n i x c' w j e1 e2 e3 hp ih =>
    cases u with
    | nil =>
      simp at hw
      obtain ⟨rfl, rfl⟩ := hw
      exact ⟨i, x, 0, n, .refl _ _, e1, e2, e3, hp⟩
    | cons y u =>
      simp at hw
      obtain ⟨rfl, hw⟩ := hw
      obtain ⟨m, z, n1, n2, p, q⟩ := ih hw
      exact ⟨m, z, n1 + 1, n2, .byte e1 e2 e3 p, q⟩
/-- Where a machine stands behind a text. -/
def Rd (l : List Ns) (st : Nat) (u : List Nat) (N : List Bool) : Prop := N.length = l.length ∧ ∀ i, On N i ↔ ∃ n, Pn l n st u i
theorem Rd_come {l : List Ns} (hl : OkL l) {st : Int} (h0 : 0 ≤ st) (h1 : st < l.length) : Rd l st.toNat [] (come l st (offs l.length)) := by
  have h := come_is hl (IsSt.offs l) h0 h1
  refine ⟨h.1, fun i => (h.2 i).trans (Rch_iff.trans ⟨?_, ?_⟩)⟩
  · rintro ⟨j, n, hj | rfl, hp⟩
    · exact hj.elim
    · exact ⟨n, hp⟩
  · rintro ⟨n, hp⟩
    exact ⟨_, n, .inr rfl, hp⟩
theorem Rd_step {l : List Ns} (hl : OkL l) {st : Nat} {u : List Nat} {N : List Bool} (h : Rd l st u N) (c : Nat) : Rd l st (u ++ [c]) (stepF l c N l (offs l.length)) := by
  have hs := stepF_is hl c N l _ _ (fun x hx => ⟨(hl x hx).1, (hl x hx).2.1⟩) (IsSt.offs l)
  refine ⟨hs.1, fun i => (hs.2 i).trans (Rch_iff.trans ⟨?_, ?_⟩)⟩
  · rintro ⟨j, n, hj | ⟨k, x, h1, h2, h3, h4, rfl⟩, hp⟩
    · exact hj.elim
    · obtain ⟨m, hm⟩ := (h.2 k).1 h1
      exact ⟨m + (n + 1), hm.trans (.byte h2 h3 h4 hp)⟩
  · rintro ⟨n, hp⟩
    obtain ⟨m, x, n1, n2, p, e1, e2, e3, p2⟩ := Pn_snoc hp
    exact ⟨_, n2, .inr ⟨m, x, (h.2 m).2 ⟨n1, p⟩, e1, e2, e3, rfl⟩, p2⟩
theorem runF_at {l : List Ns} (hl : OkL l) {st : Nat} : ∀ (s : List Nat) (u : List Nat) (now : List Bool), Rd l st u now → ∀ i, i < s.length → ∃ N, (runF l s now)[i]? = some (tagF N l (-1)) ∧ Rd l st (u ++ s.take (i + 1)) N
  | [], u, now, h, i, hi => by simp at hi
  | b :: bs, u, now, h, 0, hi => ⟨_, by simp [runF]; rfl, by simpa using Rd_step hl h b⟩
  | b :: bs, u, now, h, i + 1, hi => by
    obtain ⟨N, h1, h2⟩ := runF_at hl bs (u ++ [b]) _ (Rd_step hl h b) i (by simpa using hi)
    exact ⟨N, by simpa [runF] using h1, by simpa [List.append_assoc] using h2⟩
theorem nfRun_at {l : List Ns} (hl : OkL l) {st : Int} (h0 : 0 ≤ st) (h1 : st < l.length) (s : List Nat) (i : Nat) (hi : i ≤ s.length) : ∃ N, (nfRun st l s)[i]? = some (tagF N l (-1)) ∧ Rd l st.toNat (s.take i) N := by
  unfold nfRun
  cases i with
  | zero => exact ⟨_, rfl, by simpa using Rd_come hl h0 h1⟩
  | succ i =>
    obtain ⟨N, e1, e2⟩ := runF_at hl s [] _ (Rd_come hl h0 h1) i (by omega)
    exact ⟨N, by simpa using e1, by simpa using e2⟩
theorem tagF_spec : ∀ (N : List Bool) (l : List Ns) (t0 : Int), (∀ x ∈ l, x.k = 0 → 0 ≤ x.t) → -1 ≤ t0 →
    (-1 ≤ tagF N l t0) ∧ (0 ≤ t0 → 0 ≤ tagF N l t0 ∧ tagF N l t0 ≤ t0) ∧ (tagF N l t0 = t0 ∨ ∃ j s, On N j ∧ l[j]? = some s ∧ s.k = 0 ∧ s.t = tagF N l t0) ∧ (∀ j s, On N j → l[j]? = some s → s.k = 0 → 0 ≤ tagF N l t0 ∧ tagF N l t0 ≤ s.t)
  | [], l, t0, _, h => by
    have e : tagF [] l t0 = t0 := by cases l <;> rfl
    rw [e]
    exact ⟨h, fun h => ⟨h, Int.le_refl _⟩, .inl rfl, fun j s hj => by simp [On] at hj⟩
  | h :: hs, [], t0, _, h0 => ⟨h0, fun h => ⟨h, Int.le_refl _⟩, .inl rfl, fun j s _ hj => by simp at hj⟩
  | h :: hs, x :: xs, t0, hx, h0 => by
    have hxs : ∀ y ∈ xs, y.k = 0 → 0 ≤ y.t := fun y hy => hx y (by simp [hy])
    have hx0 := hx x (by simp)
    show (-1 ≤ tagF hs xs _) ∧ (0 ≤ t0 → 0 ≤ tagF hs xs _ ∧ tagF hs xs _ ≤ t0) ∧ (tagF hs xs _ = t0 ∨ ∃ j s, On (h :: hs) j ∧ (x :: xs)[j]? = some s ∧ s.k = 0 ∧ s.t = tagF hs xs _) ∧ (∀ j s, On (h :: hs) j → (x :: xs)[j]? = some s → s.k = 0 → 0 ≤ tagF hs xs _ ∧ tagF hs xs _ ≤ s.t)
    by_cases c : h = true ∧ x.k = 0 ∧ (t0 < 0 ∨ x.t < t0)
    · rw [if_pos c]
      have := hx0 c.2.1
      obtain ⟨i1, i2, i3, i4⟩ := tagF_spec hs xs x.t hxs (by omega)
      obtain ⟨i5, i6⟩ := i2 (by omega)
      refine ⟨i1, fun h => ⟨i5, by omega⟩, .inr ?_, fun j s hj hs' hk => ?_⟩
      · rcases i3 with e | ⟨j, s, e1, e2⟩
        · exact ⟨0, x, by simp [On, c.1], rfl, c.2.1, e.symm⟩
        · exact ⟨j + 1, s, by simpa [On] using e1, by simpa using e2⟩
      · cases j with
        | zero => simp at hs'; subst hs'; exact ⟨i5, i6⟩
        | succ j => exact i4 j s (by simpa [On] using hj) (by simpa using hs') hk
    · rw [if_neg c]
      obtain ⟨i1, i2, i3, i4⟩ := tagF_spec hs xs t0 hxs h0
      refine ⟨i1, i2, ?_, fun j s hj hs' hk => ?_⟩
      · rcases i3 with e | ⟨j, s, e1, e2⟩
        · exact .inl e
        · exact .inr ⟨j + 1, s, by simpa [On] using e1, by simpa using e2⟩
      · cases j with
        | zero =>
          simp at hs'; subst hs'
          have hh : h = true := by simpa [On] using hj
          have : ¬ (t0 < 0 ∨ x.t < t0) := fun h => c ⟨hh, hk, h⟩
          obtain ⟨i5, i6⟩ := i2 (by omega)
          exact ⟨i5, by omega⟩
        | succ j => exact i4 j s (by simpa [On] using hj) (by simpa using hs') hk
def EndP (L : List Ns) (b : Int) (e : Nat) (La : List Nat → Prop) : Prop :=
  (∀ u, La u → ∃ n, Pn L n b.toNat u e) ∧ (∀ n w j s, L[j]? = some s → s.k = 0 → Pn L n b.toNat w j → j = e ∧ La w)
structure BldP (f : Fo) (i : Int) (l : List Ns) (l' : List Ns) (bs : List Int) (es : List Nat) : Prop where
  le : l.length ≤ l'.length
  pre : ∀ j, j < l.length → l'[j]? = l[j]?
  ok : 0 ≤ i → i + f.len ≤ 200 → AllOk l → AllOk l'
  bl : bs.length = f.len
  el : es.length = f.len
  b0 : ∀ b ∈ bs, 0 ≤ b ∧ b < l'.length
  e0 : ∀ (m e : Nat), es[m]? = some e → l.length ≤ e ∧ e < l'.length ∧ l'[e]? = some ⟨0, 0, 0, 0, 0, 0, 0, i + m⟩
  ek : ∀ (j : Nat) (s : Ns), l.length ≤ j → l'[j]? = some s → s.k = 0 → ∃ m : Nat, es[m]? = some j
  fr : ∀ L : List Ns, (∀ j, l.length ≤ j → j < l'.length → L[j]? = l'[j]?) → ∀ (m : Nat) (b : Int) (e : Nat), bs[m]? = some b → es[m]? = some e → EndP L b e (lg (f.drop m)).one
theorem end_way {L : List Ns} {e : Nat} {s : Ns} (he : L[e]? = some s) (hk : s.k = 0) {n : Nat} {v : List Nat} {j : Nat} (hp : Pn L n e v j) : v = [] ∧ j = e := by
  cases hp with
  | refl => exact ⟨rfl, rfl⟩
  | a e1 e2 _ => rw [he] at e1; injection e1 with e1; subst e1; omega
  | b e1 e2 _ => rw [he] at e1; injection e1 with e1; subst e1; omega
  | byte e1 e2 _ _ => rw [he] at e1; injection e1 with e1; subst e1; omega
theorem bldF_fr : ∀ (f : Fo) (i : Int) (l : List Ns) (bs : List Int), f.right = true → l.length + (f.cnt + f.len) ≤ 20000 → ∃ bs2 es, (bldF 20000 f i l bs).2 = bs ++ bs2 ∧ BldP f i l (bldF 20000 f i l bs).1 bs2 es
  | .nil, i, l, bs, _, _ => ⟨[], [], by simp [bldF], ⟨Nat.le_refl _, fun _ _ => rfl, fun _ _ h => h, rfl, rfl, (fun b hb => by cases hb), (fun m e h => by simp at h), (fun j s h1 h2 => by
      rw [show (bldF 20000 .nil i l bs).1 = l from rfl, List.getElem?_eq_none h1] at h2; cases h2), fun L _ m b e h => by simp at h⟩⟩
  | .cons k a b c d q r, i, l, bs, hr, hl => by
    simp only [Fo.right, Bool.and_eq_true] at hr
    simp only [Fo.cnt, Fo.len] at hl
    have hs : pst 20000 l ⟨0, 0, 0, 0, 0, 0, 0, i⟩ = (l ++ [⟨0, 0, 0, 0, 0, 0, 0, i⟩], (l.length : Int)) := pst_fit (by omega)
    have hf := (tw_fr (.cons k a b c d q .nil) (by simp [Fo.right, hr.1])).2.2 (l ++ [⟨0, 0, 0, 0, 0, 0, 0, i⟩], (l.length : Int)) (by simp [Fo.cnt1]; omega) (by simp; omega) (by simp [Fo.len])
    have hlen := twOne_len_fit (a := a) (b := b) (c := c) (d := d) hr.1.1 hr.1.2 (l ++ [(⟨0, 0, 0, 0, 0, 0, 0, i⟩ : Ns)], (l.length : Int)) (by simp; omega)
    simp only [bldF, hs]
    change Frp (l ++ [⟨0, 0, 0, 0, 0, 0, 0, i⟩]) (l.length : Int) (twOne 20000 k a b c d (tw 20000 q) (l ++ [⟨0, 0, 0, 0, 0, 0, 0, i⟩], (l.length : Int))).1 (twOne 20000 k a b c d (tw 20000 q) (l ++ [⟨0, 0, 0, 0, 0, 0, 0, i⟩], (l.length : Int))).2 (lgOne k a b c d (lg q)) at hf
    generalize twOne 20000 k a b c d (tw 20000 q) (l ++ [⟨0, 0, 0, 0, 0, 0, 0, i⟩], (l.length : Int)) = T at *
    simp only [List.length_append, List.length_singleton] at hlen
    obtain ⟨bs2, es, h1, P⟩ := bldF_fr r (i + 1) T.1 (bs ++ [T.2]) hr.2 (by omega)
    have ple := P.le
    have eT : T.1[l.length]? = some ⟨0, 0, 0, 0, 0, 0, 0, i⟩ := (hf.pre l.length (by simp)).trans (get_last _ _)
    refine ⟨T.2 :: bs2, l.length :: es, by rw [h1]; simp, ⟨by omega, fun j hj => ?_, fun h0 h2 h3 => ?_, by simp [P.bl, Fo.len], by simp [P.el, Fo.len], fun x hx => ?_, fun m e he => ?_, fun j s hj hjs hk => ?_, fun L hL m x e hx he => ?_⟩⟩
    · rw [P.pre j (by omega), hf.pre j (by simp; omega), get_pre hj]
    · simp only [Fo.len] at h2
      refine P.ok (by omega) (by omega) (hf.ok (h3.snoc (.inl ⟨rfl, by simp [Ns.zs], rfl, rfl, h0, by simp only; omega⟩)))
    · rcases List.mem_cons.1 hx with rfl | hx
      · have := hf.x0; omega
      · exact P.b0 x hx
    · cases m with
      | zero =>
        simp at he
        subst he
        exact ⟨Nat.le_refl _, by omega, by rw [P.pre _ (by omega), eT]; simp⟩
      | succ m =>
        obtain ⟨g1, g2, g3⟩ := P.e0 m e (by simpa using he)
        refine ⟨by omega, g2, ?_⟩
        rw [g3]
        congr 2
        omega
    · by_cases cj : j < T.1.length
      · rw [P.pre j cj] at hjs
        by_cases c2 : j = l.length
        · exact ⟨0, by simp [c2]⟩
        · exact absurd hk (hf.kk j s (by simp; omega) hjs)
      · obtain ⟨m, hm⟩ := P.ek j s (by omega) hjs hk
        exact ⟨m + 1, by simpa using hm⟩
    · cases m with
      | zero =>
        simp at hx he
        subst hx; subst he
        have hT : ∀ j, l.length ≤ j → j < T.1.length → L[j]? = T.1[j]? := fun j h1 h2 => (hL j h1 (by omega)).trans (P.pre j h2)
        obtain ⟨f1, f2⟩ := hf.fr L fun j h1 h2 => hT j (by simp at h1; omega) h2
        have eL : L[l.length]? = some ⟨0, 0, 0, 0, 0, 0, 0, i⟩ := (hT _ (Nat.le_refl _) (by omega)).trans eT
        refine ⟨fun u hu => ?_, fun n w j s hj hk hp => ?_⟩
        · have := f1 u hu
          rwa [Int.toNat_natCast] at this
        · have hout : j < (l ++ [(⟨0, 0, 0, 0, 0, 0, 0, i⟩ : Ns)]).length ∨ T.1.length ≤ j := by
            by_cases c1 : j < (l ++ [(⟨0, 0, 0, 0, 0, 0, 0, i⟩ : Ns)]).length
            · exact .inl c1
            · right
              refine Nat.le_of_not_lt fun c2 => hf.kk j s (by omega) ?_ hk
              rw [← hT j (by simp at c1; omega) c2]; exact hj
          obtain ⟨u, v, m, _, rfl, hu, hp2⟩ := f2 n w j hout hp
          rw [Int.toNat_natCast] at hp2
          obtain ⟨rfl, rfl⟩ := end_way eL rfl hp2
          exact ⟨rfl, by rw [List.append_nil]; exact hu⟩
      | succ m =>
        have := P.fr L (fun j h1 h2 => hL j (by omega) h2) m x e (by simpa using hx) (by simpa using he)
        simpa [Fo.drop] using this
structure JoinP (bs : List Int) (l l' : List Ns) (x : Int) : Prop where
  le : l.length ≤ l'.length
  pre : ∀ j, j < l.length → l'[j]? = l[j]?
  ok : AllOk l → AllOk l'
  x0 : 0 ≤ x ∧ x < l'.length
  kk : ∀ j s, l.length ≤ j → l'[j]? = some s → s.k ≠ 0
  fr : ∀ L : List Ns, (∀ j, l.length ≤ j → j < l'.length → L[j]? = l'[j]?) →
    (∀ n w j s, L[j]? = some s → s.k = 0 → Pn L n x.toNat w j → ∃ b ∈ bs, ∃ m, Pn L m b.toNat w j) ∧ (∀ b ∈ bs, ∀ n w j, Pn L n b.toNat w j → ∃ m, Pn L m x.toNat w j)
theorem joinB_fr : ∀ (bs : List Int) (l : List Ns), 1 ≤ bs.length → l.length + (bs.length - 1) ≤ 20000 → (∀ b ∈ bs, 0 ≤ b ∧ b < l.length) → JoinP bs l (joinB 20000 bs l).1 (joinB 20000 bs l).2
  | [], l, h, _, _ => by simp at h
  | [b], l, _, _, hb => by
    refine ⟨Nat.le_refl _, fun _ _ => rfl, fun h => h, hb b (by simp), fun j s h1 h2 => ?_, fun L _ => ⟨fun n w j s _ _ hp => ⟨b, by simp, n, hp⟩, fun b' hb' n w j hp => ?_⟩⟩
    · rw [show (joinB 20000 [b] l).1 = l from rfl, List.getElem?_eq_none h1] at h2; cases h2
    · simp at hb'; subst hb'; exact ⟨n, hp⟩
  | b :: b2 :: bs, l, _, hl, hb => by
    simp only [List.length_cons] at hl
    have P := joinB_fr (b2 :: bs) l (by simp) (by simp; omega) (fun x hx => hb x (by simp at hx ⊢; exact .inr hx))
    have hmin := joinB_min 20000 (b2 :: bs) l (by omega)
    simp only [List.length_cons] at hmin
    have e : joinB 20000 (b :: b2 :: bs) l = ((joinB 20000 (b2 :: bs) l).1 ++ [spl b (joinB 20000 (b2 :: bs) l).2], ((joinB 20000 (b2 :: bs) l).1.length : Int)) := pst_fit (by omega)
    rw [e]
    generalize joinB 20000 (b2 :: bs) l = J at *
    have ple := P.le
    have px := P.x0
    have hb0 := hb b (by simp)
    refine ⟨by simp; omega, fun j hj => (get_pre (by omega)).trans (P.pre j hj), fun h => (P.ok h).snoc (spl_ok (by omega) (by omega)), by simp; omega, fun j s hj hs => ?_, fun L hL => ?_⟩
    · by_cases c : j < J.1.length
      · rw [get_pre c] at hs
        exact P.kk j s hj hs
      · have : j = J.1.length := by
          have := (List.getElem?_eq_some_iff.1 hs).1
          simp at this; omega
        subst this
        rw [get_last] at hs
        injection hs with hs; subst hs; simp [spl]
    · simp only [List.length_append, List.length_singleton] at hL
      have eL := hL J.1.length (by omega) (by omega)
      rw [get_last] at eL
      obtain ⟨f1, f2⟩ := P.fr L fun j h1 h2 => (hL j h1 (by omega)).trans (get_pre h2)
      refine ⟨fun n w j s hj hk hp => ?_, fun x hx n w j hp => ?_⟩
      · rw [Int.toNat_natCast] at hp
        have hne : j ≠ J.1.length := fun e => by
          rw [e, eL] at hj
          injection hj with hj; subst hj; simp [spl] at hk
        obtain ⟨m, rfl, hp | hp⟩ := split_way eL hne hp
        · exact ⟨b, by simp, m, hp⟩
        · obtain ⟨y, hy, m2, hm2⟩ := f1 m w j s hj hk hp
          exact ⟨y, by simp at hy ⊢; exact .inr hy, m2, hm2⟩
      · rw [Int.toNat_natCast]
        rcases List.mem_cons.1 hx with rfl | hx
        · exact ⟨n + 1, .a eL rfl hp⟩
        · obtain ⟨m, hm⟩ := f2 x hx n w j hp
          exact ⟨m + 1, .b eL rfl hm⟩
/-- The m-th tree has a text. -/
def Fo.has (f : Fo) (m : Nat) (u : List Nat) : Prop := m < f.len ∧ (lg (f.drop m)).one u
/-- The place of the first tree that has a text; none. -/
def TagIs (f : Fo) (u : List Nat) (t : Int) : Prop := (t = -1 ∧ ∀ m, ¬ f.has m u) ∨ (∃ m : Nat, t = m ∧ f.has m u ∧ ∀ m', m' < m → ¬ f.has m' u)
theorem machine_right {f : Fo} (h1 : 1 ≤ f.len) (h2 : f.len ≤ 200) (hr : f.right = true) (ht : f.total ≤ 20000) : nfRight (bldM f).2 (bldM f).1 = true ∧ ∃ es : List Nat, es.length = f.len ∧ (∀ (m e : Nat), es[m]? = some e → (bldM f).1[e]? = some ⟨0, 0, 0, 0, 0, 0, 0, (m : Int)⟩) ∧
    (∀ (j : Nat) (s : Ns), (bldM f).1[j]? = some s → s.k = 0 → ∃ m : Nat, es[m]? = some j ∧ s.t = (m : Int)) ∧ (∀ (m e : Nat) (u : List Nat), es[m]? = some e → ((∃ n, Pn (bldM f).1 n (bldM f).2.toNat u e) ↔ f.has m u)) := by
  unfold Fo.total at ht
  obtain ⟨bs, es, hb, P⟩ := bldF_fr f 0 [] [] hr (by simp; omega)
  rw [List.nil_append] at hb
  have hlen := (bldF_min 20000 f 0 [] [] hr (by simp)).1
  simp only [List.length_nil] at hlen
  have J := joinB_fr bs (bldF 20000 f 0 [] []).1 (by rw [P.bl]; exact h1) (by rw [P.bl]; omega) P.b0
  have hjl := joinB_min 20000 bs (bldF 20000 f 0 [] []).1 (by omega)
  have e : bldM f = joinB 20000 bs (bldF 20000 f 0 [] []).1 := by unfold bldM; rw [hb]
  rw [e]
  have pbl := P.bl
  have jle := J.le
  generalize joinB 20000 bs (bldF 20000 f 0 [] []).1 = R at *
  generalize (bldF 20000 f 0 [] []).1 = l' at *
  have hok : AllOk R.1 := J.ok (P.ok (by omega) (by omega) (by intro x hx; cases hx))
  refine ⟨?_, es, P.el, fun m x he => ?_, fun j s hj hk => ?_, fun m x u he => ?_⟩
  · unfold nfRight
    rw [Bool.and_eq_true, decide_eq_true_eq, List.all_eq_true]
    exact ⟨⟨J.x0.1, J.x0.2, by omega⟩, fun x hx => decide_eq_true (hok x hx)⟩
  · obtain ⟨g1, g2, g3⟩ := P.e0 m x he
    rw [J.pre x g2, g3]
    simp
  · have hjl' : j < l'.length := Nat.lt_of_not_le fun hc => J.kk j s hc hj hk
    rw [J.pre j hjl'] at hj
    obtain ⟨m, hm⟩ := P.ek j s (by simp) hj hk
    obtain ⟨_, _, g3⟩ := P.e0 m j hm
    rw [hj] at g3
    injection g3 with g3
    exact ⟨m, hm, by rw [g3]; simp⟩
  · have hml : m < f.len := by rw [← P.el]; exact (List.getElem?_eq_some_iff.1 he).1
    have hbm : bs[m]? = some (bs[m]'(by omega)) := List.getElem?_eq_getElem (by omega)
    have F := P.fr R.1 (fun j _ h2 => J.pre j h2) m _ x hbm he
    obtain ⟨g1, g2, g3⟩ := P.e0 m x he
    have eR : R.1[x]? = some ⟨0, 0, 0, 0, 0, 0, 0, 0 + m⟩ := (J.pre x g2).trans g3
    obtain ⟨j1, j2⟩ := J.fr R.1 fun _ _ _ => rfl
    constructor
    · rintro ⟨n, hp⟩
      obtain ⟨b, hb', m2, hm2⟩ := j1 n u x _ eR rfl hp
      obtain ⟨i, hi, rfl⟩ := List.getElem_of_mem hb'
      have hei : es[i]? = some (es[i]'(by rw [P.el]; omega)) := List.getElem?_eq_getElem _
      have Fi := P.fr R.1 (fun j _ h2 => J.pre j h2) i _ _ (List.getElem?_eq_getElem hi) hei
      obtain ⟨q1, q2⟩ := Fi.2 m2 u x _ eR rfl hm2
      obtain ⟨_, _, g4⟩ := P.e0 i _ hei
      rw [← q1, g3] at g4
      injection g4 with g4
      have : (0 : Int) + m = 0 + i := by injection g4
      have him : i = m := by omega
      subst him
      exact ⟨hml, q2⟩
    · rintro ⟨_, hu⟩
      obtain ⟨n, hn⟩ := F.1 u hu
      exact j2 _ (List.getElem_mem _) n u x hn
theorem machine_tags {f : Fo} (h1 : 1 ≤ f.len) (h2 : f.len ≤ 200) (hr : f.right = true) (ht : f.total ≤ 20000) (s : List Nat) (i : Nat) (hi : i ≤ s.length) : ∃ t, (nfRun (bldM f).2 (bldM f).1 s)[i]? = some t ∧ TagIs f (s.take i) t := by
  obtain ⟨hright, es, hel, he, hk, hp⟩ := machine_right h1 h2 hr ht
  obtain ⟨hok, hs0, hs1, hlen, hall⟩ := okL_of_right hright
  obtain ⟨N, hN, hRd⟩ := nfRun_at hok hs0 hs1 s i hi
  refine ⟨_, hN, ?_⟩
  have ht0 : ∀ x ∈ (bldM f).1, x.k = 0 → 0 ≤ x.t := fun x hx hk => by
    have := hall x hx
    unfold okNs at this
    omega
  obtain ⟨t1, _, t3, t4⟩ := tagF_spec N (bldM f).1 (-1) ht0 (by omega)
  have hasOn : ∀ m, f.has m (s.take i) → ∃ j s', On N j ∧ (bldM f).1[j]? = some s' ∧ s'.k = 0 ∧ s'.t = m := fun m hm => by
    have hem : es[m]? = some (es[m]'(by rw [hel]; exact hm.1)) := List.getElem?_eq_getElem _
    exact ⟨_, _, (hRd.2 _).2 ((hp m _ _ hem).2 hm), he m _ hem, rfl, rfl⟩
  have onHas : ∀ j s', On N j → (bldM f).1[j]? = some s' → s'.k = 0 → ∃ m : Nat, s'.t = m ∧ f.has m (s.take i) := fun j s' hj hs' hk' => by
    obtain ⟨m, hm, hst⟩ := hk j s' hs' hk'
    exact ⟨m, hst, (hp m j _ hm).1 ((hRd.2 j).1 hj)⟩
  generalize tagF N (bldM f).1 (-1) = t at *
  rcases t3 with e | ⟨j, s', e1, e2, e3, e4⟩
  · refine .inl ⟨e, fun m hm => ?_⟩
    obtain ⟨j, s', g1, g2, g3, g4⟩ := hasOn m hm
    have := t4 j s' g1 g2 g3
    omega
  · obtain ⟨m, hm, hh⟩ := onHas j s' e1 e2 e3
    refine .inr ⟨m, by omega, hh, fun m' hm' hh' => ?_⟩
    obtain ⟨j2, s2, g1, g2, g3, g4⟩ := hasOn m' hh'
    have := t4 j2 s2 g1 g2 g3
    omega
theorem TagIs.uniq {f : Fo} {u : List Nat} {t t' : Int} (h : TagIs f u t) (h' : TagIs f u t') : t = t' := by
  rcases h with ⟨rfl, h⟩ | ⟨m, rfl, h1, h2⟩ <;> rcases h' with ⟨rfl, h'⟩ | ⟨m', rfl, h1', h2'⟩
  · rfl
  · exact absurd h1' (h m')
  · exact absurd h1 (h' m)
  · have : m = m' := by
      rcases Nat.lt_trichotomy m m' with c | c | c
      · exact absurd h1 (h2' m c)
      · exact c
      · exact absurd h1' (h2 m' c)
    rw [this]
end Fk
set_option linter.unusedVariables false
set_option linter.unusedSimpArgs false
namespace Fk
open Go Go.Proofs Go.RowKit
structure SmallF (g : Fo) : Prop where
  l1 : 1 ≤ g.len
  l2 : g.len ≤ 200
  rt : g.right = true
  tot : g.total ≤ 20000
theorem bld_max {g : Fo} (h : SmallF g) : bld g 20000 = (((bldM g).2, (bldM g).1), 0) := by
  rw [bld_eq h.l1 h.l2 (by omega) (by omega) h.rt, if_neg (by have := h.tot; omega)]
end Fk
