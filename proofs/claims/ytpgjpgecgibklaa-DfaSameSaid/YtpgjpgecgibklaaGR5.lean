/- Contracts of functions, and plain laws: several texts, joined. -/
import Derived.Test.YtpgjpgecgibklaaGR4
import Derived.Test.YtpgjpgecgibklaaGK2
import Derived.Test.YtpgjpgecgibklaaGV1
import Derived.Test.YtpgjpgecgibklaaGV2
set_option linter.unusedVariables false
set_option linter.unusedSimpArgs false
set_option maxRecDepth 100000
set_option maxHeartbeats 4000000
namespace Fk
open Go Go.Proofs Go.RowKit
def KKS (S : List Q4) (l : List Ns) : Prop := ∀ x ∈ l, x.k = 1 → x.q ∈ S
section
variable {S : List Q4}
theorem mst_s {most : Nat} {l : List Ns} {x : Ns} (h : KKS S l) (hx : x.k = 1 → x.q ∈ S) : KKS S (mst most l x) := by
  unfold mst
  split
  · intro y hy
    rcases List.mem_append.1 hy with h1 | h1
    · exact h y h1
    · simp at h1; subst h1; exact hx
  · exact h
theorem setA_s {l : List Ns} {i k : Int} (h : KKS S l) : KKS S (setA l i k) := by
  unfold setA
  split
  · rename_i x hx
    intro y hy
    rcases List.mem_or_eq_of_mem_set hy with h1 | h1
    · exact h y h1
    · subst h1; exact h x (List.mem_of_getElem? hx)
  · exact h
theorem tw_s (most : Nat) : ∀ f : Fo, (∀ q ∈ f.sets, q ∈ S) → (∀ p : List Ns × Int, KKS S p.1 → KKS S ((tw most f).cat p).1) ∧ (∀ (to : Int) (l : List Ns), KKS S l → KKS S ((tw most f).alt to l).1) ∧ (∀ p : List Ns × Int, KKS S p.1 → KKS S ((tw most f).one p).1)
  | .nil, _ => ⟨fun p h => h, fun to l h => h, fun p h => h⟩
  | .cons k a b c d q r, hs => by
    simp only [Fo.sets, List.mem_append] at hs
    obtain ⟨q1, q2, q3⟩ := tw_s most q fun x hx => hs x (.inr (.inl hx))
    obtain ⟨r1, r2, r3⟩ := tw_s most r fun x hx => hs x (.inr (.inr hx))
    have one : ∀ p : List Ns × Int, KKS S p.1 → KKS S (twOne most k a b c d (tw most q) p).1 := by
      intro p hp
      unfold twOne
      split
      · exact hp
      · split
        · rename_i hk
          exact mst_s hp fun _ => hs _ (.inl (by unfold nodeS; rw [hk]; simp [Ns.q]))
        · split
          · exact q1 p hp
          · split
            · exact q2 _ _ hp
            · split
              · exact setA_s (q3 _ (mst_s hp (by simp [spl])))
              · exact hp
    refine ⟨fun p hp => one _ (r1 p hp), fun to l hl => ?_, one⟩
    show KKS S (twAlt most _ _ to l).1
    unfold twAlt
    simp only
    split
    · exact one _ (r2 to l hl)
    · exact mst_s (one _ (r2 to l hl)) (by simp [spl])
theorem bldF_s (most : Nat) : ∀ (f : Fo) (i : Int) (l : List Ns) (bs : List Int), (∀ q ∈ f.sets, q ∈ S) → KKS S l → KKS S (bldF most f i l bs).1
  | .nil, i, l, bs, _, h => h
  | .cons k a b c d q r, i, l, bs, hs, h => by
    simp only [Fo.sets, List.mem_append] at hs
    simp only [bldF]
    refine bldF_s most r _ _ _ (fun x hx => hs x (.inr (.inr hx))) ?_
    exact (tw_s most (.cons k a b c d q .nil) (fun x hx => by
      simp only [Fo.sets, List.mem_append, List.not_mem_nil, or_false] at hx
      rcases hx with hx | hx
      · exact hs x (.inl hx)
      · exact hs x (.inr (.inl hx)))).2.2 _ (mst_s h (by simp))
theorem joinB_s (most : Nat) : ∀ (bs : List Int) (l : List Ns), KKS S l → KKS S (joinB most bs l).1
  | [], l, h => h
  | [b], l, h => h
  | b :: b2 :: bs, l, h => mst_s (joinB_s most (b2 :: bs) l h) (by simp [spl])
end
theorem bldM_sets (f : Fo) : KKS f.sets (bldM f).1 := by
  unfold bldM
  exact joinB_s _ _ _ (bldF_s _ _ _ _ _ (fun q hq => hq) (by intro x hx; cases hx))
theorem fits_of {l : List Ns} {S : List Q4} (h : KKS S l) : fitsN (clOf S) l = true := by
  rw [clOf_ref]
  unfold fitsN
  rw [ref_right, Bool.and_true, List.all_eq_true]
  intro x hx
  by_cases hk : x.k = 1
  · rw [ref_fits S x.q (h x hx hk)]; simp
  · simp [hk]
theorem idxB_lt {N : List Bool} : ∀ {l : List (List Bool)} {i k : Nat}, idxB N l i = some k → i ≤ k ∧ k < i + l.length
  | [], i, k, h => by simp [idxB] at h
  | M :: r, i, k, h => by
    simp only [idxB] at h
    split at h
    · simp at h; subst h; simp
    · have := idxB_lt h
      simp; omega
def chk : List Int → Int → Option Int
  | [], t => some t
  | x :: xs, t => if x > t + 1 then none else chk xs (if x > t then x else t)
theorem chk_app : ∀ (a b : List Int) (t : Int), chk (a ++ b) t = (chk a t).bind (chk b)
  | [], b, t => rfl
  | x :: a, b, t => by
    simp only [List.cons_append, chk]
    split
    · rfl
    · exact chk_app a b _
structure DInv (p : DP) : Prop where
  n1 : 1 ≤ p.1.length
  nx : ∀ x ∈ p.2, -1 ≤ x ∧ x < p.1.length
  ck : chk p.2 0 = some ((p.1.length : Int) - 1)
theorem oneB_inv {l : List Ns} {b : Nat} {N : List Bool} {p : DP} (h : DInv p) : DInv (oneB l b N p) ∧ ∃ e, (oneB l b N p).2 = p.2 ++ e ∧ (∃ e1, (oneB l b N p).1 = p.1 ++ e1) := by
  have h1 := h.n1
  unfold oneB
  split
  · refine ⟨⟨h1, fun x hx => ?_, ?_⟩, _, rfl, [], by simp⟩
    · rcases List.mem_append.1 hx with hx | hx
      · exact h.nx x hx
      · simp at hx; subst hx; simp only; omega
    · simp only [chk_app, h.ck]
      simp only [Option.bind_some, chk]
      rw [if_neg (by omega), if_neg (by omega)]
  · split
    · rename_i i hi
      have := idxB_lt hi
      refine ⟨⟨h1, fun x hx => ?_, ?_⟩, _, rfl, [], by simp⟩
      · rcases List.mem_append.1 hx with hx | hx
        · exact h.nx x hx
        · simp at hx; subst hx; simp only; omega
      · simp only [chk_app, h.ck]
        simp only [Option.bind_some, chk]
        rw [if_neg (by omega), if_neg (by omega)]
    · refine ⟨⟨by simp, fun x hx => ?_, ?_⟩, _, rfl, _, rfl⟩
      · rcases List.mem_append.1 hx with hx | hx
        · have := h.nx x hx
          simp only [List.length_append, List.length_cons, List.length_nil]; omega
        · simp at hx; subst hx; simp only [List.length_append, List.length_cons, List.length_nil]; omega
      · simp only [chk_app, h.ck]
        simp only [Option.bind_some, chk]
        rw [if_neg (by omega), if_pos (by omega)]
        simp
theorem dRow_inv {l : List Ns} {M : Nat} : ∀ {F : List Nat} {N : List Bool} {p q : DP}, dRow l M F N p = some q → DInv p → DInv q ∧ ∃ e, q.2 = p.2 ++ e ∧ (∃ e1, q.1 = p.1 ++ e1)
  | [], N, p, q, h, hp => by simp only [dRow, Option.some.injEq] at h; subst h; exact ⟨hp, [], by simp, [], by simp⟩
  | b :: F, N, p, q, h, hp => by
    unfold dRow at h
    split at h
    · cases h
    · obtain ⟨i1, e, he, e1, he1⟩ := oneB_inv (l := l) (b := b) (N := N) hp
      obtain ⟨i2, e', he', e1', he1'⟩ := dRow_inv h i1
      exact ⟨i2, e ++ e', by rw [he', he, List.append_assoc], e1 ++ e1', by rw [he1', he1, List.append_assoc]⟩
theorem dAll_inv {l : List Ns} {M : Nat} {F : List Nat} : ∀ {f i : Nat} {p q : DP}, dAll l M F f i p = some q → DInv p → p.1.length ≤ M → i ≤ p.1.length → i + f = M + 1 → p.2.length = i * F.length →
    DInv q ∧ (∃ e, q.2 = p.2 ++ e) ∧ (∃ e1, q.1 = p.1 ++ e1) ∧ ∀ j, i ≤ j → j < q.1.length → ∃ t, chk (q.2.take (j * F.length)) 0 = some t ∧ (j : Int) ≤ t
  | 0, i, p, q, h, hp, h1, h2, h3, h4 => by omega
  | f + 1, i, p, q, h, hp, h1, h2, h3, h4 => by
    unfold dAll at h
    cases hN : p.1[i]? with
    | none =>
      rw [hN] at h
      simp only [Option.some.injEq] at h
      subst h
      have := List.getElem?_eq_none_iff.1 hN
      exact ⟨hp, ⟨[], by simp⟩, ⟨[], by simp⟩, fun j hj1 hj2 => by omega⟩
    | some N =>
      rw [hN] at h
      have hil := (List.getElem?_eq_some_iff.1 hN).1
      simp only at h
      cases hr : dRow l M F N p with
      | none => rw [hr] at h; cases h
      | some p' =>
        rw [hr] at h
        have h : dAll l M F f (i + 1) p' = some q := h
        obtain ⟨i1, e, he, e1, he1⟩ := dRow_inv hr hp
        obtain ⟨i2, ⟨e', he'⟩, ⟨e1', he1'⟩, hj⟩ := dAll_inv h i1 (dRow_le hr h1) (by have := dRow_grow hr; omega) (by omega) (by rw [dRow_nx hr, h4, Nat.succ_mul])
        refine ⟨i2, ⟨e ++ e', by rw [he', he, List.append_assoc]⟩, ⟨e1 ++ e1', by rw [he1', he1, List.append_assoc]⟩, fun j hj1 hj2 => ?_⟩
        by_cases hji : j = i
        · subst hji
          refine ⟨(p.1.length : Int) - 1, ?_, by omega⟩
          rw [← h4, he', he, List.append_assoc, List.take_left]
          exact hp.ck
        · exact hj j (by omega) hj2
theorem tagF_b : ∀ (N : List Bool) (l : List Ns) (t : Int), (∀ x ∈ l, okNs l.length x ∨ (x.k = 0 → 0 ≤ x.t ∧ x.t < 200)) → -1 ≤ t → t < 200 → (∀ x ∈ l, x.k = 0 → 0 ≤ x.t ∧ x.t < 200) → -1 ≤ tagF N l t ∧ tagF N l t < 200
  | [], l, t, _, h1, h2, _ => by rw [show tagF [] l t = t by cases l <;> rfl]; exact ⟨h1, h2⟩
  | h :: hs, [], t, _, h1, h2, _ => ⟨h1, h2⟩
  | h :: hs, x :: xs, t, hh, h1, h2, h3 => by
    unfold tagF
    have hx := h3 x (by simp)
    split
    · rename_i c
      have := hx c.2.1
      exact tagF_b hs xs x.t (fun y hy => .inr (h3 y (by simp [hy]))) (by omega) (by omega) fun y hy => h3 y (by simp [hy])
    · exact tagF_b hs xs t (fun y hy => .inr (h3 y (by simp [hy]))) h1 h2 fun y hy => h3 y (by simp [hy])
/-- What is made, in all. -/
theorem dBld_ok {st : Int} {l : List Ns} {c : Cl} (hc : c.ok) {m : Int} {d : Dm} (h : dBld st l c m = (d, 0)) :
    dRight d.1 d.2.1 d.2.2 = true ∧ d.1 = c.m ∧ chk d.2.1 0 = some ((d.2.2.length : Int) - 1) ∧ ∀ j : Nat, j < d.2.2.length → ∃ t, chk (d.2.1.take (j * c.m.toNat)) 0 = some t ∧ (j : Int) ≤ t := by
  have hsz := dBld_sz (st := st) (l := l) (c := c) hc (m := m)
  rw [h] at hsz
  obtain ⟨z1, z2, z3⟩ := hsz
  obtain ⟨z4, z5, z6, z7⟩ := z3 rfl
  have hcap := dBld_cap h 0
  unfold dBld at h
  split at h
  case isFalse => exact absurd (congrArg Prod.snd h) (by simp)
  rename_i hcd
  split at h
  case h_1 => exact absurd (congrArg Prod.snd h) (by simp)
  rename_i p hp
  obtain ⟨hr, hf, hm1, hm2⟩ := hcd
  obtain ⟨_, _, _, _, hall⟩ := okL_of_right hr
  have hk0 : ∀ x ∈ l, x.k = 0 → 0 ≤ x.t ∧ x.t < 200 := fun x hx hk => by have := hall x hx; unfold okNs at this; omega
  have hd : d = (c.m, p.2, tagL l p.1) := by injection h with h; exact h.symm
  have I0 : DInv ([dst l [st]], []) := ⟨by simp, by simp, rfl⟩
  obtain ⟨I, _, _, hj⟩ := dAll_inv hp I0 (by simp; omega) (by simp) (by omega) (by simp)
  subst hd
  have hl : (tagL l p.1).length = p.1.length := by simp [tagL]
  refine ⟨?_, rfl, ?_, fun j hj2 => ?_⟩
  · simp only [dRight, Bool.and_eq_true, decide_eq_true_eq, List.all_eq_true]
    refine ⟨⟨⟨z6, z7, hcap.2.1, z1, z4⟩, fun x hx => ?_⟩, fun x hx => ?_⟩
    · simp only [tagL, List.mem_map] at hx
      obtain ⟨N, _, rfl⟩ := hx
      exact tagF_b N l (-1) (fun y hy => .inr (hk0 y hy)) (by omega) (by omega) hk0
    · rw [hl]; exact I.nx x hx
  · rw [hl]; exact I.ck
  · rw [hl] at hj2
    have := hj j (by omega) hj2
    rw [firsts_len] at this
    exact this
end Fk
set_option linter.unusedVariables false
set_option linter.unusedSimpArgs false
set_option maxRecDepth 100000
set_option maxHeartbeats 4000000
namespace Fk
open Go Go.Proofs Go.RowKit
theorem dBld_err {st : Int} {l : List Ns} {c : Cl} : (nfRight st l = false → (dBld st l c 200).2 = 2) ∧ (nfRight st l = true → fitsN c l = true → (dBld st l c 200).2 = 40 ∨ (dBld st l c 200).2 = 0) := by
  constructor
  · intro h
    unfold dBld
    rw [if_neg (by rw [h]; simp)]
  · intro h1 h2
    unfold dBld
    rw [if_pos ⟨h1, h2, by omega, by omega⟩]
    split
    · exact .inl rfl
    · exact .inr rfl
end Fk
set_option linter.unusedVariables false
set_option linter.unusedSimpArgs false
set_option maxRecDepth 100000
set_option maxHeartbeats 4000000
namespace Fk
open Go Go.Proofs Go.RowKit
theorem idxB_get {N : List Bool} : ∀ {l : List (List Bool)} {i k : Nat}, idxB N l i = some k → l[k - i]? = some N
  | [], i, k, h => by simp [idxB] at h
  | M :: r, i, k, h => by
    have hb := idxB_lt h
    simp only [idxB] at h
    split at h
    · rename_i e
      simp at h; subst h; simp [e]
    · have h1 := idxB_get h
      have h2 := idxB_lt h
      rw [show k - i = (k - (i + 1)) + 1 by omega, List.getElem?_cons_succ]
      exact h1
/-- What an entry of the table says. -/
def EntB (l : List Ns) (all : List (List Bool)) (b : Nat) (N : List Bool) (x : Int) : Prop :=
  (byL b N l = [] ∧ x = -1) ∨ (byL b N l ≠ [] ∧ ∃ j : Nat, x = (j : Int) ∧ all[j]? = some (dst l (byL b N l)))
theorem EntB.more {l : List Ns} {all e : List (List Bool)} {b : Nat} {N : List Bool} {x : Int} (h : EntB l all b N x) : EntB l (all ++ e) b N x := by
  rcases h with h | ⟨h1, j, h2, h3⟩
  · exact .inl h
  · refine .inr ⟨h1, j, h2, ?_⟩
    rw [List.getElem?_append_left (List.getElem?_eq_some_iff.1 h3).1]
    exact h3
theorem oneB_ent (l : List Ns) (b : Nat) (N : List Bool) (p : DP) : ∃ x e, (oneB l b N p).2 = p.2 ++ [x] ∧ (oneB l b N p).1 = p.1 ++ e ∧ EntB l (oneB l b N p).1 b N x := by
  unfold oneB
  split
  · rename_i h
    exact ⟨-1, [], rfl, by simp, .inl ⟨h, rfl⟩⟩
  · rename_i h
    split
    · rename_i i hi
      have := idxB_get hi
      exact ⟨i, [], rfl, by simp, .inr ⟨h, i, rfl, by simpa using this⟩⟩
    · exact ⟨p.1.length, _, rfl, rfl, .inr ⟨h, p.1.length, rfl, by simp⟩⟩
theorem dRow_ent {l : List Ns} {M : Nat} : ∀ {F : List Nat} {N : List Bool} {p q : DP}, dRow l M F N p = some q →
    ∃ row e, q.2 = p.2 ++ row ∧ q.1 = p.1 ++ e ∧ row.length = F.length ∧ ∀ (k : Nat) (b : Nat) (x : Int), F[k]? = some b → row[k]? = some x → EntB l q.1 b N x
  | [], N, p, q, h => by
    simp only [dRow, Option.some.injEq] at h; subst h
    exact ⟨[], [], by simp, by simp, rfl, fun k b x h _ => by simp at h⟩
  | b :: F, N, p, q, h => by
    unfold dRow at h
    split at h
    · cases h
    · obtain ⟨x, e, h1, h2, h3⟩ := oneB_ent l b N p
      obtain ⟨row, e', h4, h5, h6, h7⟩ := dRow_ent h
      refine ⟨x :: row, e ++ e', by rw [h4, h1]; simp, by rw [h5, h2, List.append_assoc], by simp [h6], fun k b' x' hb hx => ?_⟩
      cases k with
      | zero =>
        simp at hb hx; subst hb; subst hx
        rw [h5]; exact h3.more
      | succ k => exact h7 k b' x' (by simpa using hb) (by simpa using hx)
theorem dAll_ent {l : List Ns} {M : Nat} {F : List Nat} : ∀ {f i : Nat} {p q : DP}, dAll l M F f i p = some q → p.1.length ≤ M → i ≤ p.1.length → i + f = M + 1 → p.2.length = i * F.length →
    (∃ e, q.2 = p.2 ++ e) ∧ (∃ e, q.1 = p.1 ++ e) ∧ ∀ (j k b : Nat) (N : List Bool), i ≤ j → q.1[j]? = some N → F[k]? = some b → ∃ x, q.2[j * F.length + k]? = some x ∧ EntB l q.1 b N x
  | 0, i, p, q, h, h1, h2, h3, h4 => by omega
  | f + 1, i, p, q, h, h1, h2, h3, h4 => by
    unfold dAll at h
    cases hN : p.1[i]? with
    | none =>
      rw [hN] at h
      simp only [Option.some.injEq] at h
      subst h
      have := List.getElem?_eq_none_iff.1 hN
      refine ⟨⟨[], by simp⟩, ⟨[], by simp⟩, fun j k b N hij hj _ => ?_⟩
      have := (List.getElem?_eq_some_iff.1 hj).1
      omega
    | some N =>
      rw [hN] at h
      have hil := (List.getElem?_eq_some_iff.1 hN).1
      simp only at h
      cases hr : dRow l M F N p with
      | none => rw [hr] at h; cases h
      | some p' =>
        rw [hr] at h
        have h : dAll l M F f (i + 1) p' = some q := h
        obtain ⟨row, e, r1, r2, r3, r4⟩ := dRow_ent hr
        obtain ⟨⟨e2, he2⟩, ⟨e1, he1⟩, hj⟩ := dAll_ent h (dRow_le hr h1) (by have := dRow_grow hr; omega) (by omega) (by rw [dRow_nx hr, h4, Nat.succ_mul])
        refine ⟨⟨row ++ e2, by rw [he2, r1, List.append_assoc]⟩, ⟨e ++ e1, by rw [he1, r2, List.append_assoc]⟩, fun j k b N' hij hjq hk => ?_⟩
        by_cases hji : j = i
        · subst hji
          have hkl := (List.getElem?_eq_some_iff.1 hk).1
          have hNN : N' = N := by
            rw [he1, r2, List.append_assoc, List.getElem?_append_left hil, hN] at hjq
            injection hjq with hjq
            exact hjq.symm
          subst hNN
          have hkr : k < row.length := by omega
          refine ⟨row[k], ?_, ?_⟩
          · rw [he2, r1, List.append_assoc, List.getElem?_append_right (by omega), List.getElem?_append_left (by omega), show j * F.length + k - p.2.length = k by omega, List.getElem?_eq_getElem hkr]
          · rw [he1]
            exact (r4 k b row[k] hk (List.getElem?_eq_getElem hkr)).more
        · exact hj j k b N' (by omega) hjq hk
theorem byL_same {b b' : Nat} : ∀ (N : List Bool) (l : List Ns), (∀ x ∈ l, x.k = 1 → inQ x.q b = inQ x.q b') → byL b N l = byL b' N l
  | [], l, _ => by cases l <;> rfl
  | h :: hs, [], _ => rfl
  | h :: hs, x :: xs, hx => by
    have ih := byL_same hs xs fun y hy => hx y (by simp [hy])
    unfold byL
    by_cases hk : x.k = 1
    · rw [hx x (by simp) hk, ih]
    · rw [if_neg (fun h => hk h.2.1), if_neg (fun h => hk h.2.1), ih]
theorem ref_fst (S : List Q4) {b : Nat} (hb : b < 256) : ∃ k : Nat, (refCl S).f[b]? = some k ∧ k < (refCl S).m.toNat ∧ ∃ b', (refCl S).firsts[k]? = some b' ∧ ∀ q ∈ S, inQ q b = inQ q b' := by
  have hc : (refCl S).ok := by rw [← clOf_ref]; exact clOf_ok _ _ (zCl_ok (by omega) (by omega))
  have hr := ref_right S
  have hbl : b < (refCl S).f.length := by rw [hc.len]; exact hb
  have hcl := right_class hc hr hbl
  have hm := right_m hc hr
  refine ⟨(refCl S).f[b], List.getElem?_eq_getElem hbl, by omega, ?_⟩
  have hk : (refCl S).f[b] < (refCl S).firsts.length := by rw [firsts_len]; omega
  refine ⟨_, List.getElem?_eq_getElem hk, ?_⟩
  rw [firsts_get]
  have hla := least_at (List.getElem?_eq_getElem hbl)
  have hll : least (refCl S).f (((refCl S).f[b] : Nat) : Int) < 256 := by omega
  have hg := least_get (refCl S).f (refCl S).f[b] (by rw [hc.len]; exact hll)
  unfold Cl.first
  rw [if_pos ⟨hr, by omega, hcl⟩, if_pos hll]
  simp only [Int.toNat_natCast]
  exact (ref_lab_iff S hb hll).1 (by rw [hg, List.getElem?_eq_getElem hbl])
theorem tagF_none : ∀ (N : List Bool) (l : List Ns) (t : Int), (∀ i, ¬ On N i) → tagF N l t = t
  | [], l, t, _ => by cases l <;> rfl
  | h :: hs, [], t, _ => rfl
  | h :: hs, x :: xs, t, hn => by
    have h0 : h ≠ true := fun e => hn 0 (by simp [On, e])
    unfold tagF
    rw [if_neg (fun c => h0 c.1)]
    exact tagF_none hs xs t fun i hi => hn (i + 1) (by simpa [On] using hi)
theorem byL_none (b : Nat) : ∀ (N : List Bool) (l : List Ns), (∀ i, ¬ On N i) → byL b N l = []
  | [], l, _ => by cases l <;> rfl
  | h :: hs, [], _ => rfl
  | h :: hs, x :: xs, hn => by
    have h0 : h ≠ true := fun e => hn 0 (by simp [On, e])
    unfold byL
    rw [if_neg (fun c => h0 c.1)]
    exact byL_none b hs xs fun i hi => hn (i + 1) (by simpa [On] using hi)
/-- Where the second machine stands, and the first one. -/
def At (all : List (List Bool)) (now : List Bool) (a : Int) : Prop := (a = -1 ∧ ∀ i, ¬ On now i) ∨ ∃ j : Nat, a = (j : Int) ∧ all[j]? = some now
theorem At.tag {l : List Ns} {all : List (List Bool)} {now : List Bool} {a : Int} (h : At all now a) : dTag (tagL l all) a = tagF now l (-1) := by
  rcases h with ⟨rfl, h⟩ | ⟨j, rfl, h⟩
  · rw [tagF_none now l (-1) h]; rfl
  · unfold dTag
    rw [if_pos (by omega), Int.toNat_natCast, List.getD_eq_getElem?_getD]
    unfold tagL
    rw [List.getElem?_map, h]
    rfl
theorem At.step {l : List Ns} (hl : OkL l) {S : List Q4} (hs : KKS S l) {q : DP}
    (hent : ∀ (j k b : Nat) (N : List Bool), q.1[j]? = some N → (refCl S).firsts[k]? = some b → ∃ x, q.2[j * (refCl S).firsts.length + k]? = some x ∧ EntB l q.1 b N x)
    {now : List Bool} {a : Int} (h : At q.1 now a) {b : Nat} (hb : b < 256) : At q.1 (stepF l b now l (offs l.length)) (dNext (refCl S).m q.2 a (((refCl S).f.getD b 0 : Nat) : Int)) := by
  obtain ⟨k, hk1, hk2, b', hb', hsame⟩ := ref_fst S hb
  have hm : (refCl S).m = (((refCl S).m.toNat : Nat) : Int) := by
    have : 0 ≤ (refCl S).m := by unfold refCl; simp
    omega
  have hke : (refCl S).f.getD b 0 = k := by rw [List.getD_eq_getElem?_getD, hk1]; rfl
  rw [hke]
  rcases h with ⟨rfl, hn⟩ | ⟨j, rfl, hj⟩
  · left
    refine ⟨rfl, (byL_nil hl b now).1 (byL_none b now l hn)⟩
  · obtain ⟨x, hx, hE⟩ := hent j k b' now hj hb'
    have he : byL b now l = byL b' now l := byL_same now l fun y hy hk => hsame _ (hs y hy hk)
    have hd : dNext (refCl S).m q.2 (j : Int) (k : Int) = x := by
      unfold dNext
      rw [if_pos (by omega)]
      have : ((j : Int) * (refCl S).m + (k : Int)).toNat = j * (refCl S).firsts.length + k := by
        rw [firsts_len, hm, ← Int.natCast_mul, ← Int.natCast_add, Int.toNat_natCast, Int.toNat_natCast]
      rw [this, List.getD_eq_getElem?_getD, hx]; rfl
    rw [hd]
    rw [← dst_by hl b now, he]
    rcases hE with ⟨h1, rfl⟩ | ⟨h1, j', rfl, h3⟩
    · left
      refine ⟨rfl, ?_⟩
      have := (byL_nil hl b' now).1 h1
      rw [← dst_by hl b' now] at this
      exact this
    · exact .inr ⟨j', rfl, h3⟩
theorem run_same {l : List Ns} (hl : OkL l) {S : List Q4} (hs : KKS S l) {q : DP}
    (hent : ∀ (j k b : Nat) (N : List Bool), q.1[j]? = some N → (refCl S).firsts[k]? = some b → ∃ x, q.2[j * (refCl S).firsts.length + k]? = some x ∧ EntB l q.1 b N x) :
    ∀ (s : List Nat), (∀ x ∈ s, x < 256) → ∀ {now : List Bool} {a : Int}, At q.1 now a → dGo (refCl S).m q.2 (tagL l q.1) (clTx (refCl S) s) a = runF l s now
  | [], _, now, a, _ => rfl
  | b :: s, hb, now, a, h => by
    have h' := h.step hl hs hent (hb b (by simp))
    simp only [clTx, List.map_cons, dGo, runF]
    rw [h'.tag]
    congr 1
    exact run_same hl hs hent s (fun x hx => hb x (by simp [hx])) h'
theorem dBld_split {st : Int} {l : List Ns} {c : Cl} {m : Int} {d : Dm} (h : dBld st l c m = (d, 0)) : nfRight st l = true ∧ ∃ p : DP, d = (c.m, p.2, tagL l p.1) ∧ (∃ e, p.1 = [dst l [st]] ++ e) ∧
    ∀ (j k b : Nat) (N : List Bool), p.1[j]? = some N → c.firsts[k]? = some b → ∃ x, p.2[j * c.firsts.length + k]? = some x ∧ EntB l p.1 b N x := by
  unfold dBld at h
  split at h
  case isFalse => exact absurd (congrArg Prod.snd h) (by simp)
  rename_i hcd
  split at h
  case h_1 => exact absurd (congrArg Prod.snd h) (by simp)
  rename_i p hp
  obtain ⟨hr, hf, hm1, hm2⟩ := hcd
  have hd : d = (c.m, p.2, tagL l p.1) := by injection h with h; exact h.symm
  obtain ⟨_, he, hent⟩ := dAll_ent hp (by simp; omega) (by simp) (by omega) (by simp)
  exact ⟨hr, p, hd, he, fun j k b N => hent j k b N (Nat.zero_le _)⟩
/-- The stage's theorem: behind a text's classes there are the tags of the first machine. -/
theorem dfa_same {st : Int} {l : List Ns} {S : List Q4} (hs : KKS S l) {m : Int} {d : Dm} (h : dBld st l (clOf S) m = (d, 0)) (s : List Nat) (hb : ∀ x ∈ s, x < 256) :
    dRun d.1 d.2.1 d.2.2 (clTx (clOf S) s) = (nfRun st l s, 0) := by
  have hc : (clOf S).ok := clOf_ok _ _ (zCl_ok (by omega) (by omega))
  obtain ⟨d1, _⟩ := dBld_ok hc h
  obtain ⟨hr, p, hd, ⟨e, he⟩, hent⟩ := dBld_split h
  obtain ⟨hl, hst0, hst1, _, _⟩ := okL_of_right hr
  subst hd
  rw [clOf_ref] at d1 hent ⊢
  have hin : ∀ x ∈ clTx (refCl S) s, 0 ≤ x ∧ x < (refCl S).m := by
    intro x hx
    simp only [clTx, List.mem_map] at hx
    obtain ⟨b, hbs, rfl⟩ := hx
    obtain ⟨k, hk1, hk2, _⟩ := ref_fst S (hb b hbs)
    rw [List.getD_eq_getElem?_getD, hk1]
    simp only [Option.getD_some]
    omega
  have hA : At p.1 (come l st (offs l.length)) 0 := by
    refine .inr ⟨0, rfl, ?_⟩
    rw [he, ← dst_begin hl hst0 hst1]
    rfl
  have e1 : dTag (tagL l p.1) 0 = tagF (come l st (offs l.length)) l (-1) := hA.tag
  have e2 := run_same hl hs hent s hb hA
  unfold dRun
  rw [if_pos ⟨d1, by unfold inCs; rw [List.all_eq_true]; exact fun x hx => decide_eq_true (hin x hx)⟩]
  simp only
  rw [e1, e2]
  rfl
end Fk
set_option linter.unusedVariables false
set_option linter.unusedSimpArgs false
namespace Fk
open Go Go.Proofs Go.RowKit
/-- A piece of a text. -/
def seg (t : List Nat) (i j : Nat) : List Nat := (t.drop i).take (j - i)
theorem seg_nil {t : List Nat} {i j : Nat} (h : i ≤ j) (hj : j ≤ t.length) : seg t i j = [] ↔ i = j := by
  unfold seg
  constructor
  · intro e
    have := congrArg List.length e
    simp at this
    omega
  · rintro rfl; simp
theorem seg_len {t : List Nat} {i j : Nat} (h : i ≤ j) (hj : j ≤ t.length) : (seg t i j).length = j - i := by
  unfold seg; simp; omega
theorem seg_cat {t : List Nat} {i j k : Nat} (h : i ≤ k) (h2 : k ≤ j) : seg t i j = seg t i k ++ seg t k j := by
  unfold seg
  rw [show j - i = (k - i) + (j - k) by omega, List.take_add, List.drop_drop, show i + (k - i) = k by omega]
theorem seg_split {t : List Nat} {i j : Nat} (h : i ≤ j) (hj : j ≤ t.length) {v w : List Nat} (e : seg t i j = v ++ w) : ∃ k, i ≤ k ∧ k ≤ j ∧ v = seg t i k ∧ w = seg t k j := by
  have hl := seg_len h hj
  rw [e, List.length_append] at hl
  refine ⟨i + v.length, by omega, by omega, ?_, ?_⟩
  · have e2 := seg_cat (t := t) (i := i) (j := j) (k := i + v.length) (by omega) (by omega)
    rw [e] at e2
    exact (List.append_inj e2 (by rw [seg_len (by omega) (by omega)]; omega)).1
  · have e2 := seg_cat (t := t) (i := i) (j := j) (k := i + v.length) (by omega) (by omega)
    rw [e] at e2
    exact (List.append_inj e2 (by rw [seg_len (by omega) (by omega)]; omega)).2
/-- These bits are the pieces that a language has. -/
structure RelIs (t : List Nat) (R : List Nat) (La : List Nat → Prop) : Prop where
  len : R.length = t.length + 1
  lt : ∀ x ∈ R, x < 2 ^ 64
  bit : ∀ i (hi : i < R.length) j, (R[i].testBit j = true ↔ i ≤ j ∧ j ≤ t.length ∧ La (seg t i j))
theorem RelIs.congr {t R : List Nat} {La Lb : List Nat → Prop} (h : RelIs t R La) (hi : ∀ u, La u ↔ Lb u) : RelIs t R Lb := by
  have : La = Lb := funext fun u => propext (hi u)
  rw [← this]; exact h
def noneR (n : Nat) : List Nat := List.replicate (n + 1) 0
def stillR (n : Nat) : List Nat := (List.range (n + 1)).map (2 ^ ·)
def orB (x : Nat) : List Nat → Nat → Nat → Nat
  | [], _, acc => acc
  | y :: ys, k, acc => orB x ys (k + 1) (if x.testBit k = true then acc ||| y else acc)
def thenR (a b : List Nat) : List Nat := a.map fun x => orB x b 0 0
def orR (a b : List Nat) : List Nat := List.zipWith (· ||| ·) a b
def powR (n : Nat) (a : List Nat) : Nat → List Nat
  | 0 => stillR n
  | k + 1 => thenR (powR n a k) a
theorem none_is (t : List Nat) : RelIs t (noneR t.length) (fun _ => False) :=
  ⟨by simp [noneR], fun x hx => by simp [noneR] at hx; subst hx; decide, fun i hi j => by simp [noneR]⟩
theorem still_is (t : List Nat) (ht : t.length < 63) : RelIs t (stillR t.length) (fun u => u = []) := by
  refine ⟨by simp [stillR], fun x hx => ?_, fun i hi j => ?_⟩
  · simp only [stillR, List.mem_map, List.mem_range] at hx
    obtain ⟨k, hk, rfl⟩ := hx
    exact Nat.pow_lt_pow_right (by decide) (by omega)
  · simp only [stillR, List.length_map, List.length_range] at hi
    simp only [stillR, List.getElem_map, List.getElem_range, Nat.testBit_two_pow, decide_eq_true_eq]
    constructor
    · rintro rfl; exact ⟨Nat.le_refl _, by omega, (seg_nil (Nat.le_refl _) (by omega)).2 rfl⟩
    · rintro ⟨h1, h2, h3⟩; exact (seg_nil h1 h2).1 h3
theorem orB_bit (x j : Nat) : ∀ (b : List Nat) (k acc : Nat), ((orB x b k acc).testBit j = true ↔ acc.testBit j = true ∨ ∃ m, ∃ h : m < b.length, x.testBit (k + m) = true ∧ b[m].testBit j = true)
  | [], k, acc => by simp [orB]
  | y :: ys, k, acc => by
    unfold orB
    rw [orB_bit x j ys (k + 1)]
    constructor
    · rintro (h | ⟨m, hm, h1, h2⟩)
      · split at h
        · rename_i hx
          rw [Nat.testBit_or, Bool.or_eq_true] at h
          rcases h with h | h
          · exact .inl h
          · exact .inr ⟨0, by simp, by simpa using hx, by simpa using h⟩
        · exact .inl h
      · exact .inr ⟨m + 1, by simpa using hm, by rw [show k + (m + 1) = k + 1 + m by omega]; exact h1, by simpa using h2⟩
    · rintro (h | ⟨m, hm, h1, h2⟩)
      · left
        split
        · rw [Nat.testBit_or, h]; rfl
        · exact h
      · cases m with
        | zero =>
          left
          simp at h1 h2
          rw [if_pos h1, Nat.testBit_or, h2, Bool.or_true]
        | succ m => exact .inr ⟨m, by simpa using hm, by rw [show k + 1 + m = k + (m + 1) by omega]; exact h1, by simpa using h2⟩
theorem orB_lt (x : Nat) : ∀ (b : List Nat) (k acc : Nat), (∀ y ∈ b, y < 2 ^ 64) → acc < 2 ^ 64 → orB x b k acc < 2 ^ 64
  | [], k, acc, _, h => h
  | y :: ys, k, acc, hb, h => by
    unfold orB
    refine orB_lt x ys _ _ (fun z hz => hb z (by simp [hz])) ?_
    split
    · exact Nat.or_lt_two_pow h (hb y (by simp))
    · exact h
theorem then_is {t a b : List Nat} {La Lb : List Nat → Prop} (ha : RelIs t a La) (hb : RelIs t b Lb) : RelIs t (thenR a b) (fun u => ∃ v w, u = v ++ w ∧ La v ∧ Lb w) := by
  refine ⟨by simp [thenR, ha.len], fun x hx => ?_, fun i hi j => ?_⟩
  · simp only [thenR, List.mem_map] at hx
    obtain ⟨y, hy, rfl⟩ := hx
    exact orB_lt _ _ _ _ hb.lt (by decide)
  · simp only [thenR, List.length_map] at hi
    simp only [thenR, List.getElem_map]
    rw [orB_bit]
    simp only [Nat.zero_testBit, Bool.false_eq_true, false_or, Nat.zero_add]
    constructor
    · rintro ⟨m, hm, h1, h2⟩
      obtain ⟨g1, g2, g3⟩ := (ha.bit i hi m).1 h1
      obtain ⟨g4, g5, g6⟩ := (hb.bit m hm j).1 h2
      exact ⟨by omega, g5, _, _, seg_cat g1 g4, g3, g6⟩
    · rintro ⟨h1, h2, v, w, e, hv, hw⟩
      obtain ⟨k, k1, k2, rfl, rfl⟩ := seg_split h1 h2 e
      have hkb : k < b.length := by rw [hb.len]; omega
      exact ⟨k, hkb, (ha.bit i hi k).2 ⟨k1, by omega, hv⟩, (hb.bit k hkb j).2 ⟨k2, h2, hw⟩⟩
theorem or_is {t a b : List Nat} {La Lb : List Nat → Prop} (ha : RelIs t a La) (hb : RelIs t b Lb) : RelIs t (orR a b) (fun u => La u ∨ Lb u) := by
  have hl : (orR a b).length = t.length + 1 := by simp [orR, ha.len, hb.len]
  refine ⟨hl, fun x hx => ?_, fun i hi j => ?_⟩
  · obtain ⟨i, hi, rfl⟩ := List.getElem_of_mem hx
    simp only [orR, List.getElem_zipWith]
    exact Nat.or_lt_two_pow (ha.lt _ (List.getElem_mem _)) (hb.lt _ (List.getElem_mem _))
  · have h1 : i < a.length := by rw [ha.len]; omega
    have h2 : i < b.length := by rw [hb.len]; omega
    simp only [orR, List.getElem_zipWith]
    rw [Nat.testBit_or, Bool.or_eq_true, ha.bit i h1 j, hb.bit i h2 j]
    constructor
    · rintro (⟨g1, g2, g3⟩ | ⟨g1, g2, g3⟩)
      · exact ⟨g1, g2, .inl g3⟩
      · exact ⟨g1, g2, .inr g3⟩
    · rintro ⟨g1, g2, g3 | g3⟩
      · exact .inl ⟨g1, g2, g3⟩
      · exact .inr ⟨g1, g2, g3⟩
/-- So many pieces, one behind the other. -/
def PowL (La : List Nat → Prop) : Nat → List Nat → Prop
  | 0, u => u = []
  | k + 1, u => ∃ v w, u = v ++ w ∧ PowL La k v ∧ La w
theorem pow_is {t a : List Nat} {La : List Nat → Prop} (ht : t.length < 63) (ha : RelIs t a La) : ∀ k, RelIs t (powR t.length a k) (PowL La k)
  | 0 => still_is t ht
  | k + 1 => then_is (pow_is ht ha k) ha
theorem StarL.snoc {La : List Nat → Prop} {u v : List Nat} (h : StarL La u) (hv : La v) : StarL La (u ++ v) := by
  induction h with
  | nil => have := StarL.app hv .nil; simpa using this
  | app h1 _ ih => rw [List.append_assoc]; exact .app h1 ih
theorem PowL.cons {La : List Nat → Prop} {v : List Nat} (hv : La v) : ∀ {k : Nat} {u : List Nat}, PowL La k u → PowL La (k + 1) (v ++ u)
  | 0, u, h => by
    have h : u = [] := h
    subst h
    exact ⟨[], v, by simp, rfl, hv⟩
  | k + 1, u, h => by
    obtain ⟨x, w, rfl, hx, hw⟩ := h
    exact ⟨v ++ x, w, by rw [List.append_assoc], PowL.cons hv hx, hw⟩
theorem pow_eps {La : List Nat → Prop} {u : List Nat} : ∀ {k : Nat}, PowL (fun x => La x ∨ x = []) k u → ∀ m, k ≤ m → PowL (fun x => La x ∨ x = []) m u := by
  intro k h m hm
  induction m with
  | zero =>
    have : k = 0 := by omega
    subst this; exact h
  | succ m ih =>
    by_cases c : k ≤ m
    · exact ⟨u, [], by simp, ih c, .inr rfl⟩
    · have : k = m + 1 := by omega
      subst this; exact h
theorem star_pow {La : List Nat → Prop} {u : List Nat} (m : Nat) (hu : u.length ≤ m) : StarL La u ↔ PowL (fun x => La x ∨ x = []) m u := by
  constructor
  · intro h
    refine pow_eps (k := u.length) ?_ m hu
    clear hu
    induction h with
    | nil => rfl
    | @app v w hv _ ih =>
      rw [List.length_append]
      cases v with
      | nil => simpa using ih
      | cons x v =>
        have := PowL.cons (La := fun x => La x ∨ x = []) (.inl hv) ih
        exact pow_eps this _ (by simp; omega)
  · intro h
    clear hu
    induction m generalizing u with
    | zero =>
      have h : u = [] := h
      subst h; exact .nil
    | succ m ih =>
      obtain ⟨v, w, rfl, hv, hw⟩ := h
      rcases hw with hw | rfl
      · exact (ih hv).snoc hw
      · rw [List.append_nil]; exact ih hv
end Fk
set_option linter.unusedVariables false
set_option linter.unusedSimpArgs false
set_option maxRecDepth 100000
set_option maxHeartbeats 2000000
namespace Fk
open Go Go.Proofs Go.RowKit
def uE (x : Nat) : List Value := [.int .u64 (x : Int)]
theorem encuE : Enc 1 uE := ⟨fun _ => rfl, by intro x v hv; simp [uE] at hv; subst hv; rfl⟩
theorem uE_map (l : List Nat) : l.flatMap uE = l.map fun x : Nat => Value.int .u64 (x : Int) := by
  induction l with
  | nil => rfl
  | cons x l ih => rw [List.flatMap_cons, ih]; rfl
theorem madeU (m : Nat) (w : World) (hm : m < 2 ^ 20) : ∃ w', (Instr.makeSlice 84 (.int .i64 (m : Int)) (.int .i64 (m : Int))).run Try.prog w = .ok (.slice (some ⟨w.heap.size, 0, none⟩) m m) w' ∧ OwnL w' w.heap.size 26 1 uE (some ⟨w.heap.size, 0, none⟩) m (List.replicate m 0) ∧ Md [] w w' := by
  have h4 : (Try.prog.info? 26).isSome = true := by kernel_rfl
  obtain ⟨i4, hi4⟩ := Option.isSome_iff_exists.1 h4
  have hz4 : (Try.prog.info? 26).bind (·.zero) = some (.int .u64 0) := by kernel_rfl
  have hs4 : (Try.prog.info? 26).map (fun i => (i.size, i.bytes)) = some (1, 8) := by kernel_rfl
  rw [hi4] at hz4 hs4
  simp only [Option.bind_some, Option.map_some, Option.some.injEq, Prod.mk.injEq] at hz4 hs4
  obtain ⟨w3, hrun, hown, hgr⟩ := run_makeSlice_full (P := Try.prog) w w.heap.size 84 26 i4 (.int .u64 0) 1 (by kernel_rfl) hi4 hz4 hs4.1 .i64 .i64 m (by omega) (by rw [hs4.2]; omega) (by simp [maxLen]; omega) (Nat.le_refl _)
  refine ⟨w3, hrun, ?_, Md_of_grown hgr⟩
  have hmc : (madeCells (Value.int .u64 0).cells (m * 1)).toList = (List.replicate m 0).flatMap uE := by
    rw [uE_map, List.map_replicate, Nat.mul_one]
    exact toList_madeCells_one _ m
  unfold OwnL
  rw [← hmc, List.length_replicate]; exact hown
theorem bitN (x j : Nat) (hj : j < 64) : (IntKind.wrap .u64 ((BitVec.toNat (BitVec.ofInt 64 (Int.fdiv (x : Int) (2 ^ min (Int.toNat (j : Int)) 64)) &&& BitVec.ofInt 64 1) : Nat) : Int) == 1) = x.testBit j := by
  rw [u64_and, bit_and_one, Int.toNat_natCast, Nat.min_eq_left (by omega), Int.fdiv_eq_ediv_of_nonneg _ (Int.pow_nonneg (by decide))]
  have h1 : (2 : Int) ^ j = ((2 ^ j : Nat) : Int) := by simp
  rw [h1]
  have h2 : ((x : Int) / ((2 ^ j : Nat) : Int)) % 2 = ((x / 2 ^ j % 2 : Nat) : Int) := by omega
  rw [h2, Nat.testBit_eq_decide_div_mod_eq, Bool.eq_iff_iff]
  generalize x / 2 ^ j % 2 = m
  simp
  omega
theorem orN (x y : Nat) (hx : x < 2 ^ 64) (hy : y < 2 ^ 64) : IntKind.wrap .u64 ((BitVec.toNat (BitVec.ofInt 64 (x : Int) ||| BitVec.ofInt 64 (y : Int)) : Nat) : Int) = ((x ||| y : Nat) : Int) := by
  have h : x ||| y < 2 ^ 64 := Nat.or_lt_two_pow hx hy
  have e : BitVec.toNat (BitVec.ofInt 64 (x : Int) ||| BitVec.ofInt 64 (y : Int)) = x ||| y := by
    rw [BitVec.toNat_or, BitVec.ofInt_natCast, BitVec.ofInt_natCast, BitVec.toNat_ofNat, BitVec.toNat_ofNat, Nat.mod_eq_of_lt hx, Nat.mod_eq_of_lt hy]
  rw [e, IntKind.wrap_u64]
  generalize x ||| y = m at *
  omega
theorem powN (j : Nat) (hj : j < 64) : IntKind.wrap .u64 (1 * 2 ^ min (Int.toNat (j : Int)) 64) = ((2 ^ j : Nat) : Int) := by
  have h2 : 2 ^ j < 2 ^ 64 := Nat.pow_lt_pow_right (by decide) hj
  have h1 : (2 : Int) ^ j = ((2 ^ j : Nat) : Int) := by simp
  rw [Int.toNat_natCast, Nat.min_eq_left (by omega), Int.one_mul, h1, IntKind.wrap_u64]
  generalize 2 ^ j = m at *
  omega
theorem f75_ok (R : List Nat) (A : Option Addr) (C i j : Nat) (hi : i < R.length) (hj : j < 64) (w : World) (hr : RowAt w A 1 uE R) : Ct Try.prog 75 #[.slice A R.length C, .int .i64 i, .int .i64 j] w fun v w' => v = .bool (R[i].testBit j) ∧ Md [] w w' := by
  apply f75_in
  refine ⟨hr.ix hi, hr.ld1 hi rfl <| opI_in ⟨by omega, Bd_in fun x3 h3 => Bd_in fun x4 h4 => Bd_in fun b5 h5 => ⟨?_, Md.refl _ _⟩⟩⟩
  rw [h5, h4, h3, bitN _ _ hj]
theorem f174_ok (n : Nat) (hn : n < 2 ^ 19) (w : World) : Ct Try.prog 174 #[.int .i64 n] w fun v w' => (∃ a c, v = .slice a (noneR n).length c ∧ OwnL w' w.heap.size 26 1 uE a c (noneR n)) ∧ Md [] w w' := by
  apply f174_in
  obtain ⟨w', h1, h2, h3⟩ := madeU (n + 1) w (by omega)
  refine Bd_e (y := ((n + 1 : Nat) : Int)) (by rw [IntKind.wrap_i64]; omega) <| RunW_in h1 (fun b hb => by simp at hb) <| opL_in ⟨⟨_, n + 1, ?_, h2⟩, h3⟩
  simp [noneR]
theorem still_get {n i : Nat} (h : i ≤ n) : (stillR n)[i]? = some (2 ^ i) := by
  unfold stillR
  rw [List.getElem?_map, List.getElem?_range (by omega)]
  rfl
theorem f175_ok (n : Nat) (hn : n < 63) (w : World) : Ct Try.prog 175 #[.int .i64 n] w fun v w' => (∃ a c, v = .slice a (stillR n).length c ∧ OwnL w' w.heap.size 26 1 uE a c (stillR n)) ∧ Md [] w w' := by
  apply f175_in
  refine (f174_ok n (by omega) w).call (by simp) ?_
  rintro v w2 ⟨a, c, rfl, own⟩ m2
  have hl : (noneR n).length = n + 1 := by simp [noneR]
  refine opL_in <| Bd_e rfl ?_
  refine LoopP_in (fun mm us vs w' => ∃ (i : Nat) (O : List Nat), us = [.int .i64 i] ∧ mm = n + 1 - i ∧ i ≤ n + 1 ∧ O.length = n + 1 ∧ (∀ j, j < i → O[j]? = some (2 ^ j)) ∧ OwnL w' w.heap.size 26 1 uE a c O ∧ Md [] w w') (n + 1)
    ⟨0, noneR n, rfl, rfl, by omega, hl, fun j hj => by omega, own, m2⟩ ?_
  rintro mm us vs w10 ⟨i, O, rfl, hmm, hi, hO, hOj, ho, hmd⟩
  refine opI_in <| Bd_in fun b12 hb12 => If_in (fun hb => ?_) fun hb => ?_
  · have hi' : i < n + 1 := by rw [hb12, hl] at hb; have := of_decide_eq_true hb; omega
    have hix := (ho.row encuE).ix (i := i) (by omega)
    rw [hO] at hix
    obtain ⟨A, hA, p1, p2, p3, p4, p5, p6⟩ := ho.put encuE (by omega) (i := i) (by omega) (2 ^ i)
    rw [hl]
    refine ⟨by omega, Bd_e (powN i (by omega)) ⟨hix, by simp, p4, Bd_e (inc_i64 (by omega)) ⟨n + 1 - (i + 1), by omega, i + 1, O.set i (2 ^ i), rfl, rfl, by omega, by simp [hO], fun j hj => ?_, p5, hmd.old p6 (by simpa using p2)⟩⟩⟩
    by_cases hji : j = i
    · subst hji; rw [List.getElem?_set_self (by omega)]
    · rw [List.getElem?_set_ne (by omega)]; exact hOj j (by omega)
  · have hif : i = n + 1 := by rw [hb12, hl] at hb; have := of_decide_eq_false hb; omega
    subst hif
    have e : O = stillR n := by
      apply List.ext_getElem?
      intro j
      by_cases hj : j < n + 1
      · rw [hOj j hj, still_get (by omega)]
      · rw [List.getElem?_eq_none (by omega), List.getElem?_eq_none (by simp [stillR]; omega)]
    subst e
    refine ⟨⟨a, c, ?_, ho⟩, hmd⟩
    rw [hl, hO]
theorem thenR_len (a b : List Nat) : (thenR a b).length = a.length := by simp [thenR]
theorem set_grow {l X : List Nat} {i : Nat} {x : Nat} (hl : l.length = X.length) (hi : i < X.length) (h : ∀ j, j < i → l[j]? = X[j]?) (hx : X[i]? = some x) : ∀ j, j < i + 1 → (l.set i x)[j]? = X[j]? := by
  intro j hj
  by_cases c : j = i
  · subst c; rw [List.getElem?_set_self (by omega), hx]
  · rw [List.getElem?_set_ne (by omega)]; exact h j (by omega)
theorem f176_ok (a b : List Nat) (A B : Option Addr) (C D : Nat) (ha : a.length ≤ 63) (hb : b.length ≤ 63) (hb64 : ∀ y ∈ b, y < 2 ^ 64) (w : World) (hA : RowAt w A 1 uE a) (hB : RowAt w B 1 uE b) :
    Ct Try.prog 176 #[.slice A a.length C, .slice B b.length D] w fun v w' => (∃ x c, v = .slice x (thenR a b).length c ∧ OwnL w' w.heap.size 26 1 uE x c (thenR a b)) ∧ Md [] w w' := by
  apply f176_in
  obtain ⟨w3, h1, h2, h3⟩ := madeU a.length w (by omega)
  refine Bd_e rfl <| RunW_in h1 (fun b hb => by simp at hb) <| opL_in <| Bd_e rfl ?_
  generalize hx0 : (some (Addr.mk w.heap.size 0 none)) = x0 at *
  refine LoopP_in (fun mm us vs w' => ∃ (i : Nat) (O : List Nat), us = [.int .i64 i] ∧ mm = a.length - i ∧ i ≤ a.length ∧ O.length = a.length ∧ (∀ j, j < i → O[j]? = (thenR a b)[j]?) ∧ (∀ j, i ≤ j → j < a.length → O[j]? = some 0) ∧ OwnL w' w.heap.size 26 1 uE x0 a.length O ∧ Md [] w w') a.length
    ⟨0, List.replicate a.length 0, rfl, rfl, by omega, by simp, fun j hj => by omega, fun j _ hj => by simp [hj], h2, h3⟩ ?_
  rintro mm us vs w11 ⟨i, O, rfl, hmm, hi, hO, hOj, hO0, ho, hmd⟩
  refine opI_in <| Bd_in fun b13 hb13 => If_in (fun hb => ?_) fun hb => ?_
  case refine_2 =>
    have hif : i = a.length := by rw [hb13] at hb; have := of_decide_eq_false hb; omega
    subst hif
    have e : O = thenR a b := by
      apply List.ext_getElem?
      intro j
      by_cases hj : j < a.length
      · exact hOj j hj
      · rw [List.getElem?_eq_none (by omega), List.getElem?_eq_none (by rw [thenR_len]; omega)]
    subst e
    refine ⟨⟨x0, a.length, ?_, ho⟩, hmd⟩
    rw [thenR_len]
  have hia : i < a.length := by rw [hb13] at hb; have := of_decide_eq_true hb; omega
  refine ⟨hA.ix hia, (hA.md hmd).ld1 hia rfl <| opI_in <| Bd_e rfl ?_⟩
  refine LoopP_in (fun mm us vs w' => ∃ (k acc : Nat), us = [.int .i64 k] ∧ mm = b.length - k ∧ k ≤ b.length ∧ orB a[i] (b.drop k) k acc = orB a[i] b 0 0 ∧ acc < 2 ^ 64 ∧ OwnL w' w.heap.size 26 1 uE x0 a.length (O.set i acc) ∧ Md [] w w') b.length
    ⟨0, 0, rfl, rfl, by omega, by simp, by decide, ?_, hmd⟩ ?_
  · have : O.set i 0 = O := by
      apply List.ext_getElem?
      intro j
      rw [List.getElem?_set]
      split
      · rename_i e; subst e
        rw [if_pos (by omega), hO0 i (Nat.le_refl _) hia]
      · rfl
    rw [this]; exact ho
  rintro mm us vs w20 ⟨k, acc, rfl, hmm2, hk, hc, hacc, hown, hmd2⟩
  refine opI_in <| Bd_in fun b22 hb22 => If_in (fun hb => ?_) fun hb => ?_
  · have hkb : k < b.length := by rw [hb22] at hb; have := of_decide_eq_true hb; omega
    have hy := hb64 _ (List.getElem_mem hkb)
    rw [List.drop_eq_getElem_cons hkb] at hc
    refine Jn_in (fun us vs w' => ∃ (x y : Int) (acc' : Nat), us = [.int .i64 x, .int .u64 y] ∧ orB a[i] (b.drop (k + 1)) (k + 1) acc' = orB a[i] b 0 0 ∧ acc' < 2 ^ 64 ∧ OwnL w' w.heap.size 26 1 uE x0 a.length (O.set i acc') ∧ Md [] w w') ?_ ?_
    · rintro us vs w25 ⟨x, y, acc', rfl, q1, q2, q3, q4⟩
      exact opI_in <| opI_in <| Bd_e (inc_i64 (by omega)) ⟨b.length - (k + 1), by omega, k + 1, acc', rfl, rfl, by omega, q1, q2, q3, q4⟩
    refine ⟨hB.ix hkb, (hB.md hmd2).ld1 hkb rfl <| opI_in ⟨by omega, Bd_in fun x32 h32 => Bd_in fun x33 h33 => Bd_in fun b34 h34 => ?_⟩⟩
    have e34 : b34 = a[i].testBit k := by rw [h34, h33, h32, bitN _ _ (by omega)]
    rw [show orB a[i] (b[k] :: b.drop (k + 1)) k acc = orB a[i] (b.drop (k + 1)) (k + 1) (if a[i].testBit k = true then acc ||| b[k] else acc) from rfl] at hc
    have hlen : (O.set i acc).length = a.length := by simp [hO]
    have hii : i < (O.set i acc).length := by omega
    have hix := (hown.row encuE).ix hii
    rw [hlen] at hix
    refine If_in (fun hb => ?_) fun hb => ?_
    · rw [e34] at hb
      rw [if_pos hb] at hc
      refine ⟨hix, (hown.row encuE).ld1 hii (v := .int .u64 (acc : Int)) (by simp [uE]) <| opI_in <| Bd_e (orN acc b[k] hacc hy) ⟨hix, by simp, ?_⟩⟩
      obtain ⟨A', hA', p1, p2, p3, p4, p5, p6⟩ := hown.put encuE (by omega) hii (acc ||| b[k])
      rw [List.set_set] at p5
      exact ⟨p4, _, _, _, rfl, hc, Nat.or_lt_two_pow hacc hy, p5, hmd2.old p6 (by simpa using p2)⟩
    · rw [e34] at hb
      rw [if_neg (by rw [hb]; simp)] at hc
      exact ⟨_, _, acc, rfl, hc, hacc, hown, hmd2⟩
  · have hkf : k = b.length := by rw [hb22] at hb; have := of_decide_eq_false hb; omega
    subst hkf
    rw [List.drop_of_length_le (Nat.le_refl _)] at hc
    have hc : acc = orB a[i] b 0 0 := hc
    have hgi : (thenR a b)[i]? = some acc := by simp [thenR, hia, hc]
    refine Bd_e (inc_i64 (by omega)) ⟨a.length - (i + 1), by omega, i + 1, O.set i acc, rfl, rfl, by omega, by simp [hO], set_grow (by rw [thenR_len]; exact hO) (by rw [thenR_len]; exact hia) hOj hgi, fun j h1 h2 => ?_, hown, hmd2⟩
    rw [List.getElem?_set_ne (by omega)]
    exact hO0 j (by omega) h2
theorem f177_ok (a b : List Nat) (A B : Option Addr) (C D : Nat) (ha : a.length ≤ 63) (hab : b.length = a.length) (ha64 : ∀ y ∈ a, y < 2 ^ 64) (hb64 : ∀ y ∈ b, y < 2 ^ 64) (w : World) (hA : RowAt w A 1 uE a) (hB : RowAt w B 1 uE b) :
    Ct Try.prog 177 #[.slice A a.length C, .slice B b.length D] w fun v w' => (∃ x c, v = .slice x (orR a b).length c ∧ OwnL w' w.heap.size 26 1 uE x c (orR a b)) ∧ Md [] w w' := by
  apply f177_in
  obtain ⟨w3, h1, h2, h3⟩ := madeU a.length w (by omega)
  have hol : (orR a b).length = a.length := by simp [orR, hab]
  refine Bd_e rfl <| RunW_in h1 (fun b hb => by simp at hb) <| opL_in <| Bd_e rfl ?_
  generalize hx0 : (some (Addr.mk w.heap.size 0 none)) = x0 at *
  refine LoopP_in (fun mm us vs w' => ∃ (i : Nat) (O : List Nat), us = [.int .i64 i] ∧ mm = a.length - i ∧ i ≤ a.length ∧ O.length = a.length ∧ (∀ j, j < i → O[j]? = (orR a b)[j]?) ∧ OwnL w' w.heap.size 26 1 uE x0 a.length O ∧ Md [] w w') a.length
    ⟨0, List.replicate a.length 0, rfl, rfl, by omega, by simp, fun j hj => by omega, h2, h3⟩ ?_
  rintro mm us vs w11 ⟨i, O, rfl, hmm, hi, hO, hOj, ho, hmd⟩
  refine opI_in <| Bd_in fun b13 hb13 => If_in (fun hb => ?_) fun hb => ?_
  case refine_2 =>
    have hif : i = a.length := by rw [hb13] at hb; have := of_decide_eq_false hb; omega
    subst hif
    have e : O = orR a b := by
      apply List.ext_getElem?
      intro j
      by_cases hj : j < a.length
      · exact hOj j hj
      · rw [List.getElem?_eq_none (by omega), List.getElem?_eq_none (by omega)]
    subst e
    refine ⟨⟨x0, a.length, by rw [hol], ho⟩, hmd⟩
  have hia : i < a.length := by rw [hb13] at hb; have := of_decide_eq_true hb; omega
  have hib : i < b.length := by omega
  have hx := ha64 _ (List.getElem_mem hia)
  have hy := hb64 _ (List.getElem_mem hib)
  have md := hmd.trans (Md_drew w11)
  have ho' := ho.md (Md_drew w11)
  have hix := (ho'.row encuE).ix (i := i) (by omega)
  rw [hO] at hix
  have hgi : (orR a b)[i]? = some (a[i] ||| b[i]) := by rw [List.getElem?_eq_getElem (by rw [hol]; exact hia)]; simp [orR]
  obtain ⟨A', hA', p1, p2, p3, p4, p5, p6⟩ := ho'.put encuE (by omega) (i := i) (by omega) (a[i] ||| b[i])
  have fin : ∃ m', m' < mm ∧ ∃ (i' : Nat) (O : List Nat), [Value.int .i64 ((i + 1 : Nat) : Int)] = [.int .i64 i'] ∧ m' = a.length - i' ∧ i' ≤ a.length ∧ O.length = a.length ∧ (∀ j, j < i' → O[j]? = (orR a b)[j]?) ∧ OwnL (setCells w11.drew (adAt x0 (i : Int) 1) 0 (uE (a[i] ||| b[i]))) w.heap.size 26 1 uE x0 a.length O ∧ Md [] w (setCells w11.drew (adAt x0 (i : Int) 1) 0 (uE (a[i] ||| b[i]))) :=
    ⟨a.length - (i + 1), by omega, i + 1, _, rfl, rfl, by omega, by simp [hO], set_grow (by rw [hol]; exact hO) (by rw [hol]; exact hia) hOj hgi, p5, md.old p6 (by simpa using p2)⟩
  refine ⟨hA.ix hia, hB.ix hib, (hA.md md).ld1 hia rfl <| opI_in <| (hB.md md).ld1 hib rfl <| opI_in <| Bd_e (orN _ _ hx hy) ⟨hix, by simp, p4, Bd_e (inc_i64 (by omega)) fin⟩, (hB.md md).ld1 hib rfl <| opI_in <| (hA.md md).ld1 hia rfl <| opI_in <| Bd_e (orN _ _ hx hy) ⟨hix, by simp, p4, Bd_e (inc_i64 (by omega)) fin⟩⟩
theorem f178_ok (n : Nat) (a : List Nat) (A : Option Addr) (C m : Nat) (hn : n < 60) (ha : a.length = n + 1) (ha64 : ∀ y ∈ a, y < 2 ^ 64) (hm : m ≤ n + 2) (w : World) (hA : RowAt w A 1 uE a) :
    Ct Try.prog 178 #[.slice A a.length C, .int .i64 m] w fun v w' => (∃ x c, v = .slice x (powR n a m).length c ∧ OwnL w' w.heap.size 26 1 uE x c (powR n a m)) ∧ Md [] w w' := by
  apply f178_in
  refine Bd_e rfl <| Bd_e (y := (n : Int)) (by rw [IntKind.wrap_i64]; omega) ?_
  refine (f175_ok n (by omega) w).call (by simp) ?_
  rintro v w4 ⟨x, c, rfl, own⟩ m4
  have hpl : ∀ k, (powR n a k).length = n + 1 := fun k => by
    induction k with
    | zero => simp [powR, stillR]
    | succ k ih => rw [powR, thenR_len, ih]
  refine opL_in <| Bd_e rfl <| Bd_e (y := ((n + 2 : Nat) : Int)) (by rw [IntKind.wrap_i64]; omega) <| Bd_e (y := (m : Int)) (by split <;> omega) ?_
  refine LoopP_in (fun mm us vs w' => ∃ (k : Nat) (x : Option Addr) (c : Nat), us = [.slice x (powR n a k).length c, .int .i64 k] ∧ mm = m - k ∧ k ≤ m ∧ OwnL w' w.heap.size 26 1 uE x c (powR n a k) ∧ Md [] w w') m
    ⟨0, x, c, rfl, rfl, by omega, own, m4⟩ ?_
  rintro mm us vs w14 ⟨k, x, c, rfl, hmm, hk, ho, hmd⟩
  refine opL_in <| opI_in <| Bd_in fun b19 hb19 => If_in (fun hb => ?_) fun hb => ?_
  · have hkm : k < m := by rw [hb19] at hb; have := of_decide_eq_true hb; omega
    refine (f176_ok (powR n a k) a x A c C (by rw [hpl]; omega) (by omega) ha64 w14 (ho.row encuE) (hA.md hmd)).call (by simp) ?_
    rintro v w21 ⟨x2, c2, rfl, own2⟩ m21
    exact opL_in <| Bd_e (inc_i64 (by omega)) ⟨m - (k + 1), by omega, k + 1, x2, c2, rfl, rfl, by omega, own2.down hmd.size, hmd.trans m21⟩
  · have hkm : k = m := by rw [hb19] at hb; have := of_decide_eq_false hb; omega
    subst hkm
    exact ⟨⟨x, c, rfl, ho⟩, hmd⟩
end Fk
set_option linter.unusedVariables false
set_option linter.unusedSimpArgs false
set_option maxRecDepth 100000
set_option maxHeartbeats 2000000
namespace Fk
open Go Go.Proofs Go.RowKit
theorem set_is {t : List Nat} (ht : t.length < 62) {q : Q4} {O : List Nat} (hO : O.length = t.length + 1) (h : ∀ j (hj : j < t.length), O[j]? = some (if inQ q t[j] = true then 2 ^ (j + 1) else 0)) (hl : O[t.length]? = some 0) : RelIs t O (fun u => ∃ x, u = [x] ∧ inQ q x = true) := by
  have hg : ∀ i (hi : i < O.length), i < t.length ∧ (∃ hj : i < t.length, O[i] = if inQ q t[i] = true then 2 ^ (i + 1) else 0) ∨ (i = t.length ∧ O[i] = 0) := fun i hi => by
    by_cases c : i < t.length
    · have := h i c
      rw [List.getElem?_eq_getElem hi] at this
      injection this with this
      exact .inl ⟨c, c, this⟩
    · have e : i = t.length := by omega
      subst e
      rw [List.getElem?_eq_getElem hi] at hl
      injection hl with hl
      exact .inr ⟨rfl, hl⟩
  refine ⟨hO, fun x hx => ?_, fun i hi j => ?_⟩
  · obtain ⟨i, hi, rfl⟩ := List.getElem_of_mem hx
    rcases hg i hi with ⟨c, _, e⟩ | ⟨_, e⟩ <;> rw [e]
    · split
      · exact Nat.pow_lt_pow_right (by decide) (by omega)
      · decide
    · decide
  · rcases hg i hi with ⟨c, _, e⟩ | ⟨hi2, e⟩ <;> rw [e]
    · constructor
      · intro hb
        split at hb
        · rename_i hq
          rw [Nat.testBit_two_pow, decide_eq_true_eq] at hb
          subst hb
          refine ⟨by omega, by omega, t[i], ?_, hq⟩
          unfold seg
          rw [show i + 1 - i = 1 by omega, List.drop_eq_getElem_cons c]
          rfl
        · simp at hb
      · rintro ⟨h1, h2, x, hx, hq⟩
        have hlen := seg_len h1 h2
        rw [hx] at hlen
        have hj : j = i + 1 := by simp at hlen; omega
        subst hj
        have hxe : x = t[i] := by
          unfold seg at hx
          rw [show i + 1 - i = 1 by omega, List.drop_eq_getElem_cons c] at hx
          simp only [List.take_succ_cons, List.take_zero] at hx
          injection hx with hx
          exact hx.symm
        subst hxe
        rw [if_pos hq]
        simp
    · constructor
      · intro hb; simp at hb
      · rintro ⟨h1, h2, x, hx, _⟩
        have hlen := seg_len h1 h2
        rw [hx] at hlen
        simp at hlen
        omega
def OfR (q : Fo) : Prop := ∀ (k a b c d : Int) (sa : Option Addr) (sc : Nat) (t : List Nat) (w : World), t.length ≤ 40 → (∀ x ∈ t, x < 256) → RepF w sa 0 q → q.len < 2 ^ 63 → nodeOk k (z4 a b c d) q.len = true → q.right = true →
    Ct Try.prog 74 #[.agg #[.int .u8 k, .int .u64 a, .int .u64 b, .int .u64 c, .int .u64 d, .slice sa q.len sc], .string (bytesOf t)] w fun v w' => (∃ (R : List Nat) (x : Option Addr) (cc : Nat), v = .slice x R.length cc ∧ OwnL w' w.heap.size 26 1 uE x cc R ∧ RelIs t R (lgOne k a b c d (lg q))) ∧ Md [] w w'
theorem in74 {q : Fo} (hT : OfR q) {L : List Nat} {w0 w : World} (h : Good L w0 w) {k a b c d : Int} {sa : Option Addr} {sc : Nat} {t : List Nat} (ht : t.length ≤ 40) (htb : ∀ x ∈ t, x < 256) (h1 : RepF w sa 0 q) (h2 : q.len < 2 ^ 63) (h3 : nodeOk k (z4 a b c d) q.len = true) (h4 : q.right = true)
    {K : Option Addr → Nat → Nat → World → Prop} (kk : ∀ R x cc w', Good L w0 w' → Md [] w w' → OwnL w' w.heap.size 26 1 uE x cc R → RelIs t R (lgOne k a b c d (lg q)) → K x R.length cc w') :
    CallW Try.prog L 74 #[.agg #[.int .u8 k, .int .u64 a, .int .u64 b, .int .u64 c, .int .u64 d, .slice sa q.len sc], .string (bytesOf t)] (fun v w' => opL v fun x n cc => K x n cc w') w := by
  refine (hT k a b c d sa sc t w ht htb h1 h2 h3 h4).call h.2 ?_
  rintro v w' ⟨R, x, cc, rfl, h5, h6⟩ h7
  exact opL_in (kk R x cc w' (h.tr h7) h7 h5 h6)
theorem f74_step (q : Fo) (ih : ∀ q' : Fo, q'.size < q.size → OfR q') : OfR q := by
  intro k a b c d sa sc t w ht htb hr hql hn hq
  apply f74_in
  intro n1 hn1
  refine Bd_e (y := (t.length : Int)) (by rw [nsz_bytesOf]) fun w3 h3 hL3 => ?_
  have g3 : Good [n1] w w3 := ⟨h3, hL3⟩
  refine (f174_ok t.length (by omega) w3).call hL3 ?_
  rintro v w5 ⟨a6, c8, rfl, own6⟩ m5
  have g5 := g3.tr m5
  have hnl : (noneR t.length).length = t.length + 1 := by simp [noneR]
  have own6' := own6.down (b := w.heap.size) h3.size
  refine opL_in <| Jn_in (fun us vs w' => ∃ (R : List Nat) (x : Option Addr) (cc : Nat) (b1 b2 : Bool), us = [.slice x R.length cc, .slice none 0 0, .bool b1, .bool b2] ∧ OwnL w' w.heap.size 26 1 uE x cc R ∧ RelIs t R (lgOne k a b c d (lg q)) ∧ Md [] w w') ?_ ?_
  · rintro us vs w11 ⟨R, x, cc, b1, b2, rfl, h1, h2, h3⟩
    exact opL_in <| opL_in <| opB_in <| opB_in ⟨⟨R, x, cc, rfl, h1, h2⟩, h3⟩
  refine Bd_in fun b21 hb21 => If_in (fun hb => ?_) fun hb0 => ?_
  · have hk : k = 0 := by rw [hb21] at hb; simpa using hb
    refine Bd_e (y := (t.length : Int)) (by rw [nsz_bytesOf]) ?_
    refine (f175_ok t.length (by omega) w5).call g5.2 ?_
    rintro v w24 ⟨x, cc, rfl, own⟩ m24
    refine opL_in ⟨⟨_, x, cc, rfl, own.down g5.1.size, (still_is t (by omega)).congr fun u => ?_⟩, g5.1.trans m24⟩
    subst hk
    simp [lgOne]
  have hk0 : k ≠ 0 := by rw [hb21] at hb0; simpa using hb0
  refine Bd_in fun b28 hb28 => If_in (fun hb => ?_) fun hb1 => ?_
  · have hk : k = 1 := by rw [hb28] at hb; simpa using hb
    refine Bd_e (y := (t.length : Int)) (by rw [nsz_bytesOf]) ?_
    refine LoopP_in (fun mm us vs w' => ∃ (i : Nat) (O : List Nat), us = [.int .i64 i] ∧ mm = t.length - i ∧ i ≤ t.length ∧ O.length = t.length + 1 ∧ (∀ j (hj : j < t.length), j < i → O[j]? = some (if inQ (a, b, c, d) t[j] = true then 2 ^ (j + 1) else 0)) ∧ (∀ j, i ≤ j → j ≤ t.length → O[j]? = some 0) ∧ OwnL w' w.heap.size 26 1 uE a6 c8 O ∧ Good [n1] w w') t.length
      ⟨0, noneR t.length, rfl, rfl, by omega, hnl, fun j _ hj => by omega, fun j _ hj => by unfold noneR; rw [List.getElem?_replicate, if_pos (by omega)], own6', g5⟩ ?_
    rintro mm us vs w33 ⟨i, O, rfl, hmm, hi, hO, hOj, hO0, ho, g33⟩
    refine opI_in <| Bd_in fun b35 hb35 => If_in (fun hb => ?_) fun hb => ?_
    · have hit : i < t.length := by rw [hb35] at hb; have := of_decide_eq_true hb; omega
      have hx256 := htb _ (List.getElem_mem hit)
      refine Jn_in (fun us vs w' => ∃ (O : List Nat), us = [.int .i64 i] ∧ O.length = t.length + 1 ∧ (∀ j (hj : j < t.length), j < i + 1 → O[j]? = some (if inQ (a, b, c, d) t[j] = true then 2 ^ (j + 1) else 0)) ∧ (∀ j, i + 1 ≤ j → j ≤ t.length → O[j]? = some 0) ∧ OwnL w' w.heap.size 26 1 uE a6 c8 O ∧ Good [n1] w w') ?_ ?_
      · rintro us vs w38 ⟨O', rfl, q1, q2, q3, q4, q5⟩
        exact opI_in <| Bd_e (inc_i64 (by omega)) ⟨t.length - (i + 1), by omega, i + 1, O', rfl, rfl, by omega, q1, q2, q3, q4, q5⟩
      refine ⟨fun _ => True, trivial, ⟨by omega, by rw [nsz_bytesOf]; omega⟩, Bd_e (byteAt_bytesOf htb hit) ?_⟩
      refine (f50_ok (a, b, c, d) t[i] hx256 w33.drew).call g33.drew.2 ?_
      rintro v w45 rfl m45
      have g45 := g33.drew.tr m45
      have ho45 := (ho.md (Md_drew w33)).md m45
      refine opB_in ⟨trivial, If_in (fun hq' => ?_) fun hq' => ?_⟩
      · have hix := (ho45.row encuE).ix (i := i) (by omega)
        obtain ⟨A', hA', p1, p2, p3, p4, p5, p6⟩ := ho45.put encuE (by omega) (i := i) (by omega) (2 ^ (i + 1))
        rw [hO, ← hnl] at hix
        refine Bd_e (inc_i64 (by omega)) ⟨by omega, Bd_e (powN (i + 1) (by omega)) ⟨hix, by rw [p3]; simp; intro e; have := (own6.lt hA').1; have := hL3 n1 (by simp); omega, p4, O.set i (2 ^ (i + 1)), rfl, by simp [hO], fun j hj hji => ?_, fun j h1 h2 => ?_, p5, ⟨g45.1.old p6 (by simpa using p2), fun z hz => Nat.lt_of_lt_of_le (g45.2 z hz) p6.size⟩⟩⟩
        · by_cases e : j = i
          · subst e; rw [List.getElem?_set_self (by omega), if_pos hq']
          · rw [List.getElem?_set_ne (by omega)]; exact hOj j hj (by omega)
        · rw [List.getElem?_set_ne (by omega)]; exact hO0 j (by omega) h2
      · refine ⟨O, rfl, hO, fun j hj hji => ?_, fun j h1 h2 => hO0 j (by omega) h2, ho45, g45⟩
        by_cases e : j = i
        · subst e; rw [hO0 j (Nat.le_refl _) (by omega), if_neg (by rw [hq']; simp)]
        · exact hOj j hj (by omega)
    · have hit : i = t.length := by rw [hb35] at hb; have := of_decide_eq_false hb; omega
      subst hit
      have hrel := set_is (by omega) hO (fun j hj => hOj j hj hj) (hO0 _ (Nat.le_refl _) (Nat.le_refl _))
      refine ⟨O, a6, c8, b21, b28, by rw [hnl, hO], ho, hrel.congr fun u => ?_, g33.1⟩
      subst hk
      simp [lgOne]
  have hk1 : k ≠ 1 := by rw [hb28] at hb1; simpa using hb1
  refine Bd_in fun b49 hb49 => If_in (fun hb => ?_) fun hb2 => ?_
  · have hk : k = 2 := by rw [hb49] at hb; simpa using hb
    refine Bd_e (y := (t.length : Int)) (by rw [nsz_bytesOf]) ?_
    refine (f175_ok t.length (by omega) w5).call g5.2 ?_
    rintro v w52 ⟨x0, cc0, rfl, own52⟩ m52
    refine opL_in <| Bd_e rfl ?_
    refine LoopP_in (fun mm us vs w' => ∃ (i : Nat) (R : List Nat) (x : Option Addr) (cc : Nat) (P : List Nat → Prop), us = [.slice x R.length cc, .int .i64 i] ∧ mm = q.len - i ∧ i ≤ q.len ∧ RelIs t R P ∧ (∀ u, (∃ v z, u = v ++ z ∧ P v ∧ (lg (q.drop i)).cat z) ↔ (lg q).cat u) ∧ OwnL w' w.heap.size 26 1 uE x cc R ∧ Good [n1] w w') q.len
      ⟨0, stillR t.length, x0, cc0, fun u => u = [], rfl, rfl, by omega, still_is t (by omega), fun u => ⟨fun ⟨v, z, e, e1, e2⟩ => by subst e1; subst e; simpa [Fo.drop] using e2, fun h => ⟨[], u, rfl, rfl, by simpa [Fo.drop] using h⟩⟩, own52.down g5.1.size, g5.tr m52⟩ ?_
    rintro mm us vs w60 ⟨i, R, x, cc, P, rfl, hmm, hi, hR, hP, ho, g60⟩
    refine opL_in <| opI_in <| Bd_in fun b65 hb65 => If_in (fun hb => ?_) fun hb => ?_
    · have hi' : i < q.len := by rw [hb65] at hb; have : (i : Int) < (q.len : Int) := of_decide_eq_true hb
                                 omega
      obtain ⟨k', a', b', c', d', q', he, hqs⟩ := Fo.drop_cons q i hi'
      obtain ⟨hn', hq'⟩ := right_pre he hq
      refine kid_ld hr g60.1 he hi' fun sa' sc' hql' hr' => rgU g60 fun n80 w81 g81 m81 => ?_
      refine in74 (ih q' hqs) g81 ht htb (hr'.md g81.1) hql' hn' hq' fun R2 x2 cc2 w83 g83 m83 own2 hR2 => ?_
      have l1 := hR.len
      have l2 := hR2.len
      have ho83 := (ho.md m81).md m83
      refine (f176_ok R R2 x x2 cc cc2 (by omega) (by omega) hR2.lt w83 (ho83.row encuE) (own2.row encuE)).call g83.2 ?_
      rintro v w88 ⟨x3, c3, rfl, own3⟩ m88
      refine opL_in <| Bd_e (y := ((i + 1 : Nat) : Int)) (by rw [IntKind.wrap_i64]; omega) ⟨q.len - (i + 1), by omega, i + 1, _, x3, c3, _, rfl, rfl, by omega, then_is hR hR2, fun u => ?_, own3.down g83.1.size, ⟨g83.1.trans m88, fun z hz => Nat.lt_of_lt_of_le (g83.2 z (by simp at hz ⊢; exact .inr hz)) m88.size⟩⟩
      rw [← hP u, he]
      constructor
      · rintro ⟨v, z, rfl, ⟨v1, v2, rfl, h1, h2⟩, h3⟩
        exact ⟨v1, v2 ++ z, by rw [List.append_assoc], h1, v2, z, rfl, h2, h3⟩
      · rintro ⟨v, z, rfl, h1, v2, z2, rfl, h2, h3⟩
        exact ⟨v ++ v2, z2, by rw [List.append_assoc], ⟨v, v2, rfl, h1, h2⟩, h3⟩
    · have hif : i = q.len := by
        have : ¬ (i : Int) < (q.len : Int) := by rw [hb65] at hb; exact of_decide_eq_false hb
        omega
      subst hif
      rw [Fo.drop_all q _ (Nat.le_refl _)] at hP
      refine ⟨R, x, cc, b21, b28, rfl, ho, hR.congr fun u => ?_, g60.1⟩
      subst hk
      rw [show lgOne 2 a b c d (lg q) u ↔ (lg q).cat u by simp [lgOne], ← hP u]
      constructor
      · intro h; exact ⟨u, [], by simp, h, rfl⟩
      · rintro ⟨v, z, rfl, h, hz⟩
        have hz : z = [] := hz
        subst hz; simpa using h
  have hk2 : k ≠ 2 := by rw [hb49] at hb2; simpa using hb2
  refine Bd_in fun b93 hb93 => If_in (fun hb => ?_) fun hb3 => ?_
  · have hk : k = 3 := by rw [hb93] at hb; simpa using hb
    refine Bd_e rfl ?_
    refine LoopP_in (fun mm us vs w' => ∃ (i : Nat) (R : List Nat) (x : Option Addr) (cc : Nat) (P : List Nat → Prop), us = [.slice x R.length cc, .int .i64 i] ∧ mm = q.len - i ∧ i ≤ q.len ∧ RelIs t R P ∧ (∀ u, (P u ∨ (lg (q.drop i)).alt u) ↔ (lg q).alt u) ∧ OwnL w' w.heap.size 26 1 uE x cc R ∧ Good [n1] w w') q.len
      ⟨0, noneR t.length, a6, c8, fun _ => False, rfl, rfl, by omega, none_is t, fun u => by simp [Fo.drop], own6', g5⟩ ?_
    rintro mm us vs w98 ⟨i, R, x, cc, P, rfl, hmm, hi, hR, hP, ho, g98⟩
    refine opL_in <| opI_in <| Bd_in fun b103 hb103 => If_in (fun hb => ?_) fun hb => ?_
    · have hi' : i < q.len := by rw [hb103] at hb; have : (i : Int) < (q.len : Int) := of_decide_eq_true hb
                                 omega
      obtain ⟨k', a', b', c', d', q', he, hqs⟩ := Fo.drop_cons q i hi'
      obtain ⟨hn', hq'⟩ := right_pre he hq
      refine kid_ld hr g98.1 he hi' fun sa' sc' hql' hr' => rgU g98 fun n118 w119 g119 m119 => ?_
      refine in74 (ih q' hqs) g119 ht htb (hr'.md g119.1) hql' hn' hq' fun R2 x2 cc2 w121 g121 m121 own2 hR2 => ?_
      have l1 := hR.len
      have l2 := hR2.len
      have ho121 := (ho.md m119).md m121
      refine (f177_ok R R2 x x2 cc cc2 (by omega) (by omega) hR.lt hR2.lt w121 (ho121.row encuE) (own2.row encuE)).call g121.2 ?_
      rintro v w126 ⟨x3, c3, rfl, own3⟩ m126
      refine opL_in <| Bd_e (y := ((i + 1 : Nat) : Int)) (by rw [IntKind.wrap_i64]; omega) ⟨q.len - (i + 1), by omega, i + 1, _, x3, c3, _, rfl, rfl, by omega, or_is hR hR2, fun u => ?_, own3.down g121.1.size, ⟨g121.1.trans m126, fun z hz => Nat.lt_of_lt_of_le (g121.2 z (by simp at hz ⊢; exact .inr hz)) m126.size⟩⟩
      rw [← hP u, he]
      constructor
      · rintro ((h | h) | h)
        · exact .inl h
        · exact .inr (.inl h)
        · exact .inr (.inr h)
      · rintro (h | h | h)
        · exact .inl (.inl h)
        · exact .inl (.inr h)
        · exact .inr h
    · have hif : i = q.len := by
        have : ¬ (i : Int) < (q.len : Int) := by rw [hb103] at hb; exact of_decide_eq_false hb
        omega
      subst hif
      rw [Fo.drop_all q _ (Nat.le_refl _)] at hP
      refine ⟨R, x, cc, b21, b28, rfl, ho, hR.congr fun u => ?_, g98.1⟩
      subst hk
      rw [show lgOne 3 a b c d (lg q) u ↔ (lg q).alt u by simp [lgOne], ← hP u]
      exact ⟨.inl, fun h => by rcases h with h | h; exact h; exact h.elim⟩
  have hk3 : k ≠ 3 := by rw [hb93] at hb3; simpa using hb3
  have hk4 : k = 4 := by have := nodeOk_inv hn; omega
  have h1q : q.len = 1 := by have := nodeOk_inv hn; omega
  refine Bd_e (y := true) (by rw [hk4]; rfl) <| If_in (fun _ => ?_) fun h => by cases h
  refine Bd_e rfl <| Bd_e (y := true) (by rw [h1q]; rfl) <| If_in (fun _ => ?_) fun h => by cases h
  obtain ⟨k', a', b', c', d', q', he, hqs⟩ := Fo.drop_cons q 0 (by omega)
  obtain ⟨hn', hq'⟩ := right_pre he hq
  have he0 : q = .cons k' a' b' c' d' q' (q.drop 1) := by have := he; simpa [Fo.drop] using this
  have eone : (lg q).one = lgOne k' a' b' c' d' (lg q') := by rw [he0]; rfl
  refine kid_ld (j := 0) hr g5.1 he (by omega) fun sa' sc' hql' hr' => ?_
  refine in74 (ih q' hqs) g5 ht htb (hr'.md g5.1) hql' hn' hq' fun R2 x2 cc2 w149 g149 m149 own2 hR2 => ?_
  refine Bd_e (y := (t.length : Int)) (by rw [nsz_bytesOf]) ?_
  refine (f175_ok t.length (by omega) w149).call g149.2 ?_
  rintro v w155 ⟨x3, c3, rfl, own3⟩ m155
  have g155 := g149.tr m155
  have hS := still_is t (by omega)
  have l2 := hR2.len
  have l3 := hS.len
  refine opL_in <| (f177_ok R2 (stillR t.length) x2 x3 cc2 c3 (by omega) (by omega) hR2.lt hS.lt w155 ((own2.md m155).row encuE) (own3.row encuE)).call g155.2 ?_
  rintro v w160 ⟨x4, c4, rfl, own4⟩ m160
  have g160 := g155.tr m160
  have hO := or_is hR2 hS
  refine opL_in <| Bd_e (y := (t.length : Int)) (by rw [nsz_bytesOf]) <| Bd_e (y := ((t.length + 1 : Nat) : Int)) (by rw [IntKind.wrap_i64]; omega) ?_
  refine (f178_ok t.length (orR R2 (stillR t.length)) x4 c4 (t.length + 1) (by omega) hO.len hO.lt (by omega) w160 (own4.row encuE)).call g160.2 ?_
  rintro v w167 ⟨x5, c5, rfl, own5⟩ m167
  refine opL_in ⟨⟨_, x5, c5, rfl, own5.down g160.1.size, ?_⟩, g160.1.trans m167⟩
  have hW := pow_is (by omega) hO (t.length + 1)
  refine ⟨hW.len, hW.lt, fun i hi j => ?_⟩
  rw [hW.bit i hi j]
  constructor
  · rintro ⟨h1, h2, h3⟩
    refine ⟨h1, h2, ?_⟩
    rw [show lgOne k a b c d (lg q) (seg t i j) ↔ StarL (lg q).one (seg t i j) by subst hk4; simp [lgOne], eone]
    exact (star_pow (t.length + 1) (by rw [seg_len h1 h2]; omega)).2 h3
  · rintro ⟨h1, h2, h3⟩
    refine ⟨h1, h2, ?_⟩
    rw [show lgOne k a b c d (lg q) (seg t i j) ↔ StarL (lg q).one (seg t i j) by subst hk4; simp [lgOne], eone] at h3
    exact (star_pow (t.length + 1) (by rw [seg_len h1 h2]; omega)).1 h3
theorem ofR_ok : ∀ (s : Nat) (q : Fo), q.size < s → OfR q
  | 0, q, h => by omega
  | s + 1, q, h => f74_step q fun q' h' => ofR_ok s q' (by omega)
end Fk
set_option linter.unusedVariables false
set_option linter.unusedSimpArgs false
set_option maxRecDepth 100000
set_option maxHeartbeats 4000000
namespace Fk
open Go Go.Proofs Go.RowKit
theorem seg_take' (t : List Nat) (i : Nat) : seg t 0 i = t.take i := by unfold seg; simp
theorem f11_ok (f : Fo) (A : Option Addr) (C : Nat) (s : List Nat) (hs : ∀ x ∈ s, x < 256) (w : World) (hr : RepF w A 0 f) (hl : f.len ≤ 2 ^ 41) :
    Ct Try.prog 11 #[.slice A f.len C, .string (bytesOf s)] w fun v w' => v = .bool true ∧ Md [] w w' := by
  apply f11_in
  have g0 : Good [] w w := ⟨Md.refl _ _, by simp⟩
  refine in64 f A C hl g0 hr fun w2 a3 n5 g2 hr2 => ?_
  have hright := f.good_right
  have hgl := f.good_len
  generalize f.good = g at *
  have h22 : Good [] w2 w2 := ⟨Md.refl _ _, by simp⟩
  have fin : ∀ {w' : World} {L : List Nat}, Good L w2 w' → (Value.bool true = .bool true ∧ Md [] w w') := fun h => ⟨rfl, g2.1.trans h.1⟩
  refine in38 g a3 n5 (by omega) h22 hr2 fun w7 b8 g7 hfew => ?_
  refine Bd_in fun b9 hb9 => Bd_e rfl <| Bd_in fun b11 hb11 => Bd_in fun b12 hb12 => If_in (fun _ => in65 g7 fun w14 g14 => fin g14) fun hb => ?_
  have h8 : b8 = true ∧ 1 ≤ g.len := by
    rw [hb12, hb9, hb11] at hb
    cases h : b8 with
    | false => rw [h] at hb; simp at hb
    | true =>
      rw [h] at hb
      refine ⟨rfl, ?_⟩
      simp at hb
      omega
  have hf := hfew h8.1
  have h1 := h8.2
  have hfl := hf.1
  have hfs := hf.2
  have hcl := g.cnt_le
  have Sg : SmallF g := ⟨h1, by omega, hright, by unfold Fo.total; omega⟩
  have hmr := (machine_right Sg.l1 Sg.l2 Sg.rt Sg.tot).1
  have hbl := bldM_len Sg.l1 Sg.rt Sg.tot
  have htot := Sg.tot
  have hsets := bldM_sets g
  have hfit := fits_of hsets
  have hoC2 : ofC g = (clOf g.sets, 0) := by unfold ofC; rw [if_pos hright]
  have hok := ofC_ok g
  refine in66 g a3 n5 20000 g7 (hr2.md g7.1) (by omega) fun a21 c23 w17 g17 m17 own17 => ?_
  rw [bld_max Sg] at own17 ⊢
  simp only at own17 ⊢
  refine rgU g17 fun n25 w26 g26 m26 => ?_
  refine in40c g a3 n5 (by omega) (by omega) g26 (hr2.md g26.1) fun w28 g28 m28 => ?_
  rw [hoC2] at hok ⊢
  simp only at hok ⊢
  refine ⟨hok.size, ?_⟩
  intro n32 hn32
  refine OkC_in hok.cells ⟨hok.size, fun w33 h33 hL33 => ?_⟩
  obtain ⟨g33, m33⟩ := g28.up (L' := [n32, n25]) (by simp; exact hn32) h33 hL33
  have own33 := ((own17.md m26).md m28).md m33
  refine in67 (bldM g).2 (bldM g).1 a21 c23 (clOf g.sets) hok 200 g33 (own33.row encNs) (by omega) fun na nc ta tc w35 g35 m35 o1 o2 => ?_
  intro n46 hn46
  have herr := (dBld_err (st := (bldM g).2) (l := (bldM g).1) (c := clOf g.sets)).2 hmr hfit
  have hsz := dBld_sz (st := (bldM g).2) (l := (bldM g).1) (c := clOf g.sets) hok (m := 200)
  refine Bd_e (y := false) rfl <| Bd_e (y := false) rfl <| Bd_e (y := false) rfl <| Bd_in fun b50 hb50 => Bd_in fun b51 hb51 => If_in (fun hb => ?_) fun hb w65 h65 hL65 => ?_
  · have h40 : (dBld (bldM g).2 (bldM g).1 (clOf g.sets) 200).2 = 40 := by
      rcases herr with h | h
      · exact h
      · rw [hb51, hb50, h] at hb; simp at hb
    refine Bd_e (y := true) rfl <| Bd_e (y := true) rfl <| Bd_e (y := true) rfl <| Bd_e (y := true) (by rw [h40]; rfl) <| Bd_e (y := true) rfl fun w57 h57 hL57 => ?_
    obtain ⟨g57, m57⟩ := g35.up (L' := [n46, n32, n25]) (by simp; exact hn46) h57 hL57
    exact Gd_t <| in65 g57 fun w60 g60 => Bd_e (y := true) rfl (fin g60)
  have he0 : (dBld (bldM g).2 (bldM g).1 (clOf g.sets) 200).2 = 0 := by
    rcases herr with h | h
    · rw [hb51, hb50, h] at hb; simp at hb
    · exact h
  obtain ⟨g65, m65⟩ := g35.up (L' := [n46, n32, n25]) (by simp; exact hn46) h65 hL65
  refine in68 s 14 g65 fun w67 g67 m67 => ?_
  have hs2 : ∀ x ∈ s.take 14, x < 256 := fun x hx => hs x (List.mem_of_mem_take hx)
  have hsl : (s.take 14).length ≤ 14 := by rw [List.length_take]; omega
  generalize s.take 14 = t at hs2 hsl ⊢
  have hD' : dBld (bldM g).2 (bldM g).1 (clOf g.sets) 200 = ((dBld (bldM g).2 (bldM g).1 (clOf g.sets) 200).1, 0) := Prod.ext rfl he0
  have hrun := dfa_same hsets hD' t hs2
  obtain ⟨d1, _⟩ := dBld_ok hok hD'
  generalize (dBld (bldM g).2 (bldM g).1 (clOf g.sets) 200).1 = d at *
  have eR : runA (bldM g).2 (bldM g).1 t = (nfRun (bldM g).2 (bldM g).1 t, 0) := by unfold runA; rw [if_pos hmr]
  have hal : (nfRun (bldM g).2 (bldM g).1 t).length = t.length + 1 := by simp only [nfRun, List.length_cons, runF_len]
  have hT := fun i hi => machine_tags Sg.l1 Sg.l2 Sg.rt Sg.tot t i hi
  have md67 : Md [] w35 w67 := m65.trans m67
  refine in69 (bldM g).2 (bldM g).1 a21 c23 t hs2 g67 (((own33.md m35).md md67).row encNs) (by omega) (by omega) fun a72 c74 w70 g70 m70 own70 => ?_
  rw [eR] at own70 ⊢
  simp only at own70 ⊢
  have gd := g70.drew
  have md70 : Md [] w35 w70.drew := (md67.trans m70).trans (Md_drew _)
  refine Jn_in (fun us vs w' => ∃ (a : Option Addr) (c : Nat), us = [.slice a (nfRun (bldM g).2 (bldM g).1 t).length c, .int .i64 0] ∧ OwnL w' w70.heap.size 3 1 i1 a c (nfRun (bldM g).2 (bldM g).1 t) ∧ Good [n46, n32, n25] w2 w' ∧ Md [] w70.drew w') ?_ ?_
  case refine_2 =>
    refine ⟨fun _ => True, trivial, hok.size, ?_⟩
    refine (f71_ok (clOf g.sets) hok t hs2 14 (by omega) w70.drew).call gd.2 ?_
    rintro v w182 ⟨a183, c185, rfl, own182⟩ m182
    rw [List.take_of_length_le hsl] at own182 ⊢
    have g182 := gd.tr m182
    have md182 := md70.trans m182
    have hct : (clTx (clOf g.sets) t).length = t.length := by simp [clTx]
    refine opL_in ⟨trivial, in70 d.1 d.2.1 d.2.2 (clTx (clOf g.sets) t) na ta a183 nc tc c185 g182 ((o1.md md182).row enci1) ((o2.md md182).row enci1) (own182.row enci1) (by omega) (by omega) (by omega) fun a189 c191 w187 g187 m187 own187 => ⟨trivial, ?_⟩⟩
    rw [hrun] at own187 ⊢
    exact ⟨a189, c191, rfl, own187.down m182.size, g187, m182.trans m187⟩
  rintro us vs w78 ⟨a79, c81, rfl, own78, g78, m78⟩
  generalize nfRun (bldM g).2 (bldM g).1 t = tags at *
  have md78 := md70.trans m78
  have own78a := own70.md ((Md_drew w70).trans m78)
  refine opL_in <| opI_in <| Bd_e (y := false) rfl <| Bd_e (y := false) rfl <| Bd_e (y := false) rfl <| Gd_t <| in72d d.1 d.2.1 d.2.2 na ta nc tc g78 ((o1.md md78).row enci1) ((o2.md md78).row enci1) (by omega) (by omega) fun w88 g88 m88 => ?_
  rw [d1]
  refine Bd_e (y := false) rfl <| Bd_e (y := false) rfl <| Gd_t <| in73 tags tags a72 a79 c74 c81 g88 ((own78a.md m88).row enci1) ((own78.md m88).row enci1) (by omega) fun w96 g96 m96 => ?_
  rw [decide_eq_true rfl]
  have rtag := ((own78.md m88).md m96).row enci1
  refine Bd_e (y := false) rfl <| Bd_e (y := false) rfl <| If_in (fun h => by cases h) fun _ => Bd_e rfl <| Bd_e (y := (g.len : Int) - 1) (by rw [IntKind.wrap_i64]; omega) ?_
  refine LoopP_in (fun mm us vs w' => ∃ (j : Nat) (b : Bool), us = [.bool b, .int .i64 ((j : Int) - 1)] ∧ mm = j ∧ j ≤ g.len ∧ Good [n46, n32, n25] w2 w' ∧ Md [] w96 w') g.len
    ⟨g.len, _, rfl, rfl, Nat.le_refl _, g96, Md.refl _ _⟩ ?_
  rintro mm us vs w107 ⟨j, b108, rfl, hmj, hj, g107, m107⟩
  refine opB_in <| opI_in <| Bd_in fun b110 hb110 => If_in (fun hb => ?_) fun hb => in65 g107 fun w177 g177 => fin g177
  have hj1 : (j : Int) - 1 ≥ 0 := by rw [hb110] at hb; exact of_decide_eq_true hb
  obtain ⟨p, rfl⟩ : ∃ p, j = p + 1 := ⟨j - 1, by omega⟩
  have ei : (((p + 1 : Nat) : Int) - 1) = (p : Int) := by omega
  rw [ei]
  have hpl : p < g.len := by omega
  obtain ⟨k, x1, x2, x3, x4, q, he, hqs⟩ := Fo.drop_cons g p hpl
  obtain ⟨hn, hq⟩ := right_pre he hright
  refine kid_ld hr2 g107.1 he hpl fun sa' sc' hql' hr' => ?_
  refine in74 (ofR_ok (q.size + 1) q (by omega)) g107 (by omega) hs2 (hr'.md g107.1) hql' hn hq fun R xR cR w126 g126 m126 ownR hR => ?_
  have hR' : RelIs t R (lg (g.drop p)).one := by rw [he]; exact hR
  have m96_126 := m107.trans m126
  refine Bd_e (y := (t.length : Int)) (by rw [nsz_bytesOf]) <| Bd_e (y := ((t.length + 1 : Nat) : Int)) (by rw [IntKind.wrap_i64]; omega) ?_
  refine LoopP_in (fun mm us vs w' => ∃ (i : Nat) (b : Bool), us = [.bool b, .int .i64 i] ∧ mm = t.length + 1 - i ∧ i ≤ t.length + 1 ∧ Good [n46, n32, n25] w2 w' ∧ Md [] w126 w') (t.length + 1)
    ⟨0, _, rfl, rfl, by omega, g126, Md.refl _ _⟩ ?_
  rintro m3 us vs w135 ⟨i, b136, rfl, hm3, hi, g135, m135⟩
  refine opB_in <| opI_in <| Bd_in fun b138 hb138 => If_in (fun hb => ?_) fun hb => Bd_e (y := (p : Int) - 1) (by rw [IntKind.wrap_i64]; omega) ⟨p, by omega, p, b136, rfl, rfl, by omega, g135, m96_126.trans m135⟩
  have hit : i < tags.length := by rw [hb138] at hb; have := of_decide_eq_true hb; omega
  obtain ⟨tg, hg1, hg2⟩ := hT i (by omega)
  rw [List.getElem?_eq_getElem hit] at hg1
  injection hg1 with hg1
  have hbit := hR'.bit 0 (by rw [hR'.len]; omega) i
  rw [seg_take'] at hbit
  have hhas : (R[0]'(by rw [hR'.len]; omega)).testBit i = true ↔ g.has p (t.take i) := hbit.trans ⟨fun h => ⟨by omega, h.2.2⟩, fun h => ⟨by omega, by omega, h.2⟩⟩
  have call75 := fun {w' : World} (g' : Good [n46, n32, n25] w2 w') (m' : Md [] w126 w') {K : Bool → World → Prop} (kk : ∀ w'', Good [n46, n32, n25] w2 w'' → Md [] w126 w'' → K ((R[0]'(by rw [hR'.len]; omega)).testBit i) w'') =>
    (f75_ok R xR cR 0 i (by rw [hR'.len]; omega) (by omega) w' ((ownR.md m').row encuE)).call g'.2 (K := fun v w'' => opB v fun b => K b w'') (fun v w'' e m'' => by subst e; exact opB_in (kk w'' (g'.tr m'') (m'.trans m'')))
  have rt : ∀ {w' : World}, Md [] w126 w' → RowAt w' a79 1 i1 tags := fun h => rtag.md (m96_126.trans h)
  refine call75 g135 m135 fun w140 g140 m140 => ?_
  generalize hbH : (R[0]'(by rw [hR'.len]; omega)).testBit i = bH at *
  have tagged : bH = true → 0 ≤ tg ∧ tg ≤ (p : Int) := fun h => by
    have hp := hhas.1 h
    rcases hg2 with ⟨rfl, hn⟩ | ⟨m, rfl, h1, h2⟩
    · exact absurd hp (hn p)
    · refine ⟨by omega, ?_⟩
      rcases Nat.lt_or_ge p m with h | h
      · exact absurd hp (h2 p h)
      · omega
  have tagp : tg = (p : Int) → bH = true := fun h => by
    rcases hg2 with ⟨rfl, hn⟩ | ⟨m, rfl, h1, h2⟩
    · omega
    · have : m = p := by omega
      subst this
      exact hhas.2 h1
  refine ⟨fun _ => (rt m140).ix hit, Gd_to (fun x w' => (bH = true → x = tg) ∧ w' = w140) (fun x146 w147 hJ => ?_) (fun f2 hc => (rt m140).ld1 hit rfl <| opI_in <| f2 _ _ ⟨fun _ => hg1, rfl⟩) (fun hc => ⟨(fun h => by rw [h] at hc; cases hc), rfl⟩)⟩
  obtain ⟨h146, rfl⟩ := hJ
  refine Bd_in fun b148 hb148 => ⟨fun _ => (rt m140).ix hit, Gd_to (fun x w' => (bH = true → b148 = false → x = tg) ∧ w' = w147) (fun x153 w154 hJ => ?_) (fun f2 hc => (rt m140).ld1 hit rfl <| opI_in <| f2 _ _ ⟨fun _ _ => hg1, rfl⟩) (fun hc => ⟨(fun h1 h2 => by rw [h1, h2] at hc; cases hc), rfl⟩)⟩
  obtain ⟨h153, rfl⟩ := hJ
  have e157 : (bif bH then (bif b148 then true else decide (x153 > (p : Int))) else false) = false := by
    cases hh : bH with
    | false => rfl
    | true =>
      obtain ⟨q1, q2⟩ := tagged hh
      have e148 : b148 = false := by rw [hb148, h146 hh]; simp; omega
      rw [e148, h153 hh e148]
      simp; omega
  refine Bd_in fun b155 hb155 => Bd_in fun b156 hb156 => Bd_e (y := false) (by rw [hb156, hb155]; exact e157) ⟨fun _ => (rt m140).ix hit, ?_⟩
  refine Gd_t <| (rt m140).ld1 hit rfl <| opI_in ?_
  rw [hg1]
  refine Bd_in fun b164 hb164 => Gd_to (fun b w' => (b164 = true → b = bH) ∧ Good [n46, n32, n25] w2 w' ∧ Md [] w126 w') (fun b169 w170 hJ => ?_) (fun f2 hc => call75 g140 m140 fun w167 g167 m167 => f2 _ _ ⟨fun _ => rfl, g167, m167⟩) (fun hc => ⟨(fun h => by rw [h] at hc; cases hc), g140, m140⟩)
  obtain ⟨h169, g170, m170⟩ := hJ
  have e172 : (bif b164 then !b169 else false) = false := by
    cases hh : b164 with
    | false => rfl
    | true =>
      have : tg = (p : Int) := by rw [hb164] at hh; simpa using hh
      rw [h169 hh, tagp this]; rfl
  refine Bd_in fun b171 hb171 => Bd_e (y := false) (by rw [hb171]; exact e172) <| Bd_e (y := false) rfl <| If_in (fun h => by cases h) fun _ => Bd_e (inc_i64 (by omega)) ⟨t.length + 1 - (i + 1), by omega, i + 1, b136, rfl, rfl, by omega, g170, m170⟩
end Fk
