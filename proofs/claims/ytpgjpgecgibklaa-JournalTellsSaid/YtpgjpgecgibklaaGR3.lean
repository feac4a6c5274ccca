/- Contracts of functions, and plain laws: several texts, joined. -/
import Derived.Test.YtpgjpgecgibklaaGR2
import Derived.Test.YtpgjpgecgibklaaGV0
import Derived.Test.YtpgjpgecgibklaaGK2
import Derived.Test.YtpgjpgecgibklaaGR0
import Derived.Test.YtpgjpgecgibklaaGR1
import Derived.Laws.Strings2
import Derived.Test.YtpgjpgecgibklaaGV1
set_option linter.unusedVariables false
set_option linter.unusedSimpArgs false
set_option maxRecDepth 100000
set_option maxHeartbeats 2000000
namespace Fk
open Go Go.Proofs Go.RowKit
def areaB (bl : List Bk) (a : Nat) : List Nat := areaL ⟨bl, [], 0⟩ a
def openB (bl : List Bk) : Nat := (getB bl 0).1.headD 0 % 2
def halfB (bl : List Bk) : Nat := (bl.length - 1) / 2
def jbB (bl : List Bk) (a k : Nat) : Nat := 1 + a * halfB bl + k
theorem areaL_B (d : Dk) (a : Nat) : areaL d a = areaB d.bl a := rfl
theorem openA_B (d : Dk) : openA d = openB d.bl := rfl
theorem half_B (d : Dk) : half d = halfB d.bl := rfl
theorem areaB_len {bl : List Bk} {a : Nat} (h : 1 ≤ bl.length) (ha : a ≤ 1) : (areaB bl a).length = halfB bl * 64 := areaL_len (d := ⟨bl, [], 0⟩) h ha
theorem areaB_get {bl : List Bk} {a k i : Nat} (h : 1 ≤ bl.length) (ha : a ≤ 1) (hk : k < halfB bl) (hi : i < 64) : (areaB bl a)[k * 64 + i]? = (getB bl (jbB bl a k)).1[i]? := areaL_get (d := ⟨bl, [], 0⟩) h ha hk hi
theorem jgetB_set {bl : List Bk} {i : Nat} (hi : i < bl.length) (b : Bk) (j : Nat) : getB (bl.set i b) j = if j = i then b else getB bl j := by
  unfold getB
  by_cases h : j = i
  · subst h; simp [hi]
  · rw [if_neg h]; simp [List.getElem?_set_ne (fun e => h e.symm)]
theorem jbB_set {bl : List Bk} {i : Nat} (b : Bk) (a k : Nat) : jbB (bl.set i b) a k = jbB bl a k := by unfold jbB halfB; simp
theorem jbB_inj {bl : List Bk} {a a' k k' : Nat} (ha : a ≤ 1) (ha' : a' ≤ 1) (hk : k < halfB bl) (hk' : k' < halfB bl) (h : jbB bl a k = jbB bl a' k') : a = a' ∧ k = k' := by
  unfold jbB at h
  have h1 : a = 0 ∨ a = 1 := by omega
  have h2 : a' = 0 ∨ a' = 1 := by omega
  rcases h1 with rfl | rfl <;> rcases h2 with rfl | rfl <;> simp at h ⊢ <;> omega
theorem jbB_pos (bl : List Bk) (a k : Nat) : jbB bl a k ≠ 0 := by unfold jbB; omega
theorem jbB_lt {bl : List Bk} {a k : Nat} (h : 1 ≤ bl.length) (ha : a ≤ 1) (hk : k < halfB bl) : jbB bl a k < bl.length := jbk_lt (d := ⟨bl, [], 0⟩) h ha hk
def CS (d : Dk) (S : List Bk → Prop) : Prop := ∀ m t, t ≤ 64 → S (d.crB m t m)
theorem CS.now {d : Dk} {S : List Bk → Prop} (h : CS d S) : S d.bl := by
  have := h d.pd.length 0 (by omega)
  unfold Dk.crB at this
  rw [List.drop_of_length_le (Nat.le_refl _)] at this
  exact this
theorem CS.crash {d : Dk} {S : List Bk → Prop} (h : CS d S) (k t : Int) : S (d.crash k t).bl := h _ _ (Nat.min_le_right _ _)
theorem CS.flat {d : Dk} {S : List Bk → Prop} (h : d.pd = []) (hs : S d.bl) : CS d S := fun m t _ => by
  unfold Dk.crB
  rw [h, List.drop_nil]
  exact hs
theorem CS.same {d d' : Dk} {S : List Bk → Prop} (h : CS d S) (h1 : d'.bl = d.bl) (h2 : d'.pd = d.pd) : CS d' S := fun m t ht => by
  have := h m t ht
  unfold Dk.crB at this ⊢
  rw [h1, h2]; exact this
theorem CS.mono {d : Dk} {S T : List Bk → Prop} (h : CS d S) (k : ∀ bl, S bl → T bl) : CS d T := fun m t ht => k _ (h m t ht)
theorem mixB_all (a b : Bk) : mixB 64 a b = a := by
  apply Subtype.ext
  show a.1.take 64 ++ b.1.drop 64 = a.1
  rw [List.take_of_length_le (by rw [a.2.1]; exact Nat.le_refl _), List.drop_of_length_le (by rw [b.2.1]; exact Nat.le_refl _), List.append_nil]
theorem set_back {bl : List Bk} {i : Nat} (hi : i < bl.length) (b : Bk) : (bl.set i b).set i (getB bl i) = bl := by
  rw [List.set_set, getB_eq hi, List.set_getElem_self]
theorem CS.put {d : Dk} {S : List Bk → Prop} (h : CS d S) {i : Nat} (hi : i < d.bl.length) (b : Bk) (hs : ∀ t, t ≤ 64 → S (d.bl.set i (mixB t b (getB d.bl i)))) : CS (d.put i b) S := fun m t ht => by
  have hm := h m t ht
  unfold Dk.crB at hm ⊢
  simp only [Dk.put]
  by_cases h1 : m < d.pd.length
  · rw [List.drop_append_of_le_length (by omega)]
    rw [List.drop_eq_getElem_cons h1] at hm ⊢
    simp only [List.cons_append] at hm ⊢
    rw [if_pos trivial] at hm ⊢
    have e : (d.pd[m] :: (d.pd.drop (m + 1) ++ [⟨i, b, getB d.bl i⟩])).foldr undo (d.bl.set i b) = (d.pd[m] :: d.pd.drop (m + 1)).foldr undo d.bl := by
      rw [← List.cons_append, List.foldr_append]
      congr 1
      simp only [List.foldr_cons, List.foldr_nil, undo]
      exact set_back hi b
    rw [e]
    exact hm
  · by_cases h2 : m = d.pd.length
    · subst h2
      rw [List.drop_left]
      simp only [if_true, List.foldr_cons, List.foldr_nil, undo]
      rw [set_back hi b]
      exact hs t ht
    · rw [List.drop_of_length_le (by simp; omega)]
      have := hs 64 (Nat.le_refl _)
      rwa [mixB_all] at this
theorem CS.write {d : Dk} {S : List Bk → Prop} (h : CS d S) {i : Nat} {b : List Nat} (hs : i < d.bl.length → b.length = 64 → ∀ t, t ≤ 64 → S (d.bl.set i (mixB t (mkBk b) (getB d.bl i)))) : CS (d.write i b).1 S := by
  obtain ⟨q1, q2⟩ := stepD_bl d
  unfold Dk.write
  split
  · exact h
  · rename_i hn
    have hn' : (0 ≤ (i : Int) ∧ (i : Int) < d.bl.length ∧ b.length = 64) := Decidable.byContradiction hn
    split
    · rw [Int.toNat_natCast]
      refine CS.put (h.same q1 q2) (by rw [q1]; omega) _ fun t ht => ?_
      rw [q1]; exact hs (by omega) hn'.2.2 t ht
    · exact h.same q1 q2
theorem CS.flush {d : Dk} {S : List Bk → Prop} (h : CS d S) : CS d.flush.1 S := by
  obtain ⟨q1, q2⟩ := stepD_bl d
  unfold Dk.flush
  split
  · exact CS.flat rfl (by show S d.stepD.1.bl; rw [q1]; exact h.now)
  · exact h.same q1 q2
theorem write_ok {d : Dk} {i : Nat} {b : List Nat} (h : (d.write i b).2 = 0) : (d.write i b).1.bl = d.bl.set i (mkBk b) ∧ i < d.bl.length ∧ b.length = 64 := by
  obtain ⟨q1, q2⟩ := stepD_bl d
  unfold Dk.write at h ⊢
  split at h
  · cases h
  · rename_i hn
    rw [if_neg hn]
    have hn' : (0 ≤ (i : Int) ∧ (i : Int) < d.bl.length ∧ b.length = 64) := Decidable.byContradiction hn
    split at h
    · rename_i h2
      rw [if_pos h2, Int.toNat_natCast]
      exact ⟨by simp [Dk.put, q1], by omega, hn'.2.2⟩
    · cases h
theorem flush_ok {d : Dk} (h : (d.flush.2 == 0) = true) : d.flush.1.bl = d.bl ∧ d.flush.1.pd = [] := by
  obtain ⟨q1, q2⟩ := stepD_bl d
  unfold Dk.flush at h ⊢
  split at h
  · rename_i h2; rw [if_pos h2]; exact ⟨q1, rfl⟩
  · simp at h
theorem write_free {d : Dk} {i : Nat} {b : List Nat} (hi : i < d.bl.length) (hb : b.length = 64) (hr : d.rf = 0) : (d.write i b).2 = 0 ∧ (d.write i b).1.rf = 0 := by
  have hs : d.stepD = (d, true) := by unfold Dk.stepD; rw [if_neg (by omega)]
  unfold Dk.write
  rw [if_neg (by intro hn; exact hn ⟨by omega, by omega, hb⟩), hs, if_pos rfl]
  exact ⟨rfl, hr⟩
theorem flush_free {d : Dk} (hr : d.rf = 0) : (d.flush.2 == 0) = true ∧ d.flush.1.rf = 0 := by
  have hs : d.stepD = (d, true) := by unfold Dk.stepD; rw [if_neg (by omega)]
  unfold Dk.flush
  rw [hs, if_pos rfl]
  exact ⟨rfl, hr⟩
theorem layL_cs {a : Nat} {s : List Nat} {N : Nat} {S : List Bk → Prop} (k0 K : Nat)
    (hS : ∀ bl q t, S bl → bl.length = N → k0 ≤ q → q < K → t ≤ 64 → S (bl.set (jbB bl a q) (mixB t (mkBk (chunk s q)) (getB bl (jbB bl a q))))) :
    ∀ (m k : Nat) (d : Dk), d.bl.length = N → k0 ≤ k → k + m ≤ K → CS d S → CS (layL a s m k d).1 S
  | 0, k, d, hN, hk, hK, h => by unfold layL; exact h.flush
  | m + 1, k, d, hN, hk, hK, h => by
    have hw : CS (d.write (jbk d a k) (chunk s k)).1 S := h.write fun _ _ t ht => hS _ k t h.now hN hk (by omega) ht
    unfold layL
    split
    · exact layL_cs k0 K hS m (k + 1) _ (by rw [(write_len d (jbk d a k) (chunk s k)).1]; exact hN) (by omega) (by omega) hw
    · exact hw
theorem layL_ok {a : Nat} {s : List Nat} (ha : a ≤ 1) :
    ∀ (m k : Nat) (d : Dk), 1 ≤ d.bl.length → k + m ≤ half d → (layL a s m k d).2 = true → (layL a s m k d).1.pd = [] ∧ (layL a s m k d).1.bl.length = d.bl.length ∧
      (∀ q, k ≤ q → q < k + m → getB (layL a s m k d).1.bl (jbk d a q) = mkBk (chunk s q)) ∧ (∀ i, (∀ q, k ≤ q → q < k + m → i ≠ jbk d a q) → getB (layL a s m k d).1.bl i = getB d.bl i)
  | 0, k, d, h1, hK, h => by
    unfold layL at h ⊢
    obtain ⟨q1, q2⟩ := flush_ok h
    exact ⟨q2, by rw [q1], fun q hq hq2 => by omega, fun i _ => by rw [q1]⟩
  | m + 1, k, d, h1, hK, h => by
    unfold layL at h ⊢
    split at h
    · rename_i hw
      rw [if_pos hw]
      obtain ⟨q1, q2, q3⟩ := write_ok hw
      have hh : half (d.write (jbk d a k) (chunk s k)).1 = half d := by unfold half; rw [q1, List.length_set]
      have hj : ∀ q, jbk (d.write (jbk d a k) (chunk s k)).1 a q = jbk d a q := fun q => by show 1 + a * half _ + q = 1 + a * half d + q; rw [hh]
      have hlen : (d.write (jbk d a k) (chunk s k)).1.bl.length = d.bl.length := by rw [q1, List.length_set]
      obtain ⟨r1, r2, r3, r4⟩ := layL_ok ha m (k + 1) _ (by rw [hlen]; exact h1) (by rw [hh]; omega) h
      refine ⟨r1, by rw [r2, hlen], fun q hq hq2 => ?_, fun i hi => ?_⟩
      · by_cases hqk : q = k
        · subst hqk
          rw [r4 _ fun p hp hp2 => ?_, q1, jgetB_set q2, if_pos rfl]
          rw [hj]
          unfold jbk
          omega
        · have := r3 q (by omega) (by omega)
          rwa [hj] at this
      · rw [r4 i fun p hp hp2 => by rw [hj]; exact hi p (by omega) (by omega), q1, jgetB_set q2, if_neg (hi k (by omega) (by omega))]
    · cases h
theorem layL_free {a : Nat} {s : List Nat} (ha : a ≤ 1) : ∀ (m k : Nat) (d : Dk), 1 ≤ d.bl.length → k + m ≤ half d → (k + m) * 64 ≤ s.length → d.rf = 0 → (layL a s m k d).2 = true ∧ (layL a s m k d).1.rf = 0
  | 0, k, d, h1, hK, hs, hr => by unfold layL; exact flush_free hr
  | m + 1, k, d, h1, hK, hs, hr => by
    have hc : (chunk s k).length = 64 := by unfold chunk; rw [List.length_take, List.length_drop]; omega
    obtain ⟨q1, q2⟩ := write_free (jbk_lt h1 ha (show k < half d by omega)) hc hr
    have hl := write_len d (jbk d a k) (chunk s k)
    unfold layL
    rw [if_pos q1]
    exact layL_free ha m (k + 1) _ (by rw [hl.1]; exact h1) (by unfold half; rw [hl.1]; unfold half at hK; omega) (by omega) q2
theorem one_cs {d : Dk} {S : List Bk → Prop} (h : CS d S) {i : Nat} {b : List Nat} (hs : i < d.bl.length → b.length = 64 → ∀ t, t ≤ 64 → S (d.bl.set i (mixB t (mkBk b) (getB d.bl i)))) : CS (oneD d i b).1 S := by
  have hw := h.write hs
  unfold oneD
  split
  · exact hw.flush
  · exact hw
theorem one_ok {d : Dk} {i : Nat} {b : List Nat} (h : (oneD d i b).2 = true) : (oneD d i b).1.pd = [] ∧ (oneD d i b).1.bl = d.bl.set i (mkBk b) := by
  unfold oneD at h ⊢
  split at h
  · rename_i hw
    rw [if_pos hw]
    obtain ⟨q1, q2⟩ := flush_ok h
    exact ⟨q2, by rw [q1, (write_ok hw).1]⟩
  · cases h
theorem one_free {d : Dk} {i : Nat} {b : List Nat} (hi : i < d.bl.length) (hb : b.length = 64) (hr : d.rf = 0) : (oneD d i b).2 = true ∧ (oneD d i b).1.rf = 0 := by
  obtain ⟨q1, q2⟩ := write_free hi hb hr
  unfold oneD
  rw [if_pos q1]
  exact flush_free q2
def Pre (e l : List Nat) : Prop := ∀ j, j < e.length → l[j]? = e[j]?
theorem Pre.split {e l : List Nat} (h : Pre e l) : ∃ t, l = e ++ t := by
  refine ⟨l.drop e.length, ?_⟩
  apply List.ext_getElem?
  intro j
  by_cases hj : j < e.length
  · rw [h j hj, List.getElem?_append_left hj]
  · rw [List.getElem?_append_right (by omega), List.getElem?_drop]; congr 1; omega
theorem Pre.of {e l t : List Nat} (h : l = e ++ t) : Pre e l := fun j hj => by rw [h, List.getElem?_append_left hj]
theorem Pre.front {e f l : List Nat} (h : Pre (e ++ f) l) : Pre e l := fun j hj => by rw [h j (by simp; omega), List.getElem?_append_left hj]
theorem pre_set {bl : List Bk} {a k : Nat} {e : List Nat} {b : Bk} (h1 : 1 ≤ bl.length) (ha : a ≤ 1) (hk : k < halfB bl) (h : Pre e (areaB bl a)) (hel : e.length ≤ halfB bl * 64) (hb : ∀ i, i < 64 → k * 64 + i < e.length → b.1[i]? = e[k * 64 + i]?) : Pre e (areaB (bl.set (jbB bl a k) b) a) := fun j hj => by
  have hlt := jbB_lt h1 ha hk
  have hq : j / 64 < halfB bl := by omega
  have ej : j = j / 64 * 64 + j % 64 := by omega
  have hh : halfB (bl.set (jbB bl a k) b) = halfB bl := by unfold halfB; simp
  rw [ej, areaB_get (by simpa using h1) ha (by rw [hh]; exact hq) (Nat.mod_lt _ (by omega)), jbB_set, jgetB_set hlt]
  split
  · rename_i he
    have := (jbB_inj ha ha hq hk he).2
    rw [this, hb _ (Nat.mod_lt _ (by omega)) (by omega)]
  · rw [← areaB_get h1 ha hq (Nat.mod_lt _ (by omega)), ← ej]; exact h j hj
theorem openB_set {bl : List Bk} {i : Nat} (hi : i < bl.length) (h0 : i ≠ 0) (b : Bk) : openB (bl.set i b) = openB bl := by
  unfold openB; rw [jgetB_set hi, if_neg (fun h => h0 h.symm)]
theorem mixB_get {t i : Nat} (ht : t ≤ 64) (a b : Bk) : (mixB t a b).1[i]? = if i < t then a.1[i]? else b.1[i]? := by
  show (a.1.take t ++ b.1.drop t)[i]? = _
  have hl : (a.1.take t).length = t := by rw [List.length_take, a.2.1]; omega
  split
  · rename_i h
    rw [List.getElem?_append_left (by omega), List.getElem?_take, if_pos h]
  · rename_i h
    rw [List.getElem?_append_right (by omega), hl, List.getElem?_drop]; congr 1; omega
end Fk
set_option linter.unusedVariables false
set_option linter.unusedSimpArgs false
set_option maxRecDepth 100000
set_option maxHeartbeats 2000000
namespace Fk
open Go Go.Proofs Go.RowKit
def zE (n : Nat) (l : List Nat) : List Nat := if l.length < n then l ++ [0] else l
def OkR (rs : List (List Nat)) : Prop := ∀ r ∈ rs, 1 ≤ r.length ∧ r.length ≤ 1048576 ∧ ∀ x ∈ r, x < 256
structure Sf (bl : List Bk) (a : Nat) (rs : List (List Nat)) : Prop where
  op : openB bl = a
  h3 : 3 ≤ bl.length
  fit : (rawR rs).length ≤ halfB bl * 64
  pre : Pre (zE (halfB bl * 64) (rawR rs)) (areaB bl a)
theorem openB_le (bl : List Bk) : openB bl ≤ 1 := by unfold openB; omega
theorem Sf.ha {bl : List Bk} {a : Nat} {rs : List (List Nat)} (h : Sf bl a rs) : a ≤ 1 := by have := openB_le bl; have := h.op; omega
theorem zE_le {n : Nat} {l : List Nat} (h : l.length ≤ n) : (zE n l).length ≤ n := by
  unfold zE
  split
  · rw [List.length_append]; simp only [List.length_singleton]; omega
  · exact h
theorem Sf.parse {bl : List Bk} {a : Nat} {rs : List (List Nat)} (h : Sf bl a rs) (ok : OkR rs) : parseL (areaB bl a) = some (rs, (rawR rs).length) := by
  have hal := areaB_len (bl := bl) (by have := h.h3; omega) h.ha
  have hp := h.pre
  have hf := h.fit
  unfold zE at hp
  obtain ⟨t, ht⟩ := hp.split
  rw [ht] at hal ⊢
  by_cases q : (rawR rs).length < halfB bl * 64
  · rw [if_pos q, List.append_assoc]
    exact parse_end rs (fun r hr => ⟨(ok r hr).1, (ok r hr).2.1⟩) _ (.inr ⟨t, rfl⟩)
  · rw [if_neg q] at hal ⊢
    have : t = [] := List.eq_nil_of_length_eq_zero (by rw [List.length_append] at hal; omega)
    rw [this]
    exact parse_end rs (fun r hr => ⟨(ok r hr).1, (ok r hr).2.1⟩) _ (.inl rfl)
theorem rawR_snoc (rs : List (List Nat)) (r : List Nat) : rawR (rs ++ [r]) = rawR rs ++ frm 1 r := by simp [rawR]
structure JG (d : Dk) (g : Lg) (rs : List (List Nat)) : Prop where
  sf : Sf d.bl g.area rs
  pos : g.pos = (rawR rs).length
  ok : OkR rs
  ov : g.ov = false
theorem jsz_B (d : Dk) : jsz d = halfB d.bl * 64 := rfl
theorem JG.le {d : Dk} {g : Lg} {rs : List (List Nat)} (G : JG d g rs) : g.pos ≤ jsz d := by rw [G.pos, jsz_B]; exact G.sf.fit
theorem may_cases {g : Lg} (ho : g.ov = false) (l : Nat) {p n : Nat} (hp : p ≤ n) : mayD g ((n : Int) - p) [l] = if l < 1 ∨ l > 1048576 then 3 else if p + l + 8 ≤ n then 0 else 4 := by
  unfold mayD
  rw [if_neg (by simp [ho]), mayF_cons]
  split
  · rfl
  · unfold mayF
    by_cases q : p + l + 8 ≤ n
    · rw [if_pos q, if_neg (by simp; omega)]
    · rw [if_neg q, if_pos (by simp; omega)]
theorem mix_one {old : Bk} {x t : Nat} (ht : t ≤ 64) (hx : x < 64) (c : Nat) (hc : c < 256) : mixB t (mkBk (old.1.set x c)) old = if t ≤ x then old else mkBk (old.1.set x c) := by
  have hv : (mkBk (old.1.set x c)).1 = old.1.set x c := mkBk_val (by simp [old.2.1]) (fun y hy => by
    rcases List.mem_or_eq_of_mem_set hy with h | h
    · exact old.2.2 y h
    · omega)
  split
  · rename_i h
    apply Subtype.ext
    apply List.ext_getElem?
    intro i
    rw [mixB_get ht, hv]
    split
    · rw [List.getElem?_set_ne (by omega)]
    · rfl
  · rename_i h
    apply Subtype.ext
    apply List.ext_getElem?
    intro i
    rw [mixB_get ht, hv]
    split
    · rfl
    · rw [List.getElem?_set_ne (by omega)]
section
variable {d : Dk} {g : Lg} {rs : List (List Nat)} {r : List Nat}
theorem E1_eq (hp : g.pos = (rawR rs).length) (m : Nat) (hm : (frm 0 r).length = (frm m r).length) : zE (jsz d) (rawR rs ++ frm m r) = rawR rs ++ zEnd d g.pos (frm m r) := by
  unfold zE zEnd
  rw [List.length_append, ← hp]
  split
  · rw [List.append_assoc]
  · rfl
theorem apD_law (G : JG d g rs) (hl : d.bl.length ≤ 65536) (hpd : d.pd = []) (hr : ∀ x ∈ r, x < 256) :
    ((r.length < 1 ∨ r.length > 1048576) ∧ apD d g r = (d, g, 3)) ∨ (¬ (r.length < 1 ∨ r.length > 1048576) ∧ ¬ g.pos + r.length + 8 ≤ jsz d ∧ apD d g r = (d, g, 4)) ∨
    (¬ (r.length < 1 ∨ r.length > 1048576) ∧ g.pos + r.length + 8 ≤ jsz d ∧ (apD d g r).2.2 = 0 ∧ JG (apD d g r).1 (apD d g r).2.1 (rs ++ [r]) ∧ (apD d g r).1.pd = [] ∧ (apD d g r).1.bl.length = d.bl.length ∧ (apD d g r).2.1 = { g with pos := g.pos + (r.length + 8) } ∧ (d.rf = 0 → (apD d g r).1.rf = 0)) ∨
    (¬ (r.length < 1 ∨ r.length > 1048576) ∧ g.pos + r.length + 8 ≤ jsz d ∧ (apD d g r).2.2 = 200 ∧ (apD d g r).2.1 = { g with ov := true } ∧ d.rf ≠ 0 ∧ CS (apD d g r).1 (fun bl => bl.length = d.bl.length ∧ (Sf bl g.area rs ∨ Sf bl g.area (rs ++ [r])))) := by
  have hm := may_cases G.ov r.length G.le
  by_cases q1 : r.length < 1 ∨ r.length > 1048576
  · rw [if_pos q1] at hm
    exact .inl ⟨q1, by unfold apD; rw [if_pos (by rw [hm]; decide), hm]⟩
  rw [if_neg q1] at hm
  by_cases q2 : ¬ g.pos + r.length + 8 ≤ jsz d
  · rw [if_neg q2] at hm
    exact .inr (.inl ⟨q1, q2, by unfold apD; rw [if_pos (by rw [hm]; decide), hm]⟩)
  have q2 : g.pos + r.length + 8 ≤ jsz d := Decidable.byContradiction q2
  rw [if_pos q2] at hm
  refine .inr (.inr ?_)
  have hA := G.sf.ha
  have h1 : 1 ≤ d.bl.length := by have := G.sf.h3; omega
  have efl : (frm 0 r).length = r.length + 8 := frm_len 0 r
  have hfit : g.pos + (frm 0 r).length ≤ jsz d := by omega
  have hfb := frm_lt 0 r (by omega) hr
  obtain ⟨K, hSl, hKh, hpK, hKi⟩ := layS_len (d := d) h1 hA hfit
  have hSg := fun j => layS_get (d := d) h1 hA hfit (j := j)
  have hSb := layS_lt (d := d) (area := g.area) (p := g.pos) hfb
  have hzl : (frm 0 r).length ≤ (zEnd d g.pos (frm 0 r)).length := by unfold zEnd; split <;> simp
  have hz0 : (zEnd d g.pos (frm 0 r))[0]? = some 0 := by unfold zEnd frm; split <;> rfl
  have hel : (zE (jsz d) (rawR rs)).length = g.pos + 1 := by unfold zE; rw [if_pos (by rw [← G.pos]; omega)]; simp [G.pos]
  have he : ∀ j, j < g.pos + 1 → (zE (jsz d) (rawR rs))[j]? = if j < g.pos then (rawR rs)[j]? else some 0 := fun j hj => by
    unfold zE
    rw [if_pos (by rw [← G.pos]; omega)]
    split
    · rw [List.getElem?_append_left (by rw [← G.pos]; assumption)]
    · rw [List.getElem?_append_right (by rw [← G.pos]; omega), ← G.pos, show j - g.pos = 0 by omega]; rfl
  have hold : ∀ j, j < g.pos → (areaL d g.area)[j]? = (rawR rs)[j]? := fun j hj => by
    have := G.sf.pre j (by rw [← jsz_B, hel]; omega)
    rw [← jsz_B, he j (by omega), if_pos hj] at this
    exact this
  have hS1 : ∀ j, j < g.pos + 1 → (layS d g.area g.pos (frm 0 r))[j]? = (zE (jsz d) (rawR rs))[j]? := fun j hj => by
    have hp0 : g.pos / 64 * 64 < g.pos + (zEnd d g.pos (frm 0 r)).length := by omega
    have hpK' := (hKi (g.pos / 64)).1 hp0
    rw [hSg j (by rw [hSl]; omega), he j hj]
    split
    · rename_i h; exact hold j h
    · rw [if_pos (by omega), show j - g.pos = 0 by omega, hz0]
  have hcl : ∀ q, q < K → (chunk (layS d g.area g.pos (frm 0 r)) q).length = 64 := fun q hq => chunk_len hSl hq
  have hcv : ∀ q, q < K → (mkBk (chunk (layS d g.area g.pos (frm 0 r)) q)).1 = chunk (layS d g.area g.pos (frm 0 r)) q := fun q hq => mkBk_val (hcl q hq) (chunk_lt hSb)
  have hpre : ∀ bl q t, (bl.length = d.bl.length ∧ Sf bl g.area rs) → bl.length = d.bl.length → g.pos / 64 ≤ q → q < K → t ≤ 64 → (bl.set (jbB bl g.area q) (mixB t (mkBk (chunk (layS d g.area g.pos (frm 0 r)) q)) (getB bl (jbB bl g.area q)))).length = d.bl.length ∧ Sf (bl.set (jbB bl g.area q) (mixB t (mkBk (chunk (layS d g.area g.pos (frm 0 r)) q)) (getB bl (jbB bl g.area q)))) g.area rs := fun bl q t hbl hlen hq hqK ht => by
    obtain ⟨_, hs⟩ := hbl
    have hhb : halfB bl = half d := by unfold halfB half; rw [hlen]
    have hb1 : 1 ≤ bl.length := by omega
    have hlt := jbB_lt (bl := bl) (k := q) hb1 hA (by omega)
    have hh : ∀ b, halfB (bl.set (jbB bl g.area q) b) = halfB bl := fun b => by unfold halfB; simp
    refine ⟨by simpa using hlen, by rw [openB_set hlt (jbB_pos _ _ _)]; exact hs.op, by simpa using hs.h3, by rw [hh]; exact hs.fit, ?_⟩
    rw [hh]
    refine pre_set hb1 hA (by omega) hs.pre (zE_le hs.fit) fun i hi hij => ?_
    have ej : halfB bl * 64 = jsz d := by rw [hhb]; rfl
    rw [ej] at hij ⊢
    rw [hel] at hij
    rw [mixB_get ht]
    split
    · rw [hcv q hqK, chunk_get hi, hS1 _ hij]
    · rw [← areaB_get hb1 hA (by omega) hi]
      have := hs.pre (q * 64 + i) (by rw [ej, hel]; exact hij)
      rw [this, ej]
  have eL : layD d g.area g.pos (frm 0 r) = layL g.area (layS d g.area g.pos (frm 0 r)) (K - g.pos / 64) (g.pos / 64) d := by unfold layD; rw [hSl, Nat.mul_div_cancel _ (by omega)]
  have hcs : CS (layD d g.area g.pos (frm 0 r)).1 (fun bl => bl.length = d.bl.length ∧ Sf bl g.area rs) := by
    rw [eL]
    exact layL_cs (N := d.bl.length) (S := fun bl => bl.length = d.bl.length ∧ Sf bl g.area rs) (g.pos / 64) K hpre _ _ d rfl (Nat.le_refl _) (by omega) (CS.flat hpd ⟨rfl, G.sf⟩)
  have hfree : d.rf = 0 → (layD d g.area g.pos (frm 0 r)).2 = true ∧ (layD d g.area g.pos (frm 0 r)).1.rf = 0 := fun h0 => by
    rw [eL]; exact layL_free hA _ _ d h1 (by omega) (by rw [hSl]; omega) h0
  have eA : apD d g r = if (layD d g.area g.pos (frm 0 r)).2 = false then ((layD d g.area g.pos (frm 0 r)).1, { g with ov := true }, 200) else
      if (oneD (layD d g.area g.pos (frm 0 r)).1 (jbk d g.area (g.pos / 64)) ((getB (layD d g.area g.pos (frm 0 r)).1.bl (jbk d g.area (g.pos / 64))).1.set (g.pos % 64) 1)).2 = false
      then ((oneD (layD d g.area g.pos (frm 0 r)).1 (jbk d g.area (g.pos / 64)) ((getB (layD d g.area g.pos (frm 0 r)).1.bl (jbk d g.area (g.pos / 64))).1.set (g.pos % 64) 1)).1, { g with ov := true }, 200)
      else ((oneD (layD d g.area g.pos (frm 0 r)).1 (jbk d g.area (g.pos / 64)) ((getB (layD d g.area g.pos (frm 0 r)).1.bl (jbk d g.area (g.pos / 64))).1.set (g.pos % 64) 1)).1, { g with pos := g.pos + (r.length + 8) }, 0) := by unfold apD; rw [if_neg (by rw [hm]; decide)]
  by_cases c1 : (layD d g.area g.pos (frm 0 r)).2 = false
  · rw [if_pos c1] at eA
    rw [eA]
    refine .inr ⟨q1, q2, rfl, rfl, (fun h0 => by rw [(hfree h0).1] at c1; cases c1), hcs.mono fun bl h => ⟨h.1, .inl h.2⟩⟩
  have c1' : (layD d g.area g.pos (frm 0 r)).2 = true := by simpa using c1
  rw [if_neg c1] at eA
  have hok : (layD d g.area g.pos (frm 0 r)).1.pd = [] ∧ (layD d g.area g.pos (frm 0 r)).1.bl.length = d.bl.length ∧
      (∀ q, g.pos / 64 ≤ q → q < K → getB (layD d g.area g.pos (frm 0 r)).1.bl (jbk d g.area q) = mkBk (chunk (layS d g.area g.pos (frm 0 r)) q)) ∧ (∀ i, (∀ q, g.pos / 64 ≤ q → q < K → i ≠ jbk d g.area q) → getB (layD d g.area g.pos (frm 0 r)).1.bl i = getB d.bl i) := by
    rw [eL] at c1' ⊢
    have := layL_ok hA (K - g.pos / 64) (g.pos / 64) d h1 (by omega) c1'
    have e : g.pos / 64 + (K - g.pos / 64) = K := by omega
    rw [e] at this
    exact this
  generalize hL : layD d g.area g.pos (frm 0 r) = l at *
  obtain ⟨p1, p2, p3, p4⟩ := hok
  have hbl1 : 1 ≤ l.1.bl.length := by omega
  have hh1 : halfB l.1.bl = half d := by unfold halfB half; rw [p2]
  have hj1 : ∀ a k, jbB l.1.bl a k = jbk d a k := fun a k => by show 1 + a * halfB l.1.bl + k = 1 + a * half d + k; rw [hh1]
  have hjz : jsz d = half d * 64 := rfl
  have harea : ∀ j, j < g.pos + (zEnd d g.pos (frm 0 r)).length → (areaB l.1.bl g.area)[j]? = (rawR rs ++ zEnd d g.pos (frm 0 r))[j]? := fun j hj => by
    have hqK : j / 64 < K := (hKi (j / 64)).1 (by omega)
    have ej : j = j / 64 * 64 + j % 64 := by omega
    have e1 : (areaB l.1.bl g.area)[j]? = (getB l.1.bl (jbk d g.area (j / 64))).1[j % 64]? := by
      conv => lhs; rw [ej]
      rw [areaB_get hbl1 hA (by rw [hh1]; omega) (Nat.mod_lt _ (by omega)), hj1]
    rw [e1]
    by_cases hq : g.pos / 64 ≤ j / 64
    · rw [p3 _ hq hqK, hcv _ hqK, chunk_get (Nat.mod_lt _ (by omega)), ← ej, hSg j (by rw [hSl]; omega)]
      split
      · rename_i h; rw [hold j h, List.getElem?_append_left (by rw [← G.pos]; exact h)]
      · rw [if_pos (by omega), List.getElem?_append_right (by rw [← G.pos]; omega), ← G.pos]
    · have hjp : j < g.pos := by omega
      rw [p4 _ fun q hq1 hq2 e => by
        have := (jbB_inj (bl := d.bl) hA hA (show j / 64 < halfB d.bl by rw [← half_B]; omega) (show q < halfB d.bl by rw [← half_B]; omega) e).2
        omega]
      rw [← areaL_get h1 hA (by omega) (Nat.mod_lt _ (by omega)), ← ej, hold j hjp, List.getElem?_append_left (by rw [← G.pos]; exact hjp)]
  have hpk : g.pos / 64 < K := (hKi (g.pos / 64)).1 (by omega)
  have hilt : jbk d g.area (g.pos / 64) < l.1.bl.length := by rw [p2]; exact jbk_lt h1 hA (by omega)
  generalize hi : jbk d g.area (g.pos / 64) = i at *
  generalize hob : (getB l.1.bl i).1.set (g.pos % 64) 1 = ob at *
  have hobl : ob.length = 64 := by rw [← hob, List.length_set, (getB l.1.bl i).2.1]
  have hobb : ∀ x ∈ ob, x < 256 := fun x hx => by
    rw [← hob] at hx
    rcases List.mem_or_eq_of_mem_set hx with h | h
    · exact (getB l.1.bl i).2.2 x h
    · omega
  have hsf2 : Sf (l.1.bl.set i (mkBk ob)) g.area (rs ++ [r]) := by
    have hh2 : halfB (l.1.bl.set i (mkBk ob)) = half d := by unfold halfB; rw [List.length_set]; exact hh1
    have hop : openB l.1.bl = g.area := hcs.now.2.op
    refine ⟨?_, by rw [List.length_set, p2]; exact G.sf.h3, ?_, ?_⟩
    · rw [openB_set hilt (by rw [← hi]; exact jbB_pos d.bl _ _)]; exact hop
    · rw [hh2, rawR_snoc, List.length_append, frm_len, ← G.pos]; omega
    · rw [hh2, rawR_snoc, show half d * 64 = jsz d from rfl, E1_eq G.pos 1 (by rw [frm_len, frm_len])]
      have hzz : ∀ j, (rawR rs ++ zEnd d g.pos (frm 1 r))[j]? = if j = g.pos then some 1 else (rawR rs ++ zEnd d g.pos (frm 0 r))[j]? := fun j => by
        have ez : zEnd d g.pos (frm 1 r) = 1 :: (zEnd d g.pos (frm 0 r)).tail := by
          unfold zEnd; rw [frm_len, frm_len]; split <;> rfl
        have ez0 : zEnd d g.pos (frm 0 r) = 0 :: (zEnd d g.pos (frm 0 r)).tail := by
          unfold zEnd; split <;> rfl
        by_cases hj : j < g.pos
        · rw [if_neg (by omega), List.getElem?_append_left (by rw [← G.pos]; exact hj), List.getElem?_append_left (by rw [← G.pos]; exact hj)]
        · rw [List.getElem?_append_right (by rw [← G.pos]; omega), List.getElem?_append_right (by rw [← G.pos]; omega), ← G.pos, ez]
          split
          · rename_i h; rw [h, Nat.sub_self]; rfl
          · obtain ⟨y, hy⟩ : ∃ y, j - g.pos = y + 1 := ⟨j - g.pos - 1, by omega⟩
            rw [hy, List.getElem?_cons_succ]
            conv => rhs; rw [ez0]
            rw [List.getElem?_cons_succ]
      have hzl2 : (zEnd d g.pos (frm 1 r)).length = (zEnd d g.pos (frm 0 r)).length := by unfold zEnd; rw [frm_len, frm_len]; split <;> simp [frm_len]
      intro j hj
      rw [List.length_append, hzl2, ← G.pos] at hj
      have hzle := zEnd_len hfit
      have ej : j = j / 64 * 64 + j % 64 := by omega
      have e1 : (areaB (l.1.bl.set i (mkBk ob)) g.area)[j]? = (getB (l.1.bl.set i (mkBk ob)) (jbk d g.area (j / 64))).1[j % 64]? := by
        conv => lhs; rw [ej]
        rw [areaB_get (by rw [List.length_set]; exact hbl1) hA (by rw [hh2]; omega) (Nat.mod_lt _ (by omega)), jbB_set, hj1]
      have e0 : (areaB l.1.bl g.area)[j]? = (getB l.1.bl (jbk d g.area (j / 64))).1[j % 64]? := by
        conv => lhs; rw [ej]
        rw [areaB_get hbl1 hA (by rw [hh1]; omega) (Nat.mod_lt _ (by omega)), hj1]
      rw [hzz, e1, jgetB_set hilt]
      by_cases hji : jbk d g.area (j / 64) = i
      · rw [if_pos hji, mkBk_val hobl hobb, ← hob]
        rw [hji] at e0
        have hqq : j / 64 = g.pos / 64 := by rw [← hi] at hji; unfold jbk at hji; omega
        by_cases hjp : j = g.pos
        · subst hjp
          rw [if_pos rfl, List.getElem?_set_self (by rw [(getB l.1.bl i).2.1]; exact Nat.mod_lt _ (by omega))]
        · rw [if_neg hjp, List.getElem?_set_ne (by omega), ← e0]; exact harea j hj
      · have hjp : j ≠ g.pos := fun h => hji (by rw [h, hi])
        rw [if_neg hji, if_neg hjp, ← e0]; exact harea j hj
  have hcs2 : CS (oneD l.1 i ob).1 (fun bl => bl.length = d.bl.length ∧ (Sf bl g.area rs ∨ Sf bl g.area (rs ++ [r]))) := by
    refine one_cs (CS.flat p1 ⟨p2, .inl hcs.now.2⟩) fun _ _ t ht => ⟨by rw [List.length_set]; exact p2, ?_⟩
    rw [← hob, mix_one ht (Nat.mod_lt _ (by omega)) 1 (by omega)]
    split
    · rw [getB_eq hilt, List.set_getElem_self]; exact .inl hcs.now.2
    · rw [hob]; exact .inr hsf2
  have hfr : d.rf = 0 → (oneD l.1 i ob).2 = true ∧ (oneD l.1 i ob).1.rf = 0 := fun h0 => one_free hilt hobl (hfree h0).2
  by_cases c2 : (oneD l.1 i ob).2 = false
  · rw [if_pos c2] at eA
    rw [eA]
    exact .inr ⟨q1, q2, rfl, rfl, (fun h0 => by rw [(hfr h0).1] at c2; cases c2), hcs2⟩
  · rw [if_neg c2] at eA
    rw [eA]
    obtain ⟨o1, o2⟩ := one_ok (show (oneD l.1 i ob).2 = true by simpa using c2)
    refine .inl ⟨q1, q2, rfl, ⟨by simp only [o2]; exact hsf2, ?_, ?_, G.ov⟩, o1, by simp only [o2, List.length_set]; exact p2, rfl, fun h0 => (hfr h0).2⟩
    · rw [rawR_snoc, List.length_append, frm_len, ← G.pos]
    · intro x hx
      rcases List.mem_append.1 hx with h | h
      · exact G.ok x h
      · simp at h; subst h; exact ⟨by omega, by omega, hr⟩
end
end Fk
set_option linter.unusedVariables false
set_option linter.unusedSimpArgs false
set_option maxRecDepth 100000
set_option maxHeartbeats 2000000
namespace Fk
open Go Go.Proofs Go.RowKit
def sum8 : List Nat → Nat
  | [] => 0
  | l :: ls => l + 8 + sum8 ls
theorem sum8_cons (l : Nat) (ls : List Nat) : sum8 (l :: ls) = l + 8 + sum8 ls := rfl
theorem rawR_cons (r : List Nat) (rs : List (List Nat)) : rawR (r :: rs) = frm 1 r ++ rawR rs := rfl
theorem rawR_len : ∀ rs : List (List Nat), (rawR rs).length = sum8 (rs.map List.length)
  | [] => rfl
  | r :: rs => by rw [rawR_cons, List.length_append, frm_len, rawR_len rs]; rfl
theorem mayF_ok : ∀ (ls : List Nat) (room : Int) (full : Bool), (∀ l ∈ ls, ¬ (l < 1 ∨ l > 1048576)) → -1 ≤ room → (full = false → 0 ≤ room) → mayF room full ls = if full = true ∨ (sum8 ls : Int) > room then 4 else 0
  | [], room, full, h, h1, h2 => by
    unfold mayF sum8
    cases full
    · have := h2 rfl
      rw [if_neg (by simp), if_neg (by simp; omega)]
    · rw [if_pos rfl, if_pos (.inl rfl)]
  | l :: ls, room, full, h, h1, h2 => by
    have hl := h l (by simp)
    rw [mayF_cons, if_neg hl, mayF_ok ls _ _ (fun x hx => h x (by simp [hx])) (by omega) (fun hf => by simp at hf; omega)]
    cases full
    · have := h2 rfl
      rw [sum8_cons]
      by_cases q : (l : Int) + 8 ≤ room
      · have e : min ((l : Int) + 8) (room + 1) = (l : Int) + 8 := by omega
        rw [e]
        by_cases q2 : ((l + 8 + sum8 ls : Nat) : Int) > room
        · rw [if_pos (.inr (by omega)), if_pos (.inr q2)]
        · rw [if_neg, if_neg]
          · simp; omega
          · simp; omega
      · have e : min ((l : Int) + 8) (room + 1) = room + 1 := by omega
        rw [e, if_pos (.inl (by simp; omega)), if_pos (.inr (by omega))]
    · rw [if_pos (.inl (by simp)), if_pos (.inl rfl)]
theorem mayF_bad : ∀ (ls : List Nat) (room : Int) (full : Bool), (∃ l ∈ ls, l < 1 ∨ l > 1048576) → mayF room full ls = 3
  | [], room, full, h => by simp at h
  | l :: ls, room, full, h => by
    rw [mayF_cons]
    split
    · rfl
    · rename_i hl
      refine mayF_bad ls _ _ ?_
      obtain ⟨x, hx, hx2⟩ := h
      rcases List.mem_cons.1 hx with rfl | hx
      · exact absurd hx2 hl
      · exact ⟨x, hx, hx2⟩
theorem may_all {g : Lg} {room : Int} {ls : List Nat} (h1 : 0 ≤ room) (h : mayD g room ls = 0) : g.ov = false ∧ (∀ l ∈ ls, ¬ (l < 1 ∨ l > 1048576)) ∧ (sum8 ls : Int) ≤ room := by
  unfold mayD at h
  split at h
  · cases h
  · rename_i ho
    have ha : ∀ l ∈ ls, ¬ (l < 1 ∨ l > 1048576) := fun l hl hb => by rw [mayF_bad ls _ _ ⟨l, hl, hb⟩] at h; cases h
    rw [mayF_ok ls _ _ ha (by omega) (fun _ => h1)] at h
    refine ⟨by simpa using ho, ha, ?_⟩
    split at h
    · cases h
    · rename_i hn; simp at hn; omega
def hdB (a : Nat) : List Nat := a :: List.replicate 63 0
def rwD (d : Dk) (g : Lg) (rs : List (List Nat)) : Dk × Lg × Int :=
  if mayD g (jsz d : Int) (rs.map List.length) ≠ 0 then (d, g, mayD g (jsz d : Int) (rs.map List.length)) else
  if (layD d (1 - g.area) 0 (rawR rs)).2 = false then ((layD d (1 - g.area) 0 (rawR rs)).1, { g with ov := true }, 200) else
  if (oneD (layD d (1 - g.area) 0 (rawR rs)).1 0 (hdB (1 - g.area))).2 = false then ((oneD (layD d (1 - g.area) 0 (rawR rs)).1 0 (hdB (1 - g.area))).1, { g with ov := true }, 200)
    else ((oneD (layD d (1 - g.area) 0 (rawR rs)).1 0 (hdB (1 - g.area))).1, ⟨1 - g.area, (rawR rs).length, g.ov⟩, 0)
/-- Records as they are read. -/
def RRr (w : World) (a : Option Addr) (rs : List (List Nat)) : Prop :=
  ∃ ps : List SH, RowAt w a 1 sE ps ∧ ps.length = rs.length ∧ ∀ (i : Nat) (p : SH) (r : List Nat), ps[i]? = some p → rs[i]? = some r → p.2.1 = r.length ∧ RowAt w p.1 1 b1 r
theorem RRr.md {w w' : World} {a : Option Addr} {rs : List (List Nat)} (h : RRr w a rs) (hm : Md [] w w') : RRr w' a rs := by
  obtain ⟨ps, h1, h2, h3⟩ := h
  exact ⟨ps, h1.md hm, h2, fun i p r hp hr => ⟨(h3 i p r hp hr).1, (h3 i p r hp hr).2.md hm⟩⟩
theorem RRo.r {w : World} {bx : Nat} {a : Option Addr} {c : Nat} {rs : List (List Nat)} (h : RRo w bx a c rs) : RRr w a rs := by
  obtain ⟨ps, h1, h2, h3⟩ := h
  exact ⟨ps, h1.row encsE, h2, fun i p r hp hr => ⟨(h3 i p r hp hr).1, (h3 i p r hp hr).2.1.choose_spec.row encb1⟩⟩
theorem RRr_lens {w : World} {rs : List (List Nat)} {ps : List SH} (h2 : ps.length = rs.length) (h3 : ∀ (i : Nat) (p : SH) (r : List Nat), ps[i]? = some p → rs[i]? = some r → p.2.1 = r.length ∧ RowAt w p.1 1 b1 r) : ps.map (·.2.1) = rs.map List.length := by
  apply List.ext_getElem?
  intro i
  rw [List.getElem?_map, List.getElem?_map]
  by_cases hi : i < ps.length
  · rw [List.getElem?_eq_getElem hi, List.getElem?_eq_getElem (by omega)]
    simp only [Option.map_some]
    rw [(h3 i ps[i] (rs[i]'(by omega)) (List.getElem?_eq_getElem hi) (List.getElem?_eq_getElem _)).1]
  · rw [List.getElem?_eq_none (by omega), List.getElem?_eq_none (by omega)]; rfl
section
variable {w0 w : World} {n : Nat} {d : Dk} {F : List Nat} {ln : Nat} {g : Lg}
theorem f130_ok (S : JS w0 w n d F ln g) (h1 : 1 ≤ d.bl.length) (hpd : d.pd.length < 2 ^ 28) (ha : g.area ≤ 1) (rs : List (List Nat)) (hrs : ∀ r ∈ rs, ∀ x ∈ r, x < 256) (hrl : rs.length < 2 ^ 30) (A : Option Addr) (C : Nat) (hr : RRr w A rs) :
    Ct Try.prog 130 #[.pointer (some ⟨ln, 0, none⟩), .slice A rs.length C] w fun v w' =>
      (v = .int .i64 (rwD d g rs).2.2 ∧ ∃ F', JS w0 w' n (rwD d g rs).1 F' ln (rwD d g rs).2.1 ∧ Fr w F F') ∧ Md (ln :: F) w w' := by
  have hlen := S.len
  have hhl := half_le hlen
  have hjz : jsz d = half d * 64 := rfl
  apply f130_in
  refine Jn_in (fun us vs w' => us = [.int .i64 (jsz d : Int)] ∧ JS w0 w' n d F ln g ∧ Md [] w w') ?_ ?_
  case refine_2 =>
    exact in196 S (by simp) fun w84 S84 m84 => Bd_e rfl <| If_t <| in197 S84 h1 (by simp) fun w95 S95 m95 => ⟨rfl, S95, m84.trans m95⟩
  rintro us vs w3 ⟨rfl, S3, m3⟩
  obtain ⟨ps, p1, p2, p3⟩ := hr.md m3
  have hls := RRr_lens p2 p3
  have c198 := f198_ok S3 ps (by omega) A C p1 (jsz d : Int) (by omega) (by omega)
  rw [hls, p2] at c198
  refine opI_in <| c198.call (by simp) ?_
  rintro v w6 rfl m6
  have S6 := S3.md0 m6
  have mm6 : Md [] w w6 := m3.trans m6
  refine opI_in <| Bd_in fun b10 hb10 => If_in (fun hb => ?_) fun hb => ?_
  · have hne : mayD g (jsz d : Int) (rs.map List.length) ≠ 0 := by rw [hb10] at hb; simpa using hb
    have e : rwD d g rs = (d, g, mayD g (jsz d : Int) (rs.map List.length)) := by unfold rwD; rw [if_pos hne]
    rw [e]
    exact ⟨⟨rfl, F, S6, Fr.refl _ _⟩, mm6.mono (by simp)⟩
  have he0 : mayD g (jsz d : Int) (rs.map List.length) = 0 := by rw [hb10] at hb; simpa using hb
  obtain ⟨hov, hok, hsum⟩ := may_all (by omega) he0
  have hrl2 := rawR_len rs
  have hfit : 0 + (rawR rs).length ≤ jsz d := by omega
  have hrb : ∀ x ∈ rawR rs, x < 256 := fun x hx => by
    simp only [rawR, List.mem_flatMap] at hx
    obtain ⟨r, hr1, hr2⟩ := hx
    exact frm_lt 1 r (by omega) (hrs r hr1) x hr2
  have e : rwD d g rs = if (layD d (1 - g.area) 0 (rawR rs)).2 = false then ((layD d (1 - g.area) 0 (rawR rs)).1, { g with ov := true }, 200) else
      if (oneD (layD d (1 - g.area) 0 (rawR rs)).1 0 (hdB (1 - g.area))).2 = false then ((oneD (layD d (1 - g.area) 0 (rawR rs)).1 0 (hdB (1 - g.area))).1, { g with ov := true }, 200)
      else ((oneD (layD d (1 - g.area) 0 (rawR rs)).1 0 (hdB (1 - g.area))).1, ⟨1 - g.area, (rawR rs).length, g.ov⟩, 0) := by unfold rwD; rw [if_neg (by simp [he0])]
  have hLl := layD_len (b := rawR rs) h1 hlen (show 1 - g.area ≤ 1 by omega) hfit
  generalize hL : layD d (1 - g.area) 0 (rawR rs) = l at *
  refine Bd_e rfl ?_
  refine LoopP_in (fun mm us vs w' => ∃ (i : Nat) (a : Option Addr) (c : Nat), us = [.slice a (rawR (rs.take i)).length c, .int .i64 i] ∧ mm = rs.length - i ∧ i ≤ rs.length ∧ OwnL w' w6.heap.size 5 1 b1 a c (rawR (rs.take i)) ∧ Md [] w6 w') rs.length
    ⟨0, none, 0, rfl, rfl, by omega, OwnL.nil _ _ _ _ _, Md.refl _ _⟩ ?_
  rintro mm us vs w13 ⟨i, a, c, rfl, hmm, hi, o13, m13⟩
  have S13 := S6.md0 m13
  refine opL_in <| opI_in <| Bd_in fun b18 hb18 => If_in (fun hbb => ?_) fun hbb => ?_
  · have hil : i < rs.length := by rw [hb18] at hbb; have : (i : Int) < (rs.length : Int) := of_decide_eq_true hbb
                                   omega
    have hip : i < ps.length := by omega
    have p13 := (p1.md m6).md m13
    obtain ⟨r1, r2⟩ := p3 i ps[i] rs[i] (List.getElem?_eq_getElem hip) (List.getElem?_eq_getElem hil)
    have r13 := (r2.md m6).md m13
    have hix := p13.ix hip
    rw [p2] at hix
    have hl1 := hok rs[i].length (List.mem_map.2 ⟨_, List.getElem_mem hil, rfl⟩)
    have hAs : (ps[i]).1.isSome = true := by
      obtain ⟨B, hB, _⟩ := r13 0 (rs[i][0]'(by omega)) (List.getElem?_eq_getElem (by omega)); rw [hB]; rfl
    refine ⟨hix, p13.ld1 hip rfl <| opL_in ?_⟩
    rw [r1]
    refine (f199_ok rs[i] (hrs _ (List.getElem_mem hil)) (by omega) 1 (by omega) (ps[i]).1 (ps[i]).2.2 w13 r13 hAs).call (by simp) ?_
    rintro v w24 ⟨a25, c27, rfl, o24⟩ m24
    have etk : rawR (rs.take (i + 1)) = rawR (rs.take i) ++ frm 1 rs[i] := by rw [List.take_succ_eq_append_getElem hil, rawR_snoc]
    have hlt : (rawR (rs.take i)).length + (frm 1 rs[i]).length ≤ (rawR rs).length := by
      rw [← List.length_append, ← etk]
      have : rawR rs = rawR (rs.take (i + 1)) ++ rawR (rs.drop (i + 1)) := by rw [rawR, rawR, rawR, ← List.flatMap_append, List.take_append_drop]
      rw [this, List.length_append]; omega
    refine opL_in <| app_own rowT51 encb1 (o13.md m24) o24 (by have := m13.size; have := m24.size; omega) (by simp) (by simp) (by simp [maxLen]; omega) (by omega) fun a' c' w29 o29 m29 hA => opL_in <| Bd_e (inc_i64 (by omega)) ?_
    rw [← etk] at o29 ⊢
    exact ⟨rs.length - (i + 1), by omega, i + 1, a', c', rfl, rfl, by omega, o29, (m13.trans m24).old m29 fun q hq => by obtain ⟨B, hB, rfl⟩ := mem_blk hq; exact (o13.lt hB).1⟩
  · have hil : i = rs.length := by
      have : ¬ (i : Int) < (rs.length : Int) := by rw [hb18] at hbb; exact of_decide_eq_false hbb
      omega
    subst hil
    rw [List.take_length] at o13 ⊢
    obtain ⟨w35, hr35, o35, m35⟩ := made5 64 w13 (by omega)
    refine RunW_in hr35 (fun b hb => by cases hb) <| opL_in ?_
    have S35 := S13.md0 m35
    have hix35 := (o35.row encb1).ix (i := 0) (by simp)
    rw [List.length_replicate] at hix35
    have ex : ((1 - g.area : Nat) : Int) = 1 - (g.area : Int) := by omega
    obtain ⟨B, hB, t1, t2, t3, t4, t5, t6⟩ := o35.put encb1 (by omega) (i := 0) (by simp) (1 - g.area)
    cases hB
    refine NN_in <| S35.blk.ld (j := 1) rfl <| opI_in <| Bd_e (y := ((1 - g.area : Nat) : Int)) (by rw [ex, IntKind.wrap_i64]; omega) <| Bd_e (y := ((1 - g.area : Nat) : Int)) (by rw [IntKind.wrap_u8]; omega) ⟨hix35, by simp, t4, NN_in ?_⟩
    have m36 : Md [] w13 (setCells w35 (adAt (some ⟨w13.heap.size, 0, none⟩) ((0 : Nat) : Int) 1) 0 (b1 (1 - g.area))) := m35.old t6 (by simp)
    have S36 := S13.md0 m36
    have ehd : (List.replicate 64 0).set 0 (1 - g.area) = hdB (1 - g.area) := rfl
    rw [ehd] at t5
    have o36 := o13.md m36
    refine S36.blk.ld (j := 1) rfl <| opI_in <| Bd_e (y := ((1 - g.area : Nat) : Int)) (by rw [ex, IntKind.wrap_i64]; omega) ?_
    have hsepH : ∀ D, a = some D → D.block ≠ w13.heap.size := fun D hD => by have := (o13.lt hD).2; omega
    have c200 := f200_ok S36 h1 (by omega) (1 - g.area) 0 (by omega) (rawR rs) hrb hfit w6.heap.size a c o36 fun D hD => by
      have := (o36.lt hD).1
      refine ⟨fun h => ?_, fun h => ?_, ?_⟩
      · have := S6.blk.lt; omega
      · have := S6.ds.dk.lt _ h; omega
      · have := S6.ds.md.size; omega
    rw [hL] at c200
    generalize hw36 : (setCells w35 (adAt (some ⟨w13.heap.size, 0, none⟩) ((0 : Nat) : Int) 1) 0 (b1 (1 - g.area))) = w36 at *
    have hw36' : setCells w35 (adAt (some ⟨w13.heap.size, 0, none⟩) 0 1) 0 [Value.int IntKind.u8 ((1 - g.area : Nat) : Int)] = w36 := hw36
    rw [hw36']
    refine c200.callD (by simp) (by simp) ?_
    rintro v w49 ⟨rfl, F2, S49, f49⟩ m49
    have mm36 : Md [] w w36 := (mm6.trans m13).trans m36
    have mm49 : Md F w w49 := (mm36.mono (by simp)).fr m49 fun b hb => by
      rcases List.mem_append.1 hb with h | h
      · obtain ⟨D, hD, rfl⟩ := mem_blk h
        have := (o13.lt hD).1
        exact .inr (by have := mm6.size; omega)
      · exact .inl h
    have f2 : Fr w F F2 := fun b hb => (f49 b hb).imp id (fun h => by have := mm36.size; omega)
    have o49 := t5.mdD m49 (fun D hD => by
      cases hD
      intro hx
      rcases List.mem_append.1 hx with h | h
      · obtain ⟨D, hD, e⟩ := mem_blk h; exact hsepH D hD e
      · have := S13.ds.dk.lt _ h; simp at this)
    have hHF2 : w13.heap.size ∉ F2 := fun h => by
      rcases f49 _ h with h | h
      · have := S13.ds.dk.lt _ h; omega
      · have := (t5.lt rfl).2; simp at this; omega
    have mF : ∀ {w'' : World}, Md F w w'' → Md (ln :: F) w w'' := fun h => h.mono fun y hy => List.mem_cons_of_mem _ hy
    refine opB_in <| Bd_e rfl ?_
    have fin200 : ∀ (w79 : World) (d' : Dk) (F' : List Nat), JS w0 w79 n d' F' ln g → Fr w F F' → Md F w w79 → rwD d g rs = (d', { g with ov := true }, 200) →
        NN (some (Addr.mk ln 0 none)) fun A82 => ¬Addr.block A82 ∈ [] ∧ Wr w79 (Addr.add A82 3) 1 ∧ ((Value.int IntKind.i64 200 = .int .i64 (rwD d g rs).2.2 ∧ ∃ F', JS w0 (setCells w79 (Addr.add A82 3) 0 [Value.bool true]) n (rwD d g rs).1 F' ln (rwD d g rs).2.1 ∧ Fr w F F') ∧ Md (ln :: F) w (setCells w79 (Addr.add A82 3) 0 [Value.bool true])) := fun w79 d' F' S79 f79 m79 hx => by
      rw [hx]
      obtain ⟨u1, u2, u3⟩ := S79.set (j := 3) (v := .bool true) (g' := { g with ov := true }) (by omega) rfl
      exact NN_in ⟨by simp, u3, ⟨rfl, F', u1, f79⟩, (mF m79).trans (u2.mono (by simp))⟩
    by_cases c1 : l.2 = false
    · rw [if_pos c1] at e
      rw [c1]
      refine ⟨fun h => by simp at h, Bd_e rfl <| Gd_f <| Gd_f <| Bd_e rfl <| Bd_e rfl ⟨fun h => by simp at h, Bd_e rfl <| Gd_f <| Gd_f <| Bd_e rfl <| Bd_e rfl <| If_t ?_⟩⟩
      exact fin200 _ _ _ S49 f2 mm49 e
    have c1' : l.2 = true := by simpa using c1
    rw [if_neg c1] at e
    rw [c1']
    have hh64 : (hdB (1 - g.area)).length = 64 := rfl
    have hhb : ∀ x ∈ hdB (1 - g.area), x < 256 := fun x hx => by
      rcases List.mem_cons.1 hx with rfl | hx
      · omega
      · have := List.eq_of_mem_replicate hx; omega
    refine ⟨fun _ => rfl, Bd_e rfl <| Gd_t <| S49.blk.ld (j := 0) rfl <| opP_in <| Gd_t ?_⟩
    refine in114 (L := []) S49.ds (LF.nil _ _) ((0 : Nat) : Int) (b := hdB (1 - g.area)) hh64.symm hhb (by rw [hh64]; omega) (by omega) (o49.row encb1) (fun D hD => by cases hD; exact hHF2) fun F3 w61 S61 m61 f61 _ => ?_
    have S61' := S49.step S61 m61 f61
    have mm61 := mm49.fr m61 f2
    have f3 : Fr w F F3 := f2.trans f61 mm49.size
    refine Bd_in fun b65 hb65 => ?_
    by_cases c2 : (l.1.write ((0 : Nat) : Int) (hdB (1 - g.area))).2 = 0
    · have e65 : b65 = false := by rw [hb65, c2]; rfl
      subst e65
      refine Bd_e rfl ⟨fun _ => rfl, Bd_e rfl <| Gd_t <| S61'.blk.ld (j := 0) rfl <| opP_in <| Gd_t <| in103 (L := []) S61'.ds (LF.nil _ _) fun F4 w76 S76 m76 f76 _ => ?_⟩
      have S76' := S61'.step S76 m76 f76
      have mm76 := mm61.fr m76 f3
      have f4 : Fr w F F4 := f3.trans f76 mm61.size
      have eo : oneD l.1 0 (hdB (1 - g.area)) = ((l.1.write ((0 : Nat) : Int) (hdB (1 - g.area))).1.flush.1, (l.1.write ((0 : Nat) : Int) (hdB (1 - g.area))).1.flush.2 == 0) := by unfold oneD; rw [if_pos c2]
      rw [eo] at e
      refine Bd_in fun b80 hb80 => ?_
      by_cases c3 : (l.1.write ((0 : Nat) : Int) (hdB (1 - g.area))).1.flush.2 = 0
      · have e80 : b80 = false := by rw [hb80, c3]; rfl
        subst e80
        rw [if_neg (by rw [c3]; simp)] at e
        refine Bd_e rfl <| If_f <| NN_in <| S76'.blk.ld (j := 1) rfl <| opI_in <| Bd_e (y := ((1 - g.area : Nat) : Int)) (by rw [ex, IntKind.wrap_i64]; omega) <| Bd_e rfl ?_
        obtain ⟨u1, u2, u3⟩ := S76'.set (j := 1) (v := .int .i64 ((1 - g.area : Nat) : Int)) (g' := ⟨1 - g.area, g.pos, g.ov⟩) (by omega) rfl
        obtain ⟨x1, x2, x3⟩ := u1.set (j := 2) (v := .int .i64 (((rawR rs).length : Nat) : Int)) (g' := ⟨1 - g.area, (rawR rs).length, g.ov⟩) (by omega) rfl
        rw [e]
        exact NN_in ⟨by simp, u3, NN_in ⟨by simp, x3, ⟨rfl, F4, x1, f4⟩, ((mF mm76).trans (u2.mono (by simp))).trans (x2.mono (by simp))⟩⟩
      · have e80 : b80 = true := by rw [hb80]; simpa using c3
        subst e80
        rw [if_pos (by simpa using c3)] at e
        exact Bd_e rfl <| If_t (fin200 _ _ _ S76' f4 mm76 e)
    · have e65 : b65 = true := by rw [hb65]; simpa using c2
      subst e65
      have eo : oneD l.1 0 (hdB (1 - g.area)) = ((l.1.write ((0 : Nat) : Int) (hdB (1 - g.area))).1, false) := by unfold oneD; rw [if_neg c2]
      rw [eo, if_pos rfl] at e
      refine Bd_e rfl ⟨fun h => by simp at h, Bd_e rfl <| Gd_f <| Gd_f <| Bd_e rfl <| Bd_e rfl <| If_t ?_⟩
      exact fin200 _ _ _ S61' f3 mm61 e
end
end Fk
set_option linter.unusedVariables false
set_option linter.unusedSimpArgs false
set_option maxRecDepth 100000
set_option maxHeartbeats 2000000
namespace Fk
open Go Go.Proofs Go.RowKit
structure JT (L : List Nat) (w0 w : World) (n : Nat) (d : Dk) (F : List Nat) (ln : Nat) (g : Lg) (a : Option Addr) (c : Nat) (rs : List (List Nat)) : Prop where
  js : JS w0 w n d F ln g
  ow : OwnL w w0.heap.size 9 1 tE a c rs
  sep : ∀ A, a = some A → A.block ∉ ln :: F
  lf : LF L w (ln :: F)
  la : ∀ b ∈ L, ∀ A, a = some A → A.block ≠ b
section
variable {L : List Nat} {w0 w : World} {n : Nat} {d : Dk} {F : List Nat} {ln : Nat} {g : Lg} {a : Option Addr} {c : Nat} {rs : List (List Nat)}
theorem JT.lt (T : JT L w0 w n d F ln g a c rs) : ∀ b ∈ L, b < w.heap.size := fun b hb => (T.lf b hb).1
theorem JT.md0 {w' : World} (T : JT L w0 w n d F ln g a c rs) (hm : Md [] w w') : JT L w0 w' n d F ln g a c rs :=
  ⟨T.js.md0 hm, T.ow.md hm, T.sep, T.lf.md hm.size, T.la⟩
theorem frc {w : World} {F F' : List Nat} (ln : Nat) (h : Fr w F F') : Fr w (ln :: F) (ln :: F') := fun x hx => by
  rcases List.mem_cons.1 hx with rfl | hx
  · exact .inl (by simp)
  · exact (h x hx).imp (fun h => List.mem_cons_of_mem _ h) id
theorem JT.jd {w' : World} {d' : Dk} {F' : List Nat} {g' : Lg} (T : JT L w0 w n d F ln g a c rs) (S : JS w0 w' n d' F' ln g') (hm : Md (ln :: F) w w') (hf : Fr w F F') : JT L w0 w' n d' F' ln g' a c rs :=
  ⟨S, T.ow.mdD hm T.sep, fun A hA hx => by
    rcases frc ln hf _ hx with h | h
    · exact T.sep A hA h
    · have := (T.ow.lt hA).2; omega, T.lf.fr (frc ln hf) hm.size, T.la⟩
theorem JT.lo (T : JT L w0 w n d F ln g a c rs) : ∀ b ∈ ln :: F, w0.heap.size ≤ b := fun b hb => by
  rcases List.mem_cons.1 hb with rfl | hb
  · exact T.js.lo
  · exact T.js.ds.lo b hb
theorem JT.up (T : JT L w0 w n d F ln g a c rs) : ∀ b ∈ ln :: F, b < w.heap.size := fun b hb => by
  rcases List.mem_cons.1 hb with rfl | hb
  · exact T.js.blk.lt
  · exact T.js.ds.dk.lt b hb
theorem JT.app (T : JT L w0 w n d F ln g a c rs) (h1 : 1 ≤ d.bl.length) (hpd : d.pd.length < 2 ^ 28) (ha : g.area ≤ 1) (hp : g.pos ≤ jsz d) (r : List Nat) (hr : ∀ x ∈ r, x < 256) {A : Option Addr} {C m : Nat} (hm : m = r.length) (ho : RowAt w A 1 b1 r) {K : Int → World → Prop}
    (k : ∀ F' w', JT L w0 w' n (apD d g r).1 F' ln (apD d g r).2.1 a c rs → Md (ln :: F) w w' → Fr w F F' → K (apD d g r).2.2 w') :
    CallW Try.prog L 124 #[.pointer (some ⟨ln, 0, none⟩), .slice A m C] (fun v w' => opI .i64 v fun x => K x w') w :=
  in124 T.js h1 hpd ha hp r hr hm ho T.lf fun F' w' S' m' f' _ => k F' w' (T.jd S' m' f') m' f'
theorem JT.rw (T : JT L w0 w n d F ln g a c rs) (h1 : 1 ≤ d.bl.length) (hpd : d.pd.length < 2 ^ 28) (ha : g.area ≤ 1) (xs : List (List Nat)) (hrs : ∀ r ∈ xs, ∀ x ∈ r, x < 256) (hrl : xs.length < 2 ^ 30) {A : Option Addr} {C m : Nat} (hm : m = xs.length) (hr : RRr w A xs) {K : Int → World → Prop}
    (k : ∀ F' w', JT L w0 w' n (rwD d g xs).1 F' ln (rwD d g xs).2.1 a c rs → Md (ln :: F) w w' → Fr w F F' → K (rwD d g xs).2.2 w') :
    CallW Try.prog L 130 #[.pointer (some ⟨ln, 0, none⟩), .slice A m C] (fun v w' => opI .i64 v fun x => K x w') w := by
  subst hm
  refine (f130_ok T.js h1 hpd ha xs hrs hrl A C hr).callD T.lt (fun b hb => (T.lf b hb).2) ?_
  rintro v w' ⟨rfl, F', J, hf⟩ h'
  exact opI_in (k F' w' (T.jd J h' hf) h' hf)
theorem JT.push (T : JT L w0 w n d F ln g a c rs) (r : List Nat) (hl : rs.length < 2 ^ 40) {K : Option Addr → Nat → Nat → World → Prop}
    (k : ∀ a' c' w', JT L w0 w' n d F ln g a' c' (rs ++ [r]) → (∀ A, a' = some A → a = some A ∨ w.heap.size ≤ A.block) → Md (a.map (·.block)).toList w w' → K a' (rs ++ [r]).length c' w') :
    Nw (.cells #[.string (bytesOf r)] 9) w fun b w' => RunW Try.prog L (Builtin.append_ #[55, 55] 55 #[.slice a rs.length c, .slice (some { block := b, off := 0 }) 1 1]) (fun v w' => opL v fun a n c => K a n c w') w' :=
  app_one rowT55 enctE r rfl T.ow T.js.ds.md.size T.lt T.la (by simp [maxLen]; omega) (by omega) fun a' c' w' o' m' hA => opL_in <| k a' c' w'
    ⟨T.js.other m' (fun b hb => ⟨T.up b hb, fun hd => by obtain ⟨B, hB, e⟩ := mem_blk hd; exact T.sep B hB (by rw [e]; exact hb)⟩) (fun b hb => by obtain ⟨B, hB, rfl⟩ := mem_blk hb; exact (T.ow.lt hB).1), o', fun A hA' hx => by
      rcases hA A hA' with h | h
      · exact T.sep A h hx
      · have := T.up _ hx; omega, T.lf.md m'.size, fun b hb A hA' e => by
      rcases hA A hA' with h | h
      · exact T.la b hb A h e
      · have := T.lt b hb; omega⟩ hA m'
theorem JT.room (T : JT L w0 w n d F ln g a c rs) (h1 : 1 ≤ d.bl.length) (hp : g.pos ≤ jsz d) {K : Int → World → Prop} (k : ∀ w', JT L w0 w' n d F ln g a c rs → Md [] w w' → K (roomD d g) w') :
    CallW Try.prog L 128 #[.pointer (some ⟨ln, 0, none⟩)] (fun v w' => opI .i64 v fun x => K x w') w :=
  in128 T.js h1 hp T.lt fun w' _ m' => k w' (T.md0 m') m'
theorem JT.nil (S : JS w0 w n d F ln g) (lf : LF L w (ln :: F)) : JT L w0 w n d F ln g none 0 [] :=
  ⟨S, OwnL.nil _ _ _ _ _, (fun A hA => by cases hA), lf, (fun b hb A hA => by cases hA)⟩
end
theorem OkR.by {rs : List (List Nat)} (h : OkR rs) : ∀ r ∈ rs, ∀ x ∈ r, x < 256 := fun r hr => (h r hr).2.2
end Fk
set_option linter.unusedVariables false
set_option linter.unusedSimpArgs false
set_option maxRecDepth 100000
set_option maxHeartbeats 4000000
namespace Fk
open Go Go.Proofs Go.RowKit
theorem JG.new {x : Nat} (h3 : 3 ≤ x) : JG (newDk x) ⟨0, 0, false⟩ [] := by
  have hl := newDk_len x
  refine ⟨⟨openA_new (by omega), by rw [hl]; exact h3, by simp [rawR], ?_⟩, rfl, fun r hr => by simp at hr, rfl⟩
  obtain ⟨k, hk⟩ := areaL_new x 0
  have hal := areaB_len (bl := (newDk x).bl) (a := 0) (by omega) (by omega)
  have hk' : areaB (newDk x).bl 0 = List.replicate k 0 := hk
  rw [hk', List.length_replicate] at hal
  have he : zE (halfB (newDk x).bl * 64) (rawR []) = [0] := by
    unfold zE rawR; rw [if_pos (by unfold halfB; rw [hl]; simp; omega)]; rfl
  rw [hk', he]
  intro j hj
  have : j = 0 := by simpa using hj
  subst this
  rw [List.getElem?_replicate, if_pos (by unfold halfB at hal; rw [hl] at hal; omega)]
  rfl
/-- A disk at rest, with its log. -/
structure JQ (N : Nat) (d : Dk) (g : Lg) (rs : List (List Nat)) : Prop where
  G : JG d g rs
  len : d.bl.length = N
  pd : d.pd = []
theorem JQ.h1 {N : Nat} {d : Dk} {g : Lg} {rs : List (List Nat)} (h : JQ N d g rs) (hN : 3 ≤ N) : 1 ≤ d.bl.length := by have := h.len; omega
theorem JQ.jsz {N : Nat} {d : Dk} {g : Lg} {rs : List (List Nat)} (h : JQ N d g rs) : jsz d = (N - 1) / 2 * 64 := by unfold Fk.jsz half; rw [h.len]
theorem JQ.room {N : Nat} {d : Dk} {g : Lg} {rs : List (List Nat)} (h : JQ N d g rs) (hN : N ≤ 22) : roomD d g = max ((((N - 1) / 2 * 64 : Nat) : Int) - g.pos - 8) 0 := by
  unfold roomD; rw [if_neg (by simp [h.G.ov]), h.jsz]; omega
theorem JQ.app {N : Nat} {d : Dk} {g : Lg} {rs : List (List Nat)} (h : JQ N d g rs) (hN : N ≤ 65536) {r : List Nat} (hr : ∀ x ∈ r, x < 256) :
    ((r.length < 1 ∨ r.length > 1048576) ∧ apD d g r = (d, g, 3)) ∨ (¬ (r.length < 1 ∨ r.length > 1048576) ∧ ¬ g.pos + r.length + 8 ≤ (N - 1) / 2 * 64 ∧ apD d g r = (d, g, 4)) ∨
    (¬ (r.length < 1 ∨ r.length > 1048576) ∧ g.pos + r.length + 8 ≤ (N - 1) / 2 * 64 ∧ (apD d g r).2.2 = 0 ∧ JQ N (apD d g r).1 (apD d g r).2.1 (rs ++ [r]) ∧ (apD d g r).2.1 = { g with pos := g.pos + (r.length + 8) } ∧ (d.rf = 0 → (apD d g r).1.rf = 0)) ∨
    (¬ (r.length < 1 ∨ r.length > 1048576) ∧ g.pos + r.length + 8 ≤ (N - 1) / 2 * 64 ∧ (apD d g r).2.2 = 200 ∧ (apD d g r).2.1 = { g with ov := true } ∧ d.rf ≠ 0 ∧ CS (apD d g r).1 (fun bl => bl.length = N ∧ (Sf bl g.area rs ∨ Sf bl g.area (rs ++ [r])))) := by
  have hl := apD_law (r := r) h.G (by rw [h.len]; exact hN) h.pd hr
  rw [h.jsz, h.len] at hl
  rcases hl with q | q | ⟨q1, q2, q3, q4, q5, q6, q7, q8⟩ | q
  · exact .inl q
  · exact .inr (.inl q)
  · exact .inr (.inr (.inl ⟨q1, q2, q3, ⟨q4, q6, q5⟩, q7, q8⟩))
  · exact .inr (.inr (.inr q))
end Fk
set_option linter.unusedVariables false
set_option linter.unusedSimpArgs false
set_option maxRecDepth 100000
set_option maxHeartbeats 4000000
namespace Fk
open Go Go.Proofs Go.RowKit
structure Op4 where
  k : Nat
  n : Int
  m : Int
  c : Nat
def op4E (o : Op4) : List Value := [.int .u8 o.k, .int .i64 o.n, .int .i64 o.m, .int .u8 o.c]
theorem encOp4 : Enc 4 op4E := ⟨fun _ => rfl, by intro x v hv; simp [op4E] at hv; rcases hv with rfl | rfl | rfl | rfl <;> rfl⟩
structure Op4.ok (o : Op4) : Prop where
  c : o.c < 256
  n : -9223372036854775808 ≤ o.n ∧ o.n ≤ 9223372036854775807
  m : -9223372036854775808 ≤ o.m ∧ o.m ≤ 9223372036854775807
section
variable {L : List Nat} {w0 w : World} {n : Nat} {d : Dk} {F : List Nat} {ln : Nat} {g : Lg} {a : Option Addr} {c : Nat} {rs : List (List Nat)}
theorem JT.drop (T : JT L w0 w n d F ln g a c rs) : JT [] w0 w n d F ln g a c rs := ⟨T.js, T.ow, T.sep, LF.nil _ _, fun b hb => by cases hb⟩
theorem JT.reg {w' : World} {n0 : Nat} (T : JT [] w0 w n d F ln g a c rs) (h0 : w.heap.size ≤ n0) (hm : Md [n0] w w') (hl : n0 < w'.heap.size) : JT [n0] w0 w' n d F ln g a c rs := by
  have T' := T.md0 (mdUp h0 hm)
  refine ⟨T'.js, T'.ow, T'.sep, fun b hb => ?_, fun b hb A hA e => ?_⟩
  · simp only [List.mem_singleton] at hb; subst hb
    exact ⟨hl, fun hx => by have := T.up _ hx; omega⟩
  · simp only [List.mem_singleton] at hb; subst hb
    have := (T.ow.lt hA).2; omega
theorem JT.crash (T : JT L w0 w n d F ln g a c rs) (keep torn : Int) (hpd : d.pd.length < 2 ^ 30) {K : World → Prop} (k : ∀ F' w', JT L w0 w' n (d.crash keep torn) F' ln g a c rs → Md F w w' → K w') :
    CallW Try.prog L 106 #[.pointer (some ⟨n, 0, none⟩), .int .i64 keep, .int .i64 torn] (fun v w' => opTu v fun cs => SzIs (Array.size cs) 0 (K w')) w :=
  in106 T.js.ds (fun b hb => ⟨(T.lf b hb).1, fun h => (T.lf b hb).2 (List.mem_cons_of_mem _ h)⟩) keep torn hpd fun F' w' S' m' f' _ => k F' w' (T.jd (T.js.step S' m' f') (m'.mono fun y hy => List.mem_cons_of_mem _ hy) f') m'
theorem JT.arm (T : JT L w0 w n d F ln g a c rs) (x : Int) (hx : x ≤ 9223372036854775807) {K : World → Prop} (k : ∀ w', JT L w0 w' n (d.arm x) F ln g a c rs → Md F w w' → K w') :
    CallW Try.prog L 102 #[.pointer (some ⟨n, 0, none⟩), .int .i64 x] (fun v w' => opTu v fun cs => SzIs (Array.size cs) 0 (K w')) w :=
  in102 T.js.ds (fun b hb => ⟨(T.lf b hb).1, fun h => (T.lf b hb).2 (List.mem_cons_of_mem _ h)⟩) x hx fun w' S' m' _ => k w' (T.jd (T.js.step S' m' (Fr.refl _ _)) (m'.mono fun y hy => List.mem_cons_of_mem _ hy) (Fr.refl _ _)) m'
end
theorem JQ.arm {N : Nat} {d : Dk} {g : Lg} {rs : List (List Nat)} (h : JQ N d g rs) (x : Int) : JQ N (d.arm x) g rs := ⟨⟨h.G.sf, h.G.pos, h.G.ok, h.G.ov⟩, h.len, h.pd⟩
/-- What was under way when a step was refused. -/
structure JU (N : Nat) (d : Dk) (g : Lg) (rs : List (List Nat)) (r : List Nat) : Prop where
  cs : CS d (fun bl => bl.length = N ∧ (Sf bl g.area rs ∨ Sf bl g.area (rs ++ [r])))
  ov : g.ov = true
  le : g.pos ≤ jsz d
  pd : d.pd.length < 2 ^ 28
  ok : OkR (rs ++ [r])
theorem JQ.refuse {N : Nat} {d : Dk} {g : Lg} {rs : List (List Nat)} {r : List Nat} (h : JQ N d g rs) (hN : 1 ≤ N) (hN2 : N ≤ 65536) (hr : ∀ x ∈ r, x < 256) (hl : ¬ (r.length < 1 ∨ r.length > 1048576)) (hg : (apD d g r).2.1 = { g with ov := true })
    (hc : CS (apD d g r).1 (fun bl => bl.length = N ∧ (Sf bl g.area rs ∨ Sf bl g.area (rs ++ [r])))) : JU N (apD d g r).1 (apD d g r).2.1 rs r := by
  have hlen := apD_len (d := d) (g := g) (r := r) (by rw [h.len]; exact hN) (by rw [h.len]; exact hN2) h.G.sf.ha h.G.le
  refine ⟨by rw [hg]; exact hc, by rw [hg], ?_, by rw [h.pd] at hlen; simp at hlen; omega, fun x hx => ?_⟩
  · rw [hg]
    have hle := h.G.le
    have e : Fk.jsz (apD d g r).1 = Fk.jsz d := by unfold Fk.jsz half; rw [hlen.1]
    rw [e]; exact hle
  · rcases List.mem_append.1 hx with h' | h'
    · exact h.G.ok x h'
    · simp at h'; subst h'; exact ⟨by omega, by omega, hr⟩
theorem JU.ha {N : Nat} {d : Dk} {g : Lg} {rs : List (List Nat)} {r : List Nat} (h : JU N d g rs r) : g.area ≤ 1 := by
  rcases h.cs.now.2 with h | h <;> exact h.ha
theorem sf_parse {bl : List Bk} {a : Nat} {rs : List (List Nat)} (h : Sf bl a rs) (ok : OkR rs) : parseL (areaB bl (openB bl)) = some (rs, (rawR rs).length) := by rw [h.op]; exact h.parse ok
/-- A disk opened at rest. -/
theorem JQ.opened {N : Nat} {d : Dk} {a : Nat} {rs : List (List Nat)} (h : Sf d.bl a rs) (ok : OkR rs) (hl : d.bl.length = N) (hp : d.pd = []) : JQ N d ⟨openB d.bl, (rawR rs).length, false⟩ rs :=
  ⟨⟨by rw [h.op]; exact h, rfl, ok, rfl⟩, hl, hp⟩
end Fk
set_option linter.unusedVariables false
set_option linter.unusedSimpArgs false
set_option maxRecDepth 100000
namespace Fk
open Go Go.Proofs Go.RowKit
section
variable {H : Type} {enc : TypeId × Value → H} {w : World} {base : Nat} {spare : Nat → Bool} {held : Bool} {fuel : Nat} {cs : List Value} {x : DataW H × List MemPlace}
theorem four_fields' {fs : Array Field} {t1 t2 t3 t4 : TypeId} {o1 o2 o3 o4 : Nat} (hF : fs.toList.map (fun f => (decide (f.name = "_"), f.type, f.offset)) = [(false, t1, o1), (false, t2, o2), (false, t3, o3), (false, t4, o4)]) :
    ∃ f1 f2 f3 f4, fs = #[f1, f2, f3, f4] ∧ (f1.type = t1 ∧ f1.offset = o1) ∧ (f2.type = t2 ∧ f2.offset = o2) ∧ (f3.type = t3 ∧ f3.offset = o3) ∧ (f4.type = t4 ∧ f4.offset = o4) := by
  obtain ⟨l⟩ := fs
  match l with
  | [f1, f2, f3, f4] =>
    simp only [List.map_cons, List.map_nil, List.cons.injEq, Prod.mk.injEq, decide_eq_false_iff_not, and_true] at hF
    exact ⟨f1, f2, f3, f4, rfl, hF.1.2, hF.2.1.2, hF.2.2.1.2, hF.2.2.2.2⟩
  | [] | [_] | [_, _] | [_, _, _] | _ :: _ :: _ :: _ :: _ :: _ => simp at hF
theorem op4_cs (h : DataW.trod enc Try.prog w base spare held fuel 169 cs = some x) : ∃ o : Op4, cs = op4E o ∧ o.ok := by
  have u : Try.prog.underlying 169 = some (.struct (Try.prog.fieldsOf 169)) := by kernel_rfl
  have hF : fieldsL Try.prog 169 = [(false, 5, 0), (false, 3, 1), (false, 3, 2), (false, 5, 3)] := by kernel_rfl
  have c3 : Try.prog.cellsOf 3 = 1 := by kernel_rfl
  have c5 : Try.prog.cellsOf 5 = 1 := by kernel_rfl
  have c125 : Try.prog.cellsOf 169 = 4 := by kernel_rfl
  have u3 : Try.prog.underlying 3 = some (.int .i64) := by kernel_rfl
  have u5 : Try.prog.underlying 5 = some (.int .u8) := by kernel_rfl
  unfold fieldsL at hF
  generalize Try.prog.fieldsOf 169 = fs at u hF
  obtain ⟨xs, m, rfl, rfl, hl, hx, hi⟩ := DataW.trod_struct u h
  obtain ⟨f1, f2, f3, f4, rfl, ⟨e1, o1⟩, ⟨e2, o2⟩, ⟨e3, o3⟩, e4, o4⟩ := four_fields' hF
  have hx6 : xs.length = 4 := hx
  have h0 := hi 0 f1 rfl
  have h1 := hi 1 f2 rfl
  have h2 := hi 2 f3 rfl
  have h3 := hi 3 f4 rfl
  rw [List.getElem?_eq_getElem (by omega), e1, o1, c5] at h0
  rw [List.getElem?_eq_getElem (by omega), e2, o2, c3] at h1
  rw [List.getElem?_eq_getElem (by omega), e3, o3, c3] at h2
  rw [List.getElem?_eq_getElem (by omega), e4, o4, c5] at h3
  obtain ⟨k, hk, hkw⟩ := int_cs u5 h0
  obtain ⟨n, hn, hnw⟩ := int_cs u3 h1
  obtain ⟨mm, hm, hmw⟩ := int_cs u3 h2
  obtain ⟨c, hc, hcw⟩ := int_cs u5 h3
  have bk := byte_wf hkw
  have bc := byte_wf hcw
  have bn := i64_wf hnw
  have bm := i64_wf hmw
  rw [c125] at hl
  match cs, hl with
  | [v0, v1, v2, v3], _ =>
    simp at hk hn hm hc
    refine ⟨⟨k.toNat, n, mm, c.toNat⟩, ?_, ⟨by show c.toNat < 256; omega, bn, bm⟩⟩
    have a1 : ((k.toNat : Nat) : Int) = k := by omega
    have a2 : ((c.toNat : Nat) : Int) = c := by omega
    simp only [op4E, a1, a2, hk, hn, hm, hc]
theorem ops4_of {d : DataW H} {ps : List MemPlace} {a : Option Addr} {n c : Nat} (h : DataW.Trod enc Try.prog w base spare held 167 (.slice a n c) d ps) : ∃ l : List Op4, l.length = n ∧ n ≤ c ∧ n < 2 ^ 63 ∧ RowAt w a 4 op4E l ∧ ∀ z ∈ l, z.ok := by
  obtain ⟨fuel, hf⟩ := h
  obtain ⟨a', c', l, he, h1, h2, h3, h4⟩ := row_cs (t := 167) (by kernel_rfl) (by kernel_rfl) encOp4 (fun m cs y hy => op4_cs hy) hf
  have he' : [Value.slice a n c] = [.slice a' l.length c'] := he
  simp at he'
  obtain ⟨rfl, rfl, rfl⟩ := he'
  exact ⟨l, rfl, h1, h2, h3, h4⟩
end
end Fk
set_option linter.unusedVariables false
set_option linter.unusedSimpArgs false
set_option maxRecDepth 100000
set_option maxHeartbeats 2000000
namespace Fk
open Go Go.Proofs Go.RowKit
theorem area_set_ne {bl : List Bk} {a i : Nat} {b : Bk} (h1 : 1 ≤ bl.length) (ha : a ≤ 1) (hi : i < bl.length) (hn : ∀ k, k < halfB bl → i ≠ jbB bl a k) : areaB (bl.set i b) a = areaB bl a := by
  have hh : halfB (bl.set i b) = halfB bl := by unfold halfB; simp
  apply List.ext_getElem?
  intro j
  by_cases hj : j / 64 < halfB bl
  · have ej : j = j / 64 * 64 + j % 64 := by omega
    rw [ej, areaB_get (by simpa using h1) ha (by rw [hh]; exact hj) (Nat.mod_lt _ (by omega)), jbB_set, jgetB_set hi, if_neg (fun e => hn _ hj e.symm), areaB_get h1 ha hj (Nat.mod_lt _ (by omega))]
  · rw [List.getElem?_eq_none (by rw [areaB_len (by simpa using h1) ha, hh]; omega), List.getElem?_eq_none (by rw [areaB_len h1 ha]; omega)]
theorem Sf.other {bl : List Bk} {a i : Nat} {b : Bk} {rs : List (List Nat)} (h : Sf bl a rs) (hi : i < bl.length) (h0 : i ≠ 0) (hn : ∀ k, k < halfB bl → i ≠ jbB bl a k) : Sf (bl.set i b) a rs := by
  have hh : halfB (bl.set i b) = halfB bl := by unfold halfB; simp
  refine ⟨by rw [openB_set hi h0]; exact h.op, by simpa using h.h3, by rw [hh]; exact h.fit, ?_⟩
  rw [hh, area_set_ne (by have := h.h3; omega) h.ha hi hn]; exact h.pre
end Fk
set_option linter.unusedVariables false
set_option linter.unusedSimpArgs false
set_option maxRecDepth 100000
set_option maxHeartbeats 2000000
namespace Fk
open Go Go.Proofs Go.RowKit
theorem mix64 {bl : List Bk} {i : Nat} (b : Bk) : bl.set i (mixB 64 b (getB bl i)) = bl.set i b := by rw [mixB_all]
theorem layL_cs2 {a : Nat} {s : List Nat} {N : Nat} {S S1 : List Bk → Prop} (h01 : ∀ bl, S1 bl → S bl) (hsb : ∀ x ∈ s, x < 256) (k0 K : Nat) (hsl : K * 64 ≤ s.length)
    (hS : ∀ bl q t, S1 bl → bl.length = N → k0 ≤ q → q < K → t ≤ 64 → S1 (bl.set (jbB bl a q) (mixB t (mkBk (chunk s q)) (getB bl (jbB bl a q))))) :
    ∀ (m k : Nat) (d : Dk), d.bl.length = N → k0 ≤ k → k + m ≤ K → CS d S → S1 d.bl → CS (layL a s m k d).1 S ∧ S1 (layL a s m k d).1.bl
  | 0, k, d, hN, hk, hK, h, h1 => by
    unfold layL
    exact ⟨h.flush, by rw [(flush_len d).1]; exact h1⟩
  | m + 1, k, d, hN, hk, hK, h, h1 => by
    have hw : CS (d.write (jbk d a k) (chunk s k)).1 S := h.write fun _ _ t ht => h01 _ (hS _ k t h1 hN hk (by omega) ht)
    have hb : S1 (d.write (jbk d a k) (chunk s k)).1.bl := by
      by_cases hc : (d.write (jbk d a k) (chunk s k)).2 = 0
      · rw [(write_ok hc).1, ← mix64]; exact hS _ k 64 h1 hN hk (by omega) (Nat.le_refl _)
      · have e : (d.write (jbk d a k) (chunk s k)).1.bl = d.bl := by
          obtain ⟨q1, q2⟩ := stepD_bl d
          unfold Dk.write at hc ⊢
          split
          · rfl
          · rename_i hn
            rw [if_neg hn] at hc
            split
            · rename_i h2; rw [if_pos h2] at hc; exact absurd rfl hc
            · exact q1
        rw [e]; exact h1
    unfold layL
    split
    · exact layL_cs2 h01 hsb k0 K hsl hS m (k + 1) _ (by rw [(write_len d (jbk d a k) (chunk s k)).1]; exact hN) (by omega) (by omega) hw hb
    · exact ⟨hw, hb⟩
section
variable {d : Dk} {g : Lg} {rs : List (List Nat)} {r : List Nat}
theorem apD_gen (G : JG d g rs) (hl : d.bl.length ≤ 65536) {S : List Bk → Prop} (hcs0 : CS d S) (hSA : ∀ bl, bl.length = d.bl.length → Sf bl g.area rs → S bl) (hS2 : ∀ bl, bl.length = d.bl.length → Sf bl g.area (rs ++ [r]) → S bl) (hr : ∀ x ∈ r, x < 256) :
    ((r.length < 1 ∨ r.length > 1048576) ∧ apD d g r = (d, g, 3)) ∨ (¬ (r.length < 1 ∨ r.length > 1048576) ∧ ¬ g.pos + r.length + 8 ≤ jsz d ∧ apD d g r = (d, g, 4)) ∨
    (¬ (r.length < 1 ∨ r.length > 1048576) ∧ g.pos + r.length + 8 ≤ jsz d ∧ (apD d g r).2.2 = 0 ∧ JG (apD d g r).1 (apD d g r).2.1 (rs ++ [r]) ∧ (apD d g r).1.pd = [] ∧ (apD d g r).1.bl.length = d.bl.length ∧ (apD d g r).2.1 = { g with pos := g.pos + (r.length + 8) } ∧ (d.rf = 0 → (apD d g r).1.rf = 0)) ∨
    (¬ (r.length < 1 ∨ r.length > 1048576) ∧ g.pos + r.length + 8 ≤ jsz d ∧ (apD d g r).2.2 = 200 ∧ (apD d g r).2.1 = { g with ov := true } ∧ d.rf ≠ 0 ∧ CS (apD d g r).1 S ∧ (apD d g r).1.bl.length = d.bl.length) := by
  have hm := may_cases G.ov r.length G.le
  by_cases q1 : r.length < 1 ∨ r.length > 1048576
  · rw [if_pos q1] at hm
    exact .inl ⟨q1, by unfold apD; rw [if_pos (by rw [hm]; decide), hm]⟩
  rw [if_neg q1] at hm
  by_cases q2 : ¬ g.pos + r.length + 8 ≤ jsz d
  · rw [if_neg q2] at hm
    exact .inr (.inl ⟨q1, q2, by unfold apD; rw [if_pos (by rw [hm]; decide), hm]⟩)
  have q2 : g.pos + r.length + 8 ≤ jsz d := Decidable.byContradiction q2
  rw [if_pos q2] at hm
  refine .inr (.inr ?_)
  have hA := G.sf.ha
  have h1 : 1 ≤ d.bl.length := by have := G.sf.h3; omega
  have efl : (frm 0 r).length = r.length + 8 := frm_len 0 r
  have hfit : g.pos + (frm 0 r).length ≤ jsz d := by omega
  have hfb := frm_lt 0 r (by omega) hr
  obtain ⟨K, hSl, hKh, hpK, hKi⟩ := layS_len (d := d) h1 hA hfit
  have hSg := fun j => layS_get (d := d) h1 hA hfit (j := j)
  have hSb := layS_lt (d := d) (area := g.area) (p := g.pos) hfb
  have hzl : (frm 0 r).length ≤ (zEnd d g.pos (frm 0 r)).length := by unfold zEnd; split <;> simp
  have hz0 : (zEnd d g.pos (frm 0 r))[0]? = some 0 := by unfold zEnd frm; split <;> rfl
  have hel : (zE (jsz d) (rawR rs)).length = g.pos + 1 := by unfold zE; rw [if_pos (by rw [← G.pos]; omega)]; simp [G.pos]
  have he : ∀ j, j < g.pos + 1 → (zE (jsz d) (rawR rs))[j]? = if j < g.pos then (rawR rs)[j]? else some 0 := fun j hj => by
    unfold zE
    rw [if_pos (by rw [← G.pos]; omega)]
    split
    · rw [List.getElem?_append_left (by rw [← G.pos]; assumption)]
    · rw [List.getElem?_append_right (by rw [← G.pos]; omega), ← G.pos, show j - g.pos = 0 by omega]; rfl
  have hold : ∀ j, j < g.pos → (areaL d g.area)[j]? = (rawR rs)[j]? := fun j hj => by
    have := G.sf.pre j (by rw [← jsz_B, hel]; omega)
    rw [← jsz_B, he j (by omega), if_pos hj] at this
    exact this
  have hS1 : ∀ j, j < g.pos + 1 → (layS d g.area g.pos (frm 0 r))[j]? = (zE (jsz d) (rawR rs))[j]? := fun j hj => by
    have hp0 : g.pos / 64 * 64 < g.pos + (zEnd d g.pos (frm 0 r)).length := by omega
    have hpK' := (hKi (g.pos / 64)).1 hp0
    rw [hSg j (by rw [hSl]; omega), he j hj]
    split
    · rename_i h; exact hold j h
    · rw [if_pos (by omega), show j - g.pos = 0 by omega, hz0]
  have hcl : ∀ q, q < K → (chunk (layS d g.area g.pos (frm 0 r)) q).length = 64 := fun q hq => chunk_len hSl hq
  have hcv : ∀ q, q < K → (mkBk (chunk (layS d g.area g.pos (frm 0 r)) q)).1 = chunk (layS d g.area g.pos (frm 0 r)) q := fun q hq => mkBk_val (hcl q hq) (chunk_lt hSb)
  have hpre : ∀ bl q t, (bl.length = d.bl.length ∧ Sf bl g.area rs) → bl.length = d.bl.length → g.pos / 64 ≤ q → q < K → t ≤ 64 → (bl.set (jbB bl g.area q) (mixB t (mkBk (chunk (layS d g.area g.pos (frm 0 r)) q)) (getB bl (jbB bl g.area q)))).length = d.bl.length ∧ Sf (bl.set (jbB bl g.area q) (mixB t (mkBk (chunk (layS d g.area g.pos (frm 0 r)) q)) (getB bl (jbB bl g.area q)))) g.area rs := fun bl q t hbl hlen hq hqK ht => by
    obtain ⟨_, hs⟩ := hbl
    have hhb : halfB bl = half d := by unfold halfB half; rw [hlen]
    have hb1 : 1 ≤ bl.length := by omega
    have hlt := jbB_lt (bl := bl) (k := q) hb1 hA (by omega)
    have hh : ∀ b, halfB (bl.set (jbB bl g.area q) b) = halfB bl := fun b => by unfold halfB; simp
    refine ⟨by simpa using hlen, by rw [openB_set hlt (jbB_pos _ _ _)]; exact hs.op, by simpa using hs.h3, by rw [hh]; exact hs.fit, ?_⟩
    rw [hh]
    refine pre_set hb1 hA (by omega) hs.pre (zE_le hs.fit) fun i hi hij => ?_
    have ej : halfB bl * 64 = jsz d := by rw [hhb]; rfl
    rw [ej] at hij ⊢
    rw [hel] at hij
    rw [mixB_get ht]
    split
    · rw [hcv q hqK, chunk_get hi, hS1 _ hij]
    · rw [← areaB_get hb1 hA (by omega) hi]
      have := hs.pre (q * 64 + i) (by rw [ej, hel]; exact hij)
      rw [this, ej]
  have eL : layD d g.area g.pos (frm 0 r) = layL g.area (layS d g.area g.pos (frm 0 r)) (K - g.pos / 64) (g.pos / 64) d := by unfold layD; rw [hSl, Nat.mul_div_cancel _ (by omega)]
  have hcs : CS (layD d g.area g.pos (frm 0 r)).1 S ∧ (layD d g.area g.pos (frm 0 r)).1.bl.length = d.bl.length ∧ Sf (layD d g.area g.pos (frm 0 r)).1.bl g.area rs := by
    rw [eL]
    exact layL_cs2 (N := d.bl.length) (S := S) (S1 := fun bl => bl.length = d.bl.length ∧ Sf bl g.area rs) (fun bl h => hSA bl h.1 h.2) hSb (g.pos / 64) K (by rw [hSl]; exact Nat.le_refl _) hpre _ _ d rfl (Nat.le_refl _) (by omega) hcs0 ⟨rfl, G.sf⟩
  have hfree : d.rf = 0 → (layD d g.area g.pos (frm 0 r)).2 = true ∧ (layD d g.area g.pos (frm 0 r)).1.rf = 0 := fun h0 => by
    rw [eL]; exact layL_free hA _ _ d h1 (by omega) (by rw [hSl]; omega) h0
  have eA : apD d g r = if (layD d g.area g.pos (frm 0 r)).2 = false then ((layD d g.area g.pos (frm 0 r)).1, { g with ov := true }, 200) else
      if (oneD (layD d g.area g.pos (frm 0 r)).1 (jbk d g.area (g.pos / 64)) ((getB (layD d g.area g.pos (frm 0 r)).1.bl (jbk d g.area (g.pos / 64))).1.set (g.pos % 64) 1)).2 = false
      then ((oneD (layD d g.area g.pos (frm 0 r)).1 (jbk d g.area (g.pos / 64)) ((getB (layD d g.area g.pos (frm 0 r)).1.bl (jbk d g.area (g.pos / 64))).1.set (g.pos % 64) 1)).1, { g with ov := true }, 200)
      else ((oneD (layD d g.area g.pos (frm 0 r)).1 (jbk d g.area (g.pos / 64)) ((getB (layD d g.area g.pos (frm 0 r)).1.bl (jbk d g.area (g.pos / 64))).1.set (g.pos % 64) 1)).1, { g with pos := g.pos + (r.length + 8) }, 0) := by unfold apD; rw [if_neg (by rw [hm]; decide)]
  by_cases c1 : (layD d g.area g.pos (frm 0 r)).2 = false
  · rw [if_pos c1] at eA
    rw [eA]
    refine .inr ⟨q1, q2, rfl, rfl, (fun h0 => by rw [(hfree h0).1] at c1; cases c1), hcs.1, hcs.2.1⟩
  have c1' : (layD d g.area g.pos (frm 0 r)).2 = true := by simpa using c1
  rw [if_neg c1] at eA
  have hok : (layD d g.area g.pos (frm 0 r)).1.pd = [] ∧ (layD d g.area g.pos (frm 0 r)).1.bl.length = d.bl.length ∧
      (∀ q, g.pos / 64 ≤ q → q < K → getB (layD d g.area g.pos (frm 0 r)).1.bl (jbk d g.area q) = mkBk (chunk (layS d g.area g.pos (frm 0 r)) q)) ∧ (∀ i, (∀ q, g.pos / 64 ≤ q → q < K → i ≠ jbk d g.area q) → getB (layD d g.area g.pos (frm 0 r)).1.bl i = getB d.bl i) := by
    rw [eL] at c1' ⊢
    have := layL_ok hA (K - g.pos / 64) (g.pos / 64) d h1 (by omega) c1'
    have e : g.pos / 64 + (K - g.pos / 64) = K := by omega
    rw [e] at this
    exact this
  generalize hL : layD d g.area g.pos (frm 0 r) = l at *
  obtain ⟨p1, p2, p3, p4⟩ := hok
  have hbl1 : 1 ≤ l.1.bl.length := by omega
  have hh1 : halfB l.1.bl = half d := by unfold halfB half; rw [p2]
  have hj1 : ∀ a k, jbB l.1.bl a k = jbk d a k := fun a k => by show 1 + a * halfB l.1.bl + k = 1 + a * half d + k; rw [hh1]
  have hjz : jsz d = half d * 64 := rfl
  have harea : ∀ j, j < g.pos + (zEnd d g.pos (frm 0 r)).length → (areaB l.1.bl g.area)[j]? = (rawR rs ++ zEnd d g.pos (frm 0 r))[j]? := fun j hj => by
    have hqK : j / 64 < K := (hKi (j / 64)).1 (by omega)
    have ej : j = j / 64 * 64 + j % 64 := by omega
    have e1 : (areaB l.1.bl g.area)[j]? = (getB l.1.bl (jbk d g.area (j / 64))).1[j % 64]? := by
      conv => lhs; rw [ej]
      rw [areaB_get hbl1 hA (by rw [hh1]; omega) (Nat.mod_lt _ (by omega)), hj1]
    rw [e1]
    by_cases hq : g.pos / 64 ≤ j / 64
    · rw [p3 _ hq hqK, hcv _ hqK, chunk_get (Nat.mod_lt _ (by omega)), ← ej, hSg j (by rw [hSl]; omega)]
      split
      · rename_i h; rw [hold j h, List.getElem?_append_left (by rw [← G.pos]; exact h)]
      · rw [if_pos (by omega), List.getElem?_append_right (by rw [← G.pos]; omega), ← G.pos]
    · have hjp : j < g.pos := by omega
      rw [p4 _ fun q hq1 hq2 e => by
        have := (jbB_inj (bl := d.bl) hA hA (show j / 64 < halfB d.bl by rw [← half_B]; omega) (show q < halfB d.bl by rw [← half_B]; omega) e).2
        omega]
      rw [← areaL_get h1 hA (by omega) (Nat.mod_lt _ (by omega)), ← ej, hold j hjp, List.getElem?_append_left (by rw [← G.pos]; exact hjp)]
  have hpk : g.pos / 64 < K := (hKi (g.pos / 64)).1 (by omega)
  have hilt : jbk d g.area (g.pos / 64) < l.1.bl.length := by rw [p2]; exact jbk_lt h1 hA (by omega)
  generalize hi : jbk d g.area (g.pos / 64) = i at *
  generalize hob : (getB l.1.bl i).1.set (g.pos % 64) 1 = ob at *
  have hobl : ob.length = 64 := by rw [← hob, List.length_set, (getB l.1.bl i).2.1]
  have hobb : ∀ x ∈ ob, x < 256 := fun x hx => by
    rw [← hob] at hx
    rcases List.mem_or_eq_of_mem_set hx with h | h
    · exact (getB l.1.bl i).2.2 x h
    · omega
  have hsf2 : Sf (l.1.bl.set i (mkBk ob)) g.area (rs ++ [r]) := by
    have hh2 : halfB (l.1.bl.set i (mkBk ob)) = half d := by unfold halfB; rw [List.length_set]; exact hh1
    have hop : openB l.1.bl = g.area := hcs.2.2.op
    refine ⟨?_, by rw [List.length_set, p2]; exact G.sf.h3, ?_, ?_⟩
    · rw [openB_set hilt (by rw [← hi]; exact jbB_pos d.bl _ _)]; exact hop
    · rw [hh2, rawR_snoc, List.length_append, frm_len, ← G.pos]; omega
    · rw [hh2, rawR_snoc, show half d * 64 = jsz d from rfl, E1_eq G.pos 1 (by rw [frm_len, frm_len])]
      have hzz : ∀ j, (rawR rs ++ zEnd d g.pos (frm 1 r))[j]? = if j = g.pos then some 1 else (rawR rs ++ zEnd d g.pos (frm 0 r))[j]? := fun j => by
        have ez : zEnd d g.pos (frm 1 r) = 1 :: (zEnd d g.pos (frm 0 r)).tail := by
          unfold zEnd; rw [frm_len, frm_len]; split <;> rfl
        have ez0 : zEnd d g.pos (frm 0 r) = 0 :: (zEnd d g.pos (frm 0 r)).tail := by
          unfold zEnd; split <;> rfl
        by_cases hj : j < g.pos
        · rw [if_neg (by omega), List.getElem?_append_left (by rw [← G.pos]; exact hj), List.getElem?_append_left (by rw [← G.pos]; exact hj)]
        · rw [List.getElem?_append_right (by rw [← G.pos]; omega), List.getElem?_append_right (by rw [← G.pos]; omega), ← G.pos, ez]
          split
          · rename_i h; rw [h, Nat.sub_self]; rfl
          · obtain ⟨y, hy⟩ : ∃ y, j - g.pos = y + 1 := ⟨j - g.pos - 1, by omega⟩
            rw [hy, List.getElem?_cons_succ]
            conv => rhs; rw [ez0]
            rw [List.getElem?_cons_succ]
      have hzl2 : (zEnd d g.pos (frm 1 r)).length = (zEnd d g.pos (frm 0 r)).length := by unfold zEnd; rw [frm_len, frm_len]; split <;> simp [frm_len]
      intro j hj
      rw [List.length_append, hzl2, ← G.pos] at hj
      have hzle := zEnd_len hfit
      have ej : j = j / 64 * 64 + j % 64 := by omega
      have e1 : (areaB (l.1.bl.set i (mkBk ob)) g.area)[j]? = (getB (l.1.bl.set i (mkBk ob)) (jbk d g.area (j / 64))).1[j % 64]? := by
        conv => lhs; rw [ej]
        rw [areaB_get (by rw [List.length_set]; exact hbl1) hA (by rw [hh2]; omega) (Nat.mod_lt _ (by omega)), jbB_set, hj1]
      have e0 : (areaB l.1.bl g.area)[j]? = (getB l.1.bl (jbk d g.area (j / 64))).1[j % 64]? := by
        conv => lhs; rw [ej]
        rw [areaB_get hbl1 hA (by rw [hh1]; omega) (Nat.mod_lt _ (by omega)), hj1]
      rw [hzz, e1, jgetB_set hilt]
      by_cases hji : jbk d g.area (j / 64) = i
      · rw [if_pos hji, mkBk_val hobl hobb, ← hob]
        rw [hji] at e0
        have hqq : j / 64 = g.pos / 64 := by rw [← hi] at hji; unfold jbk at hji; omega
        by_cases hjp : j = g.pos
        · subst hjp
          rw [if_pos rfl, List.getElem?_set_self (by rw [(getB l.1.bl i).2.1]; exact Nat.mod_lt _ (by omega))]
        · rw [if_neg hjp, List.getElem?_set_ne (by omega), ← e0]; exact harea j hj
      · have hjp : j ≠ g.pos := fun h => hji (by rw [h, hi])
        rw [if_neg hji, if_neg hjp, ← e0]; exact harea j hj
  have hcs2 : CS (oneD l.1 i ob).1 S := by
    refine one_cs (CS.flat p1 (hSA _ p2 hcs.2.2)) fun _ _ t ht => ?_
    rw [← hob, mix_one ht (Nat.mod_lt _ (by omega)) 1 (by omega)]
    split
    · rw [getB_eq hilt, List.set_getElem_self]; exact hSA _ p2 hcs.2.2
    · rw [hob]; exact hS2 _ (by rw [List.length_set]; exact p2) hsf2
  have hfr : d.rf = 0 → (oneD l.1 i ob).2 = true ∧ (oneD l.1 i ob).1.rf = 0 := fun h0 => one_free hilt hobl (hfree h0).2
  by_cases c2 : (oneD l.1 i ob).2 = false
  · rw [if_pos c2] at eA
    rw [eA]
    exact .inr ⟨q1, q2, rfl, rfl, (fun h0 => by rw [(hfr h0).1] at c2; cases c2), hcs2, by rw [(oneD_len l.1 i ob).1]; exact p2⟩
  · rw [if_neg c2] at eA
    rw [eA]
    obtain ⟨o1, o2⟩ := one_ok (show (oneD l.1 i ob).2 = true by simpa using c2)
    refine .inl ⟨q1, q2, rfl, ⟨by simp only [o2]; exact hsf2, ?_, ?_, G.ov⟩, o1, by simp only [o2, List.length_set]; exact p2, rfl, fun h0 => (hfr h0).2⟩
    · rw [rawR_snoc, List.length_append, frm_len, ← G.pos]
    · intro x hx
      rcases List.mem_append.1 hx with h | h
      · exact G.ok x h
      · simp at h; subst h; exact ⟨by omega, by omega, hr⟩
end
theorem rwD_gen {N : Nat} {d : Dk} {g : Lg} {rs xs : List (List Nat)} (G : JG d g rs) (hlen : d.bl.length = N) (hN : N ≤ 65536) {S : List Bk → Prop} (hcs0 : CS d S) (hS1 : ∀ bl, bl.length = N → Sf bl g.area rs → S bl) (hS2 : ∀ bl, bl.length = N → Sf bl (1 - g.area) xs → S bl) (ok : OkR xs) :
    ((N - 1) / 2 * 64 < sum8 (xs.map List.length) ∧ rwD d g xs = (d, g, 4)) ∨
    (sum8 (xs.map List.length) ≤ (N - 1) / 2 * 64 ∧ (rwD d g xs).2.2 = 0 ∧ JQ N (rwD d g xs).1 (rwD d g xs).2.1 xs ∧ (rwD d g xs).2.1 = ⟨1 - g.area, (rawR xs).length, g.ov⟩) ∨
    (sum8 (xs.map List.length) ≤ (N - 1) / 2 * 64 ∧ (rwD d g xs).2.2 = 200 ∧ (rwD d g xs).2.1 = { g with ov := true } ∧ CS (rwD d g xs).1 S ∧ (rwD d g xs).1.bl.length = N) := by
  have hjz : Fk.jsz d = (N - 1) / 2 * 64 := by unfold Fk.jsz half; rw [hlen]
  have hm : mayD g (Fk.jsz d : Int) (xs.map List.length) = if (sum8 (xs.map List.length) : Int) > (Fk.jsz d : Int) then 4 else 0 := by
    unfold mayD
    rw [if_neg (by simp [G.ov]), mayF_ok _ _ _ (fun l hl => by
      obtain ⟨r, hr, rfl⟩ := List.mem_map.1 hl
      have := ok r hr; omega) (by omega) (fun _ => by omega)]
    simp
  by_cases q : (N - 1) / 2 * 64 < sum8 (xs.map List.length)
  · rw [if_pos (by rw [hjz]; omega)] at hm
    exact .inl ⟨q, by unfold rwD; rw [if_pos (by rw [hm]; decide), hm]⟩
  rw [if_neg (by rw [hjz]; omega)] at hm
  refine .inr ?_
  have hs8 : sum8 (xs.map List.length) ≤ (N - 1) / 2 * 64 := by omega
  have hA := G.sf.ha
  have hA' : 1 - g.area ≤ 1 := by omega
  have h3 := G.sf.h3
  have h1 : 1 ≤ d.bl.length := by omega
  have hrl := rawR_len xs
  have hfit : 0 + (rawR xs).length ≤ Fk.jsz d := by omega
  have hrb : ∀ x ∈ rawR xs, x < 256 := fun x hx => by
    simp only [rawR, List.mem_flatMap] at hx
    obtain ⟨r, hr1, hr2⟩ := hx
    exact frm_lt 1 r (by omega) (ok r hr1).2.2 x hr2
  obtain ⟨K, hSl, hKh, hpK, hKi⟩ := layS_len (d := d) h1 hA' hfit
  have hSg := fun j => layS_get (d := d) h1 hA' hfit (j := j)
  have hSb := layS_lt (d := d) (area := 1 - g.area) (p := 0) hrb
  have hLl := layD_len (b := rawR xs) h1 (by omega) hA' hfit
  have hcl : ∀ q, q < K → (chunk (layS d (1 - g.area) 0 (rawR xs)) q).length = 64 := fun q hq => chunk_len hSl hq
  have hcv : ∀ q, q < K → (mkBk (chunk (layS d (1 - g.area) 0 (rawR xs)) q)).1 = chunk (layS d (1 - g.area) 0 (rawR xs)) q := fun q hq => mkBk_val (hcl q hq) (chunk_lt hSb)
  have eL : layD d (1 - g.area) 0 (rawR xs) = layL (1 - g.area) (layS d (1 - g.area) 0 (rawR xs)) K 0 d := by unfold layD; rw [hSl, Nat.mul_div_cancel _ (by omega)]; rfl
  have hpre : ∀ bl q t, (bl.length = N ∧ Sf bl g.area rs) → bl.length = N → 0 ≤ q → q < K → t ≤ 64 → (bl.set (jbB bl (1 - g.area) q) (mixB t (mkBk (chunk (layS d (1 - g.area) 0 (rawR xs)) q)) (getB bl (jbB bl (1 - g.area) q)))).length = N ∧ Sf (bl.set (jbB bl (1 - g.area) q) (mixB t (mkBk (chunk (layS d (1 - g.area) 0 (rawR xs)) q)) (getB bl (jbB bl (1 - g.area) q)))) g.area rs := fun bl q t hbl hl _ hqK ht => by
    have hhb : halfB bl = half d := by unfold halfB half; rw [hl, hlen]
    refine ⟨by simpa using hl, hbl.2.other (jbB_lt (by omega) hA' (by omega)) (jbB_pos _ _ _) fun k hk e => ?_⟩
    have := (jbB_inj hA' hA (by omega) hk e).1
    omega
  have hcs : CS (layD d (1 - g.area) 0 (rawR xs)).1 S ∧ (layD d (1 - g.area) 0 (rawR xs)).1.bl.length = N ∧ Sf (layD d (1 - g.area) 0 (rawR xs)).1.bl g.area rs := by
    rw [eL]
    exact layL_cs2 (N := N) (S := S) (S1 := fun bl => bl.length = N ∧ Sf bl g.area rs) (fun bl h => hS1 bl h.1 h.2) hSb 0 K (by rw [hSl]; exact Nat.le_refl _) hpre _ _ d hlen (Nat.le_refl _) (by omega) hcs0 ⟨hlen, G.sf⟩
  have eR : rwD d g xs = if (layD d (1 - g.area) 0 (rawR xs)).2 = false then ((layD d (1 - g.area) 0 (rawR xs)).1, { g with ov := true }, 200) else
      if (oneD (layD d (1 - g.area) 0 (rawR xs)).1 0 (hdB (1 - g.area))).2 = false then ((oneD (layD d (1 - g.area) 0 (rawR xs)).1 0 (hdB (1 - g.area))).1, { g with ov := true }, 200)
      else ((oneD (layD d (1 - g.area) 0 (rawR xs)).1 0 (hdB (1 - g.area))).1, ⟨1 - g.area, (rawR xs).length, g.ov⟩, 0) := by unfold rwD; rw [if_neg (by rw [hm]; decide)]
  by_cases c1 : (layD d (1 - g.area) 0 (rawR xs)).2 = false
  · rw [if_pos c1] at eR
    rw [eR]
    exact .inr ⟨hs8, rfl, rfl, hcs.1, hcs.2.1⟩
  have c1' : (layD d (1 - g.area) 0 (rawR xs)).2 = true := by simpa using c1
  rw [if_neg c1] at eR
  have hok : (layD d (1 - g.area) 0 (rawR xs)).1.pd = [] ∧ (layD d (1 - g.area) 0 (rawR xs)).1.bl.length = d.bl.length ∧
      (∀ q, 0 ≤ q → q < K → getB (layD d (1 - g.area) 0 (rawR xs)).1.bl (jbk d (1 - g.area) q) = mkBk (chunk (layS d (1 - g.area) 0 (rawR xs)) q)) ∧ (∀ i, (∀ q, 0 ≤ q → q < K → i ≠ jbk d (1 - g.area) q) → getB (layD d (1 - g.area) 0 (rawR xs)).1.bl i = getB d.bl i) := by
    rw [eL] at c1' ⊢
    have := layL_ok hA' K 0 d h1 (by omega) c1'
    rw [Nat.zero_add] at this
    exact this
  generalize hL : layD d (1 - g.area) 0 (rawR xs) = l at *
  obtain ⟨p1, p2, p3, p4⟩ := hok
  have hbl1 : 1 ≤ l.1.bl.length := by omega
  have hN1 : l.1.bl.length = N := by omega
  have hh1 : halfB l.1.bl = half d := by unfold halfB half; rw [p2]
  have hj1 : ∀ a k, jbB l.1.bl a k = jbk d a k := fun a k => by show 1 + a * halfB l.1.bl + k = 1 + a * half d + k; rw [hh1]
  have hjz' : Fk.jsz d = half d * 64 := rfl
  have hzz : zE (half d * 64) (rawR xs) = zEnd d 0 (rawR xs) := by unfold zE zEnd; rw [Nat.zero_add, hjz']
  have hzl := zEnd_len hfit
  have hpre1 : Pre (zE (half d * 64) (rawR xs)) (areaB l.1.bl (1 - g.area)) := fun j hj => by
    rw [hzz] at hj ⊢
    have hqK : j / 64 < K := (hKi (j / 64)).1 (by omega)
    have ej : j = j / 64 * 64 + j % 64 := by omega
    conv => lhs; rw [ej]
    rw [areaB_get hbl1 hA' (by rw [hh1]; omega) (Nat.mod_lt _ (by omega)), hj1, p3 _ (by omega) hqK, hcv _ hqK, chunk_get (Nat.mod_lt _ (by omega)), ← ej, hSg j (by rw [hSl]; omega), if_neg (by omega), Nat.sub_zero, if_pos hj]
  have hhl : (hdB (1 - g.area)).length = 64 := rfl
  have hhb : ∀ x ∈ hdB (1 - g.area), x < 256 := fun x hx => by
    rcases List.mem_cons.1 hx with rfl | hx
    · omega
    · have := List.eq_of_mem_replicate hx; omega
  have hi0 : 0 < l.1.bl.length := by omega
  have hne0 : ∀ a k, k < halfB l.1.bl → 0 ≠ jbB l.1.bl a k := fun a k _ h => jbB_pos _ _ _ h.symm
  have hsf2 : ∀ b : Bk, b.1.headD 0 = 1 - g.area → Sf (l.1.bl.set 0 b) (1 - g.area) xs := fun b hb => by
    have hh2 : halfB (l.1.bl.set 0 b) = half d := by unfold halfB; rw [List.length_set]; exact hh1
    refine ⟨?_, by rw [List.length_set]; omega, by rw [hh2]; omega, ?_⟩
    · unfold openB
      rw [jgetB_set hi0, if_pos rfl, hb]
      omega
    · rw [hh2, area_set_ne hbl1 hA' hi0 (hne0 _)]; exact hpre1
  have hmx : ∀ t, t ≤ 64 → l.1.bl.set 0 (mixB t (mkBk (hdB (1 - g.area))) (getB l.1.bl 0)) = l.1.bl ∨ (mixB t (mkBk (hdB (1 - g.area))) (getB l.1.bl 0)).1.headD 0 = 1 - g.area := fun t ht => by
    cases t with
    | zero =>
      left
      have : mixB 0 (mkBk (hdB (1 - g.area))) (getB l.1.bl 0) = getB l.1.bl 0 := by
        apply Subtype.ext
        show (mkBk (hdB (1 - g.area))).1.take 0 ++ (getB l.1.bl 0).1.drop 0 = _
        simp
      rw [this, getB_eq hi0, List.set_getElem_self]
    | succ t =>
      right
      show ((mkBk (hdB (1 - g.area))).1.take (t + 1) ++ (getB l.1.bl 0).1.drop (t + 1)).headD 0 = _
      rw [mkBk_val hhl hhb]
      rfl
  have hcs2 : CS (oneD l.1 0 (hdB (1 - g.area))).1 S := by
    refine one_cs (CS.flat p1 (hS1 _ hN1 hcs.2.2)) fun _ _ t ht => ?_
    rcases hmx t ht with h | h
    · rw [h]; exact hS1 _ hN1 hcs.2.2
    · exact hS2 _ (by rw [List.length_set]; exact hN1) (hsf2 _ h)
  have hol := oneD_len l.1 0 (hdB (1 - g.area))
  by_cases c2 : (oneD l.1 0 (hdB (1 - g.area))).2 = false
  · rw [if_pos c2] at eR
    rw [eR]
    exact .inr ⟨hs8, rfl, rfl, hcs2, by rw [hol.1]; exact hN1⟩
  · rw [if_neg c2] at eR
    rw [eR]
    obtain ⟨o1, o2⟩ := one_ok (show (oneD l.1 0 (hdB (1 - g.area))).2 = true by simpa using c2)
    refine .inl ⟨hs8, rfl, ⟨⟨?_, rfl, ok, G.ov⟩, ?_, o1⟩, rfl⟩
    · simp only [o2]
      refine hsf2 _ ?_
      rw [mkBk_val hhl hhb]; rfl
    · simp only [o2, List.length_set]; exact hN1
end Fk
set_option linter.unusedVariables false
set_option linter.unusedSimpArgs false
set_option maxRecDepth 100000
set_option maxHeartbeats 2000000
namespace Fk
open Go Go.Proofs Go.RowKit
theorem xor_lt32 {s c : Nat} (hs : s < 4294967296) (hc : c < 256) : s ^^^ c < 4294967296 := Nat.xor_lt_two_pow (n := 32) hs (by omega)
theorem numF_inj : ∀ (l m : List Nat) (a b : Nat), l.length = m.length → (∀ x ∈ l, x < 256) → (∀ x ∈ m, x < 256) → numF a l = numF b m → a = b ∧ l = m
  | [], [], a, b, _, _, _, h => ⟨h, rfl⟩
  | [], y :: m, _, _, h, _, _, _ => by simp at h
  | x :: l, [], _, _, h, _, _, _ => by simp at h
  | x :: l, y :: m, a, b, hl, h1, h2, h => by
    obtain ⟨e1, e2⟩ := numF_inj l m _ _ (by simpa using hl) (fun z hz => h1 z (by simp [hz])) (fun z hz => h2 z (by simp [hz])) h
    have hx := h1 x (by simp)
    have hy := h2 y (by simp)
    have e1 : a * 256 + x = b * 256 + y := e1
    exact ⟨by omega, by rw [e2]; congr 1; omega⟩
theorem num_inj {l m : List Nat} (hl : l.length = m.length) (h1 : ∀ x ∈ l, x < 256) (h2 : ∀ x ∈ m, x < 256) (h : num l = num m) : l = m := (numF_inj l m 0 0 hl h1 h2 h).2
end Fk
set_option linter.unusedVariables false
set_option linter.unusedSimpArgs false
set_option maxRecDepth 100000
namespace Fk
open Go Go.Proofs Go.RowKit
theorem bytesOf_ext (l : List Nat) (a b : Nat) : (bytesOf l).extract a b = bytesOf ((l.drop a).take (b - a)) := by
  apply ByteArray.ext
  apply Array.toList_inj.1
  simp [bytesOf, List.extract_eq_take_drop, List.map_take, List.map_drop]
theorem und9 : Try.prog.underlying 9 = some .string := by kernel_rfl
theorem cut_lh (w : World) (l : List Nat) (x y : Nat) (h : x ≤ y) (h2 : y ≤ l.length) :
    (Instr.sliceAt 9 (.string (bytesOf l)) (some (.int .i64 (x : Int))) (some (.int .i64 (y : Int))) none).run Try.prog w = .ok (.string (bytesOf ((l.drop x).take (y - x)))) w := by
  rw [run_sliceAt_string (h := und9), run_slice_string w 9 (bytesOf l) .i64 .i64 (x : Int) (y : Int) und9 (by omega) (by omega) (by rw [size_bytesOf]; omega), bytesOf_ext]
  simp
theorem getB_set (l : List Bk) (i j : Nat) (b : Bk) (hi : i < l.length) : getB (l.set i b) j = if i = j then b else getB l j := by
  unfold getB
  rw [List.getD_eq_getElem?_getD, List.getD_eq_getElem?_getD, List.getElem?_set]
  split
  · rename_i h; subst h; simp [hi]
  · rfl
def front (d : Dk) (j : Nat) : List Bk := (d.pd.drop j).foldr undo d.bl
structure Fro (d : Dk) : Prop where
  len : d.bl.length = 8
  rf : d.rf = 0
  ok : ∀ k (h : k < d.pd.length), d.pd[k].i < 8 ∧ getB (front d (k + 1)) d.pd[k].i = d.pd[k].now
theorem front_last (d : Dk) : front d d.pd.length = d.bl := by unfold front; simp
theorem front_step {d : Dk} {k : Nat} (h : k < d.pd.length) : front d k = (front d (k + 1)).set d.pd[k].i d.pd[k].was := by
  unfold front
  rw [List.drop_eq_getElem_cons h]; rfl
theorem front_len (d : Dk) (j : Nat) : (front d j).length = d.bl.length := undo_len _ _
theorem front_put {d : Dk} {i j : Nat} (b : Bk) (hi : i < d.bl.length) (hj : j ≤ d.pd.length) : front (d.put i b) j = front d j := by
  unfold front Dk.put
  simp only
  rw [List.drop_append_of_le_length hj, List.foldr_append]
  congr 1
  show (d.bl.set i b).set i (getB d.bl i) = d.bl
  rw [List.set_set, getB_eq hi, List.set_getElem_self]
theorem Fro.put {d : Dk} (h : Fro d) {i : Nat} (hi : i < 8) (b : Bk) : Fro (d.put i b) := by
  have hl := h.len
  refine ⟨by simp [Dk.put, hl], h.rf, fun k hk => ?_⟩
  have hpl : (d.put i b).pd.length = d.pd.length + 1 := by simp [Dk.put]
  rcases Nat.lt_or_ge k d.pd.length with h1 | h1
  · have e : (d.put i b).pd[k] = d.pd[k] := by simp [Dk.put, List.getElem_append_left h1]
    rw [e, front_put b (by omega) (by omega)]
    exact h.ok k h1
  · have hk' : k = d.pd.length := by omega
    subst hk'
    have e : (d.put i b).pd[d.pd.length] = ⟨i, b, getB d.bl i⟩ := by simp [Dk.put]
    rw [e, ← hpl, front_last]
    refine ⟨hi, ?_⟩
    show getB (d.bl.set i b) i = b
    rw [getB_set _ _ _ _ (by omega), if_pos rfl]
end Fk
set_option linter.unusedVariables false
set_option linter.unusedSimpArgs false
set_option maxRecDepth 100000
namespace Fk
open Go Go.Proofs Go.RowKit
def wr2 (q : Int × ByteArray) : List Value := [.int .i64 q.1, .string q.2]
theorem encw2 : Enc 2 wr2 := ⟨fun _ => rfl, by intro x v hv; simp [wr2] at hv; rcases hv with rfl | rfl <;> rfl⟩
theorem rowT137 : RowT Try.prog 137 257 2 24 := RowT.of (by kernel_rfl) (by kernel_rfl) (by kernel_rfl) (by omega)
structure Rf where
  sf : List ByteArray
  pe : List (Int × ByteArray)
  rf : Int
structure RfS where
  a : Option Addr
  c : Nat
  b : Option Addr
  e : Nat
def Rf.v (x : Rf) (p : RfS) : Value := .agg #[.slice p.a x.sf.length p.c, .slice p.b x.pe.length p.e, .int .i64 x.rf]
structure RfAt (w : World) (base : Nat) (x : Rf) (p : RfS) : Prop where
  sf : OwnL w base 9 1 s1 p.a p.c x.sf
  pe : OwnL w base 257 2 wr2 p.b p.e x.pe
  rf : 0 ≤ x.rf ∧ x.rf ≤ 9223372036854775807
  sl : x.sf.length < 2 ^ 30
  pl : x.pe.length < 2 ^ 29
/-- What stands elsewhere stands in new blocks. -/
def NewS (w : World) (p p' : RfS) : Prop := (∀ A, p'.a = some A → p.a = some A ∨ w.heap.size ≤ A.block) ∧ ∀ A, p'.b = some A → p.b = some A ∨ w.heap.size ≤ A.block
theorem NewS.refl (w : World) (p : RfS) : NewS w p p := ⟨fun _ h => .inl h, fun _ h => .inl h⟩
theorem RfAt.md {w w' : World} {base : Nat} {x : Rf} {p : RfS} (h : RfAt w base x p) (hm : Md [] w w') : RfAt w' base x p := ⟨h.sf.md hm, h.pe.md hm, h.rf, h.sl, h.pl⟩
def Rf.step (x : Rf) : Rf × Bool := if x.rf = 0 then (x, true) else ({ x with rf := x.rf - 1 }, decide (x.rf - 1 ≠ 0))
theorem Rf.step_sf (x : Rf) : x.step.1.sf = x.sf ∧ x.step.1.pe = x.pe := by unfold Rf.step; split <;> exact ⟨rfl, rfl⟩
theorem RfAt.step {w : World} {base : Nat} {x : Rf} {p : RfS} (h : RfAt w base x p) : RfAt w base x.step.1 p := by
  have h1 := h.rf
  unfold Rf.step
  split
  · exact h
  · exact ⟨h.sf, h.pe, ⟨by simp only; omega, by simp only; omega⟩, h.sl, h.pl⟩
theorem f194_ok (x : Rf) (p : RfS) (hx : 0 ≤ x.rf ∧ x.rf ≤ 9223372036854775807) (w : World) : Ct Try.prog 194 #[x.v p] w fun v w' => v = .tuple #[x.step.1.v p, .bool x.step.2] ∧ Md [] w w' := by
  unfold Rf.v
  apply f194_in
  intro n1 hn1 n2 hn2
  refine Bd_in fun b3 hb3 => If_in (fun hb w4 h4 hL4 => ⟨?_, h4.fresh (by simp; exact hn2)⟩) fun hb => ?_
  · have : x.rf = 0 := by rw [hb3] at hb; simpa using hb
    unfold Rf.step
    rw [if_pos this]
  · have hne : x.rf ≠ 0 := by rw [hb3] at hb; simpa using hb
    refine Bd_e (y := x.rf - 1) (by rw [IntKind.wrap_i64]; omega) fun w6 h6 hL6 => Bd_in fun b7 hb7 w8 h8 hL8 => ⟨?_, ?_⟩
    · unfold Rf.step
      rw [if_neg hne, hb7]
      simp [Rf.v]
      rw [Bool.eq_iff_iff]; simp
    · have m6 : Md [] w w6 := h6.fresh (by simp; exact hn1)
      exact (m6.trans (Md_drew w6)).old h8 (by simp; omega)
def keptL (sf : List ByteArray) (l : List (Int × ByteArray)) : List ByteArray := l.foldl (fun sf q => sf.set q.1.toNat q.2) sf
theorem keptL_len (l : List (Int × ByteArray)) : ∀ sf, (keptL sf l).length = sf.length := by
  induction l with
  | nil => intro sf; rfl
  | cons q l ih => intro sf; unfold keptL at ih ⊢; rw [List.foldl_cons, ih, List.length_set]
theorem keptL_take {sf : List ByteArray} {l : List (Int × ByteArray)} {i : Nat} (hi : i < l.length) : keptL sf (l.take (i + 1)) = (keptL sf (l.take i)).set l[i].1.toNat l[i].2 := by
  unfold keptL
  rw [List.take_succ_eq_append_getElem hi, List.foldl_append]; rfl
theorem f195_ok (x : Rf) (p : RfS) (base : Nat) (w : World) (h : RfAt w base x p) (l : List (Int × ByteArray)) (B : Option Addr) (C : Nat) (hr : RowAt w B 2 wr2 l) (hin : ∀ q ∈ l, 0 ≤ q.1 ∧ q.1 < x.sf.length) (hl : l.length < 2 ^ 30) :
    Ct Try.prog 195 #[x.v p, .slice B l.length C] w fun v w' => (∃ a' c', v = .agg #[.slice a' x.sf.length c', .slice none 0 0, .int .i64 x.rf] ∧ OwnL w' w.heap.size 9 1 s1 a' c' (keptL x.sf l)) ∧ Md [] w w' := by
  unfold Rf.v
  apply f195_in
  intro n1 hn1 n2 hn2 w3 h3 hL3 n4 w5 e4 e5
  subst e4; subst e5
  have hsl := h.sl
  have l1 := hL3 n1 (by simp)
  have l2 := hL3 n2 (by simp)
  have ma : Md [] w3 (w3.alloc (.cells #[] 9)) := Md.alloc w3 _
  have hsz := ma.size
  have o5 : OwnL (w3.alloc (.cells #[] 9)) w3.heap.size 9 1 s1 (some ⟨w3.heap.size, 0, none⟩) 0 [] := OwnL.lit (P := Try.prog) encs1 w3 9 [] #[] (Nat.le_refl _) (by simp [maxLen]) rfl
  refine app_own rowT55 encs1 o5 (h.sf.md (h3.trans ma)) hsz (fun b hb => by have := hL3 b hb; omega) (fun b hb A hA e => by have := hL3 b hb; cases hA; simp at e; omega) (by simp [maxLen]; omega) (by simp; omega) fun a8 c8 w7 o7 m7 _ => opL_in ?_
  rw [List.nil_append] at *
  have hm7 : Md [] w w7 := md_app o5 m7 h3.size (h3.trans ma)
  refine LoopP_in (fun mm us vs w' => ∃ i : Nat, us = [.int .i64 i] ∧ mm = l.length - i ∧ i ≤ l.length ∧ Md [] w w' ∧ OwnL w' w3.heap.size 9 1 s1 a8 c8 (keptL x.sf (l.take i))) l.length ⟨0, rfl, rfl, by omega, hm7, by simpa [keptL] using o7⟩ ?_
  rintro mm us vs w14 ⟨i, rfl, rfl, hi, hmd, ho⟩
  refine opI_in <| Bd_e rfl <| Bd_in fun b17 hb17 => If_in (fun hb => ?_) fun hb w28 h28 hL28 => ?_
  · have hi' : i < l.length := by rw [hb17] at hb; have : (i : Int) < (l.length : Int) := by simpa using hb
                                  omega
    have hrow := hr.md (hmd.trans (Md_drew w14))
    obtain ⟨q1, q2⟩ := hin _ (List.getElem_mem hi')
    have eK := keptL_take (sf := x.sf) hi'
    generalize hq : l[i] = q at *
    obtain ⟨j, hj⟩ := Int.eq_ofNat_of_zero_le q1
    have hkl := keptL_len (l.take i) x.sf
    have hjl : j < (keptL x.sf (l.take i)).length := by omega
    have od := ho.md (Md_drew w14)
    have hix : IxOk q.1 x.sf.length a8 := by have := (ho.row encs1).ix hjl; rw [hkl] at this; rw [hj]; exact this
    obtain ⟨A, hA, p1, p2, p3, p4, p5, p6⟩ := od.put encs1 (by omega) hjl q.2
    have hnot : ¬ Addr.block (adAt a8 q.1 1) ∈ [n2, n1] := by
      rw [hj]
      show ¬ (adAt a8 (j : Int) 1).block ∈ [n2, n1]
      rw [p3]; simp; omega
    have hfin : ∃ m', m' < l.length - i ∧ ∃ i' : Nat, [Value.int .i64 ((i + 1 : Nat) : Int)] = [.int .i64 i'] ∧ m' = l.length - i' ∧ i' ≤ l.length ∧ Md [] w (setCells w14.drew (adAt a8 q.1 1) 0 [.string q.2]) ∧ OwnL (setCells w14.drew (adAt a8 q.1 1) 0 [.string q.2]) w3.heap.size 9 1 s1 a8 c8 (keptL x.sf (l.take i')) := by
      refine ⟨l.length - (i + 1), by omega, i + 1, rfl, rfl, by omega, ?_, ?_⟩
      · rw [hj]
        exact (hmd.trans (Md_drew w14)).old p6 (by simp; have := h3.size; omega)
      · rw [eK, hj]
        exact p5
    have hwr : Wr w14.drew (adAt a8 q.1 1) 1 := by rw [hj]; exact p4
    refine ⟨hr.ix hi', hr.ix hi', hrow.ldj hi' (v := .int .i64 q.1) (by rw [hq]; rfl) <| opI_in <| hrow.ldj hi' (v := .string q.2) (by rw [hq]; rfl) <| opStr_in ⟨hix, hnot, hwr, Bd_e (inc_i64 (by omega)) hfin⟩, hrow.ldj hi' (v := .string q.2) (by rw [hq]; rfl) <| opStr_in <| hrow.ldj hi' (v := .int .i64 q.1) (by rw [hq]; rfl) <| opI_in ⟨hix, hnot, hwr, Bd_e (inc_i64 (by omega)) hfin⟩⟩
  · have hi' : i = l.length := by rw [hb17] at hb; have : ¬ (i : Int) < (l.length : Int) := by simpa using hb
                                  omega
    subst hi'
    rw [List.take_length] at ho
    have hsz3 := h3.size
    refine ⟨⟨a8, c8, rfl, ?_⟩, hmd.old h28 (by simp; omega)⟩
    exact (ho.mdD h28 (fun A hA => by have := (ho.lt hA).1; simp; omega)).down hsz3
def Rf.has (x : Rf) (i : Nat) : ByteArray := x.pe.foldl (fun s q => if q.1 = (i : Int) then q.2 else s) (x.sf.getD i ByteArray.empty)
theorem f120_ok (x : Rf) (p : RfS) (base : Nat) (w : World) (h : RfAt w base x p) (i : Nat) (hi : i < x.sf.length) : Ct Try.prog 120 #[x.v p, .int .i64 i] w fun v w' => v = .string (x.has i) ∧ Md [] w w' := by
  unfold Rf.v
  apply f120_in
  intro n1 hn1
  have hpl := h.pl
  refine ⟨(h.sf.row encs1).ix hi, fun w2 h2 hL2 => ((h.sf.md h2).row encs1).ld1 hi rfl <| opStr_in ?_⟩
  refine LoopP_in (fun mm us vs w' => ∃ k : Nat, us = [.string ((x.pe.take k).foldl (fun s q => if q.1 = (i : Int) then q.2 else s) (x.sf.getD i ByteArray.empty)), .int .i64 k] ∧ mm = x.pe.length - k ∧ k ≤ x.pe.length ∧ Md [] w w') x.pe.length ⟨0, by simp [hi], rfl, by omega, h2⟩ ?_
  rintro mm us vs w8 ⟨k, rfl, rfl, hk, hmd⟩
  refine opStr_in <| opI_in <| Bd_e rfl <| Bd_in fun b12 hb12 => If_in (fun hb => ?_) fun hb => ?_
  · have hk' : k < x.pe.length := by rw [hb12] at hb; have : (k : Int) < (x.pe.length : Int) := by simpa using hb
                                     omega
    refine Jn_in (fun us vs w' => us = [.string ((x.pe.take (k + 1)).foldl (fun s q => if q.1 = (i : Int) then q.2 else s) (x.sf.getD i ByteArray.empty))] ∧ w' = w8) ?_ ?_
    · rintro us vs w15 ⟨rfl, rfl⟩
      exact opStr_in <| Bd_e (inc_i64 (by omega)) ⟨x.pe.length - (k + 1), by omega, k + 1, rfl, rfl, by omega, hmd⟩
    have hrow := (h.pe.md hmd).row encw2
    rw [List.take_succ_eq_append_getElem hk', List.foldl_append]
    refine ⟨hrow.ix hk', hrow.ldj hk' rfl <| opI_in <| Bd_in fun b21 hb21 => If_in (fun hb => ⟨hrow.ix hk', hrow.ldj hk' rfl <| opStr_in ⟨?_, rfl⟩⟩) fun hb => ⟨?_, rfl⟩⟩
    · have : x.pe[k].1 = (i : Int) := by rw [hb21] at hb; simpa using hb
      simp [this]
    · have : ¬ x.pe[k].1 = (i : Int) := by rw [hb21] at hb; simpa using hb
      simp [this]
  · have hk' : k = x.pe.length := by rw [hb12] at hb; have : ¬ (k : Int) < (x.pe.length : Int) := by simpa using hb
                                     omega
    subst hk'
    rw [List.take_length]
    exact ⟨rfl, hmd⟩
def Rf.all (x : Rf) (n : Nat) : ByteArray := (List.range n).foldl (fun s i => s ++ x.has i) ByteArray.empty
theorem f121_ok (x : Rf) (p : RfS) (base : Nat) (w : World) (h : RfAt w base x p) (hs : ∀ i, i < x.sf.length → (x.has i).size = 64) (h20 : x.sf.length ≤ 20) : Ct Try.prog 121 #[x.v p] w fun v w' => v = .string (x.all x.sf.length) ∧ Md [] w w' := by
  have hall : ∀ n, n ≤ x.sf.length → (x.all n).size = 64 * n := by
    intro n
    induction n with
    | zero => intro _; rfl
    | succ n ih =>
      intro hn
      unfold Rf.all at ih ⊢
      rw [List.range_succ, List.foldl_append, List.foldl_cons, List.foldl_nil, ByteArray.size_append, ih (by omega), hs n (by omega)]; omega
  unfold Rf.v
  apply f121_in
  intro n1 hn1 w2 h2 hL2
  refine LoopP_in (fun mm us vs w' => ∃ k : Nat, us = [.string (x.all k), .int .i64 k] ∧ mm = x.sf.length - k ∧ k ≤ x.sf.length ∧ Md [] w w' ∧ n1 < w'.heap.size) x.sf.length ⟨0, rfl, rfl, by omega, h2, hL2 n1 (by simp)⟩ ?_
  rintro mm us vs w6 ⟨k, rfl, rfl, hk, hmd, hn⟩
  refine opStr_in <| opI_in <| Bd_e rfl <| Bd_in fun b10 hb10 => If_in (fun hb => ?_) fun hb => ?_
  · have hk' : k < x.sf.length := by rw [hb10] at hb; have : (k : Int) < (x.sf.length : Int) := by simpa using hb
                                     omega
    refine (f120_ok x p base w6 (h.md hmd) k hk').call (by simpa using hn) ?_
    rintro v w12 rfl m12
    have := hall k (by omega)
    have := hs k hk'
    refine opStr_in <| RunW_in0 (run_addS w12 _ _ _ _ (by omega) (by omega)) <| opStr_in <| Bd_e (inc_i64 (by omega)) ⟨x.sf.length - (k + 1), by omega, k + 1, ?_, rfl, by omega, hmd.trans m12, by have := m12.size; omega⟩
    unfold Rf.all
    rw [List.range_succ, List.foldl_append]; rfl
  · have hk' : k = x.sf.length := by rw [hb10] at hb; have : ¬ (k : Int) < (x.sf.length : Int) := by simpa using hb
                                     omega
    subst hk'
    exact ⟨rfl, hmd⟩
end Fk
