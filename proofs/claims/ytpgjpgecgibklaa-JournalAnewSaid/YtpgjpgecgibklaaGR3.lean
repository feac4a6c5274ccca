/- Contracts of functions, and plain laws: several texts, joined. -/
import Derived.Test.YtpgjpgecgibklaaGR2
import Derived.Test.YtpgjpgecgibklaaGV0
import Derived.Test.YtpgjpgecgibklaaGR0
import Derived.Test.YtpgjpgecgibklaaGR1
set_option linter.unusedVariables false
set_option linter.unusedSimpArgs false
set_option maxRecDepth 100000
set_option maxHeartbeats 2000000
namespace Fk
open Go Go.Proofs Go.RowKit
def zE (n : Nat) (l : List Nat) : List Nat := if l.length < n then l ++ [0] else l
def OkR (rs : List (List Nat)) : Prop := ∀ r ∈ rs, 1 ≤ r.length ∧ r.length ≤ 1048576 ∧ ∀ x ∈ r, x < 256
structure Sf (bl : List Bk) (a : Nat) (rs : List (List Nat)) : Prop where
  op : openB bl = a
  h3 : 3 ≤ bl.length
  fit : (rawR rs).length ≤ halfB bl * 64
  pre : Pre (zE (halfB bl * 64) (rawR rs)) (areaB bl a)
theorem openB_le (bl : List Bk) : openB bl ≤ 1 := by unfold openB; omega
theorem Sf.ha {bl : List Bk} {a : Nat} {rs : List (List Nat)} (h : Sf bl a rs) : a ≤ 1 := by have := openB_le bl; have := h.op; omega
theorem zE_le {n : Nat} {l : List Nat} (h : l.length ≤ n) : (zE n l).length ≤ n := by
  unfold zE
  split
  · rw [List.length_append]; simp only [List.length_singleton]; omega
  · exact h
theorem Sf.parse {bl : List Bk} {a : Nat} {rs : List (List Nat)} (h : Sf bl a rs) (ok : OkR rs) : parseL (areaB bl a) = some (rs, (rawR rs).length) := by
  have hal := areaB_len (bl := bl) (by have := h.h3; omega) h.ha
  have hp := h.pre
  have hf := h.fit
  unfold zE at hp
  obtain ⟨t, ht⟩ := hp.split
  rw [ht] at hal ⊢
  by_cases q : (rawR rs).length < halfB bl * 64
  · rw [if_pos q, List.append_assoc]
    exact parse_end rs (fun r hr => ⟨(ok r hr).1, (ok r hr).2.1⟩) _ (.inr ⟨t, rfl⟩)
  · rw [if_neg q] at hal ⊢
    have : t = [] := List.eq_nil_of_length_eq_zero (by rw [List.length_append] at hal; omega)
    rw [this]
    exact parse_end rs (fun r hr => ⟨(ok r hr).1, (ok r hr).2.1⟩) _ (.inl rfl)
theorem rawR_snoc (rs : List (List Nat)) (r : List Nat) : rawR (rs ++ [r]) = rawR rs ++ frm 1 r := by simp [rawR]
structure JG (d : Dk) (g : Lg) (rs : List (List Nat)) : Prop where
  sf : Sf d.bl g.area rs
  pos : g.pos = (rawR rs).length
  ok : OkR rs
  ov : g.ov = false
theorem jsz_B (d : Dk) : jsz d = halfB d.bl * 64 := rfl
theorem JG.le {d : Dk} {g : Lg} {rs : List (List Nat)} (G : JG d g rs) : g.pos ≤ jsz d := by rw [G.pos, jsz_B]; exact G.sf.fit
theorem may_cases {g : Lg} (ho : g.ov = false) (l : Nat) {p n : Nat} (hp : p ≤ n) : mayD g ((n : Int) - p) [l] = if l < 1 ∨ l > 1048576 then 3 else if p + l + 8 ≤ n then 0 else 4 := by
  unfold mayD
  rw [if_neg (by simp [ho]), mayF_cons]
  split
  · rfl
  · unfold mayF
    by_cases q : p + l + 8 ≤ n
    · rw [if_pos q, if_neg (by simp; omega)]
    · rw [if_neg q, if_pos (by simp; omega)]
theorem mix_one {old : Bk} {x t : Nat} (ht : t ≤ 64) (hx : x < 64) (c : Nat) (hc : c < 256) : mixB t (mkBk (old.1.set x c)) old = if t ≤ x then old else mkBk (old.1.set x c) := by
  have hv : (mkBk (old.1.set x c)).1 = old.1.set x c := mkBk_val (by simp [old.2.1]) (fun y hy => by
    rcases List.mem_or_eq_of_mem_set hy with h | h
    · exact old.2.2 y h
    · omega)
  split
  · rename_i h
    apply Subtype.ext
    apply List.ext_getElem?
    intro i
    rw [mixB_get ht, hv]
    split
    · rw [List.getElem?_set_ne (by omega)]
    · rfl
  · rename_i h
    apply Subtype.ext
    apply List.ext_getElem?
    intro i
    rw [mixB_get ht, hv]
    split
    · rfl
    · rw [List.getElem?_set_ne (by omega)]
section
variable {d : Dk} {g : Lg} {rs : List (List Nat)} {r : List Nat}
theorem E1_eq (hp : g.pos = (rawR rs).length) (m : Nat) (hm : (frm 0 r).length = (frm m r).length) : zE (jsz d) (rawR rs ++ frm m r) = rawR rs ++ zEnd d g.pos (frm m r) := by
  unfold zE zEnd
  rw [List.length_append, ← hp]
  split
  · rw [List.append_assoc]
  · rfl
theorem apD_law (G : JG d g rs) (hl : d.bl.length ≤ 65536) (hpd : d.pd = []) (hr : ∀ x ∈ r, x < 256) :
    ((r.length < 1 ∨ r.length > 1048576) ∧ apD d g r = (d, g, 3)) ∨ (¬ (r.length < 1 ∨ r.length > 1048576) ∧ ¬ g.pos + r.length + 8 ≤ jsz d ∧ apD d g r = (d, g, 4)) ∨
    (¬ (r.length < 1 ∨ r.length > 1048576) ∧ g.pos + r.length + 8 ≤ jsz d ∧ (apD d g r).2.2 = 0 ∧ JG (apD d g r).1 (apD d g r).2.1 (rs ++ [r]) ∧ (apD d g r).1.pd = [] ∧ (apD d g r).1.bl.length = d.bl.length ∧ (apD d g r).2.1 = { g with pos := g.pos + (r.length + 8) } ∧ (d.rf = 0 → (apD d g r).1.rf = 0)) ∨
    (¬ (r.length < 1 ∨ r.length > 1048576) ∧ g.pos + r.length + 8 ≤ jsz d ∧ (apD d g r).2.2 = 200 ∧ (apD d g r).2.1 = { g with ov := true } ∧ d.rf ≠ 0 ∧ CS (apD d g r).1 (fun bl => bl.length = d.bl.length ∧ (Sf bl g.area rs ∨ Sf bl g.area (rs ++ [r])))) := by
  have hm := may_cases G.ov r.length G.le
  by_cases q1 : r.length < 1 ∨ r.length > 1048576
  · rw [if_pos q1] at hm
    exact .inl ⟨q1, by unfold apD; rw [if_pos (by rw [hm]; decide), hm]⟩
  rw [if_neg q1] at hm
  by_cases q2 : ¬ g.pos + r.length + 8 ≤ jsz d
  · rw [if_neg q2] at hm
    exact .inr (.inl ⟨q1, q2, by unfold apD; rw [if_pos (by rw [hm]; decide), hm]⟩)
  have q2 : g.pos + r.length + 8 ≤ jsz d := Decidable.byContradiction q2
  rw [if_pos q2] at hm
  refine .inr (.inr ?_)
  have hA := G.sf.ha
  have h1 : 1 ≤ d.bl.length := by have := G.sf.h3; omega
  have efl : (frm 0 r).length = r.length + 8 := frm_len 0 r
  have hfit : g.pos + (frm 0 r).length ≤ jsz d := by omega
  have hfb := frm_lt 0 r (by omega) hr
  obtain ⟨K, hSl, hKh, hpK, hKi⟩ := layS_len (d := d) h1 hA hfit
  have hSg := fun j => layS_get (d := d) h1 hA hfit (j := j)
  have hSb := layS_lt (d := d) (area := g.area) (p := g.pos) hfb
  have hzl : (frm 0 r).length ≤ (zEnd d g.pos (frm 0 r)).length := by unfold zEnd; split <;> simp
  have hz0 : (zEnd d g.pos (frm 0 r))[0]? = some 0 := by unfold zEnd frm; split <;> rfl
  have hel : (zE (jsz d) (rawR rs)).length = g.pos + 1 := by unfold zE; rw [if_pos (by rw [← G.pos]; omega)]; simp [G.pos]
  have he : ∀ j, j < g.pos + 1 → (zE (jsz d) (rawR rs))[j]? = if j < g.pos then (rawR rs)[j]? else some 0 := fun j hj => by
    unfold zE
    rw [if_pos (by rw [← G.pos]; omega)]
    split
    · rw [List.getElem?_append_left (by rw [← G.pos]; assumption)]
    · rw [List.getElem?_append_right (by rw [← G.pos]; omega), ← G.pos, show j - g.pos = 0 by omega]; rfl
  have hold : ∀ j, j < g.pos → (areaL d g.area)[j]? = (rawR rs)[j]? := fun j hj => by
    have := G.sf.pre j (by rw [← jsz_B, hel]; omega)
    rw [← jsz_B, he j (by omega), if_pos hj] at this
    exact this
  have hS1 : ∀ j, j < g.pos + 1 → (layS d g.area g.pos (frm 0 r))[j]? = (zE (jsz d) (rawR rs))[j]? := fun j hj => by
    have hp0 : g.pos / 64 * 64 < g.pos + (zEnd d g.pos (frm 0 r)).length := by omega
    have hpK' := (hKi (g.pos / 64)).1 hp0
    rw [hSg j (by rw [hSl]; omega), he j hj]
    split
    · rename_i h; exact hold j h
    · rw [if_pos (by omega), show j - g.pos = 0 by omega, hz0]
  have hcl : ∀ q, q < K → (chunk (layS d g.area g.pos (frm 0 r)) q).length = 64 := fun q hq => chunk_len hSl hq
  have hcv : ∀ q, q < K → (mkBk (chunk (layS d g.area g.pos (frm 0 r)) q)).1 = chunk (layS d g.area g.pos (frm 0 r)) q := fun q hq => mkBk_val (hcl q hq) (chunk_lt hSb)
  have hpre : ∀ bl q t, (bl.length = d.bl.length ∧ Sf bl g.area rs) → bl.length = d.bl.length → g.pos / 64 ≤ q → q < K → t ≤ 64 → (bl.set (jbB bl g.area q) (mixB t (mkBk (chunk (layS d g.area g.pos (frm 0 r)) q)) (getB bl (jbB bl g.area q)))).length = d.bl.length ∧ Sf (bl.set (jbB bl g.area q) (mixB t (mkBk (chunk (layS d g.area g.pos (frm 0 r)) q)) (getB bl (jbB bl g.area q)))) g.area rs := fun bl q t hbl hlen hq hqK ht => by
    obtain ⟨_, hs⟩ := hbl
    have hhb : halfB bl = half d := by unfold halfB half; rw [hlen]
    have hb1 : 1 ≤ bl.length := by omega
    have hlt := jbB_lt (bl := bl) (k := q) hb1 hA (by omega)
    have hh : ∀ b, halfB (bl.set (jbB bl g.area q) b) = halfB bl := fun b => by unfold halfB; simp
    refine ⟨by simpa using hlen, by rw [openB_set hlt (jbB_pos _ _ _)]; exact hs.op, by simpa using hs.h3, by rw [hh]; exact hs.fit, ?_⟩
    rw [hh]
    refine pre_set hb1 hA (by omega) hs.pre (zE_le hs.fit) fun i hi hij => ?_
    have ej : halfB bl * 64 = jsz d := by rw [hhb]; rfl
    rw [ej] at hij ⊢
    rw [hel] at hij
    rw [mixB_get ht]
    split
    · rw [hcv q hqK, chunk_get hi, hS1 _ hij]
    · rw [← areaB_get hb1 hA (by omega) hi]
      have := hs.pre (q * 64 + i) (by rw [ej, hel]; exact hij)
      rw [this, ej]
  have eL : layD d g.area g.pos (frm 0 r) = layL g.area (layS d g.area g.pos (frm 0 r)) (K - g.pos / 64) (g.pos / 64) d := by unfold layD; rw [hSl, Nat.mul_div_cancel _ (by omega)]
  have hcs : CS (layD d g.area g.pos (frm 0 r)).1 (fun bl => bl.length = d.bl.length ∧ Sf bl g.area rs) := by
    rw [eL]
    exact layL_cs (N := d.bl.length) (S := fun bl => bl.length = d.bl.length ∧ Sf bl g.area rs) (g.pos / 64) K hpre _ _ d rfl (Nat.le_refl _) (by omega) (CS.flat hpd ⟨rfl, G.sf⟩)
  have hfree : d.rf = 0 → (layD d g.area g.pos (frm 0 r)).2 = true ∧ (layD d g.area g.pos (frm 0 r)).1.rf = 0 := fun h0 => by
    rw [eL]; exact layL_free hA _ _ d h1 (by omega) (by rw [hSl]; omega) h0
  have eA : apD d g r = if (layD d g.area g.pos (frm 0 r)).2 = false then ((layD d g.area g.pos (frm 0 r)).1, { g with ov := true }, 200) else
      if (oneD (layD d g.area g.pos (frm 0 r)).1 (jbk d g.area (g.pos / 64)) ((getB (layD d g.area g.pos (frm 0 r)).1.bl (jbk d g.area (g.pos / 64))).1.set (g.pos % 64) 1)).2 = false
      then ((oneD (layD d g.area g.pos (frm 0 r)).1 (jbk d g.area (g.pos / 64)) ((getB (layD d g.area g.pos (frm 0 r)).1.bl (jbk d g.area (g.pos / 64))).1.set (g.pos % 64) 1)).1, { g with ov := true }, 200)
      else ((oneD (layD d g.area g.pos (frm 0 r)).1 (jbk d g.area (g.pos / 64)) ((getB (layD d g.area g.pos (frm 0 r)).1.bl (jbk d g.area (g.pos / 64))).1.set (g.pos % 64) 1)).1, { g with pos := g.pos + (r.length + 8) }, 0) := by unfold apD; rw [if_neg (by rw [hm]; decide)]
  by_cases c1 : (layD d g.area g.pos (frm 0 r)).2 = false
  · rw [if_pos c1] at eA
    rw [eA]
    refine .inr ⟨q1, q2, rfl, rfl, (fun h0 => by rw [(hfree h0).1] at c1; cases c1), hcs.mono fun bl h => ⟨h.1, .inl h.2⟩⟩
  have c1' : (layD d g.area g.pos (frm 0 r)).2 = true := by simpa using c1
  rw [if_neg c1] at eA
  have hok : (layD d g.area g.pos (frm 0 r)).1.pd = [] ∧ (layD d g.area g.pos (frm 0 r)).1.bl.length = d.bl.length ∧
      (∀ q, g.pos / 64 ≤ q → q < K → getB (layD d g.area g.pos (frm 0 r)).1.bl (jbk d g.area q) = mkBk (chunk (layS d g.area g.pos (frm 0 r)) q)) ∧ (∀ i, (∀ q, g.pos / 64 ≤ q → q < K → i ≠ jbk d g.area q) → getB (layD d g.area g.pos (frm 0 r)).1.bl i = getB d.bl i) := by
    rw [eL] at c1' ⊢
    have := layL_ok hA (K - g.pos / 64) (g.pos / 64) d h1 (by omega) c1'
    have e : g.pos / 64 + (K - g.pos / 64) = K := by omega
    rw [e] at this
    exact this
  generalize hL : layD d g.area g.pos (frm 0 r) = l at *
  obtain ⟨p1, p2, p3, p4⟩ := hok
  have hbl1 : 1 ≤ l.1.bl.length := by omega
  have hh1 : halfB l.1.bl = half d := by unfold halfB half; rw [p2]
  have hj1 : ∀ a k, jbB l.1.bl a k = jbk d a k := fun a k => by show 1 + a * halfB l.1.bl + k = 1 + a * half d + k; rw [hh1]
  have hjz : jsz d = half d * 64 := rfl
  have harea : ∀ j, j < g.pos + (zEnd d g.pos (frm 0 r)).length → (areaB l.1.bl g.area)[j]? = (rawR rs ++ zEnd d g.pos (frm 0 r))[j]? := fun j hj => by
    have hqK : j / 64 < K := (hKi (j / 64)).1 (by omega)
    have ej : j = j / 64 * 64 + j % 64 := by omega
    have e1 : (areaB l.1.bl g.area)[j]? = (getB l.1.bl (jbk d g.area (j / 64))).1[j % 64]? := by
      conv => lhs; rw [ej]
      rw [areaB_get hbl1 hA (by rw [hh1]; omega) (Nat.mod_lt _ (by omega)), hj1]
    rw [e1]
    by_cases hq : g.pos / 64 ≤ j / 64
    · rw [p3 _ hq hqK, hcv _ hqK, chunk_get (Nat.mod_lt _ (by omega)), ← ej, hSg j (by rw [hSl]; omega)]
      split
      · rename_i h; rw [hold j h, List.getElem?_append_left (by rw [← G.pos]; exact h)]
      · rw [if_pos (by omega), List.getElem?_append_right (by rw [← G.pos]; omega), ← G.pos]
    · have hjp : j < g.pos := by omega
      rw [p4 _ fun q hq1 hq2 e => by
        have := (jbB_inj (bl := d.bl) hA hA (show j / 64 < halfB d.bl by rw [← half_B]; omega) (show q < halfB d.bl by rw [← half_B]; omega) e).2
        omega]
      rw [← areaL_get h1 hA (by omega) (Nat.mod_lt _ (by omega)), ← ej, hold j hjp, List.getElem?_append_left (by rw [← G.pos]; exact hjp)]
  have hpk : g.pos / 64 < K := (hKi (g.pos / 64)).1 (by omega)
  have hilt : jbk d g.area (g.pos / 64) < l.1.bl.length := by rw [p2]; exact jbk_lt h1 hA (by omega)
  generalize hi : jbk d g.area (g.pos / 64) = i at *
  generalize hob : (getB l.1.bl i).1.set (g.pos % 64) 1 = ob at *
  have hobl : ob.length = 64 := by rw [← hob, List.length_set, (getB l.1.bl i).2.1]
  have hobb : ∀ x ∈ ob, x < 256 := fun x hx => by
    rw [← hob] at hx
    rcases List.mem_or_eq_of_mem_set hx with h | h
    · exact (getB l.1.bl i).2.2 x h
    · omega
  have hsf2 : Sf (l.1.bl.set i (mkBk ob)) g.area (rs ++ [r]) := by
    have hh2 : halfB (l.1.bl.set i (mkBk ob)) = half d := by unfold halfB; rw [List.length_set]; exact hh1
    have hop : openB l.1.bl = g.area := hcs.now.2.op
    refine ⟨?_, by rw [List.length_set, p2]; exact G.sf.h3, ?_, ?_⟩
    · rw [openB_set hilt (by rw [← hi]; exact jbB_pos d.bl _ _)]; exact hop
    · rw [hh2, rawR_snoc, List.length_append, frm_len, ← G.pos]; omega
    · rw [hh2, rawR_snoc, show half d * 64 = jsz d from rfl, E1_eq G.pos 1 (by rw [frm_len, frm_len])]
      have hzz : ∀ j, (rawR rs ++ zEnd d g.pos (frm 1 r))[j]? = if j = g.pos then some 1 else (rawR rs ++ zEnd d g.pos (frm 0 r))[j]? := fun j => by
        have ez : zEnd d g.pos (frm 1 r) = 1 :: (zEnd d g.pos (frm 0 r)).tail := by
          unfold zEnd; rw [frm_len, frm_len]; split <;> rfl
        have ez0 : zEnd d g.pos (frm 0 r) = 0 :: (zEnd d g.pos (frm 0 r)).tail := by
          unfold zEnd; split <;> rfl
        by_cases hj : j < g.pos
        · rw [if_neg (by omega), List.getElem?_append_left (by rw [← G.pos]; exact hj), List.getElem?_append_left (by rw [← G.pos]; exact hj)]
        · rw [List.getElem?_append_right (by rw [← G.pos]; omega), List.getElem?_append_right (by rw [← G.pos]; omega), ← G.pos, ez]
          split
          · rename_i h; rw [h, Nat.sub_self]; rfl
          · obtain ⟨y, hy⟩ : ∃ y, j - g.pos = y + 1 := ⟨j - g.pos - 1, by omega⟩
            rw [hy, List.getElem?_cons_succ]
            conv => rhs; rw [ez0]
            rw [List.getElem?_cons_succ]
      have hzl2 : (zEnd d g.pos (frm 1 r)).length = (zEnd d g.pos (frm 0 r)).length := by unfold zEnd; rw [frm_len, frm_len]; split <;> simp [frm_len]
      intro j hj
      rw [List.length_append, hzl2, ← G.pos] at hj
      have hzle := zEnd_len hfit
      have ej : j = j / 64 * 64 + j % 64 := by omega
      have e1 : (areaB (l.1.bl.set i (mkBk ob)) g.area)[j]? = (getB (l.1.bl.set i (mkBk ob)) (jbk d g.area (j / 64))).1[j % 64]? := by
        conv => lhs; rw [ej]
        rw [areaB_get (by rw [List.length_set]; exact hbl1) hA (by rw [hh2]; omega) (Nat.mod_lt _ (by omega)), jbB_set, hj1]
      have e0 : (areaB l.1.bl g.area)[j]? = (getB l.1.bl (jbk d g.area (j / 64))).1[j % 64]? := by
        conv => lhs; rw [ej]
        rw [areaB_get hbl1 hA (by rw [hh1]; omega) (Nat.mod_lt _ (by omega)), hj1]
      rw [hzz, e1, getB_set hilt]
      by_cases hji : jbk d g.area (j / 64) = i
      · rw [if_pos hji, mkBk_val hobl hobb, ← hob]
        rw [hji] at e0
        have hqq : j / 64 = g.pos / 64 := by rw [← hi] at hji; unfold jbk at hji; omega
        by_cases hjp : j = g.pos
        · subst hjp
          rw [if_pos rfl, List.getElem?_set_self (by rw [(getB l.1.bl i).2.1]; exact Nat.mod_lt _ (by omega))]
        · rw [if_neg hjp, List.getElem?_set_ne (by omega), ← e0]; exact harea j hj
      · have hjp : j ≠ g.pos := fun h => hji (by rw [h, hi])
        rw [if_neg hji, if_neg hjp, ← e0]; exact harea j hj
  have hcs2 : CS (oneD l.1 i ob).1 (fun bl => bl.length = d.bl.length ∧ (Sf bl g.area rs ∨ Sf bl g.area (rs ++ [r]))) := by
    refine one_cs (CS.flat p1 ⟨p2, .inl hcs.now.2⟩) fun _ _ t ht => ⟨by rw [List.length_set]; exact p2, ?_⟩
    rw [← hob, mix_one ht (Nat.mod_lt _ (by omega)) 1 (by omega)]
    split
    · rw [getB_eq hilt, List.set_getElem_self]; exact .inl hcs.now.2
    · rw [hob]; exact .inr hsf2
  have hfr : d.rf = 0 → (oneD l.1 i ob).2 = true ∧ (oneD l.1 i ob).1.rf = 0 := fun h0 => one_free hilt hobl (hfree h0).2
  by_cases c2 : (oneD l.1 i ob).2 = false
  · rw [if_pos c2] at eA
    rw [eA]
    exact .inr ⟨q1, q2, rfl, rfl, (fun h0 => by rw [(hfr h0).1] at c2; cases c2), hcs2⟩
  · rw [if_neg c2] at eA
    rw [eA]
    obtain ⟨o1, o2⟩ := one_ok (show (oneD l.1 i ob).2 = true by simpa using c2)
    refine .inl ⟨q1, q2, rfl, ⟨by simp only [o2]; exact hsf2, ?_, ?_, G.ov⟩, o1, by simp only [o2, List.length_set]; exact p2, rfl, fun h0 => (hfr h0).2⟩
    · rw [rawR_snoc, List.length_append, frm_len, ← G.pos]
    · intro x hx
      rcases List.mem_append.1 hx with h | h
      · exact G.ok x h
      · simp at h; subst h; exact ⟨by omega, by omega, hr⟩
end
end Fk
set_option linter.unusedVariables false
set_option linter.unusedSimpArgs false
set_option maxRecDepth 100000
set_option maxHeartbeats 2000000
namespace Fk
open Go Go.Proofs Go.RowKit
def sum8 : List Nat → Nat
  | [] => 0
  | l :: ls => l + 8 + sum8 ls
theorem sum8_cons (l : Nat) (ls : List Nat) : sum8 (l :: ls) = l + 8 + sum8 ls := rfl
theorem rawR_cons (r : List Nat) (rs : List (List Nat)) : rawR (r :: rs) = frm 1 r ++ rawR rs := rfl
theorem rawR_len : ∀ rs : List (List Nat), (rawR rs).length = sum8 (rs.map List.length)
  | [] => rfl
  | r :: rs => by rw [rawR_cons, List.length_append, frm_len, rawR_len rs]; rfl
theorem mayF_ok : ∀ (ls : List Nat) (room : Int) (full : Bool), (∀ l ∈ ls, ¬ (l < 1 ∨ l > 1048576)) → -1 ≤ room → (full = false → 0 ≤ room) → mayF room full ls = if full = true ∨ (sum8 ls : Int) > room then 4 else 0
  | [], room, full, h, h1, h2 => by
    unfold mayF sum8
    cases full
    · have := h2 rfl
      rw [if_neg (by simp), if_neg (by simp; omega)]
    · rw [if_pos rfl, if_pos (.inl rfl)]
  | l :: ls, room, full, h, h1, h2 => by
    have hl := h l (by simp)
    rw [mayF_cons, if_neg hl, mayF_ok ls _ _ (fun x hx => h x (by simp [hx])) (by omega) (fun hf => by simp at hf; omega)]
    cases full
    · have := h2 rfl
      rw [sum8_cons]
      by_cases q : (l : Int) + 8 ≤ room
      · have e : min ((l : Int) + 8) (room + 1) = (l : Int) + 8 := by omega
        rw [e]
        by_cases q2 : ((l + 8 + sum8 ls : Nat) : Int) > room
        · rw [if_pos (.inr (by omega)), if_pos (.inr q2)]
        · rw [if_neg, if_neg]
          · simp; omega
          · simp; omega
      · have e : min ((l : Int) + 8) (room + 1) = room + 1 := by omega
        rw [e, if_pos (.inl (by simp; omega)), if_pos (.inr (by omega))]
    · rw [if_pos (.inl (by simp)), if_pos (.inl rfl)]
theorem mayF_bad : ∀ (ls : List Nat) (room : Int) (full : Bool), (∃ l ∈ ls, l < 1 ∨ l > 1048576) → mayF room full ls = 3
  | [], room, full, h => by simp at h
  | l :: ls, room, full, h => by
    rw [mayF_cons]
    split
    · rfl
    · rename_i hl
      refine mayF_bad ls _ _ ?_
      obtain ⟨x, hx, hx2⟩ := h
      rcases List.mem_cons.1 hx with rfl | hx
      · exact absurd hx2 hl
      · exact ⟨x, hx, hx2⟩
theorem may_all {g : Lg} {room : Int} {ls : List Nat} (h1 : 0 ≤ room) (h : mayD g room ls = 0) : g.ov = false ∧ (∀ l ∈ ls, ¬ (l < 1 ∨ l > 1048576)) ∧ (sum8 ls : Int) ≤ room := by
  unfold mayD at h
  split at h
  · cases h
  · rename_i ho
    have ha : ∀ l ∈ ls, ¬ (l < 1 ∨ l > 1048576) := fun l hl hb => by rw [mayF_bad ls _ _ ⟨l, hl, hb⟩] at h; cases h
    rw [mayF_ok ls _ _ ha (by omega) (fun _ => h1)] at h
    refine ⟨by simpa using ho, ha, ?_⟩
    split at h
    · cases h
    · rename_i hn; simp at hn; omega
def hdB (a : Nat) : List Nat := a :: List.replicate 63 0
def rwD (d : Dk) (g : Lg) (rs : List (List Nat)) : Dk × Lg × Int :=
  if mayD g (jsz d : Int) (rs.map List.length) ≠ 0 then (d, g, mayD g (jsz d : Int) (rs.map List.length)) else
  if (layD d (1 - g.area) 0 (rawR rs)).2 = false then ((layD d (1 - g.area) 0 (rawR rs)).1, { g with ov := true }, 200) else
  if (oneD (layD d (1 - g.area) 0 (rawR rs)).1 0 (hdB (1 - g.area))).2 = false then ((oneD (layD d (1 - g.area) 0 (rawR rs)).1 0 (hdB (1 - g.area))).1, { g with ov := true }, 200)
    else ((oneD (layD d (1 - g.area) 0 (rawR rs)).1 0 (hdB (1 - g.area))).1, ⟨1 - g.area, (rawR rs).length, g.ov⟩, 0)
/-- Records as they are read. -/
def RRr (w : World) (a : Option Addr) (rs : List (List Nat)) : Prop :=
  ∃ ps : List SH, RowAt w a 1 sE ps ∧ ps.length = rs.length ∧ ∀ (i : Nat) (p : SH) (r : List Nat), ps[i]? = some p → rs[i]? = some r → p.2.1 = r.length ∧ RowAt w p.1 1 b1 r
theorem RRr.md {w w' : World} {a : Option Addr} {rs : List (List Nat)} (h : RRr w a rs) (hm : Md [] w w') : RRr w' a rs := by
  obtain ⟨ps, h1, h2, h3⟩ := h
  exact ⟨ps, h1.md hm, h2, fun i p r hp hr => ⟨(h3 i p r hp hr).1, (h3 i p r hp hr).2.md hm⟩⟩
theorem RRo.r {w : World} {bx : Nat} {a : Option Addr} {c : Nat} {rs : List (List Nat)} (h : RRo w bx a c rs) : RRr w a rs := by
  obtain ⟨ps, h1, h2, h3⟩ := h
  exact ⟨ps, h1.row encsE, h2, fun i p r hp hr => ⟨(h3 i p r hp hr).1, (h3 i p r hp hr).2.1.choose_spec.row encb1⟩⟩
theorem RRr_lens {w : World} {rs : List (List Nat)} {ps : List SH} (h2 : ps.length = rs.length) (h3 : ∀ (i : Nat) (p : SH) (r : List Nat), ps[i]? = some p → rs[i]? = some r → p.2.1 = r.length ∧ RowAt w p.1 1 b1 r) : ps.map (·.2.1) = rs.map List.length := by
  apply List.ext_getElem?
  intro i
  rw [List.getElem?_map, List.getElem?_map]
  by_cases hi : i < ps.length
  · rw [List.getElem?_eq_getElem hi, List.getElem?_eq_getElem (by omega)]
    simp only [Option.map_some]
    rw [(h3 i ps[i] (rs[i]'(by omega)) (List.getElem?_eq_getElem hi) (List.getElem?_eq_getElem _)).1]
  · rw [List.getElem?_eq_none (by omega), List.getElem?_eq_none (by omega)]; rfl
section
variable {w0 w : World} {n : Nat} {d : Dk} {F : List Nat} {ln : Nat} {g : Lg}
theorem f130_ok (S : JS w0 w n d F ln g) (h1 : 1 ≤ d.bl.length) (hpd : d.pd.length < 2 ^ 28) (ha : g.area ≤ 1) (rs : List (List Nat)) (hrs : ∀ r ∈ rs, ∀ x ∈ r, x < 256) (hrl : rs.length < 2 ^ 30) (A : Option Addr) (C : Nat) (hr : RRr w A rs) :
    Ct Try.prog 130 #[.pointer (some ⟨ln, 0, none⟩), .slice A rs.length C] w fun v w' =>
      (v = .int .i64 (rwD d g rs).2.2 ∧ ∃ F', JS w0 w' n (rwD d g rs).1 F' ln (rwD d g rs).2.1 ∧ Fr w F F') ∧ Md (ln :: F) w w' := by
  have hlen := S.len
  have hhl := half_le hlen
  have hjz : jsz d = half d * 64 := rfl
  apply f130_in
  refine Jn_in (fun us vs w' => us = [.int .i64 (jsz d : Int)] ∧ JS w0 w' n d F ln g ∧ Md [] w w') ?_ ?_
  case refine_2 =>
    exact in196 S (by simp) fun w84 S84 m84 => Bd_e rfl <| If_t <| in197 S84 h1 (by simp) fun w95 S95 m95 => ⟨rfl, S95, m84.trans m95⟩
  rintro us vs w3 ⟨rfl, S3, m3⟩
  obtain ⟨ps, p1, p2, p3⟩ := hr.md m3
  have hls := RRr_lens p2 p3
  have c198 := f198_ok S3 ps (by omega) A C p1 (jsz d : Int) (by omega) (by omega)
  rw [hls, p2] at c198
  refine opI_in <| c198.call (by simp) ?_
  rintro v w6 rfl m6
  have S6 := S3.md0 m6
  have mm6 : Md [] w w6 := m3.trans m6
  refine opI_in <| Bd_in fun b10 hb10 => If_in (fun hb => ?_) fun hb => ?_
  · have hne : mayD g (jsz d : Int) (rs.map List.length) ≠ 0 := by rw [hb10] at hb; simpa using hb
    have e : rwD d g rs = (d, g, mayD g (jsz d : Int) (rs.map List.length)) := by unfold rwD; rw [if_pos hne]
    rw [e]
    exact ⟨⟨rfl, F, S6, Fr.refl _ _⟩, mm6.mono (by simp)⟩
  have he0 : mayD g (jsz d : Int) (rs.map List.length) = 0 := by rw [hb10] at hb; simpa using hb
  obtain ⟨hov, hok, hsum⟩ := may_all (by omega) he0
  have hrl2 := rawR_len rs
  have hfit : 0 + (rawR rs).length ≤ jsz d := by omega
  have hrb : ∀ x ∈ rawR rs, x < 256 := fun x hx => by
    simp only [rawR, List.mem_flatMap] at hx
    obtain ⟨r, hr1, hr2⟩ := hx
    exact frm_lt 1 r (by omega) (hrs r hr1) x hr2
  have e : rwD d g rs = if (layD d (1 - g.area) 0 (rawR rs)).2 = false then ((layD d (1 - g.area) 0 (rawR rs)).1, { g with ov := true }, 200) else
      if (oneD (layD d (1 - g.area) 0 (rawR rs)).1 0 (hdB (1 - g.area))).2 = false then ((oneD (layD d (1 - g.area) 0 (rawR rs)).1 0 (hdB (1 - g.area))).1, { g with ov := true }, 200)
      else ((oneD (layD d (1 - g.area) 0 (rawR rs)).1 0 (hdB (1 - g.area))).1, ⟨1 - g.area, (rawR rs).length, g.ov⟩, 0) := by unfold rwD; rw [if_neg (by simp [he0])]
  have hLl := layD_len (b := rawR rs) h1 hlen (show 1 - g.area ≤ 1 by omega) hfit
  generalize hL : layD d (1 - g.area) 0 (rawR rs) = l at *
  refine Bd_e rfl ?_
  refine LoopP_in (fun mm us vs w' => ∃ (i : Nat) (a : Option Addr) (c : Nat), us = [.slice a (rawR (rs.take i)).length c, .int .i64 i] ∧ mm = rs.length - i ∧ i ≤ rs.length ∧ OwnL w' w6.heap.size 5 1 b1 a c (rawR (rs.take i)) ∧ Md [] w6 w') rs.length
    ⟨0, none, 0, rfl, rfl, by omega, OwnL.nil _ _ _ _ _, Md.refl _ _⟩ ?_
  rintro mm us vs w13 ⟨i, a, c, rfl, hmm, hi, o13, m13⟩
  have S13 := S6.md0 m13
  refine opL_in <| opI_in <| Bd_in fun b18 hb18 => If_in (fun hbb => ?_) fun hbb => ?_
  · have hil : i < rs.length := by rw [hb18] at hbb; have : (i : Int) < (rs.length : Int) := of_decide_eq_true hbb
                                   omega
    have hip : i < ps.length := by omega
    have p13 := (p1.md m6).md m13
    obtain ⟨r1, r2⟩ := p3 i ps[i] rs[i] (List.getElem?_eq_getElem hip) (List.getElem?_eq_getElem hil)
    have r13 := (r2.md m6).md m13
    have hix := p13.ix hip
    rw [p2] at hix
    have hl1 := hok rs[i].length (List.mem_map.2 ⟨_, List.getElem_mem hil, rfl⟩)
    have hAs : (ps[i]).1.isSome = true := by
      obtain ⟨B, hB, _⟩ := r13 0 (rs[i][0]'(by omega)) (List.getElem?_eq_getElem (by omega)); rw [hB]; rfl
    refine ⟨hix, p13.ld1 hip rfl <| opL_in ?_⟩
    rw [r1]
    refine (f199_ok rs[i] (hrs _ (List.getElem_mem hil)) (by omega) 1 (by omega) (ps[i]).1 (ps[i]).2.2 w13 r13 hAs).call (by simp) ?_
    rintro v w24 ⟨a25, c27, rfl, o24⟩ m24
    have etk : rawR (rs.take (i + 1)) = rawR (rs.take i) ++ frm 1 rs[i] := by rw [List.take_succ_eq_append_getElem hil, rawR_snoc]
    have hlt : (rawR (rs.take i)).length + (frm 1 rs[i]).length ≤ (rawR rs).length := by
      rw [← List.length_append, ← etk]
      have : rawR rs = rawR (rs.take (i + 1)) ++ rawR (rs.drop (i + 1)) := by rw [rawR, rawR, rawR, ← List.flatMap_append, List.take_append_drop]
      rw [this, List.length_append]; omega
    refine opL_in <| app_own rowT51 encb1 (o13.md m24) o24 (by have := m13.size; have := m24.size; omega) (by simp) (by simp) (by simp [maxLen]; omega) (by omega) fun a' c' w29 o29 m29 hA => opL_in <| Bd_e (inc_i64 (by omega)) ?_
    rw [← etk] at o29 ⊢
    exact ⟨rs.length - (i + 1), by omega, i + 1, a', c', rfl, rfl, by omega, o29, (m13.trans m24).old m29 fun q hq => by obtain ⟨B, hB, rfl⟩ := mem_blk hq; exact (o13.lt hB).1⟩
  · have hil : i = rs.length := by
      have : ¬ (i : Int) < (rs.length : Int) := by rw [hb18] at hbb; exact of_decide_eq_false hbb
      omega
    subst hil
    rw [List.take_length] at o13 ⊢
    obtain ⟨w35, hr35, o35, m35⟩ := made5 64 w13 (by omega)
    refine RunW_in hr35 (fun b hb => by cases hb) <| opL_in ?_
    have S35 := S13.md0 m35
    have hix35 := (o35.row encb1).ix (i := 0) (by simp)
    rw [List.length_replicate] at hix35
    have ex : ((1 - g.area : Nat) : Int) = 1 - (g.area : Int) := by omega
    obtain ⟨B, hB, t1, t2, t3, t4, t5, t6⟩ := o35.put encb1 (by omega) (i := 0) (by simp) (1 - g.area)
    cases hB
    refine NN_in <| S35.blk.ld (j := 1) rfl <| opI_in <| Bd_e (y := ((1 - g.area : Nat) : Int)) (by rw [ex, IntKind.wrap_i64]; omega) <| Bd_e (y := ((1 - g.area : Nat) : Int)) (by rw [IntKind.wrap_u8]; omega) ⟨hix35, by simp, t4, NN_in ?_⟩
    have m36 : Md [] w13 (setCells w35 (adAt (some ⟨w13.heap.size, 0, none⟩) ((0 : Nat) : Int) 1) 0 (b1 (1 - g.area))) := m35.old t6 (by simp)
    have S36 := S13.md0 m36
    have ehd : (List.replicate 64 0).set 0 (1 - g.area) = hdB (1 - g.area) := rfl
    rw [ehd] at t5
    have o36 := o13.md m36
    refine S36.blk.ld (j := 1) rfl <| opI_in <| Bd_e (y := ((1 - g.area : Nat) : Int)) (by rw [ex, IntKind.wrap_i64]; omega) ?_
    have hsepH : ∀ D, a = some D → D.block ≠ w13.heap.size := fun D hD => by have := (o13.lt hD).2; omega
    have c200 := f200_ok S36 h1 (by omega) (1 - g.area) 0 (by omega) (rawR rs) hrb hfit w6.heap.size a c o36 fun D hD => by
      have := (o36.lt hD).1
      refine ⟨fun h => ?_, fun h => ?_, ?_⟩
      · have := S6.blk.lt; omega
      · have := S6.ds.dk.lt _ h; omega
      · have := S6.ds.md.size; omega
    rw [hL] at c200
    generalize hw36 : (setCells w35 (adAt (some ⟨w13.heap.size, 0, none⟩) ((0 : Nat) : Int) 1) 0 (b1 (1 - g.area))) = w36 at *
    have hw36' : setCells w35 (adAt (some ⟨w13.heap.size, 0, none⟩) 0 1) 0 [Value.int IntKind.u8 ((1 - g.area : Nat) : Int)] = w36 := hw36
    rw [hw36']
    refine c200.callD (by simp) (by simp) ?_
    rintro v w49 ⟨rfl, F2, S49, f49⟩ m49
    have mm36 : Md [] w w36 := (mm6.trans m13).trans m36
    have mm49 : Md F w w49 := (mm36.mono (by simp)).fr m49 fun b hb => by
      rcases List.mem_append.1 hb with h | h
      · obtain ⟨D, hD, rfl⟩ := mem_blk h
        have := (o13.lt hD).1
        exact .inr (by have := mm6.size; omega)
      · exact .inl h
    have f2 : Fr w F F2 := fun b hb => (f49 b hb).imp id (fun h => by have := mm36.size; omega)
    have o49 := t5.mdD m49 (fun D hD => by
      cases hD
      intro hx
      rcases List.mem_append.1 hx with h | h
      · obtain ⟨D, hD, e⟩ := mem_blk h; exact hsepH D hD e
      · have := S13.ds.dk.lt _ h; simp at this)
    have hHF2 : w13.heap.size ∉ F2 := fun h => by
      rcases f49 _ h with h | h
      · have := S13.ds.dk.lt _ h; omega
      · have := (t5.lt rfl).2; simp at this; omega
    have mF : ∀ {w'' : World}, Md F w w'' → Md (ln :: F) w w'' := fun h => h.mono fun y hy => List.mem_cons_of_mem _ hy
    refine opB_in <| Bd_e rfl ?_
    have fin200 : ∀ (w79 : World) (d' : Dk) (F' : List Nat), JS w0 w79 n d' F' ln g → Fr w F F' → Md F w w79 → rwD d g rs = (d', { g with ov := true }, 200) →
        NN (some (Addr.mk ln 0 none)) fun A82 => ¬Addr.block A82 ∈ [] ∧ Wr w79 (Addr.add A82 3) 1 ∧ ((Value.int IntKind.i64 200 = .int .i64 (rwD d g rs).2.2 ∧ ∃ F', JS w0 (setCells w79 (Addr.add A82 3) 0 [Value.bool true]) n (rwD d g rs).1 F' ln (rwD d g rs).2.1 ∧ Fr w F F') ∧ Md (ln :: F) w (setCells w79 (Addr.add A82 3) 0 [Value.bool true])) := fun w79 d' F' S79 f79 m79 hx => by
      rw [hx]
      obtain ⟨u1, u2, u3⟩ := S79.set (j := 3) (v := .bool true) (g' := { g with ov := true }) (by omega) rfl
      exact NN_in ⟨by simp, u3, ⟨rfl, F', u1, f79⟩, (mF m79).trans (u2.mono (by simp))⟩
    by_cases c1 : l.2 = false
    · rw [if_pos c1] at e
      rw [c1]
      refine ⟨fun h => by simp at h, Bd_e rfl <| Gd_f <| Gd_f <| Bd_e rfl <| Bd_e rfl ⟨fun h => by simp at h, Bd_e rfl <| Gd_f <| Gd_f <| Bd_e rfl <| Bd_e rfl <| If_t ?_⟩⟩
      exact fin200 _ _ _ S49 f2 mm49 e
    have c1' : l.2 = true := by simpa using c1
    rw [if_neg c1] at e
    rw [c1']
    have hh64 : (hdB (1 - g.area)).length = 64 := rfl
    have hhb : ∀ x ∈ hdB (1 - g.area), x < 256 := fun x hx => by
      rcases List.mem_cons.1 hx with rfl | hx
      · omega
      · have := List.eq_of_mem_replicate hx; omega
    refine ⟨fun _ => rfl, Bd_e rfl <| Gd_t <| S49.blk.ld (j := 0) rfl <| opP_in <| Gd_t ?_⟩
    refine in114 (L := []) S49.ds (LF.nil _ _) ((0 : Nat) : Int) (b := hdB (1 - g.area)) hh64.symm hhb (by rw [hh64]; omega) (by omega) (o49.row encb1) (fun D hD => by cases hD; exact hHF2) fun F3 w61 S61 m61 f61 _ => ?_
    have S61' := S49.step S61 m61 f61
    have mm61 := mm49.fr m61 f2
    have f3 : Fr w F F3 := f2.trans f61 mm49.size
    refine Bd_in fun b65 hb65 => ?_
    by_cases c2 : (l.1.write ((0 : Nat) : Int) (hdB (1 - g.area))).2 = 0
    · have e65 : b65 = false := by rw [hb65, c2]; rfl
      subst e65
      refine Bd_e rfl ⟨fun _ => rfl, Bd_e rfl <| Gd_t <| S61'.blk.ld (j := 0) rfl <| opP_in <| Gd_t <| in103 (L := []) S61'.ds (LF.nil _ _) fun F4 w76 S76 m76 f76 _ => ?_⟩
      have S76' := S61'.step S76 m76 f76
      have mm76 := mm61.fr m76 f3
      have f4 : Fr w F F4 := f3.trans f76 mm61.size
      have eo : oneD l.1 0 (hdB (1 - g.area)) = ((l.1.write ((0 : Nat) : Int) (hdB (1 - g.area))).1.flush.1, (l.1.write ((0 : Nat) : Int) (hdB (1 - g.area))).1.flush.2 == 0) := by unfold oneD; rw [if_pos c2]
      rw [eo] at e
      refine Bd_in fun b80 hb80 => ?_
      by_cases c3 : (l.1.write ((0 : Nat) : Int) (hdB (1 - g.area))).1.flush.2 = 0
      · have e80 : b80 = false := by rw [hb80, c3]; rfl
        subst e80
        rw [if_neg (by rw [c3]; simp)] at e
        refine Bd_e rfl <| If_f <| NN_in <| S76'.blk.ld (j := 1) rfl <| opI_in <| Bd_e (y := ((1 - g.area : Nat) : Int)) (by rw [ex, IntKind.wrap_i64]; omega) <| Bd_e rfl ?_
        obtain ⟨u1, u2, u3⟩ := S76'.set (j := 1) (v := .int .i64 ((1 - g.area : Nat) : Int)) (g' := ⟨1 - g.area, g.pos, g.ov⟩) (by omega) rfl
        obtain ⟨x1, x2, x3⟩ := u1.set (j := 2) (v := .int .i64 (((rawR rs).length : Nat) : Int)) (g' := ⟨1 - g.area, (rawR rs).length, g.ov⟩) (by omega) rfl
        rw [e]
        exact NN_in ⟨by simp, u3, NN_in ⟨by simp, x3, ⟨rfl, F4, x1, f4⟩, ((mF mm76).trans (u2.mono (by simp))).trans (x2.mono (by simp))⟩⟩
      · have e80 : b80 = true := by rw [hb80]; simpa using c3
        subst e80
        rw [if_pos (by simpa using c3)] at e
        exact Bd_e rfl <| If_t (fin200 _ _ _ S76' f4 mm76 e)
    · have e65 : b65 = true := by rw [hb65]; simpa using c2
      subst e65
      have eo : oneD l.1 0 (hdB (1 - g.area)) = ((l.1.write ((0 : Nat) : Int) (hdB (1 - g.area))).1, false) := by unfold oneD; rw [if_neg c2]
      rw [eo, if_pos rfl] at e
      refine Bd_e rfl ⟨fun h => by simp at h, Bd_e rfl <| Gd_f <| Gd_f <| Bd_e rfl <| Bd_e rfl <| If_t ?_⟩
      exact fin200 _ _ _ S61' f3 mm61 e
end
end Fk
set_option linter.unusedVariables false
set_option linter.unusedSimpArgs false
set_option maxRecDepth 100000
set_option maxHeartbeats 2000000
namespace Fk
open Go Go.Proofs Go.RowKit
structure JT (L : List Nat) (w0 w : World) (n : Nat) (d : Dk) (F : List Nat) (ln : Nat) (g : Lg) (a : Option Addr) (c : Nat) (rs : List (List Nat)) : Prop where
  js : JS w0 w n d F ln g
  ow : OwnL w w0.heap.size 9 1 tE a c rs
  sep : ∀ A, a = some A → A.block ∉ ln :: F
  lf : LF L w (ln :: F)
  la : ∀ b ∈ L, ∀ A, a = some A → A.block ≠ b
section
variable {L : List Nat} {w0 w : World} {n : Nat} {d : Dk} {F : List Nat} {ln : Nat} {g : Lg} {a : Option Addr} {c : Nat} {rs : List (List Nat)}
theorem JT.lt (T : JT L w0 w n d F ln g a c rs) : ∀ b ∈ L, b < w.heap.size := fun b hb => (T.lf b hb).1
theorem JT.md0 {w' : World} (T : JT L w0 w n d F ln g a c rs) (hm : Md [] w w') : JT L w0 w' n d F ln g a c rs :=
  ⟨T.js.md0 hm, T.ow.md hm, T.sep, T.lf.md hm.size, T.la⟩
theorem frc {w : World} {F F' : List Nat} (ln : Nat) (h : Fr w F F') : Fr w (ln :: F) (ln :: F') := fun x hx => by
  rcases List.mem_cons.1 hx with rfl | hx
  · exact .inl (by simp)
  · exact (h x hx).imp (fun h => List.mem_cons_of_mem _ h) id
theorem JT.jd {w' : World} {d' : Dk} {F' : List Nat} {g' : Lg} (T : JT L w0 w n d F ln g a c rs) (S : JS w0 w' n d' F' ln g') (hm : Md (ln :: F) w w') (hf : Fr w F F') : JT L w0 w' n d' F' ln g' a c rs :=
  ⟨S, T.ow.mdD hm T.sep, fun A hA hx => by
    rcases frc ln hf _ hx with h | h
    · exact T.sep A hA h
    · have := (T.ow.lt hA).2; omega, T.lf.fr (frc ln hf) hm.size, T.la⟩
theorem JT.lo (T : JT L w0 w n d F ln g a c rs) : ∀ b ∈ ln :: F, w0.heap.size ≤ b := fun b hb => by
  rcases List.mem_cons.1 hb with rfl | hb
  · exact T.js.lo
  · exact T.js.ds.lo b hb
theorem JT.up (T : JT L w0 w n d F ln g a c rs) : ∀ b ∈ ln :: F, b < w.heap.size := fun b hb => by
  rcases List.mem_cons.1 hb with rfl | hb
  · exact T.js.blk.lt
  · exact T.js.ds.dk.lt b hb
theorem JT.app (T : JT L w0 w n d F ln g a c rs) (h1 : 1 ≤ d.bl.length) (hpd : d.pd.length < 2 ^ 28) (ha : g.area ≤ 1) (hp : g.pos ≤ jsz d) (r : List Nat) (hr : ∀ x ∈ r, x < 256) {A : Option Addr} {C m : Nat} (hm : m = r.length) (ho : RowAt w A 1 b1 r) {K : Int → World → Prop}
    (k : ∀ F' w', JT L w0 w' n (apD d g r).1 F' ln (apD d g r).2.1 a c rs → Md (ln :: F) w w' → Fr w F F' → K (apD d g r).2.2 w') :
    CallW Try.prog L 124 #[.pointer (some ⟨ln, 0, none⟩), .slice A m C] (fun v w' => opI .i64 v fun x => K x w') w :=
  in124 T.js h1 hpd ha hp r hr hm ho T.lf fun F' w' S' m' f' _ => k F' w' (T.jd S' m' f') m' f'
theorem JT.rw (T : JT L w0 w n d F ln g a c rs) (h1 : 1 ≤ d.bl.length) (hpd : d.pd.length < 2 ^ 28) (ha : g.area ≤ 1) (xs : List (List Nat)) (hrs : ∀ r ∈ xs, ∀ x ∈ r, x < 256) (hrl : xs.length < 2 ^ 30) {A : Option Addr} {C m : Nat} (hm : m = xs.length) (hr : RRr w A xs) {K : Int → World → Prop}
    (k : ∀ F' w', JT L w0 w' n (rwD d g xs).1 F' ln (rwD d g xs).2.1 a c rs → Md (ln :: F) w w' → Fr w F F' → K (rwD d g xs).2.2 w') :
    CallW Try.prog L 130 #[.pointer (some ⟨ln, 0, none⟩), .slice A m C] (fun v w' => opI .i64 v fun x => K x w') w := by
  subst hm
  refine (f130_ok T.js h1 hpd ha xs hrs hrl A C hr).callD T.lt (fun b hb => (T.lf b hb).2) ?_
  rintro v w' ⟨rfl, F', J, hf⟩ h'
  exact opI_in (k F' w' (T.jd J h' hf) h' hf)
theorem JT.push (T : JT L w0 w n d F ln g a c rs) (r : List Nat) (hl : rs.length < 2 ^ 40) {K : Option Addr → Nat → Nat → World → Prop}
    (k : ∀ a' c' w', JT L w0 w' n d F ln g a' c' (rs ++ [r]) → (∀ A, a' = some A → a = some A ∨ w.heap.size ≤ A.block) → Md (a.map (·.block)).toList w w' → K a' (rs ++ [r]).length c' w') :
    Nw (.cells #[.string (bytesOf r)] 9) w fun b w' => RunW Try.prog L (Builtin.append_ #[55, 55] 55 #[.slice a rs.length c, .slice (some { block := b, off := 0 }) 1 1]) (fun v w' => opL v fun a n c => K a n c w') w' :=
  app_one rowT55 enctE r rfl T.ow T.js.ds.md.size T.lt T.la (by simp [maxLen]; omega) (by omega) fun a' c' w' o' m' hA => opL_in <| k a' c' w'
    ⟨T.js.other m' (fun b hb => ⟨T.up b hb, fun hd => by obtain ⟨B, hB, e⟩ := mem_blk hd; exact T.sep B hB (by rw [e]; exact hb)⟩) (fun b hb => by obtain ⟨B, hB, rfl⟩ := mem_blk hb; exact (T.ow.lt hB).1), o', fun A hA' hx => by
      rcases hA A hA' with h | h
      · exact T.sep A h hx
      · have := T.up _ hx; omega, T.lf.md m'.size, fun b hb A hA' e => by
      rcases hA A hA' with h | h
      · exact T.la b hb A h e
      · have := T.lt b hb; omega⟩ hA m'
theorem JT.r123 (T : JT L w0 w n d F ln g a c rs) (x : Int) {e : Nat} (he : e < 256) {K : Option Addr → Nat → Nat → World → Prop}
    (k : ∀ A C C2 w', JT L w0 w' n d F ln g a c rs → Md [] w w' → OwnL w' w.heap.size 5 1 b1 A C (recB x e) → K A (recB x e).length C2 w') :
    CallW Try.prog L 123 #[.int .i64 x, .int .u8 e] (fun v w' => opL v fun a m C => K a m C w') w :=
  in123 (Md.refl _ w) x he T.lt fun A C C2 w' m' o' => k A C C2 w' (T.md0 m') m' o'
theorem JT.room (T : JT L w0 w n d F ln g a c rs) (h1 : 1 ≤ d.bl.length) (hp : g.pos ≤ jsz d) {K : Int → World → Prop} (k : ∀ w', JT L w0 w' n d F ln g a c rs → Md [] w w' → K (roomD d g) w') :
    CallW Try.prog L 128 #[.pointer (some ⟨ln, 0, none⟩)] (fun v w' => opI .i64 v fun x => K x w') w :=
  in128 T.js h1 hp T.lt fun w' _ m' => k w' (T.md0 m') m'
theorem JT.over (T : JT L w0 w n d F ln g a c rs) {K : Bool → World → Prop} (k : ∀ w', JT L w0 w' n d F ln g a c rs → Md [] w w' → K g.ov w') :
    CallW Try.prog L 129 #[.pointer (some ⟨ln, 0, none⟩)] (fun v w' => opB v fun x => K x w') w :=
  in129 T.js T.lt fun w' _ m' => k w' (T.md0 m') m'
theorem JT.nil (S : JS w0 w n d F ln g) (lf : LF L w (ln :: F)) : JT L w0 w n d F ln g none 0 [] :=
  ⟨S, OwnL.nil _ _ _ _ _, (fun A hA => by cases hA), lf, (fun b hb A hA => by cases hA)⟩
end
theorem jin127 {L : List Nat} {w : World} (xs ys : List (List Nat)) (has : ∀ r ∈ xs, ∀ x ∈ r, x < 256) (hbs : ∀ r ∈ ys, ∀ x ∈ r, x < 256) (hl : xs.length < 2 ^ 40) {a : Option Addr} {c : Nat} {b : Option Addr} {cb : Nat} {m m2 : Nat} (hm : m = xs.length) (hm2 : m2 = ys.length) (hr : RowAt w a 1 tE xs) (hr2 : RowAt w b 1 tE ys) (hL : ∀ b ∈ L, b < w.heap.size) {K : Bool → World → Prop}
    (k : ∀ w', Md [] w w' → K (decide (xs = ys)) w') : CallW Try.prog L 127 #[.slice a m c, .slice b m2 cb] (fun v w' => opB v fun x => K x w') w := by
  subst hm; subst hm2
  refine (f127_ok xs ys has hbs hl a c b cb w hr hr2).call hL ?_
  rintro v w' rfl h'
  exact opB_in (k w' h')
theorem OkR.by {rs : List (List Nat)} (h : OkR rs) : ∀ r ∈ rs, ∀ x ∈ r, x < 256 := fun r hr => (h r hr).2.2
end Fk
set_option linter.unusedVariables false
set_option linter.unusedSimpArgs false
set_option maxRecDepth 100000
set_option maxHeartbeats 4000000
namespace Fk
open Go Go.Proofs Go.RowKit
theorem JG.new {x : Nat} (h3 : 3 ≤ x) : JG (newDk x) ⟨0, 0, false⟩ [] := by
  have hl := newDk_len x
  refine ⟨⟨openA_new (by omega), by rw [hl]; exact h3, by simp [rawR], ?_⟩, rfl, fun r hr => by simp at hr, rfl⟩
  obtain ⟨k, hk⟩ := areaL_new x 0
  have hal := areaB_len (bl := (newDk x).bl) (a := 0) (by omega) (by omega)
  have hk' : areaB (newDk x).bl 0 = List.replicate k 0 := hk
  rw [hk', List.length_replicate] at hal
  have he : zE (halfB (newDk x).bl * 64) (rawR []) = [0] := by
    unfold zE rawR; rw [if_pos (by unfold halfB; rw [hl]; simp; omega)]; rfl
  rw [hk', he]
  intro j hj
  have : j = 0 := by simpa using hj
  subst this
  rw [List.getElem?_replicate, if_pos (by unfold halfB at hal; rw [hl] at hal; omega)]
  rfl
/-- A disk at rest, with its log. -/
structure JQ (N : Nat) (d : Dk) (g : Lg) (rs : List (List Nat)) : Prop where
  G : JG d g rs
  len : d.bl.length = N
  pd : d.pd = []
theorem JQ.h1 {N : Nat} {d : Dk} {g : Lg} {rs : List (List Nat)} (h : JQ N d g rs) (hN : 3 ≤ N) : 1 ≤ d.bl.length := by have := h.len; omega
theorem JQ.p28 {N : Nat} {d : Dk} {g : Lg} {rs : List (List Nat)} (h : JQ N d g rs) : d.pd.length < 2 ^ 28 := by rw [h.pd]; simp
theorem JQ.jsz {N : Nat} {d : Dk} {g : Lg} {rs : List (List Nat)} (h : JQ N d g rs) : jsz d = (N - 1) / 2 * 64 := by unfold Fk.jsz half; rw [h.len]
theorem JQ.room {N : Nat} {d : Dk} {g : Lg} {rs : List (List Nat)} (h : JQ N d g rs) (hN : N ≤ 22) : roomD d g = max ((((N - 1) / 2 * 64 : Nat) : Int) - g.pos - 8) 0 := by
  unfold roomD; rw [if_neg (by simp [h.G.ov]), h.jsz]; omega
theorem JQ.rs_len {N : Nat} {d : Dk} {g : Lg} {rs : List (List Nat)} (h : JQ N d g rs) : rs.length ≤ g.pos := by
  rw [h.G.pos, rawR_len]
  clear h
  induction rs with
  | nil => simp
  | cons r rs ih => rw [List.map_cons, sum8_cons]; simp; omega
theorem JQ.app {N : Nat} {d : Dk} {g : Lg} {rs : List (List Nat)} (h : JQ N d g rs) (hN : N ≤ 65536) {r : List Nat} (hr : ∀ x ∈ r, x < 256) :
    ((r.length < 1 ∨ r.length > 1048576) ∧ apD d g r = (d, g, 3)) ∨ (¬ (r.length < 1 ∨ r.length > 1048576) ∧ ¬ g.pos + r.length + 8 ≤ (N - 1) / 2 * 64 ∧ apD d g r = (d, g, 4)) ∨
    (¬ (r.length < 1 ∨ r.length > 1048576) ∧ g.pos + r.length + 8 ≤ (N - 1) / 2 * 64 ∧ (apD d g r).2.2 = 0 ∧ JQ N (apD d g r).1 (apD d g r).2.1 (rs ++ [r]) ∧ (apD d g r).2.1 = { g with pos := g.pos + (r.length + 8) } ∧ (d.rf = 0 → (apD d g r).1.rf = 0)) ∨
    (¬ (r.length < 1 ∨ r.length > 1048576) ∧ g.pos + r.length + 8 ≤ (N - 1) / 2 * 64 ∧ (apD d g r).2.2 = 200 ∧ (apD d g r).2.1 = { g with ov := true } ∧ d.rf ≠ 0 ∧ CS (apD d g r).1 (fun bl => bl.length = N ∧ (Sf bl g.area rs ∨ Sf bl g.area (rs ++ [r])))) := by
  have hl := apD_law (r := r) h.G (by rw [h.len]; exact hN) h.pd hr
  rw [h.jsz, h.len] at hl
  rcases hl with q | q | ⟨q1, q2, q3, q4, q5, q6, q7, q8⟩ | q
  · exact .inl q
  · exact .inr (.inl q)
  · exact .inr (.inr (.inl ⟨q1, q2, q3, ⟨q4, q6, q5⟩, q7, q8⟩))
  · exact .inr (.inr (.inr q))
theorem min15 (n : Nat) : (if (15 : Int) < (n : Int) then (15 : Int) else n) = ((min n 15 : Nat) : Int) := by omega
end Fk
set_option linter.unusedVariables false
set_option linter.unusedSimpArgs false
set_option maxRecDepth 100000
set_option maxHeartbeats 4000000
namespace Fk
open Go Go.Proofs Go.RowKit
structure Op4 where
  k : Nat
  n : Int
  m : Int
  c : Nat
def op4E (o : Op4) : List Value := [.int .u8 o.k, .int .i64 o.n, .int .i64 o.m, .int .u8 o.c]
structure Op4.ok (o : Op4) : Prop where
  c : o.c < 256
  n : -9223372036854775808 ≤ o.n ∧ o.n ≤ 9223372036854775807
  m : -9223372036854775808 ≤ o.m ∧ o.m ≤ 9223372036854775807
section
variable {L : List Nat} {w0 w : World} {n : Nat} {d : Dk} {F : List Nat} {ln : Nat} {g : Lg} {a : Option Addr} {c : Nat} {rs : List (List Nat)}
theorem JT.drop (T : JT L w0 w n d F ln g a c rs) : JT [] w0 w n d F ln g a c rs := ⟨T.js, T.ow, T.sep, LF.nil _ _, fun b hb => by cases hb⟩
theorem JT.reg {w' : World} {n0 : Nat} (T : JT [] w0 w n d F ln g a c rs) (h0 : w.heap.size ≤ n0) (hm : Md [n0] w w') (hl : n0 < w'.heap.size) : JT [n0] w0 w' n d F ln g a c rs := by
  have T' := T.md0 (mdUp h0 hm)
  refine ⟨T'.js, T'.ow, T'.sep, fun b hb => ?_, fun b hb A hA e => ?_⟩
  · simp only [List.mem_singleton] at hb; subst hb
    exact ⟨hl, fun hx => by have := T.up _ hx; omega⟩
  · simp only [List.mem_singleton] at hb; subst hb
    have := (T.ow.lt hA).2; omega
theorem JT.crash (T : JT L w0 w n d F ln g a c rs) (keep torn : Int) (hpd : d.pd.length < 2 ^ 30) {K : World → Prop} (k : ∀ F' w', JT L w0 w' n (d.crash keep torn) F' ln g a c rs → Md F w w' → K w') :
    CallW Try.prog L 106 #[.pointer (some ⟨n, 0, none⟩), .int .i64 keep, .int .i64 torn] (fun v w' => opTu v fun cs => SzIs (Array.size cs) 0 (K w')) w :=
  in106 T.js.ds (fun b hb => ⟨(T.lf b hb).1, fun h => (T.lf b hb).2 (List.mem_cons_of_mem _ h)⟩) keep torn hpd fun F' w' S' m' f' _ => k F' w' (T.jd (T.js.step S' m' f') (m'.mono fun y hy => List.mem_cons_of_mem _ hy) f') m'
theorem JT.arm (T : JT L w0 w n d F ln g a c rs) (x : Int) (hx : x ≤ 9223372036854775807) {K : World → Prop} (k : ∀ w', JT L w0 w' n (d.arm x) F ln g a c rs → Md F w w' → K w') :
    CallW Try.prog L 102 #[.pointer (some ⟨n, 0, none⟩), .int .i64 x] (fun v w' => opTu v fun cs => SzIs (Array.size cs) 0 (K w')) w :=
  in102 T.js.ds (fun b hb => ⟨(T.lf b hb).1, fun h => (T.lf b hb).2 (List.mem_cons_of_mem _ h)⟩) x hx fun w' S' m' _ => k w' (T.jd (T.js.step S' m' (Fr.refl _ _)) (m'.mono fun y hy => List.mem_cons_of_mem _ hy) (Fr.refl _ _)) m'
theorem JT.open' (T : JT L w0 w n d F ln g a c rs) (h3 : 3 ≤ d.bl.length) {K : Option Addr → Option Addr → Nat → Nat → Bool → World → Prop}
    (k1 : ∀ A C w', parseL (areaB d.bl (openB d.bl)) = none → JT L w0 w' n d F ln g a c rs → Md [] w w' → K none A 0 C false w')
    (k2 : ∀ xs p l2 A C w', parseL (areaB d.bl (openB d.bl)) = some (xs, p) → JT L w0 w' n d F l2 ⟨openB d.bl, p, false⟩ a c rs → OwnL w' w.heap.size 9 1 tE A C xs → Md [] w w' → K (some ⟨l2, 0, none⟩) A xs.length C true w') :
    CallW Try.prog L 126 #[.pointer (some ⟨n, 0, none⟩)] (fun v w' => opTu v fun cs => opP (nthD (Array.toList cs) 0) fun l => opL (nthD (Array.toList cs) 1) fun a m c => opB (nthD (Array.toList cs) 2) fun e => SzIs (Array.size cs) 3 (K l a m c e w')) w :=
  in126 T.js.ds h3 T.lt (fun A C w' hn S' m' => k1 A C w' hn (T.md0 m') m') fun xs p l2 A C w' hs J' hlo o' m' => k2 xs p l2 A C w' hs
    ⟨J', T.ow.md m', fun B hB hx => by
      rcases List.mem_cons.1 hx with h | h
      · have := (T.ow.lt hB).2; omega
      · exact T.sep B hB (List.mem_cons_of_mem _ h), fun b hb => ⟨Nat.lt_of_lt_of_le (T.lf b hb).1 m'.size, fun hx => by
      rcases List.mem_cons.1 hx with h | h
      · have := (T.lf b hb).1; omega
      · exact (T.lf b hb).2 (List.mem_cons_of_mem _ h)⟩, T.la⟩ o' m'
end
theorem JQ.arm {N : Nat} {d : Dk} {g : Lg} {rs : List (List Nat)} (h : JQ N d g rs) (x : Int) : JQ N (d.arm x) g rs := ⟨⟨h.G.sf, h.G.pos, h.G.ok, h.G.ov⟩, h.len, h.pd⟩
/-- What was under way when a step was refused. -/
structure JU (N : Nat) (d : Dk) (g : Lg) (rs : List (List Nat)) (r : List Nat) : Prop where
  cs : CS d (fun bl => bl.length = N ∧ (Sf bl g.area rs ∨ Sf bl g.area (rs ++ [r])))
  ov : g.ov = true
  le : g.pos ≤ jsz d
  pd : d.pd.length < 2 ^ 28
  ok : OkR (rs ++ [r])
theorem JQ.refuse {N : Nat} {d : Dk} {g : Lg} {rs : List (List Nat)} {r : List Nat} (h : JQ N d g rs) (hN : 1 ≤ N) (hN2 : N ≤ 65536) (hr : ∀ x ∈ r, x < 256) (hl : ¬ (r.length < 1 ∨ r.length > 1048576)) (hg : (apD d g r).2.1 = { g with ov := true })
    (hc : CS (apD d g r).1 (fun bl => bl.length = N ∧ (Sf bl g.area rs ∨ Sf bl g.area (rs ++ [r])))) : JU N (apD d g r).1 (apD d g r).2.1 rs r := by
  have hlen := apD_len (d := d) (g := g) (r := r) (by rw [h.len]; exact hN) (by rw [h.len]; exact hN2) h.G.sf.ha h.G.le
  refine ⟨by rw [hg]; exact hc, by rw [hg], ?_, by rw [h.pd] at hlen; simp at hlen; omega, fun x hx => ?_⟩
  · rw [hg]
    have hle := h.G.le
    have e : Fk.jsz (apD d g r).1 = Fk.jsz d := by unfold Fk.jsz half; rw [hlen.1]
    rw [e]; exact hle
  · rcases List.mem_append.1 hx with h' | h'
    · exact h.G.ok x h'
    · simp at h'; subst h'; exact ⟨by omega, by omega, hr⟩
theorem JU.ha {N : Nat} {d : Dk} {g : Lg} {rs : List (List Nat)} {r : List Nat} (h : JU N d g rs r) : g.area ≤ 1 := by
  rcases h.cs.now.2 with h | h <;> exact h.ha
theorem sf_parse {bl : List Bk} {a : Nat} {rs : List (List Nat)} (h : Sf bl a rs) (ok : OkR rs) : parseL (areaB bl (openB bl)) = some (rs, (rawR rs).length) := by rw [h.op]; exact h.parse ok
theorem tmodr (x : Int) (m : Int) (hm : 0 < m) (h1 : 0 ≤ x) : 0 ≤ Int.tmod x m ∧ Int.tmod x m < m := by
  rw [Int.tmod_eq_emod_of_nonneg h1]; exact ⟨Int.emod_nonneg _ (by omega), Int.emod_lt_of_pos _ hm⟩
theorem wrap16 (x : Int) : 0 ≤ IntKind.wrap .u16 x ∧ IntKind.wrap .u16 x < 65536 := by
  have : IntKind.wrap .u16 x = x % 65536 := by unfold IntKind.wrap; rfl
  rw [this]; omega
end Fk
set_option linter.unusedVariables false
set_option linter.unusedSimpArgs false
set_option maxRecDepth 100000
namespace Fk
open Go Go.Proofs Go.RowKit
section
variable {H : Type} {enc : TypeId × Value → H} {w : World} {base : Nat} {spare : Nat → Bool} {held : Bool} {fuel : Nat} {cs : List Value} {x : DataW H × List MemPlace}
theorem four_fields' {fs : Array Field} {t1 t2 t3 t4 : TypeId} {o1 o2 o3 o4 : Nat} (hF : fs.toList.map (fun f => (decide (f.name = "_"), f.type, f.offset)) = [(false, t1, o1), (false, t2, o2), (false, t3, o3), (false, t4, o4)]) :
    ∃ f1 f2 f3 f4, fs = #[f1, f2, f3, f4] ∧ (f1.type = t1 ∧ f1.offset = o1) ∧ (f2.type = t2 ∧ f2.offset = o2) ∧ (f3.type = t3 ∧ f3.offset = o3) ∧ (f4.type = t4 ∧ f4.offset = o4) := by
  obtain ⟨l⟩ := fs
  match l with
  | [f1, f2, f3, f4] =>
    simp only [List.map_cons, List.map_nil, List.cons.injEq, Prod.mk.injEq, decide_eq_false_iff_not, and_true] at hF
    exact ⟨f1, f2, f3, f4, rfl, hF.1.2, hF.2.1.2, hF.2.2.1.2, hF.2.2.2.2⟩
  | [] | [_] | [_, _] | [_, _, _] | _ :: _ :: _ :: _ :: _ :: _ => simp at hF
theorem op4_cs (h : DataW.trod enc Try.prog w base spare held fuel 169 cs = some x) : ∃ o : Op4, cs = op4E o ∧ o.ok := by
  have u : Try.prog.underlying 169 = some (.struct (Try.prog.fieldsOf 169)) := by kernel_rfl
  have hF : fieldsL Try.prog 169 = [(false, 5, 0), (false, 3, 1), (false, 3, 2), (false, 5, 3)] := by kernel_rfl
  have c3 : Try.prog.cellsOf 3 = 1 := by kernel_rfl
  have c5 : Try.prog.cellsOf 5 = 1 := by kernel_rfl
  have c125 : Try.prog.cellsOf 169 = 4 := by kernel_rfl
  have u3 : Try.prog.underlying 3 = some (.int .i64) := by kernel_rfl
  have u5 : Try.prog.underlying 5 = some (.int .u8) := by kernel_rfl
  unfold fieldsL at hF
  generalize Try.prog.fieldsOf 169 = fs at u hF
  obtain ⟨xs, m, rfl, rfl, hl, hx, hi⟩ := DataW.trod_struct u h
  obtain ⟨f1, f2, f3, f4, rfl, ⟨e1, o1⟩, ⟨e2, o2⟩, ⟨e3, o3⟩, e4, o4⟩ := four_fields' hF
  have hx6 : xs.length = 4 := hx
  have h0 := hi 0 f1 rfl
  have h1 := hi 1 f2 rfl
  have h2 := hi 2 f3 rfl
  have h3 := hi 3 f4 rfl
  rw [List.getElem?_eq_getElem (by omega), e1, o1, c5] at h0
  rw [List.getElem?_eq_getElem (by omega), e2, o2, c3] at h1
  rw [List.getElem?_eq_getElem (by omega), e3, o3, c3] at h2
  rw [List.getElem?_eq_getElem (by omega), e4, o4, c5] at h3
  obtain ⟨k, hk, hkw⟩ := int_cs u5 h0
  obtain ⟨n, hn, hnw⟩ := int_cs u3 h1
  obtain ⟨mm, hm, hmw⟩ := int_cs u3 h2
  obtain ⟨c, hc, hcw⟩ := int_cs u5 h3
  have bk := byte_wf hkw
  have bc := byte_wf hcw
  have bn := i64_wf hnw
  have bm := i64_wf hmw
  rw [c125] at hl
  match cs, hl with
  | [v0, v1, v2, v3], _ =>
    simp at hk hn hm hc
    refine ⟨⟨k.toNat, n, mm, c.toNat⟩, ?_, ⟨by show c.toNat < 256; omega, bn, bm⟩⟩
    have a1 : ((k.toNat : Nat) : Int) = k := by omega
    have a2 : ((c.toNat : Nat) : Int) = c := by omega
    simp only [op4E, a1, a2, hk, hn, hm, hc]
theorem op4_of {d : DataW H} {ps : List MemPlace} {vs : Array Value} (h : DataW.Trod enc Try.prog w base spare held 169 (.agg vs) d ps) : ∃ o : Op4, o.ok ∧ vs = #[.int .u8 o.k, .int .i64 o.n, .int .i64 o.m, .int .u8 o.c] := by
  obtain ⟨fuel, hf⟩ := h
  obtain ⟨o, he, ho⟩ := op4_cs (cs := vs.toList) (by simpa [Value.cells] using hf)
  exact ⟨o, ho, Array.toList_inj.1 he⟩
end
end Fk
set_option linter.unusedVariables false
set_option linter.unusedSimpArgs false
set_option maxRecDepth 100000
set_option maxHeartbeats 2000000
namespace Fk
open Go Go.Proofs Go.RowKit
theorem area_set_ne {bl : List Bk} {a i : Nat} {b : Bk} (h1 : 1 ≤ bl.length) (ha : a ≤ 1) (hi : i < bl.length) (hn : ∀ k, k < halfB bl → i ≠ jbB bl a k) : areaB (bl.set i b) a = areaB bl a := by
  have hh : halfB (bl.set i b) = halfB bl := by unfold halfB; simp
  apply List.ext_getElem?
  intro j
  by_cases hj : j / 64 < halfB bl
  · have ej : j = j / 64 * 64 + j % 64 := by omega
    rw [ej, areaB_get (by simpa using h1) ha (by rw [hh]; exact hj) (Nat.mod_lt _ (by omega)), jbB_set, getB_set hi, if_neg (fun e => hn _ hj e.symm), areaB_get h1 ha hj (Nat.mod_lt _ (by omega))]
  · rw [List.getElem?_eq_none (by rw [areaB_len (by simpa using h1) ha, hh]; omega), List.getElem?_eq_none (by rw [areaB_len h1 ha]; omega)]
theorem Sf.other {bl : List Bk} {a i : Nat} {b : Bk} {rs : List (List Nat)} (h : Sf bl a rs) (hi : i < bl.length) (h0 : i ≠ 0) (hn : ∀ k, k < halfB bl → i ≠ jbB bl a k) : Sf (bl.set i b) a rs := by
  have hh : halfB (bl.set i b) = halfB bl := by unfold halfB; simp
  refine ⟨by rw [openB_set hi h0]; exact h.op, by simpa using h.h3, by rw [hh]; exact h.fit, ?_⟩
  rw [hh, area_set_ne (by have := h.h3; omega) h.ha hi hn]; exact h.pre
theorem rwD_law {N : Nat} {d : Dk} {g : Lg} {rs xs : List (List Nat)} (Q : JQ N d g rs) (hN : N ≤ 65536) (ok : OkR xs) :
    ((N - 1) / 2 * 64 < sum8 (xs.map List.length) ∧ rwD d g xs = (d, g, 4)) ∨
    (sum8 (xs.map List.length) ≤ (N - 1) / 2 * 64 ∧ (rwD d g xs).2.2 = 0 ∧ JQ N (rwD d g xs).1 (rwD d g xs).2.1 xs ∧ (rwD d g xs).2.1 = ⟨1 - g.area, (rawR xs).length, g.ov⟩) ∨
    (sum8 (xs.map List.length) ≤ (N - 1) / 2 * 64 ∧ (rwD d g xs).2.2 = 200 ∧ (rwD d g xs).2.1 = { g with ov := true } ∧ (rwD d g xs).1.pd.length < 2 ^ 28 ∧ CS (rwD d g xs).1 (fun bl => bl.length = N ∧ (Sf bl g.area rs ∨ Sf bl (1 - g.area) xs))) := by
  have hjz := Q.jsz
  have hm : mayD g (Fk.jsz d : Int) (xs.map List.length) = if (sum8 (xs.map List.length) : Int) > (Fk.jsz d : Int) then 4 else 0 := by
    unfold mayD
    rw [if_neg (by simp [Q.G.ov]), mayF_ok _ _ _ (fun l hl => by
      obtain ⟨r, hr, rfl⟩ := List.mem_map.1 hl
      have := ok r hr; omega) (by omega) (fun _ => by omega)]
    simp
  by_cases q : (N - 1) / 2 * 64 < sum8 (xs.map List.length)
  · rw [if_pos (by rw [hjz]; omega)] at hm
    exact .inl ⟨q, by unfold rwD; rw [if_pos (by rw [hm]; decide), hm]⟩
  rw [if_neg (by rw [hjz]; omega)] at hm
  refine .inr ?_
  have hs8 : sum8 (xs.map List.length) ≤ (N - 1) / 2 * 64 := by omega
  have hA := Q.G.sf.ha
  have hA' : 1 - g.area ≤ 1 := by omega
  have h3 := Q.G.sf.h3
  have h1 : 1 ≤ d.bl.length := by omega
  have hlen := Q.len
  have hrl := rawR_len xs
  have hfit : 0 + (rawR xs).length ≤ Fk.jsz d := by omega
  have hrb : ∀ x ∈ rawR xs, x < 256 := fun x hx => by
    simp only [rawR, List.mem_flatMap] at hx
    obtain ⟨r, hr1, hr2⟩ := hx
    exact frm_lt 1 r (by omega) (ok r hr1).2.2 x hr2
  obtain ⟨K, hSl, hKh, hpK, hKi⟩ := layS_len (d := d) h1 hA' hfit
  have hSg := fun j => layS_get (d := d) h1 hA' hfit (j := j)
  have hSb := layS_lt (d := d) (area := 1 - g.area) (p := 0) hrb
  have hLl := layD_len (b := rawR xs) h1 (by omega) hA' hfit
  have hcl : ∀ q, q < K → (chunk (layS d (1 - g.area) 0 (rawR xs)) q).length = 64 := fun q hq => chunk_len hSl hq
  have hcv : ∀ q, q < K → (mkBk (chunk (layS d (1 - g.area) 0 (rawR xs)) q)).1 = chunk (layS d (1 - g.area) 0 (rawR xs)) q := fun q hq => mkBk_val (hcl q hq) (chunk_lt hSb)
  have eL : layD d (1 - g.area) 0 (rawR xs) = layL (1 - g.area) (layS d (1 - g.area) 0 (rawR xs)) K 0 d := by unfold layD; rw [hSl, Nat.mul_div_cancel _ (by omega)]; rfl
  have hpre : ∀ bl q t, (bl.length = N ∧ Sf bl g.area rs) → bl.length = N → 0 ≤ q → q < K → t ≤ 64 → (bl.set (jbB bl (1 - g.area) q) (mixB t (mkBk (chunk (layS d (1 - g.area) 0 (rawR xs)) q)) (getB bl (jbB bl (1 - g.area) q)))).length = N ∧ Sf (bl.set (jbB bl (1 - g.area) q) (mixB t (mkBk (chunk (layS d (1 - g.area) 0 (rawR xs)) q)) (getB bl (jbB bl (1 - g.area) q)))) g.area rs := fun bl q t hbl hl _ hqK ht => by
    have hhb : halfB bl = half d := by unfold halfB half; rw [hl, hlen]
    refine ⟨by simpa using hl, hbl.2.other (jbB_lt (by omega) hA' (by omega)) (jbB_pos _ _ _) fun k hk e => ?_⟩
    have := (jbB_inj hA' hA (by omega) hk e).1
    omega
  have hcs : CS (layD d (1 - g.area) 0 (rawR xs)).1 (fun bl => bl.length = N ∧ Sf bl g.area rs) := by
    rw [eL]
    exact layL_cs (N := N) (S := fun bl => bl.length = N ∧ Sf bl g.area rs) 0 K hpre _ _ d hlen (Nat.le_refl _) (by omega) (CS.flat Q.pd ⟨hlen, Q.G.sf⟩)
  have eR : rwD d g xs = if (layD d (1 - g.area) 0 (rawR xs)).2 = false then ((layD d (1 - g.area) 0 (rawR xs)).1, { g with ov := true }, 200) else
      if (oneD (layD d (1 - g.area) 0 (rawR xs)).1 0 (hdB (1 - g.area))).2 = false then ((oneD (layD d (1 - g.area) 0 (rawR xs)).1 0 (hdB (1 - g.area))).1, { g with ov := true }, 200)
      else ((oneD (layD d (1 - g.area) 0 (rawR xs)).1 0 (hdB (1 - g.area))).1, ⟨1 - g.area, (rawR xs).length, g.ov⟩, 0) := by unfold rwD; rw [if_neg (by rw [hm]; decide)]
  by_cases c1 : (layD d (1 - g.area) 0 (rawR xs)).2 = false
  · rw [if_pos c1] at eR
    rw [eR]
    refine .inr ⟨hs8, rfl, rfl, ?_, hcs.mono fun bl h => ⟨h.1, .inl h.2⟩⟩
    have := hLl.2; rw [Q.pd] at this; simp at this; simp only; omega
  have c1' : (layD d (1 - g.area) 0 (rawR xs)).2 = true := by simpa using c1
  rw [if_neg c1] at eR
  have hok : (layD d (1 - g.area) 0 (rawR xs)).1.pd = [] ∧ (layD d (1 - g.area) 0 (rawR xs)).1.bl.length = d.bl.length ∧
      (∀ q, 0 ≤ q → q < K → getB (layD d (1 - g.area) 0 (rawR xs)).1.bl (jbk d (1 - g.area) q) = mkBk (chunk (layS d (1 - g.area) 0 (rawR xs)) q)) ∧ (∀ i, (∀ q, 0 ≤ q → q < K → i ≠ jbk d (1 - g.area) q) → getB (layD d (1 - g.area) 0 (rawR xs)).1.bl i = getB d.bl i) := by
    rw [eL] at c1' ⊢
    have := layL_ok hA' K 0 d h1 (by omega) c1'
    rw [Nat.zero_add] at this
    exact this
  generalize hL : layD d (1 - g.area) 0 (rawR xs) = l at *
  obtain ⟨p1, p2, p3, p4⟩ := hok
  have hbl1 : 1 ≤ l.1.bl.length := by omega
  have hN1 : l.1.bl.length = N := by omega
  have hh1 : halfB l.1.bl = half d := by unfold halfB half; rw [p2]
  have hj1 : ∀ a k, jbB l.1.bl a k = jbk d a k := fun a k => by show 1 + a * halfB l.1.bl + k = 1 + a * half d + k; rw [hh1]
  have hjz' : Fk.jsz d = half d * 64 := rfl
  have hzz : zE (half d * 64) (rawR xs) = zEnd d 0 (rawR xs) := by unfold zE zEnd; rw [Nat.zero_add, hjz']
  have hzl := zEnd_len hfit
  have hpre1 : Pre (zE (half d * 64) (rawR xs)) (areaB l.1.bl (1 - g.area)) := fun j hj => by
    rw [hzz] at hj ⊢
    have hqK : j / 64 < K := (hKi (j / 64)).1 (by omega)
    have ej : j = j / 64 * 64 + j % 64 := by omega
    conv => lhs; rw [ej]
    rw [areaB_get hbl1 hA' (by rw [hh1]; omega) (Nat.mod_lt _ (by omega)), hj1, p3 _ (by omega) hqK, hcv _ hqK, chunk_get (Nat.mod_lt _ (by omega)), ← ej, hSg j (by rw [hSl]; omega), if_neg (by omega), Nat.sub_zero, if_pos hj]
  have hhl : (hdB (1 - g.area)).length = 64 := rfl
  have hhb : ∀ x ∈ hdB (1 - g.area), x < 256 := fun x hx => by
    rcases List.mem_cons.1 hx with rfl | hx
    · omega
    · have := List.eq_of_mem_replicate hx; omega
  have hi0 : 0 < l.1.bl.length := by omega
  have hne0 : ∀ a k, k < halfB l.1.bl → 0 ≠ jbB l.1.bl a k := fun a k _ h => jbB_pos _ _ _ h.symm
  have hsf2 : ∀ b : Bk, b.1.headD 0 = 1 - g.area → Sf (l.1.bl.set 0 b) (1 - g.area) xs := fun b hb => by
    have hh2 : halfB (l.1.bl.set 0 b) = half d := by unfold halfB; rw [List.length_set]; exact hh1
    refine ⟨?_, by rw [List.length_set]; omega, by rw [hh2]; omega, ?_⟩
    · unfold openB
      rw [getB_set hi0, if_pos rfl, hb]
      omega
    · rw [hh2, area_set_ne hbl1 hA' hi0 (hne0 _)]; exact hpre1
  have hmx : ∀ t, t ≤ 64 → l.1.bl.set 0 (mixB t (mkBk (hdB (1 - g.area))) (getB l.1.bl 0)) = l.1.bl ∨ (mixB t (mkBk (hdB (1 - g.area))) (getB l.1.bl 0)).1.headD 0 = 1 - g.area := fun t ht => by
    cases t with
    | zero =>
      left
      have : mixB 0 (mkBk (hdB (1 - g.area))) (getB l.1.bl 0) = getB l.1.bl 0 := by
        apply Subtype.ext
        show (mkBk (hdB (1 - g.area))).1.take 0 ++ (getB l.1.bl 0).1.drop 0 = _
        simp
      rw [this, getB_eq hi0, List.set_getElem_self]
    | succ t =>
      right
      show ((mkBk (hdB (1 - g.area))).1.take (t + 1) ++ (getB l.1.bl 0).1.drop (t + 1)).headD 0 = _
      rw [mkBk_val hhl hhb]
      rfl
  have hcs2 : CS (oneD l.1 0 (hdB (1 - g.area))).1 (fun bl => bl.length = N ∧ (Sf bl g.area rs ∨ Sf bl (1 - g.area) xs)) := by
    refine one_cs (CS.flat p1 ⟨hN1, .inl hcs.now.2⟩) fun _ _ t ht => ⟨by rw [List.length_set]; exact hN1, ?_⟩
    rcases hmx t ht with h | h
    · rw [h]; exact .inl hcs.now.2
    · exact .inr (hsf2 _ h)
  have hol := oneD_len l.1 0 (hdB (1 - g.area))
  by_cases c2 : (oneD l.1 0 (hdB (1 - g.area))).2 = false
  · rw [if_pos c2] at eR
    rw [eR]
    refine .inr ⟨hs8, rfl, rfl, ?_, hcs2⟩
    have := hol.2; rw [p1] at this; simp at this; simp only; omega
  · rw [if_neg c2] at eR
    rw [eR]
    obtain ⟨o1, o2⟩ := one_ok (show (oneD l.1 0 (hdB (1 - g.area))).2 = true by simpa using c2)
    refine .inl ⟨hs8, rfl, ⟨⟨?_, rfl, ok, Q.G.ov⟩, ?_, o1⟩, rfl⟩
    · simp only [o2]
      refine hsf2 _ ?_
      rw [mkBk_val hhl hhb]; rfl
    · simp only [o2, List.length_set]; exact hN1
end Fk
set_option linter.unusedVariables false
set_option linter.unusedSimpArgs false
set_option maxRecDepth 100000
set_option maxHeartbeats 4000000
namespace Fk
open Go Go.Proofs Go.RowKit
def recsN (m : Int) : Nat := (max (min m 20) 0).toNat
def recK (o : Op4) (k : Nat) : List Nat := recB (((max o.n 0).toNat % 2000 + k : Nat) : Int) ((o.c + k) % 256)
def recsL (o : Op4) : List (List Nat) := (List.range (recsN o.m)).map (recK o)
theorem recsN_le (m : Int) : recsN m ≤ 20 := by unfold recsN; omega
theorem recsL_len (o : Op4) : (recsL o).length = recsN o.m := by simp [recsL]
theorem RRo.down {w : World} {bx b' : Nat} {a : Option Addr} {c : Nat} {rs : List (List Nat)} (h : RRo w bx a c rs) (hb : b' ≤ bx) : RRo w b' a c rs := by
  obtain ⟨ps, h1, h2, h3⟩ := h
  exact ⟨ps, h1.down hb, h2, fun i p r hp hr => ⟨(h3 i p r hp hr).1, (h3 i p r hp hr).2.1.imp fun _ o => o.down hb, (h3 i p r hp hr).2.2⟩⟩
theorem f134_ok (o : Op4) (ho : o.ok) (w : World) : Ct Try.prog 134 #[.agg #[.int .u8 o.k, .int .i64 o.n, .int .i64 o.m, .int .u8 o.c]] w fun v w' => (∃ a c, v = .slice a (recsL o).length c ∧ RRo w' w.heap.size a c (recsL o)) ∧ Md [] w w' := by
  apply f134_in
  intro n1 hn1
  have hc := ho.c
  refine Bd_e (min_if _ _) <| Bd_e (max_if2 _) fun w4 m4 hl4 => ?_
  have hm : max (min 20 o.m) 0 = ((recsN o.m : Nat) : Int) := by unfold recsN; omega
  have hm' : max (min o.m 20) 0 = ((recsN o.m : Nat) : Int) := by unfold recsN; omega
  have hle := recsN_le o.m
  first | rw [hm] | rw [hm']
  have hl4 : n1 < w4.heap.size := hl4 n1 (by simp)
  have m4' : Md [] w w4 := m4
  refine LoopP_in (fun mm us vs w' => ∃ (i : Nat) (a : Option Addr) (c : Nat), us = [.slice a ((recsL o).take i).length c, .int .i64 i] ∧ mm = recsN o.m - i ∧ i ≤ recsN o.m ∧ Md [] w4 w' ∧ RRo w' w4.heap.size a c ((recsL o).take i)) (recsN o.m)
    ⟨0, none, 0, rfl, rfl, by omega, Md.refl _ _, RRo.nil _ _⟩ ?_
  rintro mm us vs w8 ⟨i, a, c, rfl, hmm, hi, m8, R8⟩
  refine opL_in <| opI_in <| Bd_in fun b13 hb13 => If_in (fun hb => ?_) fun hb => ?_
  · have hil : i < recsN o.m := by rw [hb13] at hb; have : (i : Int) < (recsN o.m : Int) := of_decide_eq_true hb
                                   omega
    have hn := ho.n
    have hl8 : ∀ b ∈ [n1], b < w8.heap.size := by simpa using Nat.lt_of_lt_of_le hl4 m8.size
    refine Bd_e (y := ((max o.n 0).toNat : Int)) (by omega) <| Bd_e (y := (((max o.n 0).toNat % 2000 : Nat) : Int)) (by rw [Int.tmod_eq_emod_of_nonneg (by omega)]; omega) <| Bd_e (y := (((max o.n 0).toNat % 2000 + i : Nat) : Int)) (by rw [IntKind.wrap_i64]; omega) <| Bd_e (y := (i : Int)) (by rw [IntKind.wrap_u8]; omega) <| Bd_e (y := (((o.c + i) % 256 : Nat) : Int)) (by rw [IntKind.wrap_u8]; omega) <| in123 (Md.refl _ w8) _ (Nat.mod_lt _ (by omega)) hl8 fun A C C2 w20 m20 o20 => ?_
    have hi2 : i < (recsL o).length := by rw [recsL_len]; exact hil
    have er : (recsL o)[i] = recK o i := by simp [recsL]
    have etk : (recsL o).take (i + 1) = (recsL o).take i ++ [recK o i] := by rw [List.take_succ_eq_append_getElem hi2, er]
    have hap : Apt a A := fun D E hD hE e => by
      obtain ⟨ps, o, _⟩ := R8
      have h1 := (o.lt hD).2
      have h2 := (o20.lt hE).1
      omega
    have R20 := R8.md m20
    refine R20.push (o20.down m8.size) rfl hap (m8.trans m20).size (fun b hb => Nat.lt_of_lt_of_le (hl8 b hb) m20.size) (by simpa using hl4) (by rw [List.length_take]; omega) fun a' c' w27 R27 m27 => Bd_e (inc_i64 (by omega)) ?_
    have m27' : Md [] w4 w27 := (m8.trans m20).old m27 fun d hd => by
      obtain ⟨B, hB, rfl⟩ := mem_blk hd
      obtain ⟨ps, o, _⟩ := R20
      exact (o.lt hB).1
    have e2 : (recsL o).take i ++ [recB (((max o.n 0).toNat % 2000 + i : Nat) : Int) ((o.c + i) % 256)] = (recsL o).take (i + 1) := etk.symm
    rw [e2] at R27 ⊢
    exact ⟨recsN o.m - (i + 1), by omega, i + 1, a', c', rfl, rfl, by omega, m27', R27⟩
  · have hil : i = recsN o.m := by
      have : ¬ (i : Int) < (recsN o.m : Int) := by rw [hb13] at hb; exact of_decide_eq_false hb
      omega
    subst hil
    rw [← recsL_len, List.take_length] at R8 ⊢
    exact ⟨⟨a, c, rfl, R8.down m4'.size⟩, m4'.trans m8⟩
end Fk
set_option linter.unusedVariables false
set_option linter.unusedSimpArgs false
set_option maxRecDepth 100000
set_option maxHeartbeats 4000000
namespace Fk
open Go Go.Proofs Go.RowKit
section
variable {L : List Nat} {w0 w : World} {n : Nat} {d : Dk} {F : List Nat} {ln : Nat} {g : Lg} {a : Option Addr} {c : Nat} {rs : List (List Nat)}
theorem JT.mdr {w' : World} {n0 : Nat} (T : JT L w0 w n d F ln g a c rs) (h0 : n0 ∈ L) (hlo : w0.heap.size ≤ n0) (hm : Md [n0] w w') : JT L w0 w' n d F ln g a c rs := by
  have hno : n0 ∉ ln :: F := (T.lf n0 h0).2
  refine ⟨T.js.other hm (fun b hb => ⟨T.up b hb, fun h => ?_⟩) (by simpa using hlo), T.ow.mdD hm (fun A hA h => ?_), T.sep, T.lf.md hm.size, T.la⟩
  · simp only [List.mem_singleton] at h; subst h; exact hno hb
  · simp only [List.mem_singleton] at h; exact T.la n0 h0 A hA h
end
theorem jin135 {L : List Nat} {w : World} {bx : Nat} {a : Option Addr} {c m : Nat} {rs : List (List Nat)} (hr : RRo w bx a c rs) (hrs : ∀ r ∈ rs, ∀ x ∈ r, x < 256) (hl : rs.length < 2 ^ 40) (hm : m = rs.length) (hL : ∀ b ∈ L, b < w.heap.size) {K : Option Addr → Nat → Nat → World → Prop}
    (k : ∀ A C w', Md [] w w' → OwnL w' w.heap.size 9 1 tE A C rs → K A rs.length C w') : CallW Try.prog L 135 #[.slice a m c] (fun v w' => opL v fun a n c => K a n c w') w := by
  subst hm
  refine (f135_ok rs hrs hl bx a c w hr).call hL ?_
  rintro v w' ⟨A, C, rfl, o⟩ h'
  exact opL_in (k A C w' h' o)
theorem recsL_get (o : Op4) {i : Nat} (hi : i < (recsL o).length) : (recsL o)[i] = recK o i := by simp [recsL]
theorem recK_len (o : Op4) (i : Nat) (hi : i < 20) (hn : 1 ≤ o.n ∧ o.n ≤ 200) : (recK o i).length = o.n.toNat + i := by
  unfold recK; rw [recB_len]; unfold recN; omega
theorem sum8_append (l m : List Nat) : sum8 (l ++ m) = sum8 l + sum8 m := by
  induction l with
  | nil => simp [sum8]
  | cons x l ih => rw [List.cons_append, sum8_cons, sum8_cons, ih]; omega
theorem sum8_snoc (l : List Nat) (x : Nat) : sum8 (l ++ [x]) = sum8 l + (x + 8) := by rw [sum8_append, sum8_cons]; rfl
theorem sum8_le (l : List Nat) (m : Nat) (h : ∀ x ∈ l, x ≤ m) : sum8 l ≤ l.length * (m + 8) := by
  induction l with
  | nil => simp [sum8]
  | cons x l ih =>
    have h1 := h x (by simp)
    have h2 := ih fun y hy => h y (by simp [hy])
    rw [sum8_cons, List.length_cons, Nat.succ_mul]; omega
theorem f36_ok (lens : List Nat) (A : Option Addr) (C : Nat) (hC : lens.length ≤ C) (hlb : ∀ x ∈ lens, x < 256) (b : Nat) (hb : b < 256) (o : Op4) (ho : o.ok) (st : Nat) (hst : st < 256) (p4 p5 : Int) (w0 : World) (hr : RowAt w0 A 1 b1 lens) :
    Ct Try.prog 36 #[.int .u8 b, .slice A lens.length C, .agg #[.int .u8 o.k, .int .i64 o.n, .int .i64 o.m, .int .u8 o.c], .int .u8 st, .int .i64 p4, .int .i64 p5] w0 fun v w' => v = .bool true ∧ Md [] w0 w' := by
  apply f36_in
  intro n1 hn1 w2 m2 hl2
  have hl2' : n1 < w2.heap.size := hl2 n1 (by simp)
  have m2' : Md [] w0 w2 := m2
  refine in122 m2' b (by simpa using hl2') (fun n F ln w4 S4 hF4 hln m4 => ?_) hb
  have lf4 : LF [n1] w4 (ln :: F) := fun x hx => by
    simp only [List.mem_singleton] at hx; subst hx
    refine ⟨Nat.lt_of_lt_of_le hl2' m4.size, fun h => ?_⟩
    rcases List.mem_cons.1 h with h | h
    · omega
    · have := hF4 _ h; omega
  refine Bd_e rfl <| If_f <| Bd_e rfl <| Bd_e (min15 _) <| RunW_in0 (slice_front (e := 5) (by kernel_rfl) (fun w => ⟨1, size5b w⟩) w4 _ _ _ (min lens.length 15) (by omega)) <| opL_in <| Bd_e rfl ?_
  have hb20 : b % 20 < 20 := Nat.mod_lt _ (by omega)
  generalize hN : 3 + b % 20 = N at *
  have hN3 : 3 ≤ N := by omega
  have hN22 : N ≤ 22 := by omega
  have Q4 : JQ N (newDk N) ⟨0, 0, false⟩ [] := ⟨JG.new hN3, newDk_len N, rfl⟩
  refine LoopP_in (fun mm us vs w' => ∃ (i : Nat) (d : Dk) (F : List Nat) (g : Lg) (a : Option Addr) (c : Nat) (rs : List (List Nat)), us = [.slice a rs.length c, .int .i64 i] ∧ mm = min lens.length 15 - i ∧ i ≤ min lens.length 15 ∧ JT [n1] w0 w' n d F ln g a c rs ∧ JQ N d g rs ∧ d.rf = 0) (min lens.length 15)
    ⟨0, newDk N, F, ⟨0, 0, false⟩, none, 0, [], rfl, rfl, by omega, JT.nil S4 lf4, Q4, rfl⟩ ?_
  rintro mm us vs w21 ⟨i, d, F, g, a, c, rs, rfl, hmm, hi, T, Q, hrf⟩
  have hA := Q.G.sf.ha
  have h1 := Q.h1 hN3
  have hjz := Q.jsz
  have hle := Q.G.le
  have hrl := Q.rs_len
  refine opL_in <| opI_in <| Bd_in fun b26 hb26 => If_in (fun hbb => ?_) fun hbb => ?_
  · have hil : i < min lens.length 15 := by rw [hb26] at hbb; have := of_decide_eq_true hbb; omega
    have hil2 : i < lens.length := by omega
    have r21 := hr.md T.js.ds.md
    have hix := (r21.take (min lens.length 15)).ix (i := i) (by rw [List.length_take]; omega)
    rw [List.length_take, Nat.min_eq_left (by omega)] at hix
    have hx := hlb _ (List.getElem_mem hil2)
    refine Jn_in (fun us vs w' => ∃ (x y : Int) (B : Option Addr) (m C : Nat) (d : Dk) (F : List Nat) (g : Lg) (a : Option Addr) (c : Nat) (rs : List (List Nat)), us = [.slice a rs.length c, .int .i64 x, .int .u8 y, .slice B m C] ∧ JT [n1] w0 w' n d F ln g a c rs ∧ JQ N d g rs ∧ d.rf = 0) ?_ ?_
    · rintro us vs w29 ⟨x, y, B, m, C, d, F, g, a, c, rs, rfl, T', Q', hrf'⟩
      exact opL_in <| opI_in <| opI_in <| opL_in <| Bd_e (inc_i64 (by omega)) ⟨min lens.length 15 - (i + 1), by omega, i + 1, d, F, g, a, c, rs, rfl, rfl, by omega, T', Q', hrf'⟩
    · refine ⟨hix, r21.ld1 hil2 rfl <| opI_in <| Bd_e (y := ((lens[i] : Nat) : Int)) (by rw [IntKind.wrap_i64]; omega) <| Bd_e (y := ((lens[i] % 100 : Nat) : Int)) (by rw [Int.tmod_eq_emod_of_nonneg (by omega)]; omega) <| Bd_e (y := ((1 + lens[i] % 100 : Nat) : Int)) (by rw [IntKind.wrap_i64]; omega) <| Bd_e (y := (i : Int)) (by rw [IntKind.wrap_u8]; omega) <| T.r123 _ (by omega) fun B C C4 w47 T47 m47 o47 => ?_⟩
      have hrecl : (recB ((1 + lens[i] % 100 : Nat) : Int) i).length = 1 + lens[i] % 100 := by rw [recB_len]; unfold recN; omega
      have hrb := recB_lt ((1 + lens[i] % 100 : Nat) : Int) i
      generalize recB ((1 + lens[i] % 100 : Nat) : Int) i = rec at *
      refine T47.app h1 Q.p28 hA hle rec hrb rfl (o47.row encb1) fun F' w52 T52 m52 f52 => ?_
      have o52 := o47.mdD m52 fun D hD hx => by have := (o47.lt hD).1; have := T.up _ hx; omega
      rcases Q.app (by omega) hrb with ⟨q1, _⟩ | ⟨q1, q2, q3⟩ | ⟨q1, q2, q3, q4, q5, q6⟩ | ⟨q1, q2, q3, q4, q6, q5⟩
      · omega
      · rw [q3] at T52 ⊢
        exact Bd_e rfl <| If_f ⟨_, _, _, _, _, d, F', g, a, c, rs, rfl, T52, Q, hrf⟩
      · rw [q3]
        exact Bd_e rfl <| If_t <| RunW_in0 (str_own o52 hrb _) <| opStr_in <| T52.push rec (by omega) fun a' c' w61 T61 hA61 m61 => ⟨_, _, _, _, _, _, F', _, a', c', rs ++ [rec], rfl, T61, q4, q6 hrf⟩
      · exact absurd hrf q6
  · refine Bd_in fun x65 hx65 => Bd_in fun x66 hx66 => Bd_in fun x67 hx67 => Bd_in fun x68 hx68 => fun w69 m69 hl69 => ?_
    have h65 := wrap16 o.n
    rw [← hx65] at h65
    have h66 := tmodr x65 200 (by omega) h65.1
    rw [← hx66] at h66
    have h67 : x67 = x66 := by rw [hx67, IntKind.wrap_i64]; omega
    have h68 : 1 ≤ x68 ∧ x68 ≤ 200 := by rw [hx68, h67, IntKind.wrap_i64]; omega
    clear hx65 hx66 hx67 hx68 h65 h66 h67
    have T69 := T.mdr (by simp) hn1 m69
    let q : Op4 := ⟨o.k, x68, o.m, o.c⟩
    have hq : q.ok := ⟨ho.c, by show _ ≤ x68 ∧ x68 ≤ _; omega, ho.m⟩
    have hqn : q.n = x68 := rfl
    have hql := recsL_len q
    have hqm := recsN_le q.m
    have hkl : ∀ k, k < (recsL q).length → (recK q k).length = x68.toNat + k := fun k hk => recK_len q k (by omega) h68
    have hqok : OkR (recsL q) := fun r hr => by
      obtain ⟨k, hk, rfl⟩ := List.getElem_of_mem hr
      rw [recsL_get q hk]
      refine ⟨by rw [hkl k hk]; omega, by rw [hkl k hk]; omega, recB_lt _ _⟩
    refine (f134_ok q hq w69).call T69.lt ?_
    rintro v w71 ⟨a72, c74, rfl, R71⟩ m71
    have T71 := T69.md0 m71
    have hq2k : ∀ r ∈ recsL q, r.length ≤ 2000 := fun r hr => by
      obtain ⟨k, hk, rfl⟩ := List.getElem_of_mem hr
      rw [recsL_get q hk]; unfold recK; rw [recB_len]; exact recN_le _
    have hxl : (recsL q).length ≤ 20 := by omega
    clear hkl hql
    generalize recsL q = xs at *
    refine opL_in <| Bd_e rfl ?_
    have hs8 : ∀ i, i ≤ xs.length → sum8 ((xs.take i).map List.length) ≤ 20 * 2008 := fun i hi => by
      have h2 := sum8_le ((xs.take i).map List.length) 2000 (fun l hl => by
        obtain ⟨r, hr, rfl⟩ := List.mem_map.1 hl
        exact hq2k r (List.mem_of_mem_take hr))
      have h3 : ((xs.take i).map List.length).length ≤ 20 := by rw [List.length_map, List.length_take]; omega
      have h4 : ((xs.take i).map List.length).length * (2000 + 8) ≤ 20 * (2000 + 8) := Nat.mul_le_mul_right _ h3
      omega
    refine LoopP_in (fun mm us vs w' => ∃ i : Nat, us = [.int .i64 (sum8 ((xs.take i).map List.length) : Nat), .int .i64 i] ∧ mm = xs.length - i ∧ i ≤ xs.length ∧ w' = w71) xs.length
      ⟨0, rfl, rfl, by omega, rfl⟩ ?_
    rintro mm3 us vs w79 ⟨k, rfl, hmm3, hk, rfl⟩
    refine opI_in <| opI_in <| Bd_in fun b82 hb82 => If_in (fun hb2 => ?_) fun hb2 => ?_
    · have hkl : k < xs.length := by rw [hb82] at hb2; have : (k : Int) < (xs.length : Int) := of_decide_eq_true hb2
                                     omega
      obtain ⟨ps, p1, p2, p3⟩ := R71
      have hkp : k < ps.length := by omega
      obtain ⟨u1, _, _⟩ := p3 k ps[k] xs[k] (List.getElem?_eq_getElem hkp) (List.getElem?_eq_getElem hkl)
      have hix := (p1.row encsE).ix hkp
      rw [p2] at hix
      have h5 := hs8 (k + 1) hkl
      have etk : (xs.take (k + 1)).map List.length = (xs.take k).map List.length ++ [xs[k].length] := by rw [List.take_succ_eq_append_getElem hkl, List.map_append]; rfl
      rw [etk, sum8_snoc] at h5
      refine ⟨hix, (p1.row encsE).ld1 hkp rfl <| opL_in <| Bd_e rfl <| Bd_e (y := ((xs[k].length + 8 : Nat) : Int)) (by rw [u1, IntKind.wrap_i64]; omega) <| Bd_e (y := ((sum8 ((xs.take k).map List.length) + (xs[k].length + 8) : Nat) : Int)) (by rw [IntKind.wrap_i64]; omega) <| Bd_e (inc_i64 (by omega)) ⟨xs.length - (k + 1), by omega, k + 1, ?_, rfl, by omega, rfl⟩⟩
      rw [etk, sum8_snoc]
    have hke : k = xs.length := by
      have : ¬ (k : Int) < (xs.length : Int) := by rw [hb82] at hb2; exact of_decide_eq_false hb2
      omega
    subst hke
    rw [List.take_length]
    have hsx := hs8 xs.length (Nat.le_refl _)
    rw [List.take_length] at hsx
    refine Bd_e (y := (st : Int)) (by rw [IntKind.wrap_i64]; omega) <| T71.arm st (by omega) fun w93 T93 m93 => ?_
    have Q93 := Q.arm (st : Int)
    generalize d.arm (st : Int) = d1 at *
    have R93 := R71.mdD m93 (fun x hx => by have := T69.up x (List.mem_cons_of_mem _ hx); exact this)
    refine T93.rw (Q93.h1 hN3) Q93.p28 hA xs hqok.by (by omega) rfl R93.r fun F6 w96 T96 m96 f96 => ?_
    have hlw := rwD_law Q93 (by omega) hqok
    have m71_96 : Md (ln :: F) w79 w96 := (m93.mono fun y hy => List.mem_cons_of_mem _ hy).trans m96
    have hup : ∀ x ∈ ln :: F, x < w69.heap.size := fun x hx => T69.up x hx
    have hf6 : Fr w79 (ln :: F) (ln :: F6) := fun x hx => (frc ln f96 x hx).imp id fun h => by have := m93.size; omega
    have hov := Q93.G.ov
    have hcode : ∃ e d2 g2, rwD d1 g xs = (d2, g2, e) ∧ d2.pd.length < 2 ^ 28 ∧ ((e = 0 ∧ sum8 (xs.map List.length) ≤ (N - 1) / 2 * 64 ∧ g2.ov = false) ∨ (e = 4 ∧ (N - 1) / 2 * 64 < sum8 (xs.map List.length) ∧ g2.ov = false) ∨ (e = 200 ∧ sum8 (xs.map List.length) ≤ (N - 1) / 2 * 64 ∧ g2.ov = true)) ∧
        CS d2 (fun bl => bl.length = N ∧ ((e = 0 ∧ ∃ a, Sf bl a xs) ∨ (e ≠ 0 ∧ ∃ a, Sf bl a rs) ∨ (e = 200 ∧ ∃ a, Sf bl a xs))) := by
      rcases hlw with ⟨q1, q2⟩ | ⟨q1, q2, q3, q4⟩ | ⟨q1, q2, q3, q4, q5⟩
      · exact ⟨4, d1, g, q2, Q93.p28, .inr (.inl ⟨rfl, q1, hov⟩), CS.flat Q93.pd ⟨Q93.len, .inr (.inl ⟨by decide, _, Q93.G.sf⟩)⟩⟩
      · refine ⟨0, _, _, ?_, q3.p28, .inl ⟨rfl, q1, q3.G.ov⟩, CS.flat q3.pd ⟨q3.len, .inl ⟨rfl, _, q3.G.sf⟩⟩⟩
        rw [← q2]
      · refine ⟨200, (rwD d1 g xs).1, (rwD d1 g xs).2.1, ?_, q4, .inr (.inr ⟨rfl, q1, by rw [q3]⟩), q5.mono fun bl h => ⟨h.1, ?_⟩⟩
        · rw [← q2]
        · rcases h.2 with h | h
          · exact .inr (.inl ⟨by decide, _, h⟩)
          · exact .inr (.inr ⟨rfl, _, h⟩)
    obtain ⟨e, d2, g2, hrw, hp2, hcase, hcs⟩ := hcode
    rw [hrw] at T96 ⊢
    clear hlw hrw
    simp only at T96 ⊢
    refine Bd_in fun b98 h98 => Bd_e (y := ((b % 20 : Nat) : Int)) (by rw [Int.tmod_eq_emod_of_nonneg (by omega)]; omega) <| Bd_e (y := ((b % 20 : Nat) : Int)) (by rw [IntKind.wrap_i64]; omega) <| Bd_e (y := ((2 + b % 20 : Nat) : Int)) (by rw [IntKind.wrap_i64]; omega) <| Bd_e (y := (((2 + b % 20) / 2 : Nat) : Int)) (by rw [Int.tdiv_eq_ediv_of_nonneg (by omega), IntKind.wrap_i64]; omega) <| Bd_e (y := (((N - 1) / 2 * 64 : Nat) : Int)) (by rw [IntKind.wrap_i64]; omega) <| Bd_in fun b104 h104 => Bd_in fun b105 h105 => ?_
    have e105 : b105 = false := by
      rw [h105, h98, h104]
      rcases hcase with ⟨rfl, q, _⟩ | ⟨rfl, q, _⟩ | ⟨rfl, q, _⟩
      · rw [decide_eq_false (by omega)]; rfl
      · rw [decide_eq_true (by omega)]; rfl
      · rw [decide_eq_false (by omega)]; rfl
    subst e105
    refine Gd_t <| T96.over fun w111 T111 m111 => Bd_in fun b112 h112 => Bd_in fun b113 h113 => Bd_in fun b114 h114 => Bd_in fun b115 h115 => Bd_in fun b116 h116 => Bd_in fun b117 h117 => Bd_in fun b118 h118 => Bd_in fun b119 h119 => Bd_in fun b120 h120 => ?_
    have e120 : b120 = false := by
      rw [h120, h119, h118, h117, h116, h115, h114, h113, h112]
      rcases hcase with ⟨rfl, _, q⟩ | ⟨rfl, _, q⟩ | ⟨rfl, _, q⟩ <;> rw [q] <;> rfl
    subst e120
    refine If_f <| T111.crash p4 p5 (by omega) fun F7 w122 T122 m122 => ?_
    obtain ⟨hl3, hsf⟩ := hcs.crash p4 p5
    have hpd3 : (d2.crash p4 p5).pd = [] := rfl
    generalize d2.crash p4 p5 = d3 at *
    have hys : ∃ ys, OkR ys ∧ (∃ a, Sf d3.bl a ys) ∧ ((e = 0 ∧ ys = xs) ∨ (e ≠ 0 ∧ ys = rs) ∨ (e = 200 ∧ ys = xs)) := by
      rcases hsf with ⟨h, h2⟩ | ⟨h, h2⟩ | ⟨h, h2⟩
      · exact ⟨xs, hqok, h2, .inl ⟨h, rfl⟩⟩
      · exact ⟨rs, Q.G.ok, h2, .inr (.inl ⟨h, rfl⟩)⟩
      · exact ⟨xs, hqok, h2, .inr (.inr ⟨h, rfl⟩)⟩
    obtain ⟨ys, hyo, ⟨ay, hsy⟩, hcy⟩ := hys
    have hpar := sf_parse hsy hyo
    refine T122.open' (by rw [hl3]; exact hN3) (fun A C w' hn T' m' => by rw [hpar] at hn; cases hn) fun zs p l2 A8 C8 w125 hs T125 o125 m125 => ?_
    rw [hpar] at hs
    simp only [Option.some.injEq, Prod.mk.injEq] at hs
    obtain ⟨rfl, rfl⟩ := hs
    have m71_125 : Md (ln :: F) w79 w125 := ((m71_96.trans (m111.mono (by simp))).fr m122 fun x hx => hf6 x (List.mem_cons_of_mem _ hx)).trans (m125.mono (by simp))
    have R125 := R71.mdD m71_125 hup
    have hyl : ys.length < 2 ^ 40 := by
      rcases hcy with ⟨_, rfl⟩ | ⟨_, rfl⟩ | ⟨_, rfl⟩ <;> omega
    refine Bd_in fun b132 h132 => ?_
    have aw : ∀ (w171 : World), Md [] w125 w171 → Gd true false (fun J175 => CallW Try.prog [n1] 125 #[] (fun v176 w177 => opB v176 fun b178 => J175 b178 w177) w171) (fun b179 w180 => Bd (bif true then b179 else false) fun b181 => (fun v w' => v = Value.bool true ∧ Md [] w0 w') (Value.bool b181) w180) w171 := fun w171 h => by
      have T171 := T125.md0 h
      exact Gd_t <| in125 T171.js.ds.md T171.lt fun w190 m190 _ => Bd_t rfl ⟨rfl, m190⟩
    by_cases h0 : e = 0
    · have hyx : ys = xs := by
        rcases hcy with ⟨_, h⟩ | ⟨h, _⟩ | ⟨h, h'⟩
        · exact h
        · exact absurd h0 h
        · exact h'
      subst hyx
      subst h0
      have e132 : b132 = true := by rw [h132]; rfl
      subst e132
      refine Gd_t <| jin135 R125 hyo.by hyl rfl T125.lt fun A9 C9 w135 m135 o135 => Gd_t <| jin127 ys ys hyo.by hyo.by hyl rfl rfl ((o125.md m135).row enctE) (o135.row enctE) (T125.md0 m135).lt fun w143 m143 => Bd_e (y := true) (by simp) <| Bd_e rfl <| Gd_f <| Bd_e rfl <| Bd_e rfl <| Bd_e rfl <| Gd_f <| Gd_f <| Bd_e rfl <| Bd_e rfl <| Bd_e rfl ?_
      exact aw _ (m135.trans m143)
    · have e132 : b132 = false := by rw [h132]; exact beq_eq_false_iff_ne.2 h0
      subst e132
      have e148 : (e != 0) = true := by simpa using h0
      refine Gd_f <| Gd_f <| Bd_e rfl <| Bd_e e148 <| Gd_t <| jin127 ys rs hyo.by Q.G.ok.by hyl rfl rfl (o125.row enctE) (T125.ow.row enctE) T125.lt fun w151 m151 => ?_
      have T151 := T125.md0 m151
      by_cases hyr : ys = rs
      · rw [decide_eq_true hyr]
        refine Bd_e rfl <| Bd_e rfl <| Bd_in fun b157 h157 => Gd_f <| Gd_f <| Bd_in fun b172 h172 => Bd_e rfl <| Bd_e rfl ?_
        exact aw _ m151
      · rw [decide_eq_false hyr]
        have h200 : e = 200 ∧ ys = xs := by
          rcases hcy with ⟨h, _⟩ | ⟨_, h⟩ | h
          · exact absurd h h0
          · exact absurd h hyr
          · exact h
        obtain ⟨rfl, rfl⟩ := h200
        refine Bd_e rfl <| Bd_e rfl <| Bd_e rfl <| Gd_t <| jin135 (R125.md m151) hyo.by hyl rfl T151.lt fun A9 C9 w160 m160 o160 => Gd_t <| jin127 ys ys hyo.by hyo.by hyl rfl rfl (((o125.md m151).md m160).row enctE) (o160.row enctE) (T151.md0 m160).lt fun w168 m168 => Bd_e (y := true) (by simp) <| Bd_e rfl <| Bd_e rfl ?_
        exact aw _ ((m151.trans m160).trans m168)
end Fk
