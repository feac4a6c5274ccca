/- Contracts of functions, and plain laws: several texts, joined. -/
import Derived.Test.YtpgjpgecgibklaaGR1
import Derived.Test.YtpgjpgecgibklaaGR0
import Derived.Lib.AppendZerosOnto
import Derived.Test.YtpgjpgecgibklaaGK2
import Derived.Test.YtpgjpgecgibklaaGV0
import Derived.Lib.SlBytesConst
set_option linter.unusedVariables false
set_option linter.unusedSimpArgs false
set_option maxRecDepth 100000
set_option maxHeartbeats 2000000
namespace Fk
open Go Go.Proofs Go.RowKit
def areaL (d : Dk) (a : Nat) : List Nat := bytesB ((d.bl.drop (1 + a * half d)).take (half d))
def padZ (s : List Nat) : List Nat := s ++ List.replicate ((64 - s.length % 64) % 64) 0
def zEnd (d : Dk) (a : Nat) (b : List Nat) : List Nat := if a + b.length < jsz d then b ++ [0] else b
def layS (d : Dk) (area p : Nat) (b : List Nat) : List Nat := padZ ((areaL d area).take p ++ zEnd d p b)
def chunk (s : List Nat) (k : Nat) : List Nat := (s.drop (k * 64)).take 64
def layL (area : Nat) (s : List Nat) : Nat → Nat → Dk → Dk × Bool
  | 0, _, d => (d.flush.1, d.flush.2 == 0)
  | m + 1, k, d => if (d.write (jbk d area k) (chunk s k)).2 = 0 then layL area s m (k + 1) (d.write (jbk d area k) (chunk s k)).1 else ((d.write (jbk d area k) (chunk s k)).1, false)
def layD (d : Dk) (area p : Nat) (b : List Nat) : Dk × Bool := layL area (layS d area p b) ((layS d area p b).length / 64 - p / 64) (p / 64) d
theorem bytesB_drop : ∀ (l : List Bk) (k : Nat) (h : k < l.length), (bytesB l).drop (k * 64) = l[k].1 ++ bytesB (l.drop (k + 1))
  | [], k, h => by simp at h
  | x :: l, 0, h => by simp [bytesB]
  | x :: l, k + 1, h => by
    have h' : k < l.length := by simpa using h
    have e : bytesB (x :: l) = x.1 ++ bytesB l := rfl
    rw [e, show (k + 1) * 64 = x.1.length + k * 64 by rw [x.2.1]; omega, ← List.drop_drop, List.drop_left, bytesB_drop l k h']
    rfl
theorem bytesB_get (l : List Bk) (k i : Nat) (h : k < l.length) (hi : i < 64) : (bytesB l)[k * 64 + i]? = l[k].1[i]? := by
  rw [← List.getElem?_drop, bytesB_drop l k h, List.getElem?_append_left (by rw [l[k].2.1]; exact hi)]
theorem half2 (d : Dk) (h : 1 ≤ d.bl.length) : 1 + 2 * half d ≤ d.bl.length := by unfold half; omega
theorem jbk_lt {d : Dk} {a k : Nat} (h : 1 ≤ d.bl.length) (ha : a ≤ 1) (hk : k < half d) : jbk d a k < d.bl.length := by
  have := half2 d h
  have h3 : a * half d ≤ 1 * half d := Nat.mul_le_mul_right _ ha
  unfold jbk; generalize a * half d = m at *; omega
theorem areaL_len {d : Dk} {a : Nat} (h : 1 ≤ d.bl.length) (ha : a ≤ 1) : (areaL d a).length = jsz d := by
  have := half2 d h
  have h3 : a * half d ≤ 1 * half d := Nat.mul_le_mul_right _ ha
  unfold areaL jsz
  rw [bytesB_len, List.length_take, List.length_drop]
  generalize a * half d = m at *; congr 1; omega
theorem areaL_get {d : Dk} {a k i : Nat} (h : 1 ≤ d.bl.length) (ha : a ≤ 1) (hk : k < half d) (hi : i < 64) : (areaL d a)[k * 64 + i]? = (getB d.bl (jbk d a k)).1[i]? := by
  have hb := jbk_lt h ha hk
  have h2 := half2 d h
  have h3 : a * half d ≤ 1 * half d := Nat.mul_le_mul_right _ ha
  unfold areaL
  rw [bytesB_get _ k i (by rw [List.length_take, List.length_drop]; generalize a * half d = m at *; omega) hi, getB_eq hb]
  simp only [List.getElem_take, List.getElem_drop]
  rfl
theorem areaL_lt (d : Dk) (a : Nat) : ∀ x ∈ areaL d a, x < 256 := bytesB_lt _
theorem zEnd_len {d : Dk} {p : Nat} {b : List Nat} (h : p + b.length ≤ jsz d) : p + (zEnd d p b).length ≤ jsz d := by
  unfold zEnd; split
  · simp; omega
  · exact h
theorem zEnd_lt {d : Dk} {p : Nat} {b : List Nat} (h : ∀ x ∈ b, x < 256) : ∀ x ∈ zEnd d p b, x < 256 := by
  unfold zEnd; split
  · intro x hx; simp only [List.mem_append, List.mem_singleton] at hx; rcases hx with hx | rfl
    · exact h x hx
    · omega
  · exact h
section
variable {d : Dk} {area p : Nat} {b : List Nat}
theorem layS_len (h : 1 ≤ d.bl.length) (ha : area ≤ 1) (hp : p + b.length ≤ jsz d) : ∃ K, (layS d area p b).length = K * 64 ∧ K ≤ half d ∧ p / 64 ≤ K ∧ ∀ k, (k * 64 < p + (zEnd d p b).length ↔ k < K) := by
  have hz := zEnd_len hp
  have hal := areaL_len h ha
  have e : (layS d area p b).length = (p + (zEnd d p b).length) + (64 - (p + (zEnd d p b).length) % 64) % 64 := by
    unfold layS padZ
    rw [List.length_append, List.length_replicate, List.length_append, List.length_take, hal, Nat.min_eq_left (by omega)]
  have hj : jsz d = half d * 64 := rfl
  rw [hj] at hz
  generalize (zEnd d p b).length = z at *
  refine ⟨(layS d area p b).length / 64, ?_, ?_, ?_, fun k => ?_⟩
  all_goals rw [e]; omega
theorem layS_get (h : 1 ≤ d.bl.length) (ha : area ≤ 1) (hp : p + b.length ≤ jsz d) {j : Nat} (hj : j < (layS d area p b).length) :
    (layS d area p b)[j]? = if j < p then (areaL d area)[j]? else if j - p < (zEnd d p b).length then (zEnd d p b)[j - p]? else some 0 := by
  have hal := areaL_len h ha
  have ht : ((areaL d area).take p).length = p := by rw [List.length_take, hal]; omega
  have hll : (layS d area p b).length = p + (zEnd d p b).length + (64 - (p + (zEnd d p b).length) % 64) % 64 := by
    unfold layS padZ
    rw [List.length_append, List.length_replicate, List.length_append, ht]
  rw [hll] at hj
  unfold layS padZ
  split
  · rename_i hjp
    rw [List.append_assoc, List.getElem?_append_left (by rw [ht]; exact hjp), List.getElem?_take, if_pos hjp]
  · rename_i hjp
    split
    · rename_i hjz
      rw [List.append_assoc, List.getElem?_append_right (by rw [ht]; omega), ht, List.getElem?_append_left hjz]
    · rename_i hjz
      rw [List.append_assoc, List.getElem?_append_right (by rw [ht]; omega), ht, List.getElem?_append_right (by omega), List.getElem?_replicate, if_pos]
      rw [List.length_append, ht]; omega
theorem layS_lt (hb : ∀ x ∈ b, x < 256) : ∀ x ∈ layS d area p b, x < 256 := by
  intro x hx
  unfold layS padZ at hx
  simp only [List.mem_append] at hx
  rcases hx with (hx | hx) | hx
  · exact areaL_lt d area x (List.mem_of_mem_take hx)
  · exact zEnd_lt hb x hx
  · have := List.eq_of_mem_replicate hx; omega
end
theorem chunk_len {s : List Nat} {K k : Nat} (h : s.length = K * 64) (hk : k < K) : (chunk s k).length = 64 := by unfold chunk; rw [List.length_take, List.length_drop, h]; omega
theorem chunk_get {s : List Nat} {k i : Nat} (hi : i < 64) : (chunk s k)[i]? = s[k * 64 + i]? := by unfold chunk; rw [List.getElem?_take, if_pos hi, List.getElem?_drop]
theorem chunk_lt {s : List Nat} {k : Nat} (h : ∀ x ∈ s, x < 256) : ∀ x ∈ chunk s k, x < 256 := fun x hx => h x (List.mem_of_mem_drop (List.mem_of_mem_take hx))
theorem chunk_ext {s c : List Nat} {K k : Nat} (h : s.length = K * 64) (hk : k < K) (hc : c.length = 64) (hg : ∀ j, j < 64 → c[j]? = s[k * 64 + j]?) : c = chunk s k := by
  apply List.ext_getElem?
  intro j
  by_cases hj : j < 64
  · rw [hg j hj, chunk_get hj]
  · rw [List.getElem?_eq_none (by omega), List.getElem?_eq_none (by rw [chunk_len h hk]; omega)]
/-- A copy to the front of a row of one's own. -/
theorem copy_front {w : World} {base : Nat} {A : Addr} {c : Nat} {l : List Nat} (h : OwnL w base 5 1 b1 (some A) c l) {B : Option Addr} {o : List Nat} {sc m : Nat} (hr : RowAt w B 1 b1 o) (ho : o.length = m) (hm : m ≤ l.length) (hB : B.isSome = true) :
    ∃ w', (Builtin.copy_ #[51, 51] 3 #[.slice (some A) l.length c, .slice B m sc]).run Try.prog w = .ok (goInt m) w' ∧ OwnL w' base 5 1 b1 (some A) c (o ++ l.drop m) ∧ Md [A.block] w w' := by
  obtain ⟨B, rfl⟩ := Option.isSome_iff_exists.1 hB
  have hol : (o.flatMap b1).length = m := by rw [encb1.lenL, ho, Nat.mul_one]
  obtain ⟨w', h1, h2, h3⟩ := own_copy (h := h) 0 l.length c (o.flatMap b1) (by rw [encb1.lenL, encb1.lenL]; omega) A rfl B m sc (by rw [hol]; exact (Nat.min_eq_left hm).symm) (fun j v hv => by
    have hj : j < o.length := by have := (List.getElem?_eq_some_iff.1 hv).1; rw [encb1.lenL] at this; omega
    obtain ⟨B', hB', hc⟩ := hr j o[j] (List.getElem?_eq_getElem hj)
    cases hB'
    have hv2 := encb1.at o j 0 o[j] (List.getElem?_eq_getElem hj) (by omega)
    rw [Nat.mul_one, Nat.add_zero] at hv2
    rw [hv2] at hv
    have := hc 0 v hv
    rwa [addr_add0, Nat.mul_one] at this) (fun v hv => encb1.oneL o v hv)
  rw [addr_add0, hol] at h1
  refine ⟨w', h1, ?_, h3⟩
  have e : wrL (l.flatMap b1) 0 (o.flatMap b1) = (o ++ l.drop m).flatMap b1 := by
    unfold wrL
    rw [List.take_zero, List.nil_append, hol, Nat.zero_add, List.flatMap_append, b1_map l, ← List.map_drop, ← b1_map]
  rw [e] at h2
  have e2 : (o ++ l.drop m).length = l.length := by rw [List.length_append, List.length_drop, ho]; omega
  unfold OwnL
  rw [e2]
  exact h2
end Fk
set_option linter.unusedVariables false
set_option linter.unusedSimpArgs false
set_option maxRecDepth 100000
set_option maxHeartbeats 4000000
namespace Fk
open Go Go.Proofs Go.RowKit
section
variable {w0 w : World} {n : Nat} {d : Dk} {F : List Nat} {ln : Nat} {g : Lg}
theorem f200_ok (S : JS w0 w n d F ln g) (h1 : 1 ≤ d.bl.length) (hpd : d.pd.length < 2 ^ 29) (area p : Nat) (ha : area ≤ 1) (b : List Nat) (hbb : ∀ x ∈ b, x < 256) (hp : p + b.length ≤ jsz d)
    (bx : Nat) (a : Option Addr) (c : Nat) (ho : OwnL w bx 5 1 b1 a c b) (hsep : ∀ A, a = some A → A.block ≠ ln ∧ A.block ∉ F ∧ w0.heap.size ≤ A.block) :
    Ct Try.prog 200 #[.pointer (some ⟨ln, 0, none⟩), .int .i64 area, .int .i64 p, .slice a b.length c] w fun v w' =>
      (v = .bool (layD d area p b).2 ∧ ∃ F', JS w0 w' n (layD d area p b).1 F' ln g ∧ Fr w F F') ∧ Md ((a.map (·.block)).toList ++ F) w w' := by
  have hlen := S.len
  have hhl := half_le hlen
  have hjz : jsz d = half d * 64 := rfl
  obtain ⟨K, hSl, hKh, hpK, hKi⟩ := layS_len (d := d) h1 ha hp
  have hzl := zEnd_len hp
  have hzb := zEnd_lt (d := d) (p := p) hbb
  have hSb := layS_lt (d := d) (area := area) (p := p) hbb
  have hSg := fun j => layS_get (d := d) h1 ha hp (j := j)
  have hLd : layD d area p b = layL area (layS d area p b) (K - p / 64) (p / 64) d := by unfold layD; rw [hSl, Nat.mul_div_cancel _ (by omega)]
  have hae : ∀ D, (a.map (·.block)).toList ⊆ (a.map (·.block)).toList ++ D := fun D x hx => List.mem_append_left _ hx
  apply f200_in
  generalize hz : zEnd d p b = z at *
  generalize hs : layS d area p b = s at *
  refine Jn_in (fun us vs w' => ∃ (a' : Option Addr) (c' : Nat), us = [.slice a' z.length c'] ∧ RowAt w' a' 1 b1 z ∧ (∀ A, a' = some A → A.block ≠ ln ∧ A.block ∉ F ∧ A.block < w'.heap.size) ∧ Md ((a.map (·.block)).toList ++ F) w w' ∧ JS w0 w' n d F ln g) ?_ ?_
  · rintro us vs w3 ⟨a4, c4, rfl, r4, s4, m4, S4⟩
    refine opL_in <| Bd_e (y := ((p / 64 : Nat) : Int)) (by rw [Int.tdiv_eq_ediv_of_nonneg (by omega), IntKind.wrap_i64]; omega) ?_
    refine LoopP_in (fun mm us vs w' => ∃ (bb : Bool) (k : Nat) (d' : Dk) (F' : List Nat), us = [.bool bb, .int .i64 k] ∧ mm = K - k ∧ p / 64 ≤ k ∧ k ≤ K ∧ JS w0 w' n d' F' ln g ∧ Fr w F F' ∧ Md ((a.map (·.block)).toList ++ F) w w' ∧
      RowAt w' a4 1 b1 z ∧ (∀ A, a4 = some A → A.block ≠ ln ∧ A.block ∉ F' ∧ A.block < w'.heap.size) ∧ d'.bl.length = d.bl.length ∧ d'.pd.length ≤ d.pd.length + (k - p / 64) ∧ (k = p / 64 → d' = d) ∧ layL area s (K - k) k d' = layD d area p b) (K - p / 64)
      ⟨false, p / 64, d, F, rfl, rfl, Nat.le_refl _, hpK, S4, Fr.refl _ _, m4, r4, s4, rfl, by omega, fun _ => rfl, hLd.symm⟩ ?_
    rintro mm us vs w11 ⟨bb, k, d', F', rfl, hmm, hk1, hk2, S11, f11, m11, r11, s11, e11, q11, t11, L11⟩
    have hh' : half d' = half d := by unfold half; rw [e11]
    have hj' : ∀ k, jbk d' area k = jbk d area k := fun k => by unfold jbk; rw [hh']
    refine opB_in <| opI_in <| Bd_e (y := ((k * 64 : Nat) : Int)) (by rw [IntKind.wrap_i64]; omega) <| Bd_e rfl <| Bd_e (y := ((p + z.length : Nat) : Int)) (by rw [IntKind.wrap_i64]; omega) <| Bd_in fun b17 hb17 => If_in (fun hb => ?_) fun hb => ?_
    · have hkK : k < K := by
        apply (hKi k).1
        rw [hb17] at hb; have := of_decide_eq_true hb; omega
      have hkh : k < half d := by omega
      obtain ⟨w19, hrun, o19, m19⟩ := made5 64 w11 (by omega)
      refine RunW_in hrun (Kept_md m19 (by simp)) <| opL_in <| Bd_e (y := ((k * 64 : Nat) : Int)) (by rw [IntKind.wrap_i64]; omega) ?_
      have S19 := S11.md0 m19
      refine Jn_in (fun us vs w' => ∃ (c0 : List Nat), c0.length = 64 ∧ (∀ x ∈ c0, x < 256) ∧ OwnL w' w11.heap.size 5 1 b1 (some ⟨w11.heap.size, 0, none⟩) 64 c0 ∧ Md [] w11 w' ∧ (∀ i, i < 64 → k * 64 + i < p → c0[i]? = s[k * 64 + i]?) ∧ (∀ i, i < 64 → p ≤ k * 64 + i → c0[i]? = some 0)) ?_ ?_
      · rintro us vs w26 ⟨c0, hc0, hcb, o26, m26, g1, g2⟩
        refine Bd_e rfl ?_
        refine LoopP_in (fun mm us vs w' => ∃ (i : Nat) (ci : List Nat), us = [.int .i64 i] ∧ mm = 64 - i ∧ i ≤ 64 ∧ ci.length = 64 ∧ (∀ x ∈ ci, x < 256) ∧ OwnL w' w11.heap.size 5 1 b1 (some ⟨w11.heap.size, 0, none⟩) 64 ci ∧ Md [] w11 w' ∧ (∀ j, j < i → ci[j]? = s[k * 64 + j]?) ∧ (∀ j, i ≤ j → ci[j]? = c0[j]?)) 64
          ⟨0, c0, rfl, rfl, by omega, hc0, hcb, o26, m26, fun j hj => by omega, fun j hj => rfl⟩ ?_
        rintro mm2 us vs w31 ⟨i, ci, rfl, hmm2, hi, hci, hcib, o31, m31, u1, u2⟩
        refine opI_in <| Bd_in fun b33 hb33 => If_in (fun hb => ?_) fun hb => ?_
        · have hi64 : i < 64 := by rw [hb33] at hb; have : (i : Int) < ((64 : Nat) : Int) := of_decide_eq_true hb
                                   omega
          have hjl : k * 64 + i < s.length := by rw [hSl]; omega
          have hS := hSg (k * 64 + i) hjl
          refine Jn_in (fun us vs w' => us = [.int .i64 (i : Int), .int .i64 (((k * 64 + i : Nat) : Int) - p)] ∧ ∃ (ci : List Nat), ci.length = 64 ∧ (∀ x ∈ ci, x < 256) ∧ OwnL w' w11.heap.size 5 1 b1 (some ⟨w11.heap.size, 0, none⟩) 64 ci ∧ Md [] w11 w' ∧ (∀ j, j < i + 1 → ci[j]? = s[k * 64 + j]?) ∧ (∀ j, i + 1 ≤ j → ci[j]? = c0[j]?)) ?_ ?_
          · rintro us vs w36 ⟨rfl, cj, v1, v2, v3, v4, v5, v6⟩
            exact opI_in <| opI_in <| Bd_e (inc_i64 (by omega)) ⟨64 - (i + 1), by omega, i + 1, cj, rfl, rfl, by omega, v1, v2, v3, v4, v5, v6⟩
          · refine Bd_e (y := ((k * 64 + i : Nat) : Int)) (by rw [IntKind.wrap_i64]; omega) <| Bd_e (y := ((k * 64 + i : Nat) : Int) - p) (by rw [IntKind.wrap_i64]; omega) <| Bd_in fun b43 hb43 => Bd_e rfl <| Bd_in fun b45 hb45 => Bd_in fun b46 hb46 => ?_
            have e46 : b46 = decide (p ≤ k * 64 + i ∧ k * 64 + i - p < z.length) := by
              have e43 : b43 = decide (p ≤ k * 64 + i) := by rw [hb43]; apply decide_eq_decide.2; omega
              rw [hb46, e43, hb45, Bool.eq_iff_iff]
              by_cases q : p ≤ k * 64 + i
              · simp [q]; omega
              · simp [q]
            by_cases hin : p ≤ k * 64 + i ∧ k * 64 + i - p < z.length
            · rw [show b46 = true by rw [e46]; simpa using hin]
              have hx := hin.2
              have e42 : ((k * 64 + i : Nat) : Int) - p = ((k * 64 + i - p : Nat) : Int) := by omega
              rw [if_neg (by omega), if_pos hin.2, List.getElem?_eq_getElem hx] at hS
              have r31 : RowAt w31 a4 1 b1 z := r11.md m31
              have hix := o31.row encb1 |>.ix (i := i) (by omega)
              obtain ⟨A, hA, p1, p2, p3, p4, p5, p6⟩ := o31.put encb1 (by omega) (i := i) (by omega) z[k * 64 + i - p]
              rw [hci] at hix
              rw [e42]
              refine If_t ⟨r31.ix hx, r31.ld1 hx rfl <| opI_in ⟨hix, by simp, p4, rfl, ci.set i z[k * 64 + i - p], by simpa using hci, fun x hx' => ?_, ?_, m31.old p6 (by simp; exact p2), fun j hj => ?_, fun j hj => ?_⟩⟩
              · rcases List.mem_or_eq_of_mem_set hx' with h | h
                · exact hcib x h
                · rw [h]; exact hzb _ (List.getElem_mem hx)
              · have := p5; exact this
              · by_cases hji : j = i
                · subst hji
                  rw [hS, List.getElem?_set_self (by omega)]
                · rw [List.getElem?_set_ne (by omega)]; exact u1 j (by omega)
              · rw [List.getElem?_set_ne (by omega)]; exact u2 j (by omega)
            · rw [show b46 = false by rw [e46]; exact decide_eq_false hin]
              refine If_f ⟨rfl, ci, hci, hcib, o31, m31, fun j hj => ?_, fun j hj => u2 j (by omega)⟩
              by_cases hji : j = i
              · subst hji
                rw [u2 j (Nat.le_refl _)]
                by_cases hjp : k * 64 + j < p
                · exact g1 j hi64 hjp
                · rw [g2 j hi64 (by omega), hS, if_neg hjp, if_neg (by omega)]
              · exact u1 j (by omega)
        · have hi64 : i = 64 := by
            have : ¬ (i : Int) < ((64 : Nat) : Int) := by rw [hb33] at hb; exact of_decide_eq_false hb
            omega
          subst hi64
          have hck : ci = chunk s k := chunk_ext hSl hkK hci fun j hj => u1 j hj
          subst hck
          have S31 := S11.md0 m31
          refine Jn_in (fun us vs w' => us = [.bool ((d'.write (jbk d' area k) (chunk s k)).2 != 0)] ∧ ∃ F2, JS w0 w' n (d'.write (jbk d' area k) (chunk s k)).1 F2 ln g ∧ Fr w11 F' F2 ∧ Md F' w11 w') ?_ ?_
          · rintro us vs w51 ⟨rfl, F2, S51, f51, m51⟩
            have hwl := write_len d' (jbk d' area k) (chunk s k)
            have hf2 : Fr w F F2 := f11.trans f51 m11.size
            have mF : Md ((a.map (·.block)).toList ++ F) w w51 := m11.fr m51 fun x hx => by
              rcases f11 x hx with h | h
              · exact .inl (List.mem_append_right _ h)
              · exact .inr h
            have hKk : K - k = (K - (k + 1)) + 1 := by omega
            rw [hKk] at L11
            refine opB_in <| If_in (fun hb => ?_) fun hb => ?_
            · have hne : ¬ (d'.write (jbk d' area k) (chunk s k)).2 = 0 := by simpa using hb
              unfold layL at L11
              rw [if_neg hne] at L11
              rw [← L11]
              exact ⟨⟨rfl, F2, S51, hf2⟩, mF⟩
            · have heq : (d'.write (jbk d' area k) (chunk s k)).2 = 0 := by simpa using hb
              unfold layL at L11
              rw [if_pos heq] at L11
              exact Bd_e (inc_i64 (by omega)) ⟨K - (k + 1), by omega, bb, k + 1, _, F2, rfl, rfl, by omega, by omega, S51, hf2, mF, r11.mdD m51 (fun A hA => (s11 A hA).2.1), fun A hA => ⟨(s11 A hA).1, fun hx => by
                rcases f51 _ hx with h | h
                · exact (s11 A hA).2.1 h
                · have := (s11 A hA).2.2; omega, Nat.lt_of_lt_of_le (s11 A hA).2.2 m51.size⟩, by rw [hwl.1, e11], by have := hwl.2; omega, fun h => by omega, L11⟩
          · have S31d := S31.md0 (Md_drew w31)
            refine ⟨fun w' => Blk w' ln 260 (g.c n), S31d.blk, NN_in ?_⟩
            show ∃ v, _ ∧ _
            refine ⟨.pointer (some ⟨n, 0, none⟩), fun w' hw => hw.ld (j := 0) rfl rfl, opP_in <| in202 S31d (by rw [e11]; exact h1) ha (by omega) (by simp) fun w63 S63 m63 => ⟨S63.blk, ?_⟩⟩
            have m63' : Md [] w11 w63 := (m31.trans (Md_drew w31)).trans m63
            have o63 := (o31.md (Md_drew w31)).md m63
            have hcl := chunk_len (s := s) hSl hkK
            refine in114 (L := []) S63.ds (LF.nil _ _) (jbk d' area k) (b := chunk s k) hci.symm hcib (by rw [hci]; omega) (by omega) (o63.row encb1) (fun B hB => by cases hB; intro hx; have := S11.ds.dk.lt _ hx; simp at this) fun F2 w66 S66 m66 f66 _ => ?_
            have mm66 : Md F' w11 w66 := (m63'.mono (by simp)).trans m66
            have J66 := S63.step S66 m66 f66
            exact ⟨J66.blk, Bd_e rfl ⟨rfl, F2, J66, fun x hx => (f66 x hx).imp id (Nat.le_trans m63'.size), mm66⟩⟩
      · refine Bd_in fun b70 hb70 => If_in (fun hb => ?_) fun hb => ?_
        · have hkp : k * 64 < p := by rw [hb70] at hb; have := of_decide_eq_true hb; omega
          have hk0 : k = p / 64 := by omega
          have hdd := t11 hk0
          subst hdd
          have hbk := jbk_lt h1 ha hkh
          refine Jn_in (fun us vs w' => ∃ A, us = [.int .i64 0, .slice (some A) 64 64] ∧ RowAt w' (some A) 1 b1 (getB d'.bl (jbk d' area k)).1 ∧ Md [] w11 w' ∧ OwnL w' w11.heap.size 5 1 b1 (some ⟨w11.heap.size, 0, none⟩) 64 (List.replicate 64 0) ∧ A.block ≠ w11.heap.size) ?_ ?_
          · rintro us vs w73 ⟨A, rfl, r73, m73, o73, hne⟩
            refine opI_in <| opL_in <| Bd_e (y := ((p - k * 64 : Nat) : Int)) (by rw [IntKind.wrap_i64]; omega) <| RunW_in0 (slice_front (e := 5) (by kernel_rfl) (fun w => ⟨1, size5b w⟩) w73 _ _ _ (p - k * 64) (by omega)) <| opL_in ?_
            have hgl : (getB d'.bl (jbk d' area k)).1.length = 64 := (getB d'.bl (jbk d' area k)).2.1
            have htk : ((getB d'.bl (jbk d' area k)).1.take (p - k * 64)).length = p - k * 64 := by rw [List.length_take, hgl]; omega
            obtain ⟨w85, hr85, o85, m85⟩ := copy_front o73 (r73.take (p - k * 64)) (sc := 64) htk (by simp; omega) rfl
            rw [List.length_replicate] at hr85
            refine RunW_in hr85 (fun b hb => by cases hb) <| opI_in ⟨_, ?_, ?_, o85, m73.old m85 (by simp), fun i hi hip => ?_, fun i hi hip => ?_⟩
            · rw [List.length_append, htk, List.length_drop, List.length_replicate]; omega
            · intro x hx
              rcases List.mem_append.1 hx with h | h
              · exact (getB d'.bl (jbk d' area k)).2.2 x (List.mem_of_mem_take h)
              · have := List.eq_of_mem_replicate (List.mem_of_mem_drop h); omega
            · rw [List.getElem?_append_left (by rw [htk]; omega), List.getElem?_take, if_pos (by omega), hSg _ (by rw [hSl]; omega), if_pos hip, areaL_get h1 ha hkh hi]
            · rw [List.getElem?_append_right (by rw [htk]; omega), htk, List.getElem?_drop, List.getElem?_replicate, if_pos (by omega)]
          · have S19d := S19.md0 (Md_drew w19)
            refine ⟨fun w' => Blk w' ln 260 (g.c n), S19d.blk, NN_in ?_⟩
            show ∃ v, _ ∧ _
            refine ⟨.pointer (some ⟨n, 0, none⟩), fun w' hw => hw.ld (j := 0) rfl rfl, opP_in <| in202 S19d h1 ha (by omega) (by simp) fun w96 S96 m96 => ⟨S96.blk, in119 S96.ds (by simp) hbk fun A w99 S99 m99 o99 => ⟨S96.blk.md m99 (by simp), ?_⟩⟩⟩
            have mm : Md [] w19 w99 := ((Md_drew w19).trans m96).trans m99
            have h64 : (getB d'.bl (jbk d' area k)).1.length = 64 := (getB d'.bl (jbk d' area k)).2.1
            obtain ⟨B, hB, _⟩ := (o99.row encb1) 0 ((getB d'.bl (jbk d' area k)).1[0]'(by omega)) (List.getElem?_eq_getElem _)
            subst hB
            have hlt := (o99.lt rfl).1
            have h19 := (o19.lt rfl).2
            have h96 := ((Md_drew w19).trans m96).size
            exact ⟨B, rfl, o99.row encb1, m19.trans mm, o19.md mm, by simp at h19; omega⟩
        · have hkp : ¬ k * 64 < p := by rw [hb70] at hb; have := of_decide_eq_false hb; omega
          exact ⟨List.replicate 64 0, by simp, fun x hx => by have := List.eq_of_mem_replicate hx; omega, o19, m19, fun i hi hip => by omega, fun i hi hip => by rw [List.getElem?_replicate, if_pos hi]⟩
    · have hkK : ¬ k < K := fun h => by
        have h2 := (hKi k).2 h
        rw [hb17] at hb; have := of_decide_eq_false hb; omega
      have hkK' : K - k = 0 := by omega
      rw [hkK'] at L11
      unfold layL at L11
      refine NN_in <| S11.blk.ld (j := 0) rfl <| opP_in <| in103 (L := []) S11.ds (LF.nil _ _) fun F2 w109 S109 m109 f109 _ => Bd_e rfl ?_
      rw [← L11]
      refine ⟨⟨rfl, F2, S11.step S109 m109 f109, f11.trans f109 m11.size⟩, m11.fr m109 fun x hx => ?_⟩
      rcases f11 x hx with h | h
      · exact .inl (List.mem_append_right _ h)
      · exact .inr h
  · refine Bd_e rfl <| Bd_e (y := ((p + b.length : Nat) : Int)) (by rw [IntKind.wrap_i64]; omega) <| in197 S h1 (by simp) fun w116 S116 m116 => Bd_in fun b118 hb118 => If_in (fun hb => ?_) fun hb => ?_
    · have hlt : p + b.length < jsz d := by rw [hb118] at hb; have := of_decide_eq_true hb; omega
      have ez : z = b ++ [0] := by rw [← hz]; unfold zEnd; rw [if_pos hlt]
      refine app_one rowT51 encb1 0 rfl ((ho.md m116).down (b := 0) (by omega)) (by omega) (by simp) (by simp) (by simp [maxLen]; omega) (by omega) fun a' c' w' o' m' hA => opL_in ⟨a', c', by rw [ez], by rw [ez]; exact o'.row encb1, fun A hA' => ?_, ?_, ?_⟩
      · have hltA := (o'.lt hA').2
        rcases hA A hA' with h | h
        · have := hsep A h; exact ⟨this.1, this.2.1, hltA⟩
        · refine ⟨fun e => ?_, fun hx => ?_, hltA⟩
          · have := S116.blk.lt; omega
          · have := S116.ds.dk.lt _ hx; omega
      · exact (m116.mono (by simp)).trans (m'.mono (hae F))
      · refine S116.other m' (fun x hx => ?_) fun x hx => ?_
        · refine ⟨?_, fun hd => ?_⟩
          · rcases List.mem_cons.1 hx with rfl | hx
            · exact S116.blk.lt
            · exact S116.ds.dk.lt _ hx
          · obtain ⟨A, hA', e⟩ := mem_blk hd
            have := hsep A hA'
            rcases List.mem_cons.1 hx with rfl | hx
            · exact this.1 e
            · exact this.2.1 (by rw [e]; exact hx)
        · obtain ⟨A, hA', rfl⟩ := mem_blk hx; exact (hsep A hA').2.2
    · have hge : ¬ p + b.length < jsz d := by rw [hb118] at hb; have := of_decide_eq_false hb; omega
      have ez : z = b := by rw [← hz]; unfold zEnd; rw [if_neg hge]
      refine ⟨a, c, by rw [ez], by rw [ez]; exact (ho.md m116).row encb1, fun A hA => ⟨(hsep A hA).1, (hsep A hA).2.1, ((ho.md m116).lt hA).2⟩, m116.mono (by simp), S116⟩
end
end Fk
set_option linter.unusedVariables false
set_option linter.unusedSimpArgs false
set_option maxRecDepth 100000
namespace Fk
open Go Go.Proofs Go.RowKit
theorem bytesL_of {l : List Nat} (h : ∀ x ∈ l, x < 256) : bytesL (bytesOf l) = l := by
  simp only [bytesOf, bytesL, List.map_map]
  conv => rhs; rw [← List.map_id l]
  apply List.map_congr_left
  intro x hx
  have := h x hx
  simp only [Function.comp, id, UInt8.toNat_ofNat', Nat.mod_eq_of_lt this]
theorem bytesOf_inj {a b : List Nat} (ha : ∀ x ∈ a, x < 256) (hb : ∀ x ∈ b, x < 256) (h : bytesOf a = bytesOf b) : a = b := by
  rw [← bytesL_of ha, ← bytesL_of hb, h]
def prs : List (Nat × Nat) → List Nat
  | [] => []
  | (x, y) :: l => x :: y :: prs l
/-- The form of what is wanted. -/
structure TShp where
  m : Nat
  x : Nat
  y : Nat
  nm : List ByteArray
  f : List Nat
  tg : List Nat
  nx : List (Nat × Nat)
def TShp.n (s : TShp) : Nat := s.x * 256 + s.y
def TShp.l (s : TShp) : List Nat := [70, 84, 1, s.m, s.x, s.y, s.nm.length] ++ (s.nm.flatMap encN ++ (s.f ++ (s.tg ++ prs s.nx)))
structure TShp.ok (s : TShp) : Prop where
  f : s.f.length = 256
  tg : s.tg.length = s.n
  nx : s.nx.length = s.n * (s.m + 1)
def TShp.t (s : TShp) : Tb := ⟨⟨s.f, (s.m + 1 : Nat)⟩, (s.m + 1 : Nat), s.nx.map (fun p : Nat × Nat => ((p.1 * 256 + p.2 : Nat) : Int) - 1), s.tg.map (fun x : Nat => (x : Int) - 1), s.nm⟩
end Fk
set_option linter.unusedVariables false
set_option linter.unusedSimpArgs false
set_option maxRecDepth 100000
namespace Fk
open Go Go.Proofs Go.RowKit
section
variable {L : List Nat} {w0 w : World}
end
theorem str_eqL {a b : List Nat} (ha : ∀ x ∈ a, x < 256) (hb : ∀ x ∈ b, x < 256) : ((bytesOf a).toList == (bytesOf b).toList) = decide (a = b) := by
  rw [str_eq, Bool.eq_iff_iff]
  simp only [decide_eq_true_eq]
  exact ⟨bytesOf_inj ha hb, fun h => by rw [h]⟩
end Fk
set_option linter.unusedVariables false
set_option linter.unusedSimpArgs false
set_option maxRecDepth 100000
namespace Fk
open Go Go.Proofs Go.RowKit
theorem slice_mid {P : Program} {t e : TypeId} (ht : P.underlying t = some (.slice e)) (hs : ∀ w, (Go.sizeOf e).run P w = .ok 1 w) (w : World) (a : Option Addr) (n c lo hi : Nat) (h : lo ≤ hi) (h2 : hi ≤ c) :
    (Instr.sliceAt t (.slice a n c) (some (.int .i64 (lo : Int))) (some (.int .i64 (hi : Int))) none).run P w = .ok (.slice (if c = lo then a else a.map (·.add (lo * 1))) (hi - lo) (c - lo)) w := by
  have he : P.elem t = e := by simp [Program.elem, ht]
  have ht' : P.underlying t = some (.slice (P.elem t)) := by rw [he]; exact ht
  rw [run_sliceAt_slice w t _ _ _ _ ht', run_slice_lh w t a n c ht' .i64 .i64 lo hi (by omega) (by omega) (by omega), he, hs w]
  simp [Result.andThen, sliced]
theorem RowAt.mid {α : Type} {w : World} {A : Option Addr} {enc : α → List Value} {l : List α} (h : RowAt w A 1 enc l) {c lo hi : Nat} (h1 : lo ≤ hi) (h2 : hi ≤ l.length) (h3 : l.length ≤ c) :
    RowAt w (if c = lo then A else A.map (·.add (lo * 1))) 1 enc ((l.drop lo).take (hi - lo)) ∧ ((l.drop lo).take (hi - lo)).length = hi - lo := by
  refine ⟨?_, by simp; omega⟩
  split
  · rename_i hc
    have : (l.drop lo).take (hi - lo) = [] := by rw [show hi - lo = 0 by omega]; simp
    rw [this]
    intro i x hx; simp at hx
  · exact (h.drop lo).take _
/-- The front of names, and what stands behind. -/
theorem TShp.drop (s : TShp) {i : Nat} (hi : i ≤ s.nm.length) : s.l.drop (7 + ((s.nm.take i).flatMap encN).length) = (s.nm.drop i).flatMap encN ++ (s.f ++ (s.tg ++ prs s.nx)) := by
  have e : s.nm.flatMap encN = (s.nm.take i).flatMap encN ++ (s.nm.drop i).flatMap encN := by rw [← List.flatMap_append, List.take_append_drop]
  unfold TShp.l
  rw [e, ← List.drop_drop]
  have : List.drop 7 ([70, 84, 1, s.m, s.x, s.y, s.nm.length] ++ ((s.nm.take i).flatMap encN ++ (s.nm.drop i).flatMap encN ++ (s.f ++ (s.tg ++ prs s.nx)))) = (s.nm.take i).flatMap encN ++ ((s.nm.drop i).flatMap encN ++ (s.f ++ (s.tg ++ prs s.nx))) := by simp
  rw [this]
  exact List.drop_left
theorem Tb.vl (t : Tb) (p : TbS) : (t.v p).toList = t.l p := rfl
theorem Tb.wr {t : Tb} {p : TbS} (hf : t.c.f.length = 256) {o : Nat} {v : Value} {t' : Tb} {p' : TbS} (ho : o < 261) (h : (t.l p).set o v = t'.l p') : List.toArray (wrL (Array.toList (t.v p)) o [v]) = t'.v p' := by
  rw [Tb.vl, wrL_one _ _ _ (by rw [Tb.len hf]; exact ho), h]; rfl
end Fk
set_option linter.unusedVariables false
set_option linter.unusedSimpArgs false
set_option maxRecDepth 100000
set_option maxHeartbeats 2000000
namespace Fk
open Go Go.Proofs Go.RowKit
abbrev SH := Option Addr × Nat × Nat
def sE (p : SH) : List Value := [.slice p.1 p.2.1 p.2.2]
theorem encsE : Enc 1 sE := ⟨fun _ => rfl, by intro x v hv; simp [sE] at hv; rw [hv]; rfl⟩
theorem rowT172 : RowT Try.prog 172 51 1 24 := RowT.of (by kernel_rfl) (by kernel_rfl) (by kernel_rfl) (by omega)
def RRo (w : World) (bx : Nat) (a : Option Addr) (c : Nat) (rs : List (List Nat)) : Prop :=
  ∃ ps : List SH, OwnL w bx 51 1 sE a c ps ∧ ps.length = rs.length ∧ ∀ (i : Nat) (p : SH) (r : List Nat), ps[i]? = some p → rs[i]? = some r → p.2.1 = r.length ∧ (∃ C, OwnL w bx 5 1 b1 p.1 C r) ∧ Apt a p.1
theorem RRo.nil (w : World) (bx : Nat) : RRo w bx none 0 [] := ⟨[], OwnL.nil _ _ _ _ _, rfl, fun i p r h => by simp at h⟩
theorem RRo.md {w w' : World} {bx : Nat} {a : Option Addr} {c : Nat} {rs : List (List Nat)} (h : RRo w bx a c rs) (hm : Md [] w w') : RRo w' bx a c rs := by
  obtain ⟨ps, h1, h2, h3⟩ := h
  exact ⟨ps, h1.md hm, h2, fun i p r hp hr => ⟨(h3 i p r hp hr).1, (h3 i p r hp hr).2.1.imp fun _ o => o.md hm, (h3 i p r hp hr).2.2⟩⟩
theorem RRo.mdD {w w' : World} {D : List Nat} {bx : Nat} {a : Option Addr} {c : Nat} {rs : List (List Nat)} (h : RRo w bx a c rs) (hm : Md D w w') (hD : ∀ d ∈ D, d < bx) : RRo w' bx a c rs := by
  obtain ⟨ps, h1, h2, h3⟩ := h
  have k : ∀ {α : Type} {e : TypeId} {size : Nat} {enc : α → List Value} {a : Option Addr} {c : Nat} {l : List α}, OwnL w bx e size enc a c l → OwnL w' bx e size enc a c l := fun o => o.mdD hm fun A hA hd => by
    have := (o.lt hA).1; have := hD _ hd; omega
  exact ⟨ps, k h1, h2, fun i p r hp hr => ⟨(h3 i p r hp hr).1, (h3 i p r hp hr).2.1.imp fun _ o => k o, (h3 i p r hp hr).2.2⟩⟩
theorem RRo.push {w : World} {bx : Nat} {a : Option Addr} {c : Nat} {rs : List (List Nat)} {L : List Nat} (h : RRo w bx a c rs) {r : List Nat} {A : Option Addr} {C C2 m : Nat} (o : OwnL w bx 5 1 b1 A C r) (hm : m = r.length) (ha : Apt a A) (hb : bx ≤ w.heap.size) (hL : ∀ b ∈ L, b < w.heap.size) (hLa : ∀ b ∈ L, b < bx)
    (hn : rs.length < 2 ^ 40) {K : Option Addr → Nat → Nat → World → Prop} (k : ∀ a' c' w', RRo w' bx a' c' (rs ++ [r]) → Md (a.map (·.block)).toList w w' → K a' (rs ++ [r]).length c' w') :
    Nw (.cells #[.slice A m C2] 51) w fun b w' => RunW Try.prog L (Builtin.append_ #[172, 172] 172 #[.slice a rs.length c, .slice (some { block := b, off := 0 }) 1 1]) (fun v w' => opL v fun a n c => K a n c w') w' := by
  subst hm
  obtain ⟨ps, h1, h2, h3⟩ := h
  rw [← h2] at hn ⊢
  refine app_one rowT172 encsE (A, r.length, C2) rfl h1 hb hL (fun b hbL A hA e => ?_) (by simp [maxLen]; omega) (by omega) fun a' c' w' o' m' hA => opL_in ?_
  · have := (h1.lt hA).1; have := hLa b hbL; omega
  have e : (ps ++ [(A, r.length, C2)]).length = (rs ++ [r]).length := by simp [h2]
  rw [e]
  have kp : ∀ {B : Option Addr} {C : Nat} {x : List Nat}, OwnL w bx 5 1 b1 B C x → Apt a B → OwnL w' bx 5 1 b1 B C x ∧ Apt a' B := fun {B C x} ob ap => by
    refine ⟨ob.mdD m' fun D hD hd => ?_, fun D E hD hE e => ?_⟩
    · obtain ⟨G, hG, e⟩ := mem_blk hd
      exact ap G D hG hD e
    · rcases hA D hD with h | h
      · exact ap D E h hE e
      · have := (ob.lt hE).2; omega
  refine k a' c' w' ⟨ps ++ [(A, r.length, C2)], o', e, fun i p x hp hx => ?_⟩ m'
  by_cases hi : i < ps.length
  · rw [List.getElem?_append_left hi] at hp
    rw [List.getElem?_append_left (by omega)] at hx
    obtain ⟨q1, q2, q3⟩ := h3 i p x hp hx
    obtain ⟨C', q2⟩ := q2
    obtain ⟨q4, q5⟩ := kp q2 q3
    exact ⟨q1, ⟨C', q4⟩, q5⟩
  · have hi2 : i = ps.length := by have := (List.getElem?_eq_some_iff.1 hp).1; simp at this; omega
    subst hi2
    rw [List.getElem?_append_right (Nat.le_refl _)] at hp
    rw [List.getElem?_append_right (by omega)] at hx
    simp at hp
    rw [h2] at hx
    simp at hx
    subst hp; subst hx
    obtain ⟨q4, q5⟩ := kp o ha
    exact ⟨rfl, ⟨C, q4⟩, q5⟩
theorem f227_ok (l : List Nat) (hl : l.length < 2 ^ 40) (A : Option Addr) (C : Nat) (hA : A.isSome = true) (w : World) (hr : RowAt w A 1 b1 l) : Ct Try.prog 227 #[.slice A l.length C] w fun v w' => (∃ a c, v = .slice a l.length c ∧ OwnL w' w.heap.size 5 1 b1 a c l) ∧ Md [] w w' := by
  apply f227_in
  have hn : A.isNone = false := by cases A <;> simp_all
  refine RunW_in0 (eqNilS (e := 5) A _ _ w _ _ 51 (by kernel_rfl) (by kernel_rfl)) <| opB_in ?_
  rw [hn]
  refine If_f <| Nw_i ?_
  have oE := OwnL.lit (P := Try.prog) (base := w.heap.size) encb1 w 5 [] #[] (Nat.le_refl _) (by simp [maxLen]) rfl
  have ma : Md [] w (w.alloc (.cells #[] 5)) := Md.alloc w _
  refine japp_row rowT51 encb1 rfl oE (hr.md ma) hA ma.size (by simp) (by simp) (by simp [maxLen]; omega) (by simp; omega) fun a' c' w' o' m' hA' => opL_in ⟨⟨a', c', by simp, by simpa using o'⟩, ma.old m' fun d hd => by
    obtain ⟨B, hB, rfl⟩ := mem_blk hd; exact (oE.lt hB).1⟩
theorem parseL_step (l : List Nat) (h : 0 < l.length) : parseL l = if l[0] = 0 then some ([], 0) else if l[0] ≠ 1 ∨ l.length < 4 then none else
    if num ((l.drop 1).take 3) < 1 ∨ num ((l.drop 1).take 3) > 1048576 ∨ l.length < num ((l.drop 1).take 3) + 8 then none else
    if num ((l.drop (4 + num ((l.drop 1).take 3))).take 4) ≠ sumL ((l.drop 1).take (3 + num ((l.drop 1).take 3))) then none else
    (parseL (l.drop (num ((l.drop 1).take 3) + 8))).map fun p => ((l.drop 4).take (num ((l.drop 1).take 3)) :: p.1, num ((l.drop 1).take 3) + 8 + p.2) := by
  cases l with
  | nil => simp at h
  | cons m t =>
    have ed : ∀ k, (m :: t).drop (1 + k) = t.drop k := fun k => by rw [Nat.add_comm]; rfl
    have e1 : (m :: t).drop 1 = t := rfl
    have e2 : ∀ n, (m :: t).drop (4 + n) = t.drop (3 + n) := fun n => by rw [← ed]; congr 1; omega
    have e3 : (m :: t).drop 4 = t.drop 3 := rfl
    rw [e1, e2, e3]
    generalize hn : num (t.take 3) = n
    conv => lhs; unfold parseL jprs
    simp only [hn, List.getElem_cons_zero]
    split
    · rfl
    · split
      · rfl
      · split
        · rfl
        · rename_i h3 h4
          split
          · rfl
          · unfold parseL
            rw [← jprs_more (((m :: t).drop (n + 8)).length + 1) _ (by omega) _ (by simp <;> omega)]
theorem parseL_none_end : parseL [] = some ([], 0) := rfl
theorem f206_ok (b : List Nat) (hb : ∀ x ∈ b, x < 256) (hl : b.length < 2 ^ 30) (A : Option Addr) (C : Nat) (hC : b.length ≤ C) (w : World) (hr : RowAt w A 1 b1 b) : Ct Try.prog 206 #[.slice A b.length C] w fun v w' =>
    ((parseL b = none ∧ v = .tuple #[.slice none 0 0, .int .i64 0, .bool false]) ∨ ∃ rs p a c, parseL b = some (rs, p) ∧ v = .tuple #[.slice a rs.length c, .int .i64 (p : Nat), .bool true] ∧ RRo w' w.heap.size a c rs) ∧ Md [] w w' := by
  apply f206_in
  refine LoopP_in (fun mm us vs w' => ∃ (s1 s2 s3 : Value) (a : Option Addr) (c : Nat) (rs : List (List Nat)) (p : Nat), us = [.slice none 0 0, .int .i64 0, .bool false, .slice a rs.length c, .int .i64 p] ∧ mm = b.length - p ∧ p ≤ b.length ∧ rs.length ≤ p ∧ Md [] w w' ∧ RRo w' w.heap.size a c rs ∧
    parseL b = (parseL (b.drop p)).map fun q => (rs ++ q.1, p + q.2)) b.length
    ⟨.bool false, .bool false, .bool false, none, 0, [], 0, rfl, rfl, by omega, by simp, Md.refl _ _, RRo.nil _ _, by cases h : parseL b <;> simp [h]⟩ ?_
  rintro mm us vs w4 ⟨_, _, _, a, c, rs, p, rfl, hmm, hp, hrp, m4, R4, he⟩
  refine opL_in <| opI_in <| opB_in <| opL_in <| opI_in <| Bd_e rfl <| Bd_in fun b15 hb15 => ?_
  by_cases hpl : p < b.length
  · have e15 : b15 = true := by rw [hb15]; simp; omega
    subst e15
    have r4 := hr.md m4
    have hx := hb _ (List.getElem_mem hpl)
    have hdl : 0 < (b.drop p).length := by simp; omega
    have hd0 : (b.drop p)[0] = b[p] := by simp
    have hstep := parseL_step (b.drop p) hdl
    rw [hd0, List.drop_drop, List.drop_drop, List.length_drop] at hstep
    refine ⟨fun _ => r4.ix hpl, Gd_t <| r4.ld1 hpl rfl <| opI_in <| Bd_in fun b22 hb22 => Bd_in fun b23 hb23 => If_in (fun hbb => ?_) fun hbb => ?_⟩
    · have hne : b[p] ≠ 0 := by rw [hb23, hb22] at hbb; simpa using hbb
      rw [if_neg hne] at hstep
      refine ⟨r4.ix hpl, r4.ld1 hpl rfl <| opI_in <| Bd_in fun b26 hb26 => Bd_e rfl <| Bd_e (y := ((b.length - p : Nat) : Int)) (by rw [IntKind.wrap_i64]; omega) <| Bd_in fun b29 hb29 => Bd_in fun b30 hb30 => ?_⟩
      have e30 : b30 = decide (b[p] ≠ 1 ∨ b.length - p < 4) := by
        rw [hb30, hb26, hb29, Bool.eq_iff_iff]
        by_cases q : b[p] = 1
        · simp [q]; omega
        · have : ¬ ((b[p] : Nat) : Int) = 1 := by omega
          simp [q, this]
      by_cases q1 : b[p] ≠ 1 ∨ b.length - p < 4
      · rw [show b30 = true by rw [e30]; exact decide_eq_true q1]
        rw [if_pos q1] at hstep
        exact If_t ⟨.inl ⟨by rw [he, hstep]; rfl, rfl⟩, m4⟩
      rw [show b30 = false by rw [e30]; exact decide_eq_false q1]
      rw [if_neg q1] at hstep
      have h4 : p + 4 ≤ b.length := by omega
      have hw3 : ((b.drop (p + 1)).take 3).length = 3 := by simp; omega
      have hw3b : ∀ x ∈ (b.drop (p + 1)).take 3, x < 256 := fun x hx => hb x (List.mem_of_mem_drop (List.mem_of_mem_take hx))
      have hnl := num_lt _ hw3b
      rw [hw3] at hnl
      obtain ⟨r34, l34⟩ := r4.mid (c := C) (lo := p + 1) (hi := p + 4) (by omega) (by omega) hC
      have e3 : p + 4 - (p + 1) = 3 := by omega
      rw [e3] at r34 l34
      refine If_f <| Bd_e (y := ((p + 1 : Nat) : Int)) (by rw [IntKind.wrap_i64]; omega) <| Bd_e (y := ((p + 4 : Nat) : Int)) (by rw [IntKind.wrap_i64]; omega) <| RunW_in0 (slice_mid (e := 5) (by kernel_rfl) size5b w4 _ _ _ (p + 1) (p + 4) (by omega) (by omega)) <| opL_in ?_
      rw [e3]
      have c226 := f226_ok ((b.drop (p + 1)).take 3) hw3b (by omega) (if C = p + 1 then A else A.map (·.add ((p + 1) * 1))) (C - (p + 1)) w4 r34
      rw [l34] at c226
      refine c226.call (by simp) ?_
      rintro v w39 rfl m39
      generalize hN : num ((b.drop (p + 1)).take 3) = N at *
      refine opI_in <| Bd_in fun b41 hb41 => Bd_in fun b42 hb42 => Bd_in fun b43 hb43 => Bd_e rfl <| Bd_e (y := ((b.length - p : Nat) : Int)) (by rw [IntKind.wrap_i64]; omega) <| Bd_e (y := ((b.length - p : Nat) : Int) - 4) (by rw [IntKind.wrap_i64]; omega) <| Bd_e (y := ((b.length - p : Nat) : Int) - 8) (by rw [IntKind.wrap_i64]; omega) <| Bd_in fun b48 hb48 => Bd_in fun b49 hb49 => ?_
      have e49 : b49 = decide (N < 1 ∨ N > 1048576 ∨ b.length - p < N + 8) := by
        have e41 : b41 = decide (N < 1) := by rw [hb41]; apply decide_eq_decide.2; omega
        have e42 : b42 = decide (N > 1048576) := by rw [hb42]; apply decide_eq_decide.2; omega
        have e48 : b48 = decide (b.length - p < N + 8) := by rw [hb48]; apply decide_eq_decide.2; omega
        rw [hb49, hb43, e41, e42, e48, Bool.eq_iff_iff]
        by_cases q2 : N < 1
        · simp [q2]
        · by_cases q3 : N > 1048576
          · simp [q2, q3]
          · simp [q2, q3]
      by_cases q2 : N < 1 ∨ N > 1048576 ∨ b.length - p < N + 8
      · rw [show b49 = true by rw [e49]; exact decide_eq_true q2]
        rw [if_pos q2] at hstep
        exact If_t ⟨.inl ⟨by rw [he, hstep]; rfl, rfl⟩, m4.trans m39⟩
      rw [show b49 = false by rw [e49]; exact decide_eq_false q2]
      rw [if_neg q2] at hstep
      have h8 : p + N + 8 ≤ b.length := by omega
      refine If_f <| Bd_e (y := ((p + 4 : Nat) : Int)) (by rw [IntKind.wrap_i64]; omega) <| Bd_e (y := ((p + 4 + N : Nat) : Int)) (by rw [IntKind.wrap_i64]; omega) ?_
      have r39 := (hr.md m4).md m39
      refine Jn_in (fun us vs w' => us = [.bool (num ((b.drop (p + (4 + N))).take 4) != sumL ((b.drop (p + 1)).take (3 + N)))] ∧ Md [] w39 w') ?_ ?_
      · rintro us vs w54 ⟨rfl, m54⟩
        have r54 := r39.md m54
        refine opB_in <| If_in (fun hbb => ?_) fun hbb => ?_
        · have hne : num ((b.drop (p + (4 + N))).take 4) ≠ sumL ((b.drop (p + 1)).take (3 + N)) := by simpa using hbb
          rw [if_pos hne] at hstep
          exact ⟨.inl ⟨by rw [he, hstep]; rfl, rfl⟩, (m4.trans m39).trans m54⟩
        · have hne : ¬ num ((b.drop (p + (4 + N))).take 4) ≠ sumL ((b.drop (p + 1)).take (3 + N)) := by simpa using hbb
          rw [if_neg hne] at hstep
          obtain ⟨rm, lm⟩ := r54.mid (c := C) (lo := p + 4) (hi := p + 4 + N) (by omega) (by omega) hC
          have e4 : p + 4 + N - (p + 4) = N := by omega
          rw [e4] at rm lm
          refine Bd_e (y := ((p + 4 : Nat) : Int)) (by rw [IntKind.wrap_i64]; omega) <| RunW_in0 (slice_mid (e := 5) (by kernel_rfl) size5b w54 _ _ _ (p + 4) (p + 4 + N) (by omega) (by omega)) <| opL_in ?_
          rw [e4]
          have hsome : (if C = p + 4 then A else A.map (·.add ((p + 4) * 1))).isSome = true := by
            obtain ⟨B, rfl, _⟩ := hr p b[p] (List.getElem?_eq_getElem hpl)
            split <;> rfl
          have c227 := f227_ok ((b.drop (p + 4)).take N) (by rw [lm]; omega) (if C = p + 4 then A else A.map (·.add ((p + 4) * 1))) (C - (p + 4)) hsome w54 rm
          rw [lm] at c227
          refine c227.call (by simp) ?_
          rintro v w63 ⟨a64, c66, rfl, o64⟩ m63
          have mm63 := ((m4.trans m39).trans m54).trans m63
          have R63 := ((R4.md m39).md m54).md m63
          have hsz : w.heap.size ≤ w54.heap.size := ((m4.trans m39).trans m54).size
          have hap : Apt a a64 := fun D E hD hE e => by
            obtain ⟨ps, o, _⟩ := R4
            have h1 := (o.lt hD).2
            have h2 := (o64.lt hE).1
            have h3 := (m39.trans m54).size
            omega
          have h1N : 1 ≤ N := by omega
          refine opL_in <| R63.push (o64.down hsz) lm.symm hap mm63.size (by simp) (by simp) (by omega) fun a71 c73 w70 R70 m70 => Bd_e (y := ((p + N + 8 : Nat) : Int)) (by rw [IntKind.wrap_i64]; omega) ⟨b.length - (p + N + 8), by omega, .bool false, .bool false, .bool false, a71, c73, _, p + N + 8, rfl, rfl, by omega, by simp; omega, ?_, R70, ?_⟩
          · obtain ⟨ps, o, _⟩ := R63
            exact mm63.old m70 fun d hd => by obtain ⟨B, hB, rfl⟩ := mem_blk hd; exact (o.lt hB).1
          · rw [he, hstep, List.drop_drop, List.drop_drop, show p + (N + 8) = p + N + 8 by omega]
            cases parseL (b.drop (p + N + 8)) with
            | none => rfl
            | some q => simp; omega
      · refine ⟨fun _ => True, trivial, Bd_e (y := ((p + 8 + N : Nat) : Int)) (by rw [IntKind.wrap_i64]; omega) ?_⟩
        refine ⟨_, fun w' _ => ⟨slice_mid (e := 5) (by kernel_rfl) size5b w' _ _ _ (p + 4 + N) (p + 8 + N) (by omega) (by omega)⟩, opL_in <| Bd_e (y := ((p + 1 : Nat) : Int)) (by rw [IntKind.wrap_i64]; omega) ?_⟩
        refine ⟨_, fun w' _ => ⟨slice_mid (e := 5) (by kernel_rfl) size5b w' _ _ _ (p + 1) (p + 4 + N) (by omega) (by omega)⟩, opL_in ?_⟩
        have r39d := r39.md (Md_drew w39)
        obtain ⟨ra, la⟩ := r39d.mid (c := C) (lo := p + 4 + N) (hi := p + 8 + N) (by omega) (by omega) hC
        obtain ⟨rb, lb⟩ := r39d.mid (c := C) (lo := p + 1) (hi := p + 4 + N) (by omega) (by omega) hC
        have e5 : p + 8 + N - (p + 4 + N) = 4 := by omega
        have e6 : p + 4 + N - (p + 1) = 3 + N := by omega
        rw [e5] at ra la ⊢
        rw [e6] at rb lb ⊢
        have hb4 : ∀ x ∈ (b.drop (p + 4 + N)).take 4, x < 256 := fun x hx => hb x (List.mem_of_mem_drop (List.mem_of_mem_take hx))
        have hb3 : ∀ x ∈ (b.drop (p + 1)).take (3 + N), x < 256 := fun x hx => hb x (List.mem_of_mem_drop (List.mem_of_mem_take hx))
        have hn4 := num_lt _ hb4
        rw [la] at hn4
        have ca := f226_ok ((b.drop (p + 4 + N)).take 4) hb4 (by omega) (if C = p + 4 + N then A else A.map (·.add ((p + 4 + N) * 1))) (C - (p + 4 + N)) w39.drew ra
        rw [la] at ca
        refine ca.call (by simp) ?_
        rintro v w92 rfl m92
        have cb := f138_ok ((b.drop (p + 1)).take (3 + N)) hb3 (by rw [lb]; omega) (if C = p + 1 then A else A.map (·.add ((p + 1) * 1))) (C - (p + 1)) w92 (rb.md m92)
        rw [lb] at cb
        refine opI_in ⟨trivial, Bd_e (y := ((num ((b.drop (p + 4 + N)).take 4) : Nat) : Int)) (by rw [IntKind.wrap_u32]; omega) <| cb.call (by simp) ?_⟩
        rintro v w96 rfl m96
        refine opI_in ⟨trivial, Bd_e rfl ⟨?_, ((Md_drew w39).trans m92).trans m96⟩⟩
        rw [show p + (4 + N) = p + 4 + N by omega]
        congr 2
        rw [Bool.eq_iff_iff]
        simp
        omega
    · have h0 : b[p] = 0 := by rw [hb23, hb22] at hbb; simp at hbb; omega
      rw [if_pos h0] at hstep
      refine ⟨.inr ⟨rs, p, a, c, by rw [he, hstep]; simp, rfl, R4⟩, m4⟩
  · have e15 : b15 = false := by rw [hb15]; simp; omega
    subst e15
    have hpe : p = b.length := by omega
    refine ⟨(fun h => by cases h), Gd_f <| Bd_in fun b22 hb22 => Bd_in fun b23 hb23 => ?_⟩
    have e23 : b23 = false := by rw [hb23]; rfl
    subst e23
    refine If_f ⟨.inr ⟨rs, p, a, c, ?_, rfl, R4⟩, m4⟩
    rw [he, List.drop_of_length_le (by omega), parseL_none_end]
    simp
end Fk
set_option linter.unusedVariables false
set_option linter.unusedSimpArgs false
set_option maxRecDepth 100000
set_option maxHeartbeats 2000000
namespace Fk
open Go Go.Proofs Go.RowKit
def mayF (room : Int) (full : Bool) : List Nat → Int
  | [] => if full = true then 4 else 0
  | l :: ls => if l < 1 ∨ l > 1048576 then 3 else mayF (room - min ((l : Int) + 8) (room + 1)) (full || decide (room - min ((l : Int) + 8) (room + 1) < 0)) ls
theorem mayF_cons (r : Int) (f : Bool) (l : Nat) (ls : List Nat) : mayF r f (l :: ls) = if l < 1 ∨ l > 1048576 then 3 else mayF (r - min ((l : Int) + 8) (r + 1)) (f || decide (r - min ((l : Int) + 8) (r + 1) < 0)) ls := rfl
def mayD (g : Lg) (room : Int) (ls : List Nat) : Int := if g.ov = true then 200 else mayF room false ls
theorem max_if (x : Int) : (if (0 : Int) > x then 0 else x) = max x 0 := by omega
theorem headD0 : ∀ (l : List Nat) (h : 0 < l.length), l[0] = l.headD 0
  | [], h => by simp at h
  | x :: t, h => rfl
theorem min_if (x y : Int) : (if y < x then y else x) = min x y := by omega
section
variable {w0 w : World} {n : Nat} {d : Dk} {F : List Nat} {ln : Nat} {g : Lg}
theorem f196_ok (S : JS w0 w n d F ln g) : Ct Try.prog 196 #[.pointer (some ⟨ln, 0, none⟩)] w fun v w' => v = .bool false ∧ Md [] w w' := by
  apply f196_in
  refine RunW_in0 (eqNilP (e := 260) _ w _ _ 158 (by kernel_rfl) (by kernel_rfl)).1 <| opB_in ⟨fun _ => rfl, Bd_e rfl <| Gd_t <| S.blk.ld (j := 0) rfl <| opP_in <| Gd_t <| RunW_in0 (eqNilP (e := 155) _ w _ _ 119 (by kernel_rfl) (by kernel_rfl)).1 <| opB_in <| Bd_e rfl ⟨rfl, Md.refl _ _⟩⟩
theorem in196 {L : List Nat} (S : JS w0 w n d F ln g) (hL : ∀ b ∈ L, b < w.heap.size) {K : Bool → World → Prop} (k : ∀ w', JS w0 w' n d F ln g → Md [] w w' → K false w') :
    CallW Try.prog L 196 #[.pointer (some ⟨ln, 0, none⟩)] (fun v w' => opB v fun x => K x w') w := by
  refine (f196_ok S).call hL ?_
  rintro v w' rfl h'
  exact opB_in (k w' (S.md0 h') h')
theorem f198_ok (S : JS w0 w n d F ln g) (ps : List SH) (hl : ps.length < 2 ^ 40) (a : Option Addr) (c : Nat) (hr : RowAt w a 1 sE ps) (room : Int) (h1 : -1 ≤ room) (h2 : room < 2 ^ 40) :
    Ct Try.prog 198 #[.pointer (some ⟨ln, 0, none⟩), .slice a ps.length c, .int .i64 room] w fun v w' => v = .int .i64 (mayD g room (ps.map (·.2.1))) ∧ Md [] w w' := by
  apply f198_in
  refine in196 S (by simp) fun w2 S2 m2 => If_f <| NN_in <| S2.blk.ld (j := 3) rfl <| opB_in <| If_in (fun hb => ?_) fun hb => ?_
  · unfold mayD; rw [if_pos hb]; exact ⟨rfl, m2⟩
  have em : ∀ r ls, mayD g r ls = mayF r false ls := fun r ls => by unfold mayD; rw [if_neg (by simp [hb])]
  rw [em]
  refine Bd_e rfl ?_
  refine LoopP_in (fun mm us vs w' => ∃ (i : Nat) (r : Int) (f : Bool) (z : Int), us = [.int .i64 z, .int .i64 r, .bool f, .int .i64 i] ∧ mm = ps.length - i ∧ i ≤ ps.length ∧ -1 ≤ r ∧ r < 2 ^ 40 ∧ w' = w2 ∧ mayF r f ((ps.drop i).map (·.2.1)) = mayF room false (ps.map (·.2.1))) ps.length
    ⟨0, room, false, 0, rfl, rfl, by omega, h1, h2, rfl, rfl⟩ ?_
  rintro mm us vs w11 ⟨i, r, f, z, rfl, hmm, hi, hr1, hr2, rfl, he⟩
  refine opI_in <| opI_in <| opB_in <| opI_in <| Bd_in fun b16 hb16 => If_in (fun hbb => ?_) fun hbb => ?_
  · have hil : i < ps.length := by rw [hb16] at hbb; have : (i : Int) < (ps.length : Int) := of_decide_eq_true hbb
                                   omega
    rw [List.drop_eq_getElem_cons hil, List.map_cons] at he
    have r11 := hr.md m2
    refine ⟨r11.ix hil, r11.ld1 hil rfl <| opL_in <| Bd_e rfl <| Bd_in fun b22 hb22 => Bd_e rfl <| Bd_in fun b24 hb24 => Bd_in fun b25 hb25 => ?_⟩
    generalize hm : (ps[i]).2.1 = m at *
    have e25 : b25 = decide (m < 1 ∨ m > 1048576) := by
      have e1 : b22 = decide (m < 1) := by rw [hb22]; apply decide_eq_decide.2; omega
      have e2 : b24 = decide (m > 1048576) := by rw [hb24]; apply decide_eq_decide.2; omega
      rw [hb25, e1, e2, Bool.eq_iff_iff]
      by_cases q : m < 1 <;> simp [q]
    rw [mayF_cons] at he
    by_cases q : m < 1 ∨ m > 1048576
    · rw [show b25 = true by rw [e25]; exact decide_eq_true q]
      rw [if_pos q] at he
      rw [← he]
      exact If_t ⟨rfl, m2⟩
    · rw [show b25 = false by rw [e25]; exact decide_eq_false q]
      rw [if_neg q] at he
      refine If_f <| Bd_e rfl <| Bd_e (y := ((m : Int) + 4)) (by rw [IntKind.wrap_i64]; omega) <| Bd_e (y := ((m : Int) + 8)) (by rw [IntKind.wrap_i64]; omega) <| Bd_e (y := r + 1) (by rw [IntKind.wrap_i64]; omega) <| Bd_e (min_if _ _) <| Bd_e (y := r - min ((m : Int) + 8) (r + 1)) (by rw [IntKind.wrap_i64]; omega) <| Bd_in fun b32 hb32 => Bd_in fun b33 hb33 => Bd_e (inc_i64 (by omega)) ⟨ps.length - (i + 1), by omega, i + 1, _, b33, z, rfl, rfl, by omega, by omega, by omega, rfl, ?_⟩
      rw [← he, hb33, hb32]
      cases f <;> rfl
  · have hil : i = ps.length := by
      have : ¬ (i : Int) < (ps.length : Int) := by rw [hb16] at hbb; exact of_decide_eq_false hbb
      omega
    subst hil
    rw [List.drop_of_length_le (Nat.le_refl _)] at he
    simp only [List.map_nil, mayF] at he
    rw [← he]
    refine If_in (fun hf => ?_) fun hf => ?_
    · rw [if_pos hf]; exact ⟨rfl, m2⟩
    · rw [if_neg (by simp [hf])]; exact ⟨rfl, m2⟩
def roomD (d : Dk) (g : Lg) : Int := if g.ov = true then 0 else min (max ((jsz d : Int) - g.pos - 8) 0) 1048576
theorem f128_ok (S : JS w0 w n d F ln g) (h1 : 1 ≤ d.bl.length) (hp : g.pos ≤ jsz d) : Ct Try.prog 128 #[.pointer (some ⟨ln, 0, none⟩)] w fun v w' => v = .int .i64 (roomD d g) ∧ Md [] w w' := by
  have hh := half_le S.len
  have hj : jsz d = half d * 64 := rfl
  apply f128_in
  refine in196 S (by simp) fun w2 S2 m2 => ⟨fun _ => rfl, Bd_e rfl <| Gd_t <| S2.blk.ld (j := 3) rfl <| opB_in <| Bd_e (y := g.ov) rfl <| If_in (fun hb => ?_) fun hb => ?_⟩
  · unfold roomD; rw [if_pos hb]; exact ⟨rfl, m2⟩
  · have S2d := S2.md0 (Md_drew w2)
    refine ⟨fun w' => Blk w' ln 260 (g.c n), S2d.blk, NN_in ?_⟩
    show ∃ v, _ ∧ _
    refine ⟨.int .i64 g.pos, fun w' hw => hw.ld (j := 2) rfl rfl, opI_in <| in197 S2d h1 (by simp) fun w20 S20 m20 => ⟨S20.blk, Bd_e (y := (jsz d : Int) - g.pos) (by rw [IntKind.wrap_i64]; omega) <| Bd_e (y := (jsz d : Int) - g.pos - 4) (by rw [IntKind.wrap_i64]; omega) <| Bd_e (y := (jsz d : Int) - g.pos - 8) (by rw [IntKind.wrap_i64]; omega) <| Bd_e (max_if _) <| Bd_e (y := roomD d g) ?_ ⟨rfl, (m2.trans (Md_drew w2)).trans m20⟩⟩⟩
    unfold roomD
    rw [min_if, if_neg (by simp [hb])]
theorem f129_ok (S : JS w0 w n d F ln g) : Ct Try.prog 129 #[.pointer (some ⟨ln, 0, none⟩)] w fun v w' => v = .bool g.ov ∧ Md [] w w' := by
  apply f129_in
  exact in196 S (by simp) fun w2 S2 m2 => Bd_e rfl ⟨fun _ => rfl, Bd_e rfl <| Gd_t <| S2.blk.ld (j := 3) rfl <| opB_in <| Bd_e rfl ⟨rfl, m2⟩⟩
theorem in128 {L : List Nat} (S : JS w0 w n d F ln g) (h1 : 1 ≤ d.bl.length) (hp : g.pos ≤ jsz d) (hL : ∀ b ∈ L, b < w.heap.size) {K : Int → World → Prop} (k : ∀ w', JS w0 w' n d F ln g → Md [] w w' → K (roomD d g) w') :
    CallW Try.prog L 128 #[.pointer (some ⟨ln, 0, none⟩)] (fun v w' => opI .i64 v fun x => K x w') w := by
  refine (f128_ok S h1 hp).call hL ?_
  rintro v w' rfl h'
  exact opI_in (k w' (S.md0 h') h')
theorem in129 {L : List Nat} (S : JS w0 w n d F ln g) (hL : ∀ b ∈ L, b < w.heap.size) {K : Bool → World → Prop} (k : ∀ w', JS w0 w' n d F ln g → Md [] w w' → K g.ov w') :
    CallW Try.prog L 129 #[.pointer (some ⟨ln, 0, none⟩)] (fun v w' => opB v fun x => K x w') w := by
  refine (f129_ok S).call hL ?_
  rintro v w' rfl h'
  exact opB_in (k w' (S.md0 h') h')
def openA (d : Dk) : Nat := (getB d.bl 0).1.headD 0 % 2
theorem openA_le (d : Dk) : openA d ≤ 1 := by unfold openA; omega
theorem and_one (x : Nat) (h : x < 256) : IntKind.wrap .u8 ((BitVec.toNat (BitVec.ofInt 8 (x : Int) &&& BitVec.ofInt 8 (1 : Int)) : Nat) : Int) = ((x % 2 : Nat) : Int) := by
  have e : BitVec.toNat (BitVec.ofInt 8 (x : Int) &&& BitVec.ofInt 8 (1 : Int)) = x % 2 := by
    rw [BitVec.toNat_and, BitVec.ofInt_natCast, show BitVec.ofInt 8 (1 : Int) = 1#8 from rfl, BitVec.toNat_ofNat, Nat.mod_eq_of_lt (by omega), show BitVec.toNat (1#8) = 1 from rfl, Nat.and_one_is_mod]
  rw [e, IntKind.wrap_u8]; omega
theorem f136_ok (S : DS w0 w n d F) (h1 : 1 ≤ d.bl.length) : Ct Try.prog 136 #[.pointer (some ⟨n, 0, none⟩)] w fun v w' =>
    ((d.bl.length < 3 ∧ v = .tuple #[.pointer none, .slice none 0 0, .int .i64 2]) ∨ (3 ≤ d.bl.length ∧ parseL (areaL d (openA d)) = none ∧ v = .tuple #[.pointer none, .slice none 0 0, .int .i64 210]) ∨
      (3 ≤ d.bl.length ∧ ∃ rs p ln a c bx, parseL (areaL d (openA d)) = some (rs, p) ∧ v = .tuple #[.pointer (some ⟨ln, 0, none⟩), .slice a rs.length c, .int .i64 0] ∧ Blk w' ln 260 (Lg.c n ⟨openA d, p, false⟩) ∧ w.heap.size ≤ ln ∧ ln < bx ∧ RRo w' bx a c rs)) ∧ Md [] w w' := by
  apply f136_in
  refine in112 S (L := []) (by simp) fun w2 S2 m2 => Bd_in fun b4 hb4 => ?_
  rw [show b4 = false by rw [hb4]; exact beq_eq_false_iff_ne.2 (by omega)]
  refine If_f <| Bd_in fun b5 hb5 => If_in (fun hb => ?_) fun hb => ?_
  · have : d.bl.length < 3 := by rw [hb5] at hb; have := of_decide_eq_true hb; omega
    exact ⟨.inl ⟨this, rfl⟩, m2⟩
  have h3 : 3 ≤ d.bl.length := by rw [hb5] at hb; have := of_decide_eq_false hb; omega
  refine Nw_i ?_
  have ma := Md.alloc (M := []) w2 (.cells #[Value.pointer (some ⟨n, 0, none⟩), Value.int IntKind.i64 (0 : Int), Value.int IntKind.i64 (0 : Int), Value.bool false] 260)
  have hB := Blk.new w2 #[Value.pointer (some ⟨n, 0, none⟩), Value.int IntKind.i64 (0 : Int), Value.int IntKind.i64 (0 : Int), Value.bool false] 260
  have hsz7 : (w2.alloc (.cells #[Value.pointer (some ⟨n, 0, none⟩), Value.int IntKind.i64 (0 : Int), Value.int IntKind.i64 (0 : Int), Value.bool false] 260)).heap.size = w2.heap.size + 1 := by simp
  generalize (w2.alloc (.cells #[Value.pointer (some ⟨n, 0, none⟩), Value.int IntKind.i64 (0 : Int), Value.int IntKind.i64 (0 : Int), Value.bool false] 260)) = w7 at *
  generalize hln : w2.heap.size = ln at *
  have S7 := S2.md0 ma
  have hlo : w0.heap.size ≤ ln := by have := S2.md.size; omega
  have J7 : JS w0 w7 n d F ln ⟨0, 0, false⟩ := ⟨S7, hB, fun h => by have := S2.dk.lt _ h; omega, hlo⟩
  have h0 : 0 < d.bl.length := by omega
  refine in119 S7 (L := []) (by simp) (i := 0) h0 fun a w9 S9 m9 o9 => ?_
  have hl64 : (getB d.bl 0).1.length = 64 := (getB d.bl 0).2.1
  have h064 : 0 < (getB d.bl 0).1.length := by omega
  have hx0 : (getB d.bl 0).1[0] < 256 := (getB d.bl 0).2.2 _ (List.getElem_mem _)
  have hop : (getB d.bl 0).1[0] % 2 = openA d := by
    unfold openA
    rw [headD0 _ h064]
  have hix := (o9.row encb1).ix (i := 0) h064
  rw [hl64] at hix
  have J9 := J7.md0 m9
  have hA := openA_le d
  refine ⟨hix, (o9.row encb1).ld1 (i := 0) h064 rfl <| opI_in <| Bd_e (and_one _ hx0) <| Bd_e (y := (openA d : Int)) (by rw [hop, IntKind.wrap_i64]; omega) <| NN_in ?_⟩
  obtain ⟨J10, m10, wr10⟩ := J9.set (j := 1) (v := .int .i64 (openA d)) (g' := ⟨openA d, 0, false⟩) (by omega) rfl
  refine ⟨by simp, wr10, in205 J10 h1 (by simp) fun w21 J21 m21 => ?_⟩
  have mA : Md [] w w21 := by
    have q1 : Md [] w w9 := (m2.trans ma).trans m9
    have q2 := q1.old m10 (by simp; have := m2.size; omega)
    exact q2.trans m21
  have hh2 := half2 d h1
  have hm1 : openA d * half d ≤ 1 * half d := Nat.mul_le_mul_right _ hA
  have hhl := half_le S.dk.choose_spec.1.len
  have hbxs : ln + 1 ≤ w21.heap.size := by have := m9.size; have := m10.size; have := m21.size; omega
  refine LoopP_in (fun mm us vs w' => ∃ (k : Nat) (a : Option Addr) (c : Nat), us = [.slice a (bytesB ((d.bl.drop (1 + openA d * half d)).take k)).length c, .int .i64 k] ∧ mm = half d - k ∧ k ≤ half d ∧ Md [] w21 w' ∧ OwnL w' w21.heap.size 5 1 b1 a c (bytesB ((d.bl.drop (1 + openA d * half d)).take k))) (half d)
    ⟨0, none, 0, rfl, rfl, by omega, Md.refl _ _, OwnL.nil _ _ _ _ _⟩ ?_
  rintro mm us vs w26 ⟨k, a, c, rfl, hmm, hk, m26, o26⟩
  have J26 := J21.md0 m26
  refine opL_in <| opI_in <| Bd_in fun b31 hb31 => If_in (fun hb => ?_) fun hb => ?_
  · have hkh : k < half d := by rw [hb31] at hb; have := of_decide_eq_true hb; omega
    have hbk := jbk_lt (k := k) h1 hA hkh
    refine NN_in <| J26.blk.ld (j := 1) rfl <| opI_in <| in202 J26 h1 hA (by omega) (by simp) fun w36 J36 m36 => in119 J36.ds (by simp) hbk fun a41 w39 S39 m39 o39 => ?_
    have mm39 : Md [] w26 w39 := m36.trans m39
    have h64 : (getB d.bl (jbk d (openA d) k)).1.length = 64 := (getB d.bl (jbk d (openA d) k)).2.1
    have hs : a41.isSome = true := by
      obtain ⟨B, hB, _⟩ := (o39.row encb1) 0 ((getB d.bl (jbk d (openA d) k)).1[0]'(by omega)) (List.getElem?_eq_getElem _)
      rw [hB]; rfl
    have hkl : k < (d.bl.drop (1 + openA d * half d)).length := by
      rw [List.length_drop]; generalize openA d * half d = m at *; omega
    have hlen26 : (bytesB ((d.bl.drop (1 + openA d * half d)).take k)).length = k * 64 := by
      rw [bytesB_len, List.length_take, Nat.min_eq_left (by omega)]
    have hg : (getB d.bl (jbk d (openA d) k)).1 = ((d.bl.drop (1 + openA d * half d))[k]).1 := by
      rw [getB_eq hbk]; simp only [List.getElem_drop]; rfl
    refine japp_row (L := []) rowT51 encb1 h64.symm (o26.md mm39) (o39.row encb1) hs (by have := m26.size; have := mm39.size; omega) (by simp) (by simp) (by rw [hlen26, h64]; simp [maxLen]; omega) (by rw [hlen26, h64]; omega) fun a' c' w46 o46 m46 hA46 => opL_in <| Bd_e (inc_i64 (by omega)) ?_
    rw [hg, ← bytesB_take hkl] at o46 ⊢
    refine ⟨half d - (k + 1), by omega, k + 1, a', c', rfl, rfl, by omega, (m26.trans mm39).old m46 fun d hd => by obtain ⟨B, hB, rfl⟩ := mem_blk hd; exact (o26.lt hB).1, o46⟩
  · have hkh : k = half d := by
      have : ¬ (k : Int) < (half d : Int) := by rw [hb31] at hb; exact of_decide_eq_false hb
      omega
    subst hkh
    have ear : bytesB ((d.bl.drop (1 + openA d * half d)).take (half d)) = areaL d (openA d) := rfl
    rw [ear] at o26 ⊢
    have hal := areaL_len h1 hA
    have hjz : jsz d = half d * 64 := rfl
    refine (f206_ok (areaL d (openA d)) (areaL_lt d _) (by omega) a c o26.cap w26 (o26.row encb1)).call (by simp) ?_
    rintro v w52 h m52
    have J52 := J26.md0 m52
    have mB : Md [] w w52 := (mA.trans m26).trans m52
    rcases h with ⟨hn, rfl⟩ | ⟨rs, p, a54, c54, hs, rfl, R52⟩
    · exact opTu_in <| opL_in <| opI_in <| opB_in <| SzIs_in rfl <| Bd_e rfl <| If_t ⟨.inr (.inl ⟨h3, hn, rfl⟩), mB⟩
    · obtain ⟨J53, m53, wr53⟩ := J52.set (j := 2) (v := .int .i64 p) (g' := ⟨openA d, p, false⟩) (by omega) rfl
      refine opTu_in <| opL_in <| opI_in <| opB_in <| SzIs_in rfl <| Bd_e rfl <| If_f <| NN_in ⟨by simp, wr53, .inr (.inr ⟨h3, rs, p, ln, a54, c54, w26.heap.size, hs, rfl, J53.blk, by have := m2.size; omega, by have := m26.size; omega, R52.mdD m53 (by simp; have := m26.size; omega)⟩), mB.old m53 (by simp; have := m2.size; omega)⟩
end
end Fk
set_option linter.unusedVariables false
set_option linter.unusedSimpArgs false
set_option maxRecDepth 100000
set_option maxHeartbeats 2000000
namespace Fk
open Go Go.Proofs Go.RowKit
def apD (d : Dk) (g : Lg) (r : List Nat) : Dk × Lg × Int :=
  if mayD g ((jsz d : Int) - g.pos) [r.length] ≠ 0 then (d, g, mayD g ((jsz d : Int) - g.pos) [r.length]) else
  if (layD d g.area g.pos (frm 0 r)).2 = false then ((layD d g.area g.pos (frm 0 r)).1, { g with ov := true }, 200) else
  if (oneD (layD d g.area g.pos (frm 0 r)).1 (jbk d g.area (g.pos / 64)) ((getB (layD d g.area g.pos (frm 0 r)).1.bl (jbk d g.area (g.pos / 64))).1.set (g.pos % 64) 1)).2 = false
    then ((oneD (layD d g.area g.pos (frm 0 r)).1 (jbk d g.area (g.pos / 64)) ((getB (layD d g.area g.pos (frm 0 r)).1.bl (jbk d g.area (g.pos / 64))).1.set (g.pos % 64) 1)).1, { g with ov := true }, 200)
    else ((oneD (layD d g.area g.pos (frm 0 r)).1 (jbk d g.area (g.pos / 64)) ((getB (layD d g.area g.pos (frm 0 r)).1.bl (jbk d g.area (g.pos / 64))).1.set (g.pos % 64) 1)).1, { g with pos := g.pos + (r.length + 8) }, 0)
theorem layL_len (area : Nat) (s : List Nat) : ∀ (m k : Nat) (d : Dk), (layL area s m k d).1.bl.length = d.bl.length ∧ (layL area s m k d).1.pd.length ≤ d.pd.length + m
  | 0, k, d => by
    have := flush_len d
    unfold layL
    exact ⟨by rw [this.1], this.2⟩
  | m + 1, k, d => by
    have h := write_len d (jbk d area k) (chunk s k)
    unfold layL
    split
    · have ih := layL_len area s m (k + 1) (d.write (jbk d area k) (chunk s k)).1
      exact ⟨by rw [ih.1, h.1], by omega⟩
    · exact ⟨h.1, by have := h.2; simp only; omega⟩
theorem oneD_len (d : Dk) (i : Nat) (b : List Nat) : (oneD d i b).1.bl.length = d.bl.length ∧ (oneD d i b).1.pd.length ≤ d.pd.length + 1 := by
  have h := write_len d i b
  have h2 := flush_len (d.write i b).1
  unfold oneD
  split
  · exact ⟨by rw [h2.1, h.1], by simp only; omega⟩
  · exact h
theorem may_one {g : Lg} {room : Int} {l : Nat} (h1 : 0 ≤ room) (h : mayD g room [l] = 0) : g.ov = false ∧ 1 ≤ l ∧ l ≤ 1048576 ∧ (l : Int) + 8 ≤ room := by
  unfold mayD at h
  split at h
  · cases h
  · rename_i ho
    rw [mayF_cons] at h
    split at h
    · cases h
    · unfold mayF at h
      split at h
      · cases h
      · rename_i hh hn
        simp at hn
        exact ⟨by simpa using ho, by omega, by omega, by omega⟩
theorem layD_len {d : Dk} {area p : Nat} {b : List Nat} (h1 : 1 ≤ d.bl.length) (hl : d.bl.length ≤ 65536) (ha : area ≤ 1) (hp : p + b.length ≤ jsz d) : (layD d area p b).1.bl.length = d.bl.length ∧ (layD d area p b).1.pd.length ≤ d.pd.length + 32767 := by
  obtain ⟨K, hS, hK, _, _⟩ := layS_len h1 ha hp
  have h := layL_len area (layS d area p b) ((layS d area p b).length / 64 - p / 64) (p / 64) d
  have := half_le hl
  rw [hS, Nat.mul_div_cancel _ (by omega)] at h
  unfold layD
  rw [hS, Nat.mul_div_cancel _ (by omega)]
  exact ⟨h.1, by omega⟩
theorem apD_len {d : Dk} {g : Lg} {r : List Nat} (h1 : 1 ≤ d.bl.length) (hl : d.bl.length ≤ 65536) (ha : g.area ≤ 1) (hp : g.pos ≤ jsz d) : (apD d g r).1.bl.length = d.bl.length ∧ (apD d g r).1.pd.length ≤ d.pd.length + 32768 := by
  unfold apD
  split
  · exact ⟨rfl, by simp⟩
  · rename_i hm
    have hm0 : mayD g ((jsz d : Int) - g.pos) [r.length] = 0 := by simpa using hm
    have hm := may_one (by omega) hm0
    have e : (frm 0 r).length = r.length + 8 := frm_len 0 r
    have hL := layD_len (b := frm 0 r) h1 hl ha (p := g.pos) (by rw [e]; omega)
    split
    · exact ⟨hL.1, by simp only; omega⟩
    · have h2 := oneD_len (layD d g.area g.pos (frm 0 r)).1 (jbk d g.area (g.pos / 64)) ((getB (layD d g.area g.pos (frm 0 r)).1.bl (jbk d g.area (g.pos / 64))).1.set (g.pos % 64) 1)
      split
      · exact ⟨by rw [h2.1, hL.1], by simp only; omega⟩
      · exact ⟨by rw [h2.1, hL.1], by simp only; omega⟩
section
variable {w0 w : World} {n : Nat} {d : Dk} {F : List Nat} {ln : Nat} {g : Lg}
theorem f124_ok (S : JS w0 w n d F ln g) (h1 : 1 ≤ d.bl.length) (hpd : d.pd.length < 2 ^ 28) (ha : g.area ≤ 1) (hp : g.pos ≤ jsz d) (r : List Nat) (hr : ∀ x ∈ r, x < 256) (A : Option Addr) (C : Nat) (ho : RowAt w A 1 b1 r) :
    Ct Try.prog 124 #[.pointer (some ⟨ln, 0, none⟩), .slice A r.length C] w fun v w' =>
      (v = .int .i64 (apD d g r).2.2 ∧ ∃ F', JS w0 w' n (apD d g r).1 F' ln (apD d g r).2.1 ∧ Fr w F F') ∧ Md (ln :: F) w w' := by
  have hlen := S.len
  have hhl := half_le hlen
  have hjz : jsz d = half d * 64 := rfl
  apply f124_in
  refine Jn_in (fun us vs w' => us = [.int .i64 ((jsz d : Int) - g.pos)] ∧ JS w0 w' n d F ln g ∧ Md [] w w') ?_ ?_
  · rintro us vs w3 ⟨rfl, S3, m3⟩
    refine opI_in <| Nw_i ?_
    have ma := Md.alloc (M := []) w3 (.cells #[.slice A r.length C] 51)
    have oH := OwnL.lit (P := Try.prog) (base := 0) encsE w3 51 [(A, r.length, C)] #[.slice A r.length C] (by omega) (by simp [maxLen]) rfl
    have S6 := S3.md0 ma
    refine (f198_ok S6 [(A, r.length, C)] (by simp) (some ⟨w3.heap.size, 0, none⟩) 1 (oH.row encsE) ((jsz d : Int) - g.pos) (by omega) (by omega)).call (by simp) ?_
    rintro v w8 rfl m8
    have S8 := S6.md0 m8
    have mm8 : Md [] w w8 := (m3.trans ma).trans m8
    show opI IntKind.i64 (.int .i64 (mayD g ((jsz d : Int) - g.pos) [r.length])) _
    refine opI_in <| Bd_in fun b10 hb10 => If_in (fun hb => ?_) fun hb => ?_
    · have hne : mayD g ((jsz d : Int) - g.pos) [r.length] ≠ 0 := by rw [hb10] at hb; simpa using hb
      have e : apD d g r = (d, g, mayD g ((jsz d : Int) - g.pos) [r.length]) := by unfold apD; rw [if_pos hne]
      rw [e]
      exact ⟨⟨rfl, F, S8, Fr.refl _ _⟩, mm8.mono (by simp)⟩
    have he0 : mayD g ((jsz d : Int) - g.pos) [r.length] = 0 := by rw [hb10] at hb; simpa using hb
    obtain ⟨hov, hr1, hr2, hr3⟩ := may_one (by omega) he0
    have efl : (frm 0 r).length = r.length + 8 := frm_len 0 r
    have hfit : g.pos + (frm 0 r).length ≤ jsz d := by omega
    have e : apD d g r = if (layD d g.area g.pos (frm 0 r)).2 = false then ((layD d g.area g.pos (frm 0 r)).1, { g with ov := true }, 200) else
        if (oneD (layD d g.area g.pos (frm 0 r)).1 (jbk d g.area (g.pos / 64)) ((getB (layD d g.area g.pos (frm 0 r)).1.bl (jbk d g.area (g.pos / 64))).1.set (g.pos % 64) 1)).2 = false
        then ((oneD (layD d g.area g.pos (frm 0 r)).1 (jbk d g.area (g.pos / 64)) ((getB (layD d g.area g.pos (frm 0 r)).1.bl (jbk d g.area (g.pos / 64))).1.set (g.pos % 64) 1)).1, { g with ov := true }, 200)
        else ((oneD (layD d g.area g.pos (frm 0 r)).1 (jbk d g.area (g.pos / 64)) ((getB (layD d g.area g.pos (frm 0 r)).1.bl (jbk d g.area (g.pos / 64))).1.set (g.pos % 64) 1)).1, { g with pos := g.pos + (r.length + 8) }, 0) := by unfold apD; rw [if_neg (by simp [he0])]
    have hLl := layD_len (b := frm 0 r) h1 hlen ha hfit
    generalize hL : layD d g.area g.pos (frm 0 r) = l at *
    generalize hO : oneD l.1 (jbk d g.area (g.pos / 64)) ((getB l.1.bl (jbk d g.area (g.pos / 64))).1.set (g.pos % 64) 1) = o at *
    have hAs : A.isSome = true := by obtain ⟨B, hB, _⟩ := ho 0 r[0] (List.getElem?_eq_getElem (by omega)); rw [hB]; rfl
    refine (f199_ok r hr hr2 0 (by omega) A C w8 (ho.md mm8) hAs).call (by simp) ?_
    rintro v w12 ⟨a13, c15, rfl, o12⟩ m12
    have S12 := S8.md0 m12
    have mm12 := mm8.trans m12
    rw [efl]
    refine opL_in ?_
    refine Jn_in (fun us vs w' => ∃ (x : Bool) (d' : Dk) (F' : List Nat), us = [.bool x] ∧ JS w0 w' n d' F' ln g ∧ Fr w F F' ∧ Md F w w' ∧ ((x = true ∧ apD d g r = (d', { g with ov := true }, 200)) ∨ (x = false ∧ apD d g r = (d', { g with pos := g.pos + (r.length + 8) }, 0)))) ?_ ?_
    · rintro us vs w18 ⟨x, d', F', rfl, S18, f18, m18, hx⟩
      refine opB_in <| If_in (fun hb => ?_) fun hb => ?_
      · rcases hx with ⟨_, hx⟩ | ⟨hx, _⟩
        · rw [hx]
          obtain ⟨q1, q2, q3⟩ := S18.set (j := 3) (v := .bool true) (g' := { g with ov := true }) (by omega) rfl
          exact NN_in ⟨by simp, q3, ⟨rfl, F', q1, f18⟩, (m18.mono fun y hy => List.mem_cons_of_mem _ hy).trans (q2.mono (by simp))⟩
        · rw [hb] at hx; cases hx
      · rcases hx with ⟨hx, _⟩ | ⟨_, hx⟩
        · rw [hb] at hx; cases hx
        · rw [hx]
          obtain ⟨q1, q2, q3⟩ := S18.set (j := 2) (v := .int .i64 ((g.pos + (r.length + 8) : Nat) : Int)) (g' := { g with pos := g.pos + (r.length + 8) }) (by omega) rfl
          exact NN_in <| S18.blk.ld (j := 2) rfl <| opI_in <| Bd_e rfl <| Bd_e (y := ((g.pos + (r.length + 8) : Nat) : Int)) (by rw [IntKind.wrap_i64]; omega) <| NN_in ⟨by simp, q3, ⟨rfl, F', q1, f18⟩, (m18.mono fun y hy => List.mem_cons_of_mem _ hy).trans (q2.mono (by simp))⟩
    · have S12d := S12.md0 (Md_drew w12)
      refine ⟨fun w' => Blk w' ln 260 (g.c n), S12d.blk, NN_in ?_⟩
      show ∃ v, _ ∧ _
      refine ⟨.int .i64 g.area, fun w' hw => hw.ld (j := 1) rfl rfl, opI_in <| NN_in ?_⟩
      show ∃ v, _ ∧ _
      refine ⟨.int .i64 g.pos, fun w' hw => hw.ld (j := 2) rfl rfl, opI_in ?_⟩
      have o12d := o12.md (Md_drew w12)
      have c200 := f200_ok S12d h1 (by omega) g.area g.pos ha (frm 0 r) (frm_lt 0 r (by omega) hr) hfit w8.heap.size a13 c15 o12d fun B hB => by
        have := (o12d.lt hB).1
        refine ⟨fun h => ?_, fun h => ?_, ?_⟩
        · have := S8.blk.lt; omega
        · have := S8.ds.dk.lt _ h; omega
        · have := S8.ds.md.size; omega
      rw [efl, hL] at c200
      refine c200.callD (by simp) (by simp) ?_
      rintro v w42 ⟨rfl, F2, S42, f42⟩ m42
      have mm42 : Md F w w42 := ((mm12.mono (by simp)).trans ((Md_drew w12).mono (by simp))).fr m42 fun b hb => by
        rcases List.mem_append.1 hb with h | h
        · obtain ⟨B, hB, rfl⟩ := mem_blk h
          have := (o12d.lt hB).1
          exact .inr (by have := mm8.size; omega)
        · exact .inl h
      have f2 : Fr w F F2 := fun b hb => (f42 b hb).imp id (fun h => by have := mm12.size; have := (Md_drew w12).size; omega)
      refine opB_in ⟨S42.blk, Bd_e rfl ⟨fun _ => rfl, Bd_e rfl ?_⟩⟩
      by_cases hl2 : l.2 = false
      · rw [hl2]
        rw [if_pos hl2] at e
        show ∃ v, _ ∧ _
        refine ⟨0, (fun h => by cases h), (fun h => by cases h), Bd_e rfl ?_⟩
        show ∃ v, _ ∧ _
        refine ⟨0, (fun h => by cases h), Bd_e rfl ⟨(fun h => by cases h), Bd_e rfl ?_⟩⟩
        show ∃ v, _ ∧ _
        exact ⟨0, (fun h => by cases h), Bd_e rfl <| Gd_f ⟨S42.blk, Gd_f ⟨S42.blk, Bd_e rfl <| Bd_e rfl ⟨true, l.1, F2, rfl, S42, f2, mm42, .inl ⟨rfl, e⟩⟩⟩⟩⟩
      · have hl2' : l.2 = true := by simpa using hl2
        rw [hl2']
        rw [if_neg hl2] at e
        show ∃ v, _ ∧ _
        refine ⟨g.area, fun _ w' hw => hw.ld (j := 1) rfl rfl, fun _ => rfl, Bd_e rfl ?_⟩
        show ∃ v, _ ∧ _
        refine ⟨g.pos, fun _ w' hw => hw.ld (j := 2) rfl rfl, Bd_e (y := ((g.pos / 64 : Nat) : Int)) (by rw [Int.tdiv_eq_ediv_of_nonneg (by omega), IntKind.wrap_i64]; omega) ⟨fun _ => rfl, Bd_e rfl ?_⟩⟩
        show ∃ v, _ ∧ _
        have hh' : half l.1 = half d := by unfold half; rw [hLl.1]
        have hj' : ∀ a k, jbk l.1 a k = jbk d a k := fun a k => by unfold jbk; rw [hh']
        have hbk := jbk_lt (d := d) (k := g.pos / 64) h1 ha (by omega)
        refine ⟨g.pos, fun _ w' hw => hw.ld (j := 2) rfl rfl, Bd_e (y := ((g.pos % 64 : Nat) : Int)) (by rw [Int.tmod_eq_emod_of_nonneg (by omega)]; omega) <| Gd_t <| in202 S42 (by rw [hLl.1]; exact h1) ha (by omega) (by simp) fun w70 S70 m70 => ⟨S70.blk, Gd_t ?_⟩⟩
        rw [hj']
        refine (f201_ok S70 (by omega) (jbk d g.area (g.pos / 64)) (by rw [hLl.1]; exact hbk) (g.pos % 64) (Nat.mod_lt _ (by omega)) 1 (by omega)).callD (by simp) (by simp) ?_
        rw [hO]
        rintro v w76 ⟨rfl, F3, S76, f76⟩ m76
        have mm70 : Md F w w70 := mm42.trans (m70.mono (by simp))
        have mm76 : Md F w w76 := mm70.fr m76 f2
        have f3 : Fr w F F3 := f2.trans f76 mm70.size
        refine opB_in ⟨S76.blk, Bd_e rfl <| Bd_e rfl ⟨!o.2, o.1, F3, rfl, S76, f3, mm76, ?_⟩⟩
        by_cases ho2 : o.2 = false
        · rw [if_pos ho2] at e
          exact .inl ⟨by rw [ho2]; rfl, e⟩
        · rw [if_neg ho2] at e
          exact .inr ⟨by rw [show o.2 = true by simpa using ho2]; rfl, e⟩
  · refine in196 S (by simp) fun w84 S84 m84 => Bd_e rfl <| If_t ?_
    have S84d := S84.md0 (Md_drew w84)
    refine ⟨fun w' => Blk w' ln 260 (g.c n), S84d.blk, NN_in ?_⟩
    show ∃ v, _ ∧ _
    exact ⟨.int .i64 g.pos, fun w' hw => hw.ld (j := 2) rfl rfl, opI_in <| in197 S84d h1 (by simp) fun w95 S95 m95 => ⟨S95.blk, Bd_e (y := (jsz d : Int) - g.pos) (by rw [IntKind.wrap_i64]; omega) ⟨rfl, S95, (m84.trans (Md_drew w84)).trans m95⟩⟩⟩
end
end Fk
set_option linter.unusedVariables false
set_option linter.unusedSimpArgs false
set_option maxRecDepth 100000
namespace Fk
open Go Go.Proofs Go.RowKit
theorem size_bytesOf (l : List Nat) : (bytesOf l).size = l.length := by simp [bytesOf, ByteArray.size]
theorem str_own {w : World} {base : Nat} {a : Option Addr} {c : Nat} {l : List Nat} (h : OwnL w base 5 1 b1 a c l) (hl : ∀ x ∈ l, x < 256) (c' : Nat) : (convert 51 9 (.slice a l.length c')).run Try.prog w = .ok (.string (bytesOf l)) w := conv_row (h.row encb1) hl _ _ rfl
/-- Two disks, apart. -/
structure DS2 (w0 w : World) (n1 : Nat) (d1 : Dk) (F1 : List Nat) (n2 : Nat) (d2 : Dk) (F2 : List Nat) : Prop where
  a : DS w0 w n1 d1 F1
  b : DS w0 w n2 d2 F2
  x : ∀ b ∈ F2, b ∉ F1
section
variable {w0 w w' : World} {n1 : Nat} {d1 d1' : Dk} {F1 F1' : List Nat} {n2 : Nat} {d2 d2' : Dk} {F2 F2' : List Nat}
theorem DS2.md0 (S : DS2 w0 w n1 d1 F1 n2 d2 F2) (hm : Md [] w w') : DS2 w0 w' n1 d1 F1 n2 d2 F2 := ⟨S.a.md0 hm, S.b.md0 hm, S.x⟩
end
end Fk
set_option linter.unusedVariables false
set_option linter.unusedSimpArgs false
set_option maxRecDepth 100000
set_option maxHeartbeats 2000000
namespace Fk
open Go Go.Proofs Go.RowKit
def recN (n : Int) : Nat := (max (min n 2000) 0).toNat
def recB (n : Int) (c : Nat) : List Nat := (List.range (recN n)).map fun i => (c + 3 * i) % 256
theorem recN_le (n : Int) : recN n ≤ 2000 := by unfold recN; omega
theorem recB_len (n : Int) (c : Nat) : (recB n c).length = recN n := by simp [recB]
theorem recB_lt (n : Int) (c : Nat) : ∀ x ∈ recB n c, x < 256 := by
  intro x hx
  simp only [recB, List.mem_map] at hx
  obtain ⟨i, _, rfl⟩ := hx
  exact Nat.mod_lt _ (by omega)
theorem max_if2 (x : Int) : (if x > (0 : Int) then x else 0) = max x 0 := by omega
theorem f123_ok (n : Int) (c : Nat) (hc : c < 256) (w : World) : Ct Try.prog 123 #[.int .i64 n, .int .u8 c] w fun v w' => (∃ a C C2, v = .slice a (recB n c).length C2 ∧ OwnL w' w.heap.size 5 1 b1 a C (recB n c)) ∧ Md [] w w' := by
  apply f123_in
  refine Nw_i ?_
  have ma := Md.alloc (M := []) w (.cells #[Value.int .u8 (c : Int)] 5)
  have oH := OwnL.lit (P := Try.prog) (base := 0) encb1 w 5 [c] #[Value.int .u8 (c : Int)] (by omega) (by simp [maxLen]) rfl
  refine Bd_e (min_if _ _) <| Bd_e (max_if2 _) ?_
  have hm : max (min 2000 n) 0 = ((recN n : Nat) : Int) := by unfold recN; omega
  have hm' : max (min n 2000) 0 = ((recN n : Nat) : Int) := by unfold recN; omega
  have hle := recN_le n
  first | rw [hm] | rw [hm']
  refine (f193_ok c hc (some ⟨w.heap.size, 0, none⟩) 1 (recN n) (by omega) _ (oH.row encb1)).call (by simp) ?_
  rintro v w6 ⟨a, cc, C, rfl, _, o6⟩ m6
  refine opL_in <| Bd_e rfl ?_
  have o6' := o6.down ma.size
  refine LoopP_in (fun mm us vs w' => ∃ (i : Nat) (l : List Nat), us = [.int .i64 i] ∧ mm = recN n - i ∧ i ≤ recN n ∧ OwnL w' w.heap.size 5 1 b1 a C l ∧ l.length = recN n ∧ Md [] w w' ∧ (∀ j, j < i → l[j]? = some ((c + 3 * j) % 256)) ∧ (∀ j, i ≤ j → j < recN n → l[j]? = some c)) (recN n)
    ⟨0, _, rfl, rfl, by omega, o6', by simp, ma.trans m6, fun j hj => by omega, fun j _ hj => by rw [List.getElem?_replicate, if_pos hj]⟩ ?_
  rintro mm us vs w14 ⟨i, l, rfl, hmm, hi, o14, hll, m14, h1, h2⟩
  refine opI_in <| Bd_in fun b16 hb16 => If_in (fun hb => ?_) fun hb => ?_
  · have hil : i < recN n := by rw [hb16] at hb; have : (i : Int) < (recN n : Int) := of_decide_eq_true hb
                                omega
    have hil' : i < l.length := by omega
    have hx : l[i] = c := by
      have := h2 i (Nat.le_refl _) hil
      rw [List.getElem?_eq_getElem hil'] at this
      exact Option.some.inj this
    have hix := (o14.row encb1).ix hil'
    rw [hll] at hix
    obtain ⟨A, hA, p1, p2, p3, p4, p5, p6⟩ := o14.put encb1 (by omega) hil' ((c + 3 * i) % 256)
    refine ⟨hix, (o14.row encb1).ld1 hil' rfl <| opI_in <| Bd_e (y := ((3 * i : Nat) : Int)) (by rw [IntKind.wrap_i64]; omega) <| Bd_e (y := ((3 * i % 256 : Nat) : Int)) (by rw [IntKind.wrap_u8]; omega) <| Bd_e (y := (((c + 3 * i) % 256 : Nat) : Int)) (by rw [hx, IntKind.wrap_u8]; omega) ⟨hix, by simp, p4, Bd_e (inc_i64 (by omega)) ⟨recN n - (i + 1), by omega, i + 1, _, rfl, rfl, by omega, p5, by simpa using hll, m14.old p6 (by simp; exact p2), fun j hj => ?_, fun j hj hj2 => ?_⟩⟩⟩
    · by_cases hji : j = i
      · subst hji; rw [List.getElem?_set_self (by omega)]
      · rw [List.getElem?_set_ne (by omega)]; exact h1 j (by omega)
    · rw [List.getElem?_set_ne (by omega)]; exact h2 j (by omega) hj2
  · have hil : i = recN n := by
      have : ¬ (i : Int) < (recN n : Int) := by rw [hb16] at hb; exact of_decide_eq_false hb
      omega
    subst hil
    have e : l = recB n c := by
      apply List.ext_getElem?
      intro j
      by_cases hj : j < recN n
      · rw [h1 j hj, recB, List.getElem?_map, List.getElem?_range hj]; rfl
      · rw [List.getElem?_eq_none (by omega), List.getElem?_eq_none (by rw [recB_len]; omega)]
    subst e
    refine ⟨⟨a, C, cc, ?_, o14⟩, m14⟩
    rw [recB_len]
theorem in123 {L : List Nat} {w0 w : World} (hm : Md [] w0 w) (n : Int) {c : Nat} (hc : c < 256) (hL : ∀ b ∈ L, b < w.heap.size) {K : Option Addr → Nat → Nat → World → Prop}
    (k : ∀ a C C2 w', Md [] w w' → OwnL w' w.heap.size 5 1 b1 a C (recB n c) → K a (recB n c).length C2 w') :
    CallW Try.prog L 123 #[.int .i64 n, .int .u8 c] (fun v w' => opL v fun a m C => K a m C w') w := by
  refine (f123_ok n c hc w).call hL ?_
  rintro v w' ⟨a, C, C2, rfl, o⟩ h'
  exact opL_in (k a C C2 w' h' o)
def tE (r : List Nat) : List Value := [.string (bytesOf r)]
theorem enctE : Enc 1 tE := ⟨fun _ => rfl, by intro x v hv; simp [tE] at hv; subst hv; rfl⟩
theorem f135_ok (rs : List (List Nat)) (hrs : ∀ r ∈ rs, ∀ x ∈ r, x < 256) (hl : rs.length < 2 ^ 40) (bx : Nat) (a : Option Addr) (c : Nat) (w : World) (hr : RRo w bx a c rs) : Ct Try.prog 135 #[.slice a rs.length c] w fun v w' => (∃ A C, v = .slice A rs.length C ∧ OwnL w' w.heap.size 9 1 tE A C rs) ∧ Md [] w w' := by
  apply f135_in
  obtain ⟨ps, h1, h2, h3⟩ := hr
  refine Bd_e rfl ?_
  refine LoopP_in (fun mm us vs w' => ∃ (i : Nat) (A : Option Addr) (C : Nat), us = [.slice A (rs.take i).length C, .int .i64 i] ∧ mm = rs.length - i ∧ i ≤ rs.length ∧ OwnL w' w.heap.size 9 1 tE A C (rs.take i) ∧ Md [] w w') rs.length
    ⟨0, none, 0, rfl, rfl, by omega, OwnL.nil _ _ _ _ _, Md.refl _ _⟩ ?_
  rintro mm us vs w5 ⟨i, A, C, rfl, hmm, hi, o5, m5⟩
  refine opL_in <| opI_in <| Bd_in fun b10 hb10 => If_in (fun hb => ?_) fun hb => ?_
  · have hil : i < rs.length := by rw [hb10] at hb; have : (i : Int) < (rs.length : Int) := of_decide_eq_true hb
                                   omega
    have hip : i < ps.length := by omega
    obtain ⟨q1, ⟨_, q2⟩, q3⟩ := h3 i ps[i] rs[i] (List.getElem?_eq_getElem hip) (List.getElem?_eq_getElem hil)
    have hix := ((h1.md m5).row encsE).ix hip
    rw [h2] at hix
    refine ⟨hix, ((h1.md m5).row encsE).ld1 hip rfl <| opL_in ?_⟩
    rw [q1]
    refine RunW_in0 (str_own (q2.md m5) (hrs _ (List.getElem_mem hil)) _) <| opStr_in ?_
    have htl : (rs.take i).length = i := by rw [List.length_take]; omega
    refine app_one rowT55 enctE rs[i] rfl o5 m5.size (by simp) (by simp) (by rw [htl]; simp [maxLen]; omega) (by rw [htl]; omega) fun a' c' w' o' m' hA => opL_in <| Bd_e (inc_i64 (by omega)) ?_
    rw [← List.take_succ_eq_append_getElem hil] at o' ⊢
    exact ⟨rs.length - (i + 1), by omega, i + 1, a', c', rfl, rfl, by omega, o', m5.old m' fun d hd => by obtain ⟨B, hB, rfl⟩ := mem_blk hd; exact (o5.lt hB).1⟩
  · have hil : i = rs.length := by
      have : ¬ (i : Int) < (rs.length : Int) := by rw [hb10] at hb; exact of_decide_eq_false hb
      omega
    subst hil
    rw [List.take_length] at o5 ⊢
    exact ⟨⟨A, C, rfl, o5⟩, m5⟩
theorem tstr_ne {a b : List Nat} (ha : ∀ x ∈ a, x < 256) (hb : ∀ x ∈ b, x < 256) : (!(bytesOf a).toList == (bytesOf b).toList) = decide (a ≠ b) := by
  rw [str_eqL ha hb]; by_cases h : a = b <;> simp [h]
theorem take_eq_succ {xs ys : List (List Nat)} {i : Nat} (h : xs.take i = ys.take i) (ha : i < xs.length) (hb : i < ys.length) (e : xs[i] = ys[i]) : xs.take (i + 1) = ys.take (i + 1) := by
  rw [List.take_succ_eq_append_getElem ha, List.take_succ_eq_append_getElem hb, h, e]
theorem f140_ok (xs ys : List (List Nat)) (has : ∀ r ∈ xs, ∀ x ∈ r, x < 256) (hbs : ∀ r ∈ ys, ∀ x ∈ r, x < 256) (hl : xs.length < 2 ^ 40) (bx : Nat) (a : Option Addr) (c : Nat) (b : Option Addr) (cb : Nat) (w : World) (hr : RRo w bx a c xs) (hr2 : RowAt w b 1 tE ys) :
    Ct Try.prog 140 #[.slice a xs.length c, .slice b ys.length cb] w fun v w' => v = .bool (decide (xs = ys)) ∧ Md [] w w' := by
  apply f140_in
  obtain ⟨ps, h1, h2, h3⟩ := hr
  refine Bd_e rfl <| Bd_e rfl <| Bd_in fun b3 hb3 => If_in (fun hb => ?_) fun hb => ?_
  · have hne : xs.length ≠ ys.length := by rw [hb3] at hb; simp at hb; omega
    exact ⟨by rw [decide_eq_false (fun h => hne (by rw [h]))], Md.refl _ _⟩
  have hel : xs.length = ys.length := by rw [hb3] at hb; simp at hb; omega
  refine Bd_e rfl ?_
  refine LoopP_in (fun mm us vs w' => ∃ (i : Nat) (z : Bool), us = [.bool z, .int .i64 i] ∧ mm = xs.length - i ∧ i ≤ xs.length ∧ Md [] w w' ∧ xs.take i = ys.take i) xs.length
    ⟨0, false, rfl, rfl, by omega, Md.refl _ _, rfl⟩ ?_
  rintro mm us vs w8 ⟨i, z, rfl, hmm, hi, m8, he⟩
  refine opB_in <| opI_in <| Bd_in fun b11 hb11 => If_in (fun hbb => ?_) fun hbb => ?_
  · have hil : i < xs.length := by rw [hb11] at hbb; have : (i : Int) < (xs.length : Int) := of_decide_eq_true hbb
                                   omega
    have hil2 : i < ys.length := by omega
    have hip : i < ps.length := by omega
    obtain ⟨q1, ⟨_, q2⟩, q3⟩ := h3 i ps[i] xs[i] (List.getElem?_eq_getElem hip) (List.getElem?_eq_getElem hil)
    have hix := (h1.row encsE).ix hip
    rw [h2] at hix
    refine ⟨fun w' => Md [] w w', m8.trans (Md_drew w8), hix, ?_⟩
    show ∃ v, _ ∧ _
    refine ⟨.slice (ps[i]).1 (ps[i]).2.1 (ps[i]).2.2, fun w' hm => ((h1.md hm).row encsE).ld1 hip rfl rfl, opL_in ?_⟩
    show ∃ v, _ ∧ _
    refine ⟨.string (bytesOf xs[i]), fun w' hm => ⟨?_⟩, opStr_in ⟨hr2.ix hil2, ?_⟩⟩
    · rw [q1]; exact str_own (q2.md hm) (has _ (List.getElem_mem hil)) _
    show ∃ v, _ ∧ _
    refine ⟨.string (bytesOf ys[i]), fun w' hm => (hr2.md hm).ld1 hil2 rfl rfl, opStr_in <| Bd_e (tstr_ne (has _ (List.getElem_mem hil)) (hbs _ (List.getElem_mem hil2))) <| If_in (fun h => ?_) fun h => ?_⟩
    · have hne : xs[i] ≠ ys[i] := of_decide_eq_true h
      refine ⟨?_, m8.trans (Md_drew w8)⟩
      rw [decide_eq_false]
      rintro rfl
      exact hne rfl
    · have heq : xs[i] = ys[i] := by simpa using h
      exact Bd_e (inc_i64 (by omega)) ⟨xs.length - (i + 1), by omega, i + 1, z, rfl, rfl, by omega, m8.trans (Md_drew w8), take_eq_succ he hil hil2 heq⟩
  · have hil : i = xs.length := by
      have : ¬ (i : Int) < (xs.length : Int) := by rw [hb11] at hbb; exact of_decide_eq_false hbb
      omega
    subst hil
    rw [List.take_length, hel, List.take_length] at he
    exact ⟨by rw [decide_eq_true he], m8⟩
end Fk
set_option linter.unusedVariables false
set_option linter.unusedSimpArgs false
set_option maxRecDepth 100000
set_option maxHeartbeats 2000000
namespace Fk
open Go Go.Proofs Go.RowKit
theorem parse_bd : ∀ (f : Nat) (l : List Nat) (rs : List (List Nat)) (p : Nat), (∀ x ∈ l, x < 256) → jprs f l = some (rs, p) → (∀ r ∈ rs, 1 ≤ r.length ∧ r.length ≤ 1048576 ∧ ∀ x ∈ r, x < 256) ∧ p ≤ l.length ∧ rs.length ≤ p
  | 0, l, rs, p, hl, h => by cases h
  | f + 1, l, rs, p, hl, h => by
    cases l with
    | nil => simp [jprs] at h; obtain ⟨rfl, rfl⟩ := h; simp
    | cons m t =>
      unfold jprs at h
      simp only at h
      split at h
      · simp at h; obtain ⟨rfl, rfl⟩ := h; simp
      · split at h
        · cases h
        · split at h
          · cases h
          · split at h
            · cases h
            · rename_i h1 h2 h3 h4
              generalize hN : num (t.take 3) = N at *
              cases hj : jprs f ((m :: t).drop (N + 8)) with
              | none => rw [hj] at h; cases h
              | some q =>
                rw [hj] at h
                obtain ⟨q1, q2⟩ := q
                simp at h
                obtain ⟨rfl, rfl⟩ := h
                obtain ⟨a, b, c⟩ := parse_bd f _ q1 q2 (fun x hx => hl x (List.mem_of_mem_drop hx)) hj
                have hlen : (m :: t).length = t.length + 1 := rfl
                rw [hlen] at h2 h3
                have htk : ((t.drop 3).take N).length = N := by rw [List.length_take, List.length_drop]; omega
                rw [List.length_drop, hlen] at b
                refine ⟨fun r hr => ?_, by rw [hlen]; omega, by simp; omega⟩
                rcases List.mem_cons.1 hr with rfl | hr
                · exact ⟨by omega, by omega, fun x hx => hl x (List.mem_cons_of_mem _ (List.mem_of_mem_drop (List.mem_of_mem_take hx)))⟩
                · exact a r hr
theorem parseL_bd {l : List Nat} {rs : List (List Nat)} {p : Nat} (hl : ∀ x ∈ l, x < 256) (h : parseL l = some (rs, p)) : (∀ r ∈ rs, 1 ≤ r.length ∧ r.length ≤ 1048576 ∧ ∀ x ∈ r, x < 256) ∧ p ≤ l.length ∧ rs.length ≤ p := parse_bd _ l rs p hl h
section
variable {w0 w : World} {n : Nat} {d : Dk} {F L : List Nat}
/-- Open, where there is a log. -/
theorem in136 (S : DS w0 w n d F) (h3 : 3 ≤ d.bl.length) (hL : ∀ b ∈ L, b < w.heap.size) {K : Option Addr → Option Addr → Nat → Nat → Int → World → Prop}
    (k1 : ∀ w', parseL (areaL d (openA d)) = none → DS w0 w' n d F → Md [] w w' → K none none 0 0 210 w')
    (k2 : ∀ rs p ln a c bx w', parseL (areaL d (openA d)) = some (rs, p) → JS w0 w' n d F ln ⟨openA d, p, false⟩ → w.heap.size ≤ ln → ln < bx → RRo w' bx a c rs → Md [] w w' → K (some ⟨ln, 0, none⟩) a rs.length c 0 w') :
    CallW Try.prog L 136 #[.pointer (some ⟨n, 0, none⟩)] (fun v w' => opTu v fun cs => opP (nthD (Array.toList cs) 0) fun l => opL (nthD (Array.toList cs) 1) fun a m c => opI .i64 (nthD (Array.toList cs) 2) fun e => SzIs (Array.size cs) 3 (K l a m c e w')) w := by
  refine (f136_ok S (by omega)).call hL ?_
  rintro v w' h h'
  rcases h with ⟨hlt, _⟩ | ⟨_, hn, rfl⟩ | ⟨_, rs, p, ln, a, c, bx, hs, rfl, hb, hlo, hbx, hR⟩
  · omega
  · exact opTu_in <| opP_in <| opL_in <| opI_in <| SzIs_in rfl (k1 w' hn (S.md0 h') h')
  · exact opTu_in <| opP_in <| opL_in <| opI_in <| SzIs_in rfl (k2 rs p ln a c bx w' hs ⟨S.md0 h', hb, fun hx => by have := S.dk.lt _ hx; omega, by have := S.md.size; omega⟩ hlo hbx hR h')
theorem in136s (S : DS w0 w n d F) (h1 : 1 ≤ d.bl.length) (h3 : d.bl.length < 3) (hL : ∀ b ∈ L, b < w.heap.size) {K : Option Addr → Option Addr → Nat → Nat → Int → World → Prop}
    (k : ∀ w', DS w0 w' n d F → Md [] w w' → K none none 0 0 2 w') :
    CallW Try.prog L 136 #[.pointer (some ⟨n, 0, none⟩)] (fun v w' => opTu v fun cs => opP (nthD (Array.toList cs) 0) fun l => opL (nthD (Array.toList cs) 1) fun a m c => opI .i64 (nthD (Array.toList cs) 2) fun e => SzIs (Array.size cs) 3 (K l a m c e w')) w := by
  refine (f136_ok S h1).call hL ?_
  rintro v w' h h'
  rcases h with ⟨hlt, rfl⟩ | ⟨h, _⟩ | ⟨h, _⟩
  · exact opTu_in <| opP_in <| opL_in <| opI_in <| SzIs_in rfl (k w' (S.md0 h') h')
  · omega
  · omega
theorem flat_zBk : ∀ m : Nat, bytesB (List.replicate m zBk) = List.replicate (m * 64) 0
  | 0 => rfl
  | m + 1 => by
    have e : bytesB (List.replicate (m + 1) zBk) = List.replicate 64 0 ++ bytesB (List.replicate m zBk) := rfl
    rw [e, flat_zBk m, List.replicate_append_replicate]
    congr 1; omega
theorem areaL_new (x a : Nat) : ∃ k, areaL (newDk x) a = List.replicate k 0 := by
  unfold areaL newDk
  rw [List.drop_replicate, List.take_replicate]
  exact ⟨_, flat_zBk _⟩
theorem openA_new {x : Nat} (hx : 1 ≤ x) : openA (newDk x) = 0 := by
  obtain ⟨y, rfl⟩ : ∃ y, x = y + 1 := ⟨x - 1, by omega⟩
  rfl
theorem parse_zeros (k : Nat) : parseL (List.replicate k 0) = some ([], 0) := by
  cases k with
  | zero => rfl
  | succ k => rw [List.replicate_succ]; exact parse_zero _
theorem parse_new (x a : Nat) : parseL (areaL (newDk x) a) = some ([], 0) := by
  obtain ⟨k, hk⟩ := areaL_new x a
  rw [hk, parse_zeros]
theorem newDk_len (x : Nat) : (newDk x).bl.length = x := by simp [newDk]
theorem in124 {ln : Nat} {g : Lg} (S : JS w0 w n d F ln g) (h1 : 1 ≤ d.bl.length) (hpd : d.pd.length < 2 ^ 28) (ha : g.area ≤ 1) (hp : g.pos ≤ jsz d) (r : List Nat) (hr : ∀ x ∈ r, x < 256) {A : Option Addr} {C m : Nat} (hm : m = r.length) (ho : RowAt w A 1 b1 r) (hL : LF L w (ln :: F)) {K : Int → World → Prop}
    (k : ∀ F' w', JS w0 w' n (apD d g r).1 F' ln (apD d g r).2.1 → Md (ln :: F) w w' → Fr w F F' → LF L w' (ln :: F') → K (apD d g r).2.2 w') :
    CallW Try.prog L 124 #[.pointer (some ⟨ln, 0, none⟩), .slice A m C] (fun v w' => opI .i64 v fun x => K x w') w := by
  subst hm
  refine (f124_ok S h1 hpd ha hp r hr A C ho).callD (fun b hb => (hL b hb).1) (fun b hb => (hL b hb).2) ?_
  rintro v w' ⟨rfl, F', J, hf⟩ h'
  refine opI_in (k F' w' J h' hf (hL.fr (fun x hx => ?_) h'.size))
  rcases List.mem_cons.1 hx with rfl | hx
  · exact .inl (by simp)
  · exact (hf x hx).imp (fun h => List.mem_cons_of_mem _ h) id
end
def awG : Lg := ⟨0, 0, false⟩
def aw1 : Dk × Lg × Int := apD (newDk 3) awG [97, 98]
theorem aw_e : aw1.2.2 = 0 := by kernel_rfl
theorem aw_p : aw1.2.1.pos = 10 := by kernel_rfl
theorem aw_o : aw1.2.1.ov = false := by kernel_rfl
theorem aw_l : aw1.1.bl.length = 3 := by kernel_rfl
theorem aw_r : parseL (areaL aw1.1 (openA aw1.1)) = some ([[97, 98]], 10) := by kernel_rfl
theorem aw_s0 : sumL [] = 2166136261 := by kernel_rfl
theorem aw_s1 : sumL [97] = 3826002220 := by kernel_rfl
/-- Bytes of a text as it is written. -/
theorem lit51 (w : World) (l : List Nat) (C : Array Value) (n c : Nat) (hC : C.toList = l.flatMap b1) :
    ∃ w', (convert 51 51 (.slice (some ⟨w.heap.size, 0, none⟩) n c)).run Try.prog (w.alloc (.cells C 5)) = .ok (.slice (some ⟨w.heap.size, 0, none⟩) n c) w' ∧ Md [] w w' ∧ RowAt w' (some ⟨w.heap.size, 0, none⟩) 1 b1 l := by
  refine ⟨_, Go.Lib.run_convert_bytes_const w 51 5 C n c (by kernel_rfl) (by kernel_rfl), Md.alloc w _, fun i x hx => ⟨_, rfl, fun j u hu => ?_⟩⟩
  have hj : j < 1 := by have := (List.getElem?_eq_some_iff.1 hu).1; rwa [encb1.len x] at this
  have hj0 : j = 0 := by omega
  subst hj0
  rw [addr_add0, ad0, Nat.mul_one, World.cell?_alloc_mark, ← Array.getElem?_toList, hC]
  have := encb1.at l i 0 x hx (by omega)
  rw [Nat.mul_one, Nat.add_zero] at this
  rw [this, hu]
theorem f125_ok (w : World) : Ct Try.prog 125 #[] w fun v w' => v = .bool true ∧ Md [] w w' := by
  apply f125_in
  refine in109 (L := []) (Md.refl _ w) 3 (by omega) (by omega) (by simp) fun n F w2 S2 m2 hF => ?_
  have hA : openA (newDk 3) = 0 := openA_new (by omega)
  refine in136 S2 (by rw [newDk_len]; omega) (by simp) (fun w7 hn S7 m7 => by rw [parse_new] at hn; cases hn) fun rs p ln a c bx w7 hs J7 hlo hbx R7 m7 => ?_
  rw [parse_new] at hs
  simp only [Option.some.injEq, Prod.mk.injEq] at hs
  obtain ⟨rfl, rfl⟩ := hs
  rw [hA] at J7
  refine Nw_i ?_
  obtain ⟨w17, hr17, m17, r17⟩ := lit51 w7 [97, 98] #[Value.int IntKind.u8 (97 : Int), Value.int IntKind.u8 (98 : Int)] 2 2 rfl
  refine RunW_in hr17 (fun b hb => by cases hb) <| opL_in ?_
  have J17 := J7.md0 m17
  have e1 : apD (newDk 3) ⟨0, 0, false⟩ [97, 98] = aw1 := rfl
  refine in124 (L := []) J17 (by rw [newDk_len]; omega) (by simp [newDk]) (by simp) (by simp) [97, 98] (by simp) rfl r17 (LF.nil _ _) fun F2 w22 J22 m22 f22 _ => ?_
  rw [e1] at J22 ⊢
  rw [aw_e]
  have l22 := aw_l
  have q22 := aw_r
  have hp22 := aw_p
  have ho22 := aw_o
  generalize aw1 = x at *
  obtain ⟨d1, g1, e⟩ := x
  simp only at *
  have hj1 : jsz d1 = 64 := by unfold jsz half; rw [l22]
  have hr1 : roomD d1 g1 = 46 := by unfold roomD; rw [hj1, hp22, ho22]; decide
  refine in128 J22 (by omega) (by omega) (by simp) fun w25 J25 m25 => ?_
  rw [hr1]
  have mm25 : Md [] w w25 := J25.ds.md
  refine in136 J25.ds (by omega) (by simp) (fun w28 hn S28 m28 => by rw [q22] at hn; cases hn) fun rs p ln2 a2 c2 bx2 w28 hs J28 hlo2 hbx2 R28 m28 => ?_
  rw [q22] at hs
  simp only [Option.some.injEq, Prod.mk.injEq] at hs
  obtain ⟨rfl, rfl⟩ := hs
  have mm28 : Md [] w w28 := J28.ds.md
  refine in109 (L := []) mm28 2 (by omega) (by omega) (by simp) fun n3 F3 w36 S36 m36 hF3 => ?_
  refine in136s S36 (by rw [newDk_len]; omega) (by rw [newDk_len]; omega) (by simp) fun w41 S41 m41 => ?_
  refine Bd_t rfl <| Bd_t rfl <| Bd_t rfl <| Bd_e rfl <| Bd_t rfl <| Bd_t rfl <| Bd_t rfl <| Bd_t rfl <| Bd_t rfl <| Bd_t rfl <| Bd_t rfl <| Bd_t rfl <| Gd_t <| Nw_i <| Gd_t ?_
  have mT := Md.alloc (M := []) w41 (.cells #[Value.string (ByteArray.mk #[(97 : UInt8), (98 : UInt8)])] 9)
  have oT := OwnL.lit (P := Try.prog) (base := 0) enctE w41 9 [[97, 98]] #[Value.string (ByteArray.mk #[(97 : UInt8), (98 : UInt8)])] (by omega) (by simp [maxLen]) rfl
  have R41 := ((R28.md m36).md m41).md mT
  refine (f140_ok [[97, 98]] [[97, 98]] (by simp) (by simp) (by simp) bx2 a2 c2 (some ⟨w41.heap.size, 0, none⟩) 1 _ R41 (oT.row enctE)).call (by simp) ?_
  rintro v w67 rfl m67
  refine opB_in <| Bd_t (by simp) <| Bd_t rfl <| Bd_t rfl <| Gd_t <| (f138_ok [] (by simp) (by simp) none 0 w67 (fun i x hx => by simp at hx)).call (by simp) ?_
  rintro v w76 rfl m76
  refine opI_in <| Bd_t (by rw [aw_s0]; rfl) <| Bd_t rfl <| Gd_t <| Nw_i <| Gd_t ?_
  obtain ⟨w89, hr89, m89, r89⟩ := lit51 w76 [97] #[Value.int IntKind.u8 (97 : Int)] 1 1 rfl
  refine RunW_in hr89 (fun b hb => by cases hb) <| opL_in <| Gd_t ?_
  refine (f138_ok [97] (by simp) (by simp) (some ⟨w76.heap.size, 0, none⟩) 1 w89 r89).call (by simp) ?_
  rintro v w97 rfl m97
  exact opI_in <| Bd_t (by rw [aw_s1]; rfl) <| Bd_t rfl ⟨rfl, ((((((mm28.trans m36).trans m41).trans mT).trans m67).trans m76).trans m89).trans m97⟩
theorem in125 {w0 w : World} {L : List Nat} (h : Md [] w0 w) (hL : ∀ b ∈ L, b < w.heap.size) {K : Bool → World → Prop} (k : ∀ w', Md [] w0 w' → Md [] w w' → K true w') : CallW Try.prog L 125 #[] (fun v w' => opB v fun b => K b w') w := by
  refine (f125_ok w).call hL ?_
  rintro v w' rfl h'
  exact opB_in (k w' (h.trans h') h')
end Fk
