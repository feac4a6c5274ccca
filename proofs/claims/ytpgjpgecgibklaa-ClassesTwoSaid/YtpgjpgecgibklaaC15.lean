/- The law 'ClassesTwo': what its code does. -/
import Derived.Test.YtpgjpgecgibklaaC14
import Derived.Test.YtpgjpgecgibklaaP2
import Derived.Laws.IdiomStrings
set_option linter.unusedVariables false
set_option linter.unusedSimpArgs false
set_option maxRecDepth 100000
namespace Fk
open Go Go.Proofs Go.RowKit
theorem one_string (w : World) (b : Nat) (hb : b < 256) : (convert 51 9 (.slice (some { block := w.heap.size, off := 0 }) 1 1)).run Try.prog (w.alloc (.cells #[.int .u8 (b : Int)] 5)) = .ok (.string ⟨#[UInt8.ofNat b]⟩) (w.alloc (.cells #[.int .u8 (b : Int)] 5)) := by
  refine run_convert_bytes_back (P := Try.prog) _ 51 9 5 ⟨w.heap.size, 0, none⟩ 1 [UInt8.ofNat b] (by kernel_rfl) (by kernel_rfl) (by kernel_rfl) ?_
  intro j hj
  have : j = 0 := by simp at hj; omega
  subst this
  rw [alloc_at w _ 5 0 0 (u := .int .u8 (b : Int)) rfl]
  simp [UInt8.toNat_ofNat', Nat.mod_eq_of_lt hb]
theorem one_bytes (b : Nat) (hb : b < 256) : bytesL ⟨#[UInt8.ofNat b]⟩ = [b] := by
  simp [bytesL, UInt8.toNat_ofNat', Nat.mod_eq_of_lt hb]
def topQ : Q4 := (0, 0, 0, 9223372036854775808)
theorem f7_ok (q : Q4) (hq : okQ q) (many : Nat) (hmn : many < 256) (w : World) :
    Ct Try.prog 7 #[.agg #[.int .u64 q.1, .int .u64 q.2.1, .int .u64 q.2.2.1, .int .u64 q.2.2.2], .int .u8 many] w fun v w' => v = .bool true ∧ Md [] w w' := by
  apply f7_in
  intro n1 hn1 w2 h2 hL2
  have g2 : Good [n1] w w2 := ⟨h2, hL2⟩
  refine RunW_in0 (eq28 ..) ?_
  refine opB_in <| If_in (fun _ => in39 g2 fun w7 g7 => ⟨rfl, g7.1⟩) fun hz => ?_
  have hz4 : z4 q.1 q.2.1 q.2.2.1 q.2.2.2 = false := hz
  refine in51 q g2 fun w10 g10 => ?_
  intro n20 w21 e20 e21
  subst e20; subst e21
  have hT1 := OwnL.lit (P := Try.prog) (base := w10.heap.size) enc6 w10 42 [leaf q] _ (Nat.le_refl _) (by simp [maxLen]) rfl
  have hrep1 : RepF _ _ 0 (leafFo [q]) := TrF.rep (hT1.row enc6) (leaf_F _ [q]) rfl
  have hr1 : (leafFo [q]).right = true := leafFo_right _ (by simpa using hz4)
  refine in40n (leafFo [q]) 1 rfl _ 1 (by rw [leafFo_len]; simp) (by rw [leafFo_size]; simp) (g10.alloc _) hrep1 fun w23 c1 e1 g23 hc1 hy1 _ => ?_
  obtain ⟨rfl, rfl⟩ := hy1 hr1
  rw [clOf_ref, leafFo_sets] at hc1 ⊢
  refine ⟨hc1.size, fun n27 hn27 => OkC_in hc1.cells ?_⟩
  refine Jn_in (fun us vs w' => us = [.int .i64 (if full q = true then 1 else 2)] ∧ Good [n27, n1] w w') ?_ ?_
  rotate_left
  · intro w191 h191 hL191
    have g191 := regUp g23 hn27 h191 hL191
    refine RunW_in0 (eq28 ..) ?_
    refine opB_in <| If_in (fun h => ⟨?_, g191⟩) fun h => ⟨?_, g191⟩
    · have : full q = true := h
      rw [if_pos this]
    · have : full q = false := h
      rw [if_neg (by simp [this])]
  rintro us vs w30 ⟨rfl, g30⟩
  refine opI_in <| Bd_in fun x32 hx32 => ?_
  rw [wrap_byte hmn] at hx32
  subst hx32
  have hn27' : n27 < w30.heap.size := g30.2 _ (by simp)
  have hn1' : n1 < w30.heap.size := g30.2 _ (by simp)
  refine LoopP_in (fun m us vs w' => ∃ (i : Nat) (a : Option Addr) (c : Nat), us = [.slice a ((singles i).map leaf).length c, .int .i64 i] ∧ vs = [] ∧ m = many - i ∧ i ≤ many ∧ OwnT w' w30.heap.size a c ((singles i).map leaf) ∧ Md [] w30 w')
    many ⟨0, none, 0, rfl, rfl, rfl, by omega, OwnL.nil .., Md.refl _ _⟩ ?_
  rintro m us vs w36 ⟨i, a37, c37, rfl, rfl, rfl, hi, ho36, h36⟩
  have hlen : ∀ i, ((singles i).map leaf).length = i := fun i => by simp [singles]
  have g36 : Good [n27, n1] w36 w36 := ⟨Md.refl _ _, fun b hb => Nat.lt_of_lt_of_le (g30.2 b hb) h36.size⟩
  have hA37 : ∀ B, a37 = some B → w30.heap.size ≤ B.block ∧ B.block < w36.heap.size := fun B hB => ho36.lt hB
  refine opL_in <| opI_in <| Bd_in fun b41 hb41 => If_in (fun hb' => Bd_in fun x42 hx42 => ?_) fun hb' => ?_
  · subst hb41
    simp only [decide_eq_true_eq, Int.ofNat_lt] at hb'
    have e42 : x42 = (i : Int) := by rw [hx42, IntKind.wrap_u8]; omega
    subst e42
    intro n43 w44 e43 e44
    subst e43; subst e44
    refine RunW_in0 (one_string w36 i (by omega)) ?_
    refine opStr_in ?_
    have g44 := g36.alloc (.cells #[.int .u8 (i : Int)] 5)
    have ho44 := ho36.md (Md.alloc w36 (.cells #[.int .u8 (i : Int)] 5))
    refine (f52_ok ⟨#[UInt8.ofNat i]⟩ (by simp [ByteArray.size]) _).call g44.2 ?_
    rintro v48 w49 rfl h49
    rw [one_bytes i (by omega)]
    refine opAg_in ?_
    refine opI_in ?_
    refine opI_in ?_
    refine opI_in ?_
    refine opI_in ?_
    refine SzIs_in rfl ?_
    have g49 := g44.tr h49
    refine in51 (setQ [i]) g49 fun w56 g56 => ?_
    have ho56 := ho36.md g56.1
    refine app_one rowT22 enc6 (leaf (setQ [i])) rfl ho56 (Nat.le_trans h36.size g56.1.size) g56.2 ?_ (by rw [hlen]; simp [maxLen]; omega) (by rw [hlen]; omega) ?_
    · intro b hb B hB
      have := (hA37 B hB).1
      simp at hb
      omega
    intro a70 c70 w69 ho69 hm69 _
    have es : (singles i).map leaf ++ [leaf (setQ [i])] = (singles (i + 1)).map leaf := by rw [singles_succ, List.map_append]; rfl
    rw [es] at ho69 ⊢
    refine opL_in <| Bd_in fun x73 hx73 => ?_
    rw [inc_i64 (by omega)] at hx73
    subst hx73
    exact ⟨many - (i + 1), by omega, i + 1, a70, c70, rfl, rfl, rfl, by omega, ho69, (h36.trans g56.1).own ho56 hm69⟩
  · subst hb41
    simp only [decide_eq_false_iff_not, Int.ofNat_lt] at hb'
    have hi2 : i = many := by omega
    subst hi2
    have hrepS : RepF w36 a37 0 (leafFo (singles i)) := TrF.rep (ho36.row enc6) (leaf_F _ _) rfl
    have hLl : (leafFo (singles i)).len = ((singles i).map leaf).length := by rw [leafFo_len, List.length_map]
    have hsl : (singles i).length = i := by simp [singles]
    refine in40n (leafFo (singles i)) _ hLl a37 c37 (by rw [leafFo_len]; omega) (by rw [leafFo_size]; omega) g36 hrepS fun w75 c2 e2 g75 hc2 hy2 _ => ?_
    obtain ⟨rfl, rfl⟩ := hy2 (leafFo_right _ (singles_full i (by omega)))
    rw [clOf_ref, leafFo_sets] at hc2 ⊢
    obtain ⟨hcf, hcm⟩ := singles_cl i (by omega)
    refine ⟨hc2.size, fun n79 hn79 => OkC_in hc2.cells <| Bd_in fun b80 hb80 => Bd_in fun b81 hb81 => Bd_in fun b82 hb82 => ⟨fun _ => hc1.manyI.1, Bd_in fun x84 hx84 => Bd_in fun b85 hb85 => Bd_in fun b86 hb86 => ⟨fun _ => hc2.manyI.1, Bd_in fun x88 hx88 => Bd_in fun x89 hx89 => Bd_in fun x90 hx90 => Bd_in fun b91 hb91 => Bd_in fun b92 hb92 => ?_⟩⟩⟩
    have t92 : b92 = false := by
      rw [hb92, hb91, hb86, hb85, hb82, hb81, hb80, hx90, hx89, hx88, hx84, hc1.manyI.2, hc2.manyI.2, wrap_byte hmn, inc_i64 (by omega), hcm, two_many hq hz4]
      simp
    clear hb92
    refine If_in (fun h => absurd h (by simp [t92])) fun _ w94 h94 hL94 => ?_
    have g94 := regUp g75 hn79 h94 hL94
    refine LoopP_in (fun m us vs w' => ∃ j : Nat, us = [.bool false, .int .i64 j] ∧ vs = [] ∧ m = 256 - j ∧ j ≤ 256 ∧ w' = w94) 256 ⟨0, rfl, rfl, rfl, by omega, rfl⟩ ?_
    rintro m us vs w98 ⟨j, rfl, rfl, rfl, hj, rfl⟩
    refine opB_in <| opI_in <| Bd_in fun b101 hb101 => If_in (fun hb' => ?_) fun hb' => ?_
    · subst hb101
      simp only [decide_eq_true_eq] at hb'
      have hj' : j < (refCl (singles i)).f.length := by rw [hc2.len]; omega
      have hx : (refCl (singles i)).f[j] = min j i := by simp [hcf]
      refine ⟨⟨by omega, by omega⟩, BdO_in (hc2.nth' hj') ?_⟩
      refine opI_in <| Bd_in fun x104 hx104 => Bd_in fun x105 hx105 => Bd_in fun x106 hx106 => Bd_in fun b107 hb107 => ?_
      have t107 : b107 = false := by
        rw [hb107, hx106, hx105, hx104, hx, wrap_byte (by omega), wrap_byte hmn]
        by_cases hji : (i : Int) < (j : Int)
        · rw [if_pos hji]; simp; omega
        · rw [if_neg hji]; simp; omega
      refine If_in (fun h => absurd h (by simp [t107])) fun _ => Bd_in fun x108 hx108 => ?_
      rw [inc_i64 (by omega)] at hx108
      subst hx108
      exact ⟨256 - (j + 1), by omega, j + 1, rfl, rfl, rfl, by omega, rfl⟩
    refine in51 q g94 fun w110 g110 => ?_
    have ho110 := ho36.md g110.1
    have hA37' : ∀ b ∈ [n79, n27, n1], ∀ B, a37 = some B → B.block ≠ b := by
      intro b hb B hB
      have h1 := hA37 B hB
      have h2 := g75.1.size
      simp at hb
      omega
    refine app_one rowT22 enc6 (leaf q) rfl ho110 (Nat.le_trans h36.size g110.1.size) g110.2 hA37' (by rw [hlen]; simp [maxLen]; omega) (by rw [hlen]; omega) ?_
    intro a124 c124 w123 ho123 hm123 hA124
    have h123 : Md [] w30 w123 := (h36.trans g110.1).own ho110 hm123
    have hL123 : ∀ b ∈ [n79, n27, n1], b < w123.heap.size := fun b hb => Nat.lt_of_lt_of_le (g110.2 b hb) hm123.size
    refine opL_in ?_
    have g123 : Good [n79, n27, n1] w123 w123 := ⟨Md.refl _ _, hL123⟩
    refine in51 topQ g123 fun w128 g128 => ?_
    have ho128 := ho123.md g128.1
    have hA124' : ∀ b ∈ [n79, n27, n1], ∀ B, a124 = some B → B.block ≠ b := by
      intro b hb B hB
      rcases hA124 B hB with h | h
      · exact hA37' b hb B h
      · have := g110.2 b hb; omega
    have hlen2 : ((singles i).map leaf ++ [leaf q]).length = i + 1 := by rw [List.length_append, hlen]; rfl
    refine app_one rowT22 enc6 (leaf topQ) rfl ho128 (Nat.le_trans h123.size g128.1.size) g128.2 hA124' (by rw [hlen2]; simp [maxLen]; omega) (by rw [hlen2]; omega) ?_
    intro a142 c142 w141 ho141 hm141 hA142
    have h141 : Md [] w30 w141 := (h123.trans g128.1).own ho128 hm141
    have hL141 : ∀ b ∈ [n79, n27, n1], b < w141.heap.size := fun b hb => Nat.lt_of_lt_of_le (g128.2 b hb) hm141.size
    have g141 : Good [n79, n27, n1] w141 w141 := ⟨Md.refl _ _, hL141⟩
    have es : (singles i).map leaf ++ [leaf q] ++ [leaf topQ] = (singles i ++ [q, topQ]).map leaf := by simp
    rw [es] at ho141 ⊢
    have hrepA : RepF w141 a142 0 (leafFo (singles i ++ [q, topQ])) := TrF.rep (ho141.row enc6) (leaf_F _ _) rfl
    have hLa : (leafFo (singles i ++ [q, topQ])).len = ((singles i ++ [q, topQ]).map leaf).length := by rw [leafFo_len, List.length_map]
    have hrA : (leafFo (singles i ++ [q, topQ])).right = true := leafFo_right _ fun s hs => by
      rcases List.mem_append.1 hs with h | h
      · exact singles_full i (by omega) s h
      · simp at h
        rcases h with rfl | rfl
        · exact hz4
        · rfl
    refine opL_in ?_
    refine in40n (leafFo (singles i ++ [q, topQ])) _ hLa a142 c142 (by rw [leafFo_len, List.length_append, hsl]; simp; omega) (by rw [leafFo_size, List.length_append, hsl]; simp; omega) g141 hrepA fun w146 c3 e3 g146 hc3 hy3 _ => ?_
    obtain ⟨rfl, rfl⟩ := hy3 hrA
    rw [clOf_ref, leafFo_sets] at hc3 ⊢
    refine ⟨hc3.size, fun n150 hn150 => OkC_in hc3.cells <| Bd_in fun b151 hb151 => ⟨fun _ => hc3.size, fun w153 h153 hL153 => ?_⟩⟩
    have g153 := regUp g146 hn150 h153 hL153
    have t151 : b151 = true := by rw [hb151]; rfl
    clear hb151
    subst t151
    refine ⟨fun _ => in46 _ hc3 q g153 fun w156 g156 => Bd_in fun b160 hb160 => ⟨fun _ => hc3.size, ?_⟩, fun h => by cases h⟩
    have t160 : b160 = true := by rw [hb160, ref_fits _ q (by simp)]; rfl
    clear hb160
    subst t160
    refine ⟨fun _ => in46 _ hc3 (0, 0, 0, 0) g156 fun w164 g164 => Bd_in fun b168 hb168 => ⟨fun _ => hc3.size, ?_⟩, fun h => by cases h⟩
    have t168 : b168 = true := by rw [hb168, fits_none]; rfl
    clear hb168
    subst t168
    refine ⟨fun _ => in46 _ hc3 topQ g164 fun w172 g172 => Bd_in fun b176 hb176 => ⟨fun _ => hc3.manyI.1, Bd_in fun x178 hx178 => ⟨fun _ => hc2.manyI.1, Bd_in fun x180 hx180 => Bd_in fun b181 hb181 => Bd_in fun b182 hb182 => ?_⟩⟩, fun h => by cases h⟩
    have t182 : b182 = true := by
      have := ref_many_mono (singles i) [q, topQ]
      rw [hb182, hb181, hx180, hx178, hc3.manyI.2, hc2.manyI.2, hb176, ref_fits _ topQ (by simp)]
      simp; omega
    clear hb182
    subst t182
    exact ⟨fun _ => in39 g172 fun w185 g185 => Bd_in fun b189 hb189 => ⟨by rw [hb189]; rfl, g30.1.trans (h141.trans g185.1)⟩, fun h => by cases h⟩
end Fk
