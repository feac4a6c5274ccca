/- Which pieces of a text a tree has: rows of bits, their contracts. -/
import Derived.Test.YtpgjpgecgibklaaN29
import Derived.Test.YtpgjpgecgibklaaV20
set_option linter.unusedVariables false
set_option linter.unusedSimpArgs false
set_option maxRecDepth 100000
set_option maxHeartbeats 2000000
namespace Fk
open Go Go.Proofs Go.RowKit
def uE (x : Nat) : List Value := [.int .u64 (x : Int)]
theorem encuE : Enc 1 uE := ⟨fun _ => rfl, by intro x v hv; simp [uE] at hv; subst hv; rfl⟩
theorem rowT84 : RowT Try.prog 84 26 1 8 := RowT.of (by kernel_rfl) (by kernel_rfl) (by kernel_rfl) (by omega)
theorem uE_map (l : List Nat) : l.flatMap uE = l.map fun x : Nat => Value.int .u64 (x : Int) := by
  induction l with
  | nil => rfl
  | cons x l ih => rw [List.flatMap_cons, ih]; rfl
theorem madeU (m : Nat) (w : World) (hm : m < 2 ^ 20) : ∃ w', (Instr.makeSlice 84 (.int .i64 (m : Int)) (.int .i64 (m : Int))).run Try.prog w = .ok (.slice (some ⟨w.heap.size, 0, none⟩) m m) w' ∧ OwnL w' w.heap.size 26 1 uE (some ⟨w.heap.size, 0, none⟩) m (List.replicate m 0) ∧ Md [] w w' := by
  have h4 : (Try.prog.info? 26).isSome = true := by kernel_rfl
  obtain ⟨i4, hi4⟩ := Option.isSome_iff_exists.1 h4
  have hz4 : (Try.prog.info? 26).bind (·.zero) = some (.int .u64 0) := by kernel_rfl
  have hs4 : (Try.prog.info? 26).map (fun i => (i.size, i.bytes)) = some (1, 8) := by kernel_rfl
  rw [hi4] at hz4 hs4
  simp only [Option.bind_some, Option.map_some, Option.some.injEq, Prod.mk.injEq] at hz4 hs4
  obtain ⟨w3, hrun, hown, hgr⟩ := run_makeSlice_full (P := Try.prog) w w.heap.size 84 26 i4 (.int .u64 0) 1 (by kernel_rfl) hi4 hz4 hs4.1 .i64 .i64 m (by omega) (by rw [hs4.2]; omega) (by simp [maxLen]; omega) (Nat.le_refl _)
  refine ⟨w3, hrun, ?_, Md_of_grown hgr⟩
  have hmc : (madeCells (Value.int .u64 0).cells (m * 1)).toList = (List.replicate m 0).flatMap uE := by
    rw [uE_map, List.map_replicate, Nat.mul_one]
    exact toList_madeCells_one _ m
  unfold OwnL
  rw [← hmc, List.length_replicate]; exact hown
theorem bitN (x j : Nat) (hj : j < 64) : (IntKind.wrap .u64 ((BitVec.toNat (BitVec.ofInt 64 (Int.fdiv (x : Int) (2 ^ min (Int.toNat (j : Int)) 64)) &&& BitVec.ofInt 64 1) : Nat) : Int) == 1) = x.testBit j := by
  rw [u64_and, bit_and_one, Int.toNat_natCast, Nat.min_eq_left (by omega), Int.fdiv_eq_ediv_of_nonneg _ (Int.pow_nonneg (by decide))]
  have h1 : (2 : Int) ^ j = ((2 ^ j : Nat) : Int) := by simp
  rw [h1]
  have h2 : ((x : Int) / ((2 ^ j : Nat) : Int)) % 2 = ((x / 2 ^ j % 2 : Nat) : Int) := by omega
  rw [h2, Nat.testBit_eq_decide_div_mod_eq, Bool.eq_iff_iff]
  generalize x / 2 ^ j % 2 = m
  simp
  omega
theorem orN (x y : Nat) (hx : x < 2 ^ 64) (hy : y < 2 ^ 64) : IntKind.wrap .u64 ((BitVec.toNat (BitVec.ofInt 64 (x : Int) ||| BitVec.ofInt 64 (y : Int)) : Nat) : Int) = ((x ||| y : Nat) : Int) := by
  have h : x ||| y < 2 ^ 64 := Nat.or_lt_two_pow hx hy
  have e : BitVec.toNat (BitVec.ofInt 64 (x : Int) ||| BitVec.ofInt 64 (y : Int)) = x ||| y := by
    rw [BitVec.toNat_or, BitVec.ofInt_natCast, BitVec.ofInt_natCast, BitVec.toNat_ofNat, BitVec.toNat_ofNat, Nat.mod_eq_of_lt hx, Nat.mod_eq_of_lt hy]
  rw [e, IntKind.wrap_u64]
  generalize x ||| y = m at *
  omega
theorem powN (j : Nat) (hj : j < 64) : IntKind.wrap .u64 (1 * 2 ^ min (Int.toNat (j : Int)) 64) = ((2 ^ j : Nat) : Int) := by
  have h2 : 2 ^ j < 2 ^ 64 := Nat.pow_lt_pow_right (by decide) hj
  have h1 : (2 : Int) ^ j = ((2 ^ j : Nat) : Int) := by simp
  rw [Int.toNat_natCast, Nat.min_eq_left (by omega), Int.one_mul, h1, IntKind.wrap_u64]
  generalize 2 ^ j = m at *
  omega
theorem f75_ok (R : List Nat) (A : Option Addr) (C i j : Nat) (hi : i < R.length) (hj : j < 64) (w : World) (hr : RowAt w A 1 uE R) : Ct Try.prog 75 #[.slice A R.length C, .int .i64 i, .int .i64 j] w fun v w' => v = .bool (R[i].testBit j) ∧ Md [] w w' := by
  apply f75_in
  refine ⟨hr.ix hi, hr.ld1 hi rfl <| opI_in ⟨by omega, Bd_in fun x3 h3 => Bd_in fun x4 h4 => Bd_in fun b5 h5 => ⟨?_, Md.refl _ _⟩⟩⟩
  rw [h5, h4, h3, bitN _ _ hj]
theorem f174_ok (n : Nat) (hn : n < 2 ^ 19) (w : World) : Ct Try.prog 174 #[.int .i64 n] w fun v w' => (∃ a c, v = .slice a (noneR n).length c ∧ OwnL w' w.heap.size 26 1 uE a c (noneR n)) ∧ Md [] w w' := by
  apply f174_in
  obtain ⟨w', h1, h2, h3⟩ := madeU (n + 1) w (by omega)
  refine Bd_e (y := ((n + 1 : Nat) : Int)) (by rw [IntKind.wrap_i64]; omega) <| RunW_in h1 (fun b hb => by simp at hb) <| opL_in ⟨⟨_, n + 1, ?_, h2⟩, h3⟩
  simp [noneR]
theorem still_get {n i : Nat} (h : i ≤ n) : (stillR n)[i]? = some (2 ^ i) := by
  unfold stillR
  rw [List.getElem?_map, List.getElem?_range (by omega)]
  rfl
theorem f175_ok (n : Nat) (hn : n < 63) (w : World) : Ct Try.prog 175 #[.int .i64 n] w fun v w' => (∃ a c, v = .slice a (stillR n).length c ∧ OwnL w' w.heap.size 26 1 uE a c (stillR n)) ∧ Md [] w w' := by
  apply f175_in
  refine (f174_ok n (by omega) w).call (by simp) ?_
  rintro v w2 ⟨a, c, rfl, own⟩ m2
  have hl : (noneR n).length = n + 1 := by simp [noneR]
  refine opL_in <| Bd_e rfl ?_
  refine LoopP_in (fun mm us vs w' => ∃ (i : Nat) (O : List Nat), us = [.int .i64 i] ∧ mm = n + 1 - i ∧ i ≤ n + 1 ∧ O.length = n + 1 ∧ (∀ j, j < i → O[j]? = some (2 ^ j)) ∧ OwnL w' w.heap.size 26 1 uE a c O ∧ Md [] w w') (n + 1)
    ⟨0, noneR n, rfl, rfl, by omega, hl, fun j hj => by omega, own, m2⟩ ?_
  rintro mm us vs w10 ⟨i, O, rfl, hmm, hi, hO, hOj, ho, hmd⟩
  refine opI_in <| Bd_in fun b12 hb12 => If_in (fun hb => ?_) fun hb => ?_
  · have hi' : i < n + 1 := by rw [hb12, hl] at hb; have := of_decide_eq_true hb; omega
    have hix := (ho.row encuE).ix (i := i) (by omega)
    rw [hO] at hix
    obtain ⟨A, hA, p1, p2, p3, p4, p5, p6⟩ := ho.put encuE (by omega) (i := i) (by omega) (2 ^ i)
    rw [hl]
    refine ⟨by omega, Bd_e (powN i (by omega)) ⟨hix, by simp, p4, Bd_e (inc_i64 (by omega)) ⟨n + 1 - (i + 1), by omega, i + 1, O.set i (2 ^ i), rfl, rfl, by omega, by simp [hO], fun j hj => ?_, p5, hmd.old p6 (by simpa using p2)⟩⟩⟩
    by_cases hji : j = i
    · subst hji; rw [List.getElem?_set_self (by omega)]
    · rw [List.getElem?_set_ne (by omega)]; exact hOj j (by omega)
  · have hif : i = n + 1 := by rw [hb12, hl] at hb; have := of_decide_eq_false hb; omega
    subst hif
    have e : O = stillR n := by
      apply List.ext_getElem?
      intro j
      by_cases hj : j < n + 1
      · rw [hOj j hj, still_get (by omega)]
      · rw [List.getElem?_eq_none (by omega), List.getElem?_eq_none (by simp [stillR]; omega)]
    subst e
    refine ⟨⟨a, c, ?_, ho⟩, hmd⟩
    rw [hl, hO]
theorem thenR_len (a b : List Nat) : (thenR a b).length = a.length := by simp [thenR]
theorem set_grow {l X : List Nat} {i : Nat} {x : Nat} (hl : l.length = X.length) (hi : i < X.length) (h : ∀ j, j < i → l[j]? = X[j]?) (hx : X[i]? = some x) : ∀ j, j < i + 1 → (l.set i x)[j]? = X[j]? := by
  intro j hj
  by_cases c : j = i
  · subst c; rw [List.getElem?_set_self (by omega), hx]
  · rw [List.getElem?_set_ne (by omega)]; exact h j (by omega)
theorem f176_ok (a b : List Nat) (A B : Option Addr) (C D : Nat) (ha : a.length ≤ 63) (hb : b.length ≤ 63) (hb64 : ∀ y ∈ b, y < 2 ^ 64) (w : World) (hA : RowAt w A 1 uE a) (hB : RowAt w B 1 uE b) :
    Ct Try.prog 176 #[.slice A a.length C, .slice B b.length D] w fun v w' => (∃ x c, v = .slice x (thenR a b).length c ∧ OwnL w' w.heap.size 26 1 uE x c (thenR a b)) ∧ Md [] w w' := by
  apply f176_in
  obtain ⟨w3, h1, h2, h3⟩ := madeU a.length w (by omega)
  refine Bd_e rfl <| RunW_in h1 (fun b hb => by simp at hb) <| opL_in <| Bd_e rfl ?_
  generalize hx0 : (some (Addr.mk w.heap.size 0 none)) = x0 at *
  refine LoopP_in (fun mm us vs w' => ∃ (i : Nat) (O : List Nat), us = [.int .i64 i] ∧ mm = a.length - i ∧ i ≤ a.length ∧ O.length = a.length ∧ (∀ j, j < i → O[j]? = (thenR a b)[j]?) ∧ (∀ j, i ≤ j → j < a.length → O[j]? = some 0) ∧ OwnL w' w.heap.size 26 1 uE x0 a.length O ∧ Md [] w w') a.length
    ⟨0, List.replicate a.length 0, rfl, rfl, by omega, by simp, fun j hj => by omega, fun j _ hj => by simp [hj], h2, h3⟩ ?_
  rintro mm us vs w11 ⟨i, O, rfl, hmm, hi, hO, hOj, hO0, ho, hmd⟩
  refine opI_in <| Bd_in fun b13 hb13 => If_in (fun hb => ?_) fun hb => ?_
  case refine_2 =>
    have hif : i = a.length := by rw [hb13] at hb; have := of_decide_eq_false hb; omega
    subst hif
    have e : O = thenR a b := by
      apply List.ext_getElem?
      intro j
      by_cases hj : j < a.length
      · exact hOj j hj
      · rw [List.getElem?_eq_none (by omega), List.getElem?_eq_none (by rw [thenR_len]; omega)]
    subst e
    refine ⟨⟨x0, a.length, ?_, ho⟩, hmd⟩
    rw [thenR_len]
  have hia : i < a.length := by rw [hb13] at hb; have := of_decide_eq_true hb; omega
  refine ⟨hA.ix hia, (hA.md hmd).ld1 hia rfl <| opI_in <| Bd_e rfl ?_⟩
  refine LoopP_in (fun mm us vs w' => ∃ (k acc : Nat), us = [.int .i64 k] ∧ mm = b.length - k ∧ k ≤ b.length ∧ orB a[i] (b.drop k) k acc = orB a[i] b 0 0 ∧ acc < 2 ^ 64 ∧ OwnL w' w.heap.size 26 1 uE x0 a.length (O.set i acc) ∧ Md [] w w') b.length
    ⟨0, 0, rfl, rfl, by omega, by simp, by decide, ?_, hmd⟩ ?_
  · have : O.set i 0 = O := by
      apply List.ext_getElem?
      intro j
      rw [List.getElem?_set]
      split
      · rename_i e; subst e
        rw [if_pos (by omega), hO0 i (Nat.le_refl _) hia]
      · rfl
    rw [this]; exact ho
  rintro mm us vs w20 ⟨k, acc, rfl, hmm2, hk, hc, hacc, hown, hmd2⟩
  refine opI_in <| Bd_in fun b22 hb22 => If_in (fun hb => ?_) fun hb => ?_
  · have hkb : k < b.length := by rw [hb22] at hb; have := of_decide_eq_true hb; omega
    have hy := hb64 _ (List.getElem_mem hkb)
    rw [List.drop_eq_getElem_cons hkb] at hc
    refine Jn_in (fun us vs w' => ∃ (x y : Int) (acc' : Nat), us = [.int .i64 x, .int .u64 y] ∧ orB a[i] (b.drop (k + 1)) (k + 1) acc' = orB a[i] b 0 0 ∧ acc' < 2 ^ 64 ∧ OwnL w' w.heap.size 26 1 uE x0 a.length (O.set i acc') ∧ Md [] w w') ?_ ?_
    · rintro us vs w25 ⟨x, y, acc', rfl, q1, q2, q3, q4⟩
      exact opI_in <| opI_in <| Bd_e (inc_i64 (by omega)) ⟨b.length - (k + 1), by omega, k + 1, acc', rfl, rfl, by omega, q1, q2, q3, q4⟩
    refine ⟨hB.ix hkb, (hB.md hmd2).ld1 hkb rfl <| opI_in ⟨by omega, Bd_in fun x32 h32 => Bd_in fun x33 h33 => Bd_in fun b34 h34 => ?_⟩⟩
    have e34 : b34 = a[i].testBit k := by rw [h34, h33, h32, bitN _ _ (by omega)]
    rw [show orB a[i] (b[k] :: b.drop (k + 1)) k acc = orB a[i] (b.drop (k + 1)) (k + 1) (if a[i].testBit k = true then acc ||| b[k] else acc) from rfl] at hc
    have hlen : (O.set i acc).length = a.length := by simp [hO]
    have hii : i < (O.set i acc).length := by omega
    have hix := (hown.row encuE).ix hii
    rw [hlen] at hix
    refine If_in (fun hb => ?_) fun hb => ?_
    · rw [e34] at hb
      rw [if_pos hb] at hc
      refine ⟨hix, (hown.row encuE).ld1 hii (v := .int .u64 (acc : Int)) (by simp [uE]) <| opI_in <| Bd_e (orN acc b[k] hacc hy) ⟨hix, by simp, ?_⟩⟩
      obtain ⟨A', hA', p1, p2, p3, p4, p5, p6⟩ := hown.put encuE (by omega) hii (acc ||| b[k])
      rw [List.set_set] at p5
      exact ⟨p4, _, _, _, rfl, hc, Nat.or_lt_two_pow hacc hy, p5, hmd2.old p6 (by simpa using p2)⟩
    · rw [e34] at hb
      rw [if_neg (by rw [hb]; simp)] at hc
      exact ⟨_, _, acc, rfl, hc, hacc, hown, hmd2⟩
  · have hkf : k = b.length := by rw [hb22] at hb; have := of_decide_eq_false hb; omega
    subst hkf
    rw [List.drop_of_length_le (Nat.le_refl _)] at hc
    have hc : acc = orB a[i] b 0 0 := hc
    have hgi : (thenR a b)[i]? = some acc := by simp [thenR, hia, hc]
    refine Bd_e (inc_i64 (by omega)) ⟨a.length - (i + 1), by omega, i + 1, O.set i acc, rfl, rfl, by omega, by simp [hO], set_grow (by rw [thenR_len]; exact hO) (by rw [thenR_len]; exact hia) hOj hgi, fun j h1 h2 => ?_, hown, hmd2⟩
    rw [List.getElem?_set_ne (by omega)]
    exact hO0 j (by omega) h2
theorem f177_ok (a b : List Nat) (A B : Option Addr) (C D : Nat) (ha : a.length ≤ 63) (hab : b.length = a.length) (ha64 : ∀ y ∈ a, y < 2 ^ 64) (hb64 : ∀ y ∈ b, y < 2 ^ 64) (w : World) (hA : RowAt w A 1 uE a) (hB : RowAt w B 1 uE b) :
    Ct Try.prog 177 #[.slice A a.length C, .slice B b.length D] w fun v w' => (∃ x c, v = .slice x (orR a b).length c ∧ OwnL w' w.heap.size 26 1 uE x c (orR a b)) ∧ Md [] w w' := by
  apply f177_in
  obtain ⟨w3, h1, h2, h3⟩ := madeU a.length w (by omega)
  have hol : (orR a b).length = a.length := by simp [orR, hab]
  refine Bd_e rfl <| RunW_in h1 (fun b hb => by simp at hb) <| opL_in <| Bd_e rfl ?_
  generalize hx0 : (some (Addr.mk w.heap.size 0 none)) = x0 at *
  refine LoopP_in (fun mm us vs w' => ∃ (i : Nat) (O : List Nat), us = [.int .i64 i] ∧ mm = a.length - i ∧ i ≤ a.length ∧ O.length = a.length ∧ (∀ j, j < i → O[j]? = (orR a b)[j]?) ∧ OwnL w' w.heap.size 26 1 uE x0 a.length O ∧ Md [] w w') a.length
    ⟨0, List.replicate a.length 0, rfl, rfl, by omega, by simp, fun j hj => by omega, h2, h3⟩ ?_
  rintro mm us vs w11 ⟨i, O, rfl, hmm, hi, hO, hOj, ho, hmd⟩
  refine opI_in <| Bd_in fun b13 hb13 => If_in (fun hb => ?_) fun hb => ?_
  case refine_2 =>
    have hif : i = a.length := by rw [hb13] at hb; have := of_decide_eq_false hb; omega
    subst hif
    have e : O = orR a b := by
      apply List.ext_getElem?
      intro j
      by_cases hj : j < a.length
      · exact hOj j hj
      · rw [List.getElem?_eq_none (by omega), List.getElem?_eq_none (by omega)]
    subst e
    refine ⟨⟨x0, a.length, by rw [hol], ho⟩, hmd⟩
  have hia : i < a.length := by rw [hb13] at hb; have := of_decide_eq_true hb; omega
  have hib : i < b.length := by omega
  have hx := ha64 _ (List.getElem_mem hia)
  have hy := hb64 _ (List.getElem_mem hib)
  have md := hmd.trans (Md_drew w11)
  have ho' := ho.md (Md_drew w11)
  have hix := (ho'.row encuE).ix (i := i) (by omega)
  rw [hO] at hix
  have hgi : (orR a b)[i]? = some (a[i] ||| b[i]) := by rw [List.getElem?_eq_getElem (by rw [hol]; exact hia)]; simp [orR]
  obtain ⟨A', hA', p1, p2, p3, p4, p5, p6⟩ := ho'.put encuE (by omega) (i := i) (by omega) (a[i] ||| b[i])
  have fin : ∃ m', m' < mm ∧ ∃ (i' : Nat) (O : List Nat), [Value.int .i64 ((i + 1 : Nat) : Int)] = [.int .i64 i'] ∧ m' = a.length - i' ∧ i' ≤ a.length ∧ O.length = a.length ∧ (∀ j, j < i' → O[j]? = (orR a b)[j]?) ∧ OwnL (setCells w11.drew (adAt x0 (i : Int) 1) 0 (uE (a[i] ||| b[i]))) w.heap.size 26 1 uE x0 a.length O ∧ Md [] w (setCells w11.drew (adAt x0 (i : Int) 1) 0 (uE (a[i] ||| b[i]))) :=
    ⟨a.length - (i + 1), by omega, i + 1, _, rfl, rfl, by omega, by simp [hO], set_grow (by rw [hol]; exact hO) (by rw [hol]; exact hia) hOj hgi, p5, md.old p6 (by simpa using p2)⟩
  refine ⟨hA.ix hia, hB.ix hib, (hA.md md).ld1 hia rfl <| opI_in <| (hB.md md).ld1 hib rfl <| opI_in <| Bd_e (orN _ _ hx hy) ⟨hix, by simp, p4, Bd_e (inc_i64 (by omega)) fin⟩, (hB.md md).ld1 hib rfl <| opI_in <| (hA.md md).ld1 hia rfl <| opI_in <| Bd_e (orN _ _ hx hy) ⟨hix, by simp, p4, Bd_e (inc_i64 (by omega)) fin⟩⟩
theorem f178_ok (n : Nat) (a : List Nat) (A : Option Addr) (C m : Nat) (hn : n < 60) (ha : a.length = n + 1) (ha64 : ∀ y ∈ a, y < 2 ^ 64) (hm : m ≤ n + 2) (w : World) (hA : RowAt w A 1 uE a) :
    Ct Try.prog 178 #[.slice A a.length C, .int .i64 m] w fun v w' => (∃ x c, v = .slice x (powR n a m).length c ∧ OwnL w' w.heap.size 26 1 uE x c (powR n a m)) ∧ Md [] w w' := by
  apply f178_in
  refine Bd_e rfl <| Bd_e (y := (n : Int)) (by rw [IntKind.wrap_i64]; omega) ?_
  refine (f175_ok n (by omega) w).call (by simp) ?_
  rintro v w4 ⟨x, c, rfl, own⟩ m4
  have hpl : ∀ k, (powR n a k).length = n + 1 := fun k => by
    induction k with
    | zero => simp [powR, stillR]
    | succ k ih => rw [powR, thenR_len, ih]
  refine opL_in <| Bd_e rfl <| Bd_e (y := ((n + 2 : Nat) : Int)) (by rw [IntKind.wrap_i64]; omega) <| Bd_e (y := (m : Int)) (by split <;> omega) ?_
  refine LoopP_in (fun mm us vs w' => ∃ (k : Nat) (x : Option Addr) (c : Nat), us = [.slice x (powR n a k).length c, .int .i64 k] ∧ mm = m - k ∧ k ≤ m ∧ OwnL w' w.heap.size 26 1 uE x c (powR n a k) ∧ Md [] w w') m
    ⟨0, x, c, rfl, rfl, by omega, own, m4⟩ ?_
  rintro mm us vs w14 ⟨k, x, c, rfl, hmm, hk, ho, hmd⟩
  refine opL_in <| opI_in <| Bd_in fun b19 hb19 => If_in (fun hb => ?_) fun hb => ?_
  · have hkm : k < m := by rw [hb19] at hb; have := of_decide_eq_true hb; omega
    refine (f176_ok (powR n a k) a x A c C (by rw [hpl]; omega) (by omega) ha64 w14 (ho.row encuE) (hA.md hmd)).call (by simp) ?_
    rintro v w21 ⟨x2, c2, rfl, own2⟩ m21
    exact opL_in <| Bd_e (inc_i64 (by omega)) ⟨m - (k + 1), by omega, k + 1, x2, c2, rfl, rfl, by omega, own2.down hmd.size, hmd.trans m21⟩
  · have hkm : k = m := by rw [hb19] at hb; have := of_decide_eq_false hb; omega
    subst hkm
    exact ⟨⟨x, c, rfl, ho⟩, hmd⟩
end Fk
