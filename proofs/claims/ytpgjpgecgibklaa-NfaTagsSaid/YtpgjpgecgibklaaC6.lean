/- Contracts: a class's first byte, what fits, classes of trees. -/
import Derived.Test.YtpgjpgecgibklaaC5
import Derived.Test.YtpgjpgecgibklaaC2
import Derived.Test.YtpgjpgecgibklaaC1
set_option linter.unusedVariables false
set_option linter.unusedSimpArgs false
set_option maxRecDepth 4000
namespace Fk
open Go Go.Proofs Go.RowKit
/-! ### A class's first byte -/
/-- As the program tells it. -/
def Cl.first (c : Cl) (k : Int) : Int × Bool := if c.right = true ∧ 0 ≤ k ∧ k < c.m then (if least c.f k < 256 then ((least c.f k : Nat), true) else (0, false)) else (0, false)
/-- As the document tells it. -/
def Cl.firstR (c : Cl) (k : Int) : Int × Bool := if c.rightR = true ∧ 0 ≤ k ∧ k < c.m then (IntKind.wrap .u8 (least c.f k : Nat), true) else (0, false)
theorem f43_ok (c : Cl) (hc : c.ok) (k : Int) (w : World) : Ct Try.prog 43 #[.agg c.v, .int .i64 k] w fun v w' => v = .tuple #[.int .u8 (c.firstR k).1, .bool (c.firstR k).2] ∧ Md [] w w' := by
  apply f43_in
  intro n1 hn1
  refine ⟨hc.size, fun w2 h2 hL2 => ?_⟩
  refine (f45_ok c hc w2).call hL2 ?_
  rintro v3 w4 rfl h4
  have hw4 := h2.trans h4
  refine opB_in <| Bd_in fun b6 hb6 => Bd_in fun b7 hb7 => Bd_in fun b8 hb8 => ⟨fun _ => hc.manyI.1, Bd_in fun x10 hx10 => Bd_in fun b11 hb11 => Bd_in fun b12 hb12 => If_in (fun h => ⟨?_, hw4⟩) fun h => ?_⟩
  · rw [hc.manyI.2] at hx10
    have : ¬ (c.rightR = true ∧ 0 ≤ k ∧ k < c.m) := by
      rintro ⟨h1, h2, h3⟩
      rw [hb12, hb11, hb8, hb7, hb6, hx10] at h
      simp [h1] at h
      omega
    simp [Cl.firstR, this]
  · rw [hc.manyI.2] at hx10
    have : c.rightR = true ∧ 0 ≤ k ∧ k < c.m := by
      rw [hb12, hb11, hb8, hb7, hb6, hx10] at h
      simp at h
      cases hr : c.rightR <;> simp [hr] at h
      exact ⟨rfl, by omega, by omega⟩
    refine ⟨hc.size, ?_⟩
    refine (f150_ok c hc k w4).call (fun b hb => Nat.lt_of_lt_of_le (hL2 b hb) h4.size) ?_
    rintro v13 w14 rfl h14
    refine opI_in <| Bd_in fun x16 hx16 => ⟨?_, hw4.trans h14⟩
    simp [Cl.firstR, this, hx16]
theorem f42_ok (c : Cl) (hc : c.ok) (k : Int) (w : World) : Ct Try.prog 42 #[.agg c.v, .int .i64 k] w fun v w' => v = .tuple #[.int .u8 (c.first k).1, .bool (c.first k).2] ∧ Md [] w w' := by
  apply f42_in
  intro n1 hn1
  refine ⟨hc.size, fun w2 h2 hL2 => ?_⟩
  refine (f44_ok c hc w2).call hL2 ?_
  rintro v3 w4 rfl h4
  have hw4 := h2.trans h4
  refine opB_in <| Bd_in fun b6 hb6 => Bd_in fun b7 hb7 => Bd_in fun b8 hb8 => ⟨fun _ => hc.manyI.1, Bd_in fun x10 hx10 => Bd_in fun b11 hb11 => Bd_in fun b12 hb12 => If_in (fun h => ⟨?_, hw4⟩) fun h => ?_⟩
  · rw [hc.manyI.2] at hx10
    have : ¬ (c.right = true ∧ 0 ≤ k ∧ k < c.m) := by
      rintro ⟨h1, h2, h3⟩
      rw [hb12, hb11, hb8, hb7, hb6, hx10] at h
      simp [h1] at h
      omega
    simp [Cl.first, this]
  · rw [hc.manyI.2] at hx10
    have hr : c.right = true ∧ 0 ≤ k ∧ k < c.m := by
      rw [hb12, hb11, hb8, hb7, hb6, hx10] at h
      simp at h
      cases hr : c.right <;> simp [hr] at h
      exact ⟨rfl, by omega, by omega⟩
    refine LoopP_in (fun m us vs w' => ∃ i : Nat, us = [.int .u8 0, .bool false, .int .i64 i] ∧ m = 256 - i ∧ i ≤ 256 ∧ least c.f k = i + least (c.f.drop i) k ∧ Md [] w w') 256 ⟨0, rfl, rfl, by omega, by simp, hw4⟩ ?_
    rintro m us vs w6 ⟨i, rfl, rfl, hi, hg, h6⟩
    refine opI_in <| opB_in <| opI_in <| Bd_in fun b20 hb20 => If_in (fun hb => ?_) fun hb => ⟨?_, h6⟩
    · subst hb20
      simp only [decide_eq_true_eq] at hb
      have hi' : i < c.f.length := by rw [hc.len]; omega
      have hx := hc.lt i hi'
      refine ⟨⟨by omega, by omega⟩, BdO_in (hc.nth' hi') ?_⟩
      refine opI_in <| Bd_in fun x23 hx23 => Bd_in fun b24 hb24 => ?_
      rw [wrap_byte hx] at hx23
      subst hx23
      rw [List.drop_eq_getElem_cons hi', least] at hg
      refine If_in (fun h => Bd_in fun x25 hx25 => ⟨?_, h6⟩) fun h => Bd_in fun x26 hx26 => ?_
      · rw [hb24] at h
        simp only [beq_iff_eq] at h
        rw [if_pos h] at hg
        have e : x25 = (i : Int) := by rw [hx25, IntKind.wrap_u8]; omega
        have hl : least c.f k = i := by omega
        have hi3 : i < 256 := by omega
        simp [Cl.first, hr, hl, e, hi3]
      · rw [hb24] at h
        simp only [beq_eq_false_iff_ne] at h
        rw [if_neg h] at hg
        rw [inc_i64 (by omega)] at hx26
        subst hx26
        exact ⟨256 - (i + 1), by omega, i + 1, rfl, rfl, by omega, by omega, h6⟩
    · subst hb20
      simp only [decide_eq_false_iff_not] at hb
      have hl : ¬ least c.f k < 256 := by omega
      simp [Cl.first, hr, hl]

/-! ### Does a set fit? -/
def Cl.fits (c : Cl) (q : Q4) : Bool := c.right && decide ((c.parted q).m = c.m)
def Cl.fitsR (c : Cl) (q : Q4) : Bool := c.rightR && (c.f.zipIdx.all fun p => inQ q p.2 == inQ q (least c.f p.1))
theorem numGo_facts {K : Type} [DecidableEq K] : ∀ (ks kn : List K), (numGo ks kn).1.length = ks.length ∧ (∀ x ∈ (numGo ks kn).1, x < kn.length + ks.length) ∧ (numGo ks kn).2.length ≤ kn.length + ks.length
  | [], kn => by simp [numGo]
  | k :: ks, kn => by
    obtain ⟨h1, h2, h3⟩ := numGo_facts ks (addK k kn)
    have ha := addK_le k kn
    have hi := idxK_le k kn
    refine ⟨by simp [numGo, h1], ?_, by simp only [numGo, List.length_cons]; omega⟩
    intro x hx
    simp only [numGo, List.mem_cons] at hx
    simp only [List.length_cons]
    rcases hx with rfl | hx
    · omega
    · have := h2 x hx; omega
theorem Cl.ok_num {K : Type} [DecidableEq K] (ks : List K) (h : ks.length = 256) : Cl.ok ⟨(numGo ks []).1, (numGo ks []).2.length⟩ := by
  obtain ⟨h1, h2, h3⟩ := numGo_facts ks []
  simp only [List.length_nil, Nat.zero_add, h] at h1 h2 h3
  exact ⟨h1, fun i hi => h2 _ (List.getElem_mem hi), by simp only; omega, by simp only; omega⟩
theorem Cl.ok.parted {c : Cl} (hc : c.ok) (q : Q4) : (c.parted q).ok := Cl.ok_num _ (by rw [keysOf_length, hc.len])
theorem f46_ok (c : Cl) (hc : c.ok) (q : Q4) (w : World) : Ct Try.prog 46 #[.agg c.v, .agg #[.int .u64 q.1, .int .u64 q.2.1, .int .u64 q.2.2.1, .int .u64 q.2.2.2]] w fun v w' => v = .bool (c.fits q) ∧ Md [] w w' := by
  apply f46_in
  intro n1 hn1 n2 hn2
  refine Jn_in (fun us vs w' => us = [.bool (c.fits q)] ∧ Md [] w w') ?_ ?_
  · rintro us vs w5 ⟨rfl, h5⟩
    exact opB_in ⟨rfl, h5⟩
  intro w8 h8 hL8
  refine ⟨hc.size, ?_⟩
  refine (f44_ok c hc _).call (by simpa using hL8) ?_
  rintro v9 w10 rfl h10
  have hg : Good [n2, n1] w w10 := Good.tr ⟨h8.trans (Md_drew _), hL8⟩ h10
  refine opB_in ⟨fun _ => hc.size, fun _ => hc.manyI.1, Bd_in fun x14 hx14 => ?_⟩
  rw [hc.manyI.2] at hx14
  subst hx14
  refine Gd_to (fun cs w' => (c.right = true → cs = (c.parted q).v) ∧ Md [] w w') ?_ (fun fin _ => (f146_ok c hc q w10).call hg.2 ?_) fun h => ⟨fun h' => absurd h' (by simp [h]), hg.1⟩
  rotate_left
  · rintro v16 w17 rfl h17
    exact opBig_in ⟨(hc.parted q).size, fin _ _ ⟨fun _ => rfl, hg.1.trans h17⟩⟩
  rintro cs w20 ⟨hcs, h20⟩
  refine ⟨fun h => ?_, Bd_in fun x22 hx22 => Bd_in fun b23 hb23 => Bd_in fun b24 hb24 => ⟨?_, h20⟩⟩
  · rw [hcs h]; exact (hc.parted q).manyI.1
  · rw [hb24, hb23]
    cases hr : c.right with
    | false => simp [Cl.fits, hr]
    | true =>
      rw [hcs hr, (hc.parted q).manyI.2] at hx22
      rw [hx22]
      simp only [Cl.fits, hr, cond_true, Bool.true_and]
      congr 2
theorem rightR_least {c : Cl} (hc : c.ok) (h : c.rightR = true) {i : Nat} (hi : i < c.f.length) : least c.f (c.f[i] : Nat) < 256 := by
  simp only [Cl.rightR, Bool.and_eq_true, decide_eq_true_eq, List.all_eq_true] at h
  obtain ⟨⟨⟨h1, h2⟩, h3⟩, h4⟩ := h
  have hl := h3 c.f[i] (List.getElem_mem hi)
  have h5 := h4 c.f[i] (by simp; omega)
  have hle := least_le c.f (c.f[i] : Nat)
  rw [hc.len] at hle
  simp only [okK, Bool.and_eq_true, decide_eq_true_eq] at h5
  omega
theorem in151 (q : Q4) {i : Nat} (hi : i < 256) {L : List Nat} {w0 w : World} {K : Bool → World → Prop} (h : Good L w0 w) (k : ∀ w', Good L w0 w' → K (inQ q i) w') :
    CallW Try.prog L 151 #[.agg #[.int .u64 q.1, .int .u64 q.2.1, .int .u64 q.2.2.1, .int .u64 q.2.2.2], .int .i64 i] (fun v w' => opB v fun b => K b w') w := by
  refine (f151_ok q i hi w).call h.2 ?_
  rintro v w' rfl h'
  exact opB_in (k w' (h.tr h'))
theorem f47_ok (c : Cl) (hc : c.ok) (q : Q4) (w : World) : Ct Try.prog 47 #[.agg c.v, .agg #[.int .u64 q.1, .int .u64 q.2.1, .int .u64 q.2.2.1, .int .u64 q.2.2.2]] w fun v w' => v = .bool (c.fitsR q) ∧ Md [] w w' := by
  apply f47_in
  intro n1 hn1 n2 hn2
  refine ⟨hc.size, fun w3 h3 hL3 => ?_⟩
  refine (f45_ok c hc w3).call hL3 ?_
  rintro v4 w5 rfl h5
  have hg5 : Good [n2, n1] w w5 := Good.tr ⟨h3, hL3⟩ h5
  refine opB_in <| Bd_in fun b7 hb7 => If_in (fun h => ⟨?_, hg5.1⟩) fun h => ?_
  · have : c.rightR = false := by rw [hb7] at h; simpa using h
    simp [Cl.fitsR, this]
  have hr : c.rightR = true := by rw [hb7] at h; simpa using h
  refine LoopP_in (fun m us vs w' => ∃ i : Nat, us = [.bool false, .int .i64 i] ∧ m = 256 - i ∧ i ≤ 256 ∧ (∀ j (hj : j < c.f.length), j < i → inQ q j = inQ q (least c.f (c.f[j] : Nat))) ∧ Good [n2, n1] w w') 256 ⟨0, rfl, rfl, by omega, fun j _ hj => by omega, hg5⟩ ?_
  rintro m us vs w11 ⟨i, rfl, rfl, hi, hall, hg⟩
  refine opB_in <| opI_in <| Bd_in fun b14 hb14 => If_in (fun hb => ?_) fun hb => ⟨?_, hg.1⟩
  · subst hb14
    simp only [decide_eq_true_eq] at hb
    have hi' : i < c.f.length := by rw [hc.len]; omega
    have hx := hc.lt i hi'
    refine Jn_in (fun us vs w' => us = [.bool (inQ q i != inQ q (least c.f (c.f[i] : Nat)))] ∧ Good [n2, n1] w w') ?_ ?_
    · rintro us vs w17 ⟨rfl, hg17⟩
      refine opB_in <| If_in (fun h => ⟨?_, hg17.1⟩) fun h => Bd_in fun x19 hx19 => ?_
      · have : (c.f.zipIdx.all fun p => inQ q p.2 == inQ q (least c.f p.1)) = false := by
          rw [List.all_eq_false]
          refine ⟨(c.f[i], i), ?_, by simpa using h⟩
          rw [List.mem_zipIdx_iff_getElem?]
          simp [hi']
        simp [Cl.fitsR, this]
      · rw [inc_i64 (by omega)] at hx19
        subst hx19
        refine ⟨256 - (i + 1), by omega, i + 1, rfl, rfl, by omega, fun j hj hj' => ?_, hg17⟩
        rcases Nat.lt_or_ge j i with h1 | h1
        · exact hall j hj h1
        · have : j = i := by omega
          subst this
          simpa using h
    · have hg0 := hg.drew
      have hl := rightR_least hc hr hi'
      refine ⟨hc.size, ⟨by omega, by omega⟩, BdO_in (hc.nth' hi') ?_⟩
      refine opI_in <| Bd_in fun x23 hx23 => ?_
      rw [wrap_byte hx] at hx23
      subst hx23
      refine in151 q (by omega) hg0 fun w25 hg25 => ?_
      refine (f150_ok c hc _ w25).call hg25.2 ?_
      rintro v27 w28 rfl h28
      refine opI_in ?_
      refine in151 q hl (hg25.tr h28) fun w31 hg31 => ?_
      refine Bd_in fun b33 hb33 => ⟨?_, hg31⟩
      rw [hb33]
      congr 2
  · subst hb14
    simp only [decide_eq_false_iff_not] at hb
    have : (c.f.zipIdx.all fun p => inQ q p.2 == inQ q (least c.f p.1)) = true := by
      rw [List.all_eq_true]
      rintro ⟨x, j⟩ hp
      rw [List.mem_zipIdx_iff_getElem?] at hp
      have hp' : c.f[j]? = some x := hp
      obtain ⟨hj, hxj⟩ := List.getElem?_eq_some_iff.1 hp'
      have h9 := hall j hj (by rw [hc.len] at hj; omega)
      rw [hxj] at h9
      simpa using h9
    simp [Cl.fitsR, hr, this]
end Fk
