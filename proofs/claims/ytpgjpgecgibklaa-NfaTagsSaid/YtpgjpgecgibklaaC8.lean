/- Contracts: classes of trees, as the document makes them. -/
import Derived.Test.YtpgjpgecgibklaaC7
set_option linter.unusedVariables false
set_option linter.unusedSimpArgs false
set_option maxRecDepth 100000
namespace Fk
open Go Go.Proofs Go.RowKit
def n1c (x : Nat) : List Value := [.int .i64 (x : Int)]
theorem enc1 : Enc 1 n1c := ⟨fun _ => rfl, by intro x v hv; simp [n1c] at hv; subst hv; rfl⟩
theorem rowT52 : RowT Try.prog 52 3 1 8 := RowT.of (by kernel_rfl) (by kernel_rfl) (by kernel_rfl) (by omega)
abbrev OwnN (w : World) (base : Nat) (a : Option Addr) (c : Nat) (l : List Nat) : Prop := OwnL w base 3 1 n1c a c l
/-- What the sets say of a byte. -/
def sig (l : List Q4) (b : Nat) : List Bool := l.map fun q => inQ q b
theorem apart_sig (a b : Nat) : ∀ l : List Q4, apart l a b = decide (sig l a ≠ sig l b)
  | [] => by simp [apart, sig]
  | q :: l => by
    have ih := apart_sig a b l
    have e1 : apart (q :: l) a b = ((inQ q a != inQ q b) || apart l a b) := rfl
    rw [e1, ih]
    show _ = decide (inQ q a :: sig l a ≠ inQ q b :: sig l b)
    by_cases h : inQ q a = inQ q b <;> by_cases h2 : sig l a = sig l b <;> simp [h, h2]
theorem idxK_cons {K : Type} [DecidableEq K] (k x : K) (l : List K) : idxK k (x :: l) = if x = k then 0 else idxK k l + 1 := by
  unfold idxK
  rw [List.idxOf_cons]
  by_cases h : x = k
  · simp [h]
  · have : (x == k) = false := by simpa using h
    simp [h, this]
theorem idxK_lt {K : Type} [DecidableEq K] {k : K} {kn : List K} (h : k ∈ kn) : idxK k kn < kn.length := List.idxOf_lt_length_of_mem h
def refCl (l : List Q4) : Cl := ⟨(numGo ((List.range 256).map (sig l)) []).1, (numGo ((List.range 256).map (sig l)) []).2.length⟩
theorem refCl_ok (l : List Q4) : (refCl l).ok := Cl.ok_num _ (by simp)
theorem f41_ok (fo : Fo) (sa : Option Addr) (sc : Nat) (w : World) (hr : RepF w sa 0 fo) (hl : fo.len < 2 ^ 40) (hbig : fo.size ≤ 2 ^ 39) :
    Ct Try.prog 41 #[.slice sa fo.len sc] w fun v w' => v = (if fo.right = true then ofV (refCl fo.sets) 0 else ofV (zCl 0) 2) ∧ Md [] w w' := by
  apply f41_in
  intro n1 hn1 w2 h2 hL2
  have hz := zCl_ok (m := 0) (by omega) (by omega)
  have hn2 : n1 < w2.heap.size := hL2 _ (by simp)
  refine LoopP_in (fun m us vs w' => ∃ (i : Nat) (r : Fo) (a : Option Addr) (c : Nat) (l : List Q4), us = [.int .i64 0, .slice a l.length c, .int .i64 i] ∧ vs = [.agg (zCl 0).v] ∧ m = r.len ∧ i + r.len = fo.len ∧ r.size ≤ fo.size ∧ l.length + r.size ≤ fo.size ∧ RepF w sa i r ∧ fo.right = r.right ∧ Md [] w w' ∧ w2.heap.size ≤ w'.heap.size ∧
      OwnS w' w2.heap.size a c l ∧ fo.sets = l ++ r.sets)
    fo.len ⟨0, fo, none, 0, [], rfl, by rw [zero_cl]; rfl, rfl, by omega, by omega, by simp, hr, rfl, h2, Nat.le_refl _, OwnL.nil .., rfl⟩ ?_
  rintro m us vs w6 ⟨i, r, a, c, l, rfl, rfl, rfl, hi, hrs, hls, hri, hrr, h6, hs6, ho6, hset⟩
  have hn6 : n1 < w6.heap.size := Nat.lt_of_lt_of_le hn2 hs6
  refine opI_in ?_
  refine opL_in ?_
  refine opI_in ?_
  refine opBig_in <| Bd_in fun x13 hx13 => Bd_in fun b14 hb14 => ?_
  subst hx13
  refine If_in (fun hb => ?_) fun hb => ?_
  · subst hb14
    simp only [decide_eq_true_eq, Int.ofNat_lt] at hb
    cases r with
    | nil => simp [Fo.len] at hi; omega
    | cons k' a' b' c' d' q' r' => ?_
    obtain ⟨B, sa', sc', rfl, hc', hql, hq, hr'⟩ := hri.at
    simp only [Fo.len, Fo.size, Fo.right, Fo.sets] at hi hrs hrr hls hset
    have hS := q'.sets_le
    have hN := nodeS_le k' a' b' c' d'
    refine ⟨⟨by omega, by omega, rfl⟩, ?_⟩
    refine ReC.ld (hc'.md h6) ?_
    refine (f147_ok _ q' _ _ _ _ _ _ _ _ (Nat.le_refl _) (hq.md h6) hql).call (by simpa using hn6) ?_
    rintro v28 w30 rfl h30
    have h30' := h6.trans h30
    have hs30 := Nat.le_trans hs6 h30.size
    have hn30 : n1 < w30.heap.size := Nat.lt_of_lt_of_le hn2 hs30
    refine opB_in <| Bd_in fun b31 hb31 => If_in (fun h => ?_) fun h => ?_
    · have hno : fo.right = false := by
        rw [hb31] at h
        rw [hrr]
        simp only [Bool.not_eq_true'] at h
        rw [h]; rfl
      refine RunW_in0 (build0 _) ?_
      refine opBig_in ⟨hz.size, OkC_in hz.cells <| SzIs_in hz.size fun w35 h35 hL35 => ⟨hz.size, ?_, h30'.old h35 (by simpa using hn1)⟩⟩
      simp [hno, ofV]
    · have hyes : (nodeOk k' (z4 a' b' c' d') q'.len && q'.right) = true := by rw [hb31] at h; simpa using h
      refine ⟨⟨by omega, by omega, rfl⟩, ?_⟩
      refine ReC.ld (hc'.md h30') ?_
      refine (f148_ok _ q' k' _ _ _ _ _ _ _ (Nat.le_refl _) (hq.md h30') hql (by omega)).call (by simpa using hn30) ?_
      rintro v51 w52 ⟨a53, c53, rfl, ho53⟩ h52
      have h52' := h30'.trans h52
      have ho52 := (ho6.md h30).md h52
      have hs52 := Nat.le_trans hs30 h52.size
      have hn52 : n1 < w52.heap.size := Nat.lt_of_lt_of_le hn2 hs52
      refine opL_in ?_
      refine app_own rowT43 enc4 ho52 ho53 hs52 (by simpa using hn52) ?_ ?_ ?_ ?_
      · intro b hb A hA
        have := (ho52.lt hA).1
        simp at hb; omega
      · rw [List.length_append]; simp only [maxLen]; omega
      · rw [List.length_append]; omega
      · intro a58 c58 w57 ho57 hm57 _
        refine opL_in <| Bd_in fun x61 hx61 => ?_
        rw [inc_i64 (by omega)] at hx61
        subst hx61
        have h57 : Md [] w w57 := h52'.old hm57 fun d hd => by
          cases a with
          | none => simp at hd
          | some A => simp at hd; rw [hd]; have := (ho52.lt rfl).1; have := h2.size; omega
        exact ⟨r'.len, by simp [Fo.len], i + 1, r', a58, c58, _, rfl, rfl, rfl, by omega, by omega, by simp only [List.length_append]; omega, hr', by rw [hrr, hyes]; rfl, h57, Nat.le_trans hs52 hm57.size, ho57, by rw [hset]; simp⟩
  · subst hb14
    simp only [decide_eq_false_iff_not, Int.ofNat_lt] at hb
    have hyes : fo.right = true ∧ fo.sets = l := by
      cases r with
      | nil => exact ⟨by rw [hrr]; rfl, by simpa [Fo.sets] using hset⟩
      | cons => simp only [Fo.len] at hi; omega
    obtain ⟨hyes, rfl⟩ := hyes
    have hS := fo.sets_le
    intro n62 hn62 w63 h63 hL63
    have h63' := h6.trans h63
    have hn63 : n62 < w63.heap.size := hL63 n62 (by simp)
    have hn63' : n1 < w63.heap.size := hL63 n1 (by simp)
    have hks : ((List.range 256).map (sig fo.sets)).length = 256 := by simp
    refine LoopP_in (fun m us vs w' => ∃ (b : Nat) (dn fl : List Nat) (a68 : Option Addr) (c68 : Nat), us = [.slice a68 fl.length c68, .int .i64 b] ∧ vs = [.agg (Cl.v ⟨dn ++ List.replicate (256 - b) 0, 0⟩)] ∧ m = 256 - b ∧ b ≤ 256 ∧ dn.length = b ∧ fl.length ≤ b ∧ (∀ x ∈ fl, x < 256) ∧
        Md [] w w' ∧ w63.heap.size ≤ w'.heap.size ∧ OwnS w' w2.heap.size a c fo.sets ∧ (∀ A, a = some A → A.block < w63.heap.size ∧ A.block ≠ n62) ∧ OwnN w' w63.heap.size a68 c68 fl ∧
        numGo ((List.range 256).map (sig fo.sets)) [] = (dn ++ (numGo (((List.range 256).map (sig fo.sets)).drop b) (fl.map (sig fo.sets))).1, (numGo (((List.range 256).map (sig fo.sets)).drop b) (fl.map (sig fo.sets))).2))
      256 ⟨0, [], [], none, 0, rfl, by rw [zero_cl]; rfl, rfl, by omega, rfl, by simp, by simp, h63', Nat.le_refl _, ho6.md h63, fun A hA => ⟨?_, ?_⟩, OwnL.nil .., by simp⟩ ?_
    · have := (ho6.lt hA).2; have := h63.size; omega
    · have := (ho6.lt hA).2; omega
    rintro m us vs w67 ⟨b, dn, fl, a68, c68, rfl, rfl, rfl, hb256, hdn, hfl, hfl2, h67, hs67, ho67, hA67, hF67, hnum⟩
    have hsz : (Cl.v ⟨dn ++ List.replicate (256 - b) 0, 0⟩).size = 257 := by simp [Cl.v, Cl.l, hdn]; omega
    refine opL_in ?_
    refine opI_in ?_
    refine opBig_in <| Bd_in fun b73 hb73 => If_in (fun hb => ?_) fun hb => ?_
    · subst hb73
      simp only [decide_eq_true_eq] at hb
      have hb' : b < 256 := by omega
      refine LoopP_in (fun m us vs w' => ∃ j : Nat, us = [.int .i64 j] ∧ m = fl.length - j ∧ j ≤ fl.length ∧ idxK (sig fo.sets b) (fl.map (sig fo.sets)) = j + idxK (sig fo.sets b) ((fl.drop j).map (sig fo.sets)) ∧ Md [] w67 w')
        fl.length ⟨0, rfl, rfl, by omega, by simp, Md.refl _ _⟩ ?_
      rintro m us vs w77 ⟨j, rfl, rfl, hj, hidx, h77⟩
      refine opI_in <| Bd_in fun x79 hx79 => Bd_in fun b80 hb80 => ?_
      subst hx79
      have ho77 := ho67.md h77
      have hF77 := hF67.md h77
      have hL77 : ∀ x ∈ [n62, n1], x < w77.heap.size := by
        have := h77.size
        intro x hx; simp at hx; omega
      refine ⟨fun h => (hF77.row enc1).ix (by rw [hb80] at h; simpa using h), ?_⟩
      refine Gd_to (fun x w' => (∀ h : j < fl.length, x = (fl[j] : Int)) ∧ w' = w77) ?_ (fun fin h => ?_) fun h => ⟨fun h' => absurd h (by rw [hb80]; simpa using h'), rfl⟩
      rotate_left
      · have hjl : j < fl.length := by rw [hb80] at h; simpa using h
        obtain ⟨B, hB, hcell⟩ := (hF77.row enc1) j fl[j] (List.getElem?_eq_getElem hjl)
        subst hB
        refine Ld_in (hcell 0 _ rfl) ?_
        exact opI_in (fin _ _ ⟨fun _ => rfl, rfl⟩)
      rintro x85 w86 ⟨hx85, rfl⟩
      refine Gd_to (fun y w' => (∀ h : j < fl.length, y = apart fo.sets fl[j] b) ∧ Md [] w67 w') ?_ (fun fin h => ?_) fun h => ⟨fun h' => absurd h (by rw [hb80]; simpa using h'), h77⟩
      rotate_left
      · have hjl : j < fl.length := by rw [hb80] at h; simpa using h
        rw [hx85 hjl]
        refine (f149_ok a c fo.sets fl[j] b (hfl2 _ (List.getElem_mem hjl)) hb' w86 (ho77.row enc4) (by omega)).call hL77 ?_
        rintro v88 w89 rfl h89
        exact opB_in (fin _ _ ⟨fun _ => rfl, h77.trans h89⟩)
      rintro y w92 ⟨hy, h92⟩
      have hL92 : ∀ x ∈ [n62, n1], x < w92.heap.size := by
        have := h92.size
        intro x hx; simp at hx; omega
      have ho92 := ho67.md h92
      have hF92 := hF67.md h92
      refine Bd_in fun b93 hb93 => If_in (fun h => Bd_in fun x94 hx94 => ?_) fun h => ?_
      · have hjl : j < fl.length := by
          rw [hb93, hb80] at h
          by_cases hjl : j < fl.length
          · exact hjl
          · simp [hjl] at h
        have hap : apart fo.sets fl[j] b = true := by
          rw [hb93, hb80, hy hjl] at h
          simpa [hjl] using h
        rw [inc_i64 (by omega)] at hx94
        subst hx94
        refine ⟨fl.length - (j + 1), by omega, j + 1, rfl, rfl, by omega, ?_, h92⟩
        rw [apart_sig] at hap
        have hne : sig fo.sets fl[j] ≠ sig fo.sets b := by simpa using hap
        rw [hidx, List.drop_eq_getElem_cons hjl, List.map_cons, idxK_cons, if_neg hne]
        omega
      · have hjx : idxK (sig fo.sets b) (fl.map (sig fo.sets)) = j := by
          by_cases hjl : j < fl.length
          · have hap : apart fo.sets fl[j] b = false := by
              rw [hb93, hb80, hy hjl] at h
              simpa [hjl] using h
            rw [apart_sig] at hap
            have he : sig fo.sets fl[j] = sig fo.sets b := by simpa using hap
            rw [hidx, List.drop_eq_getElem_cons hjl, List.map_cons, idxK_cons, if_pos he]
            rfl
          · have : fl.drop j = [] := List.drop_of_length_le (by omega)
            rw [hidx, this]; simp [idxK]
        have hkb : ((List.range 256).map (sig fo.sets)).drop b = sig fo.sets b :: ((List.range 256).map (sig fo.sets)).drop (b + 1) := by
          rw [List.drop_eq_getElem_cons (by rw [hks]; omega)]
          simp
        rw [hkb, numGo, hjx] at hnum
        have hlen : j = fl.length ↔ sig fo.sets b ∉ fl.map (sig fo.sets) := by
          constructor
          · intro hj' hm
            have := idxK_lt hm
            simp only [List.length_map] at this
            omega
          · intro hm
            have := idxK_new hm
            simp at this
            omega
        refine Jn_in (fun us vs w' => ∃ (fl' : List Nat) (a' : Option Addr) (c' : Nat), us = [.slice a' fl'.length c'] ∧ addK (sig fo.sets b) (fl.map (sig fo.sets)) = fl'.map (sig fo.sets) ∧ fl'.length ≤ b + 1 ∧ (∀ x ∈ fl', x < 256) ∧ Md [] w w' ∧ w63.heap.size ≤ w'.heap.size ∧ OwnS w' w2.heap.size a c fo.sets ∧ OwnN w' w63.heap.size a' c' fl') ?_ ?_
        · rintro us vs w97 ⟨fl', a', c', rfl, hadd, hfl', hfl2', h97, hs97, ho97, hF97⟩
          refine opL_in <| Bd_in fun x101 hx101 => ⟨⟨by omega, by omega⟩, LeC_in (by rw [hsz]; simp; omega) <| Bd_in fun x102 hx102 w103 h103 hL103 => ?_⟩
          rw [inc_i64 (by omega)] at hx102
          subst hx102
          have e101 : x101 = ((j : Nat) : Int) := by rw [hx101, IntKind.wrap_u8]; omega
          subst e101
          rw [hadd] at hnum
          refine ⟨256 - (b + 1), by omega, b + 1, dn ++ [j], fl', a', c', rfl, ?_, rfl, by omega, by simp [hdn], hfl', hfl2', h97.old h103 (by have := h6.size; simp; omega), Nat.le_trans hs97 h103.size, ho97.mdD h103 (fun A hA => ?_), hA67, hF97.mdD h103 (fun A hA => ?_), ?_⟩
          · have hrep : List.replicate (256 - b) 0 = 0 :: List.replicate (256 - (b + 1)) 0 := by
              rw [show 256 - b = (256 - (b + 1)) + 1 by omega, List.replicate_succ]
            rw [hrep]
            simp only [Int.toNat_natCast, Nat.zero_add, Nat.mul_one, Cl.v]
            rw [wrL_cl _ _ _ _ _ _ hdn]
          · simpa using (hA67 A hA).2
          · have := (hF97.lt hA).1; simp; omega
          · rw [hnum]; simp
        · refine Bd_in fun x105 hx105 => Bd_in fun b106 hb106 => If_in (fun h => ?_) fun h => ?_
          · have hjl : j = fl.length := by rw [hb106, hx105] at h; simp at h; omega
            refine app_one rowT52 enc1 b (L := [n62, n1]) rfl hF92 (Nat.le_trans hs67 h92.size) hL92 ?_ (by simp [maxLen]; omega) (by omega) ?_
            · intro x hx A hA
              have := (hF92.lt hA).1
              simp at hx; omega
            intro a111 c111 w110 ho110 hm110 _
            refine opL_in ⟨fl ++ [b], a111, c111, rfl, ?_, by simp; omega, ?_, ?_, ?_, ?_, ho110⟩
            · rw [addK_new (hlen.1 hjl)]; simp
            · intro x hx
              rcases List.mem_append.1 hx with h | h
              · exact hfl2 x h
              · simp at h; omega
            · refine (h67.trans h92).old hm110 fun d hd => ?_
              cases a68 with
              | none => simp at hd
              | some A => simp at hd; rw [hd]; have := (hF92.lt rfl).1; have := h63'.size; omega
            · have := hm110.size; have := h92.size; omega
            · refine ho92.mdD hm110 fun A hA hd => ?_
              cases a68 with
              | none => simp at hd
              | some A' => simp at hd; have := (hF92.lt rfl).1; have := (hA67 A hA).1; omega
          · have hjl : ¬ j = fl.length := by rw [hb106, hx105] at h; simp at h; omega
            have hmem : sig fo.sets b ∈ fl.map (sig fo.sets) := by
              by_cases hm : sig fo.sets b ∈ fl.map (sig fo.sets)
              · exact hm
              · exact absurd (hlen.2 hm) hjl
            exact ⟨fl, a68, c68, rfl, addK_old hmem, by omega, hfl2, h67.trans h92, Nat.le_trans hs67 h92.size, ho92, hF92⟩
    · subst hb73
      simp only [decide_eq_false_iff_not] at hb
      have hb2 : b = 256 := by omega
      have hdk : ((List.range 256).map (sig fo.sets)).drop b = [] := List.drop_of_length_le (by rw [hks]; omega)
      rw [hdk, numGo, List.append_nil] at hnum
      have hp : refCl fo.sets = ⟨dn, fl.length⟩ := by unfold refCl; rw [hnum]; simp
      subst hb2
      simp only [Nat.sub_self, List.replicate_zero, List.append_nil] at hsz ⊢
      refine Bd_in fun x114 hx114 => LeC_in (by omega) ?_
      have hok := refCl_ok fo.sets
      have hw : List.toArray (wrL (Array.toList (Cl.v ⟨dn, 0⟩)) 256 [Value.int .i64 x114]) = (refCl fo.sets).v := by
        rw [hx114, hp]
        simp only [Cl.v]
        rw [wrL_many _ _ _ hdn]
      refine ⟨?_, OkC_in ?_ <| SzIs_in hz.size fun w115 h115 hL115 => ⟨?_, ?_, ?_⟩⟩
      · have := congrArg Array.size hw
        simpa [hok.size] using this
      · have h9 : wrL (Array.toList (Cl.v ⟨dn, 0⟩)) 256 [Value.int .i64 x114] = (refCl fo.sets).v.toList := by rw [← hw]
        rw [h9]; exact hok.cells
      · rw [hw]; exact hok.size
      · rw [hw]; simp [hyes, ofV]
      · refine h67.old h115 ?_
        intro d hd
        have := h6.size
        simp at hd
        omega
end Fk
