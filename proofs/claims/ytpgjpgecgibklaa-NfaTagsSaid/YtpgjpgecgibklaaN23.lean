/- First machines: the cap (NfaCap). -/
import Derived.Test.YtpgjpgecgibklaaN22
import Derived.Test.YtpgjpgecgibklaaV18
import Derived.Test.YtpgjpgecgibklaaC12
set_option linter.unusedVariables false
set_option linter.unusedSimpArgs false
set_option maxRecDepth 100000
set_option maxHeartbeats 2000000
namespace Fk
open Go Go.Proofs Go.RowKit
theorem f83_ok (fo : Fo) (sa : Option Addr) (sc : Nat) (w : World) (hr : RepF w sa 0 fo) (hl : fo.len ≤ 2 ^ 41) :
    Ct Try.prog 83 #[.slice sa fo.len sc] w fun v w' => (∃ a c L, v = .slice a L.length c ∧ OwnT w' w.heap.size a c L ∧ TrF w' L fo.good) ∧ Md [] w w' := by
  apply f83_in
  refine Bd_in fun x1 hx1 => ?_
  subst hx1
  refine LoopP_in (fun m us vs w' => ∃ (i : Nat) (r : Fo) (a : Option Addr) (c : Nat) (L : List Tr) (f1 : Fo), us = [.slice a L.length c, .int .i64 i] ∧ vs = [] ∧ m = r.len ∧ i + r.len = fo.len ∧ L.length + r.len ≤ fo.len ∧ RepF w sa i r ∧ Md [] w w' ∧
      OwnT w' w.heap.size a c L ∧ TrF w L f1 ∧ f1.app r.good = fo.good)
    fo.len ⟨0, fo, none, 0, [], .nil, rfl, rfl, rfl, by omega, by simp, hr, Md.refl _ _, OwnL.nil .., trivial, rfl⟩ ?_
  rintro m us vs w5 ⟨i, r, a, c, L, f1, rfl, rfl, rfl, hi, hls, hri, h5, ho5, hT5, hf1⟩
  refine opL_in <| opI_in <| Bd_in fun b10 hb10 => If_in (fun hb => ?_) fun hb => ?_
  · subst hb10
    simp only [decide_eq_true_eq, Int.ofNat_lt] at hb
    cases r with
    | nil => simp [Fo.len] at hi; omega
    | cons k' a' b' c' d' q' r' => ?_
    obtain ⟨B, sa', sc', rfl, hc', hql, hq, hr'⟩ := hri.at
    simp only [Fo.len] at hi hls
    refine Jn_in (fun us vs w' => ∃ (a : Option Addr) (c : Nat) (L' : List Tr) (f2 : Fo), us = [.slice a L'.length c] ∧ L'.length ≤ L.length + 1 ∧ Md [] w w' ∧ OwnT w' w.heap.size a c L' ∧ TrF w L' f2 ∧ f2.app r'.good = fo.good) ?_ ?_
    · rintro us vs w13 ⟨a1, c1, L', f2, rfl, hL', h13, ho13, hT13, hf2⟩
      refine opL_in <| Bd_in fun x17 hx17 => ?_
      rw [show IntKind.wrap .i64 ((i : Int) + 1) = ((i + 1 : Nat) : Int) by rw [IntKind.wrap_i64]; omega] at hx17
      subst hx17
      exact ⟨r'.len, by simp [Fo.len], i + 1, r', a1, c1, L', f2, rfl, rfl, rfl, by omega, by omega, hr', h13, ho13, hT13, hf2⟩
    · refine ⟨⟨by omega, by omega, rfl⟩, ?_⟩
      refine ReC.ld (hc'.md h5) ?_
      intro n33 hn33 w34 h34 hL34
      have h34' := h5.old h34 (by simpa using Nat.le_trans h5.size hn33)
      have ho34 := ho5.mdN h34 (by simpa using hn33)
      refine (f144_ok _ q' _ _ _ _ _ _ _ _ (Nat.le_refl _) (hq.md h34') hql).call hL34 ?_
      rintro v35 w36 rfl h36
      have h36' := h34'.trans h36
      have ho36 := ho34.md h36
      simp only [Fo.good] at hf1
      refine opB_in <| If_in (fun h => ?_) fun h => ?_
      · rw [if_pos h] at hf1
        refine app_one rowT22 enc6 ⟨k', (a', b', c', d'), sa', q'.len, sc'⟩ rfl ho36 h36'.size (fun b hb => Nat.lt_of_lt_of_le (hL34 b hb) h36.size) ?_ (by simp [maxLen]; omega) (by omega) ?_
        · intro b hb A hA
          have := (ho5.lt hA).2
          simp at hb; omega
        intro a42 c42 w41 ho41 hm41 _
        have h41 := h36'.own ho36 hm41
        have hTt : TrF w [⟨k', (a', b', c', d'), sa', q'.len, sc'⟩] (.cons k' a' b' c' d' q' .nil) := ⟨⟨rfl, rfl, rfl, hql, hq⟩, trivial⟩
        refine opL_in ⟨a42, c42, _, f1.app (.cons k' a' b' c' d' q' .nil), rfl, by simp, h41, ho41, TrF.app hT5 hTt, ?_⟩
        rw [← hf1, Fo.app_assoc]; rfl
      · rw [if_neg (by simp [h])] at hf1
        exact ⟨a, c, L, f1, rfl, by omega, h36', ho36, hT5, hf1⟩
  · subst hb10
    simp only [decide_eq_false_iff_not, Int.ofNat_lt] at hb
    cases r with
    | nil => simp only [Fo.good, Fo.app_nil] at hf1; rw [← hf1]; exact ⟨⟨a, c, L, rfl, ho5, hT5.md h5⟩, h5⟩
    | cons => simp only [Fo.len] at hi; omega
theorem in83 (fo : Fo) (A : Option Addr) (C : Nat) (hl : fo.len ≤ 2 ^ 41) {L : List Nat} {w0 w : World} {K : Option Addr → Nat → Nat → World → Prop} (h : Good L w0 w) (hr : RepF w A 0 fo)
    (kk : ∀ w' a c, Good L w0 w' → RepF w' a 0 fo.good → K a fo.good.len c w') :
    CallW Try.prog L 83 #[.slice A fo.len C] (fun v w' => opL v fun a n c => K a n c w') w := by
  refine (f83_ok fo A C w hr hl).call h.2 ?_
  rintro v w' ⟨a, c, L', rfl, ho, hT⟩ h'
  have hrep : RepF w' a 0 fo.good := TrF.rep (ho.row enc6) hT rfl
  refine opL_in ?_
  rw [hT.len]
  exact kk w' a c (h.tr h') hrep
theorem f88_ok : ∀ (s : Nat) (q : Fo) (k a b c d : Int) (sa : Option Addr) (sc : Nat) (w : World), q.size < s → q.size ≤ 10000 → RepF w sa 0 q → q.len < 2 ^ 63 → nodeOk k (z4 a b c d) q.len = true → q.right = true →
    Ct Try.prog 88 #[.agg #[.int .u8 k, .int .u64 a, .int .u64 b, .int .u64 c, .int .u64 d, .slice sa q.len sc]] w fun v w' => v = .int .i64 (cntK k q.len q.cnt) ∧ Md [] w w'
  | 0, q, k, a, b, c, d, sa, sc, w, hs, hsz, hr, hl, hn, hq => by omega
  | s + 1, q, k, a, b, c, d, sa, sc, w, hs, hsz, hr, hl, hn, hq => by
    apply f88_in
    intro n1 hn1
    have hlen := q.cnt_le
    have hcl := cntK_le k q
    refine Jn_in (fun us vs w' => ∃ (m : Nat) (b : Bool), us = [.int .i64 m, .bool b] ∧ m = cntK k q.len 0 ∧ Md [] w w' ∧ n1 < w'.heap.size) ?_ ?_
    · rintro us vs w4 ⟨m, b, rfl, hm, m4, hn4⟩
      refine opI_in <| opB_in <| Bd_e rfl ?_
      refine LoopP_in (fun mm us vs w' => ∃ (i m : Nat), us = [.int .i64 m, .int .i64 i] ∧ mm = q.len - i ∧ i ≤ q.len ∧ m + (q.drop i).cnt = cntK k q.len q.cnt ∧ Md [] w w' ∧ n1 < w'.heap.size) q.len
        ⟨0, m, rfl, rfl, by omega, by rw [hm]; simp [Fo.drop, cntK], m4, hn4⟩ ?_
      rintro mm us vs w11 ⟨i, m, rfl, hmm, hi, hc, hmd, hnn⟩
      refine opI_in <| opI_in <| Bd_in fun b14 hb14 => If_in (fun hb => ?_) fun hb => ?_
      · have hi' : i < q.len := by rw [hb14] at hb; have : (i : Int) < (q.len : Int) := of_decide_eq_true hb
                                   omega
        obtain ⟨k', a', b', c', d', q', he, hqs⟩ := Fo.drop_cons q i hi'
        obtain ⟨hn', hq'⟩ := right_pre he hq
        have hdc := drop_cnt he
        refine kid_ld hr hmd he hi' fun sa' sc' hql' hr' => ?_
        have g11 : Good [n1] w w11 := ⟨hmd, by simpa using hnn⟩
        refine rgU g11 fun n29 w30 g30 m30 => ?_
        refine (f88_ok s q' k' a' b' c' d' sa' sc' w30 (by omega) (by omega) (hr'.md g30.1) hql' hn' hq').call g30.2 ?_
        rintro v w32 rfl m32
        have hcl' := cntK_le k' q'
        refine opI_in <| Bd_e (y := ((m + cntK k' q'.len q'.cnt : Nat) : Int)) (by rw [IntKind.wrap_i64]; omega) <| Bd_e (y := ((i + 1 : Nat) : Int)) (by rw [IntKind.wrap_i64]; omega) ⟨q.len - (i + 1), by omega, i + 1, _, rfl, rfl, by omega, by omega, g30.1.trans m32, by have := g30.2 n1 (by simp); have := m32.size; omega⟩
      · have hil : i = q.len := by
          have : ¬ (i : Int) < (q.len : Int) := by rw [hb14] at hb; exact of_decide_eq_false hb
          omega
        subst hil
        rw [Fo.drop_all q _ (Nat.le_refl _)] at hc
        simp only [Fo.cnt, Nat.add_zero] at hc
        exact ⟨by rw [hc], hmd⟩
    refine Jn_in (fun us vs w' => us = [.bool (decide (k = 1 ∨ k = 4))] ∧ Md [] w w' ∧ n1 < w'.heap.size) ?_ ?_
    · rintro us vs w39 ⟨rfl, m39, hn39⟩
      refine opB_in <| If_in (fun hb => ?_) fun hb => Bd_in fun b42 hb42 => If_in (fun hb2 => ?_) fun hb2 => ?_
      · have hk := of_decide_eq_true hb
        exact Bd_e (y := ((1 : Nat) : Int)) rfl ⟨1, _, rfl, by unfold cntK; rw [if_pos hk], m39, hn39⟩
      · have hk := of_decide_eq_false hb
        have hk3 : k = 3 := by rw [hb42] at hb2; simpa using hb2
        have h2 : 2 ≤ q.len := by have := nodeOk_inv hn; omega
        refine Bd_e rfl <| Bd_e (y := ((q.len - 1 : Nat) : Int)) (by rw [IntKind.wrap_i64]; omega) <| Bd_e (y := ((q.len - 1 : Nat) : Int)) (by rw [IntKind.wrap_i64]; omega) ⟨q.len - 1, _, rfl, by unfold cntK; rw [if_neg hk, if_pos hk3]; rfl, m39, hn39⟩
      · have hk := of_decide_eq_false hb
        have hk3 : k ≠ 3 := by rw [hb42] at hb2; simpa using hb2
        exact ⟨0, _, rfl, by unfold cntK; rw [if_neg hk, if_neg hk3], m39, hn39⟩
    · refine Bd_in fun b47 hb47 => If_in (fun hb w48 h48 hL48 => ?_) fun hb => Bd_in fun b49 hb49 w50 h50 hL50 => ?_
      · have hk : k = 1 := by rw [hb47] at hb; simpa using hb
        refine ⟨?_, h48, hL48 n1 (by simp)⟩
        rw [hb, decide_eq_true (.inl hk)]
      · have hk : k ≠ 1 := by rw [hb47] at hb; simpa using hb
        refine ⟨?_, h50, hL50 n1 (by simp)⟩
        rw [hb49]
        congr 2
        rw [Bool.eq_iff_iff]
        simp [hk]
theorem bld_at {f : Fo} {x : Int} (h1 : 1 ≤ f.len) (h2 : f.len ≤ 200) (hr : f.right = true) (h0 : 0 ≤ x) (hx : x ≤ 20000) : bld f x = if x = 0 then ((0, []), 2) else if x < f.total then ((0, []), 40) else (((bldM f).2, (bldM f).1), 0) := by
  by_cases c : x = 0
  · rw [if_pos c]
    unfold bld
    rw [if_neg (by omega)]
  · rw [if_neg c]
    exact bld_eq h1 h2 (by omega) hx hr
theorem f16_ok (f : Fo) (A : Option Addr) (C : Nat) (cap : Int) (hc0 : 0 ≤ cap) (hc1 : cap < 65536) (w : World) (hr : RepF w A 0 f) (hl : f.len < 2 ^ 63) (hl2 : f.len ≤ 2 ^ 41) :
    Ct Try.prog 16 #[.slice A f.len C, .int .u16 cap] w fun v w' => v = .bool true ∧ Md [] w w' := by
  apply f16_in
  have g0 : Good [] w w := ⟨Md.refl _ _, by simp⟩
  refine in83 f A C hl2 g0 hr fun w2 a3 n5 g2 hr2 => ?_
  have hright := f.good_right
  have hgl := f.good_len
  generalize f.good = g at *
  have h22 : Good [] w2 w2 := ⟨Md.refl _ _, by simp⟩
  have fin : ∀ {w' : World} {L : List Nat}, Good L w2 w' → (Value.bool true = .bool true ∧ Md [] w w') := fun h => ⟨rfl, g2.1.trans h.1⟩
  refine in38 g a3 n5 (by omega) h22 hr2 fun w7 b8 g7 hfew => ?_
  refine Bd_in fun b9 hb9 => Bd_e rfl <| Bd_in fun b11 hb11 => Bd_in fun b12 hb12 => If_in (fun _ => in77 g7 fun w14 g14 => fin g14) fun hb => ?_
  have h8 : b8 = true ∧ 1 ≤ g.len := by
    rw [hb12, hb9, hb11] at hb
    cases h : b8 with
    | false => rw [h] at hb; simp at hb
    | true =>
      rw [h] at hb
      refine ⟨rfl, ?_⟩
      simp at hb
      omega
  have hf := hfew h8.1
  have h1 := h8.2
  have hfl := hf.1
  have hfs := hf.2
  have hcl := g.cnt_le
  have htot : g.total ≤ 3000 := by unfold Fo.total; omega
  have htot1 : 1 ≤ g.total := by unfold Fo.total; omega
  refine Bd_e rfl <| Bd_e (y := ((2 * g.len : Nat) : Int)) (by rw [IntKind.wrap_i64]; omega) <| Bd_e (y := ((2 * g.len - 1 : Nat) : Int)) (by rw [IntKind.wrap_i64]; omega) <| Bd_e rfl ?_
  refine LoopP_in (fun mm us vs w' => ∃ (i m : Nat), us = [.int .i64 m, .int .i64 i] ∧ mm = g.len - i ∧ i ≤ g.len ∧ m + (g.drop i).cnt = g.total ∧ Good [] w2 w') g.len
    ⟨0, 2 * g.len - 1, rfl, rfl, by omega, by simp only [Fo.drop, Fo.total]; omega, g7⟩ ?_
  rintro mm us vs w23 ⟨i, m, rfl, hmm, hi, hm, g23⟩
  refine opI_in <| opI_in <| Bd_in fun b26 hb26 => If_in (fun hb => ?_) fun hb => ?_
  · have hi' : i < g.len := by rw [hb26] at hb; have : (i : Int) < (g.len : Int) := of_decide_eq_true hb
                               omega
    obtain ⟨k, a, b, c, d, q, he, hqs⟩ := Fo.drop_cons g i hi'
    obtain ⟨hn, hq⟩ := right_pre he hright
    have hdc := drop_cnt he
    refine kid_ld hr2 g23.1 he hi' fun sa' sc' hql' hr' => rgU g23 fun n41 w42 g42 m42 => ?_
    refine (f88_ok (q.size + 1) q k a b c d sa' sc' w42 (by omega) (by omega) (hr'.md g42.1) hql' hn hq).call g42.2 ?_
    rintro v w44 rfl m44
    exact opI_in <| Bd_e (y := ((m + cntK k q.len q.cnt : Nat) : Int)) (by rw [IntKind.wrap_i64]; omega) <| Bd_e (y := ((i + 1 : Nat) : Int)) (by rw [IntKind.wrap_i64]; omega) ⟨g.len - (i + 1), by omega, i + 1, _, rfl, rfl, by omega, by omega, g42.1.trans m44, by simp⟩
  have hif : i = g.len := by
    have : ¬ (i : Int) < (g.len : Int) := by rw [hb26] at hb; exact of_decide_eq_false hb
    omega
  subst hif
  rw [Fo.drop_all g _ (Nat.le_refl _)] at hm
  simp only [Fo.cnt, Nat.add_zero] at hm
  subst hm
  have hbl := bldM_len h1 hright (by omega)
  have hat : ∀ {x : Int}, 0 ≤ x → x ≤ 20000 → bld g x = if x = 0 then ((0, []), 2) else if x < g.total then ((0, []), 40) else (((bldM g).2, (bldM g).1), 0) := fun h0 hx => bld_at h1 (by omega) hright h0 hx
  refine in66 g a3 n5 _ g23 (hr2.md g23.1) (by omega) fun a53 c55 w49 g49 m49 own49 => ?_
  rw [hat (by omega) (by omega), if_neg (by omega), if_neg (by omega)] at own49 ⊢
  simp only at own49 ⊢
  intro n57 h57
  refine Bd_e (y := false) rfl <| Bd_e rfl <| Bd_e (y := false) (by rw [hbl]; simp) <| Bd_e (y := false) rfl <| If_in (fun h => by cases h) fun _ => ?_
  have hcap0 : Int.tmod cap 20000 = cap % 20000 := Int.tmod_eq_emod_of_nonneg hc0
  refine Bd_e (y := ((g.total - 1 : Nat) : Int)) (by rw [IntKind.wrap_i64]; omega) <| Bd_e (y := ((g.total + 1 : Nat) : Int)) (by rw [IntKind.wrap_i64]; omega) <| Bd_e (y := cap) (by rw [IntKind.wrap_i64]; omega) <| Bd_e (y := cap % 20000) hcap0 <| Bd_e (y := 1 + cap % 20000) (by rw [IntKind.wrap_i64]; omega) fun w68 h68 hL68 => ?_
  have m68 : Md [] w49 w68 := h68.fresh (by simp; exact h57)
  have g68 : Good [n57] w2 w68 := ⟨g49.1.trans m68, hL68⟩
  refine Nw_i <| Bd_e rfl ?_
  have ma : Md [] w68 (w68.alloc (.cells #[.int .i64 ((g.total - 1 : Nat) : Int), .int .i64 ((g.total + 1 : Nat) : Int), .int .i64 (1 + cap % 20000), .int .i64 20000] 3)) := Md.alloc w68 _
  have hblk := Blk.new w68 #[.int .i64 ((g.total - 1 : Nat) : Int), .int .i64 ((g.total + 1 : Nat) : Int), .int .i64 (1 + cap % 20000), .int .i64 20000] 3
  have own70 := (own49.md m68).md ma
  have g70 := g68.tr ma
  generalize w68.alloc (.cells #[.int .i64 ((g.total - 1 : Nat) : Int), .int .i64 ((g.total + 1 : Nat) : Int), .int .i64 (1 + cap % 20000), .int .i64 20000] 3) = w70 at *
  generalize w68.heap.size = n69 at *
  refine LoopP_in (fun mm us vs w' => ∃ (i : Nat), us = [.bool false, .int .i64 i] ∧ mm = 4 - i ∧ i ≤ 4 ∧ Good [n57] w2 w' ∧ Md [] w70 w') 4 ⟨0, rfl, rfl, by omega, g70, Md.refl _ _⟩ ?_
  rintro mm us vs w75 ⟨i, rfl, hmm, hi, g75, m75⟩
  refine opB_in <| opI_in <| Bd_in fun b78 hb78 => If_in (fun hb => ?_) fun hb => in77 g75 fun w124 g124 => fin g124
  have hi' : i < 4 := by rw [hb78] at hb; have := of_decide_eq_true hb; omega
  refine Jn_in (fun us vs w' => ∃ (x y : Int) (b : Bool), us = [.bool false, .int .i64 x, .int .i64 y, .bool b] ∧ Good [n57] w2 w' ∧ Md [] w70 w') ?_ ?_
  · rintro us vs w81 ⟨x, y, b, rfl, g81, m81⟩
    exact opB_in <| opI_in <| opI_in <| opB_in <| Bd_e (inc_i64 (by omega)) ⟨4 - (i + 1), by omega, i + 1, rfl, rfl, by omega, g81, m81⟩
  have hb75 := hblk.md m75 (by simp)
  obtain ⟨x, e1, hx0, hx1⟩ : ∃ x : Int, [Value.int .i64 ((g.total - 1 : Nat) : Int), .int .i64 ((g.total + 1 : Nat) : Int), .int .i64 (1 + cap % 20000), .int .i64 20000][i]? = some (.int .i64 x) ∧ 0 ≤ x ∧ x ≤ 20000 := by
    rcases (by omega : i = 0 ∨ i = 1 ∨ i = 2 ∨ i = 3) with rfl | rfl | rfl | rfl
    · exact ⟨_, rfl, by omega, by omega⟩
    · exact ⟨_, rfl, by omega, by omega⟩
    · exact ⟨_, rfl, by omega, by omega⟩
    · exact ⟨_, rfl, by omega, by omega⟩
  have eA : adAt (some ⟨n69, 0, none⟩) (i : Int) 1 = ⟨n69, i, none⟩ := by simp only [adAt, Option.getD_some, Int.toNat_natCast, Nat.mul_one]; rw [ad0']
  refine ⟨⟨by omega, by omega, rfl⟩, ?_⟩
  rw [eA]
  refine Ld_in (hb75.cell e1) <| opI_in ?_
  refine in66 g a3 n5 x g75 (hr2.md g75.1) (by omega) fun a95 c97 w91 g91 m91 own91 => ?_
  rw [hat hx0 hx1] at own91 ⊢
  intro n99 h99
  refine Bd_in fun b100 hb100 => If_in (fun hb => ?_) fun hb => ?_
  · have hx : x = 0 := by rw [hb100] at hb; simpa using hb
    rw [if_pos hx]
    refine Bd_e (y := false) rfl <| If_in (fun h => by cases h) fun _ w103 h103 hL103 => ?_
    exact ⟨_, _, _, rfl, ⟨g91.1.trans (h103.fresh (by simp; exact h99)), fun b hb => hL103 b (by simp at hb ⊢; exact .inr hb)⟩, (m75.trans m91).trans (h103.fresh (by simp; exact h99))⟩
  have hx : x ≠ 0 := by rw [hb100] at hb; simpa using hb
  rw [if_neg hx] at own91 ⊢
  refine Bd_in fun b104 hb104 => If_in (fun hb2 => ?_) fun hb2 => ?_
  · have hlt : x < (g.total : Int) := by rw [hb104] at hb2; exact of_decide_eq_true hb2
    rw [if_pos hlt]
    refine Bd_e (y := false) rfl <| Bd_e rfl <| Bd_e (y := false) rfl <| Bd_e (y := false) rfl <| Bd_e (y := false) rfl <| Bd_e (y := false) rfl <| If_in (fun h => by cases h) fun _ w103 h103 hL103 => ?_
    exact ⟨_, _, _, rfl, ⟨g91.1.trans (h103.fresh (by simp; exact h99)), fun b hb => hL103 b (by simp at hb ⊢; exact .inr hb)⟩, (m75.trans m91).trans (h103.fresh (by simp; exact h99))⟩
  · have hlt : ¬ x < (g.total : Int) := by rw [hb104] at hb2; exact of_decide_eq_false hb2
    rw [if_neg hlt] at own91 ⊢
    simp only at own91 ⊢
    refine Bd_e (y := false) rfl fun w114 h114 hL114 => ?_
    have m114 : Md [] w91 w114 := h114.fresh (by simp; exact h99)
    have g114 : Good [n99, n57] w2 w114 := ⟨g91.1.trans m114, hL114⟩
    have r95 := (own91.md m114).row encNs
    have r53 := (own70.md (m75.trans (m91.trans m114))).row encNs
    refine Gd_in (fun _ => in79 _ _ _ _ _ _ _ _ g114 r95 r53 (by omega) fun w117 g117 m117 => ?_) (fun h => by cases h)
    have hsame : nfSame (bldM g).2 (bldM g).1 (bldM g).2 (bldM g).1 = true := by unfold nfSame; simp
    rw [hsame]
    exact Bd_e (y := false) rfl <| Bd_e (y := false) rfl <| If_in (fun h => by cases h) fun _ => ⟨_, _, _, rfl, ⟨g117.1, fun b hb => g117.2 b (by simp at hb ⊢; exact .inr hb)⟩, m75.trans (m91.trans (m114.trans m117))⟩
end Fk
