/- First machines: fronts of texts (NfaFronts). -/
import Derived.Test.YtpgjpgecgibklaaN23
import Derived.Test.YtpgjpgecgibklaaV19
set_option linter.unusedVariables false
set_option linter.unusedSimpArgs false
set_option maxRecDepth 100000
set_option maxHeartbeats 2000000
namespace Fk
open Go Go.Proofs Go.RowKit
/-! ### The plain law -/
theorem runF_take (l : List Ns) : ∀ (s : List Nat) (now : List Bool) (k : Nat), (runF l s now).take k = runF l (s.take k) now
  | [], now, k => by simp [runF]
  | b :: bs, now, 0 => by simp [runF]
  | b :: bs, now, k + 1 => by simp only [runF, List.take_succ_cons, runF_take l bs _ k]
theorem runF_drop (l : List Ns) : ∀ (s : List Nat) (now : List Bool) (i : Nat), ∃ now', (runF l s now).drop i = runF l (s.drop i) now'
  | s, now, 0 => ⟨now, by simp⟩
  | [], now, i + 1 => ⟨now, by simp [runF]⟩
  | b :: bs, now, i + 1 => by
    obtain ⟨n', h⟩ := runF_drop l bs (stepF l b now l (offs l.length)) i
    exact ⟨n', by simp only [runF, List.drop_succ_cons, h]⟩
theorem nfRun_take (st : Int) (l : List Ns) (s : List Nat) (k : Nat) : nfRun st l (s.take k) = (nfRun st l s).take (k + 1) := by
  unfold nfRun
  rw [List.take_succ_cons, runF_take]
/-- No state has the byte. -/
def noneB (b : Nat) (x : Ns) : Bool := x.k != 1 || !inQ x.q b
theorem stepF_dead (l : List Ns) (b : Nat) : ∀ (now : List Bool) (xs : List Ns) (N : List Bool), xs.all (noneB b) = true → stepF l b now xs N = N
  | [], xs, N, _ => by cases xs <;> rfl
  | h :: hs, [], N, _ => rfl
  | h :: hs, x :: xs, N, hx => by
    rw [List.all_cons, Bool.and_eq_true] at hx
    show stepF l b hs xs _ = N
    rw [if_neg, stepF_dead l b hs xs N hx.2]
    rintro ⟨_, h2, h3⟩
    have := hx.1
    unfold noneB at this
    simp [h2, h3] at this
theorem stepF_off (l : List Ns) (b : Nat) : ∀ (n : Nat) (xs : List Ns) (N : List Bool), stepF l b (offs n) xs N = N
  | 0, xs, N => by cases xs <;> rfl
  | n + 1, [], N => rfl
  | n + 1, x :: xs, N => by
    show stepF l b (offs n) xs _ = N
    rw [if_neg (by simp), stepF_off l b n xs N]
theorem tagF_off : ∀ (n : Nat) (xs : List Ns) (t : Int), tagF (offs n) xs t = t
  | 0, xs, t => by cases xs <;> rfl
  | n + 1, [], t => rfl
  | n + 1, x :: xs, t => by
    show tagF (offs n) xs _ = t
    rw [if_neg (by simp), tagF_off n xs t]
theorem runF_off (l : List Ns) : ∀ s : List Nat, ∀ t ∈ runF l s (offs l.length), t = -1
  | [], t, h => by simp [runF] at h
  | b :: bs, t, h => by
    simp only [runF, stepF_off, List.mem_cons] at h
    rcases h with rfl | h
    · exact tagF_off _ _ _
    · exact runF_off l bs t h
theorem nfRun_dead (st : Int) (l : List Ns) (s : List Nat) (i : Nat) (hi : i < s.length) (h : l.all (noneB s[i]) = true) : ∀ t ∈ (nfRun st l s).drop (i + 1), t < 0 := by
  unfold nfRun
  rw [List.drop_succ_cons]
  obtain ⟨n', e⟩ := runF_drop l s (come l st (offs l.length)) i
  rw [e, List.drop_eq_getElem_cons hi]
  intro t ht
  simp only [runF, stepF_dead l _ n' l _ h, List.mem_cons] at ht
  rcases ht with rfl | ht
  · rw [tagF_off]; omega
  · rw [runF_off l _ t ht]; omega
theorem size31 (w : World) : (Go.sizeOf 3).run Try.prog w = .ok 1 w := by
  have h : (Try.prog.info? 3).map (·.size) = some 1 := by kernel_rfl
  cases hi : Try.prog.info? 3 with
  | none => simp [hi] at h
  | some i => simp [hi] at h; simp [Go.sizeOf, typeInfo, hi, h]
theorem row_rest {w : World} {A : Option Addr} {l : List Int} (h : RowAt w A 1 i1 l) {c m : Nat} (hm : m ≤ l.length) (hc : l.length ≤ c) : RowAt w (if c = m then A else A.map (·.add (m * 1))) 1 i1 (l.drop m) := by
  split
  · rename_i e
    rw [List.drop_of_length_le (by omega)]
    intro i x hx
    simp at hx
  · exact h.drop m
/-! ### The walk -/
theorem f17_ok (st : Int) (l : List Ns) (B : Option Addr) (D : Nat) (f : Fo) (A : Option Addr) (C : Nat) (s : List Nat) (hs : ∀ x ∈ s, x < 256) (cut : Nat) (hcut : cut < 256) (w : World) (hr : RepF w A 0 f) (hl : f.len ≤ 2 ^ 41) (hn : RowAt w B 8 nsE l) :
    Ct Try.prog 17 #[.agg #[.int .i64 st, .slice B l.length D], .slice A f.len C, .string (bytesOf s), .int .u8 (cut : Int)] w fun v w' => v = .bool true ∧ Md [] w w' := by
  apply f17_in
  intro n1 hn1 w2 h2 hL2
  have g2 : Good [n1] w w2 := ⟨h2, hL2⟩
  refine in83 f A C hl g2 (hr.md h2) fun w4 a5 c7 g4 hr4 => ?_
  have hright := f.good_right
  have hgl := f.good_len
  generalize f.good = g at *
  have h44 : Good [n1] w4 w4 := ⟨Md.refl _ _, g4.2⟩
  have hn4 : RowAt w4 B 8 nsE l := hn.md g4.1
  have fin : ∀ {w' : World} {L : List Nat}, Good L w4 w' → (Value.bool true = .bool true ∧ Md [] w w') := fun h => ⟨rfl, g4.1.trans h.1⟩
  refine in76 st B l.length D h44 fun w9 g9 => ?_
  refine Bd_in fun b11 hb11 => ?_
  refine Gd_to (fun b w' => Good [n1] w4 w' ∧ (b11 = false → b = true → g.few)) (fun b16 w17 hJ => ?_) (fun fin hc => ?_) fun hc => ⟨g9, fun h => by rw [h] at hc; cases hc⟩
  case refine_2 =>
    exact in38 g a5 c7 (by omega) g9 (hr4.md g9.1) fun w14 b15 g14 hfew => fin _ _ ⟨g14, fun _ => hfew⟩
  obtain ⟨g17, hfew⟩ := hJ
  refine Bd_in fun b18 hb18 => Bd_in fun b19 hb19 => If_in (fun _ => in77 g17 fun w21 g21 => fin g21) fun hb => ?_
  have h11 : b11 = false := by
    rw [hb19] at hb
    cases h : b11 with
    | false => rfl
    | true => rw [h] at hb; simp at hb
  have h16 : b16 = true := by rw [hb19, hb18, h11] at hb; simpa using hb
  have hln : l.length ≤ 300 := by rw [hb11] at h11; simpa using h11
  have hf := hfew h11 h16
  have hfl := hf.1
  refine in68 s 30 g17 fun w24 g24 _ => ?_
  have hs2 : ∀ x ∈ s.take 30, x < 256 := fun x hx => hs x (List.mem_of_mem_take hx)
  have hsl : (s.take 30).length ≤ 30 := by rw [List.length_take]; omega
  generalize s.take 30 = t at hs2 hsl ⊢
  refine in66 g a5 c7 20000 g24 (hr4.md g24.1) (by omega) fun a31 c33 w27 g27 _ own27 => rgU g27 fun n35 w36 g36 m36 => ?_
  have hbl := bld_len g 20000
  refine Nw_i <| Bd_e rfl ?_
  have ma : Md [] w36 (w36.alloc (.cells #[.int .i64 st, .slice B l.length D, .int .i64 (bld g 20000).1.1, .slice a31 (bld g 20000).1.2.length c33] 71)) := Md.alloc w36 _
  have hblk := Blk.new w36 #[.int .i64 st, .slice B l.length D, .int .i64 (bld g 20000).1.1, .slice a31 (bld g 20000).1.2.length c33] 71
  have g38 := g36.tr ma
  have rA : RowAt (w36.alloc (.cells #[.int .i64 st, .slice B l.length D, .int .i64 (bld g 20000).1.1, .slice a31 (bld g 20000).1.2.length c33] 71)) B 8 nsE l := hn4.md g38.1
  have rB := ((own27.md m36).md ma).row encNs
  generalize w36.alloc (.cells #[.int .i64 st, .slice B l.length D, .int .i64 (bld g 20000).1.1, .slice a31 (bld g 20000).1.2.length c33] 71) = w38 at *
  generalize w36.heap.size = n37 at *
  generalize (bld g 20000).1.1 = st2 at *
  generalize (bld g 20000).1.2 = l2 at *
  refine LoopP_in (fun mm us vs w' => ∃ (i : Nat) (b : Bool), us = [.bool b, .int .i64 i] ∧ mm = 2 - i ∧ i ≤ 2 ∧ Good [n35, n1] w4 w' ∧ Md [] w38 w') 2 ⟨0, _, rfl, rfl, by omega, g38, Md.refl _ _⟩ ?_
  rintro mm us vs w43 ⟨i, b44, rfl, rfl, hi, g43, m43⟩
  refine opB_in <| opI_in <| Bd_in fun b46 hb46 => If_in (fun hb => ?_) fun hb => in77 g43 fun w195 g195 => fin g195
  have hi' : i < 2 := by rw [hb46] at hb; have := of_decide_eq_true hb; omega
  refine Jn_in (fun us vs w' => ∃ b, us = [.bool b] ∧ Good [n35, n1] w4 w' ∧ Md [] w38 w') ?_ ?_
  · rintro us vs w49 ⟨b, rfl, g49, m49⟩
    exact opB_in <| Bd_e (inc_i64 (by omega)) ⟨2 - (i + 1), by omega, i + 1, b, rfl, rfl, by omega, g49, m49⟩
  have hb43 := hblk.md m43 (by simp)
  obtain ⟨st3, l3, A3, C3, e1, e2, r3, hl3⟩ : ∃ st3 l3 A3 C3, [Value.int .i64 st, .slice B l.length D, .int .i64 st2, .slice a31 l2.length c33][i * 2]? = some (.int .i64 st3) ∧ [Value.int .i64 st, .slice B l.length D, .int .i64 st2, .slice a31 l2.length c33][i * 2 + 1]? = some (.slice A3 (List.length l3) C3) ∧ RowAt w38 A3 8 nsE l3 ∧ l3.length < 2 ^ 39 := by
    rcases (by omega : i = 0 ∨ i = 1) with rfl | rfl
    · exact ⟨st, l, B, D, rfl, rfl, rA, by omega⟩
    · exact ⟨st2, l2, a31, c33, rfl, rfl, rB, by omega⟩
  have eA : ∀ j, (adAt (some ⟨n37, 0, none⟩) (i : Int) 2).add j = ⟨n37, i * 2 + j, none⟩ := fun j => by simp only [adAt, Option.getD_some, Int.toNat_natCast]; rw [add_add, ad0']
  refine ⟨⟨by omega, by omega, rfl⟩, ?_⟩
  rw [eA, eA]
  refine Ld_in (hb43.cell e1) <| Ld_in (hb43.cell e2) <| opI_in <| opL_in <| rgU g43 fun n59 w60 g60 m60 => ?_
  have rr : ∀ {w' : World}, Md [] w43 w' → RowAt w' A3 8 nsE l3 := fun hm => r3.md (m43.trans hm)
  have down : ∀ {w' : World}, Good [n59, n35, n1] w4 w' → Good [n35, n1] w4 w' := fun h => ⟨h.1, fun b hb => h.2 b (by simp at hb ⊢; exact .inr hb)⟩
  refine in81 st3 l3 A3 C3 g60 (rr m60) (by omega) fun w62 g62 m62 => ?_
  have m662 := m60.trans m62
  refine Bd_in fun b64 hb64 => If_in (fun hb => ?_) fun hb => ?_
  · have hnr : nfRight st3 l3 = false := by rw [hb64] at hb; simpa using hb
    have eR : runA st3 l3 t = ([], 2) := by unfold runA; rw [hnr]; rfl
    refine in69 st3 l3 A3 C3 t hs2 g62 (rr m662) (by omega) (by omega) fun a68 c70 w66 g66 m66 own66 => ?_
    rw [eR]
    exact Bd_e (y := false) rfl <| Bd_e rfl <| Bd_e (y := false) rfl <| Bd_e (y := false) rfl <| If_in (fun h => by cases h) fun _ => ⟨_, rfl, down g66, m43.trans (m662.trans m66)⟩
  have hrt : nfRight st3 l3 = true := by rw [hb64] at hb; simpa using hb
  have eR : ∀ u, runA st3 l3 u = (nfRun st3 l3 u, 0) := fun u => by unfold runA; rw [if_pos hrt]
  refine Bd_e (y := (cut : Int)) (by rw [IntKind.wrap_i64]; omega) <| Bd_e rfl ?_
  rw [nsz_bytesOf]
  refine Bd_e (y := ((t.length + 1 : Nat) : Int)) (by rw [IntKind.wrap_i64]; omega) ⟨by omega, Bd_e (y := ((cut % (t.length + 1) : Nat) : Int)) (by rw [Int.tmod_eq_emod_of_nonneg (by omega)]; omega) ?_⟩
  have hk : cut % (t.length + 1) < t.length + 1 := Nat.mod_lt _ (by omega)
  generalize cut % (t.length + 1) = k at hk ⊢
  refine in69 st3 l3 A3 C3 t hs2 g62 (rr m662) (by omega) (by omega) fun a83 c85 w81 g81 m81 own81 => ?_
  have m681 := m662.trans m81
  rw [eR] at own81 ⊢
  have hal : (nfRun st3 l3 t).length = t.length + 1 := by simp only [nfRun, List.length_cons, runF_len]
  refine ⟨fun _ => True, trivial, _, fun w' _ => ⟨ncut_h w' t k (by omega)⟩, opStr_in ?_⟩
  have md81 := m681.trans (Md_drew w81)
  refine in69 st3 l3 A3 C3 (t.take k) (fun x hx => hs2 x (List.mem_of_mem_take hx)) g81.drew (rr md81) (by omega) (by rw [List.length_take]; omega) fun a95 c97 w93 g93 m93 own93 => ⟨trivial, ?_⟩
  rw [eR, nfRun_take] at own93 ⊢
  have md93 := md81.trans m93
  simp only at own81 own93 ⊢
  have own83 := (own81.md (Md_drew w81)).md m93
  have hcap := own83.cap
  refine Bd_e (y := false) rfl <| Bd_e (y := false) rfl <| Bd_e (y := false) rfl <| Bd_e rfl <| Bd_e rfl <| Bd_e (y := ((t.length + 1 : Nat) : Int)) (by rw [IntKind.wrap_i64]; omega) <| Bd_e (y := false) (by rw [hal]; simp) <| Bd_e (y := false) rfl <| Bd_e (y := ((k + 1 : Nat) : Int)) (by rw [IntKind.wrap_i64]; omega) <| Bd_e rfl <| Bd_e (y := ((k + 1 : Nat) : Int)) (by rw [hal]; split <;> omega) ?_
  refine Gd_in (fun _ => RunW_in0 (slice_front (e := 3) (by kernel_rfl) size3 _ _ _ _ (k + 1) (by omega)) <| opL_in ?_) (fun h => by cases h)
  have htk : ((nfRun st3 l3 t).take (k + 1)).length = k + 1 := by rw [List.length_take]; omega
  have q1 : RowAt w93 a95 1 i1 ((nfRun st3 l3 t).take (k + 1)) := own93.row enci1
  have q2 : RowAt w93 a83 1 i1 ((nfRun st3 l3 t).take (k + 1)) := (own83.row enci1).take (k + 1)
  have c73 := @in73 [n59, n35, n1] w4 w93 ((nfRun st3 l3 t).take (k + 1)) ((nfRun st3 l3 t).take (k + 1)) a95 a83 c97 c85 g93 q1 q2 (by omega)
  rw [htk] at c73 ⊢
  refine Gd_in (fun _ => c73 fun w120 g120 m120 => ?_) (fun h => by cases h)
  refine Bd_e (y := false) (by simp) <| Bd_e (y := false) rfl <| If_in (fun h => by cases h) fun _ => ?_
  refine Bd_e rfl ?_
  have md120 := md93.trans m120
  have own120 := own83.md m120
  clear c73
  refine LoopP_in (fun mm us vs w' => ∃ (i : Nat) (b : Bool), us = [.bool b, .int .i64 i] ∧ mm = t.length - i ∧ i ≤ t.length ∧ Good [n59, n35, n1] w4 w' ∧ Md [] w120 w') t.length ⟨0, _, rfl, rfl, by omega, g120, Md.refl _ _⟩ ?_
  rintro m2 us vs w130 ⟨p, b131, rfl, hm2, hp, g130, m130⟩
  refine opB_in <| opI_in <| Bd_in fun b133 hb133 => If_in (fun hb => ?_) fun hb => ⟨_, rfl, down g130, m43.trans (md120.trans m130)⟩
  have hpl : p < t.length := by rw [hb133] at hb; have : (p : Int) < (t.length : Int) := of_decide_eq_true hb
                                omega
  refine Bd_e rfl ?_
  refine LoopP_in (fun mm us vs w' => ∃ (j : Nat), us = [.bool ((l3.take j).all (noneB t[p])), .int .i64 j] ∧ mm = l3.length - j ∧ j ≤ l3.length ∧ Good [n59, n35, n1] w4 w' ∧ Md [] w120 w') l3.length ⟨0, by simp, rfl, by omega, g130, m130⟩ ?_
  rintro m3 us vs w138 ⟨j, rfl, hm3, hj, g138, m138⟩
  have md138 := md120.trans m138
  refine opB_in <| opI_in <| Bd_in fun b141 hb141 => If_in (fun hb => ?_) fun hb => ?_
  · have hjl : j < l3.length := by rw [hb141] at hb; have : (j : Int) < (l3.length : Int) := of_decide_eq_true hb
                                   omega
    refine ⟨(rr md138).ix hjl, (rr md138).ld8 hjl <| rgU g138 fun n158 w159 g159 m159 => ?_⟩
    refine ⟨fun _ => True, trivial, Bd_in fun b161 hb161 => ⟨fun _ => ⟨by omega, by first | omega | (rw [nsz_bytesOf]; omega)⟩, Bd_e (byteAt_bytesOf hs2 hpl) ?_⟩⟩
    have md159 := m138.trans m159
    refine Gd_to (fun b w' => Good [n158, n59, n35, n1] w4 w' ∧ Md [] w120 w' ∧ (((l3.take j).all (noneB t[p]) && !b161) = true → b = inQ l3[j].q t[p])) (fun b168 w169 hJ => ?_) (fun fin hc => ?_) fun hc => ⟨g159.drew, md159.trans (Md_drew _), fun h => by rw [h] at hc; cases hc⟩
    · obtain ⟨g169, m169, h168⟩ := hJ
      refine ⟨trivial, Bd_in fun b170 hb170 => Bd_in fun b171 hb171 => Bd_in fun b172 hb172 => ?_⟩
      have e172 : b172 = (l3.take (j + 1)).all (noneB t[p]) := by
        rw [List.take_succ_eq_append_getElem hjl, List.all_append, hb172, hb171, hb170]
        simp only [List.all_cons, List.all_nil, Bool.and_true, noneB]
        cases h1 : (l3.take j).all (noneB t[p]) with
        | false => simp
        | true =>
          rw [h1] at h168
          rw [← hb161]
          cases h2 : b161 with
          | true => simp
          | false => rw [h168 (by rw [h2]; rfl)]; simp
      rw [e172]
      exact Bd_e (inc_i64 (by omega)) ⟨l3.length - (j + 1), by omega, j + 1, rfl, rfl, by omega, ⟨g169.1, fun b hb => g169.2 b (by simp at hb ⊢; exact .inr hb)⟩, m169⟩
    · refine (f50_ok l3[j].q t[p] (hs2 _ (List.getElem_mem hpl)) w159.drew).call g159.drew.2 ?_
      rintro v w166 rfl h166
      exact opB_in <| fin _ _ ⟨g159.drew.tr h166, (md159.trans (Md_drew _)).trans h166, fun _ => rfl⟩
  · have hjl : j = l3.length := by
      have : ¬ (j : Int) < (l3.length : Int) := by rw [hb141] at hb; exact of_decide_eq_false hb
      omega
    subst hjl
    rw [List.take_length]
    refine Bd_e (y := ((p + 1 : Nat) : Int)) (by rw [IntKind.wrap_i64]; omega) ?_
    refine RunW_in0 (slice_rest (e := 3) (by kernel_rfl) size31 _ _ _ _ (p + 1) (by omega)) <| opL_in ?_
    have r138 : RowAt w138 (if c85 = p + 1 then a83 else a83.map (·.add ((p + 1) * 1))) 1 i1 ((nfRun st3 l3 t).drop (p + 1)) := row_rest ((own120.md m138).row enci1) (by omega) (by omega)
    have hdl : ((nfRun st3 l3 t).drop (p + 1)).length = (nfRun st3 l3 t).length - (p + 1) := List.length_drop
    rw [← hdl]
    have hdead := nfRun_dead st3 l3 t p hpl
    refine Bd_e rfl ?_
    refine LoopP_in (fun mm us vs w' => ∃ (j : Nat) (b : Bool), us = [.bool b, .int .i64 j] ∧ mm = ((nfRun st3 l3 t).drop (p + 1)).length - j ∧ j ≤ ((nfRun st3 l3 t).drop (p + 1)).length ∧ Good [n59, n35, n1] w4 w' ∧ Md [] w138 w') ((nfRun st3 l3 t).drop (p + 1)).length ⟨0, _, rfl, rfl, by omega, g138, Md.refl _ _⟩ ?_
    rintro m4 us vs w184 ⟨q, b185, rfl, hm4, hq, g184, m184⟩
    refine opB_in <| opI_in <| Bd_in fun b187 hb187 => If_in (fun hb => ?_) fun hb => ?_
    · have hql : q < ((nfRun st3 l3 t).drop (p + 1)).length := by rw [hb187] at hb; have : (q : Int) < (((nfRun st3 l3 t).drop (p + 1)).length : Int) := of_decide_eq_true hb
                                                                  omega
      refine ⟨(r138.md m184).ix hql, (r138.md m184).ld1 hql rfl <| opI_in <| Bd_in fun b190 hb190 => Bd_in fun b191 hb191 => If_in (fun h => ?_) fun _ => Bd_e (y := ((q + 1 : Nat) : Int)) (by rw [IntKind.wrap_i64]; omega) ⟨((nfRun st3 l3 t).drop (p + 1)).length - (q + 1), by omega, q + 1, _, rfl, rfl, by omega, g184, m184⟩⟩
      rw [hb191] at h
      cases hd : l3.all (noneB t[p]) with
      | false => rw [hd] at h; cases h
      | true =>
        rw [hd, hb190] at h
        have := hdead hd _ (List.getElem_mem hql)
        simp only [cond_true, decide_eq_true_eq] at h
        omega
    · exact Bd_e (inc_i64 (by omega)) ⟨t.length - (p + 1), by omega, p + 1, _, rfl, rfl, by omega, g184, m138.trans m184⟩
end Fk
