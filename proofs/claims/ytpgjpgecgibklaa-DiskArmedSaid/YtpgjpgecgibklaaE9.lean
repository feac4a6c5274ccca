/- The law 'DiskArmed': what its code does. -/
import Derived.Test.YtpgjpgecgibklaaE7
import Derived.Test.YtpgjpgecgibklaaV8
set_option linter.unusedVariables false
set_option linter.unusedSimpArgs false
set_option maxRecDepth 100000
namespace Fk
open Go Go.Proofs Go.RowKit
/-- Two disks that go the same way, the one armed. -/
structure Arms (n : Nat) (at' : Nat) (d e : Dk) : Prop where
  bl : d.bl = e.bl
  pd : d.pd = e.pd
  er : e.rf = 0
  dr : d.rf = max ((n : Int) + 1 - at') 0
  len : e.bl.length = 8
def isStep (o : Op20) : Prop := (o.k = 1 ∧ 0 ≤ o.n ∧ o.n ≤ 7 ∧ o.bytes.length = 64) ∨ o.k = 2
instance (o : Op20) : Decidable (isStep o) := by unfold isStep; infer_instance
theorem arms_step {n at' : Nat} {d e : Dk} (h : Arms n at' d e) : (d.stepD.2 = true ↔ at' ≠ n) ∧ d.stepD.1.bl = d.bl ∧ d.stepD.1.pd = d.pd ∧ d.stepD.1.rf = max ((n : Int) + 1 - (at' + 1 : Nat)) 0 ∧ e.stepD = (e, true) := by
  obtain ⟨h1, h2⟩ := stepD_bl d
  refine ⟨?_, h1, h2, ?_, ?_⟩
  · unfold Dk.stepD
    rw [h.dr]
    split
    · simp only [decide_eq_true_eq]; omega
    · simp; omega
  · unfold Dk.stepD
    split
    · simp only; rw [h.dr] at *; omega
    · rename_i hh; rw [h.dr] at hh ⊢; omega
  · unfold Dk.stepD
    rw [if_neg (by rw [h.er]; omega)]
theorem arms_does {n at' : Nat} {d e : Dk} (h : Arms n at' d e) {o : Op20} (ho : isStep o) :
    (at' = n → (d.does o).2 = 200 ∧ Arms n (at' + 1) (d.does o).1 e) ∧ (at' ≠ n → (d.does o).2 = 0 ∧ (e.does o).2 = 0 ∧ Arms n (at' + 1) (d.does o).1 (e.does o).1) := by
  obtain ⟨s1, s2, s3, s4, s5⟩ := arms_step h
  rcases ho with ⟨hk, h0, h7, hb⟩ | hk
  · have ed : ∀ x : Dk, x.does o = x.write o.n o.bytes := fun x => by unfold Dk.does; rw [if_pos hk]
    rw [ed, ed]
    have w1 : d.write o.n o.bytes = if d.stepD.2 = true then (d.stepD.1.put o.n.toNat (mkBk o.bytes), 0) else (d.stepD.1, 200) := by
      unfold Dk.write; rw [if_neg (by rw [h.bl, h.len]; intro hh; exact hh ⟨h0, by omega, hb⟩)]
    have w2 : e.write o.n o.bytes = (e.put o.n.toNat (mkBk o.bytes), 0) := by
      unfold Dk.write; rw [if_neg (by rw [h.len]; intro hh; exact hh ⟨h0, by omega, hb⟩), s5]; rfl
    rw [w1, w2]
    constructor
    · intro he
      have : ¬ d.stepD.2 = true := fun hh => s1.1 hh he
      rw [if_neg this]
      exact ⟨rfl, s2.trans h.bl, s3.trans h.pd, h.er, s4, h.len⟩
    · intro he
      rw [if_pos (s1.2 he)]
      refine ⟨rfl, rfl, ?_, ?_, h.er, s4, ?_⟩
      · simp [Dk.put, s2, h.bl]
      · simp [Dk.put, s2, s3, h.bl, h.pd]
      · simp [Dk.put, h.len]
  · have ed : ∀ x : Dk, x.does o = x.flush := fun x => by unfold Dk.does; rw [if_neg (by omega), if_pos hk]
    rw [ed, ed]
    have w2 : e.flush = ({ e with pd := [] }, 0) := by unfold Dk.flush; rw [s5]; rfl
    rw [w2]
    unfold Dk.flush
    constructor
    · intro he
      have : ¬ d.stepD.2 = true := fun hh => s1.1 hh he
      rw [if_neg this]
      exact ⟨rfl, s2.trans h.bl, s3.trans h.pd, h.er, s4, h.len⟩
    · intro he
      rw [if_pos (s1.2 he)]
      exact ⟨rfl, rfl, s2.trans h.bl, rfl, h.er, s4, h.len⟩
theorem in110 {w0 w : World} {L : List Nat} (hm : Md [] w0 w) (o : Op20) (ho : o.ok) (hL : ∀ b ∈ L, b < w.heap.size) {K : Option Addr → Nat → Nat → World → Prop}
    (k : ∀ a c C w', Md [] w0 w' → Md [] w w' → OwnL w' w.heap.size 5 1 b1 a C o.bytes → o.bytes.length ≤ c → K a o.bytes.length c w') :
    CallW Try.prog L 110 #[.agg #[.int .u8 o.k, .int .i64 o.n, .int .i64 o.m, .int .u8 o.c, .int .u8 o.l, .bool o.u]] (fun v w' => opL v fun a n c => K a n c w') w := by
  refine (f110_ok o ho w).call hL ?_
  rintro v w' ⟨a, c, C, rfl, hc, hown⟩ h'
  exact opL_in (k a c C w' (hm.trans h') h' hown hc)
theorem does_none {d : Dk} {o : Op20} (hk : o.k = 1) (h : ¬ (0 ≤ o.n ∧ o.n ≤ 7 ∧ o.bytes.length = 64)) (hl : d.bl.length = 8) : d.does o = (d, 2) := by
  unfold Dk.does
  rw [if_pos hk]
  unfold Dk.write
  rw [if_pos (by rw [hl]; rintro ⟨h1, h2, h3⟩; exact h ⟨h1, by omega, h3⟩)]
theorem f25_ok (l : List Op20) (A : Option Addr) (C : Nat) (hl : l.length < 2 ^ 63) (hC : l.length ≤ C) (hok : ∀ o ∈ l, o.ok) (n : Nat) (hn : n < 256) (w : World) (hr : RowAt w A 6 opE l) :
    Ct Try.prog 25 #[.slice A l.length C, .int .u8 n] w fun v w' => v = .bool true ∧ Md [] w w' := by
  apply f25_in
  refine in109 (w0 := w) (Md.refl _ _) 8 (by omega) (by omega) (by simp) fun n1 F1 w2 S1 m2 hF1 => ?_
  refine in109 m2 8 (by omega) (by omega) (by simp) fun n2 F2 w7 S2 m7 hF2 => ?_
  have S : DS2 w w7 n1 (newDk 8) F1 n2 (newDk 8) F2 := ⟨S1.md0 m7, S2, fun b hb hb' => by have := hF2 b hb; have := S1.dk.lt b hb'; omega⟩
  refine Bd_e (wrap_byte hn) <| Bd_e (y := 1 + (n : Int)) (by rw [IntKind.wrap_i64]; omega) ?_
  refine in102 S.a (LF.nil _ _) _ (by omega) fun w14 q14 m14 _ => ?_
  have S := S.stepA q14 m14 (Fr.refl _ _)
  have R0 : Arms n 0 ((newDk 8).arm (1 + (n : Int))) (newDk 8) := ⟨rfl, rfl, rfl, by simp [Dk.arm]; omega, by simp [newDk]⟩
  have p0 : ((newDk 8).arm (1 + (n : Int))).pd.length = 0 := rfl
  generalize (newDk 8).arm (1 + (n : Int)) = D0 at *
  generalize hE0 : newDk 8 = E0 at *
  refine Bd_e rfl <| Bd_e (y := ((min l.length 30 : Nat) : Int)) (by split <;> omega) ?_
  refine RunW_in0 (slice_front (e := 125) (by kernel_rfl) size125 _ _ _ _ _ (by omega)) <| opL_in <| Bd_e rfl ?_
  refine LoopP_in (fun m us vs w' => ∃ (i at' : Nat) (d e : Dk) (F1 F2 : List Nat), us = [.int .i64 at', .bool false, .int .i64 i] ∧ m = min l.length 30 - i ∧ i ≤ min l.length 30 ∧ at' ≤ i ∧ d.pd.length ≤ i ∧ Arms n at' d e ∧ DS2 w w' n1 d F1 n2 e F2) (min l.length 30)
    ⟨0, 0, D0, E0, F1, F2, rfl, rfl, by omega, by omega, by omega, R0, S⟩ ?_
  rintro m us vs w27 ⟨i, at', d, e, F1, F2, rfl, rfl, hi, hat, hpd, hR, S⟩
  refine opI_in <| opB_in <| opI_in <| Bd_in fun b31 hb31 => If_in (fun hb => ?_) fun hb => ?_
  case refine_2 => exact in107 S.a.md (by simp) fun w' m' _ => ⟨rfl, m'⟩
  have hi' : i < min l.length 30 := by rw [hb31] at hb; have : (i : Int) < ((min l.length 30 : Nat) : Int) := by simpa using hb
                                       omega
  have hil : i < l.length := by omega
  refine Jn_in (fun us vs w' => ∃ (at2 : Nat) (d e : Dk) (F1 F2 : List Nat), us = [.int .i64 at2, .bool false] ∧ at2 ≤ i + 1 ∧ d.pd.length ≤ i + 1 ∧ Arms n at2 d e ∧ DS2 w w' n1 d F1 n2 e F2) ?_ ?_
  · rintro us vs w34 ⟨at2, d, e, F1, F2, rfl, h1, h2, h3, h4⟩
    exact opI_in <| opB_in <| Bd_e (inc_i64 (by omega)) ⟨min l.length 30 - (i + 1), by omega, i + 1, at2, d, e, F1, F2, rfl, rfl, by omega, h1, h2, h3, h4⟩
  have hrow := hr.md S.a.md
  have hok' := hok _ (List.getElem_mem hil)
  have hix : IxOk (i : Int) (min l.length 30) A := by have := hr.ix hil; exact ⟨this.1, by omega, this.2.2⟩
  refine ⟨hix, hrow.ldj hil rfl <| hrow.ldj hil rfl <| hrow.ldj hil rfl <| hrow.ldj hil rfl <| hrow.ldj hil rfl <| hrow.ldj hil rfl <| opI_in <| opI_in <| opI_in <| opI_in <| opI_in <| opB_in fun n51 hn51 => ?_⟩
  have hn51F : ∀ {w'}, Md [n51] w27 w' → (∀ b ∈ [n51], b < w'.heap.size) → DS2 w w' n1 d F1 n2 e F2 ∧ LF [n51] w' F1 ∧ LF [n51] w' F2 := fun hm hL => ⟨S.md0 (mdUp hn51 hm), LF.new S.a.dk.lt hn51 (hL n51 (by simp)), LF.new S.b.dk.lt hn51 (hL n51 (by simp))⟩
  generalize hO : l[i] = o at *
  have hdl : d.bl.length = 8 := by rw [hR.bl]; exact hR.len
  have hwl := write_len
  refine Bd_in fun b52 hb52 => Bd_in fun b53 hb53 => Bd_in fun b54 hb54 => If_in (fun h w55 h55 hL55 => ?_) fun h => ?_
  · obtain ⟨S', _, _⟩ := hn51F h55 hL55
    exact ⟨at', d, e, F1, F2, rfl, by omega, by omega, hR, S'⟩
  have hk12 : o.k = 1 ∨ o.k = 2 := by
    rw [hb54, hb52, hb53] at h
    by_cases h1 : o.k = 1
    · exact .inl h1
    · have : ((o.k : Int) != 1) = true := by simp; omega
      rw [this, cond_true] at h
      right
      have : (o.k : Int) = 2 := by simpa using h
      omega
  clear hb54 hb53 hb52 h
  refine Bd_in fun b56 hb56 => Bd_in fun b57 hb57 => Bd_in fun b58 hb58 => Bd_in fun b59 hb59 w60 h60 hL60 => ?_
  obtain ⟨S60, lf1, lf2⟩ := hn51F h60 hL60
  have e56 : b56 = decide (o.k = 1) := by rw [hb56, Bool.eq_iff_iff]; simp; omega
  have e59 : b59 = !decide (0 ≤ o.n ∧ o.n ≤ 7) := by
    rw [hb59, hb57, hb58]
    by_cases h1 : o.n < 0
    · have : ¬ (0 ≤ o.n ∧ o.n ≤ 7) := by omega
      simp [h1, this]
    · by_cases h2 : o.n > 7
      · have : ¬ (0 ≤ o.n ∧ o.n ≤ 7) := by omega
        simp [h1, h2, this]
      · have : 0 ≤ o.n ∧ o.n ≤ 7 := by omega
        simp [h1, h2, this]
  refine Gd_to (fun (u : Option Addr × Nat × Nat) w' => ((b56 && !b59) = true → u.2.1 = o.bytes.length) ∧ Md [] w60 w') (fun u w68 hJ => ?_) (fun fin hc => in110 (Md.refl _ _) o hok' hL60 fun a c C w' m1 m2 _ _ => fin _ _ ⟨fun _ => rfl, m1⟩) (fun hc => ⟨fun h => (by rw [hc] at h; cases h), Md.refl _ _⟩)
  obtain ⟨hu, m68⟩ := hJ
  have S68 := S60.md0 m68
  have lf1 := lf1.md m68.size
  have lf2 := lf2.md m68.size
  refine Bd_in fun x69 hx69 => Bd_in fun b70 hb70 => Bd_in fun b71 hb71 => Bd_in fun b72 hb72 => ?_
  have e72 : b72 = !decide (isStep o) := by
    rw [hb72]
    rcases hk12 with hk | hk
    · have : b56 = true := by rw [e56]; simpa using hk
      rw [this, cond_true, hb71]
      by_cases hin : 0 ≤ o.n ∧ o.n ≤ 7
      · have t59 : b59 = false := by rw [e59]; simp [hin]
        rw [t59, cond_false, hb70, hx69, hu (by rw [this, t59]; rfl)]
        by_cases h64 : o.bytes.length = 64
        · have : isStep o := .inl ⟨hk, hin.1, hin.2, h64⟩
          simp [h64, this]
        · have : ¬ isStep o := by rintro (⟨_, _, _, h⟩ | h) <;> omega
          simp [this]; omega
      · have t59 : b59 = true := by rw [e59]; simp; omega
        have : ¬ isStep o := by rintro (⟨_, h1, h2, _⟩ | h) <;> omega
        rw [t59]; simp [this]
    · have : b56 = false := by rw [e56]; simp; omega
      have h2 : isStep o := .inr hk
      rw [this]; simp [h2]
  refine If_in (fun h => ?_) fun h => ?_
  · have hns : ¬ isStep o := by have := (not_eq_of e72).1 h; simpa using this
    have hk : o.k = 1 := by rcases hk12 with hk | hk; exact hk; exact absurd (.inr hk) hns
    have hdo := does_none (d := d) hk (fun hh => hns (.inl ⟨hk, hh⟩)) hdl
    refine in105 S68.a lf1 o hok' (by omega) fun F' w74 q74 m74 f74 _ => ?_
    have S74 := S68.stepA q74 m74 f74
    rw [hdo] at S74 ⊢
    exact Bd_f rfl <| If_f ⟨at', d, e, F', F2, rfl, by omega, by omega, hR, S74⟩
  have hst : isStep o := by have := (not_eq_of e72).2 h; simpa using this
  obtain ⟨st1, st2⟩ := arms_does hR hst
  have hpl := (does_len d o).2
  refine in105 S68.a lf1 o hok' (by omega) fun F1' w78 q78 m78 f78 lf1' => ?_
  have S78 := S68.stepA q78 m78 f78
  have lf2' := lf2.md m78.size
  have hn51lt := (lf1' n51 (by simp)).1
  have hf : (d.does o).2 = 200 ∧ at' = n ∨ (d.does o).2 = 0 ∧ at' ≠ n := by
    by_cases he : at' = n
    · exact .inl ⟨(st1 he).1, he⟩
    · exact .inr ⟨(st2 he).1, he⟩
  generalize hfv : (d.does o).2 = f at *
  refine Bd_in fun b80 hb80 => Bd_e (wrap_byte hn) <| Bd_in fun b82 hb82 => Bd_f (by
    rw [hb80, hb82]
    rcases hf with ⟨h1, h2⟩ | ⟨h1, h2⟩
    · rw [h1, h2]; simp
    · rw [h1]
      have : ((at' : Int) == (n : Int)) = false := by rw [beq_eq_false_iff_ne]; omega
      rw [this]; rfl) <| Bd_in fun b84 hb84 => Bd_in fun b85 hb85 => ?_
  refine Gd_to (fun x90 w91 => x90 = 0 ∧ n51 < w91.heap.size ∧ ∃ (e2 : Dk) (F1 F2 : List Nat), Arms n (at' + 1) (d.does o).1 e2 ∧ DS2 w w91 n1 (d.does o).1 F1 n2 e2 F2) (fun x90 w91 hJ => ?_) (fun fin hc => ?_) (fun hc => ?_)
  · obtain ⟨rfl, hlt91, e2, F1, F2, hR2, S91⟩ := hJ
    have hL91 : ∀ b ∈ [n51], b < w91.heap.size := fun b hb => by simp at hb; subst hb; exact hlt91
    refine Bd_f rfl <| Bd_in fun b93 hb93 => Bd_f (by
      rw [hb93, hb84, hb85]
      rcases hf with ⟨h1, h2⟩ | ⟨h1, h2⟩ <;> rw [h1] <;> rfl) <| Bd_f rfl <| If_f <| Bd_e (inc_i64 (by omega)) ?_
    refine Jn_in (fun us vs w' => us = [.bool false] ∧ DS2 w w' n1 (d.does o).1 F1 n2 e2 F2) ?_ ?_
    · rintro us vs w99 ⟨rfl, S99⟩
      exact opB_in <| If_f ⟨at' + 1, (d.does o).1, e2, F1, F2, rfl, by omega, by omega, hR2, S99⟩
    generalize (d.does o).1 = d2 at *
    have hall : d2.all = e2.all := by unfold Dk.all; rw [hR2.bl]
    have hal := all_lt d2
    have hale := all_lt e2
    have Sd := S91.md0 (Md_drew w91)
    have fin : ∀ (w' : World), DS2 w w' n1 d2 F1 n2 e2 F2 → (∀ b ∈ [n51], b < w'.heap.size) → Bd (!ByteArray.toList (bytesOf d2.all) == ByteArray.toList (bytesOf e2.all)) fun b118 => Gd (!b118) 0 (fun J119 => CallW Try.prog [n51] 108 #[.pointer (some ⟨n1, 0, none⟩)] (fun v120 w121 => opI .i64 v120 fun x122 => J119 x122 w121) w') (fun x123 w124 =>
        Gd (!b118) 0 (fun J125 => CallW Try.prog [n51] 108 #[.pointer (some ⟨n2, 0, none⟩)] (fun v126 w127 => opI .i64 v126 fun x128 => J125 x128 w127) w124) (fun x129 w130 => Bd (x123 != x129) fun b131 => Bd (bif b118 then true else b131) fun b132 => [Value.bool b132] = [.bool false] ∧ DS2 w w130 n1 d2 F1 n2 e2 F2) w124) w' := by
      intro w' S' hL'
      refine Bd_f (by rw [hall]; simp) <| Gd_t <| in108 S'.a hL' fun w1 q1 m1 => Gd_t <| in108 (S'.md0 m1).b (fun b hb => by have := hL' b hb; have := m1.size; omega) fun w2 q2 m2 => Bd_f (by rw [hR2.pd]; simp) <| Bd_f rfl ⟨rfl, (S'.md0 m1).md0 m2⟩
    have up : ∀ {w' : World}, Md [] w91.drew w' → ∀ b ∈ [n51], b < w'.heap.size := fun hm b hb => by have h1 := hL91 b hb; have h2 : w91.heap.size ≤ _ := hm.size; omega
    refine in104' Sd.a (up (Md.refl _ _)) fun a c w103 _ m103 o103 => ?_
    have S103 := Sd.md0 m103
    refine ⟨RunW_in0 (str_own o103 hal c) <| opStr_in <| in104' S103.b (up m103) fun a2 c2 w111 _ m111 o111 => RunW_in0 (str_own o111 hale c2) <| opStr_in <| fin w111 (S103.md0 m111) (up (m103.trans m111)), in104' S103.b (up m103) fun a2 c2 w111 _ m111 o111 => ⟨?_, ?_⟩⟩
    · exact RunW_in0 (str_own (o103.md m111) hal c) <| opStr_in <| RunW_in0 (str_own o111 hale c2) <| opStr_in <| fin w111 (S103.md0 m111) (up (m103.trans m111))
    · exact RunW_in0 (str_own o111 hale c2) <| opStr_in <| RunW_in0 (str_own (o103.md m111) hal c) <| opStr_in <| fin w111 (S103.md0 m111) (up (m103.trans m111))
  · have hne : at' ≠ n := by
      rcases hf with ⟨h1, h2⟩ | ⟨h1, h2⟩
      · rw [hb84, h1] at hc; simp at hc
      · exact h2
    obtain ⟨_, g2, g3⟩ := st2 hne
    have hel : e.pd.length < 2 ^ 30 := by rw [← hR.pd]; omega
    refine in105 S78.b lf2' o hok' hel fun F2' w88 q88 m88 f88 lf2'' => ?_
    rw [g2]
    exact fin _ _ ⟨rfl, (lf2'' n51 (by simp)).1, (e.does o).1, F1', F2', g3, S78.stepB q88 m88 f88⟩
  · have hen : at' = n := by
      rcases hf with ⟨h1, h2⟩ | ⟨h1, h2⟩
      · exact h2
      · rw [hb84, hb85, h1] at hc; simp at hc
    exact ⟨rfl, hn51lt, e, F1', F2, (st1 hen).2, S78⟩
end Fk
