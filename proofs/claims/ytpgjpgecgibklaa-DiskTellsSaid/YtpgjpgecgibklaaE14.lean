/- The reference's disk: Crash. -/
import Derived.Test.YtpgjpgecgibklaaE13
set_option linter.unusedVariables false
set_option linter.unusedSimpArgs false
set_option maxRecDepth 100000
namespace Fk
open Go Go.Proofs Go.RowKit
theorem cutB_h (w : World) (s : ByteArray) (y : Nat) (h2 : y ≤ s.size) :
    (Instr.sliceAt 9 (.string s) none (some (.int .i64 (y : Int))) none).run Try.prog w = .ok (.string (s.extract 0 y)) w := by
  rw [run_sliceAt_string (h := und9), run_slice_string_h w 9 s und9 .i64 (y : Int) (by omega) (by omega)]
  simp
theorem cutB_l (w : World) (s : ByteArray) (x : Nat) (h2 : x ≤ s.size) :
    (Instr.sliceAt 9 (.string s) (some (.int .i64 (x : Int))) none none).run Try.prog w = .ok (.string (s.extract x s.size)) w := by
  rw [run_sliceAt_string (h := und9), run_slice_string_l w 9 s und9 .i64 (x : Int) (by omega) (by omega)]
  simp
theorem slice_restS {P : Program} {t e : TypeId} {sz : Nat} (ht : P.underlying t = some (.slice e)) (hs : ∀ w, (Go.sizeOf e).run P w = .ok sz w) (w : World) (a : Option Addr) (n c m : Nat) (h : m ≤ n) :
    (Instr.sliceAt t (.slice a n c) (some (.int .i64 (m : Int))) none none).run P w = .ok (.slice (if c = m then a else a.map (·.add (m * sz))) (n - m) (c - m)) w := by
  have he : P.elem t = e := by simp [Program.elem, ht]
  have ht' : P.underlying t = some (.slice (P.elem t)) := by rw [he]; exact ht
  rw [run_sliceAt_slice w t _ _ _ _ ht', run_slice_l w t a n c ht' .i64 m (by omega) (by omega), he, hs w]
  simp [Result.andThen, sliced]
theorem size257 (w : World) : (Go.sizeOf 257).run Try.prog w = .ok 2 w := by
  have h : (Try.prog.info? 257).map (·.size) = some 2 := by kernel_rfl
  cases hi : Try.prog.info? 257 with
  | none => rw [hi] at h; cases h
  | some i => rw [hi] at h; simp [Go.sizeOf, typeInfo, hi]; simpa using h
theorem in195' {L : List Nat} {w : World} {base n m c C : Nat} {a B : Option Addr} {sf : List ByteArray} {rf : Int} (ho : OwnL w base 9 1 s1 a c sf) (hn : n = sf.length) (hrf : 0 ≤ rf ∧ rf ≤ 9223372036854775807) (hsl : sf.length < 2 ^ 30) {l : List (Int × ByteArray)} (hm : m = l.length) (hr : RowAt w B 2 wr2 l) (hin : ∀ q ∈ l, 0 ≤ q.1 ∧ q.1 < sf.length) (hl : l.length < 2 ^ 30) (hL : ∀ b ∈ L, b < w.heap.size)
    {K : Option Addr → Nat → Nat → Option Addr → Nat → Nat → Int → World → Prop} (k : ∀ a' c' w', OwnL w' w.heap.size 9 1 s1 a' c' (keptL sf l) → Md [] w w' → K a' n c' none 0 0 rf w') :
    CallW Try.prog L 195 #[.agg #[.slice a n c, .slice none 0 0, .int .i64 rf], .slice B m C] (fun v w' => opAg v fun cs => opL (nthD cs.toList 0) fun a n c => opL (nthD cs.toList 1) fun a2 n2 c2 => opI .i64 (nthD cs.toList 2) fun x' => SzIs cs.size 3 (K a n c a2 n2 c2 x' w')) w := by
  subst hn
  exact in195 (x := ⟨sf, [], rf⟩) (p := ⟨a, c, none, 0⟩) ⟨ho, OwnL.nil _ _ _ _ _, hrf, hsl, by simp⟩ hm hr hin hl hL k
def mixS (q s : ByteArray) (t : Nat) : ByteArray := q.extract 0 t ++ s.extract t s.size
def Rf.crash (x : Rf) (keep torn : Int) : Rf := match x.pe.drop (min keep.toNat x.pe.length) with
  | [] => ⟨keptL x.sf (x.pe.take (min keep.toNat x.pe.length)), [], 0⟩
  | q :: _ => ⟨(keptL x.sf (x.pe.take (min keep.toNat x.pe.length))).set q.1.toNat (mixS q.2 ((keptL x.sf (x.pe.take (min keep.toNat x.pe.length))).getD q.1.toNat ByteArray.empty) (min torn.toNat 64)), [], 0⟩
theorem keptL_all {l : List (Int × ByteArray)} (hl : ∀ q ∈ l, q.2.size = 64) : ∀ {sf : List ByteArray}, (∀ s ∈ sf, s.size = 64) → ∀ s ∈ keptL sf l, s.size = 64 := by
  induction l with
  | nil => intro sf h; exact h
  | cons q l ih =>
    intro sf h
    unfold keptL at ih ⊢
    rw [List.foldl_cons]
    refine ih (fun q hq => hl q (by simp [hq])) fun s hs => ?_
    rcases List.mem_or_eq_of_mem_set hs with h1 | h1
    · exact h s h1
    · rw [h1]; exact hl q (by simp)
theorem f118_ok (x : Rf) (p : RfS) (base : Nat) (w : World) (h : RfAt w base x p) (hb : base ≤ w.heap.size) (hin : ∀ q ∈ x.pe, 0 ≤ q.1 ∧ q.1 < x.sf.length) (hq64 : ∀ q ∈ x.pe, q.2.size = 64) (hs64 : ∀ s ∈ x.sf, s.size = 64) (keep torn : Int) :
    Ct Try.prog 118 #[x.v p, .int .i64 keep, .int .i64 torn] w fun v w' => (∃ p', v = (x.crash keep torn).v p' ∧ RfAt w' base (x.crash keep torn) p' ∧ NewS w p p') ∧ Md [] w w' := by
  unfold Rf.v
  apply f118_in
  intro n1 hn1 n2 hn2
  have hsl := h.sl
  have hpl := h.pl
  have hpc := h.pe.cap
  refine Jn_in (fun us vs w' => us = [.int .i64 (keep.toNat : Int)] ∧ Md [] w w' ∧ ∀ b ∈ [n2, n1], b < w'.heap.size) ?_ (Bd_in fun b9 hb9 => If_in (fun hb w10 h10 hL10 => ⟨?_, h10, hL10⟩) fun hb w10 h10 hL10 => ⟨?_, h10, hL10⟩)
  case refine_2 => have : keep < 0 := by rw [hb9] at hb; simpa using hb
                   rw [Int.toNat_of_nonpos (by omega)]; rfl
  case refine_3 => have : 0 ≤ keep := by rw [hb9] at hb; simpa using hb
                   rw [Int.toNat_of_nonneg this]
  rintro us vs w5 ⟨rfl, m5, hL5⟩
  generalize hkk : min keep.toNat x.pe.length = k
  generalize htt : min torn.toNat 64 = t
  refine opI_in <| Jn_in (fun us vs w' => us = [.int .i64 (k : Int)] ∧ w' = w5) ?_ (Bd_e rfl <| Bd_in fun b9 hb9 => If_in (fun hb => Bd_e rfl ⟨?_, rfl⟩) fun hb => ⟨?_, rfl⟩)
  case refine_2 => have : (keep.toNat : Int) > x.pe.length := by rw [hb9] at hb; simpa using hb
                   rw [show k = x.pe.length by omega]
  case refine_3 => have : ¬ (keep.toNat : Int) > x.pe.length := by rw [hb9] at hb; simpa using hb
                   rw [show k = keep.toNat by omega]
  rintro us vs w9 ⟨rfl, rfl⟩
  refine opI_in <| Jn_in (fun us vs w' => us = [.int .i64 (torn.toNat : Int)] ∧ w' = w9) ?_ (Bd_in fun b9 hb9 => If_in (fun hb => ⟨?_, rfl⟩) fun hb => ⟨?_, rfl⟩)
  case refine_2 => have : torn < 0 := by rw [hb9] at hb; simpa using hb
                   rw [Int.toNat_of_nonpos (by omega)]; rfl
  case refine_3 => have : 0 ≤ torn := by rw [hb9] at hb; simpa using hb
                   rw [Int.toNat_of_nonneg this]
  rintro us vs w13 ⟨rfl, rfl⟩
  refine opI_in <| Jn_in (fun us vs w' => us = [.int .i64 (t : Int)] ∧ w' = w13) ?_ (Bd_in fun b9 hb9 => If_in (fun hb => ⟨?_, rfl⟩) fun hb => ⟨?_, rfl⟩)
  case refine_2 => have : (torn.toNat : Int) > 64 := by rw [hb9] at hb; simpa using hb
                   rw [show t = 64 by omega]; rfl
  case refine_3 => have : ¬ (torn.toNat : Int) > 64 := by rw [hb9] at hb; simpa using hb
                   rw [show t = torn.toNat by omega]
  rintro us vs w17 ⟨rfl, rfl⟩
  have hkl : k ≤ x.pe.length := by omega
  have ht64 : t ≤ 64 := by omega
  have ecr : x.crash keep torn = (match x.pe.drop k with
    | [] => ⟨keptL x.sf (x.pe.take k), [], 0⟩
    | q :: _ => ⟨(keptL x.sf (x.pe.take k)).set q.1.toNat (mixS q.2 ((keptL x.sf (x.pe.take k)).getD q.1.toNat ByteArray.empty) t), [], 0⟩) := by unfold Rf.crash; rw [hkk, htt]
  have hsl2 := keptL_len (x.pe.take k) x.sf
  have hS64 : ∀ s ∈ keptL x.sf (x.pe.take k), s.size = 64 := keptL_all (fun q hq => hq64 q (List.mem_of_mem_take hq)) hs64
  generalize hS : keptL x.sf (x.pe.take k) = S at *
  have hcl : (x.crash keep torn).sf.length = x.sf.length := by
    rw [ecr]
    split
    · exact hsl2
    · simp only [List.length_set]; exact hsl2
  have hcp : (x.crash keep torn).pe = [] ∧ (x.crash keep torn).rf = 0 := by rw [ecr]; split <;> exact ⟨rfl, rfl⟩
  refine opI_in <| RunW_in0 (slice_restS (e := 257) (by kernel_rfl) size257 w17 _ _ _ k hkl) <| opL_in ⟨_, fun w' _ => ⟨slice_front (e := 257) (by kernel_rfl) (fun w => ⟨2, size257 w⟩) w' _ _ _ k (by omega)⟩, opL_in ?_⟩
  generalize hA21 : (if p.e = k then p.b else p.b.map (·.add (k * 2))) = a21
  have r21 : RowAt w a21 2 wr2 (x.pe.drop k) := by
    rw [← hA21]
    split
    · rw [List.drop_of_length_le (by omega)]
      intro i y hy; simp at hy
    · exact (h.pe.row encw2).drop k
  have r27 : RowAt w p.b 2 wr2 (x.pe.take k) := (h.pe.row encw2).take k
  have hin' : ∀ q ∈ x.pe.take k, 0 ≤ q.1 ∧ q.1 < x.sf.length := fun q hq => hin q (List.mem_of_mem_take hq)
  have hktl : k = (x.pe.take k).length := by rw [List.length_take]; omega
  have m17 : Md [] w w17.drew := m5.trans (Md_drew w17)
  have hs17 := m17.size
  have hz : w17.drew.heap.size = w17.heap.size := rfl
  have l1 := hL5 n1 (by simp)
  have l2 := hL5 n2 (by simp)
  refine ⟨in195 (h.md m17) hktl (r27.md m17) hin' (by omega) hL5 fun a33 c33 w31 o31 m31 n40 hn40 w41 h41 hL41 w42 h42 hL42 => ?ga, fun n40 hn40 w31 h31 hL31 => in195 (h.md (m17.trans h31)) hktl (r27.md (m17.trans h31)) hin' (by omega) hL31 fun a33 c33 w41 o41 m41 w42 h42 hL42 => ?gb⟩
  case' ga =>
    have m42 : Md [] w w42 := ((m17.trans m31).trans h41).old h42 (by simp; have := m31.size; omega)
    have hne : ∀ A, a33 = some A → A.block ≠ n40 ∧ A.block ≠ n2 ∧ w.heap.size ≤ A.block := fun A hA => by have := o31.lt hA; omega
    have o42 : OwnL w42 w.heap.size 9 1 s1 a33 c33 S := by
      rw [hS] at o31
      exact ((o31.md h41).mdD h42 (fun A hA => by simp; exact (hne A hA).1)).down hs17
    have hnw : w.heap.size ≤ n40 := by have := m31.size; omega
    clear hL41 h41 h42 hn40 o31 m31
  case' gb =>
    have l40 := hL31 n40 (by simp)
    have hs31 := h31.size
    have m42 : Md [] w w42 := ((m17.trans h31).trans m41).old h42 (by simp; omega)
    have hne : ∀ A, a33 = some A → A.block ≠ n40 ∧ A.block ≠ n2 ∧ w.heap.size ≤ A.block := fun A hA => by have := o41.lt hA; omega
    have o42 : OwnL w42 w.heap.size 9 1 s1 a33 c33 S := by
      rw [hS] at o41
      exact (o41.mdD h42 (fun A hA => by simp; exact (hne A hA).1)).down (by omega)
    have hnw : w.heap.size ≤ n40 := by omega
    clear l40 h42 hn40 o41 m41 hL31 hs31
  all_goals
    refine Jn_in (fun us vs w' => ∃ (a : Option Addr) (c : Nat), vs = [.agg #[.slice a x.sf.length c, .slice none 0 0, .int .i64 x.rf]] ∧ OwnL w' w.heap.size 9 1 s1 a c (x.crash keep torn).sf ∧ Md [] w w' ∧ (∀ A, a = some A → A.block ≠ n40 ∧ A.block ≠ n2)) ?_ ?_
    · rintro us vs w45 ⟨a, c, rfl, ho, hm, hne'⟩
      refine opAg_in <| opL_in <| opL_in <| opI_in <| SzIs_in rfl fun w54 h54 hL54 => ?_
      have m54 : Md [] w w54 := hm.old h54 (by simp; exact ⟨hn2, hnw⟩)
      refine ⟨⟨⟨a, c, none, 0⟩, ?_, ⟨(ho.mdD h54 (fun A hA => by have := hne' A hA; simp; omega)).down hb, ?_, ?_, ?_, ?_⟩, ⟨fun A hA => .inr (ho.lt hA).1, fun A hA => by cases hA⟩⟩, m54⟩
      · simp only [Rf.v, hcl, hcp.1, hcp.2]; rfl
      · rw [hcp.1]; exact OwnL.nil _ _ _ _ _
      · rw [hcp.2]; omega
      · rw [hcl]; exact hsl
      · rw [hcp.1]; simp
    refine Bd_e rfl <| Bd_in fun b57 hb57 => If_in (fun hbb => ?_) fun hbb => ?_
    · have hkp : k < x.pe.length := by rw [hb57] at hbb; have : ((x.pe.length - k : Nat) : Int) > 0 := by simpa using hbb
                                       omega
      have hdl : (x.pe.drop k).length = x.pe.length - k := List.length_drop ..
      have hd0 : 0 < (x.pe.drop k).length := by omega
      have hg0 : (x.pe.drop k)[0] = x.pe[k] := by simp
      obtain ⟨q1, q2⟩ := hin _ (List.getElem_mem hkp)
      have q64 := hq64 _ (List.getElem_mem hkp)
      rw [List.drop_eq_getElem_cons hkp] at ecr
      simp only at ecr
      generalize hq : x.pe[k] = q at *
      obtain ⟨j, hj⟩ := Int.eq_ofNat_of_zero_le q1
      have hjS : j < S.length := by omega
      have hSj := hS64 _ (List.getElem_mem hjS)
      have ecs : (x.crash keep torn).sf = keptL S [(q.1, mixS q.2 S[j] t)] := by
        rw [ecr]
        show S.set _ _ = S.set _ _
        rw [hj]; simp [hjS]
      have hix : IxOk 0 (x.pe.length - k) a21 := by have := r21.ix hd0; rw [hdl] at this; exact this
      have hixj : IxOk q.1 x.sf.length a33 := by have := (o42.row encs1).ix hjS; rw [hsl2] at this; rw [hj]; exact this
      have mS : ∀ {w' : World}, Md [n40] w42.drew w' → Md [] w w' := fun hm => (m42.trans (Md_drew w42)).old hm (by simp; exact hnw)
      have oS : ∀ {w' : World}, Md [n40] w42.drew w' → OwnL w' w.heap.size 9 1 s1 a33 c33 S := fun hm => (o42.md (Md_drew w42)).mdD hm (fun A hA => by simp; exact (hne A hA).1)
      have s0 : Md [n40] w42.drew w42.drew := (Md.refl [] _).mono (by simp)
      have lS : ∀ {w' : World}, Md [n40] w42.drew w' → ∀ b ∈ [n40, n2, n1], b < w'.heap.size := fun hm b hb => by
        have h1 := hm.size
        have h2 : w42.heap.size ≤ _ := h1
        have := hL42 b hb
        omega
      have fin : ∀ w' : World, Md [n40] w42.drew w' → Md [n40] w42.drew (w'.alloc (.cells #[.int .i64 q.1, .string (mixS q.2 S[j] t)] 257)) ∧ CallW Try.prog [n40, n2, n1] 195 #[.agg #[.slice a33 x.sf.length c33, .slice none 0 0, .int .i64 x.rf], .slice (some (Addr.mk w'.heap.size 0 none)) 1 1] (fun v85 w86 => opAg v85 fun cs87 => opL (nthD cs87.toList 0) fun a88 n89 n90 => opL (nthD cs87.toList 1) fun a91 n92 n93 => opI .i64 (nthD cs87.toList 2) fun x94 => SzIs cs87.size 3
          (Md [n40] w42.drew w86 ∧ Up [n40] [n40, n2, n1] w86 fun w95 => Md [n40] w42.drew w95 ∧ ∃ (a : Option Addr) (c : Nat), [Value.agg #[.slice a88 n89 n90, .slice a91 n92 n93, .int .i64 x94]] = [.agg #[.slice a x.sf.length c, .slice none 0 0, .int .i64 x.rf]] ∧ OwnL w95 w.heap.size 9 1 s1 a c (x.crash keep torn).sf ∧ Md [] w w95 ∧ (∀ A, a = some A → A.block ≠ n40 ∧ A.block ≠ n2))) (w'.alloc (.cells #[.int .i64 q.1, .string (mixS q.2 S[j] t)] 257)) := by
        intro w' hm
        have hma : Md [n40] w42.drew (w'.alloc (.cells #[.int .i64 q.1, .string (mixS q.2 S[j] t)] 257)) := hm.old' (D := []) (Md.alloc w' _) (by simp)
        refine ⟨hma, ?_⟩
        have ol := OwnL.lit (P := Try.prog) (base := w'.heap.size) encw2 w' 257 [(q.1, mixS q.2 S[j] t)] #[.int .i64 q.1, .string (mixS q.2 S[j] t)] (Nat.le_refl _) (by simp [maxLen]) rfl
        refine in195' (oS hma) (by omega) h.rf (by omega) (l := [(q.1, mixS q.2 S[j] t)]) rfl (ol.row encw2) (by simp; omega) (by simp) (lS hma) fun a' c' w86 o86 m86 => ?_
        have h86 : Md [n40] w42.drew w86 := hma.old' m86 (by simp)
        refine ⟨h86, fun w95 h95 hL95 => ⟨h86.fr h95 (Fr.refl _ _), a', c', rfl, ?_, mS (h86.fr h95 (Fr.refl _ _)), ?_⟩⟩
        · rw [ecs]
          have hw := (mS hma).size
          exact (o86.mdD h95 (fun A hA => by have := (o86.lt hA).1; have := lS hma n40 (by simp); simp; omega)).down hw
        · intro A hA
          have := (o86.lt hA).1
          have := lS hma n40 (by simp)
          have := lS hma n2 (by simp)
          omega
      have mx : q.2.extract 0 t ++ S[j].extract t S[j].size = mixS q.2 S[j] t := rfl
      have add : ∀ w' : World, RunV Try.prog (eqS BinOp.add 9 (Operand.tmp 48) (Operand.tmp 55) (.string (q.2.extract 0 t)) (.string (S[j].extract t S[j].size))) (.string (mixS q.2 S[j] t)) w' := fun w' => ⟨run_addS w' _ _ _ _ (by simp; omega) (by simp; omega)⟩
      have ldq0 : ∀ {K : Value → Prop} {w' : World}, Md [] w w' → K (.int .i64 q.1) → Ld w' ((adAt a21 0 2).add 0) K := fun {K w'} hm k => (r21.md hm).ldj (i := 0) (j := 0) hd0 (by rw [hg0]; rfl) k
      have ldq1 : ∀ {K : Value → Prop} {w' : World}, Md [] w w' → K (.string q.2) → Ld w' ((adAt a21 0 2).add 1) K := fun {K w'} hm k => (r21.md hm).ldj (i := 0) (j := 1) hd0 (by rw [hg0]; rfl) k
      have ldS : ∀ {K : Value → Prop} {w' : World}, Md [n40] w42.drew w' → K (.string S[j]) → Ld w' (adAt a33 q.1 1) K := fun {K w'} hm k => by rw [hj]; exact ((oS hm).row encs1).ld1 hjS rfl k
      refine ⟨hix, ldq0 m42 <| opI_in ⟨fun w' => Md [n40] w42.drew w', s0, hix, _, fun w' hm => ldq1 (mS hm) rfl, opStr_in ⟨_, fun w' hm => ⟨cutB_h w' q.2 t (by omega)⟩, opStr_in ⟨⟨s0, s0, hixj, _, fun w' hm => ldS hm rfl, opStr_in ⟨_, fun w' hm => ⟨cutB_l w' S[j] t (by omega)⟩, opStr_in ⟨_, fun w' hm => add w', opStr_in <| Nw_e (fin _ s0)⟩⟩⟩,
        s0, hixj, _, fun w' hm => ldS hm rfl, opStr_in ⟨_, fun w' hm => ⟨cutB_l w' S[j] t (by omega)⟩, opStr_in ⟨_, fun w' hm => add w', opStr_in ⟨⟨s0, Nw_e (fin _ s0)⟩, Nw_e ⟨(fin _ s0).1, fin _ s0⟩⟩⟩⟩⟩⟩⟩⟩
    · have hkp : k = x.pe.length := by rw [hb57] at hbb; have : ¬ ((x.pe.length - k : Nat) : Int) > 0 := by simpa using hbb
                                       omega
      have e : (x.crash keep torn).sf = S := by rw [ecr, List.drop_of_length_le (by omega)]
      refine ⟨a33, c33, rfl, by rw [e]; exact o42, m42, fun A hA => ⟨(hne A hA).1, (hne A hA).2.1⟩⟩
end Fk
