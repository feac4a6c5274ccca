/- Contracts of disks: a crash. -/
import Derived.Test.YtpgjpgecgibklaaE2
set_option linter.unusedVariables false
set_option linter.unusedSimpArgs false
set_option maxRecDepth 100000
namespace Fk
open Go Go.Proofs Go.RowKit
def undo (x : Wt) (bl : List Bk) : List Bk := bl.set x.i x.was
def mixB (t : Nat) (a b : Bk) : Bk := ⟨a.1.take t ++ b.1.drop t, by simp [a.2.1, b.2.1]; omega, fun x hx => by
  rcases List.mem_append.1 hx with h | h
  · exact a.2.2 x (List.mem_of_mem_take h)
  · exact b.2.2 x (List.mem_of_mem_drop h)⟩
def Dk.crB (d : Dk) (k t m : Nat) : List Bk := match d.pd.drop m with
  | [] => d.bl
  | x :: r => if m = k then ((x :: r).foldr undo d.bl).set x.i (mixB t x.now x.was) else (x :: r).foldr undo d.bl
/-- A crash. -/
def Dk.crash (d : Dk) (keep torn : Int) : Dk := ⟨d.crB keep.toNat (min torn.toNat 64) keep.toNat, [], 0⟩
theorem undo_len (l : List Wt) (bl : List Bk) : (l.foldr undo bl).length = bl.length := by
  induction l with
  | nil => rfl
  | cons x l ih => rw [List.foldr_cons]; unfold undo; rw [List.length_set]; exact ih
theorem crB_len (d : Dk) (k t m : Nat) : (d.crB k t m).length = d.bl.length := by
  unfold Dk.crB
  split
  · rfl
  · split
    · rw [List.length_set, undo_len]
    · rw [undo_len]
theorem slice_arrh (w : World) (A : Addr) (t : Nat) (h : t ≤ 64) : (Instr.sliceAt 252 (.pointer (some A)) none (some (.int .i64 (t : Int))) none).run Try.prog w = .ok (.slice (some A) t 64) w := by
  have e1 : Try.prog.elem 252 = 5 := by kernel_rfl
  have e2 : Try.prog.arrayLen 252 = 64 := by kernel_rfl
  rw [run_sliceAt_array_h w 252 A (by kernel_rfl) .i64 t (by omega) (by rw [e2]; omega), e1, e2, size5]
  simp [Result.andThen, slicedAt, addr_add0]
theorem wrL_more {X vs rest tail : List Value} {o : Nat} (h : X.drop (o + vs.length) = rest ++ tail) : wrL X o vs = wrL X o (vs ++ rest) := by
  unfold wrL
  have h2 : X.drop (o + (vs ++ rest).length) = tail := by
    rw [List.length_append, ← Nat.add_assoc, ← List.drop_drop, h]
    exact List.drop_left
  rw [h, h2]
  simp
/-- A copy into a row of one's own. -/
theorem own_copy {w : World} {base : Nat} {e : TypeId} {size n c : Nat} {a : Option Addr} {xs : List Value} (h : w.ownsRow base e size (.slice a n c) n xs) (o dLen dCap : Nat) (vs : List Value) (ho : o + vs.length ≤ xs.length) (A : Addr) (ha : a = some A)
    (B : Addr) (sLen sCap : Nat) (hn : vs.length = Nat.min sLen dLen) (hsrc : ∀ j v, vs[j]? = some v → w.cell? (B.add j) = some v) (h1 : ∀ v ∈ vs, v.oneCell' = true) :
    ∃ w', (Builtin.copy_ #[51, 51] 3 #[.slice (some (A.add o)) dLen dCap, .slice (some B) sLen sCap]).run Try.prog w = .ok (goInt vs.length) w' ∧ w'.ownsRow base e size (.slice a n c) n (wrL xs o vs) ∧ Md [A.block] w w' := by
  obtain ⟨hxl, hh⟩ := h
  subst ha
  rcases hh with ⟨hv', hn'⟩ | ⟨g, cap, cur, hv', hb, hg, hnc, hcm, hcs, htk⟩
  · simp at hv'
  · simp only [Value.slice.injEq, Option.some.injEq] at hv'
    obtain ⟨rfl, _, rfl⟩ := hv'
    have hle : n * size ≤ cur.toList.length := by rw [Array.length_toList, hcs]; exact Nat.mul_le_mul_right _ hnc
    have hs5 : (Try.prog.info? 5).map (·.size) = some 1 := by kernel_rfl
    have hr := run_copy_row (P := Try.prog) w 51 51 3 5 g o dLen dCap B sLen sCap cur e vs (by kernel_rfl) hs5 hg hn hsrc (by simp at hle; omega) h1
    rw [ad0]
    refine ⟨_, hr, ?_, Md_setRow _⟩
    refine ⟨by rw [wrL_len ho]; exact hxl, .inr ⟨g, c, (wrL cur.toList o vs).toArray, rfl, hb, ?_, hnc, hcm, ?_, ?_⟩⟩
    · have := setRow_heap w g cur (cur.toList.take o ++ vs ++ cur.toList.drop (o + vs.length)).toArray e (0, 0) hg
      rw [this]
      unfold wrL
      simp
    · simp only [List.size_toArray]
      rw [wrL_len (by omega), Array.length_toList, hcs]
    · simp only
      rw [wrL_take (by omega) hle, htk]
theorem drop_flat {l : List Bk} : ∀ {i : Nat} (hi : i < l.length), (l.flatMap blE).drop (i * 64) = blE l[i] ++ (l.drop (i + 1)).flatMap blE := by
  intro i hi
  have e : l.flatMap blE = (l.take i).flatMap blE ++ (blE l[i] ++ (l.drop (i + 1)).flatMap blE) := by
    conv => lhs; rw [← List.take_append_drop i l, List.drop_eq_getElem_cons hi]
    rw [List.flatMap_append, List.flatMap_cons]
  rw [e]
  exact List.drop_left' (by rw [encBl.lenL, List.length_take]; rw [Nat.min_eq_left (by omega)])
/-- The first bytes of a block are copied. -/
theorem DkAt.copyBl {w : World} {n : Nat} {p : DkS} {d : Dk} (h : DkAt w n p d) {i : Nat} (hi : i < d.bl.length) (x : Bk) {t : Nat} (ht : t ≤ 64) (B : Addr) (hsrc : ∀ j v, ((x.1.take t).flatMap b1)[j]? = some v → w.cell? (B.add j) = some v) :
    ∃ w', (Builtin.copy_ #[51, 51] 3 #[.slice (some (adAt p.a (i : Int) 64)) t 64, .slice (some B) t 64]).run Try.prog w = .ok (.int .i64 t) w' ∧ DkAt w' n p { d with bl := d.bl.set i (mixB t x d.bl[i]) } ∧ Md (p.a.map (·.block)).toList w w' := by
  obtain ⟨A, hA⟩ : ∃ A, p.a = some A := Option.isSome_iff_exists.1 h.isD
  have hl : ((x.1.take t).flatMap b1).length = t := by rw [encb1.lenL, List.length_take, x.2.1]; omega
  have hmul : (i + 1) * 64 ≤ d.bl.length * 64 := Nat.mul_le_mul_right _ hi
  obtain ⟨w', h1, h2, h3⟩ := own_copy h.bl (i * 64) t 64 ((x.1.take t).flatMap b1) (by rw [hl, encBl.lenL]; omega) A hA B t 64 (by rw [hl]; simp) hsrc (fun v hv => encb1.oneL _ v hv)
  have hbo : OwnL w' 0 252 64 blE p.a p.c (d.bl.set i (mixB t x d.bl[i])) := by
    unfold OwnL
    rw [List.length_set, ← wrL_flat encBl d.bl i _ hi]
    have e : blE (mixB t x d.bl[i]) = (x.1.take t).flatMap b1 ++ (d.bl[i].1.drop t).flatMap b1 := by unfold blE mixB; simp only [List.flatMap_append]
    have hd : (d.bl.flatMap blE).drop (i * 64 + ((x.1.take t).flatMap b1).length) = (d.bl[i].1.drop t).flatMap b1 ++ (d.bl.drop (i + 1)).flatMap blE := by
      have e2 : blE d.bl[i] = (d.bl[i].1.take t).flatMap b1 ++ (d.bl[i].1.drop t).flatMap b1 := by
        unfold blE
        rw [← List.flatMap_append, List.take_append_drop]
      rw [← List.drop_drop, drop_flat hi, e2, List.append_assoc, hl]
      exact List.drop_left' (by rw [encb1.lenL, List.length_take, d.bl[i].2.1]; omega)
    rw [e, ← wrL_more hd]
    exact h2
  have hm3 : Md (p.a.map (·.block)).toList w w' := by rw [hA]; exact h3
  have hnA : A.block ≠ n := h.d1 A hA
  refine ⟨w', ?_, ⟨?_, hbo, h.pd.mdD h3 fun B hB => by have := h.d3 A B hA hB; simpa using this.symm, h.isD, h.d1, h.d2, h.d3, by simpa using h.len, fun y hy => by simpa using h.ix y hy, h.rf0⟩, hm3⟩
  · have eA : adAt p.a (i : Int) 64 = A.add (i * 64) := by rw [hA]; simp [adAt]
    rw [eA, h1, hl]; rfl
  · have := h.blk.md h3 (by simpa using hnA.symm)
    simpa using this
theorem crB_step {d : Dk} {k t m : Nat} (hm : m < d.pd.length) (hk : k ≤ m) :
    d.crB k t m = if m = k then ((d.crB k t (m + 1)).set d.pd[m].i d.pd[m].was).set d.pd[m].i (mixB t d.pd[m].now d.pd[m].was) else (d.crB k t (m + 1)).set d.pd[m].i d.pd[m].was := by
  have e1 : d.crB k t (m + 1) = (d.pd.drop (m + 1)).foldr undo d.bl := by
    unfold Dk.crB
    cases hd : d.pd.drop (m + 1) with
    | nil => rfl
    | cons x r => simp only; rw [if_neg (by omega)]
  rw [e1]
  unfold Dk.crB
  rw [List.drop_eq_getElem_cons hm]
  simp only [List.foldr_cons, undo]
theorem f106_ok (n : Nat) (d : Dk) (F : List Nat) (keep torn : Int) (hpd : d.pd.length < 2 ^ 40) (w : World) (h : Dsk w n d F) :
    Ct Try.prog 106 #[.pointer (some ⟨n, 0, none⟩), .int .i64 keep, .int .i64 torn] w fun v w' => (v = .tuple #[] ∧ ∃ F', Dsk w' n (d.crash keep torn) F' ∧ ∀ b ∈ F', b ∈ F) ∧ Md F w w' := by
  apply f106_in
  refine in191 h (by simp) fun w2 h2 m2 => If_f ?_
  obtain ⟨p, hp, rfl⟩ := h2
  refine Bd_e (y := ((keep.toNat : Nat) : Int)) (by split <;> omega) <| Bd_e (y := ((torn.toNat : Nat) : Int)) (by split <;> omega) <| Bd_e (y := ((min torn.toNat 64 : Nat) : Int)) (by split <;> omega) ?_
  generalize hk : keep.toNat = k
  generalize ht : min torn.toNat 64 = t
  have ht64 : t ≤ 64 := by omega
  have ecr : d.crash keep torn = ⟨d.crB k t k, [], 0⟩ := by unfold Dk.crash; rw [hk, ht]
  rw [ecr]
  refine hp.blk.ld rfl <| opL_in <| Bd_e rfl <| Bd_e (y := (d.pd.length : Int) - 1) (by rw [IntKind.wrap_i64]; omega) ?_
  refine LoopP_in (fun m us vs w' => us = [.int .i64 ((m : Int) - 1)] ∧ m ≤ d.pd.length ∧ (k ≤ m ∨ m = d.pd.length) ∧ DkAt w' n p { d with bl := d.crB k t m } ∧ Md (fp n p) w w') d.pd.length ⟨rfl, by omega, .inr rfl, ?_, m2.mono (by simp)⟩ ?_
  · have : d.crB k t d.pd.length = d.bl := by unfold Dk.crB; rw [List.drop_length]
    rw [this]; exact hp
  rintro m us vs w17 ⟨rfl, hm, hkm, hq, hmd⟩
  refine opI_in <| Bd_in fun b19 hb19 => If_in (fun hb => ?_) fun hb => ?_
  · have hge : k + 1 ≤ m := by rw [hb19] at hb; have : ((m : Int) - 1 ≥ (k : Int)) := by simpa using hb
                               omega
    obtain ⟨j, rfl⟩ : ∃ j, m = j + 1 := ⟨m - 1, by omega⟩
    have hj : j < d.pd.length := by omega
    have ej : (((j + 1 : Nat) : Int) - 1) = (j : Int) := by omega
    rw [ej]
    have hkj : k ≤ j := by omega
    refine Jn_in (fun us vs w' => us = [] ∧ vs = [] ∧ DkAt w' n p { d with bl := d.crB k t j } ∧ Md (fp n p) w w') ?_ ?_
    · rintro us vs w22 ⟨rfl, rfl, h22, m22⟩
      exact Bd_e (y := (j : Int) - 1) (by rw [IntKind.wrap_i64]; omega) ⟨j, by omega, rfl, by omega, .inl hkj, h22, m22⟩
    · have hxi : d.pd[j].i < (d.crB k t (j + 1)).length := by rw [crB_len]; exact hp.ix _ (List.getElem_mem hj)
      have hst := crB_step (t := t) hj hkj
      refine hq.blk.ld rfl <| opL_in ⟨(hq.pd.row encWt).ix hj, ?_⟩
      have hld : LdN w17 (adAt p.pa (j : Int) 129) 129 = LdN w17 (adAt p.pa (j : Int) 129) 129 := rfl
      refine LdN_in (l := wtE d.pd[j]) (encWt.len _) (fun i u hu => ?_) <| Bd_e rfl ⟨by simp [encWt.len], ?_⟩
      · obtain ⟨B, hB, hc⟩ := hq.pd.row encWt j d.pd[j] (List.getElem?_eq_getElem hj)
        rw [hB]
        have := hc i u hu
        simpa [adAt] using this
      generalize hX : d.pd[j] = x at *
      generalize hBL : d.crB k t (j + 1) = BL at *
      intro n32 w33 e32 e33
      subst e32; subst e33
      have hok : okCells (Array.toList (wtE x).toArray) 129 = true := by
        have h1 := encWt.len x
        have h2 : allOne (wtE x) = true := by
          unfold allOne
          rw [List.all_eq_true]
          exact fun v hv => encWt.one _ v hv
        show okCells (wtE x) 129 = true
        unfold okCells
        rw [h1, h2]; rfl
      have hzl : (zeroL Try.prog 254).length = 129 := by rw [zero254]; simp
      have hma : Md [] w17 (w17.alloc (.cells (zeroL Try.prog 254).toArray 254)) := Md.alloc w17 _
      have hblk0 : Blk (w17.alloc (.cells (zeroL Try.prog 254).toArray 254)) w17.heap.size 254 (zeroL Try.prog 254) := heap_alloc_new w17 _
      have hmd2 := Md_setCells (w := w17.alloc (.cells (zeroL Try.prog 254).toArray 254)) w17.heap.size 0 (wtE x)
      have hblk1 : Blk (setCells (w17.alloc (.cells (zeroL Try.prog 254).toArray 254)) ⟨w17.heap.size, 0, none⟩ 0 (wtE x)) w17.heap.size 254 (wtE x) := by
        rcases wrL_run (m := 0) (cells := []) (o := 0) (vs := []) (b := w17.heap.size) (ty := 254) (wtE x) 0 (zeroL Try.prog 254) _ hblk0 with h' | h'
        · have e : wrL (zeroL Try.prog 254) (0 + 0) (wtE x) = wtE x := by
            unfold wrL
            rw [encWt.len, List.take_zero, List.nil_append, List.drop_of_length_le (by omega), List.append_nil]
          rw [e] at h'
          exact h'
        · rw [encWt.len, hzl] at h'; omega
      refine OkC_in hok ⟨by simp, hblk0.wr (by omega), ?_⟩
      have hlt17 := hq.lt
      have mx : Md [] w17 (setCells (w17.alloc (.cells (zeroL Try.prog 254).toArray 254)) ⟨w17.heap.size, 0, none⟩ 0 (wtE x)) := hma.old hmd2 (by simp)
      show Dr (World.drew (setCells (w17.alloc (.cells (zeroL Try.prog 254).toArray 254)) ⟨w17.heap.size, 0, none⟩ 0 (wtE x))) _
      generalize hw34 : World.drew (setCells (w17.alloc (.cells (zeroL Try.prog 254).toArray 254)) ⟨w17.heap.size, 0, none⟩ 0 (wtE x)) = w34 at *
      have m34 : Md [] w17 w34 := by rw [← hw34]; exact mx.trans (Md_drew _)
      have hb34 : Blk w34 w17.heap.size 254 (wtE x) := by rw [← hw34]; exact hblk1.md (Md_drew _) (by simp)
      have hq34 := hq.md m34 (by simp)
      obtain ⟨A, hA⟩ : ∃ A, p.a = some A := Option.isSome_iff_exists.1 hp.isD
      have hAm : A.block ∈ fp n p := by simp [fp, hA]
      have hAlt := hlt17 A.block hAm
      have nA : n ∉ [A.block] := by have := hp.d1 A hA; simpa using this.symm
      have xA : w17.heap.size ∉ [A.block] := by simp; omega
      have b0 : ∀ {w'}, Md [A.block] w34 w' → Blk w' n 155 [.slice p.a BL.length p.c, .slice p.pa d.pd.length p.pc, .int .i64 d.rf] := fun hw => hq34.blk.md hw nA
      have bx : ∀ {w'}, Md [A.block] w34 w' → Blk w' w17.heap.size 254 (wtE x) := fun hw => hb34.md hw xA
      have ldW : ∀ {w'}, Md [A.block] w34 w' → ∀ {K : List Value → Prop}, K (blE x.was) → LdN w' ((Addr.mk w17.heap.size 0 none).add 65) 64 K := by
        intro w' hw K k
        refine LdN_in (blE_len _) (fun i u hu => ?_) k
        rw [ad0, Addr.add_lit]
        refine (bx hw).cell ?_
        have hl : (blE x.now).length = 64 := blE_len _
        unfold wtE
        rw [show 65 + i = (64 + i) + 1 by omega, List.getElem?_cons_succ, List.getElem?_append_right (by omega), hl, show 64 + i - 64 = i by omega]
        exact hu
      obtain ⟨g1, g2, g3, g4⟩ := hq34.setBl hxi x.was
      have g4' : Md [A.block] w34 (setCells w34 (adAt p.a (x.i : Int) 64) 0 (blE x.was)) := by
        obtain ⟨A', hA', _, _, _, _, _, h6⟩ := hq34.bl.put encBl (by omega) hxi x.was
        rw [hA] at hA'; cases hA'
        exact h6
      refine ⟨fun w' => Md [A.block] w34 w', Md.refl _ _, _, fun w' hw => (b0 hw).ld rfl rfl, opL_in ⟨_, fun w' hw => (bx hw).ld rfl rfl, opI_in ⟨.agg (blE x.was).toArray, fun w' hw => ldW hw rfl, opBig_in ⟨by simp [blE_len], (hq34.bl.row encBl).ix hxi, OkC_in (okBl x.was) ⟨by simp, g2, g4', ?_⟩⟩⟩⟩⟩
      show Bd _ _
      have m34F : Md (fp n p) w w34 := hmd.trans (m34.mono (by simp))
      have mS : Md (fp n p) w (setCells w34 (adAt p.a (x.i : Int) 64) 0 (blE x.was)) := m34F.trans g4
      refine Bd_in fun b53 hb53 => If_in (fun hb => ?_) fun hb => ?_
      · have hjk : j = k := by rw [hb53] at hb; have : (j : Int) = (k : Int) := by simpa using hb
                               omega
        rw [if_pos hjk] at hst
        have hw2 : ∀ {w'}, Md [A.block] (setCells w34 (adAt p.a (x.i : Int) 64) 0 (blE x.was)).drew w' → Md [A.block] w34 w' := fun hw => g4'.trans (((Md_drew _).mono (by simp)).trans hw)
        have g3d := g3.md (Md_drew _) (by simp)
        have hxi2 : x.i < (BL.set x.i x.was).length := by rw [List.length_set]; exact hxi
        obtain ⟨w', hc1, hc2, hc3⟩ := g3d.copyBl (i := x.i) hxi2 x.now ht64 ((Addr.mk w17.heap.size 0 none).add 1) (fun i u hu => by
          rw [ad0, Addr.add_lit]
          refine (bx (hw2 (Md.refl _ _))).cell ?_
          have hi : i < ((x.now.1.take t).flatMap b1).length := (List.getElem?_eq_some_iff.1 hu).1
          have hl2 : ((x.now.1.take t).flatMap b1).length = t := by rw [encb1.lenL, List.length_take, x.now.2.1]; omega
          have e2 : blE x.now = (x.now.1.take t).flatMap b1 ++ (x.now.1.drop t).flatMap b1 := by
            unfold blE
            rw [← List.flatMap_append, List.take_append_drop]
          unfold wtE
          rw [show 1 + i = i + 1 by omega, List.getElem?_cons_succ, List.getElem?_append_left (by rw [blE_len]; omega), e2, List.getElem?_append_left hi]
          exact hu)
        have hgs : (BL.set x.i x.was)[x.i] = x.was := List.getElem_set_self ..
        rw [hgs] at hc2
        have hc3' : Md [A.block] (setCells w34 (adAt p.a (x.i : Int) 64) 0 (blE x.was)).drew w' := hc3.mono (by intro b hb; rw [hA] at hb; simpa using hb)
        refine ⟨fun w' => Md [A.block] (setCells w34 (adAt p.a (x.i : Int) 64) 0 (blE x.was)).drew w', Md.refl _ _, _, fun w' hw => (b0 (hw2 hw)).ld rfl rfl, opL_in ⟨_, fun w' hw => (bx (hw2 hw)).ld rfl rfl, opI_in ⟨(hq34.bl.row encBl).ix hxi,
          _, fun w' hw => ⟨slice_arrh w' _ t ht64⟩, opL_in ⟨_, fun w' hw => ⟨slice_arrh w' _ t ht64⟩, opL_in <| RunW_in hc1 (fun b hb => by simp at hb) <| opI_in ⟨hc3', rfl, rfl, by rw [hst]; exact hc2, ?_⟩⟩⟩⟩⟩
        exact (mS.trans ((Md_drew _).mono (by simp))).trans (hc3'.mono (by simpa using hAm))
      · have hjk : j ≠ k := by rw [hb53] at hb; have : ¬ (j : Int) = (k : Int) := by simpa using hb
                               omega
        rw [if_neg hjk] at hst
        exact ⟨rfl, rfl, by rw [hst]; exact g3, mS⟩
  · have hlt : m ≤ k := by rw [hb19] at hb; have : ¬ ((m : Int) - 1 ≥ (k : Int)) := by simpa using hb
                           omega
    have hfin : d.crB k t m = d.crB k t k := by
      rcases hkm with h | h
      · rw [show m = k by omega]
      · subst h
        unfold Dk.crB
        rw [List.drop_length, List.drop_of_length_le hlt]
    rw [hfin] at hq
    obtain ⟨h1, h2', h3⟩ := hq.clrPd
    obtain ⟨k1, k2, k3⟩ := h1.setRf 0 (by omega)
    exact ⟨by simp, h3, by simp, k3, ⟨rfl, _, ⟨_, k1, rfl⟩, fp_sub⟩, (hmd.trans (h2'.mono (by simp [fp]))).trans (k2.mono (by simp [fp]))⟩
end Fk
