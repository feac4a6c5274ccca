/- Contracts of disks: a block is written. -/
import Derived.Test.YtpgjpgecgibklaaE1
set_option linter.unusedVariables false
set_option linter.unusedSimpArgs false
set_option maxRecDepth 100000
namespace Fk
open Go Go.Proofs Go.RowKit
def mkBk (b : List Nat) : Bk := if h : b.length = 64 ∧ ∀ x ∈ b, x < 256 then ⟨b, h⟩ else zBk
theorem mkBk_val {b : List Nat} (h : b.length = 64) (h2 : ∀ x ∈ b, x < 256) : (mkBk b).1 = b := by
  have e : mkBk b = ⟨b, h, h2⟩ := dif_pos ⟨h, h2⟩
  rw [e]
def getB (l : List Bk) (i : Nat) : Bk := l.getD i zBk
theorem getB_eq {l : List Bk} {i : Nat} (h : i < l.length) : getB l i = l[i] := by unfold getB; simp [h]
/-- A write. -/
def Dk.put (d : Dk) (i : Nat) (b : Bk) : Dk := ⟨d.bl.set i b, d.pd ++ [⟨i, b, getB d.bl i⟩], d.rf⟩
def Dk.write (d : Dk) (i : Int) (b : List Nat) : Dk × Int :=
  if ¬ (0 ≤ i ∧ i < d.bl.length ∧ b.length = 64) then (d, 2) else if d.stepD.2 = true then (d.stepD.1.put i.toNat (mkBk b), 0) else (d.stepD.1, 200)
theorem stepD_bl (d : Dk) : d.stepD.1.bl = d.bl ∧ d.stepD.1.pd = d.pd := by unfold Dk.stepD; split <;> exact ⟨rfl, rfl⟩
theorem zero254 : zeroL Try.prog 254 = [Value.int .i64 0] ++ (List.replicate 64 (Value.int .u8 0) ++ (List.replicate 64 (Value.int .u8 0) ++ [])) := by kernel_rfl
theorem built254 (i : Int) (y z : List Value) (hy : y.length = 64) (hz : z.length = 64) : Try.prog.built 254 [(0, .int .i64 i), (1, .agg y.toArray), (2, .agg z.toArray)] = some ((.int .i64 i) :: (y ++ z)).toArray := by
  have hb : ∀ parts, Try.prog.built 254 parts = Instr.fill (#[(0, 1), (1, 64), (65, 64)][·]?) (zeroL Try.prog 254).toArray parts := fun parts => by kernel_rfl
  rw [hb, zero254, fill_step' (off := 0) (size := 1) rfl rfl (by simp)]
  have e1 : wrL ([Value.int .i64 0] ++ (List.replicate 64 (Value.int .u8 0) ++ (List.replicate 64 (Value.int .u8 0) ++ []))) 0 (Value.int .i64 i).cells.toList = [Value.int .i64 i] ++ (List.replicate 64 (Value.int .u8 0) ++ (List.replicate 64 (Value.int .u8 0) ++ [])) := wrL_all rfl
  rw [e1, fill_step' (off := 1) (size := 64) rfl (by simpa [Value.cells] using hy) (by simp)]
  have e2 : wrL ([Value.int .i64 i] ++ (List.replicate 64 (Value.int .u8 0) ++ (List.replicate 64 (Value.int .u8 0) ++ []))) 1 (Value.agg y.toArray).cells.toList = [Value.int .i64 i] ++ (y ++ (List.replicate 64 (Value.int .u8 0) ++ [])) :=
    wrL_mid (a := [Value.int .i64 i]) (by simpa [Value.cells] using hy)
  rw [e2, fill_step' (off := 65) (size := 64) rfl (by simpa [Value.cells] using hz) (by simp [hy])]
  have e3 : wrL ([Value.int .i64 i] ++ (y ++ (List.replicate 64 (Value.int .u8 0) ++ []))) 65 (Value.agg z.toArray).cells.toList = [Value.int .i64 i] ++ (y ++ (z ++ [])) := by
    have := wrL_mid (a := [Value.int .i64 i] ++ y) (d := List.replicate 64 (Value.int .u8 0)) (c := []) (b := z) (by simpa using hz)
    have hl : ([Value.int .i64 i] ++ y).length = 65 := by simp [hy]
    rw [hl] at this
    simpa [List.append_assoc, Value.cells] using this
  rw [e3, Instr.fill]
  simp
theorem LdN_row {w : World} {A : Addr} {b : List Nat} (h : RowAt w (some A) 1 b1 b) {n : Nat} (hl : b.length = n) {K : List Value → Prop} (k : K (b.flatMap b1)) : LdN w A n K := by
  refine LdN_in (by rw [encb1.lenL, hl, Nat.mul_one]) (fun j u hu => ?_) k
  have hj : j < b.length := by have := (List.getElem?_eq_some_iff.1 hu).1; rw [encb1.lenL] at this; omega
  have h1 := encb1.at b j 0 b[j] (List.getElem?_eq_getElem hj) (by omega)
  rw [Nat.mul_one, Nat.add_zero] at h1
  rw [h1] at hu
  obtain ⟨B, hB, hc⟩ := h j b[j] (List.getElem?_eq_getElem hj)
  cases hB
  have := hc 0 u hu
  rw [addr_add0, Nat.mul_one] at this
  exact this
theorem Md.fr {F F' : List Nat} {w w1 w2 : World} (h1 : Md F w w1) (h2 : Md F' w1 w2) (hf : Fr w F F') : Md F w w2 :=
  ⟨h2.os.trans h1.os, h2.tape.trans h1.tape, h2.output.trans h1.output, Nat.le_trans h1.size h2.size, fun k hk hm =>
    (h2.blk k (Nat.lt_of_lt_of_le hk h1.size) fun hm' => by rcases hf k hm' with h | h; exact hm h; omega).trans (h1.blk k hk hm)⟩
/-- Pending writes are appended to. -/
theorem DkAt.appPd {w w' : World} {n : Nat} {p : DkS} {d : Dk} (h : DkAt w n p d) {x : Wt} {a' : Option Addr} {c' : Nat} (ho : OwnL w' 0 254 129 wtE a' c' (d.pd ++ [x])) (hm : Md (p.pa.map (·.block)).toList w w')
    (hA : ∀ A, a' = some A → p.pa = some A ∨ w.heap.size ≤ A.block) (hx : x.i < d.bl.length) :
    Wr w' ((Addr.mk n 0 none).add 1) 1 ∧ DkAt (setCells w' ((Addr.mk n 0 none).add 1) 0 [.slice a' (d.pd ++ [x]).length c']) n ⟨p.a, p.c, a', c'⟩ { d with pd := d.pd ++ [x] } ∧
      Md (fp n p) w (setCells w' ((Addr.mk n 0 none).add 1) 0 [.slice a' (d.pd ++ [x]).length c']) ∧ Fr w (fp n p) (fp n ⟨p.a, p.c, a', c'⟩) := by
  rw [ad0]
  have hn : n < w.heap.size := h.blk.lt
  have hnp : n ∉ (p.pa.map (·.block)).toList := by
    intro hmem
    cases hpa : p.pa with
    | none => rw [hpa] at hmem; simp at hmem
    | some A => rw [hpa] at hmem; simp at hmem; exact h.d2 A hpa hmem.symm
  have hblk := h.blk.md hm hnp
  have hm2 := Md_setCells (w := w') n 1 [.slice a' (d.pd ++ [x]).length c']
  obtain ⟨k1, k2⟩ := own_keep h.bl hm hA (Apt.symm h.d3)
  have ha'n : ∀ A, a' = some A → A.block ≠ n := by
    intro A hA'
    rcases hA A hA' with h1 | h1
    · exact h.d2 A h1
    · omega
  refine ⟨hblk.wr (by simp), ⟨?_, k1.mdD hm2 fun A hA' => by have := h.d1 A hA'; simpa using this, ho.mdD hm2 fun A hA' => by have := ha'n A hA'; simpa using this, h.isD, h.d1, ha'n, k2.symm, h.len, ?_, h.rf0⟩, ?_, ?_⟩
  · have := hblk.set (j := 1) (by simp) (.slice a' (d.pd ++ [x]).length c')
    simpa using this
  · intro y hy
    rcases List.mem_append.1 hy with hy | hy
    · exact h.ix y hy
    · simp at hy; subst hy; exact hx
  · exact (hm.mono (by intro b hb; simp [fp]; right; right; simpa using hb)).trans (hm2.mono (by simp [fp]))
  · intro b hb
    simp only [fp, List.mem_cons, List.mem_append] at hb ⊢
    rcases hb with hb | hb | hb
    · exact .inl (.inl hb)
    · exact .inl (.inr (.inl hb))
    · obtain ⟨A, hA', rfl⟩ : ∃ A, a' = some A ∧ A.block = b := by
        cases ha : a' with
        | none => rw [ha] at hb; simp at hb
        | some A => rw [ha] at hb; simp at hb; exact ⟨A, rfl, hb.symm⟩
      rcases hA A hA' with h1 | h1
      · exact .inl (.inr (.inr (by rw [h1]; simp)))
      · exact .inr h1
theorem DkAt.setBl {w : World} {n : Nat} {p : DkS} {d : Dk} (h : DkAt w n p d) {i : Nat} (hi : i < d.bl.length) (b : Bk) :
    (adAt p.a (i : Int) 64).block ∈ fp n p ∧ Wr w (adAt p.a (i : Int) 64) 64 ∧ DkAt (setCells w (adAt p.a (i : Int) 64) 0 (blE b)) n p { d with bl := d.bl.set i b } ∧ Md (fp n p) w (setCells w (adAt p.a (i : Int) 64) 0 (blE b)) := by
  obtain ⟨A, hA, h1, h2, h3, h4, h5, h6⟩ := h.bl.put encBl (by omega) hi b
  have hAm : A.block ∈ fp n p := by simp [fp, hA]
  refine ⟨by rw [h3]; exact hAm, h4, ⟨?_, h5, h.pd.mdD h6 fun B hB => by have := h.d3 A B hA hB; simpa using this.symm, h.isD, h.d1, h.d2, h.d3, by simpa using h.len, fun x hx => by simpa using h.ix x hx, h.rf0⟩, h6.mono (by simpa using hAm)⟩
  have := h.blk.md h6 (by have := h.d1 A hA; simpa using this.symm)
  simpa using this
theorem f114_ok (n : Nat) (d : Dk) (F : List Nat) (i : Int) (a : Option Addr) (c : Nat) (b : List Nat) (hbb : ∀ x ∈ b, x < 256) (hbl : b.length < 2 ^ 40) (hpd : d.pd.length < 2 ^ 30) (w : World) (h : Dsk w n d F) (hr : RowAt w a 1 b1 b) (hab : ∀ A, a = some A → A.block ∉ F) :
    Ct Try.prog 114 #[.pointer (some ⟨n, 0, none⟩), .int .i64 i, .slice a b.length c] w fun v w' => (v = .int .i64 (d.write i b).2 ∧ ∃ F', Dsk w' n (d.write i b).1 F' ∧ Fr w F F') ∧ Md F w w' := by
  apply f114_in
  refine in191 h (by simp) fun w2 h2 m2 => If_f <| Bd_in fun b4 hb4 => ⟨fun _ => rfl, Bd_e rfl ?_⟩
  have hD2 := h2
  obtain ⟨p, hp, rfl⟩ := h2
  refine Gd_to (fun u w' => (b4 = false → u = (p.a, d.bl.length, p.c)) ∧ w' = w2) (fun u w13 hJ => ?_) (fun fin hc => hp.blk.ld rfl <| opL_in <| fin _ _ ⟨fun _ => rfl, rfl⟩) (fun hc => ⟨fun h => by simp [h] at hc, rfl⟩)
  obtain ⟨hu, rfl⟩ := hJ
  refine Bd_in fun x14 hx14 => Bd_in fun b15 hb15 => Bd_in fun b16 hb16 => Bd_in fun x17 hx17 => Bd_in fun b18 hb18 => Bd_in fun b19 hb19 => ?_
  have e19 : b19 = !decide (0 ≤ i ∧ i < d.bl.length ∧ b.length = 64) := by
    have e18 : b18 = !decide (b.length = 64) := by rw [hb18, hx17, Bool.eq_iff_iff]; simp; omega
    rw [hb19, hb16, e18]
    cases hc : b4 with
    | true =>
      rw [hc] at hb4
      have : i < 0 := by simpa using hb4.symm
      have : ¬ (0 ≤ i ∧ i < d.bl.length ∧ b.length = 64) := by omega
      simp [this]
    | false =>
      rw [hc] at hb4
      have h0 : ¬ i < 0 := by simpa using hb4.symm
      rw [hb15, hx14, hu hc]
      by_cases h1 : i < d.bl.length
      · have h1' : ¬ (i ≥ (d.bl.length : Int)) := by omega
        have h0' : 0 ≤ i := by omega
        simp [h1, h1', h0']
      · have h1' : i ≥ (d.bl.length : Int) := by omega
        simp [h1, h1']
  refine If_in (fun hb => ?_) fun hb => ?_
  · have hno := (not_eq_of e19).1 hb
    rw [decide_eq_false_iff_not] at hno
    refine ⟨⟨by unfold Dk.write; rw [if_pos hno], fp n p, by unfold Dk.write; rw [if_pos hno]; exact ⟨p, hp, rfl⟩, Fr.refl _ _⟩, m2.mono (by simp)⟩
  have hyes := (not_eq_of e19).2 hb
  rw [decide_eq_true_eq] at hyes
  obtain ⟨h0, h1, h64⟩ := hyes
  obtain ⟨m, rfl⟩ := Int.eq_ofNat_of_zero_le h0
  have hm : m < d.bl.length := by omega
  have ew : d.write (m : Int) b = if d.stepD.2 = true then (d.stepD.1.put m (mkBk b), 0) else (d.stepD.1, 200) := by
    unfold Dk.write
    rw [if_neg (by intro h; exact h ⟨h0, h1, h64⟩)]
    rfl
  rw [ew]
  refine in192 hD2 (by simp) (by simp) fun w21 h21 m21 => Bd_in fun b23 hb23 => If_in (fun hb => ?_) fun hb => ?_
  · have hs : d.stepD.2 = false := by rw [hb23] at hb; simpa using hb
    rw [hs]
    exact ⟨⟨rfl, fp n p, h21, Fr.refl _ _⟩, (m2.mono (by simp)).trans m21⟩
  have hs : d.stepD.2 = true := by rw [hb23] at hb; simpa using hb
  rw [hs]
  obtain ⟨sb, sp⟩ := stepD_bl d
  obtain ⟨q, hq, hqF⟩ := h21
  have mw21 : Md (fp n p) w w21 := (m2.mono (by simp)).trans m21
  have hm' : m < d.stepD.1.bl.length := by rw [sb]; exact hm
  have hval := mkBk_val h64 hbb
  have hrow21 : RowAt w21 a 1 b1 b := hr.mdE mw21 fun A hA _ => hab A hA
  obtain ⟨A, rfl⟩ : ∃ A, a = some A := by obtain ⟨A, hA, _⟩ := hr 0 b[0] (List.getElem?_eq_getElem (by omega)); exact ⟨A, hA⟩
  have hblE : b.flatMap b1 = blE (mkBk b) := by unfold blE; rw [hval]
  generalize hD : d.stepD.1 = D at *
  generalize hB : mkBk b = B at *
  refine ⟨fun w' => Md [] w21 w', Md_drew _, A, fun w' hw => ⟨run_arr w' (some A) _ c (by omega)⟩, .agg (blE B).toArray, fun w' hw => LdN_row (hrow21.md hw) h64 (by rw [hblE]), opBig_in ⟨by simp [blE_len], ?_⟩⟩
  refine ⟨.slice q.a D.bl.length q.c, fun w' hw => (hq.md hw (by simp)).blk.ld rfl rfl, opL_in ⟨(hq.bl.row encBl).ix hm', .agg (blE D.bl[m]).toArray, fun w' hw => LdN_blk (hq.md hw (by simp)).bl hm' rfl, opBig_in ⟨by simp [blE_len], ?_⟩⟩⟩
  refine ⟨.agg (wtE ⟨m, B, D.bl[m]⟩).toArray, fun w' hw => ⟨run_build w' 254 _ _ (built254 _ _ _ (blE_len _) (blE_len _))⟩, opBig_in ⟨by simp [encWt.len], fun n50 hn50 w51 h51 hL51 => ⟨(Md_drew w21).trans h51, ?_⟩⟩⟩
  have hn50' : w21.heap.size ≤ n50 := hn50
  have m51 : Md [] w21 w51 := (Md_drew w21).trans h51
  have hok : okCells (Array.toList (wtE ⟨m, B, D.bl[m]⟩).toArray) 129 = true := by
    have h1 := encWt.len ⟨m, B, D.bl[m]⟩
    have h2 : allOne (wtE ⟨m, B, D.bl[m]⟩) = true := by
      unfold allOne
      rw [List.all_eq_true]
      exact fun v hv => encWt.one _ v hv
    show okCells (wtE ⟨m, B, D.bl[m]⟩) 129 = true
    unfold okCells
    rw [h1, h2]; rfl
  refine OkC_in hok fun w52 h52 hL52 => ?_
  have m52 : Md [] w21 w52 := m51.old h52 (by simpa using hn50')
  have hq52 := hq.md m52 (by simp)
  have hqlt := hq.lt
  have hn50q : ∀ x ∈ fp n q, x ≠ n50 := fun x hx e => by have := hqlt x hx; omega
  refine ⟨m52, Jn_in (fun us vs w' => us = [] ∧ vs = [] ∧ n50 < w'.heap.size ∧ ∃ p', DkAt w' n p' { D with pd := D.pd ++ [⟨m, B, D.bl[m]⟩] } ∧ Fr w (fp n p) (fp n p') ∧ Md (fp n p) w w' ∧ n50 ∉ fp n p') ?_ ?_⟩
  · rintro us vs w55 ⟨rfl, rfl, hlt, p', hp', hfr, hmd, hnp⟩
    have hpd' := hp'.md (Md_drew w55) (by simp)
    have e1 : List.take 64 (List.drop 1 (Array.toList (wtE ⟨m, B, D.bl[m]⟩).toArray)) = blE B := by
      simp only [wtE, List.drop_succ_cons, List.drop_zero]
      exact List.take_left' (blE_len B)
    obtain ⟨g1, g2, g3, g4⟩ := hpd'.setBl (i := m) hm' B
    refine ⟨by simp [encWt.len], Bd_e (congrArg List.toArray e1) ⟨by simp [blE_len], hpd'.blk.ld rfl <| opL_in ⟨(hpd'.bl.row encBl).ix hm', OkC_in (okBl B) ⟨?_, g2, ⟨rfl, _, ⟨p', ?_, rfl⟩, hfr⟩, (hmd.trans ((Md_drew _).mono (by simp))).fr g4 hfr⟩⟩⟩⟩
    · intro hmem
      have : (adAt p'.a (m : Int) 64).block = n50 := by simpa using hmem
      exact hnp (this ▸ g1)
    · have : D.put m B = { D with pd := D.pd ++ [⟨m, B, D.bl[m]⟩], bl := D.bl.set m B } := by unfold Dk.put; rw [getB_eq hm']
      rw [this]
      exact g3
  · refine ⟨by simp [encWt.len], ?_⟩
    have hflat : (flat [(0, Value.agg (wtE ⟨m, B, D.bl[m]⟩).toArray)]).toArray.toList = wtE ⟨m, B, D.bl[m]⟩ := by simp [flat, cL, Value.cells]
    have hrow : ∀ (w' : World), Md [] w52 w' → n50 < w'.heap.size → DkAt w' n q D := fun w' hw _ => hq52.md hw (by simp)
    have hlt52 : n50 < w52.heap.size := hL52 n50 (by simp)
    have hpl : D.pd.length < 2 ^ 30 := by rw [sp]; exact hpd
    have frq : Fr w (fp n p) (fp n q) := by rw [hqF]; exact Fr.refl _ _
    have leaf : ∀ w', Md [] w52 w' → Nw (.cells (flat [(0, Value.agg (wtE ⟨m, B, D.bl[m]⟩).toArray)]).toArray 254) w' fun b w'' => RunW Try.prog [n50] (Builtin.append_ #[153, 153] 153 #[.slice q.pa D.pd.length q.pc, .slice (some { block := b, off := 0 }) 1 1])
        (fun v w'' => opL v fun a72 n73 n74 => ¬ n ∈ [n50] ∧ Wr w'' ((Addr.mk n 0 none).add 1) 1 ∧
          (([] : List Value) = [] ∧ ([] : List Value) = [] ∧ n50 < (setCells w'' ((Addr.mk n 0 none).add 1) 0 [.slice a72 n73 n74]).heap.size ∧ ∃ p', DkAt (setCells w'' ((Addr.mk n 0 none).add 1) 0 [.slice a72 n73 n74]) n p' { D with pd := D.pd ++ [⟨m, B, D.bl[m]⟩] } ∧ Fr w (fp n p) (fp n p') ∧ Md (fp n p) w (setCells w'' ((Addr.mk n 0 none).add 1) 0 [.slice a72 n73 n74]) ∧ n50 ∉ fp n p')) w'' := by
      intro w' hw
      have hq' := hq52.md hw (by simp)
      have hs' := hw.size
      refine app_one rowT153 encWt ⟨m, B, D.bl[m]⟩ hflat hq'.pd (Nat.zero_le _) (by simp; omega) (fun b hb A hA e => by
        simp at hb; subst hb
        exact hn50q A.block (by simp [fp, hA]) e) (by simp [maxLen]; omega) (by omega) ?_
      intro a' c' w'' ho hmd hA
      obtain ⟨g1, g2, g3, g4⟩ := hq'.appPd ho hmd hA hm'
      have hsz := (setCells_env [Value.slice a' (D.pd ++ [(⟨m, B, D.bl[m]⟩ : Wt)]).length c'] 0 w'' ((Addr.mk n 0 none).add 1)).2.2.2
      have h1 := hmd.size
      have h2 := mw21.size
      have h3 := m52.size
      refine opL_in ⟨by simpa using hn50q n (by simp [fp]), g1, rfl, rfl, by rw [hsz]; omega, _, g2, ?_, ?_, ?_⟩
      · exact frq.trans g4 (by omega)
      · exact ((mw21.trans (m52.mono (by simp))).trans (hw.mono (by simp))).fr g3 frq
      · intro hmem
        rcases g4 n50 hmem with h | h
        · exact hn50q n50 h rfl
        · omega
    refine ⟨(hq52.md (Md_drew w52) (by simp)).blk.ld rfl <| opL_in <| SzIs_in (by simp [encWt.len]) (leaf w52.drew (Md_drew w52)), SzIs_in (by simp [encWt.len]) fun b w' e1 e2 => ?_⟩
    have hl := leaf w52.drew (Md_drew w52) b w' e1 e2
    subst e1; subst e2
    exact (hq52.md ((Md_drew w52).trans (Md.alloc _ _)) (by simp)).blk.ld rfl <| opL_in hl
end Fk
