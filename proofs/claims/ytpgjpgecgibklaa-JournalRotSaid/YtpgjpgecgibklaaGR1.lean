/- Contracts of functions, and plain laws: several texts, joined. -/
import Derived.Test.YtpgjpgecgibklaaGR0
import Derived.Laws.Externs
import Derived.Lib.MakeNoZero
import Derived.Test.YtpgjpgecgibklaaGK2
import Derived.WalkSmall
import Derived.Test.YtpgjpgecgibklaaGV0
import Derived.Laws.Concat
import Derived.Lib.AppendZerosOnto
set_option linter.unusedVariables false
set_option linter.unusedSimpArgs false
set_option maxRecDepth 100000
namespace Fk
open Go Go.Proofs Go.RowKit
def mkBk (b : List Nat) : Bk := if h : b.length = 64 ∧ ∀ x ∈ b, x < 256 then ⟨b, h⟩ else zBk
theorem mkBk_val {b : List Nat} (h : b.length = 64) (h2 : ∀ x ∈ b, x < 256) : (mkBk b).1 = b := by
  have e : mkBk b = ⟨b, h, h2⟩ := dif_pos ⟨h, h2⟩
  rw [e]
def getB (l : List Bk) (i : Nat) : Bk := l.getD i zBk
theorem getB_eq {l : List Bk} {i : Nat} (h : i < l.length) : getB l i = l[i] := by unfold getB; simp [h]
/-- A write. -/
def Dk.put (d : Dk) (i : Nat) (b : Bk) : Dk := ⟨d.bl.set i b, d.pd ++ [⟨i, b, getB d.bl i⟩], d.rf⟩
def Dk.write (d : Dk) (i : Int) (b : List Nat) : Dk × Int :=
  if ¬ (0 ≤ i ∧ i < d.bl.length ∧ b.length = 64) then (d, 2) else if d.stepD.2 = true then (d.stepD.1.put i.toNat (mkBk b), 0) else (d.stepD.1, 200)
theorem stepD_bl (d : Dk) : d.stepD.1.bl = d.bl ∧ d.stepD.1.pd = d.pd := by unfold Dk.stepD; split <;> exact ⟨rfl, rfl⟩
theorem zero254 : zeroL Try.prog 254 = [Value.int .i64 0] ++ (List.replicate 64 (Value.int .u8 0) ++ (List.replicate 64 (Value.int .u8 0) ++ [])) := by kernel_rfl
theorem built254 (i : Int) (y z : List Value) (hy : y.length = 64) (hz : z.length = 64) : Try.prog.built 254 [(0, .int .i64 i), (1, .agg y.toArray), (2, .agg z.toArray)] = some ((.int .i64 i) :: (y ++ z)).toArray := by
  have hb : ∀ parts, Try.prog.built 254 parts = Instr.fill (#[(0, 1), (1, 64), (65, 64)][·]?) (zeroL Try.prog 254).toArray parts := fun parts => by kernel_rfl
  rw [hb, zero254, fill_step' (off := 0) (size := 1) rfl rfl (by simp)]
  have e1 : wrL ([Value.int .i64 0] ++ (List.replicate 64 (Value.int .u8 0) ++ (List.replicate 64 (Value.int .u8 0) ++ []))) 0 (Value.int .i64 i).cells.toList = [Value.int .i64 i] ++ (List.replicate 64 (Value.int .u8 0) ++ (List.replicate 64 (Value.int .u8 0) ++ [])) := wrL_all rfl
  rw [e1, fill_step' (off := 1) (size := 64) rfl (by simpa [Value.cells] using hy) (by simp)]
  have e2 : wrL ([Value.int .i64 i] ++ (List.replicate 64 (Value.int .u8 0) ++ (List.replicate 64 (Value.int .u8 0) ++ []))) 1 (Value.agg y.toArray).cells.toList = [Value.int .i64 i] ++ (y ++ (List.replicate 64 (Value.int .u8 0) ++ [])) :=
    wrL_mid (a := [Value.int .i64 i]) (by simpa [Value.cells] using hy)
  rw [e2, fill_step' (off := 65) (size := 64) rfl (by simpa [Value.cells] using hz) (by simp [hy])]
  have e3 : wrL ([Value.int .i64 i] ++ (y ++ (List.replicate 64 (Value.int .u8 0) ++ []))) 65 (Value.agg z.toArray).cells.toList = [Value.int .i64 i] ++ (y ++ (z ++ [])) := by
    have := wrL_mid (a := [Value.int .i64 i] ++ y) (d := List.replicate 64 (Value.int .u8 0)) (c := []) (b := z) (by simpa using hz)
    have hl : ([Value.int .i64 i] ++ y).length = 65 := by simp [hy]
    rw [hl] at this
    simpa [List.append_assoc, Value.cells] using this
  rw [e3, Instr.fill]
  simp
theorem LdN_row {w : World} {A : Addr} {b : List Nat} (h : RowAt w (some A) 1 b1 b) {n : Nat} (hl : b.length = n) {K : List Value → Prop} (k : K (b.flatMap b1)) : LdN w A n K := by
  refine LdN_in (by rw [encb1.lenL, hl, Nat.mul_one]) (fun j u hu => ?_) k
  have hj : j < b.length := by have := (List.getElem?_eq_some_iff.1 hu).1; rw [encb1.lenL] at this; omega
  have h1 := encb1.at b j 0 b[j] (List.getElem?_eq_getElem hj) (by omega)
  rw [Nat.mul_one, Nat.add_zero] at h1
  rw [h1] at hu
  obtain ⟨B, hB, hc⟩ := h j b[j] (List.getElem?_eq_getElem hj)
  cases hB
  have := hc 0 u hu
  rw [addr_add0, Nat.mul_one] at this
  exact this
theorem Md.fr {F F' : List Nat} {w w1 w2 : World} (h1 : Md F w w1) (h2 : Md F' w1 w2) (hf : Fr w F F') : Md F w w2 :=
  ⟨h2.os.trans h1.os, h2.tape.trans h1.tape, h2.output.trans h1.output, Nat.le_trans h1.size h2.size, fun k hk hm =>
    (h2.blk k (Nat.lt_of_lt_of_le hk h1.size) fun hm' => by rcases hf k hm' with h | h; exact hm h; omega).trans (h1.blk k hk hm)⟩
/-- Pending writes are appended to. -/
theorem DkAt.appPd {w w' : World} {n : Nat} {p : DkS} {d : Dk} (h : DkAt w n p d) {x : Wt} {a' : Option Addr} {c' : Nat} (ho : OwnL w' 0 254 129 wtE a' c' (d.pd ++ [x])) (hm : Md (p.pa.map (·.block)).toList w w')
    (hA : ∀ A, a' = some A → p.pa = some A ∨ w.heap.size ≤ A.block) (hx : x.i < d.bl.length) :
    Wr w' ((Addr.mk n 0 none).add 1) 1 ∧ DkAt (setCells w' ((Addr.mk n 0 none).add 1) 0 [.slice a' (d.pd ++ [x]).length c']) n ⟨p.a, p.c, a', c'⟩ { d with pd := d.pd ++ [x] } ∧
      Md (fp n p) w (setCells w' ((Addr.mk n 0 none).add 1) 0 [.slice a' (d.pd ++ [x]).length c']) ∧ Fr w (fp n p) (fp n ⟨p.a, p.c, a', c'⟩) := by
  rw [ad0]
  have hn : n < w.heap.size := h.blk.lt
  have hnp : n ∉ (p.pa.map (·.block)).toList := by
    intro hmem
    cases hpa : p.pa with
    | none => rw [hpa] at hmem; simp at hmem
    | some A => rw [hpa] at hmem; simp at hmem; exact h.d2 A hpa hmem.symm
  have hblk := h.blk.md hm hnp
  have hm2 := Md_setCells (w := w') n 1 [.slice a' (d.pd ++ [x]).length c']
  obtain ⟨k1, k2⟩ := own_keep h.bl hm hA (Apt.symm h.d3)
  have ha'n : ∀ A, a' = some A → A.block ≠ n := by
    intro A hA'
    rcases hA A hA' with h1 | h1
    · exact h.d2 A h1
    · omega
  refine ⟨hblk.wr (by simp), ⟨?_, k1.mdD hm2 fun A hA' => by have := h.d1 A hA'; simpa using this, ho.mdD hm2 fun A hA' => by have := ha'n A hA'; simpa using this, h.isD, h.d1, ha'n, k2.symm, h.len, ?_, h.rf0⟩, ?_, ?_⟩
  · have := hblk.set (j := 1) (by simp) (.slice a' (d.pd ++ [x]).length c')
    simpa using this
  · intro y hy
    rcases List.mem_append.1 hy with hy | hy
    · exact h.ix y hy
    · simp at hy; subst hy; exact hx
  · exact (hm.mono (by intro b hb; simp [fp]; right; right; simpa using hb)).trans (hm2.mono (by simp [fp]))
  · intro b hb
    simp only [fp, List.mem_cons, List.mem_append] at hb ⊢
    rcases hb with hb | hb | hb
    · exact .inl (.inl hb)
    · exact .inl (.inr (.inl hb))
    · obtain ⟨A, hA', rfl⟩ : ∃ A, a' = some A ∧ A.block = b := by
        cases ha : a' with
        | none => rw [ha] at hb; simp at hb
        | some A => rw [ha] at hb; simp at hb; exact ⟨A, rfl, hb.symm⟩
      rcases hA A hA' with h1 | h1
      · exact .inl (.inr (.inr (by rw [h1]; simp)))
      · exact .inr h1
theorem DkAt.setBl {w : World} {n : Nat} {p : DkS} {d : Dk} (h : DkAt w n p d) {i : Nat} (hi : i < d.bl.length) (b : Bk) :
    (adAt p.a (i : Int) 64).block ∈ fp n p ∧ Wr w (adAt p.a (i : Int) 64) 64 ∧ DkAt (setCells w (adAt p.a (i : Int) 64) 0 (blE b)) n p { d with bl := d.bl.set i b } ∧ Md (fp n p) w (setCells w (adAt p.a (i : Int) 64) 0 (blE b)) := by
  obtain ⟨A, hA, h1, h2, h3, h4, h5, h6⟩ := h.bl.put encBl (by omega) hi b
  have hAm : A.block ∈ fp n p := by simp [fp, hA]
  refine ⟨by rw [h3]; exact hAm, h4, ⟨?_, h5, h.pd.mdD h6 fun B hB => by have := h.d3 A B hA hB; simpa using this.symm, h.isD, h.d1, h.d2, h.d3, by simpa using h.len, fun x hx => by simpa using h.ix x hx, h.rf0⟩, h6.mono (by simpa using hAm)⟩
  have := h.blk.md h6 (by have := h.d1 A hA; simpa using this.symm)
  simpa using this
theorem f114_ok (n : Nat) (d : Dk) (F : List Nat) (i : Int) (a : Option Addr) (c : Nat) (b : List Nat) (hbb : ∀ x ∈ b, x < 256) (hbl : b.length < 2 ^ 40) (hpd : d.pd.length < 2 ^ 30) (w : World) (h : Dsk w n d F) (hr : RowAt w a 1 b1 b) (hab : ∀ A, a = some A → A.block ∉ F) :
    Ct Try.prog 114 #[.pointer (some ⟨n, 0, none⟩), .int .i64 i, .slice a b.length c] w fun v w' => (v = .int .i64 (d.write i b).2 ∧ ∃ F', Dsk w' n (d.write i b).1 F' ∧ Fr w F F') ∧ Md F w w' := by
  apply f114_in
  refine in191 h (by simp) fun w2 h2 m2 => If_f <| Bd_in fun b4 hb4 => ⟨fun _ => rfl, Bd_e rfl ?_⟩
  have hD2 := h2
  obtain ⟨p, hp, rfl⟩ := h2
  refine Gd_to (fun u w' => (b4 = false → u = (p.a, d.bl.length, p.c)) ∧ w' = w2) (fun u w13 hJ => ?_) (fun fin hc => hp.blk.ld rfl <| opL_in <| fin _ _ ⟨fun _ => rfl, rfl⟩) (fun hc => ⟨fun h => by simp [h] at hc, rfl⟩)
  obtain ⟨hu, rfl⟩ := hJ
  refine Bd_in fun x14 hx14 => Bd_in fun b15 hb15 => Bd_in fun b16 hb16 => Bd_in fun x17 hx17 => Bd_in fun b18 hb18 => Bd_in fun b19 hb19 => ?_
  have e19 : b19 = !decide (0 ≤ i ∧ i < d.bl.length ∧ b.length = 64) := by
    have e18 : b18 = !decide (b.length = 64) := by rw [hb18, hx17, Bool.eq_iff_iff]; simp; omega
    rw [hb19, hb16, e18]
    cases hc : b4 with
    | true =>
      rw [hc] at hb4
      have : i < 0 := by simpa using hb4.symm
      have : ¬ (0 ≤ i ∧ i < d.bl.length ∧ b.length = 64) := by omega
      simp [this]
    | false =>
      rw [hc] at hb4
      have h0 : ¬ i < 0 := by simpa using hb4.symm
      rw [hb15, hx14, hu hc]
      by_cases h1 : i < d.bl.length
      · have h1' : ¬ (i ≥ (d.bl.length : Int)) := by omega
        have h0' : 0 ≤ i := by omega
        simp [h1, h1', h0']
      · have h1' : i ≥ (d.bl.length : Int) := by omega
        simp [h1, h1']
  refine If_in (fun hb => ?_) fun hb => ?_
  · have hno := (not_eq_of e19).1 hb
    rw [decide_eq_false_iff_not] at hno
    refine ⟨⟨by unfold Dk.write; rw [if_pos hno], fp n p, by unfold Dk.write; rw [if_pos hno]; exact ⟨p, hp, rfl⟩, Fr.refl _ _⟩, m2.mono (by simp)⟩
  have hyes := (not_eq_of e19).2 hb
  rw [decide_eq_true_eq] at hyes
  obtain ⟨h0, h1, h64⟩ := hyes
  obtain ⟨m, rfl⟩ := Int.eq_ofNat_of_zero_le h0
  have hm : m < d.bl.length := by omega
  have ew : d.write (m : Int) b = if d.stepD.2 = true then (d.stepD.1.put m (mkBk b), 0) else (d.stepD.1, 200) := by
    unfold Dk.write
    rw [if_neg (by intro h; exact h ⟨h0, h1, h64⟩)]
    rfl
  rw [ew]
  refine in192 hD2 (by simp) (by simp) fun w21 h21 m21 => Bd_in fun b23 hb23 => If_in (fun hb => ?_) fun hb => ?_
  · have hs : d.stepD.2 = false := by rw [hb23] at hb; simpa using hb
    rw [hs]
    exact ⟨⟨rfl, fp n p, h21, Fr.refl _ _⟩, (m2.mono (by simp)).trans m21⟩
  have hs : d.stepD.2 = true := by rw [hb23] at hb; simpa using hb
  rw [hs]
  obtain ⟨sb, sp⟩ := stepD_bl d
  obtain ⟨q, hq, hqF⟩ := h21
  have mw21 : Md (fp n p) w w21 := (m2.mono (by simp)).trans m21
  have hm' : m < d.stepD.1.bl.length := by rw [sb]; exact hm
  have hval := mkBk_val h64 hbb
  have hrow21 : RowAt w21 a 1 b1 b := hr.mdE mw21 fun A hA _ => hab A hA
  obtain ⟨A, rfl⟩ : ∃ A, a = some A := by obtain ⟨A, hA, _⟩ := hr 0 b[0] (List.getElem?_eq_getElem (by omega)); exact ⟨A, hA⟩
  have hblE : b.flatMap b1 = blE (mkBk b) := by unfold blE; rw [hval]
  generalize hD : d.stepD.1 = D at *
  generalize hB : mkBk b = B at *
  refine ⟨fun w' => Md [] w21 w', Md_drew _, A, fun w' hw => ⟨run_arr w' (some A) _ c (by omega)⟩, .agg (blE B).toArray, fun w' hw => LdN_row (hrow21.md hw) h64 (by rw [hblE]), opBig_in ⟨by simp [blE_len], ?_⟩⟩
  refine ⟨.slice q.a D.bl.length q.c, fun w' hw => (hq.md hw (by simp)).blk.ld rfl rfl, opL_in ⟨(hq.bl.row encBl).ix hm', .agg (blE D.bl[m]).toArray, fun w' hw => LdN_blk (hq.md hw (by simp)).bl hm' rfl, opBig_in ⟨by simp [blE_len], ?_⟩⟩⟩
  refine ⟨.agg (wtE ⟨m, B, D.bl[m]⟩).toArray, fun w' hw => ⟨run_build w' 254 _ _ (built254 _ _ _ (blE_len _) (blE_len _))⟩, opBig_in ⟨by simp [encWt.len], fun n50 hn50 w51 h51 hL51 => ⟨(Md_drew w21).trans h51, ?_⟩⟩⟩
  have hn50' : w21.heap.size ≤ n50 := hn50
  have m51 : Md [] w21 w51 := (Md_drew w21).trans h51
  have hok : okCells (Array.toList (wtE ⟨m, B, D.bl[m]⟩).toArray) 129 = true := by
    have h1 := encWt.len ⟨m, B, D.bl[m]⟩
    have h2 : allOne (wtE ⟨m, B, D.bl[m]⟩) = true := by
      unfold allOne
      rw [List.all_eq_true]
      exact fun v hv => encWt.one _ v hv
    show okCells (wtE ⟨m, B, D.bl[m]⟩) 129 = true
    unfold okCells
    rw [h1, h2]; rfl
  refine OkC_in hok fun w52 h52 hL52 => ?_
  have m52 : Md [] w21 w52 := m51.old h52 (by simpa using hn50')
  have hq52 := hq.md m52 (by simp)
  have hqlt := hq.lt
  have hn50q : ∀ x ∈ fp n q, x ≠ n50 := fun x hx e => by have := hqlt x hx; omega
  refine ⟨m52, Jn_in (fun us vs w' => us = [] ∧ vs = [] ∧ n50 < w'.heap.size ∧ ∃ p', DkAt w' n p' { D with pd := D.pd ++ [⟨m, B, D.bl[m]⟩] } ∧ Fr w (fp n p) (fp n p') ∧ Md (fp n p) w w' ∧ n50 ∉ fp n p') ?_ ?_⟩
  · rintro us vs w55 ⟨rfl, rfl, hlt, p', hp', hfr, hmd, hnp⟩
    have hpd' := hp'.md (Md_drew w55) (by simp)
    have e1 : List.take 64 (List.drop 1 (Array.toList (wtE ⟨m, B, D.bl[m]⟩).toArray)) = blE B := by
      simp only [wtE, List.drop_succ_cons, List.drop_zero]
      exact List.take_left' (blE_len B)
    obtain ⟨g1, g2, g3, g4⟩ := hpd'.setBl (i := m) hm' B
    refine ⟨by simp [encWt.len], Bd_e (congrArg List.toArray e1) ⟨by simp [blE_len], hpd'.blk.ld rfl <| opL_in ⟨(hpd'.bl.row encBl).ix hm', OkC_in (okBl B) ⟨?_, g2, ⟨rfl, _, ⟨p', ?_, rfl⟩, hfr⟩, (hmd.trans ((Md_drew _).mono (by simp))).fr g4 hfr⟩⟩⟩⟩
    · intro hmem
      have : (adAt p'.a (m : Int) 64).block = n50 := by simpa using hmem
      exact hnp (this ▸ g1)
    · have : D.put m B = { D with pd := D.pd ++ [⟨m, B, D.bl[m]⟩], bl := D.bl.set m B } := by unfold Dk.put; rw [getB_eq hm']
      rw [this]
      exact g3
  · refine ⟨by simp [encWt.len], ?_⟩
    have hflat : (flat [(0, Value.agg (wtE ⟨m, B, D.bl[m]⟩).toArray)]).toArray.toList = wtE ⟨m, B, D.bl[m]⟩ := by simp [flat, cL, Value.cells]
    have hrow : ∀ (w' : World), Md [] w52 w' → n50 < w'.heap.size → DkAt w' n q D := fun w' hw _ => hq52.md hw (by simp)
    have hlt52 : n50 < w52.heap.size := hL52 n50 (by simp)
    have hpl : D.pd.length < 2 ^ 30 := by rw [sp]; exact hpd
    have frq : Fr w (fp n p) (fp n q) := by rw [hqF]; exact Fr.refl _ _
    have leaf : ∀ w', Md [] w52 w' → Nw (.cells (flat [(0, Value.agg (wtE ⟨m, B, D.bl[m]⟩).toArray)]).toArray 254) w' fun b w'' => RunW Try.prog [n50] (Builtin.append_ #[153, 153] 153 #[.slice q.pa D.pd.length q.pc, .slice (some { block := b, off := 0 }) 1 1])
        (fun v w'' => opL v fun a72 n73 n74 => ¬ n ∈ [n50] ∧ Wr w'' ((Addr.mk n 0 none).add 1) 1 ∧
          (([] : List Value) = [] ∧ ([] : List Value) = [] ∧ n50 < (setCells w'' ((Addr.mk n 0 none).add 1) 0 [.slice a72 n73 n74]).heap.size ∧ ∃ p', DkAt (setCells w'' ((Addr.mk n 0 none).add 1) 0 [.slice a72 n73 n74]) n p' { D with pd := D.pd ++ [⟨m, B, D.bl[m]⟩] } ∧ Fr w (fp n p) (fp n p') ∧ Md (fp n p) w (setCells w'' ((Addr.mk n 0 none).add 1) 0 [.slice a72 n73 n74]) ∧ n50 ∉ fp n p')) w'' := by
      intro w' hw
      have hq' := hq52.md hw (by simp)
      have hs' := hw.size
      refine app_one rowT153 encWt ⟨m, B, D.bl[m]⟩ hflat hq'.pd (Nat.zero_le _) (by simp; omega) (fun b hb A hA e => by
        simp at hb; subst hb
        exact hn50q A.block (by simp [fp, hA]) e) (by simp [maxLen]; omega) (by omega) ?_
      intro a' c' w'' ho hmd hA
      obtain ⟨g1, g2, g3, g4⟩ := hq'.appPd ho hmd hA hm'
      have hsz := (setCells_env [Value.slice a' (D.pd ++ [(⟨m, B, D.bl[m]⟩ : Wt)]).length c'] 0 w'' ((Addr.mk n 0 none).add 1)).2.2.2
      have h1 := hmd.size
      have h2 := mw21.size
      have h3 := m52.size
      refine opL_in ⟨by simpa using hn50q n (by simp [fp]), g1, rfl, rfl, by rw [hsz]; omega, _, g2, ?_, ?_, ?_⟩
      · exact frq.trans g4 (by omega)
      · exact ((mw21.trans (m52.mono (by simp))).trans (hw.mono (by simp))).fr g3 frq
      · intro hmem
        rcases g4 n50 hmem with h | h
        · exact hn50q n50 h rfl
        · omega
    refine ⟨(hq52.md (Md_drew w52) (by simp)).blk.ld rfl <| opL_in <| SzIs_in (by simp [encWt.len]) (leaf w52.drew (Md_drew w52)), SzIs_in (by simp [encWt.len]) fun b w' e1 e2 => ?_⟩
    have hl := leaf w52.drew (Md_drew w52) b w' e1 e2
    subst e1; subst e2
    exact (hq52.md ((Md_drew w52).trans (Md.alloc _ _)) (by simp)).blk.ld rfl <| opL_in hl
end Fk
set_option linter.unusedVariables false
set_option linter.unusedSimpArgs false
set_option maxRecDepth 100000
namespace Fk
open Go Go.Proofs Go.RowKit
def undo (x : Wt) (bl : List Bk) : List Bk := bl.set x.i x.was
def mixB (t : Nat) (a b : Bk) : Bk := ⟨a.1.take t ++ b.1.drop t, by simp [a.2.1, b.2.1]; omega, fun x hx => by
  rcases List.mem_append.1 hx with h | h
  · exact a.2.2 x (List.mem_of_mem_take h)
  · exact b.2.2 x (List.mem_of_mem_drop h)⟩
def Dk.crB (d : Dk) (k t m : Nat) : List Bk := match d.pd.drop m with
  | [] => d.bl
  | x :: r => if m = k then ((x :: r).foldr undo d.bl).set x.i (mixB t x.now x.was) else (x :: r).foldr undo d.bl
/-- A copy into a row of one's own. -/
theorem own_copy {w : World} {base : Nat} {e : TypeId} {size n c : Nat} {a : Option Addr} {xs : List Value} (h : w.ownsRow base e size (.slice a n c) n xs) (o dLen dCap : Nat) (vs : List Value) (ho : o + vs.length ≤ xs.length) (A : Addr) (ha : a = some A)
    (B : Addr) (sLen sCap : Nat) (hn : vs.length = Nat.min sLen dLen) (hsrc : ∀ j v, vs[j]? = some v → w.cell? (B.add j) = some v) (h1 : ∀ v ∈ vs, v.oneCell' = true) :
    ∃ w', (Builtin.copy_ #[51, 51] 3 #[.slice (some (A.add o)) dLen dCap, .slice (some B) sLen sCap]).run Try.prog w = .ok (goInt vs.length) w' ∧ w'.ownsRow base e size (.slice a n c) n (wrL xs o vs) ∧ Md [A.block] w w' := by
  obtain ⟨hxl, hh⟩ := h
  subst ha
  rcases hh with ⟨hv', hn'⟩ | ⟨g, cap, cur, hv', hb, hg, hnc, hcm, hcs, htk⟩
  · simp at hv'
  · simp only [Value.slice.injEq, Option.some.injEq] at hv'
    obtain ⟨rfl, _, rfl⟩ := hv'
    have hle : n * size ≤ cur.toList.length := by rw [Array.length_toList, hcs]; exact Nat.mul_le_mul_right _ hnc
    have hs5 : (Try.prog.info? 5).map (·.size) = some 1 := by kernel_rfl
    have hr := run_copy_row (P := Try.prog) w 51 51 3 5 g o dLen dCap B sLen sCap cur e vs (by kernel_rfl) hs5 hg hn hsrc (by simp at hle; omega) h1
    rw [ad0]
    refine ⟨_, hr, ?_, Md_setRow _⟩
    refine ⟨by rw [wrL_len ho]; exact hxl, .inr ⟨g, c, (wrL cur.toList o vs).toArray, rfl, hb, ?_, hnc, hcm, ?_, ?_⟩⟩
    · have := setRow_heap w g cur (cur.toList.take o ++ vs ++ cur.toList.drop (o + vs.length)).toArray e (0, 0) hg
      rw [this]
      unfold wrL
      simp
    · simp only [List.size_toArray]
      rw [wrL_len (by omega), Array.length_toList, hcs]
    · simp only
      rw [wrL_take (by omega) hle, htk]
end Fk
set_option linter.unusedVariables false
set_option linter.unusedSimpArgs false
set_option maxRecDepth 100000
namespace Fk
open Go Go.Proofs Go.RowKit
theorem and_mask {m : Nat} (h : m < 4294967296) : (BitVec.toNat (BitVec.ofInt 64 (m : Int) &&& BitVec.ofInt 64 4294967295) : Int) = (m : Int) := by
  have e1 : BitVec.ofInt 64 (m : Int) = BitVec.ofNat 64 m := BitVec.ofInt_natCast ..
  have e2 : BitVec.ofInt 64 4294967295 = BitVec.ofNat 64 4294967295 := rfl
  rw [e1, e2, BitVec.toNat_and, BitVec.toNat_ofNat, BitVec.toNat_ofNat, Nat.mod_eq_of_lt (by omega), Nat.mod_eq_of_lt (by omega)]
  have : m &&& 4294967295 = m % 2 ^ 32 := Nat.and_two_pow_sub_one_eq_mod m 32
  rw [this, Nat.mod_eq_of_lt (by omega)]
theorem f233_ok (m : Nat) (h : m < 4294967296) (w : World) : Ct Try.prog 233 #[.int .u64 1, .int .u64 m] w fun v w' => v = .tuple #[.int .u64 0, .int .u64 m] ∧ Md [] w w' := by
  apply f233_in
  have p32 : (2 : Int) ^ min 32 64 = 4294967296 := by decide
  have hm1 := and_mask (m := 1) (by omega)
  have hm0 := and_mask (m := 0) (by omega)
  have hmm := and_mask h
  have fd : ∀ k : Nat, k < 4294967296 → Int.fdiv (k : Int) 4294967296 = 0 := fun k hk => by rw [Int.fdiv_eq_ediv_of_nonneg _ (by omega)]; omega
  refine Bd_e (y := 1) (by rw [show (1 : Int) = ((1 : Nat) : Int) from rfl, hm1]; rfl) <| Bd_e (y := 0) (by rw [p32]; exact fd 1 (by omega)) <| Bd_e (y := (m : Int)) (by rw [hmm, IntKind.wrap_u64]; omega) <| Bd_e (y := 0) (by rw [p32]; exact fd m h) <|
    Bd_e (y := (m : Int)) (by rw [IntKind.wrap_u64]; omega) <| Bd_e (y := 0) (by rw [IntKind.wrap_u64]; omega) <| Bd_e (y := 0) (by rw [p32]; exact fd m h) <| Bd_e (y := 0) rfl <| Bd_e (y := 0) (by rw [show (0 : Int) = ((0 : Nat) : Int) from rfl, hm0]; rfl) <| Bd_e (y := 0) (by rw [p32]; exact fd 0 (by omega)) <| Bd_e (y := 0) rfl <| Bd_e (y := 0) rfl <| Bd_e (y := 0) rfl <| Bd_e (y := 0) rfl <| Bd_e (y := 0) (by rw [p32]; exact fd 0 (by omega)) <| Bd_e (y := 0) rfl <| Bd_e (y := (m : Int)) (by rw [IntKind.wrap_u64]; omega) ⟨rfl, Md.refl _ _⟩
theorem f223_ok (m : Nat) (h : m < 4294967296) (w : World) : Ct Try.prog 223 #[.int .u64 1, .int .u64 m] w fun v w' => v = .tuple #[.int .u64 0, .int .u64 m] ∧ Md [] w w' := by
  apply f223_in
  refine If_f ?_
  refine (f233_ok m h w).call (by simp) ?_
  rintro v w' rfl h'
  exact opTu_in <| opI_in <| opI_in <| SzIs_in rfl ⟨rfl, h'⟩
/-- A new row of whatever bytes. -/
theorem call224 {L : List Nat} {w : World} {m : Nat} (hm : m ≤ 2 ^ 30) (hL : ∀ b ∈ L, b < w.heap.size) {K : Option Addr → Nat → Nat → World → Prop}
    (k : ∀ (c : Nat) (xs : List Value) w', w'.ownsRow w.heap.size 5 1 (.slice (some ⟨w.heap.size, 0, none⟩) m c) m xs → m ≤ c → Md [] w w' → K (some ⟨w.heap.size, 0, none⟩) m c w') :
    CallW Try.prog L 224 #[.int .i64 m] (fun v w' => opL v fun a n c => K a n c w') w := by
  obtain ⟨cs, hrun, hle, hmax⟩ := Lib.run_makeNoZero (P := Try.prog) w #[3] 51 5 (by kernel_rfl) m (by omega)
  have hc := run_callFunc_extern (P := Try.prog) (f := 224) (fn := Try.f224) Try.func224 (by kernel_rfl) (by kernel_rfl) (e := Extern.BytealgMakeNoZero.makeNoZero #[3] #[51]) (by kernel_rfl) (by kernel_rfl) #[.int .i64 m] w
  rw [hrun] at hc
  have hmd : Md [] w (w.drew.drew.alloc (.cells cs 5)) := ((Md_drew w).trans (Md_drew _)).trans (Md.alloc _ _)
  refine ⟨.inr ⟨_, _, hc, Kept_md hmd hL, opL_in (k cs.size (cs.toList.take m) _ ?_ hle hmd)⟩⟩
  refine ⟨by rw [List.length_take, Array.length_toList]; omega, .inr ⟨w.heap.size, cs.size, cs, rfl, Nat.le_refl _, heap_alloc_new w.drew.drew _, hle, hmax (by simp [maxLen]; omega), by omega, by rw [Nat.mul_one]⟩⟩
theorem b1_map (l : List Nat) : l.flatMap b1 = l.map fun x => .int .u8 (x : Int) := by
  induction l with
  | nil => rfl
  | cons x l ih => rw [List.flatMap_cons, ih]; rfl
theorem slice_hm (w : World) (a : Option Addr) (n c m : Nat) (h : m ≤ c) : (Instr.sliceAt 51 (.slice a n c) none (some (.int .i64 (m : Int))) (some (.int .i64 (m : Int)))).run Try.prog w = .ok (.slice a m m) w := by
  have he : Try.prog.elem 51 = 5 := by kernel_rfl
  have ht' : Try.prog.underlying 51 = some (.slice (Try.prog.elem 51)) := by rw [he]; kernel_rfl
  rw [run_sliceAt_slice w 51 _ _ _ _ ht', run_slice_hm w 51 a n c ht' .i64 .i64 m m (by omega) (by omega) (by omega), he, size5]
  simp [Result.andThen, sliced]
  cases a <;> simp [addr_add0]
theorem own_cell {w : World} {base : Nat} {e : TypeId} {n c : Nat} {a : Option Addr} {xs : List Value} (h : w.ownsRow base e 1 (.slice a n c) n xs) {A : Addr} (ha : a = some A) : ∀ j v, xs[j]? = some v → w.cell? (A.add j) = some v := by
  intro j v hv
  subst ha
  rcases h.2 with ⟨hv', hn⟩ | ⟨g, cap, cur, hv', _⟩
  · simp at hv'
  · simp only [Value.slice.injEq, Option.some.injEq] at hv'
    rw [hv'.1]
    exact World.ownsRow.cells h (by rw [hv'.1]; rfl) j v hv
/-- One byte, many times. -/
theorem f193_ok (x : Nat) (hx : x < 256) (A : Option Addr) (c m : Nat) (hm : m ≤ 2 ^ 20) (w : World) (hr : RowAt w A 1 b1 [x]) :
    Ct Try.prog 193 #[.slice A 1 c, .int .i64 m] w fun v w' => (∃ a c C, v = .slice a m c ∧ m ≤ c ∧ OwnL w' w.heap.size 5 1 b1 a C (List.replicate m x)) ∧ Md [] w w' := by
  apply f193_in
  refine Bd_in fun b1' hb1 => If_in (fun h => ?_) fun h => ?_
  · have h0 : m = 0 := by rw [hb1] at h; simp at h; omega
    subst h0
    intro n2 w3 e2 e3
    subst e2; subst e3
    exact ⟨⟨_, _, _, rfl, Nat.le_refl _, OwnL.lit (P := Try.prog) encb1 w 5 [] #[] (Nat.le_refl _) (by simp [maxLen]) rfl⟩, Md.alloc w _⟩
  have h0 : 0 < m := by rw [hb1] at h; simp at h; omega
  clear hb1 h
  refine Jn_in (fun us vs w' => w' = w) ?_ ?_
  case refine_2 => exact Bd_f (by simp) <| If_f rfl
  rintro us vs w6 rfl
  refine Bd_e (y := 1) rfl <| Bd_e (y := 1) rfl <| Bd_e (y := (m : Int)) (by rw [IntKind.wrap_u64]; omega) ?_
  refine (f223_ok m (by omega) w6).call (by simp) ?_
  rintro v w11 rfl h11
  refine opTu_in <| opI_in <| opI_in <| SzIs_in rfl ?_
  refine Jn_in (fun us vs w' => w' = w11) ?_ ?_
  case refine_2 => exact Bd_f (by simp) <| Bd_f (by simp; omega) <| Bd_f rfl <| If_f rfl
  rintro us vs w17 rfl
  refine Bd_e (y := (m : Int)) (by rw [IntKind.wrap_i64]; omega) <| Bd_e (y := 1) rfl <| Bd_f rfl <| If_f ?_
  refine Jn_in (fun us vs w' => w' = w17 ∧ ∃ q : Nat, us = [.int .i64 q] ∧ 0 < q ∧ q < 2 ^ 30) ?_ ?_
  case refine_2 =>
    refine Bd_in fun b65 hb65 => If_in (fun h => ?_) fun h => ⟨rfl, m, rfl, h0, by omega⟩
    refine Bd_e (y := 1) rfl ⟨by omega, Bd_e (y := 8192) rfl <| Bd_e (y := 1) rfl <| Bd_e (y := 8192) rfl <| Bd_f rfl <| If_f ⟨rfl, 8192, rfl, by omega, by omega⟩⟩
  rintro us vs w25 ⟨rfl, q, rfl, hq0, hq1⟩
  refine opI_in <| call224 (by omega) (by simp) fun C xs w28 hown hC h28 => ?_
  have hxl : xs.length = m := by have := hown.1; omega
  refine RunW_in0 (slice_hm w28 _ _ _ _ hC) <| opL_in ?_
  obtain ⟨B, rfl, hc⟩ := hr 0 x rfl
  have hsrc : ∀ {w'}, Md [] w6 w' → ∀ j v, (b1 x)[j]? = some v → w'.cell? (B.add j) = some v := by
    intro w' hm j v hv
    have := hc j v hv
    rw [Nat.zero_mul, addr_add0] at this
    exact hm.cell0 this
  have g0 : w25.heap.size ≤ w28.heap.size := h28.size
  have hbk : ∀ {D w'}, w25.heap.size ≤ D → Md [D] w28 w' → Md [] w6 w' := fun hD hm => (h11.trans h28).old hm (by have := h11.size; simp; omega)
  obtain ⟨w38, r1, o1, m1⟩ := own_copy hown 0 m m (b1 x) (by simp [b1]; omega) _ rfl B 1 c (by show 1 = min 1 m; omega) (hsrc (h11.trans h28)) (encb1.one x)
  rw [addr_add0] at r1
  refine RunW_in r1 (fun b hb => by simp at hb) <| opI_in ?_
  refine LoopP_in (fun k us vs w' => ∃ (bp : Nat) (xs : List Value), us = [.int .i64 bp] ∧ 1 ≤ bp ∧ bp ≤ m ∧ k = m - bp ∧ xs.take bp = List.replicate bp (.int .u8 (x : Int)) ∧ w'.ownsRow w25.heap.size 5 1 (.slice (some ⟨w25.heap.size, 0, none⟩) m C) m xs ∧ Md [] w6 w') (m - 1)
    ⟨1, _, rfl, by omega, by omega, rfl, by simp [wrL, b1], o1, hbk (Nat.le_refl _) m1⟩ ?_
  rintro k us vs w43 ⟨bp, ys, rfl, hb1, hbm, rfl, hys, hy, hmd⟩
  have hyl : ys.length = m := by have := hy.1; omega
  refine opI_in <| Bd_in fun b45 hb45 => If_in (fun h => ?_) fun h => ?_
  · have hlt : bp < m := by rw [hb45] at h; simpa using h
    refine Bd_e (y := ((min bp q : Nat) : Int)) (by split <;> omega) ?_
    generalize hk : min bp q = k
    have hkb : k ≤ bp := by omega
    have hk0 : 0 < k := by omega
    refine ⟨fun _ => True, trivial, _, fun w' _ => ⟨slice_rest (e := 5) (by kernel_rfl) size5 w' _ _ _ bp (by omega)⟩, opL_in ⟨_, fun w' _ => ⟨slice_front (e := 5) (by kernel_rfl) (fun w => ⟨1, size5 w⟩) w' _ _ _ k (by omega)⟩, opL_in ?_⟩⟩
    rw [if_neg (by omega)]
    simp only [Option.map_some, Nat.mul_one]
    generalize hk2 : min k (m - bp) = k2
    have hk2b : k2 ≤ bp ∧ 0 < k2 ∧ bp + k2 ≤ m := by omega
    have hyd : w43.drew.ownsRow w25.heap.size 5 1 (.slice (some ⟨w25.heap.size, 0, none⟩) m C) m ys := ⟨hy.1, hy.2⟩
    have hyj : ∀ j, j < bp → ys[j]? = some (.int .u8 (x : Int)) := by
      intro j hj
      have := congrArg (fun l => l[j]?) hys
      simpa [List.getElem?_take, hj, List.getElem?_replicate] using this
    obtain ⟨w61, r2, o2, m2⟩ := own_copy hyd bp (m - bp) (m - bp) (List.replicate k2 (.int .u8 (x : Int))) (by rw [List.length_replicate, hyl]; omega) _ rfl ⟨w25.heap.size, 0, none⟩ k m (by rw [List.length_replicate, ← hk2])
      (fun j v hv => own_cell hyd rfl j v (by
        have hj : j < k2 := by have := (List.getElem?_eq_some_iff.1 hv).1; simpa using this
        rw [List.getElem?_replicate, if_pos hj] at hv
        rw [hyj j (by omega)]; exact hv)) (fun v hv => by rw [List.eq_of_mem_replicate hv]; rfl)
    rw [List.length_replicate] at r2
    have hs43 : w25.heap.size < w43.heap.size := (World.ownsRow.lt hy w25.heap.size rfl).2
    refine RunW_in r2 (fun b hb => by simp at hb) <| opI_in ⟨trivial, Bd_e (y := ((bp + k2 : Nat) : Int)) (by show IntKind.wrap .i64 ((bp : Int) + (k2 : Int)) = _; rw [IntKind.wrap_i64]; omega) ⟨m - (bp + k2), by omega, bp + k2, _, rfl, by omega, by omega, rfl, ?_, o2, ?_⟩⟩
    · have e : (ys.take bp).length = bp := by rw [List.length_take]; omega
      unfold wrL
      rw [List.take_append, e, List.take_of_length_le (by omega), hys, show bp + k2 - bp = k2 by omega, List.take_left' (by simp), List.replicate_append_replicate]
    · exact (hmd.trans (Md_drew _)).old m2 (by have := h11.size; simp; omega)
  · have hge : bp = m := by rw [hb45] at h; have : ¬ bp < m := by simpa using h
                            omega
    subst hge
    have e : ys = (List.replicate bp x).flatMap b1 := by
      rw [b1_map, List.map_replicate, ← hys, List.take_of_length_le (by omega)]
    refine ⟨⟨_, _, C, rfl, Nat.le_refl _, ?_⟩, hmd⟩
    have ho : OwnL w43 w25.heap.size 5 1 b1 (some ⟨w25.heap.size, 0, none⟩) C (List.replicate bp x) := by
      unfold OwnL
      rw [List.length_replicate, ← e]; exact hy
    exact ho.down h11.size
end Fk
set_option linter.unusedVariables false
set_option linter.unusedSimpArgs false
set_option maxRecDepth 100000
namespace Fk
open Go Go.Proofs Go.RowKit
/-- A disk that was made since w0, no more was turned. -/
structure DS (w0 w : World) (n : Nat) (d : Dk) (F : List Nat) : Prop where
  dk : Dsk w n d F
  md : Md [] w0 w
  lo : ∀ b ∈ F, w0.heap.size ≤ b
/-- Blocks that are there, and are none of the disk's. -/
def LF (L : List Nat) (w : World) (F : List Nat) : Prop := ∀ b ∈ L, b < w.heap.size ∧ b ∉ F
theorem LF.nil (w : World) (F : List Nat) : LF [] w F := fun b hb => by cases hb
theorem LF.fr {L F F' : List Nat} {w w' : World} (h : LF L w F) (hf : Fr w F F') (hs : w.heap.size ≤ w'.heap.size) : LF L w' F' := fun b hb => by
  obtain ⟨h1, h2⟩ := h b hb
  refine ⟨by omega, fun hm => ?_⟩
  rcases hf b hm with h3 | h3
  · exact h2 h3
  · omega
theorem LF.md {L F : List Nat} {w w' : World} (h : LF L w F) (hs : w.heap.size ≤ w'.heap.size) : LF L w' F := fun b hb => ⟨by have := (h b hb).1; omega, (h b hb).2⟩
theorem LF.swap {L F : List Nat} {w : World} (h : LF L w F) (hF : ∀ b ∈ F, b < w.heap.size) : LF F w L := fun b hb => ⟨hF b hb, fun hm => (h b hm).2 hb⟩
theorem Fr.sub {w : World} {F F' : List Nat} (h : ∀ b ∈ F', b ∈ F) : Fr w F F' := fun b hb => .inl (h b hb)
section
variable {w0 w : World} {n : Nat} {d : Dk} {F L : List Nat}
theorem DS.step {w' : World} {d' : Dk} {F' : List Nat} (S : DS w0 w n d F) (h : Dsk w' n d' F') (hm : Md F w w') (hf : Fr w F F') : DS w0 w' n d' F' :=
  ⟨h, S.md.old hm S.lo, fun b hb => by rcases hf b hb with h | h; exact S.lo b h; have := S.md.size; omega⟩
theorem DS.md0 {w' : World} (S : DS w0 w n d F) (hm : Md [] w w') : DS w0 w' n d F := ⟨S.dk.md0 hm, S.md.trans hm, S.lo⟩
theorem DS.drew (S : DS w0 w n d F) : DS w0 w.drew n d F := S.md0 (Md_drew w)
theorem DS.other {w' : World} {G : List Nat} (S : DS w0 w n d F) (hm : Md G w w') (hG : LF F w G) (hg : ∀ b ∈ G, w0.heap.size ≤ b) : DS w0 w' n d F :=
  ⟨S.dk.md hm fun b hb => (hG b hb).2, S.md.old hm hg, S.lo⟩
theorem in114 (S : DS w0 w n d F) (hL : LF L w F) (i : Int) {a : Option Addr} {c m : Nat} {b : List Nat} (hm : m = b.length) (hbb : ∀ x ∈ b, x < 256) (hbl : b.length < 2 ^ 40) (hpd : d.pd.length < 2 ^ 30) (hr : RowAt w a 1 b1 b) (hab : ∀ A, a = some A → A.block ∉ F) {K : Int → World → Prop}
    (k : ∀ F' w', DS w0 w' n (d.write i b).1 F' → Md F w w' → Fr w F F' → LF L w' F' → K (d.write i b).2 w') :
    CallW Try.prog L 114 #[.pointer (some ⟨n, 0, none⟩), .int .i64 i, .slice a m c] (fun v w' => opI .i64 v fun x => K x w') w := by
  subst hm
  refine (f114_ok n d F i a c b hbb hbl hpd w S.dk hr hab).callD (fun b hb => (hL b hb).1) (fun b hb => (hL b hb).2) ?_
  rintro v w' ⟨rfl, F', h1, h2⟩ h'
  exact opI_in (k F' w' (S.step h1 h' h2) h' h2 (hL.fr h2 h'.size))
theorem in103 (S : DS w0 w n d F) (hL : LF L w F) {K : Int → World → Prop} (k : ∀ F' w', DS w0 w' n d.flush.1 F' → Md F w w' → Fr w F F' → LF L w' F' → K d.flush.2 w') :
    CallW Try.prog L 103 #[.pointer (some ⟨n, 0, none⟩)] (fun v w' => opI .i64 v fun x => K x w') w := by
  refine (f103_ok n d F w S.dk).callD (fun b hb => (hL b hb).1) (fun b hb => (hL b hb).2) ?_
  rintro v w' ⟨rfl, F', h1, h2⟩ h'
  exact opI_in (k F' w' (S.step h1 h' (Fr.sub h2)) h' (Fr.sub h2) (hL.fr (Fr.sub h2) h'.size))
theorem in112 (S : DS w0 w n d F) (hL : ∀ b ∈ L, b < w.heap.size) {K : Int → World → Prop} (k : ∀ w', DS w0 w' n d F → Md [] w w' → K (d.bl.length : Int) w') :
    CallW Try.prog L 112 #[.pointer (some ⟨n, 0, none⟩)] (fun v w' => opI .i64 v fun x => K x w') w := by
  refine (f112_ok n d F w S.dk).call hL ?_
  rintro v w' rfl h'
  exact opI_in (k w' (S.md0 h') h')
theorem in109 (hm : Md [] w0 w) (x : Nat) (h1 : 1 ≤ x) (h2 : x ≤ 65536) (hL : ∀ b ∈ L, b < w.heap.size) {K : Option Addr → Int → World → Prop}
    (k : ∀ n F w', DS w0 w' n (newDk x) F → Md [] w w' → (∀ b ∈ F, w.heap.size ≤ b) → K (some ⟨n, 0, none⟩) 0 w') :
    CallW Try.prog L 109 #[.int .i64 x] (fun v w' => opTu v fun cs => opP (nthD (Array.toList cs) 0) fun a => opI .i64 (nthD (Array.toList cs) 1) fun e => SzIs (Array.size cs) 2 (K a e w')) w := by
  refine (f109_ok x w).call hL ?_
  rintro v w' h h'
  rcases h with ⟨_, _, n, F, rfl, hd, hF⟩ | ⟨hno, _⟩
  · rw [Int.toNat_natCast] at hd
    exact opTu_in <| opP_in <| opI_in <| SzIs_in rfl (k n F w' ⟨hd, hm.trans h', fun b hb => by have := hF b hb; have := hm.size; omega⟩ h' hF)
  · exact absurd ⟨by omega, by omega⟩ hno
end
structure Op20 where
  k : Nat
  n : Int
  m : Int
  c : Nat
  l : Nat
  u : Bool
def opBytes (c n : Nat) : List Nat := (List.range n).map fun i => (c + i) % 256
theorem opBytes_len (c n : Nat) : (opBytes c n).length = n := by simp [opBytes]
def Op20.bytes (o : Op20) : List Nat := opBytes o.c (if o.u = true then 64 else o.l)
structure Op20.ok (o : Op20) : Prop where
  n : o.n ≤ 9223372036854775807
  c : o.c < 256
  l : o.l < 256
theorem Op20.len {o : Op20} (h : o.ok) : o.bytes.length < 256 := by have := h.l; unfold Op20.bytes; rw [opBytes_len]; split <;> omega
def Op20.v (o : Op20) : Value := .agg #[.int .u8 o.k, .int .i64 o.n, .int .i64 o.m, .int .u8 o.c, .int .u8 o.l, .bool o.u]
end Fk
set_option linter.unusedVariables false
set_option linter.unusedSimpArgs false
set_option maxRecDepth 100000
set_option maxHeartbeats 2000000
namespace Fk
open Go Go.Proofs Go.RowKit
def be (n : Nat) : Nat → List Nat
  | 0 => []
  | k + 1 => (n / 256 ^ k % 256) :: be n k
def numF (n : Nat) (l : List Nat) : Nat := l.foldl (fun n c => n * 256 + c) n
def num (l : List Nat) : Nat := numF 0 l
def sumF (s : Nat) (l : List Nat) : Nat := l.foldl (fun s c => ((s ^^^ c) * 16777619) % 4294967296) s
def sumL (l : List Nat) : Nat := sumF 2166136261 l
theorem be_len (n : Nat) : ∀ k, (be n k).length = k
  | 0 => rfl
  | k + 1 => by simp [be, be_len n k]
theorem be_lt (n : Nat) : ∀ k, ∀ x ∈ be n k, x < 256
  | 0, x, h => by simp [be] at h
  | k + 1, x, h => by
    simp only [be, List.mem_cons] at h
    rcases h with rfl | h
    · exact Nat.mod_lt _ (by omega)
    · exact be_lt n k x h
theorem numF_be (n : Nat) : ∀ (k a : Nat), numF a (be n k) = a * 256 ^ k + n % 256 ^ k
  | 0, a => by simp [numF, be, Nat.mod_one]
  | k + 1, a => by
    have ih := numF_be n k (a * 256 + n / 256 ^ k % 256)
    unfold numF at ih ⊢
    simp only [be, List.foldl_cons]
    rw [ih]
    have h1 : n % 256 ^ (k + 1) = n % 256 ^ k + 256 ^ k * (n / 256 ^ k % 256) := by
      rw [Nat.pow_succ, Nat.mod_mul]
    rw [h1, Nat.pow_succ, Nat.add_mul]
    have h2 : a * 256 * 256 ^ k = a * (256 ^ k * 256) := by rw [Nat.mul_assoc, Nat.mul_comm 256]
    rw [h2, Nat.mul_comm (n / 256 ^ k % 256)]
    omega
theorem num_be (n k : Nat) (h : n < 256 ^ k) : num (be n k) = n := by
  unfold num
  rw [numF_be, Nat.zero_mul, Nat.zero_add, Nat.mod_eq_of_lt h]
theorem numF_lt : ∀ (l : List Nat) (a : Nat), (∀ x ∈ l, x < 256) → numF a l < (a + 1) * 256 ^ l.length
  | [], a, _ => by simp [numF]
  | x :: l, a, h => by
    have hx := h x (by simp)
    have ih := numF_lt l (a * 256 + x) fun y hy => h y (by simp [hy])
    have e : numF a (x :: l) = numF (a * 256 + x) l := rfl
    rw [e, List.length_cons, Nat.pow_succ]
    refine Nat.lt_of_lt_of_le ih ?_
    have : (a + 1) * (256 ^ l.length * 256) = ((a + 1) * 256) * 256 ^ l.length := by rw [Nat.mul_assoc, Nat.mul_comm 256]
    rw [this]
    exact Nat.mul_le_mul_right _ (by omega)
theorem num_lt (l : List Nat) (h : ∀ x ∈ l, x < 256) : num l < 256 ^ l.length := by
  have := numF_lt l 0 h
  unfold num
  simpa using this
theorem sumF_lt (l : List Nat) (s : Nat) (h : s < 4294967296) : sumF s l < 4294967296 := by
  induction l generalizing s with
  | nil => exact h
  | cons x l ih => exact ih _ (Nat.mod_lt _ (by omega))
theorem sumL_lt (l : List Nat) : sumL l < 4294967296 := sumF_lt l _ (by omega)
/-- A record's bytes. -/
def bodyB (r : List Nat) : List Nat := be r.length 3 ++ r
def frm (m : Nat) (r : List Nat) : List Nat := m :: (bodyB r ++ be (sumL (bodyB r)) 4)
theorem frm_len (m : Nat) (r : List Nat) : (frm m r).length = r.length + 8 := by simp [frm, bodyB, be_len]; omega
theorem frm_lt (m : Nat) (r : List Nat) (hm : m < 256) (hr : ∀ x ∈ r, x < 256) : ∀ x ∈ frm m r, x < 256 := by
  intro x hx
  simp only [frm, bodyB, List.mem_cons, List.mem_append] at hx
  rcases hx with rfl | (h | h) | h
  · exact hm
  · exact be_lt _ _ x h
  · exact hr x h
  · exact be_lt _ _ x h
/-- What bytes are, read on from here: records, and how many bytes they have; none: damage. -/
def jprs : Nat → List Nat → Option (List (List Nat) × Nat)
  | 0, _ => none
  | f + 1, l => match l with
    | [] => some ([], 0)
    | m :: t => if m = 0 then some ([], 0) else if m ≠ 1 ∨ l.length < 4 then none else
        if num (t.take 3) < 1 ∨ num (t.take 3) > 1048576 ∨ l.length < num (t.take 3) + 8 then none else
        if num ((t.drop (3 + num (t.take 3))).take 4) ≠ sumL (t.take (3 + num (t.take 3))) then none else
        (jprs f (l.drop (num (t.take 3) + 8))).map fun p => ((t.drop 3).take (num (t.take 3)) :: p.1, num (t.take 3) + 8 + p.2)
def parseL (l : List Nat) : Option (List (List Nat) × Nat) := jprs (l.length + 1) l
theorem jprs_more : ∀ (f : Nat) (l : List Nat), l.length < f → ∀ g, f ≤ g → jprs f l = jprs g l
  | 0, l, h, _, _ => by omega
  | f + 1, l, h, 0, hg => by omega
  | f + 1, l, h, g + 1, hg => by
    cases l with
    | nil => rfl
    | cons m t =>
      unfold jprs
      simp only
      split
      · rfl
      · split
        · rfl
        · split
          · rfl
          · split
            · rfl
            · rw [jprs_more f _ (by simp at h ⊢; omega) g (by omega)]
theorem parse_zero (l : List Nat) : parseL (0 :: l) = some ([], 0) := by unfold parseL jprs; simp
theorem parse_frm (r rest : List Nat) (h1 : 1 ≤ r.length) (h2 : r.length ≤ 1048576) : parseL (frm 1 r ++ rest) = (parseL rest).map fun p => (r :: p.1, r.length + 8 + p.2) := by
  have hl := frm_len 1 r
  have e : frm 1 r ++ rest = 1 :: (be r.length 3 ++ (r ++ (be (sumL (bodyB r)) 4 ++ rest))) := by simp [frm, bodyB, List.append_assoc]
  have t3 : (be r.length 3 ++ (r ++ (be (sumL (bodyB r)) 4 ++ rest))).take 3 = be r.length 3 := by rw [List.take_left' (be_len _ _)]
  have n3 : num (be r.length 3) = r.length := num_be _ _ (by omega)
  have d3 : (be r.length 3 ++ (r ++ (be (sumL (bodyB r)) 4 ++ rest))).drop 3 = r ++ (be (sumL (bodyB r)) 4 ++ rest) := by rw [List.drop_left' (be_len _ _)]
  have db : (be r.length 3 ++ (r ++ (be (sumL (bodyB r)) 4 ++ rest))).drop (3 + r.length) = be (sumL (bodyB r)) 4 ++ rest := by
    rw [← List.drop_drop, d3, List.drop_left]
  have tb : (be r.length 3 ++ (r ++ (be (sumL (bodyB r)) 4 ++ rest))).take (3 + r.length) = bodyB r := by
    rw [← List.append_assoc, List.take_left' (by simp [be_len])]; rfl
  have n4 : num (be (sumL (bodyB r)) 4) = sumL (bodyB r) := num_be _ _ (sumL_lt _)
  have hlen : (frm 1 r ++ rest).length = r.length + 8 + rest.length := by rw [List.length_append, hl]
  have hdrop : (frm 1 r ++ rest).drop (r.length + 8) = rest := by rw [List.drop_left' hl]
  have key : ∀ f, jprs (f + 1) (frm 1 r ++ rest) = (jprs f rest).map fun p => (r :: p.1, r.length + 8 + p.2) := by
    intro f
    conv => lhs; rw [e]; unfold jprs
    simp only [t3, n3, d3, db, tb]
    rw [← e, hlen, hdrop, List.take_left' (be_len _ _), n4, if_neg (by omega), if_neg (by omega), if_neg (by omega), if_neg (by simp), List.take_left]
  unfold parseL
  rw [key, hlen]
  rw [← jprs_more (rest.length + 1) rest (by omega) _ (by omega)]
def rawR (rs : List (List Nat)) : List Nat := rs.flatMap (frm 1)
theorem parse_raw (rest : List Nat) : ∀ (rs : List (List Nat)), (∀ r ∈ rs, 1 ≤ r.length ∧ r.length ≤ 1048576) → parseL (rawR rs ++ rest) = (parseL rest).map fun p => (rs ++ p.1, (rawR rs).length + p.2)
  | [], _ => by cases h : parseL rest <;> simp [rawR, h]
  | r :: rs, h => by
    have hr := h r (by simp)
    have ih := parse_raw rest rs fun x hx => h x (by simp [hx])
    have e : rawR (r :: rs) ++ rest = frm 1 r ++ (rawR rs ++ rest) := by simp [rawR, List.append_assoc]
    rw [e, parse_frm _ _ hr.1 hr.2, ih]
    cases h : parseL rest <;> simp [rawR, frm_len]
    omega
end Fk
set_option linter.unusedVariables false
set_option linter.unusedSimpArgs false
set_option maxRecDepth 100000
namespace Fk
open Go Go.Proofs Go.RowKit
structure Ns where
  k : Int
  s1 : Int
  s2 : Int
  s3 : Int
  s4 : Int
  a : Int
  b : Int
  t : Int
  deriving DecidableEq
def nsE (x : Ns) : List Value := [.int .u8 x.k, .int .u64 x.s1, .int .u64 x.s2, .int .u64 x.s3, .int .u64 x.s4, .int .i64 x.a, .int .i64 x.b, .int .i64 x.t]
abbrev Ns.v (x : Ns) : Value := .agg #[.int .u8 x.k, .int .u64 x.s1, .int .u64 x.s2, .int .u64 x.s3, .int .u64 x.s4, .int .i64 x.a, .int .i64 x.b, .int .i64 x.t]
end Fk
set_option linter.unusedVariables false
set_option linter.unusedSimpArgs false
set_option maxRecDepth 100000
namespace Fk
open Go Go.Proofs Go.RowKit
theorem Blk.new (w : World) (cs : Array Value) (ty : TypeId) : Blk (w.alloc (.cells cs ty)) w.heap.size ty cs.toList := by
  show (w.heap.push (.cells cs ty (0, 0)))[w.heap.size]? = _
  rw [Array.getElem?_push_size]
def Ns.zs (x : Ns) : Prop := x.s1 = 0 ∧ x.s2 = 0 ∧ x.s3 = 0 ∧ x.s4 = 0
instance (x : Ns) : Decidable x.zs := by unfold Ns.zs; infer_instance
def okNs (m : Int) (x : Ns) : Prop := (x.k = 0 ∧ x.zs ∧ x.a = 0 ∧ x.b = 0 ∧ 0 ≤ x.t ∧ x.t < 200) ∨ (x.k = 1 ∧ ¬ x.zs ∧ 0 ≤ x.a ∧ x.a < m ∧ x.b = 0 ∧ x.t = 0) ∨ (x.k = 2 ∧ x.zs ∧ 0 ≤ x.a ∧ x.a < m ∧ 0 ≤ x.b ∧ x.b < m ∧ x.t = 0)
instance (m : Int) (x : Ns) : Decidable (okNs m x) := by unfold okNs; infer_instance
end Fk
set_option linter.unusedVariables false
set_option linter.unusedSimpArgs false
set_option maxRecDepth 100000
namespace Fk
open Go Go.Proofs Go.RowKit
/-- A maker: its states, and how many there may be. -/
structure MkAt (w : World) (n : Nat) (l : List Ns) (most : Nat) (a : Option Addr) (c : Nat) : Prop where
  blk : Blk w n 214 [.slice a l.length c, .int .i64 most]
  own : OwnL w 0 103 8 nsE a c l
  ne : ∀ A, a = some A → A.block ≠ n
def fpM (n : Nat) (a : Option Addr) : List Nat := n :: (a.map (·.block)).toList
def Mkr (w : World) (n : Nat) (l : List Ns) (most : Nat) (F : List Nat) : Prop := ∃ a c, MkAt w n l most a c ∧ F = fpM n a
def FrN (w : World) (F F' : List Nat) : Prop := ∀ b ∈ F', b ∈ F ∨ w.heap.size ≤ b
theorem FrN.refl (w : World) (F : List Nat) : FrN w F F := fun _ h => .inl h
theorem FrN.trans {w w' : World} {F F' F'' : List Nat} (h : FrN w F F') (h2 : FrN w' F' F'') (hs : w.heap.size ≤ w'.heap.size) : FrN w F F'' := fun b hb => by
  rcases h2 b hb with h1 | h1
  · exact h b h1
  · right; omega
theorem mem_fpM {n : Nat} {a : Option Addr} {b : Nat} : b ∈ fpM n a ↔ b = n ∨ ∃ A, a = some A ∧ A.block = b := by
  unfold fpM
  cases a <;> simp [eq_comm]
theorem Mkr.md {w w' : World} {n : Nat} {l : List Ns} {most : Nat} {F D : List Nat} (h : Mkr w n l most F) (hm : Md D w w') (hD : ∀ b ∈ F, b ∉ D) : Mkr w' n l most F := by
  obtain ⟨a, c, h, rfl⟩ := h
  exact ⟨a, c, ⟨h.blk.md hm (hD n (by rw [mem_fpM]; exact .inl rfl)), h.own.mdD hm (fun A hA => hD _ (by rw [mem_fpM]; exact .inr ⟨A, hA, rfl⟩)), h.ne⟩, rfl⟩
theorem Mkr.md0 {w w' : World} {n : Nat} {l : List Ns} {most : Nat} {F : List Nat} (h : Mkr w n l most F) (hm : Md [] w w') : Mkr w' n l most F := h.md hm (by simp)
theorem Mkr.lt {w : World} {n : Nat} {l : List Ns} {most : Nat} {F : List Nat} (h : Mkr w n l most F) : ∀ b ∈ F, b < w.heap.size := by
  obtain ⟨a, c, h, rfl⟩ := h
  intro b hb
  rw [mem_fpM] at hb
  rcases hb with rfl | ⟨A, hA, rfl⟩
  · exact h.blk.lt
  · exact (h.own.lt hA).2
end Fk
set_option linter.unusedVariables false
set_option linter.unusedSimpArgs false
set_option maxRecDepth 100000
namespace Fk
open Go Go.Proofs Go.RowKit
def Fo.drop : Fo → Nat → Fo
  | f, 0 => f
  | .nil, _ + 1 => .nil
  | .cons _ _ _ _ _ _ r, n + 1 => r.drop n
theorem RepF.drop {w : World} {A : Option Addr} : ∀ (f : Fo) (i j : Nat), RepF w A i f → RepF w A (i + j) (f.drop j)
  | f, i, 0, h => by simpa [Fo.drop] using h
  | .nil, i, j + 1, h => trivial
  | .cons _ _ _ _ _ _ r, i, j + 1, h => by
    obtain ⟨B, sa, sc, _, _, _, _, hr⟩ := h.at
    have := RepF.drop r (i + 1) j hr
    rw [show i + (j + 1) = i + 1 + j by omega]
    exact this
/-- What a call of toward, or of state, brings. -/
structure Tws (w0 w : World) (n : Nat) (l : List Ns) (most : Nat) (F : List Nat) : Prop where
  mr : Mkr w n l most F
  md : Md [] w0 w
  lo : ∀ b ∈ F, w0.heap.size ≤ b
  len : l.length ≤ most + 1
theorem Tws.step {w0 w w' : World} {n : Nat} {l l' : List Ns} {most : Nat} {F F' : List Nat} (S : Tws w0 w n l most F) (h : Mkr w' n l' most F') (hm : Md F w w') (hf : FrN w F F') (hl : l'.length ≤ most + 1) : Tws w0 w' n l' most F' :=
  ⟨h, S.md.old hm S.lo, fun b hb => by rcases hf b hb with h | h; exact S.lo b h; have := S.md.size; omega, hl⟩
theorem Tws.md0 {w0 w w' : World} {n : Nat} {l : List Ns} {most : Nat} {F : List Nat} (S : Tws w0 w n l most F) (hm : Md [] w w') : Tws w0 w' n l most F := ⟨S.mr.md0 hm, S.md.trans hm, S.lo, S.len⟩
/-- Blocks that are there, and are none of the maker's. -/
def LN (L : List Nat) (w : World) (F : List Nat) : Prop := ∀ b ∈ L, b < w.heap.size ∧ b ∉ F
theorem LN.fr {L F F' : List Nat} {w w' : World} (h : LN L w F) (hf : FrN w F F') (hs : w.heap.size ≤ w'.heap.size) : LN L w' F' := fun b hb => by
  obtain ⟨h1, h2⟩ := h b hb
  refine ⟨by omega, fun hm => ?_⟩
  rcases hf b hm with h3 | h3
  · exact h2 h3
  · omega
end Fk
set_option linter.unusedVariables false
set_option linter.unusedSimpArgs false
set_option maxRecDepth 100000
set_option maxHeartbeats 2000000
namespace Fk
open Go Go.Proofs Go.RowKit
theorem NN_in {A : Addr} {k : Addr → Prop} (h : k A) : NN (some A) k := h
end Fk
set_option linter.unusedVariables false
set_option linter.unusedSimpArgs false
set_option maxRecDepth 100000
set_option maxHeartbeats 2000000
namespace Fk
open Go Go.Proofs Go.RowKit
theorem OwnL.up {α : Type} {w : World} {base b : Nat} {e : TypeId} {size : Nat} {enc : α → List Value} {a : Option Addr} {c : Nat} {l : List α} (h : OwnL w base e size enc a c l) (hb : ∀ A, a = some A → b ≤ A.block) : OwnL w b e size enc a c l := by
  refine ⟨h.1, ?_⟩
  rcases h.2 with hn | ⟨g, cap, cur, hv, hb', rest⟩
  · exact .inl hn
  · refine .inr ⟨g, cap, cur, hv, ?_, rest⟩
    simp only [Value.slice.injEq] at hv
    exact hb _ hv.1
end Fk
set_option linter.unusedVariables false
set_option linter.unusedSimpArgs false
set_option maxRecDepth 100000
set_option maxHeartbeats 2000000
namespace Fk
open Go Go.Proofs Go.RowKit
theorem Nw_i {o : Obj} {w : World} {K : Nat → World → Prop} (k : K w.heap.size (w.alloc o)) : Nw o w K := fun _ _ e1 e2 => by subst e1; subst e2; exact k
end Fk
set_option linter.unusedVariables false
set_option linter.unusedSimpArgs false
namespace Fk
open Go Go.Proofs Go.RowKit
def Ns.q (x : Ns) : Q4 := (x.s1, x.s2, x.s3, x.s4)
def On (N : List Bool) (i : Nat) : Prop := N[i]? = some true
instance (N : List Bool) (i : Nat) : Decidable (On N i) := by unfold On; infer_instance
/-- What some states come to without a byte. -/
inductive Rch (l : List Ns) (S : Nat → Prop) : Nat → Prop
  | base {i : Nat} : S i → Rch l S i
  | a {i : Nat} {x : Ns} : Rch l S i → l[i]? = some x → x.k = 2 → Rch l S x.a.toNat
  | b {i : Nat} {x : Ns} : Rch l S i → l[i]? = some x → x.k = 2 → Rch l S x.b.toNat
theorem Rch.sub {l : List Ns} {S T : Nat → Prop} (h : ∀ i, S i → Rch l T i) {i : Nat} (hi : Rch l S i) : Rch l T i := by
  induction hi with
  | base hs => exact h _ hs
  | a _ h1 h2 ih => exact .a ih h1 h2
  | b _ h1 h2 ih => exact .b ih h1 h2
theorem Rch.mono {l : List Ns} {S T : Nat → Prop} (h : ∀ i, S i → T i) {i : Nat} (hi : Rch l S i) : Rch l T i := hi.sub fun i hs => .base (h i hs)
theorem On.lt {N : List Bool} {i : Nat} (h : On N i) : i < N.length := by
  unfold On at h
  exact (List.getElem?_eq_some_iff.1 h).1
/-- These are the states that some come to. -/
def IsSt (l : List Ns) (S : Nat → Prop) (N : List Bool) : Prop := N.length = l.length ∧ ∀ i, On N i ↔ Rch l S i
theorem IsSt.congr {l : List Ns} {S T : Nat → Prop} {N : List Bool} (h : IsSt l S N) (hi : ∀ i, S i ↔ T i) : IsSt l T N :=
  ⟨h.1, fun i => (h.2 i).trans ⟨Rch.mono fun i => (hi i).1, Rch.mono fun i => (hi i).2⟩⟩
end Fk
set_option linter.unusedVariables false
set_option linter.unusedSimpArgs false
set_option maxRecDepth 100000
set_option maxHeartbeats 1000000
namespace Fk
open Go Go.Proofs Go.RowKit
def bE (b : Bool) : List Value := [.bool b]
theorem encbE : Enc 1 bE := ⟨fun _ => rfl, by intro x v hv; simp [bE] at hv; subst hv; rfl⟩
theorem mem_blk {a : Option Addr} {d : Nat} (h : d ∈ (a.map (·.block)).toList) : ∃ A, a = some A ∧ A.block = d := by
  cases a with
  | none => simp at h
  | some A => simp at h; exact ⟨A, rfl, h.symm⟩
/-- A stand in memory: the machine, where it stands, and where it is to come to. -/
structure StAt (w0 w : World) (n : Nat) (st : Int) (pa : Option Addr) (pc : Nat) (l : List Ns) (an ax : Option Addr) (cn cx : Nat) (now next : List Bool) : Prop where
  blk : Blk w n 231 [.int .i64 st, .slice pa l.length pc, .slice an now.length cn, .slice ax next.length cx]
  row : RowAt w0 pa 8 nsE l
  md : Md [] w0 w
  nlo : w0.heap.size ≤ n
  onow : OwnL w w0.heap.size 4 1 bE an cn now
  onext : OwnL w w0.heap.size 4 1 bE ax cx next
  d1 : ∀ A, an = some A → A.block ≠ n
  d2 : ∀ A, ax = some A → A.block ≠ n
  d3 : Apt an ax
section
variable {w0 w w' : World} {n : Nat} {st : Int} {pa : Option Addr} {pc : Nat} {l : List Ns} {an ax : Option Addr} {cn cx : Nat} {now next : List Bool}
theorem StAt.md0 (S : StAt w0 w n st pa pc l an ax cn cx now next) (hm : Md [] w w') : StAt w0 w' n st pa pc l an ax cn cx now next :=
  ⟨S.blk.md hm (by simp), S.row, S.md.trans hm, S.nlo, S.onow.md hm, S.onext.md hm, S.d1, S.d2, S.d3⟩
theorem StAt.mdN {D : List Nat} (S : StAt w0 w n st pa pc l an ax cn cx now next) (hm : Md D w w') (hD : ∀ d ∈ D, w.heap.size ≤ d) : StAt w0 w' n st pa pc l an ax cn cx now next := S.md0 (hm.fresh hD)
theorem StAt.put (S : StAt w0 w n st pa pc l an ax cn cx now next) {i : Nat} (hi : i < next.length) (x : Bool) :
    ∃ A, ax = some A ∧ A.block < w.heap.size ∧ w0.heap.size ≤ A.block ∧ (adAt ax (i : Int) 1).block = A.block ∧ Wr w (adAt ax (i : Int) 1) 1 ∧ StAt w0 (setCells w (adAt ax (i : Int) 1) 0 [.bool x]) n st pa pc l an ax cn cx now (next.set i x) ∧
      Md [A.block] w (setCells w (adAt ax (i : Int) 1) 0 [.bool x]) := by
  obtain ⟨A, hA, h1, h2, h3, h4, h5, h6⟩ := S.onext.put encbE (by omega) hi x
  refine ⟨A, hA, h1, h2, h3, h4, ⟨?_, S.row, S.md.old h6 (by simpa using h2), S.nlo, S.onow.mdD h6 fun B hB => by simpa using S.d3 B A hB hA, h5, S.d1, S.d2, S.d3⟩, h6⟩
  have := S.blk.md h6 (by simpa using (S.d2 A hA).symm)
  rw [List.length_set]; exact this
end
end Fk
set_option linter.unusedVariables false
set_option linter.unusedSimpArgs false
set_option maxRecDepth 100000
set_option maxHeartbeats 2000000
namespace Fk
open Go Go.Proofs Go.RowKit
theorem xor32 (s c : Nat) (hs : s < 4294967296) (hc : c < 4294967296) : IntKind.wrap .u32 ((BitVec.toNat (BitVec.ofInt 32 (s : Int) ^^^ BitVec.ofInt 32 (c : Int)) : Nat) : Int) = ((s ^^^ c : Nat) : Int) := by
  have h : s ^^^ c < 2 ^ 32 := Nat.xor_lt_two_pow hs hc
  have e : BitVec.toNat (BitVec.ofInt 32 (s : Int) ^^^ BitVec.ofInt 32 (c : Int)) = s ^^^ c := by
    rw [BitVec.toNat_xor, BitVec.ofInt_natCast, BitVec.ofInt_natCast, BitVec.toNat_ofNat, BitVec.toNat_ofNat, Nat.mod_eq_of_lt (by omega), Nat.mod_eq_of_lt (by omega)]
  rw [e, IntKind.wrap_u32]
  generalize s ^^^ c = m at *
  omega
theorem f138_ok (l : List Nat) (hl : ∀ x ∈ l, x < 256) (hn : l.length < 2 ^ 40) (a : Option Addr) (c : Nat) (w : World) (hr : RowAt w a 1 b1 l) : Ct Try.prog 138 #[.slice a l.length c] w fun v w' => v = .int .u32 (sumL l) ∧ Md [] w w' := by
  apply f138_in
  refine Bd_e rfl ?_
  refine LoopP_in (fun mm us vs w' => ∃ (i s : Nat), us = [.int .u32 s, .int .i64 i] ∧ mm = l.length - i ∧ i ≤ l.length ∧ s < 4294967296 ∧ sumF s (l.drop i) = sumL l ∧ w' = w) l.length
    ⟨0, 2166136261, rfl, rfl, by omega, by omega, rfl, rfl⟩ ?_
  rintro mm us vs w5 ⟨i, s, rfl, hmm, hi, hs, he, rfl⟩
  refine opI_in <| opI_in <| Bd_in fun b8 hb8 => If_in (fun hb => ?_) fun hb => ?_
  · have hil : i < l.length := by rw [hb8] at hb; have : (i : Int) < (l.length : Int) := of_decide_eq_true hb
                                  omega
    have hx := hl _ (List.getElem_mem hil)
    rw [List.drop_eq_getElem_cons hil] at he
    refine ⟨hr.ix hil, hr.ld1 hil rfl <| opI_in <| Bd_e (y := ((l[i] : Nat) : Int)) (by rw [IntKind.wrap_u32]; omega) <| Bd_e (xor32 s l[i] hs (by omega)) <| Bd_e (y := (((s ^^^ l[i]) * 16777619 % 4294967296 : Nat) : Int)) ?_ <| Bd_e (inc_i64 (by omega)) ⟨l.length - (i + 1), by omega, i + 1, _, rfl, rfl, by omega, Nat.mod_lt _ (by omega), he, rfl⟩⟩
    rw [IntKind.wrap_u32]
    generalize s ^^^ l[i] = m
    omega
  · have hil : i = l.length := by
      have : ¬ (i : Int) < (l.length : Int) := by rw [hb8] at hb; exact of_decide_eq_false hb
      omega
    subst hil
    rw [List.drop_of_length_le (Nat.le_refl _)] at he
    rw [← he]
    exact ⟨rfl, Md.refl _ _⟩
theorem or64 (n c : Nat) (hn : n < 2 ^ 40) (hc : c < 256) : IntKind.wrap .i64 ((BitVec.toNat (BitVec.ofInt 64 ((n * 256 : Nat) : Int) ||| BitVec.ofInt 64 (c : Int)) : Nat) : Int) = ((n * 256 + c : Nat) : Int) := by
  have h1 : n * 256 ||| c = n * 256 + c := by
    have := Nat.shiftLeft_add_eq_or_of_lt (b := c) (i := 8) (by simpa using hc) n
    rw [Nat.shiftLeft_eq] at this
    exact this.symm
  have e : BitVec.toNat (BitVec.ofInt 64 ((n * 256 : Nat) : Int) ||| BitVec.ofInt 64 (c : Int)) = n * 256 + c := by
    rw [BitVec.toNat_or, BitVec.ofInt_natCast, BitVec.ofInt_natCast, BitVec.toNat_ofNat, BitVec.toNat_ofNat, Nat.mod_eq_of_lt (by omega), Nat.mod_eq_of_lt (by omega), h1]
  rw [e, IntKind.wrap_i64]
  omega
theorem f226_ok (l : List Nat) (hl : ∀ x ∈ l, x < 256) (hn : l.length ≤ 4) (a : Option Addr) (c : Nat) (w : World) (hr : RowAt w a 1 b1 l) : Ct Try.prog 226 #[.slice a l.length c] w fun v w' => v = .int .i64 (num l) ∧ Md [] w w' := by
  apply f226_in
  refine Bd_e rfl ?_
  refine LoopP_in (fun mm us vs w' => ∃ (i s : Nat), us = [.int .i64 s, .int .i64 i] ∧ mm = l.length - i ∧ i ≤ l.length ∧ s < 256 ^ i ∧ numF s (l.drop i) = num l ∧ w' = w) l.length
    ⟨0, 0, rfl, rfl, by omega, by omega, rfl, rfl⟩ ?_
  rintro mm us vs w5 ⟨i, s, rfl, hmm, hi, hs, he, rfl⟩
  refine opI_in <| opI_in <| Bd_in fun b8 hb8 => If_in (fun hb => ?_) fun hb => ?_
  · have hil : i < l.length := by rw [hb8] at hb; have : (i : Int) < (l.length : Int) := of_decide_eq_true hb
                                  omega
    have hx := hl _ (List.getElem_mem hil)
    have hs2 : s < 2 ^ 24 := by
      have : 256 ^ i ≤ 256 ^ 3 := Nat.pow_le_pow_right (by omega) (by omega)
      omega
    rw [List.drop_eq_getElem_cons hil] at he
    refine ⟨hr.ix hil, hr.ld1 hil rfl <| opI_in <| Bd_e (y := ((s * 256 : Nat) : Int)) (by rw [show min 8 64 = 8 from rfl, IntKind.wrap_i64]; omega) <| Bd_e (y := ((l[i] : Nat) : Int)) (by rw [IntKind.wrap_i64]; omega) <| Bd_e (or64 s l[i] (by omega) hx) <| Bd_e (inc_i64 (by omega)) ⟨l.length - (i + 1), by omega, i + 1, _, rfl, rfl, by omega, ?_, he, rfl⟩⟩
    rw [Nat.pow_succ]
    have : (s + 1) * 256 ≤ 256 ^ i * 256 := Nat.mul_le_mul_right _ hs
    omega
  · have hil : i = l.length := by
      have : ¬ (i : Int) < (l.length : Int) := by rw [hb8] at hb; exact of_decide_eq_false hb
      omega
    subst hil
    rw [List.drop_of_length_le (Nat.le_refl _)] at he
    rw [← he]
    exact ⟨rfl, Md.refl _ _⟩
structure Bx (w0 w : World) (n : Nat) (a : Option Addr) (c : Nat) (out : List Nat) : Prop where
  blk : Blk w n 51 [.slice a out.length c]
  own : OwnL w w0.heap.size 5 1 b1 a c out
  md : Md [] w0 w
  lo : w0.heap.size ≤ n
  ne : ∀ A, a = some A → A.block ≠ n
theorem Bx.md0 {w0 w w' : World} {n : Nat} {a : Option Addr} {c : Nat} {out : List Nat} (h : Bx w0 w n a c out) (hm : Md [] w w') : Bx w0 w' n a c out :=
  ⟨h.blk.md hm (by simp), h.own.md hm, h.md.trans hm, h.lo, h.ne⟩
theorem Bx.set {w0 w w' : World} {n : Nat} {a a' : Option Addr} {c c' : Nat} {out o2 : List Nat} (h : Bx w0 w n a c out) (o : OwnL w' w0.heap.size 5 1 b1 a' c' (out ++ o2)) (hm : Md (a.map (·.block)).toList w w') (hA : ∀ A, a' = some A → a = some A ∨ w.heap.size ≤ A.block) :
    Wr w' ⟨n, 0, none⟩ 1 ∧ Bx w0 (setCells w' ⟨n, 0, none⟩ 0 [.slice a' (out ++ o2).length c']) n a' c' (out ++ o2) := by
  have hn : n ∉ (a.map (·.block)).toList := fun hd => by obtain ⟨A, hA, e⟩ := mem_blk hd; exact h.ne A hA e
  have b' := h.blk.md hm hn
  have hlt := h.blk.lt
  have ne' : ∀ A, a' = some A → A.block ≠ n := fun A hA' e => by
    rcases hA A hA' with h1 | h1
    · exact h.ne A h1 e
    · omega
  have m := Md_setCells (w := w') n 0 [.slice a' (out ++ o2).length c']
  have md' : Md [] w0 w' := h.md.old hm (fun d hd => by obtain ⟨A, hA, rfl⟩ := mem_blk hd; exact (h.own.lt hA).1)
  refine ⟨b'.wr (by simp), ?_, o.mdD m (fun A hA => by simp; exact ne' A hA), md'.old m (by simp; exact h.lo), h.lo, ne'⟩
  exact b'.set (j := 0) (by simp) _
theorem f225_ok {w0 w : World} {n : Nat} {a : Option Addr} {c : Nat} {out : List Nat} (h : Bx w0 w n a c out) (hl : out.length < 2 ^ 30) (x : Nat) (hx : x < 4294967296) (k : Nat) (hk : k ≤ 4) :
    Ct Try.prog 225 #[.int .u32 (x : Int), .int .i64 (k : Int), .pointer (some ⟨n, 0, none⟩)] w fun v w' => v = .tuple #[] ∧ ∃ a' c', Bx w0 w' n a' c' (out ++ be x k) := by
  apply f225_in
  refine Bd_e (y := (k : Int) - 1) (by rw [IntKind.wrap_i64]; omega) ?_
  refine LoopP_in (fun mm us vs w' => ∃ (j : Nat) (a' : Option Addr) (c' : Nat) (o : List Nat), us = [.int .i64 ((j : Int) - 1)] ∧ mm = j ∧ j ≤ k ∧ Bx w0 w' n a' c' o ∧ o ++ be x j = out ++ be x k) k
    ⟨k, a, c, out, rfl, rfl, by omega, h, rfl⟩ ?_
  rintro mm us vs w5 ⟨j, a', c', o, rfl, hmj, hj, S, he⟩
  refine opI_in <| Bd_in fun b7 hb7 => If_in (fun hb => ?_) fun hb => ?_
  · have hj1 : (j : Int) - 1 ≥ 0 := by rw [hb7] at hb; exact of_decide_eq_true hb
    obtain ⟨i, rfl⟩ : ∃ i, j = i + 1 := ⟨j - 1, by omega⟩
    have ei : (((i + 1 : Nat) : Int) - 1) = (i : Int) := by omega
    rw [ei]
    have hol : o.length + (i + 1) = out.length + k := by have := congrArg List.length he; simpa [be_len] using this
    have hp : (2 : Int) ^ (8 * i) = ((256 ^ i : Nat) : Int) := by
      rw [Int.natCast_pow, Int.pow_mul]; rfl
    have hby : IntKind.wrap .u8 (Int.fdiv (x : Int) (2 ^ min (Int.toNat ((8 * i : Nat) : Int)) 32)) = ((x / 256 ^ i % 256 : Nat) : Int) := by
      rw [Int.toNat_natCast, Nat.min_eq_left (by omega), hp, Int.fdiv_eq_ediv_of_nonneg _ (Int.natCast_nonneg _), IntKind.wrap_u8, ← Int.natCast_ediv]
      generalize x / 256 ^ i = m
      omega
    have hbe : o ++ [x / 256 ^ i % 256] ++ be x i = out ++ be x k := by rw [← he]; simp [be]
    have Sd := S.md0 (Md_drew w5)
    have dec : IntKind.wrap .i64 ((i : Int) - 1) = (i : Int) - 1 := by rw [IntKind.wrap_i64]; omega
    refine Bd_e (y := ((8 * i : Nat) : Int)) (by rw [IntKind.wrap_i64]; omega) ⟨by omega, Bd_e rfl <| Bd_e hby ⟨?_, ?_⟩⟩
    · refine Ld_in (Sd.blk.cell rfl) <| opL_in ?_
      refine app_one rowT51 encb1 _ rfl Sd.own Sd.md.size (by simp) (by simp) (by simp [maxLen]; omega) (by omega) fun a2 c2 w18 o18 m18 hA => opL_in ?_
      obtain ⟨q1, q2⟩ := Sd.set o18 m18 hA
      exact ⟨by simp, q1, Bd_e dec ⟨i, by omega, i, a2, c2, _, rfl, rfl, by omega, q2, hbe⟩⟩
    · refine Nw_i <| Ld_in ((Sd.md0 (Md.alloc _ _)).blk.cell rfl) <| opL_in ?_
      have S2 := Sd.md0 (Md.alloc (M := []) w5.drew (.cells #[.int .u8 ((x / 256 ^ i % 256 : Nat) : Int)] 5))
      have ol := OwnL.lit (P := Try.prog) (base := w5.drew.heap.size) encb1 w5.drew 5 [x / 256 ^ i % 256] #[.int .u8 ((x / 256 ^ i % 256 : Nat) : Int)] (Nat.le_refl _) (by simp [maxLen]) rfl
      refine app_own rowT51 encb1 S2.own ol S2.md.size (by simp) (by simp) (by simp [maxLen]; omega) (by simp; omega) fun a2 c2 w18 o18 m18 hA => opL_in ?_
      obtain ⟨q1, q2⟩ := S2.set o18 m18 hA
      exact ⟨by simp, q1, Bd_e dec ⟨i, by omega, i, a2, c2, _, rfl, rfl, by omega, q2, hbe⟩⟩
  · have hj0 : j = 0 := by
      have : ¬ (j : Int) - 1 ≥ 0 := by rw [hb7] at hb; exact of_decide_eq_false hb
      omega
    subst hj0
    simp only [be, List.append_nil] at he
    rw [← he]
    exact ⟨rfl, a', c', S⟩
theorem call225 {w0 w : World} {n : Nat} {a : Option Addr} {c : Nat} {out : List Nat} (h : Bx w0 w n a c out) (hl : out.length < 2 ^ 30) (x : Nat) (hx : x < 4294967296) (k : Nat) (hk : k ≤ 4) {K : World → Prop} (kk : ∀ a' c' w', Bx w0 w' n a' c' (out ++ be x k) → K w') :
    CallW Try.prog [] 225 #[.int .u32 (x : Int), .int .i64 (k : Int), .pointer (some ⟨n, 0, none⟩)] (fun v w' => opTu v fun cs => SzIs cs.size 0 (K w')) w := by
  have := f225_ok h hl x hx k hk
  refine ⟨.inl ⟨this.1, this.2.mono fun e w' he => ?_⟩⟩
  cases e <;> first | exact he.elim | skip
  obtain ⟨rfl, a', c', S⟩ := he
  exact ⟨(fun b hb => by cases hb), opTu_in <| SzIs_in rfl (kk a' c' w' S)⟩
theorem size5b (w : World) : (Go.sizeOf 5).run Try.prog w = .ok 1 w := by
  have h : (Try.prog.info? 5).map (·.size) = some 1 := by kernel_rfl
  cases hi : Try.prog.info? 5 with
  | none => rw [hi] at h; cases h
  | some i => rw [hi] at h; simp [Go.sizeOf, typeInfo, hi]; simpa using h
theorem rest_b1 {w : World} {a : Option Addr} {l : List Nat} {c m : Nat} (h : RowAt w a 1 b1 l) (hc : l.length ≤ c) (hm : m ≤ l.length) : RowAt w (if c = m then a else a.map (·.add (m * 1))) 1 b1 (l.drop m) := by
  by_cases e : c = m
  · rw [List.drop_of_length_le (by omega)]
    intro i x hx
    simp at hx
  · rw [if_neg e]; exact h.drop m
theorem jenc1_get {α : Type} {enc : α → List Value} (he : Enc 1 enc) : ∀ {l : List α} {j : Nat} {u : Value}, (l.flatMap enc)[j]? = some u → ∃ x, l[j]? = some x ∧ (enc x)[0]? = some u
  | [], j, u, h => by simp at h
  | x :: l, j, u, h => by
    have hl := he.len x
    rw [List.flatMap_cons] at h
    cases j with
    | zero =>
      rw [List.getElem?_append_left (by omega)] at h
      exact ⟨x, rfl, h⟩
    | succ j =>
      rw [List.getElem?_append_right (by omega), hl, Nat.add_sub_cancel] at h
      obtain ⟨y, hy, hu⟩ := jenc1_get he (l := l) h
      exact ⟨y, by simpa using hy, hu⟩
/-- Behind a row come the elements of another one, from wherever they are read. -/
theorem japp_row {α : Type} {t e : TypeId} {bytes : Nat} {enc : α → List Value} (T : RowT Try.prog t e 1 bytes) (he : Enc 1 enc) {w : World} {base : Nat} {a a2 : Option Addr} {c c2 m2 : Nat} {l l2 : List α} {L : List Nat} (hm2 : m2 = l2.length)
    (h : OwnL w base e 1 enc a c l) (h2 : RowAt w a2 1 enc l2) (h2n : a2.isSome = true) (hb : base ≤ w.heap.size) (hL : ∀ b ∈ L, b < w.heap.size) (hLa : ∀ b ∈ L, ∀ A, a = some A → A.block ≠ b)
    (hn : l.length + l2.length ≤ maxLen) (hby : (l.length + l2.length) * bytes ≤ 140737488355328) {K : Value → World → Prop}
    (k : ∀ (a' : Option Addr) (c' : Nat) (w' : World), OwnL w' base e 1 enc a' c' (l ++ l2) → Md (a.map (·.block)).toList w w' → (∀ A, a' = some A → a = some A ∨ w.heap.size ≤ A.block) → K (.slice a' (l ++ l2).length c') w') :
    RunW Try.prog L (Builtin.append_ #[t, t] t #[.slice a l.length c, .slice a2 m2 c2]) K w := by
  subst hm2
  obtain ⟨A2, rfl⟩ := Option.isSome_iff_exists.1 h2n
  obtain ⟨a', c', w', hr, ho, hm, hA⟩ := run_app (ty := t) T h A2 l2.length c2 (l2.flatMap enc) (he.lenL l2) (fun j u hu => by
    obtain ⟨x, hx, hu0⟩ := jenc1_get he hu
    obtain ⟨B, hB, hc⟩ := h2 j x hx
    injection hB with hB
    subst hB
    have := hc 0 _ hu0
    rw [add_add] at this
    simpa using this) (he.oneL l2) hn hby hb
  refine RunW_in hr (fun b hbL => hm.blk b (hL b hbL) fun hmem => ?_) ?_
  · cases a with
    | none => simp at hmem
    | some A => simp at hmem; exact hLa b hbL A rfl hmem.symm
  · have := k a' c' w' (by unfold OwnL; rw [List.flatMap_append, List.length_append]; exact ho) hm hA
    rwa [List.length_append] at this
theorem f199_ok (r : List Nat) (hr : ∀ x ∈ r, x < 256) (hl : r.length ≤ 1048576) (m : Nat) (hm : m < 256) (A : Option Addr) (C : Nat) (w : World) (ho : RowAt w A 1 b1 r) (hA : A.isSome = true) :
    Ct Try.prog 199 #[.slice A r.length C, .int .u8 m] w fun v w' => (∃ (a : Option Addr) (c : Nat), v = .slice a (frm m r).length c ∧ OwnL w' w.heap.size 5 1 b1 a c (frm m r)) ∧ Md [] w w' := by
  apply f199_in
  refine Nw_i ?_
  have ma : Md [] w (w.alloc (.cells #[.slice none 0 0] 51)) := Md.alloc w _
  have S0 : Bx w (w.alloc (.cells #[.slice none 0 0] 51)) w.heap.size none 0 [] := ⟨Blk.new w _ 51, OwnL.nil _ _ _ _ _, ma, Nat.le_refl _, fun A hA => by cases hA⟩
  refine Bd_e (y := (m : Int)) (by rw [IntKind.wrap_u32]; omega) <| call225 S0 (by simp) m (by omega) 1 (by omega) fun a1 c1 w5 S1 => ?_
  have e1 : [] ++ be m 1 = [m] := by simp [be]; omega
  rw [e1] at S1
  refine Bd_e rfl <| Bd_e (y := (r.length : Int)) (by rw [IntKind.wrap_u32]; omega) <| call225 S1 (by simp) r.length (by omega) 3 (by omega) fun a2 c2 w10 S2 => ?_
  have l2 : ([m] ++ be r.length 3).length = 4 := by simp [be_len]
  refine Ld_in (S2.blk.cell rfl) <| opL_in ?_
  refine japp_row rowT51 encb1 rfl S2.own (ho.md S2.md) hA S2.md.size (by simp) (by simp) (by rw [l2]; simp [maxLen]; omega) (by rw [l2]; omega) fun a3 c3 w17 o17 m17 hA => opL_in ?_
  obtain ⟨q1, S3⟩ := S2.set o17 m17 hA
  refine ⟨by simp, q1, Ld_in (S3.blk.cell rfl) <| opL_in ?_⟩
  have eb : [m] ++ be r.length 3 ++ r = m :: bodyB r := by simp [bodyB]
  rw [eb] at S3 ⊢
  have hc3 := S3.own.cap
  have hbl : (bodyB r).length = r.length + 3 := by simp [bodyB, be_len]; omega
  have hbb : ∀ x ∈ bodyB r, x < 256 := fun x hx => by
    rcases List.mem_append.1 hx with h | h
    · exact be_lt _ _ x h
    · exact hr x h
  refine RunW_in0 (slice_rest (m := 1) (e := 5) (by kernel_rfl) size5b _ _ _ _ (by simp)) <| opL_in ?_
  have hrest := rest_b1 (m := 1) (S3.own.row encb1) hc3 (by simp)
  have edl : (m :: bodyB r).length - 1 = (bodyB r).length := by simp
  rw [edl]
  refine (f138_ok (bodyB r) hbb (by omega) _ _ _ (by simpa using hrest)).call (by simp) ?_
  rintro v w31 rfl m31
  have S31 := S3.md0 m31
  refine opI_in <| call225 S31 (by simp [hbl]; omega) (sumL (bodyB r)) (sumL_lt _) 4 (by omega) fun a4 c4 w34 S4 => Ld_in (S4.blk.cell rfl) <| opL_in ⟨⟨a4, c4, rfl, S4.own⟩, S4.md⟩
end Fk
set_option linter.unusedVariables false
set_option linter.unusedSimpArgs false
set_option maxRecDepth 100000
namespace Fk
open Go Go.Proofs Go.RowKit
theorem LF.new {F : List Nat} {w w' : World} {n : Nat} (hF : ∀ b ∈ F, b < w.heap.size) (hn : w.heap.size ≤ n) (hlt : n < w'.heap.size) : LF [n] w' F := fun b hb => by
  simp at hb; subst hb
  exact ⟨hlt, fun hm => by have := hF _ hm; omega⟩
theorem LF.cons {F L : List Nat} {w : World} {n : Nat} (h1 : LF [n] w F) (h2 : LF L w F) : LF (n :: L) w F := fun b hb => by
  rcases List.mem_cons.1 hb with rfl | hb
  · exact h1 _ (by simp)
  · exact h2 b hb
theorem write_len (d : Dk) (i : Int) (b : List Nat) : (d.write i b).1.bl.length = d.bl.length ∧ (d.write i b).1.pd.length ≤ d.pd.length + 1 := by
  obtain ⟨h1, h2⟩ := stepD_bl d
  unfold Dk.write
  split
  · exact ⟨rfl, by simp⟩
  · split
    · simp [Dk.put, h1, h2]
    · simp [h1, h2]
theorem flush_len (d : Dk) : d.flush.1.bl = d.bl ∧ d.flush.1.pd.length ≤ d.pd.length := by
  obtain ⟨h1, h2⟩ := stepD_bl d
  unfold Dk.flush
  split
  · simp [h1]
  · simp [h1, h2]
/-- A row stands apart from a disk. -/
def Sep (a : Option Addr) (w : World) (F : List Nat) : Prop := ∀ A, a = some A → A.block < w.heap.size ∧ A.block ∉ F
theorem Sep.fr {a : Option Addr} {F F' : List Nat} {w w' : World} (h : Sep a w F) (hf : Fr w F F') (hs : w.heap.size ≤ w'.heap.size) : Sep a w' F' := fun A hA => by
  obtain ⟨h1, h2⟩ := h A hA
  refine ⟨by omega, fun hm => ?_⟩
  rcases hf _ hm with h3 | h3
  · exact h2 h3
  · omega
theorem Sep.md {a : Option Addr} {F : List Nat} {w w' : World} (h : Sep a w F) (hs : w.heap.size ≤ w'.heap.size) : Sep a w' F := h.fr (Fr.refl _ _) hs
theorem made5 (m : Nat) (w : World) (hm : m < 2 ^ 20) : ∃ w', (Instr.makeSlice 51 (.int .i64 (m : Int)) (.int .i64 (m : Int))).run Try.prog w = .ok (.slice (some ⟨w.heap.size, 0, none⟩) m m) w' ∧ OwnL w' w.heap.size 5 1 b1 (some ⟨w.heap.size, 0, none⟩) m (List.replicate m 0) ∧ Md [] w w' := by
  have h5 : (Try.prog.info? 5).isSome = true := by kernel_rfl
  obtain ⟨i5, hi5⟩ := Option.isSome_iff_exists.1 h5
  have hz5 : (Try.prog.info? 5).bind (·.zero) = some (.int .u8 0) := by kernel_rfl
  have hs5 : (Try.prog.info? 5).map (fun i => (i.size, i.bytes)) = some (1, 1) := by kernel_rfl
  rw [hi5] at hz5 hs5
  simp only [Option.bind_some, Option.map_some, Option.some.injEq, Prod.mk.injEq] at hz5 hs5
  obtain ⟨w3, hrun, hown, hgr⟩ := run_makeSlice_full (P := Try.prog) w w.heap.size 51 5 i5 (.int .u8 0) 1 (by kernel_rfl) hi5 hz5 hs5.1 .i64 .i64 m (by omega) (by rw [hs5.2]; omega) (by simp [maxLen]; omega) (Nat.le_refl _)
  refine ⟨w3, hrun, ?_, Md_of_grown hgr⟩
  have hmc : (madeCells (Value.int .u8 0).cells (m * 1)).toList = (List.replicate m 0).flatMap b1 := by
    rw [b1_map, List.map_replicate, Nat.mul_one]
    exact toList_madeCells_one _ m
  unfold OwnL
  rw [← hmc, List.length_replicate]; exact hown
end Fk
set_option linter.unusedVariables false
set_option linter.unusedSimpArgs false
set_option maxRecDepth 100000
set_option maxHeartbeats 2000000
namespace Fk
open Go Go.Proofs Go.RowKit
structure Lg where
  area : Nat
  pos : Nat
  ov : Bool
def Lg.c (n : Nat) (g : Lg) : List Value := [.pointer (some ⟨n, 0, none⟩), .int .i64 g.area, .int .i64 g.pos, .bool g.ov]
structure JS (w0 w : World) (n : Nat) (d : Dk) (F : List Nat) (ln : Nat) (g : Lg) : Prop where
  ds : DS w0 w n d F
  blk : Blk w ln 260 (g.c n)
  out : ln ∉ F
  lo : w0.heap.size ≤ ln
def half (d : Dk) : Nat := (d.bl.length - 1) / 2
def jsz (d : Dk) : Nat := half d * 64
def jbk (d : Dk) (area k : Nat) : Nat := 1 + area * half d + k
section
variable {w0 w : World} {n : Nat} {d : Dk} {F : List Nat} {ln : Nat} {g : Lg}
theorem JS.lf1 (S : JS w0 w n d F ln g) : LF [ln] w F := fun b hb => by
  simp only [List.mem_singleton] at hb; subst hb; exact ⟨S.blk.lt, S.out⟩
theorem JS.md0 {w' : World} (S : JS w0 w n d F ln g) (hm : Md [] w w') : JS w0 w' n d F ln g := ⟨S.ds.md0 hm, S.blk.md hm (by simp), S.out, S.lo⟩
theorem JS.step {w' : World} {d' : Dk} {F' : List Nat} (S : JS w0 w n d F ln g) (h : DS w0 w' n d' F') (hm : Md F w w') (hf : Fr w F F') : JS w0 w' n d' F' ln g :=
  ⟨h, S.blk.md hm S.out, (S.lf1.fr hf hm.size ln (by simp)).2, S.lo⟩
theorem JS.other {w' : World} {G : List Nat} (S : JS w0 w n d F ln g) (hm : Md G w w') (hG : LF (ln :: F) w G) (hg : ∀ b ∈ G, w0.heap.size ≤ b) : JS w0 w' n d F ln g :=
  ⟨S.ds.other hm (fun b hb => hG b (by simp [hb])) hg, S.blk.md hm (hG ln (by simp)).2, S.out, S.lo⟩
theorem JS.set (S : JS w0 w n d F ln g) {j : Nat} {v : Value} {g' : Lg} (hj : j < 4) (e : (g.c n).set j v = g'.c n) :
    JS w0 (setCells w ((Addr.mk ln 0 none).add j) 0 [v]) n d F ln g' ∧ Md [ln] w (setCells w ((Addr.mk ln 0 none).add j) 0 [v]) ∧ Wr w ((Addr.mk ln 0 none).add j) 1 := by
  rw [ad0]
  have hm := Md_setCells (w := w) ln j [v]
  refine ⟨⟨S.ds.other hm (S.lf1.swap S.ds.dk.lt) (by simp; exact S.lo), ?_, S.out, S.lo⟩, hm, S.blk.wr (by simp [Lg.c]; omega)⟩
  rw [← e]
  exact S.blk.set (by simp [Lg.c]; omega) v
theorem JS.len (S : JS w0 w n d F ln g) : d.bl.length ≤ 65536 := by obtain ⟨p, hp, _⟩ := S.ds.dk; exact hp.len
theorem half_le (h : d.bl.length ≤ 65536) : half d ≤ 32767 := by unfold half; omega
theorem f205_ok (S : JS w0 w n d F ln g) (h1 : 1 ≤ d.bl.length) : Ct Try.prog 205 #[.pointer (some ⟨ln, 0, none⟩)] w fun v w' => v = .int .i64 (half d) ∧ Md [] w w' := by
  have hl := S.len
  apply f205_in
  refine NN_in <| S.blk.ld (j := 0) rfl <| opP_in <| in112 S.ds (L := []) (by simp) fun w5 S5 m5 => Bd_e (y := ((d.bl.length - 1 : Nat) : Int)) (by rw [IntKind.wrap_i64]; omega) <| Bd_e (y := (half d : Int)) ?_ ⟨rfl, m5⟩
  rw [Int.tdiv_eq_ediv_of_nonneg (by omega), IntKind.wrap_i64]; unfold half; omega
theorem f197_ok (S : JS w0 w n d F ln g) (h1 : 1 ≤ d.bl.length) : Ct Try.prog 197 #[.pointer (some ⟨ln, 0, none⟩)] w fun v w' => v = .int .i64 (jsz d) ∧ Md [] w w' := by
  have hl := half_le S.len
  apply f197_in
  refine (f205_ok S h1).call (by simp) ?_
  rintro v w2 rfl m2
  exact opI_in <| Bd_e (y := (jsz d : Int)) (by rw [IntKind.wrap_i64]; unfold jsz; omega) ⟨rfl, m2⟩
theorem f202_ok (S : JS w0 w n d F ln g) (h1 : 1 ≤ d.bl.length) (a k : Nat) (ha : a ≤ 1) (hk : k ≤ 65536) : Ct Try.prog 202 #[.pointer (some ⟨ln, 0, none⟩), .int .i64 a, .int .i64 k] w fun v w' => v = .int .i64 (jbk d a k) ∧ Md [] w w' := by
  have hl := half_le S.len
  apply f202_in
  refine (f205_ok S h1).call (by simp) ?_
  rintro v w2 rfl m2
  have h3 : a * half d ≤ 1 * half d := Nat.mul_le_mul_right _ ha
  refine opI_in <| Bd_e (y := ((a * half d : Nat) : Int)) (by rw [IntKind.wrap_i64, ← Int.natCast_mul]; generalize a * half d = m at *; omega) <| Bd_e (y := ((1 + a * half d : Nat) : Int)) ?_ <| Bd_e (y := (jbk d a k : Int)) ?_ ⟨rfl, m2⟩
  all_goals
    rw [IntKind.wrap_i64]
    try unfold jbk
    generalize a * half d = m at *
    omega
theorem in205 {L : List Nat} (S : JS w0 w n d F ln g) (h1 : 1 ≤ d.bl.length) (hL : ∀ b ∈ L, b < w.heap.size) {K : Int → World → Prop} (k : ∀ w', JS w0 w' n d F ln g → Md [] w w' → K (half d : Int) w') :
    CallW Try.prog L 205 #[.pointer (some ⟨ln, 0, none⟩)] (fun v w' => opI .i64 v fun x => K x w') w := by
  refine (f205_ok S h1).call hL ?_
  rintro v w' rfl h'
  exact opI_in (k w' (S.md0 h') h')
theorem in197 {L : List Nat} (S : JS w0 w n d F ln g) (h1 : 1 ≤ d.bl.length) (hL : ∀ b ∈ L, b < w.heap.size) {K : Int → World → Prop} (k : ∀ w', JS w0 w' n d F ln g → Md [] w w' → K (jsz d : Int) w') :
    CallW Try.prog L 197 #[.pointer (some ⟨ln, 0, none⟩)] (fun v w' => opI .i64 v fun x => K x w') w := by
  refine (f197_ok S h1).call hL ?_
  rintro v w' rfl h'
  exact opI_in (k w' (S.md0 h') h')
theorem in202 {L : List Nat} (S : JS w0 w n d F ln g) (h1 : 1 ≤ d.bl.length) {a k : Nat} (ha : a ≤ 1) (hk : k ≤ 65536) (hL : ∀ b ∈ L, b < w.heap.size) {K : Int → World → Prop} (kk : ∀ w', JS w0 w' n d F ln g → Md [] w w' → K (jbk d a k : Int) w') :
    CallW Try.prog L 202 #[.pointer (some ⟨ln, 0, none⟩), .int .i64 a, .int .i64 k] (fun v w' => opI .i64 v fun x => K x w') w := by
  refine (f202_ok S h1 a k ha hk).call hL ?_
  rintro v w' rfl h'
  exact opI_in (kk w' (S.md0 h') h')
theorem in119 {L : List Nat} (S : DS w0 w n d F) (hL : ∀ b ∈ L, b < w.heap.size) {i : Nat} (hi : i < d.bl.length) {K : Option Addr → Nat → Nat → Int → World → Prop}
    (k : ∀ a w', DS w0 w' n d F → Md [] w w' → OwnL w' w.heap.size 252 1 b1 a 64 (getB d.bl i).1 → K a 64 64 0 w') :
    CallW Try.prog L 119 #[.pointer (some ⟨n, 0, none⟩), .int .i64 i] (fun v w' => opTu v fun cs => opL (nthD (Array.toList cs) 0) fun a m c => opI .i64 (nthD (Array.toList cs) 1) fun e => SzIs (Array.size cs) 2 (K a m c e w')) w := by
  refine (f119_ok n d F i w S.dk).call hL ?_
  rintro v w' h h'
  rcases h with ⟨_, h1, a, rfl, ho⟩ | ⟨hno, _⟩
  · rw [getB_eq hi] at k
    exact opTu_in <| opL_in <| opI_in <| SzIs_in rfl (k a w' (S.md0 h') h' ho)
  · exact absurd ⟨by omega, by omega⟩ hno
def oneD (d : Dk) (i : Nat) (b : List Nat) : Dk × Bool := if (d.write i b).2 = 0 then ((d.write i b).1.flush.1, (d.write i b).1.flush.2 == 0) else ((d.write i b).1, false)
theorem f201_ok (S : JS w0 w n d F ln g) (hpd : d.pd.length < 2 ^ 30) (i : Nat) (hi : i < d.bl.length) (p : Nat) (hp : p < 64) (c : Nat) (hc : c < 256) :
    Ct Try.prog 201 #[.pointer (some ⟨ln, 0, none⟩), .int .i64 i, .int .i64 p, .int .u8 c] w fun v w' =>
      (v = .bool (oneD d i ((getB d.bl i).1.set p c)).2 ∧ ∃ F', JS w0 w' n (oneD d i ((getB d.bl i).1.set p c)).1 F' ln g ∧ Fr w F F') ∧ Md F w w' := by
  apply f201_in
  refine NN_in <| S.blk.ld (j := 0) rfl <| opP_in <| in119 S.ds (L := []) (by simp) hi fun a w5 S5 m5 o5 => ?_
  have hlen : (getB d.bl i).1.length = 64 := (getB d.bl i).2.1
  have hx5 : IxOk (p : Int) 64 a := by have := (o5.row encb1).ix (i := p) (by omega); rwa [hlen] at this
  obtain ⟨A, rfl, h1, h2, h3, h4, o6, m6⟩ := o5.put encb1 (by omega) (i := p) (by omega) c
  have hfr : ∀ b ∈ [A.block], w.heap.size ≤ b := by simpa using h2
  have S5' := S.md0 m5
  have m56 := m5.old m6 hfr
  have S6 := S.md0 m56
  refine ⟨hx5, by simp, h4, NN_in <| S6.blk.ld (j := 0) rfl <| opP_in ?_⟩
  have hbb : ∀ x ∈ (getB d.bl i).1.set p c, x < 256 := fun x hx => by
    rcases List.mem_or_eq_of_mem_set hx with h | h
    · exact (getB d.bl i).2.2 x h
    · omega
  have hl6 : ((getB d.bl i).1.set p c).length = 64 := by simp [hlen]
  have hAF : A.block ∉ F := fun h => by have := S.ds.dk.lt _ h; omega
  refine in114 (L := []) S6.ds (LF.nil _ _) i (b := (getB d.bl i).1.set p c) (by rw [hl6]) hbb (by rw [hl6]; omega) hpd (o6.row encb1) (fun B hB => by cases hB; exact hAF) fun F' w15 S15 m15 f15 _ => ?_
  have m15' : Md F w w15 := (m56.mono (by simp)).trans m15
  have f15' : Fr w F F' := fun b hb => (f15 b hb).imp id (Nat.le_trans m56.size)
  have J15 := S6.step S15 m15 f15
  refine Bd_in fun b17 hb17 => ⟨fun _ => rfl, Bd_e rfl ?_⟩
  by_cases hw : (d.write i ((getB d.bl i).1.set p c)).2 = 0
  · have e17 : b17 = true := by rw [hb17, hw]; rfl
    subst e17
    refine Gd_t <| J15.blk.ld (j := 0) rfl <| opP_in <| Gd_t <| in103 (L := []) S15 (LF.nil _ _) fun F2 w27 S27 m27 f27 _ => Bd_e rfl <| Bd_e rfl ⟨⟨?_, F2, ?_, fun b hb => ?_⟩, ?_⟩
    · unfold oneD; rw [if_pos hw]; rfl
    · unfold oneD; rw [if_pos hw]; exact J15.step S27 m27 f27
    · rcases f27 b hb with h | h
      · exact f15' b h
      · exact .inr (Nat.le_trans m15'.size h)
    · exact m15'.fr m27 f15'
  · have e17 : b17 = false := by rw [hb17]; exact beq_eq_false_iff_ne.2 hw
    subst e17
    refine Gd_f <| Gd_f <| Bd_e rfl <| Bd_e rfl ⟨⟨?_, F', ?_, f15'⟩, m15'⟩
    · unfold oneD; rw [if_neg hw]; rfl
    · unfold oneD; rw [if_neg hw]; exact J15
end
end Fk
set_option linter.unusedVariables false
set_option linter.unusedSimpArgs false
set_option maxRecDepth 100000
set_option maxHeartbeats 2000000
namespace Fk
open Go Go.Proofs Go.RowKit
def areaL (d : Dk) (a : Nat) : List Nat := bytesB ((d.bl.drop (1 + a * half d)).take (half d))
def padZ (s : List Nat) : List Nat := s ++ List.replicate ((64 - s.length % 64) % 64) 0
def zEnd (d : Dk) (a : Nat) (b : List Nat) : List Nat := if a + b.length < jsz d then b ++ [0] else b
def layS (d : Dk) (area p : Nat) (b : List Nat) : List Nat := padZ ((areaL d area).take p ++ zEnd d p b)
def chunk (s : List Nat) (k : Nat) : List Nat := (s.drop (k * 64)).take 64
def layL (area : Nat) (s : List Nat) : Nat → Nat → Dk → Dk × Bool
  | 0, _, d => (d.flush.1, d.flush.2 == 0)
  | m + 1, k, d => if (d.write (jbk d area k) (chunk s k)).2 = 0 then layL area s m (k + 1) (d.write (jbk d area k) (chunk s k)).1 else ((d.write (jbk d area k) (chunk s k)).1, false)
def layD (d : Dk) (area p : Nat) (b : List Nat) : Dk × Bool := layL area (layS d area p b) ((layS d area p b).length / 64 - p / 64) (p / 64) d
theorem bytesB_drop : ∀ (l : List Bk) (k : Nat) (h : k < l.length), (bytesB l).drop (k * 64) = l[k].1 ++ bytesB (l.drop (k + 1))
  | [], k, h => by simp at h
  | x :: l, 0, h => by simp [bytesB]
  | x :: l, k + 1, h => by
    have h' : k < l.length := by simpa using h
    have e : bytesB (x :: l) = x.1 ++ bytesB l := rfl
    rw [e, show (k + 1) * 64 = x.1.length + k * 64 by rw [x.2.1]; omega, ← List.drop_drop, List.drop_left, bytesB_drop l k h']
    rfl
theorem bytesB_get (l : List Bk) (k i : Nat) (h : k < l.length) (hi : i < 64) : (bytesB l)[k * 64 + i]? = l[k].1[i]? := by
  rw [← List.getElem?_drop, bytesB_drop l k h, List.getElem?_append_left (by rw [l[k].2.1]; exact hi)]
theorem half2 (d : Dk) (h : 1 ≤ d.bl.length) : 1 + 2 * half d ≤ d.bl.length := by unfold half; omega
theorem jbk_lt {d : Dk} {a k : Nat} (h : 1 ≤ d.bl.length) (ha : a ≤ 1) (hk : k < half d) : jbk d a k < d.bl.length := by
  have := half2 d h
  have h3 : a * half d ≤ 1 * half d := Nat.mul_le_mul_right _ ha
  unfold jbk; generalize a * half d = m at *; omega
theorem areaL_len {d : Dk} {a : Nat} (h : 1 ≤ d.bl.length) (ha : a ≤ 1) : (areaL d a).length = jsz d := by
  have := half2 d h
  have h3 : a * half d ≤ 1 * half d := Nat.mul_le_mul_right _ ha
  unfold areaL jsz
  rw [bytesB_len, List.length_take, List.length_drop]
  generalize a * half d = m at *; congr 1; omega
theorem areaL_get {d : Dk} {a k i : Nat} (h : 1 ≤ d.bl.length) (ha : a ≤ 1) (hk : k < half d) (hi : i < 64) : (areaL d a)[k * 64 + i]? = (getB d.bl (jbk d a k)).1[i]? := by
  have hb := jbk_lt h ha hk
  have h2 := half2 d h
  have h3 : a * half d ≤ 1 * half d := Nat.mul_le_mul_right _ ha
  unfold areaL
  rw [bytesB_get _ k i (by rw [List.length_take, List.length_drop]; generalize a * half d = m at *; omega) hi, getB_eq hb]
  simp only [List.getElem_take, List.getElem_drop]
  rfl
theorem areaL_lt (d : Dk) (a : Nat) : ∀ x ∈ areaL d a, x < 256 := bytesB_lt _
theorem zEnd_len {d : Dk} {p : Nat} {b : List Nat} (h : p + b.length ≤ jsz d) : p + (zEnd d p b).length ≤ jsz d := by
  unfold zEnd; split
  · simp; omega
  · exact h
theorem zEnd_lt {d : Dk} {p : Nat} {b : List Nat} (h : ∀ x ∈ b, x < 256) : ∀ x ∈ zEnd d p b, x < 256 := by
  unfold zEnd; split
  · intro x hx; simp only [List.mem_append, List.mem_singleton] at hx; rcases hx with hx | rfl
    · exact h x hx
    · omega
  · exact h
section
variable {d : Dk} {area p : Nat} {b : List Nat}
theorem layS_len (h : 1 ≤ d.bl.length) (ha : area ≤ 1) (hp : p + b.length ≤ jsz d) : ∃ K, (layS d area p b).length = K * 64 ∧ K ≤ half d ∧ p / 64 ≤ K ∧ ∀ k, (k * 64 < p + (zEnd d p b).length ↔ k < K) := by
  have hz := zEnd_len hp
  have hal := areaL_len h ha
  have e : (layS d area p b).length = (p + (zEnd d p b).length) + (64 - (p + (zEnd d p b).length) % 64) % 64 := by
    unfold layS padZ
    rw [List.length_append, List.length_replicate, List.length_append, List.length_take, hal, Nat.min_eq_left (by omega)]
  have hj : jsz d = half d * 64 := rfl
  rw [hj] at hz
  generalize (zEnd d p b).length = z at *
  refine ⟨(layS d area p b).length / 64, ?_, ?_, ?_, fun k => ?_⟩
  all_goals rw [e]; omega
theorem layS_get (h : 1 ≤ d.bl.length) (ha : area ≤ 1) (hp : p + b.length ≤ jsz d) {j : Nat} (hj : j < (layS d area p b).length) :
    (layS d area p b)[j]? = if j < p then (areaL d area)[j]? else if j - p < (zEnd d p b).length then (zEnd d p b)[j - p]? else some 0 := by
  have hal := areaL_len h ha
  have ht : ((areaL d area).take p).length = p := by rw [List.length_take, hal]; omega
  have hll : (layS d area p b).length = p + (zEnd d p b).length + (64 - (p + (zEnd d p b).length) % 64) % 64 := by
    unfold layS padZ
    rw [List.length_append, List.length_replicate, List.length_append, ht]
  rw [hll] at hj
  unfold layS padZ
  split
  · rename_i hjp
    rw [List.append_assoc, List.getElem?_append_left (by rw [ht]; exact hjp), List.getElem?_take, if_pos hjp]
  · rename_i hjp
    split
    · rename_i hjz
      rw [List.append_assoc, List.getElem?_append_right (by rw [ht]; omega), ht, List.getElem?_append_left hjz]
    · rename_i hjz
      rw [List.append_assoc, List.getElem?_append_right (by rw [ht]; omega), ht, List.getElem?_append_right (by omega), List.getElem?_replicate, if_pos]
      rw [List.length_append, ht]; omega
theorem layS_lt (hb : ∀ x ∈ b, x < 256) : ∀ x ∈ layS d area p b, x < 256 := by
  intro x hx
  unfold layS padZ at hx
  simp only [List.mem_append] at hx
  rcases hx with (hx | hx) | hx
  · exact areaL_lt d area x (List.mem_of_mem_take hx)
  · exact zEnd_lt hb x hx
  · have := List.eq_of_mem_replicate hx; omega
end
theorem chunk_len {s : List Nat} {K k : Nat} (h : s.length = K * 64) (hk : k < K) : (chunk s k).length = 64 := by unfold chunk; rw [List.length_take, List.length_drop, h]; omega
theorem chunk_get {s : List Nat} {k i : Nat} (hi : i < 64) : (chunk s k)[i]? = s[k * 64 + i]? := by unfold chunk; rw [List.getElem?_take, if_pos hi, List.getElem?_drop]
theorem chunk_lt {s : List Nat} {k : Nat} (h : ∀ x ∈ s, x < 256) : ∀ x ∈ chunk s k, x < 256 := fun x hx => h x (List.mem_of_mem_drop (List.mem_of_mem_take hx))
theorem chunk_ext {s c : List Nat} {K k : Nat} (h : s.length = K * 64) (hk : k < K) (hc : c.length = 64) (hg : ∀ j, j < 64 → c[j]? = s[k * 64 + j]?) : c = chunk s k := by
  apply List.ext_getElem?
  intro j
  by_cases hj : j < 64
  · rw [hg j hj, chunk_get hj]
  · rw [List.getElem?_eq_none (by omega), List.getElem?_eq_none (by rw [chunk_len h hk]; omega)]
/-- A copy to the front of a row of one's own. -/
theorem copy_front {w : World} {base : Nat} {A : Addr} {c : Nat} {l : List Nat} (h : OwnL w base 5 1 b1 (some A) c l) {B : Option Addr} {o : List Nat} {sc m : Nat} (hr : RowAt w B 1 b1 o) (ho : o.length = m) (hm : m ≤ l.length) (hB : B.isSome = true) :
    ∃ w', (Builtin.copy_ #[51, 51] 3 #[.slice (some A) l.length c, .slice B m sc]).run Try.prog w = .ok (goInt m) w' ∧ OwnL w' base 5 1 b1 (some A) c (o ++ l.drop m) ∧ Md [A.block] w w' := by
  obtain ⟨B, rfl⟩ := Option.isSome_iff_exists.1 hB
  have hol : (o.flatMap b1).length = m := by rw [encb1.lenL, ho, Nat.mul_one]
  obtain ⟨w', h1, h2, h3⟩ := own_copy (h := h) 0 l.length c (o.flatMap b1) (by rw [encb1.lenL, encb1.lenL]; omega) A rfl B m sc (by rw [hol]; exact (Nat.min_eq_left hm).symm) (fun j v hv => by
    have hj : j < o.length := by have := (List.getElem?_eq_some_iff.1 hv).1; rw [encb1.lenL] at this; omega
    obtain ⟨B', hB', hc⟩ := hr j o[j] (List.getElem?_eq_getElem hj)
    cases hB'
    have hv2 := encb1.at o j 0 o[j] (List.getElem?_eq_getElem hj) (by omega)
    rw [Nat.mul_one, Nat.add_zero] at hv2
    rw [hv2] at hv
    have := hc 0 v hv
    rwa [addr_add0, Nat.mul_one] at this) (fun v hv => encb1.oneL o v hv)
  rw [addr_add0, hol] at h1
  refine ⟨w', h1, ?_, h3⟩
  have e : wrL (l.flatMap b1) 0 (o.flatMap b1) = (o ++ l.drop m).flatMap b1 := by
    unfold wrL
    rw [List.take_zero, List.nil_append, hol, Nat.zero_add, List.flatMap_append, b1_map l, ← List.map_drop, ← b1_map]
  rw [e] at h2
  have e2 : (o ++ l.drop m).length = l.length := by rw [List.length_append, List.length_drop, ho]; omega
  unfold OwnL
  rw [e2]
  exact h2
end Fk
set_option linter.unusedVariables false
set_option linter.unusedSimpArgs false
set_option maxRecDepth 100000
set_option maxHeartbeats 4000000
namespace Fk
open Go Go.Proofs Go.RowKit
section
variable {w0 w : World} {n : Nat} {d : Dk} {F : List Nat} {ln : Nat} {g : Lg}
theorem f200_ok (S : JS w0 w n d F ln g) (h1 : 1 ≤ d.bl.length) (hpd : d.pd.length < 2 ^ 29) (area p : Nat) (ha : area ≤ 1) (b : List Nat) (hbb : ∀ x ∈ b, x < 256) (hp : p + b.length ≤ jsz d)
    (bx : Nat) (a : Option Addr) (c : Nat) (ho : OwnL w bx 5 1 b1 a c b) (hsep : ∀ A, a = some A → A.block ≠ ln ∧ A.block ∉ F ∧ w0.heap.size ≤ A.block) :
    Ct Try.prog 200 #[.pointer (some ⟨ln, 0, none⟩), .int .i64 area, .int .i64 p, .slice a b.length c] w fun v w' =>
      (v = .bool (layD d area p b).2 ∧ ∃ F', JS w0 w' n (layD d area p b).1 F' ln g ∧ Fr w F F') ∧ Md ((a.map (·.block)).toList ++ F) w w' := by
  have hlen := S.len
  have hhl := half_le hlen
  have hjz : jsz d = half d * 64 := rfl
  obtain ⟨K, hSl, hKh, hpK, hKi⟩ := layS_len (d := d) h1 ha hp
  have hzl := zEnd_len hp
  have hzb := zEnd_lt (d := d) (p := p) hbb
  have hSb := layS_lt (d := d) (area := area) (p := p) hbb
  have hSg := fun j => layS_get (d := d) h1 ha hp (j := j)
  have hLd : layD d area p b = layL area (layS d area p b) (K - p / 64) (p / 64) d := by unfold layD; rw [hSl, Nat.mul_div_cancel _ (by omega)]
  have hae : ∀ D, (a.map (·.block)).toList ⊆ (a.map (·.block)).toList ++ D := fun D x hx => List.mem_append_left _ hx
  apply f200_in
  generalize hz : zEnd d p b = z at *
  generalize hs : layS d area p b = s at *
  refine Jn_in (fun us vs w' => ∃ (a' : Option Addr) (c' : Nat), us = [.slice a' z.length c'] ∧ RowAt w' a' 1 b1 z ∧ (∀ A, a' = some A → A.block ≠ ln ∧ A.block ∉ F ∧ A.block < w'.heap.size) ∧ Md ((a.map (·.block)).toList ++ F) w w' ∧ JS w0 w' n d F ln g) ?_ ?_
  · rintro us vs w3 ⟨a4, c4, rfl, r4, s4, m4, S4⟩
    refine opL_in <| Bd_e (y := ((p / 64 : Nat) : Int)) (by rw [Int.tdiv_eq_ediv_of_nonneg (by omega), IntKind.wrap_i64]; omega) ?_
    refine LoopP_in (fun mm us vs w' => ∃ (bb : Bool) (k : Nat) (d' : Dk) (F' : List Nat), us = [.bool bb, .int .i64 k] ∧ mm = K - k ∧ p / 64 ≤ k ∧ k ≤ K ∧ JS w0 w' n d' F' ln g ∧ Fr w F F' ∧ Md ((a.map (·.block)).toList ++ F) w w' ∧
      RowAt w' a4 1 b1 z ∧ (∀ A, a4 = some A → A.block ≠ ln ∧ A.block ∉ F' ∧ A.block < w'.heap.size) ∧ d'.bl.length = d.bl.length ∧ d'.pd.length ≤ d.pd.length + (k - p / 64) ∧ (k = p / 64 → d' = d) ∧ layL area s (K - k) k d' = layD d area p b) (K - p / 64)
      ⟨false, p / 64, d, F, rfl, rfl, Nat.le_refl _, hpK, S4, Fr.refl _ _, m4, r4, s4, rfl, by omega, fun _ => rfl, hLd.symm⟩ ?_
    rintro mm us vs w11 ⟨bb, k, d', F', rfl, hmm, hk1, hk2, S11, f11, m11, r11, s11, e11, q11, t11, L11⟩
    have hh' : half d' = half d := by unfold half; rw [e11]
    have hj' : ∀ k, jbk d' area k = jbk d area k := fun k => by unfold jbk; rw [hh']
    refine opB_in <| opI_in <| Bd_e (y := ((k * 64 : Nat) : Int)) (by rw [IntKind.wrap_i64]; omega) <| Bd_e rfl <| Bd_e (y := ((p + z.length : Nat) : Int)) (by rw [IntKind.wrap_i64]; omega) <| Bd_in fun b17 hb17 => If_in (fun hb => ?_) fun hb => ?_
    · have hkK : k < K := by
        apply (hKi k).1
        rw [hb17] at hb; have := of_decide_eq_true hb; omega
      have hkh : k < half d := by omega
      obtain ⟨w19, hrun, o19, m19⟩ := made5 64 w11 (by omega)
      refine RunW_in hrun (Kept_md m19 (by simp)) <| opL_in <| Bd_e (y := ((k * 64 : Nat) : Int)) (by rw [IntKind.wrap_i64]; omega) ?_
      have S19 := S11.md0 m19
      refine Jn_in (fun us vs w' => ∃ (c0 : List Nat), c0.length = 64 ∧ (∀ x ∈ c0, x < 256) ∧ OwnL w' w11.heap.size 5 1 b1 (some ⟨w11.heap.size, 0, none⟩) 64 c0 ∧ Md [] w11 w' ∧ (∀ i, i < 64 → k * 64 + i < p → c0[i]? = s[k * 64 + i]?) ∧ (∀ i, i < 64 → p ≤ k * 64 + i → c0[i]? = some 0)) ?_ ?_
      · rintro us vs w26 ⟨c0, hc0, hcb, o26, m26, g1, g2⟩
        refine Bd_e rfl ?_
        refine LoopP_in (fun mm us vs w' => ∃ (i : Nat) (ci : List Nat), us = [.int .i64 i] ∧ mm = 64 - i ∧ i ≤ 64 ∧ ci.length = 64 ∧ (∀ x ∈ ci, x < 256) ∧ OwnL w' w11.heap.size 5 1 b1 (some ⟨w11.heap.size, 0, none⟩) 64 ci ∧ Md [] w11 w' ∧ (∀ j, j < i → ci[j]? = s[k * 64 + j]?) ∧ (∀ j, i ≤ j → ci[j]? = c0[j]?)) 64
          ⟨0, c0, rfl, rfl, by omega, hc0, hcb, o26, m26, fun j hj => by omega, fun j hj => rfl⟩ ?_
        rintro mm2 us vs w31 ⟨i, ci, rfl, hmm2, hi, hci, hcib, o31, m31, u1, u2⟩
        refine opI_in <| Bd_in fun b33 hb33 => If_in (fun hb => ?_) fun hb => ?_
        · have hi64 : i < 64 := by rw [hb33] at hb; have : (i : Int) < ((64 : Nat) : Int) := of_decide_eq_true hb
                                   omega
          have hjl : k * 64 + i < s.length := by rw [hSl]; omega
          have hS := hSg (k * 64 + i) hjl
          refine Jn_in (fun us vs w' => us = [.int .i64 (i : Int), .int .i64 (((k * 64 + i : Nat) : Int) - p)] ∧ ∃ (ci : List Nat), ci.length = 64 ∧ (∀ x ∈ ci, x < 256) ∧ OwnL w' w11.heap.size 5 1 b1 (some ⟨w11.heap.size, 0, none⟩) 64 ci ∧ Md [] w11 w' ∧ (∀ j, j < i + 1 → ci[j]? = s[k * 64 + j]?) ∧ (∀ j, i + 1 ≤ j → ci[j]? = c0[j]?)) ?_ ?_
          · rintro us vs w36 ⟨rfl, cj, v1, v2, v3, v4, v5, v6⟩
            exact opI_in <| opI_in <| Bd_e (inc_i64 (by omega)) ⟨64 - (i + 1), by omega, i + 1, cj, rfl, rfl, by omega, v1, v2, v3, v4, v5, v6⟩
          · refine Bd_e (y := ((k * 64 + i : Nat) : Int)) (by rw [IntKind.wrap_i64]; omega) <| Bd_e (y := ((k * 64 + i : Nat) : Int) - p) (by rw [IntKind.wrap_i64]; omega) <| Bd_in fun b43 hb43 => Bd_e rfl <| Bd_in fun b45 hb45 => Bd_in fun b46 hb46 => ?_
            have e46 : b46 = decide (p ≤ k * 64 + i ∧ k * 64 + i - p < z.length) := by
              have e43 : b43 = decide (p ≤ k * 64 + i) := by rw [hb43]; apply decide_eq_decide.2; omega
              rw [hb46, e43, hb45, Bool.eq_iff_iff]
              by_cases q : p ≤ k * 64 + i
              · simp [q]; omega
              · simp [q]
            by_cases hin : p ≤ k * 64 + i ∧ k * 64 + i - p < z.length
            · rw [show b46 = true by rw [e46]; simpa using hin]
              have hx := hin.2
              have e42 : ((k * 64 + i : Nat) : Int) - p = ((k * 64 + i - p : Nat) : Int) := by omega
              rw [if_neg (by omega), if_pos hin.2, List.getElem?_eq_getElem hx] at hS
              have r31 : RowAt w31 a4 1 b1 z := r11.md m31
              have hix := o31.row encb1 |>.ix (i := i) (by omega)
              obtain ⟨A, hA, p1, p2, p3, p4, p5, p6⟩ := o31.put encb1 (by omega) (i := i) (by omega) z[k * 64 + i - p]
              rw [hci] at hix
              rw [e42]
              refine If_t ⟨r31.ix hx, r31.ld1 hx rfl <| opI_in ⟨hix, by simp, p4, rfl, ci.set i z[k * 64 + i - p], by simpa using hci, fun x hx' => ?_, ?_, m31.old p6 (by simp; exact p2), fun j hj => ?_, fun j hj => ?_⟩⟩
              · rcases List.mem_or_eq_of_mem_set hx' with h | h
                · exact hcib x h
                · rw [h]; exact hzb _ (List.getElem_mem hx)
              · have := p5; exact this
              · by_cases hji : j = i
                · subst hji
                  rw [hS, List.getElem?_set_self (by omega)]
                · rw [List.getElem?_set_ne (by omega)]; exact u1 j (by omega)
              · rw [List.getElem?_set_ne (by omega)]; exact u2 j (by omega)
            · rw [show b46 = false by rw [e46]; exact decide_eq_false hin]
              refine If_f ⟨rfl, ci, hci, hcib, o31, m31, fun j hj => ?_, fun j hj => u2 j (by omega)⟩
              by_cases hji : j = i
              · subst hji
                rw [u2 j (Nat.le_refl _)]
                by_cases hjp : k * 64 + j < p
                · exact g1 j hi64 hjp
                · rw [g2 j hi64 (by omega), hS, if_neg hjp, if_neg (by omega)]
              · exact u1 j (by omega)
        · have hi64 : i = 64 := by
            have : ¬ (i : Int) < ((64 : Nat) : Int) := by rw [hb33] at hb; exact of_decide_eq_false hb
            omega
          subst hi64
          have hck : ci = chunk s k := chunk_ext hSl hkK hci fun j hj => u1 j hj
          subst hck
          have S31 := S11.md0 m31
          refine Jn_in (fun us vs w' => us = [.bool ((d'.write (jbk d' area k) (chunk s k)).2 != 0)] ∧ ∃ F2, JS w0 w' n (d'.write (jbk d' area k) (chunk s k)).1 F2 ln g ∧ Fr w11 F' F2 ∧ Md F' w11 w') ?_ ?_
          · rintro us vs w51 ⟨rfl, F2, S51, f51, m51⟩
            have hwl := write_len d' (jbk d' area k) (chunk s k)
            have hf2 : Fr w F F2 := f11.trans f51 m11.size
            have mF : Md ((a.map (·.block)).toList ++ F) w w51 := m11.fr m51 fun x hx => by
              rcases f11 x hx with h | h
              · exact .inl (List.mem_append_right _ h)
              · exact .inr h
            have hKk : K - k = (K - (k + 1)) + 1 := by omega
            rw [hKk] at L11
            refine opB_in <| If_in (fun hb => ?_) fun hb => ?_
            · have hne : ¬ (d'.write (jbk d' area k) (chunk s k)).2 = 0 := by simpa using hb
              unfold layL at L11
              rw [if_neg hne] at L11
              rw [← L11]
              exact ⟨⟨rfl, F2, S51, hf2⟩, mF⟩
            · have heq : (d'.write (jbk d' area k) (chunk s k)).2 = 0 := by simpa using hb
              unfold layL at L11
              rw [if_pos heq] at L11
              exact Bd_e (inc_i64 (by omega)) ⟨K - (k + 1), by omega, bb, k + 1, _, F2, rfl, rfl, by omega, by omega, S51, hf2, mF, r11.mdD m51 (fun A hA => (s11 A hA).2.1), fun A hA => ⟨(s11 A hA).1, fun hx => by
                rcases f51 _ hx with h | h
                · exact (s11 A hA).2.1 h
                · have := (s11 A hA).2.2; omega, Nat.lt_of_lt_of_le (s11 A hA).2.2 m51.size⟩, by rw [hwl.1, e11], by have := hwl.2; omega, fun h => by omega, L11⟩
          · have S31d := S31.md0 (Md_drew w31)
            refine ⟨fun w' => Blk w' ln 260 (g.c n), S31d.blk, NN_in ?_⟩
            show ∃ v, _ ∧ _
            refine ⟨.pointer (some ⟨n, 0, none⟩), fun w' hw => hw.ld (j := 0) rfl rfl, opP_in <| in202 S31d (by rw [e11]; exact h1) ha (by omega) (by simp) fun w63 S63 m63 => ⟨S63.blk, ?_⟩⟩
            have m63' : Md [] w11 w63 := (m31.trans (Md_drew w31)).trans m63
            have o63 := (o31.md (Md_drew w31)).md m63
            have hcl := chunk_len (s := s) hSl hkK
            refine in114 (L := []) S63.ds (LF.nil _ _) (jbk d' area k) (b := chunk s k) hci.symm hcib (by rw [hci]; omega) (by omega) (o63.row encb1) (fun B hB => by cases hB; intro hx; have := S11.ds.dk.lt _ hx; simp at this) fun F2 w66 S66 m66 f66 _ => ?_
            have mm66 : Md F' w11 w66 := (m63'.mono (by simp)).trans m66
            have J66 := S63.step S66 m66 f66
            exact ⟨J66.blk, Bd_e rfl ⟨rfl, F2, J66, fun x hx => (f66 x hx).imp id (Nat.le_trans m63'.size), mm66⟩⟩
      · refine Bd_in fun b70 hb70 => If_in (fun hb => ?_) fun hb => ?_
        · have hkp : k * 64 < p := by rw [hb70] at hb; have := of_decide_eq_true hb; omega
          have hk0 : k = p / 64 := by omega
          have hdd := t11 hk0
          subst hdd
          have hbk := jbk_lt h1 ha hkh
          refine Jn_in (fun us vs w' => ∃ A, us = [.int .i64 0, .slice (some A) 64 64] ∧ RowAt w' (some A) 1 b1 (getB d'.bl (jbk d' area k)).1 ∧ Md [] w11 w' ∧ OwnL w' w11.heap.size 5 1 b1 (some ⟨w11.heap.size, 0, none⟩) 64 (List.replicate 64 0) ∧ A.block ≠ w11.heap.size) ?_ ?_
          · rintro us vs w73 ⟨A, rfl, r73, m73, o73, hne⟩
            refine opI_in <| opL_in <| Bd_e (y := ((p - k * 64 : Nat) : Int)) (by rw [IntKind.wrap_i64]; omega) <| RunW_in0 (slice_front (e := 5) (by kernel_rfl) (fun w => ⟨1, size5b w⟩) w73 _ _ _ (p - k * 64) (by omega)) <| opL_in ?_
            have hgl : (getB d'.bl (jbk d' area k)).1.length = 64 := (getB d'.bl (jbk d' area k)).2.1
            have htk : ((getB d'.bl (jbk d' area k)).1.take (p - k * 64)).length = p - k * 64 := by rw [List.length_take, hgl]; omega
            obtain ⟨w85, hr85, o85, m85⟩ := copy_front o73 (r73.take (p - k * 64)) (sc := 64) htk (by simp; omega) rfl
            rw [List.length_replicate] at hr85
            refine RunW_in hr85 (fun b hb => by cases hb) <| opI_in ⟨_, ?_, ?_, o85, m73.old m85 (by simp), fun i hi hip => ?_, fun i hi hip => ?_⟩
            · rw [List.length_append, htk, List.length_drop, List.length_replicate]; omega
            · intro x hx
              rcases List.mem_append.1 hx with h | h
              · exact (getB d'.bl (jbk d' area k)).2.2 x (List.mem_of_mem_take h)
              · have := List.eq_of_mem_replicate (List.mem_of_mem_drop h); omega
            · rw [List.getElem?_append_left (by rw [htk]; omega), List.getElem?_take, if_pos (by omega), hSg _ (by rw [hSl]; omega), if_pos hip, areaL_get h1 ha hkh hi]
            · rw [List.getElem?_append_right (by rw [htk]; omega), htk, List.getElem?_drop, List.getElem?_replicate, if_pos (by omega)]
          · have S19d := S19.md0 (Md_drew w19)
            refine ⟨fun w' => Blk w' ln 260 (g.c n), S19d.blk, NN_in ?_⟩
            show ∃ v, _ ∧ _
            refine ⟨.pointer (some ⟨n, 0, none⟩), fun w' hw => hw.ld (j := 0) rfl rfl, opP_in <| in202 S19d h1 ha (by omega) (by simp) fun w96 S96 m96 => ⟨S96.blk, in119 S96.ds (by simp) hbk fun A w99 S99 m99 o99 => ⟨S96.blk.md m99 (by simp), ?_⟩⟩⟩
            have mm : Md [] w19 w99 := ((Md_drew w19).trans m96).trans m99
            have h64 : (getB d'.bl (jbk d' area k)).1.length = 64 := (getB d'.bl (jbk d' area k)).2.1
            obtain ⟨B, hB, _⟩ := (o99.row encb1) 0 ((getB d'.bl (jbk d' area k)).1[0]'(by omega)) (List.getElem?_eq_getElem _)
            subst hB
            have hlt := (o99.lt rfl).1
            have h19 := (o19.lt rfl).2
            have h96 := ((Md_drew w19).trans m96).size
            exact ⟨B, rfl, o99.row encb1, m19.trans mm, o19.md mm, by simp at h19; omega⟩
        · have hkp : ¬ k * 64 < p := by rw [hb70] at hb; have := of_decide_eq_false hb; omega
          exact ⟨List.replicate 64 0, by simp, fun x hx => by have := List.eq_of_mem_replicate hx; omega, o19, m19, fun i hi hip => by omega, fun i hi hip => by rw [List.getElem?_replicate, if_pos hi]⟩
    · have hkK : ¬ k < K := fun h => by
        have h2 := (hKi k).2 h
        rw [hb17] at hb; have := of_decide_eq_false hb; omega
      have hkK' : K - k = 0 := by omega
      rw [hkK'] at L11
      unfold layL at L11
      refine NN_in <| S11.blk.ld (j := 0) rfl <| opP_in <| in103 (L := []) S11.ds (LF.nil _ _) fun F2 w109 S109 m109 f109 _ => Bd_e rfl ?_
      rw [← L11]
      refine ⟨⟨rfl, F2, S11.step S109 m109 f109, f11.trans f109 m11.size⟩, m11.fr m109 fun x hx => ?_⟩
      rcases f11 x hx with h | h
      · exact .inl (List.mem_append_right _ h)
      · exact .inr h
  · refine Bd_e rfl <| Bd_e (y := ((p + b.length : Nat) : Int)) (by rw [IntKind.wrap_i64]; omega) <| in197 S h1 (by simp) fun w116 S116 m116 => Bd_in fun b118 hb118 => If_in (fun hb => ?_) fun hb => ?_
    · have hlt : p + b.length < jsz d := by rw [hb118] at hb; have := of_decide_eq_true hb; omega
      have ez : z = b ++ [0] := by rw [← hz]; unfold zEnd; rw [if_pos hlt]
      refine app_one rowT51 encb1 0 rfl ((ho.md m116).down (b := 0) (by omega)) (by omega) (by simp) (by simp) (by simp [maxLen]; omega) (by omega) fun a' c' w' o' m' hA => opL_in ⟨a', c', by rw [ez], by rw [ez]; exact o'.row encb1, fun A hA' => ?_, ?_, ?_⟩
      · have hltA := (o'.lt hA').2
        rcases hA A hA' with h | h
        · have := hsep A h; exact ⟨this.1, this.2.1, hltA⟩
        · refine ⟨fun e => ?_, fun hx => ?_, hltA⟩
          · have := S116.blk.lt; omega
          · have := S116.ds.dk.lt _ hx; omega
      · exact (m116.mono (by simp)).trans (m'.mono (hae F))
      · refine S116.other m' (fun x hx => ?_) fun x hx => ?_
        · refine ⟨?_, fun hd => ?_⟩
          · rcases List.mem_cons.1 hx with rfl | hx
            · exact S116.blk.lt
            · exact S116.ds.dk.lt _ hx
          · obtain ⟨A, hA', e⟩ := mem_blk hd
            have := hsep A hA'
            rcases List.mem_cons.1 hx with rfl | hx
            · exact this.1 e
            · exact this.2.1 (by rw [e]; exact hx)
        · obtain ⟨A, hA', rfl⟩ := mem_blk hx; exact (hsep A hA').2.2
    · have hge : ¬ p + b.length < jsz d := by rw [hb118] at hb; have := of_decide_eq_false hb; omega
      have ez : z = b := by rw [← hz]; unfold zEnd; rw [if_neg hge]
      refine ⟨a, c, by rw [ez], by rw [ez]; exact (ho.md m116).row encb1, fun A hA => ⟨(hsep A hA).1, (hsep A hA).2.1, ((ho.md m116).lt hA).2⟩, m116.mono (by simp), S116⟩
end
end Fk
set_option linter.unusedVariables false
set_option linter.unusedSimpArgs false
set_option maxRecDepth 100000
namespace Fk
open Go Go.Proofs Go.RowKit
theorem bytesL_of {l : List Nat} (h : ∀ x ∈ l, x < 256) : bytesL (bytesOf l) = l := by
  simp only [bytesOf, bytesL, List.map_map]
  conv => rhs; rw [← List.map_id l]
  apply List.map_congr_left
  intro x hx
  have := h x hx
  simp only [Function.comp, id, UInt8.toNat_ofNat', Nat.mod_eq_of_lt this]
theorem bytesOf_inj {a b : List Nat} (ha : ∀ x ∈ a, x < 256) (hb : ∀ x ∈ b, x < 256) (h : bytesOf a = bytesOf b) : a = b := by
  rw [← bytesL_of ha, ← bytesL_of hb, h]
def prs : List (Nat × Nat) → List Nat
  | [] => []
  | (x, y) :: l => x :: y :: prs l
/-- The form of what is wanted. -/
structure TShp where
  m : Nat
  x : Nat
  y : Nat
  nm : List ByteArray
  f : List Nat
  tg : List Nat
  nx : List (Nat × Nat)
def TShp.n (s : TShp) : Nat := s.x * 256 + s.y
def TShp.l (s : TShp) : List Nat := [70, 84, 1, s.m, s.x, s.y, s.nm.length] ++ (s.nm.flatMap encN ++ (s.f ++ (s.tg ++ prs s.nx)))
structure TShp.ok (s : TShp) : Prop where
  f : s.f.length = 256
  tg : s.tg.length = s.n
  nx : s.nx.length = s.n * (s.m + 1)
def TShp.t (s : TShp) : Tb := ⟨⟨s.f, (s.m + 1 : Nat)⟩, (s.m + 1 : Nat), s.nx.map (fun p : Nat × Nat => ((p.1 * 256 + p.2 : Nat) : Int) - 1), s.tg.map (fun x : Nat => (x : Int) - 1), s.nm⟩
end Fk
set_option linter.unusedVariables false
set_option linter.unusedSimpArgs false
set_option maxRecDepth 100000
namespace Fk
open Go Go.Proofs Go.RowKit
section
variable {L : List Nat} {w0 w : World}
end
theorem str_eqL {a b : List Nat} (ha : ∀ x ∈ a, x < 256) (hb : ∀ x ∈ b, x < 256) : ((bytesOf a).toList == (bytesOf b).toList) = decide (a = b) := by
  rw [str_eq, Bool.eq_iff_iff]
  simp only [decide_eq_true_eq]
  exact ⟨bytesOf_inj ha hb, fun h => by rw [h]⟩
end Fk
set_option linter.unusedVariables false
set_option linter.unusedSimpArgs false
set_option maxRecDepth 100000
namespace Fk
open Go Go.Proofs Go.RowKit
theorem slice_mid {P : Program} {t e : TypeId} (ht : P.underlying t = some (.slice e)) (hs : ∀ w, (Go.sizeOf e).run P w = .ok 1 w) (w : World) (a : Option Addr) (n c lo hi : Nat) (h : lo ≤ hi) (h2 : hi ≤ c) :
    (Instr.sliceAt t (.slice a n c) (some (.int .i64 (lo : Int))) (some (.int .i64 (hi : Int))) none).run P w = .ok (.slice (if c = lo then a else a.map (·.add (lo * 1))) (hi - lo) (c - lo)) w := by
  have he : P.elem t = e := by simp [Program.elem, ht]
  have ht' : P.underlying t = some (.slice (P.elem t)) := by rw [he]; exact ht
  rw [run_sliceAt_slice w t _ _ _ _ ht', run_slice_lh w t a n c ht' .i64 .i64 lo hi (by omega) (by omega) (by omega), he, hs w]
  simp [Result.andThen, sliced]
theorem RowAt.mid {α : Type} {w : World} {A : Option Addr} {enc : α → List Value} {l : List α} (h : RowAt w A 1 enc l) {c lo hi : Nat} (h1 : lo ≤ hi) (h2 : hi ≤ l.length) (h3 : l.length ≤ c) :
    RowAt w (if c = lo then A else A.map (·.add (lo * 1))) 1 enc ((l.drop lo).take (hi - lo)) ∧ ((l.drop lo).take (hi - lo)).length = hi - lo := by
  refine ⟨?_, by simp; omega⟩
  split
  · rename_i hc
    have : (l.drop lo).take (hi - lo) = [] := by rw [show hi - lo = 0 by omega]; simp
    rw [this]
    intro i x hx; simp at hx
  · exact (h.drop lo).take _
/-- The front of names, and what stands behind. -/
theorem TShp.drop (s : TShp) {i : Nat} (hi : i ≤ s.nm.length) : s.l.drop (7 + ((s.nm.take i).flatMap encN).length) = (s.nm.drop i).flatMap encN ++ (s.f ++ (s.tg ++ prs s.nx)) := by
  have e : s.nm.flatMap encN = (s.nm.take i).flatMap encN ++ (s.nm.drop i).flatMap encN := by rw [← List.flatMap_append, List.take_append_drop]
  unfold TShp.l
  rw [e, ← List.drop_drop]
  have : List.drop 7 ([70, 84, 1, s.m, s.x, s.y, s.nm.length] ++ ((s.nm.take i).flatMap encN ++ (s.nm.drop i).flatMap encN ++ (s.f ++ (s.tg ++ prs s.nx)))) = (s.nm.take i).flatMap encN ++ ((s.nm.drop i).flatMap encN ++ (s.f ++ (s.tg ++ prs s.nx))) := by simp
  rw [this]
  exact List.drop_left
theorem Tb.vl (t : Tb) (p : TbS) : (t.v p).toList = t.l p := rfl
theorem Tb.wr {t : Tb} {p : TbS} (hf : t.c.f.length = 256) {o : Nat} {v : Value} {t' : Tb} {p' : TbS} (ho : o < 261) (h : (t.l p).set o v = t'.l p') : List.toArray (wrL (Array.toList (t.v p)) o [v]) = t'.v p' := by
  rw [Tb.vl, wrL_one _ _ _ (by rw [Tb.len hf]; exact ho), h]; rfl
end Fk
