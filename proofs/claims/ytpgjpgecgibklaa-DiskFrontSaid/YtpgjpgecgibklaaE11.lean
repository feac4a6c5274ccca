/- The law 'DiskFront': what its code does. -/
import Derived.Test.YtpgjpgecgibklaaE10
import Derived.Test.YtpgjpgecgibklaaV9
set_option linter.unusedVariables false
set_option linter.unusedSimpArgs false
set_option maxRecDepth 100000
namespace Fk
open Go Go.Proofs Go.RowKit
/-- A disk, and a row of strings of one's own beside it. -/
structure FS (w0 w : World) (n : Nat) (d : Dk) (F : List Nat) (a : Option Addr) (c : Nat) (fr : List ByteArray) : Prop where
  s : DS w0 w n d F
  o : OwnL w w0.heap.size 9 1 s1 a c fr
  sep : Sep a w F
section
variable {w0 w w' : World} {n : Nat} {d d' : Dk} {F F' L : List Nat} {a : Option Addr} {c : Nat} {fr : List ByteArray}
theorem FS.step (S : FS w0 w n d F a c fr) (h : DS w0 w' n d' F') (hm : Md F w w') (hf : Fr w F F') : FS w0 w' n d' F' a c fr :=
  ⟨h, S.o.mdD hm (fun A hA => (S.sep A hA).2), S.sep.fr hf hm.size⟩
theorem FS.md0 (S : FS w0 w n d F a c fr) (hm : Md [] w w') : FS w0 w' n d F a c fr := ⟨S.s.md0 hm, S.o.md hm, S.sep.md hm.size⟩
theorem FS.app (S : FS w0 w n d F a c fr) (x : ByteArray) (hl : fr.length < 2 ^ 30) (hL : ∀ b ∈ L, b < w.heap.size) (hLa : ∀ b ∈ L, ∀ A, a = some A → A.block ≠ b) {K : Value → World → Prop}
    (k : ∀ a' c' w', FS w0 w' n d F a' c' (fr ++ [x]) → K (.slice a' (fr ++ [x]).length c') w') :
    Nw (.cells #[.string x] 9) w fun b w' => RunW Try.prog L (Builtin.append_ #[55, 55] 55 #[.slice a fr.length c, .slice (some { block := b, off := 0 }) 1 1]) K w' := by
  refine app_one rowT55 encs1 x rfl S.o S.s.md.size hL hLa (by simp [maxLen]; omega) (by omega) fun a' c' w' ho hm hA => k a' c' w' ⟨S.s.other hm ?_ ?_, ho, ?_⟩
  · intro b hb
    refine ⟨S.s.dk.lt b hb, fun hmem => ?_⟩
    cases a with
    | none => simp at hmem
    | some A => simp at hmem; exact (S.sep A rfl).2 (hmem ▸ hb)
  · intro b hb
    cases a with
    | none => simp at hb
    | some A => simp at hb; have := (S.o.lt rfl).1; omega
  · intro A hA'
    rcases hA A hA' with h | h
    · have := S.sep A h
      exact ⟨by have := hm.size; omega, this.2⟩
    · exact ⟨(ho.lt hA').2, fun hm => by have := S.s.dk.lt _ hm; omega⟩
end
theorem fro0 {d : Dk} (h : d.bl.length = 8) : Fro (d.arm 0).flush.1 := by
  have h1 : (d.arm 0).stepD = (d.arm 0, true) := by
    unfold Dk.stepD Dk.arm
    rw [if_neg (by simp)]
  have h2 : (d.arm 0).flush = ({ d.arm 0 with pd := [] }, 0) := by
    unfold Dk.flush
    rw [h1]; rfl
  rw [h2]
  exact ⟨h, rfl, fun k hk => by simp at hk⟩
theorem f23_ok (l m : List Op20) (A B : Option Addr) (C C2 : Nat) (hl : l.length < 2 ^ 63) (hC : l.length ≤ C) (hok : ∀ o ∈ l, o.ok) (hl2 : m.length < 2 ^ 63) (hC2 : m.length ≤ C2) (hok2 : ∀ o ∈ m, o.ok)
    (keep torn : Nat) (hk : keep < 256) (ht : torn < 256) (w : World) (hr : RowAt w A 6 opE l) (hr2 : RowAt w B 6 opE m) :
    Ct Try.prog 23 #[.slice A l.length C, .slice B m.length C2, .int .u8 keep, .int .u8 torn] w fun v w' => v = .bool true ∧ Md [] w w' := by
  apply f23_in
  obtain ⟨hb8, hp40⟩ := playD_len l
  generalize hd : playD l = d at *
  refine in101 (Md.refl _ _) l rfl hl hC hok hr (by simp) fun n F w2 S1 m2 hF => ?_
  rw [hd] at S1
  intro n4 w5 e4 e5
  subst e4; subst e5
  have ma : Md [] w2 (w2.alloc (.cells #[] 9)) := Md.alloc w2 _
  have S5 : FS w (w2.alloc (.cells #[] 9)) n d F (some ⟨w2.heap.size, 0, none⟩) 0 [] := ⟨S1.md0 ma, OwnL.lit (P := Try.prog) encs1 w2 9 [] #[] S1.md.size (by simp [maxLen]) rfl, fun A hA => by
    cases hA
    exact ⟨by simp, fun hm => by have := S1.dk.lt _ hm; simp at this⟩⟩
  refine in102 S5.s (LF.nil _ _) 0 (by omega) fun w7 q7 m7 _ => ?_
  have S7 := S5.step q7 m7 (Fr.refl _ _)
  obtain ⟨a1, a2, a3⟩ := arm0_flush d
  have f0 := fro0 hb8
  refine in103 S7.s (LF.nil _ _) fun F w10 q10 m10 f10 _ => ?_
  have S10 := S7.step q10 m10 f10
  rw [a1]
  clear q10 m10 f10 S7 S5 S1 hd a2
  generalize (d.arm 0).flush.1 = d0 at *
  refine Bd_f rfl <| If_f <| in104' S10.s (by simp) fun a c w14 _ m14 o14 => RunW_in0 (str_own o14 (all_lt _) c) <| opStr_in ?_
  refine (S10.md0 m14).app (bytesOf d0.all) (by simp) (by simp) (by simp) fun a c w24 S24 => opL_in ?_
  rw [show ([] : List ByteArray) ++ [bytesOf d0.all] = frL d0 from (frL_one a3).symm] at *
  refine Bd_e rfl <| Bd_e (y := ((min m.length 20 : Nat) : Int)) (by split <;> omega) ?_
  refine RunW_in0 (slice_front (e := 125) (by kernel_rfl) size125 _ _ _ _ _ (by omega)) <| opL_in <| Bd_e rfl ?_
  refine LoopP_in (fun mm us vs w' => ∃ (i : Nat) (d : Dk) (F : List Nat) (a : Option Addr) (c : Nat), us = [.slice a (frL d).length c, .int .i64 i] ∧ mm = min m.length 20 - i ∧ i ≤ min m.length 20 ∧ d.pd.length ≤ i ∧ Fro d ∧ FS w w' n d F a c (frL d)) (min m.length 20)
    ⟨0, d0, F, a, c, rfl, rfl, by omega, by rw [a3]; exact Nat.le_refl _, f0, S24⟩ ?_
  clear S24 f0 a3 o14 m14 S10
  rintro mm us vs w39 ⟨i, d, F, a, c, rfl, rfl, hi, hpd, hF, S⟩
  refine opL_in <| opI_in <| Bd_in fun b44 hb44 => If_in (fun hb => ?_) fun hb => ?_
  · have hi' : i < min m.length 20 := by rw [hb44] at hb; have : (i : Int) < ((min m.length 20 : Nat) : Int) := by simpa using hb
                                         omega
    have hil : i < m.length := by omega
    refine Jn_in (fun us vs w' => ∃ (d : Dk) (F : List Nat) (a : Option Addr) (c : Nat), us = [.slice a (frL d).length c] ∧ d.pd.length ≤ i + 1 ∧ Fro d ∧ FS w w' n d F a c (frL d)) ?_ ?_
    · rintro us vs w47 ⟨d, F, a, c, rfl, h1, h2, h3⟩
      exact opL_in <| Bd_e (inc_i64 (by omega)) ⟨min m.length 20 - (i + 1), by omega, i + 1, d, F, a, c, rfl, rfl, by omega, h1, h2, h3⟩
    have hrow := hr2.md S.s.md
    have hok' := hok2 _ (List.getElem_mem hil)
    have hix : IxOk (i : Int) (min m.length 20) B := by have := hr2.ix hil; exact ⟨this.1, by omega, this.2.2⟩
    refine ⟨hix, hrow.ldj hil rfl <| hrow.ldj hil rfl <| hrow.ldj hil rfl <| hrow.ldj hil rfl <| hrow.ldj hil rfl <| hrow.ldj hil rfl <| opI_in <| opI_in <| opI_in <| opI_in <| opI_in <| opB_in fun n65 hn65 => ?_⟩
    generalize hO : m[i] = o at *
    refine Bd_in fun b66 hb66 w67 h67 hL67 => ?_
    have hL' : n65 < w67.heap.size := hL67 n65 (by simp)
    have S67 := S.md0 (mdUp hn65 h67)
    have hlf : LF [n65] w67 F := LF.new S.s.dk.lt hn65 hL'
    have hna : ∀ A, a = some A → A.block ≠ n65 := fun A hA e => by have := (S.o.lt hA).2; omega
    by_cases ho : o.k = 1
    · have e66 : b66 = true := by rw [hb66, ho]; rfl
      rw [e66]
      refine Gd_t <| in105 S67.s hlf o hok' (by omega) fun F' w73 q73 m73 f73 lf73 => ?_
      have S73 := S67.step q73 m73 f73
      rcases hF.does ho with ⟨h1, i', b', hi8, h2⟩ | ⟨h1, h2⟩
      · rw [h1]
        have hF2 : Fro (d.does o).1 := by rw [h2]; exact hF.put hi8 b'
        have hpl : (d.does o).1.pd.length = d.pd.length + 1 := by rw [h2]; simp [Dk.put]
        have hfr : frL (d.does o).1 = frL d ++ [bytesOf (d.does o).1.all] := by rw [h2]; exact frL_put b' (by rw [hF.len]; exact hi8)
        generalize (d.does o).1 = d' at *
        have hal := all_lt d'
        refine Bd_t rfl <| Bd_t rfl <| If_t <| in104' S73.s (fun b hb => (lf73 b hb).1) fun a2 c2 w77 _ m77 o77 => RunW_in0 (str_own o77 hal c2) <| opStr_in ?_
        refine (S73.md0 m77).app (bytesOf d'.all) (by rw [frL_len]; omega) (fun b hb => by have := (lf73 b hb).1; have := m77.size; omega) (fun b hb A hA => by simp at hb; subst hb; exact hna A hA) fun a' c' w87 S87 => opL_in ?_
        rw [← hfr] at *
        exact ⟨d', F', a', c', rfl, by omega, hF2, S87⟩
      · rw [h1]
        rw [h2] at S73
        exact Bd_f rfl <| Bd_f rfl <| If_f ⟨d, F', a, c, rfl, by omega, hF, S73⟩
    · have e66 : b66 = false := by rw [hb66]; simp; omega
      rw [e66]
      exact Gd_f <| Bd_t rfl <| Bd_f rfl <| If_f ⟨d, F, a, c, rfl, by omega, hF, S67⟩
  · have h20 : d.pd.length ≤ 20 := by omega
    have hfl := frL_len d
    generalize hkk : min keep d.pd.length = kk
    generalize htt : min torn 64 = t
    refine Bd_e (wrap_byte hk) <| Bd_e rfl <| Bd_e (y := (d.pd.length : Int)) (by rw [IntKind.wrap_i64, hfl]; omega) <| Bd_e (y := (kk : Int)) (by split <;> omega) <| Bd_e (wrap_byte ht) <| Bd_e (y := (t : Int)) (by split <;> omega) <| Bd_e (wrap_byte hk) <| Bd_e (wrap_byte ht) <|
      in106 S.s (LF.nil _ _) _ _ (by omega) fun F1 w100 q100 m100 f100 _ => ?_
    have S100 := (S.step q100 m100 f100).md0 (Md_drew w100)
    have hcut : ∀ j, j < 8 → (getB (d.crash keep torn).bl j).1.take t = (getB (front d (min (kk + 1) d.pd.length)) j).1.take t ∧ (getB (d.crash keep torn).bl j).1.drop t = (getB (front d kk) j).1.drop t := fun j hj => by
      have := crash_cut hF keep torn hj
      rw [htt, hkk] at this
      exact this
    have he8 : (d.crash keep torn).bl.length = 8 := by
      show (d.crB _ _ _).length = 8
      rw [crB_len]; exact hF.len
    generalize d.crash keep torn = e at *
    have hlen : e.all.length = 512 := by unfold Dk.all; rw [bytesB_len, he8]
    have hflen : ∀ j, (bytesB (front d j)).length = 512 := fun j => by rw [bytesB_len, front_len, hF.len]
    have hal := all_lt e
    have hkf : kk < (frL d).length := by omega
    have ld : ∀ {w' : World} {j : Nat} (hj : j < (frL d).length) {K : Value → Prop}, FS w w' n e F1 a c (frL d) → K (.string (bytesOf (bytesB (front d j)))) → Ld w' (adAt a (j : Int) 1) K := fun {w' j} hj {K} S' k => (S'.o.row encs1).ld1 hj (by rw [frL_get]; rfl) k
    refine Jn_in (fun us vs w' => us = [.string (bytesOf e.all), .string (bytesOf (bytesB (front d kk)))] ∧ FS w w' n e F1 a c (frL d)) ?_ ?_
    · rintro us vs w104 ⟨rfl, S4⟩
      have hk1 : min (kk + 1) d.pd.length < (frL d).length := by omega
      refine opStr_in <| opStr_in <| Bd_e (inc_i64 (by omega)) <| Bd_e rfl <| Bd_e (y := (d.pd.length : Int)) (by rw [IntKind.wrap_i64, hfl]; omega) <| Bd_e (y := ((min (kk + 1) d.pd.length : Nat) : Int)) (by split <;> omega) ⟨(S4.o.row encs1).ix hk1, ld hk1 S4 <| opStr_in <| Bd_e (y := 512) (by rw [size_bytesOf, hlen]; rfl) <| Bd_f rfl <| If_f ?_⟩
      refine LoopP_in (fun mm us vs w' => ∃ i : Nat, us = [.bool false, .int .i64 i] ∧ mm = 8 - i ∧ i ≤ 8 ∧ Md [] w w') 8 ⟨0, rfl, rfl, by omega, S4.s.md⟩ ?_
      rintro mm us vs w118 ⟨i, rfl, rfl, hi8, hmd⟩
      refine opB_in <| opI_in <| Bd_in fun b121 hb121 => If_in (fun hb => ?_) fun hb => ?_
      case refine_2 => exact in107 hmd (by simp) fun w' m' _ => ⟨rfl, m'⟩
      have hi' : i < 8 := by rw [hb121] at hb; have : (i : Int) < 8 := by simpa using hb
                             omega
      obtain ⟨c1, c2⟩ := hcut i hi'
      have g1 := bytesB_cut e.bl i 0 64 (by omega) (by omega)
      have g2 := bytesB_cut (front d (min (kk + 1) d.pd.length)) i 0 t (by rw [front_len, hF.len]; omega) (by omega)
      have g3 := bytesB_cut (front d kk) i t (64 - t) (by rw [front_len, hF.len]; omega) (by omega)
      have l1 := (getB e.bl i).2.1
      have l3 := (getB (front d kk) i).2.1
      have hx : ((e.all.drop (64 * i)).take (64 * i + 64 - 64 * i)) = (getB e.bl i).1 := by
        rw [show 64 * i + 64 - 64 * i = 64 by omega]
        have := g1
        simp only [Nat.add_zero, List.drop_zero] at this
        unfold Dk.all
        rw [this, List.take_of_length_le (by omega)]
      have hy : (((bytesB (front d (min (kk + 1) d.pd.length))).drop (64 * i)).take (64 * i + t - 64 * i)) = (getB (front d (min (kk + 1) d.pd.length)) i).1.take t := by
        rw [show 64 * i + t - 64 * i = t by omega]
        simpa only [Nat.add_zero, List.drop_zero] using g2
      have hz : (((bytesB (front d kk)).drop (64 * i + t)).take (64 * i + 64 - (64 * i + t))) = (getB (front d kk) i).1.drop t := by
        rw [show 64 * i + 64 - (64 * i + t) = 64 - t by omega, g3, List.take_of_length_le (by rw [List.length_drop]; omega)]
      have x64 : IntKind.wrap .i64 ((64 : Int) * (i : Int)) = ((64 * i : Nat) : Int) := by rw [IntKind.wrap_i64]; omega
      have y64 : IntKind.wrap .i64 (((64 * i : Nat) : Int) + 64) = ((64 * i + 64 : Nat) : Int) := by rw [IntKind.wrap_i64]; omega
      have z64 : IntKind.wrap .i64 (((64 * i : Nat) : Int) + (t : Int)) = ((64 * i + t : Nat) : Int) := by rw [IntKind.wrap_i64]; omega
      refine Bd_e x64 <| Bd_e x64 <| Bd_e y64 <| RunW_in0 (cut_lh _ e.all (64 * i) (64 * i + 64) (by omega) (by omega)) <| opStr_in ?_
      rw [hx]
      refine ⟨fun _ => True, trivial, _, fun w' _ => ⟨cut_h w' _ t (by omega)⟩, opStr_in <| Bd_e x64 <| Bd_e x64 <| Bd_e z64 ⟨_, fun w' _ => ⟨cut_lh w' _ (64 * i) (64 * i + t) (by omega) (by rw [hflen]; omega)⟩, opStr_in ?_⟩⟩
      rw [hy, c1]
      refine Bd_f (by simp) ⟨_, fun _ w' _ => ⟨cut_l w' _ t (by omega)⟩, opStr_in <| Bd_e x64 <| Bd_e z64 <| Bd_e x64 <| Bd_e y64 ⟨_, fun _ w' _ => ⟨cut_lh w' _ (64 * i + t) (64 * i + 64) (by omega) (by rw [hflen]; omega)⟩, opStr_in ?_⟩⟩
      rw [hz, c2]
      exact Bd_f (by simp) <| Bd_f rfl <| If_f <| Bd_e (inc_i64 (by omega)) ⟨8 - (i + 1), by omega, i + 1, rfl, rfl, by omega, hmd.trans (Md_drew _)⟩
    · have hixk := (S100.o.row encs1).ix hkf
      refine ⟨hixk, in104' S100.s (by simp) fun a2 c2 w163 _ m163 o163 => ⟨?_, ?_⟩, ld hkf S100 <| opStr_in <| in104' S100.s (by simp) fun a2 c2 w163 _ m163 o163 => RunW_in0 (str_own o163 hal c2) <| opStr_in ⟨rfl, S100.md0 m163⟩⟩
      · exact RunW_in0 (str_own o163 hal c2) <| opStr_in <| ld hkf (S100.md0 m163) <| opStr_in ⟨rfl, S100.md0 m163⟩
      · exact ld hkf (S100.md0 m163) <| opStr_in <| RunW_in0 (str_own o163 hal c2) <| opStr_in ⟨rfl, S100.md0 m163⟩
end Fk
