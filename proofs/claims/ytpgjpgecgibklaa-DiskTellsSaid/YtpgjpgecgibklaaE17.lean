/- The law 'DiskTells': what its code does. -/
import Derived.Test.YtpgjpgecgibklaaE16
set_option linter.unusedVariables false
set_option linter.unusedSimpArgs false
set_option maxRecDepth 100000
set_option maxHeartbeats 4000000
namespace Fk
open Go Go.Proofs Go.RowKit
theorem RfAt.down {w : World} {b base : Nat} {x : Rf} {p : RfS} (h : RfAt w base x p) (hb : b ≤ base) : RfAt w b x p := ⟨h.sf.down hb, h.pe.down hb, h.rf, h.sl, h.pl⟩
theorem in110b {w : World} {L : List Nat} (o : Op20) (ho : o.ok) (hL : ∀ b ∈ L, b < w.heap.size) {K : Option Addr → Nat → Nat → World → Prop}
    (k : ∀ a c C w', Md [] w w' → OwnL w' w.heap.size 5 1 b1 a C o.bytes → K a o.bytes.length c w') :
    CallW Try.prog L 110 #[.agg #[.int .u8 o.k, .int .i64 o.n, .int .i64 o.m, .int .u8 o.c, .int .u8 o.l, .bool o.u]] (fun v w' => opL v fun a n c => K a n c w') w := by
  refine (f110_ok o ho w).call hL ?_
  rintro v w' ⟨a, c, C, rfl, hc, hown⟩ h'
  exact opL_in (k a c C w' h' hown)
theorem f120_int (x : Rf) (p : RfS) (base : Nat) (w : World) (h : RfAt w base x p) (i : Int) (h0 : 0 ≤ i) (hi : i.toNat < x.sf.length) : Ct Try.prog 120 #[x.v p, .int .i64 i] w fun v w' => v = .string (x.has i.toNat) ∧ Md [] w w' := by
  obtain ⟨j, rfl⟩ := Int.eq_ofNat_of_zero_le h0
  exact f120_ok x p base w h j hi
theorem f27_ok (n : Int) (l : List Op20) (A : Option Addr) (C : Nat) (hl : l.length < 2 ^ 63) (hC : l.length ≤ C) (hok : ∀ o ∈ l, o.ok) (w : World) (hr : RowAt w A 6 opE l) :
    Ct Try.prog 27 #[.int .i64 n, .slice A l.length C] w fun v w' => v = .bool true ∧ Md [] w w' := by
  apply f27_in
  refine (f109_ok n w).call (by simp) ?_
  rintro v w2 (⟨h1, h2, nn, F, rfl, hd, hF⟩ | ⟨hno, rfl⟩) m2
  case inr =>
    have e7 : (decide (n ≥ 1) && decide (n ≤ 65536)) = false := by
      by_cases h1 : n ≥ 1
      · have : ¬ n ≤ 65536 := fun h => hno ⟨h1, h⟩
        simp [this]
      · simp [h1]
    refine opTu_in <| opP_in <| opI_in <| SzIs_in rfl <| Bd_f rfl <| Bd_in fun b7 hb7 => Bd_in fun b8 hb8 => Bd_in fun b9 hb9 => ?_
    have e9 : b9 = false := by rw [hb9, hb7, hb8, ← e7]; cases decide (n ≥ 1) <;> rfl
    subst e9
    exact Bd_f rfl <| Bd_t rfl <| Bd_f rfl <| Gd_t <| RunW_in0 (eqNilP (e := 155) none w2 _ _ 119 (by kernel_rfl) (by kernel_rfl)).2 <| opB_in <| Bd_f rfl <| Bd_f rfl <| Bd_f rfl <| Bd_f rfl <| Gd_f <| Bd_in fun b29 hb29 => Bd_f rfl <| Bd_f rfl <| If_f <| Bd_t rfl <| Bd_in fun b33 hb33 => Bd_t rfl <| Bd_e rfl <| Bd_in fun b36 hb36 => Bd_t rfl <| If_t <| in107 m2 (by simp) fun w' m' _ => ⟨rfl, m'⟩
  obtain ⟨k, rfl⟩ := Int.eq_ofNat_of_zero_le (show 0 ≤ n by omega)
  rw [Int.toNat_natCast] at hd
  have hlen0 : (newDk k).bl.length = k := by simp [newDk]
  have S2 : DS w w2 nn (newDk k) F := ⟨hd, m2, hF⟩
  refine opTu_in <| opP_in <| opI_in <| SzIs_in rfl <| Bd_t rfl <| Bd_t (by simp; omega) <| Bd_t (by simp; omega) <| Bd_t rfl <| Bd_f rfl <| Bd_f rfl <| Bd_t rfl <| Gd_f <| Bd_t rfl <| Bd_f rfl <| Bd_f rfl <| Bd_t rfl <| Gd_t <| in112 S2 (by simp) fun w28 S28 m28 => Bd_f (by rw [hlen0]; simp) <| Bd_f rfl <| Bd_f rfl <| If_f <| Bd_f rfl <| Bd_in fun b33 hb33 => Bd_e (y := b33) rfl <| Bd_e rfl <| Bd_in fun b36 hb36 => Bd_in fun b37 hb37 => If_in (fun hb => in107 S28.md (by simp) fun w' m' _ => ⟨rfl, m'⟩) fun hb => ?_
  have hk20 : k ≤ 20 ∧ l.length ≤ 40 := by
    rw [hb37, hb33, hb36] at hb
    by_cases c1 : (k : Int) > 20
    · simp [c1] at hb
    · by_cases c2 : ((l.length : Nat) : Int) > 40
      · simp [c2] at hb
      · omega
  obtain ⟨hk20, hl40⟩ := hk20
  refine (f113_ok k (by omega) (by omega) w28).call (by simp) ?_
  rintro v w42 ⟨p, rfl, hx⟩ m42
  refine opTu_in <| opAg_in <| opL_in <| opL_in <| opI_in <| SzIs_in rfl <| opB_in <| SzIs_in rfl fun n53 hn53 => Bd_e rfl fun w55 h55 hL55 => ?_
  have hs28 := S28.md.size
  have T0 : TS w w42 nn (newDk k) F (zRf k) p n53 → TS w w55 nn (newDk k) F (zRf k) p n53 := fun S => S.up h55
  have S42 := S28.md0 m42
  have m55 : Md [] w42 w55 := mdUp hn53 h55
  have T55 : TS w w55 nn (newDk k) F (zRf k) p n53 := by
    have hs42 := S42.md.size
    have hs := m42.size
    have hs55 := m55.size
    refine ⟨S42.md0 m55, (hx.md m55).down hs28, fun A hA => ?_, fun A hA => ?_, hL55 n53 (by simp), by omega, fun hm => by have := S42.dk.lt _ hm; omega, fun A hA e => by have := (hx.sf.lt hA).2; omega, fun A hA e => by have := (hx.pe.lt hA).2; omega⟩
    · have := hx.sf.lt hA
      exact ⟨by omega, fun hm => by have := S28.dk.lt _ hm; omega⟩
    · have := hx.pe.lt hA
      exact ⟨by omega, fun hm => by have := S28.dk.lt _ hm; omega⟩
  refine LoopP_in (fun mm us vs w' => ∃ (i : Nat) (d : Dk) (F : List Nat) (x : Rf) (p : RfS), us = [.bool false, .int .i64 i] ∧ vs = [x.v p] ∧ mm = l.length - i ∧ i ≤ l.length ∧ d.pd.length ≤ i ∧ RelD k d x ∧ TS w w' nn d F x p n53) l.length
    ⟨0, newDk k, F, zRf k, p, rfl, rfl, rfl, by omega, by simp [newDk], rel_new k, T55⟩ ?_
  clear T55 T0 m55 S42 hx m42 S28 m28 S2 hd hF h55 hL55
  rintro mm us vs w59 ⟨i, d, F, x, p, rfl, rfl, rfl, hi, hpd, hR, S⟩
  refine opB_in <| opI_in <| opAg_in <| opL_in <| opL_in <| opI_in <| SzIs_in rfl <| Bd_in fun b70 hb70 => If_in (fun hb => ?_) fun hb => ?_
  case refine_2 => exact in107 S.ds.md (by simp; exact S.n1) fun w' m' _ => ⟨rfl, m'⟩
  have hil : i < l.length := by rw [hb70] at hb; have : (i : Int) < (l.length : Int) := by simpa using hb
                                omega
  have hrow := hr.md S.ds.md
  have hok' := hok _ (List.getElem_mem hil)
  have hon := hok'.n
  refine ⟨hr.ix hil, hrow.ldj hil rfl <| hrow.ldj hil rfl <| hrow.ldj hil rfl <| hrow.ldj hil rfl <| hrow.ldj hil rfl <| hrow.ldj hil rfl <| opI_in <| opI_in <| opI_in <| opI_in <| opI_in <| opB_in fun n83 hn83 => ?_⟩
  generalize hO : l[i] = o at *
  have h83F : ∀ b ∈ F, b ≠ n83 := fun b hb e => by have := S.ds.dk.lt b hb; omega
  refine Jn_in (fun us vs w' => ∃ (f : Int) (b : Bool) (d : Dk) (F : List Nat) (x : Rf) (p : RfS), us = [.int .i64 f, .int .i64 f, .bool false, .bool b] ∧ vs = [x.v p] ∧ d.pd.length ≤ i + 1 ∧ RelD k d x ∧ TS w w' nn d F x p n53 ∧ n83 < w'.heap.size ∧ n83 ∉ F) ?_ ?_
  · rintro us vs w86 ⟨f, b, d, F, x, p, rfl, rfl, hpd, hR, S, h83, h83F⟩
    refine opI_in <| opI_in <| opB_in <| opB_in <| opAg_in <| opL_in <| opL_in <| opI_in <| SzIs_in rfl ?_
    refine Jn_in (fun us vs w' => us = [.bool false] ∧ TS w w' nn d F x p n53) ?_ ?_
    · rintro us vs w101 ⟨rfl, S⟩
      exact opB_in <| If_f <| Bd_e (inc_i64 (by omega)) ⟨l.length - (i + 1), by omega, i + 1, d, F, x, p, rfl, rfl, rfl, by omega, hpd, hR, S⟩
    have Sd := S.md0 (Md_drew w86)
    have hal := all_lt d
    have hL : ∀ {w' : World}, Md [] w86.drew w' → ∀ b ∈ [n83, n53], b < w'.heap.size := fun hm b hb => by
      have h1 := hm.size
      have h2 : w86.heap.size ≤ _ := h1
      have := S.n1
      simp at hb
      rcases hb with rfl | rfl <;> omega
    have hsz : ∀ j, j < x.sf.length → (x.has j).size = 64 := fun j hj => by rw [hR.has (by rw [← hR.slen]; exact hj)]; exact stB_size _
    have hx20 : x.sf.length ≤ 20 := by rw [hR.slen]; exact hk20
    have hpl := hR.plen
    refine Bd_f (by simp) <| Gd_t <| in104' Sd.ds (hL (Md.refl _ _)) fun a c w113 _ m113 o113 => ⟨?_, ?_⟩
    · refine Gd_t <| RunW_in0 (str_own o113 hal c) <| opStr_in <| Gd_t <| in121 (Sd.md0 m113).r hsz hx20 (hL m113) fun w125 m125 => Bd_f (by rw [hR.all]; simp) <| Bd_f rfl <| Bd_e rfl <| Gd_t <| in108 ((Sd.md0 m113).md0 m125).ds (hL (m113.trans m125)) fun w134 _ m134 => Bd_f (by rw [hpl]; simp) <| Bd_f rfl ⟨rfl, ((Sd.md0 m113).md0 m125).md0 m134⟩
    · refine Gd_t <| in121 (Sd.md0 m113).r hsz hx20 (hL m113) fun w125 m125 => Gd_t <| RunW_in0 (str_own (o113.md m125) hal c) <| opStr_in <| Bd_f (by rw [hR.all]; simp) <| Bd_f rfl <| Bd_e rfl <| Gd_t <| in108 ((Sd.md0 m113).md0 m125).ds (hL (m113.trans m125)) fun w134 _ m134 => Bd_f (by rw [hpl]; simp) <| Bd_f rfl ⟨rfl, ((Sd.md0 m113).md0 m125).md0 m134⟩
  have up83 : ∀ {w' : World}, Md [n83] w59 w' → (∀ b ∈ [n83, n53], b < w'.heap.size) → TS w w' nn d F x p n53 ∧ LF [n83, n53] w' F := fun hm hL => by
    have S' := S.md0 (mdUp hn83 hm)
    refine ⟨S', fun b hb => ⟨hL b hb, ?_⟩⟩
    simp at hb
    rcases hb with rfl | rfl
    · exact fun hm => by have := S.ds.dk.lt _ hm; omega
    · exact S.nF
  have hF83 : n83 ∉ F := fun hm => h83F _ hm rfl
  have hpd30 : d.pd.length < 2 ^ 30 := by omega
  have hplx := hR.plen
  refine Bd_in fun b161 hb161 => If_in (fun hb w162 h162 hL162 => ?_) fun hb => ?_
  · -- Write
    have hk1 : o.k = 1 := by rw [hb161] at hb; have : (o.k : Int) = 1 := by simpa using hb
                             omega
    obtain ⟨S1, lf1⟩ := up83 h162 hL162
    have hlb := Op20.len hok'
    have hbb : ∀ z ∈ o.bytes, z < 256 := opBytes_lt _ _
    refine in110b o hok' hL162 fun a c C w164 m164 o164 => ?_
    have S2 := S1.md0 m164
    have lf2 := lf1.md m164.size
    have haF : ∀ B, a = some B → B.block ∉ F := fun B hB hm => by have := S1.ds.dk.lt _ hm; have := (o164.lt hB).1; omega
    refine in114 S2.ds lf2 o.n rfl hbb (by omega) hpd30 (o164.row encb1) haF fun F' w169 q169 m169 f169 lf169 => Bd_e rfl ?_
    have S3 := S2.disk q169 m169 f169
    obtain ⟨r1, r2⟩ := hR.write o.n o.bytes hbb
    have hpd' := (write_len d o.n o.bytes).2
    have h83' := (lf169 n83 (by simp))
    have hs164 := m164.size
    refine bump (len := o.bytes.length) S3 (o164.mdD m169 haF) rfl h83'.1 S1.ds.md.size (fun B hB => ?_) (by omega) fun w175 S4 h175 => ?_
    · have hB2 := o164.lt hB
      refine ⟨fun hm => ?_, fun Q hQ e => ?_, fun Q hQ e => ?_, ?_, ?_⟩
      · rcases f169 _ hm with h | h
        · exact haF B hB h
        · omega
      · have := (S1.sa Q hQ).1; omega
      · have := (S1.sb Q hQ).1; omega
      · have := S1.n1; omega
      · have := hL162 n83 (by simp); omega
    have S5 := S4.md0 (Md_drew w175)
    have hL : ∀ {w' : World}, Md [] w175.drew w' → ∀ b ∈ [n83, n53], b < w'.heap.size := fun hm b hb => by
      have h1 := hm.size
      have h2 : w175.heap.size ≤ _ := h1
      have := S4.n1
      simp at hb
      rcases hb with rfl | rfl <;> omega
    have fin : ∀ (w184 : World) (a : Option Addr) (c C : Nat), Md [] w175.drew w184 → OwnL w184 w175.drew.heap.size 5 1 b1 a C o.bytes → CallW Try.prog [n83, n53] 115 #[.agg #[.slice p.a x.sf.length p.c, .slice p.b x.pe.length p.e, .int .i64 x.rf], .int .i64 o.n, .slice a o.bytes.length c] (fun v188 w189 =>
        opTu v188 fun cs190 => opAg (nthD cs190.toList 0) fun cs191 => opL (nthD cs191.toList 0) fun a192 n193 n194 => opL (nthD cs191.toList 1) fun a195 n196 n197 => opI .i64 (nthD cs191.toList 2) fun x198 => SzIs cs191.size 3 (opI .i64 (nthD cs190.toList 1) fun x199 => SzIs cs190.size 2 (True ∧ Up [n53] [n83, n53] w189 fun w200 => True ∧
          ∃ (f : Int) (b : Bool) (d1 : Dk) (F1 : List Nat) (x1 : Rf) (p1 : RfS), [Value.int .i64 (Fk.Dk.write d o.n o.bytes).2, .int .i64 x199, .bool false, .bool b161] = [.int .i64 f, .int .i64 f, .bool false, .bool b] ∧ [Value.agg #[.slice a192 n193 n194, .slice a195 n196 n197, .int .i64 x198]] = [x1.v p1] ∧ d1.pd.length ≤ i + 1 ∧ RelD k d1 x1 ∧ TS w w200 nn d1 F1 x1 p1 n53 ∧ n83 < w200.heap.size ∧ n83 ∉ F1))) w184 := by
      intro w184 a c C hm ho
      have S6 := S5.md0 hm
      refine (f115_ok x p w.heap.size w184 S6.r S6.ds.md.size o.n a c o.bytes (ho.row encb1) hbb (by omega) (by omega)).call (hL hm) ?_
      rintro v w189 ⟨p', rfl, hr', hn'⟩ m189
      exact opTu_in <| opAg_in <| opL_in <| opL_in <| opI_in <| SzIs_in rfl <| opI_in <| SzIs_in rfl ⟨trivial, fun w200 h200 hL200 => ⟨trivial, _, b161, (d.write o.n o.bytes).1, F', (x.write o.n o.bytes).1, p', by rw [r2], rfl, by omega, r1, (S6.ref m189 hr' hn').up h200, hL200 n83 (by simp), h83'.2⟩⟩
    exact ⟨fun _ => True, trivial, ⟨trivial, in110b o hok' (hL (Md.refl _ _)) fun a c C w184 m184 o184 => ⟨trivial, fin w184 a c C m184 o184⟩⟩, in110b o hok' (hL (Md.refl _ _)) fun a c C w184 m184 o184 => ⟨trivial, trivial, fin w184 a c C m184 o184⟩⟩
  refine Bd_in fun b219 hb219 => If_in (fun hb w162 h162 hL162 => ?_) fun hb => ?_
  · -- Flush
    obtain ⟨S1, lf1⟩ := up83 h162 hL162
    obtain ⟨r1, r2⟩ := hR.flush
    have hpd' := (flush_len d).2
    refine in103 S1.ds lf1 fun F' w169 q169 m169 f169 lf169 => ?_
    have S2 := S1.disk q169 m169 f169
    have h83' := lf169 n83 (by simp)
    refine (f116_ok x p w.heap.size w169 S2.r S2.ds.md.size hR.hin).call (fun b hb => (lf169 b hb).1) ?_
    rintro v w189 ⟨p', rfl, hr', hn'⟩ m189
    exact opTu_in <| opAg_in <| opL_in <| opL_in <| opI_in <| SzIs_in rfl <| opI_in <| SzIs_in rfl fun w200 h200 hL200 => ⟨_, b161, d.flush.1, F', x.flush.1, p', by rw [r2], rfl, by omega, r1, (S2.ref m189 hr' hn').up h200, hL200 n83 (by simp), h83'.2⟩
  refine Bd_in fun b237 hb237 => If_in (fun hb w162 h162 hL162 => ?_) fun hb => ?_
  · -- Arm
    obtain ⟨S1, lf1⟩ := up83 h162 hL162
    refine in102 S1.ds lf1 o.n hon fun w169 q169 m169 lf169 => ?_
    have S2 := S1.disk q169 m169 (Fr.refl _ _)
    refine (f117_ok x p o.n w169).call (fun b hb => (lf169 b hb).1) ?_
    rintro v w189 rfl m189
    have hr' : RfAt w189 w.heap.size (x.arm o.n) p := by
      have := S2.r.md m189
      exact ⟨this.sf, this.pe, by unfold Rf.arm; simp only; split <;> omega, this.sl, this.pl⟩
    exact opAg_in <| opL_in <| opL_in <| opI_in <| SzIs_in rfl fun w200 h200 hL200 => ⟨0, b161, d.arm o.n, F, x.arm o.n, p, rfl, rfl, by simp only [Dk.arm]; omega, hR.arm o.n, (S2.ref m189 hr' (NewS.refl _ _)).up h200, hL200 n83 (by simp), hF83⟩
  refine Bd_in fun b253 hb253 => If_in (fun hb w162 h162 hL162 => ?_) fun hb => ?_
  · -- Crash
    obtain ⟨S1, lf1⟩ := up83 h162 hL162
    refine in106 S1.ds lf1 o.n o.m hpd30 fun F' w169 q169 m169 f169 lf169 => ?_
    have S2 := S1.disk q169 m169 f169
    have h83' := lf169 n83 (by simp)
    refine (f118_ok x p w.heap.size w169 S2.r S2.ds.md.size hR.hin hR.q64 hR.s64 o.n o.m).call (fun b hb => (lf169 b hb).1) ?_
    rintro v w189 ⟨p', rfl, hr', hn'⟩ m189
    exact opAg_in <| opL_in <| opL_in <| opI_in <| SzIs_in rfl fun w200 h200 hL200 => ⟨0, b161, d.crash o.n o.m, F', x.crash o.n o.m, p', rfl, rfl, by simp [Dk.crash], hR.crash o.n o.m, (S2.ref m189 hr' hn').up h200, hL200 n83 (by simp), h83'.2⟩
  refine Bd_in fun b269 hb269 => If_in (fun hb w162 h162 hL162 => ?_) fun hb w162 h162 hL162 => ?_
  case refine_2 =>
    obtain ⟨S1, lf1⟩ := up83 h162 hL162
    exact ⟨0, b161, d, F, x, p, rfl, rfl, by omega, hR, S1, hL162 n83 (by simp), hF83⟩
  -- Read
  obtain ⟨S1, lf1⟩ := up83 h162 hL162
  refine (f119_ok nn d F o.n w162 S1.ds.dk).call hL162 ?_
  have hlen := hR.fro.len
  have hnk : ((k : Nat) : Int) = d.bl.length := by omega
  rintro v w272 (⟨h0, h1, a, rfl, hown⟩ | ⟨hno, rfl⟩) m272
  · obtain ⟨j, hj⟩ := Int.eq_ofNat_of_zero_le h0
    have hjk : j < k := by omega
    have S2 := (S1.md0 m272).md0 (Md_drew w272)
    have hbl := d.bl[o.n.toNat].2
    have hL : ∀ b ∈ [n83, n53], b < w272.drew.heap.size := fun b hb => by
      have h1 := m272.size
      have h2 : w272.drew.heap.size = w272.heap.size := rfl
      have := hL162 b hb
      omega
    have hstr : bytesOf d.bl[o.n.toNat].1 = x.has o.n.toNat := by
      rw [hR.has (by omega), getB_eq (by omega)]; rfl
    refine opTu_in <| opL_in <| opI_in <| SzIs_in rfl ⟨fun w' => Md [] w272.drew w', Md.refl _ _, Bd_t rfl <| Bd_t (by simp; omega) <| Bd_t (by simp; omega) <| Bd_t rfl <| Bd_f rfl <| Bd_t rfl ⟨_, fun _ w' hm => ⟨conv_row (((hown.md (Md_drew w272)).md hm).row encb1) hbl.2 64 64 hbl.1⟩, opStr_in <| Gd_t ?_⟩⟩
    refine (f120_int x p w.heap.size _ S2.r o.n h0 (by rw [hR.slen]; omega)).call hL ?_
    rintro v w295 rfl m295
    refine opStr_in ⟨m295, Bd_f (by rw [hstr]; simp) <| Bd_f rfl <| Bd_f rfl <| Bd_f rfl <| Bd_t rfl <| Bd_e rfl <| Bd_in fun b302 hb302 => Bd_t rfl <| Bd_f rfl <| Bd_f rfl <| If_f <| Bd_e rfl ?_⟩
    have S3 := S2.md0 m295
    have hs272 := m272.size
    have h83 := hL162 n83 (by simp)
    have h53 := hL162 n53 (by simp)
    refine bump (len := 64) S3 ((hown.md (Md_drew w272)).md m295) hbl.1 (by have := m295.size; have := hL n83 (by simp); omega) S1.ds.md.size (fun B hB => ?_) (by omega) fun w310 S4 h310 => ⟨0, b161, d, F, x, p, rfl, rfl, by omega, hR, S4, h310, hF83⟩
    have hB2 := hown.lt hB
    exact ⟨fun hm => by have := S1.ds.dk.lt _ hm; omega, fun Q hQ e => by have := (S1.sa Q hQ).1; omega, fun Q hQ e => by have := (S1.sb Q hQ).1; omega, by omega, by omega⟩
  · have S2 := (S1.md0 m272).md0 (Md_drew w272)
    have hs272 := m272.size
    have h83 := hL162 n83 (by simp)
    have e28 : (decide (o.n ≥ 0) && decide (o.n < (k : Int))) = false := by
      by_cases h1 : o.n ≥ 0
      · have : ¬ o.n < (k : Int) := fun h => hno ⟨h1, by omega⟩
        simp [this]
      · simp [h1]
    refine opTu_in <| opL_in <| opI_in <| SzIs_in rfl ⟨fun w' => True, trivial, Bd_f rfl <| Bd_in fun b280 hb280 => Bd_in fun b281 hb281 => Bd_in fun b282 hb282 => ?_⟩
    have e282 : b282 = false := by rw [hb282, hb280, hb281, ← e28]; cases decide (o.n ≥ 0) <;> rfl
    subst e282
    refine Bd_f rfl <| Bd_f rfl ⟨.string ByteArray.empty, fun h => (by cases h), opStr_in <| Gd_f ⟨trivial, Bd_in fun b296 hb296 => Bd_f rfl <| Bd_f rfl <| Bd_t rfl <| Bd_f rfl <| Bd_e rfl <| Bd_f rfl <| Bd_f rfl <| Bd_f rfl <| Bd_f rfl <| If_f <| Bd_e rfl ?_⟩⟩
    exact bump (len := 0) (base := w.heap.size) (e := 5) (A := none) (C := 0) (l := []) S2 (OwnL.nil _ _ _ _ _) rfl (by show n83 < w272.heap.size; omega) (Nat.le_refl _) (fun B hB => by cases hB) (by omega) fun w310 S4 h310 => ⟨0, b161, d, F, x, p, rfl, rfl, by omega, hR, S4, h310, hF83⟩
end Fk
