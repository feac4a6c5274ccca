/- Contracts: tables: which are right, and where a state comes to. -/
import Derived.Test.YtpgjpgecgibklaaC21
set_option linter.unusedVariables false
set_option linter.unusedSimpArgs false
set_option maxRecDepth 100000
namespace Fk
open Go Go.Proofs Go.RowKit
/-- A table. -/
structure Tb where
  c : Cl
  dm : Int
  nx : List Int
  tg : List Int
  nm : List ByteArray
/-- Where its rows stand. -/
structure TbS where
  na : Option Addr
  nc : Nat
  ta : Option Addr
  tc : Nat
  sa : Option Addr
  sc : Nat
def Tb.d (t : Tb) (p : TbS) : List Value := [.int .i64 t.dm, .slice p.na t.nx.length p.nc, .slice p.ta t.tg.length p.tc]
def Tb.l (t : Tb) (p : TbS) : List Value := t.c.l ++ (t.d p ++ [.slice p.sa t.nm.length p.sc])
def Tb.v (t : Tb) (p : TbS) : Array Value := (t.l p).toArray
structure TbAt (w : World) (t : Tb) (p : TbS) : Prop where
  ok : t.c.ok
  nx : RowAt w p.na 1 i1 t.nx
  tg : RowAt w p.ta 1 i1 t.tg
  nm : RowAt w p.sa 1 s1 t.nm
  nxl : t.nx.length < 2 ^ 63
  tgl : t.tg.length < 2 ^ 63
  nml : t.nm.length < 2 ^ 63
  nsz : ∀ s ∈ t.nm, s.size < 2 ^ 63
  cap : t.nm.length ≤ p.sc
theorem TbAt.md {w w' : World} {t : Tb} {p : TbS} (h : TbAt w t p) (hm : Md [] w w') : TbAt w' t p := ⟨h.ok, h.nx.md hm, h.tg.md hm, h.nm.md hm, h.nxl, h.tgl, h.nml, h.nsz, h.cap⟩
section
variable {w : World} {t : Tb} {p : TbS}
theorem TbAt.len (h : TbAt w t p) : t.c.l.length = 257 := by simp [Cl.l, h.ok.len]
theorem TbAt.size (h : TbAt w t p) : (t.v p).size = 261 := by simp [Tb.v, Tb.l, Tb.d, h.len]
theorem TbAt.front (h : TbAt w t p) : List.toArray (List.take 257 (List.drop 0 (Array.toList (t.v p)))) = t.c.v := by
  simp [Tb.v, Tb.l, Cl.v, List.take_append, h.len]
theorem TbAt.mid (h : TbAt w t p) : List.toArray (List.take 3 (List.drop 257 (Array.toList (t.v p)))) = #[.int .i64 t.dm, .slice p.na t.nx.length p.nc, .slice p.ta t.tg.length p.tc] := by
  have : List.drop 257 t.c.l = [] := List.drop_of_length_le (by rw [h.len]; omega)
  simp [Tb.v, Tb.l, Tb.d, List.drop_append, h.len, this]
theorem TbAt.n256 (h : TbAt w t p) : nthV (Array.toList (t.v p)) 256 = some (.int .i64 t.c.m) := by
  have := h.ok.many
  simp only [nthV, Tb.v, Tb.l, Cl.v] at this ⊢
  rw [List.getElem?_append_left (by rw [h.len]; omega)]; exact this
theorem TbAt.n257 (h : TbAt w t p) : nthV (Array.toList (t.v p)) 257 = some (.int .i64 t.dm) := by
  simp only [nthV, Tb.v, Tb.l]; rw [List.getElem?_append_right (by rw [h.len]; omega), h.len]; rfl
theorem TbAt.n258 (h : TbAt w t p) : nthV (Array.toList (t.v p)) 258 = some (.slice p.na t.nx.length p.nc) := by
  simp only [nthV, Tb.v, Tb.l]; rw [List.getElem?_append_right (by rw [h.len]; omega), h.len]; rfl
theorem TbAt.n259 (h : TbAt w t p) : nthV (Array.toList (t.v p)) 259 = some (.slice p.ta t.tg.length p.tc) := by
  simp only [nthV, Tb.v, Tb.l]; rw [List.getElem?_append_right (by rw [h.len]; omega), h.len]; rfl
theorem TbAt.n260 (h : TbAt w t p) : nthV (Array.toList (t.v p)) 260 = some (.slice p.sa t.nm.length p.sc) := by
  simp only [nthV, Tb.v, Tb.l]; rw [List.getElem?_append_right (by rw [h.len]; omega), h.len]; rfl
theorem TbAt.i256 (h : TbAt w t p) : isI .i64 (Array.toList (t.v p)) 256 ∧ rdI (Array.toList (t.v p)) 256 = t.c.m := by
  have := h.n256; unfold nthV at this; exact ⟨⟨_, this⟩, by unfold rdI; rw [this]⟩
theorem TbAt.i257 (h : TbAt w t p) : isI .i64 (Array.toList (t.v p)) 257 ∧ rdI (Array.toList (t.v p)) 257 = t.dm := by
  have := h.n257; unfold nthV at this; exact ⟨⟨_, this⟩, by unfold rdI; rw [this]⟩
theorem TbAt.byte (h : TbAt w t p) {b : Nat} (hb : b < 256) : nthV (Array.toList (t.v p)) (0 + (b : Int).toNat * 1) = some (.int .u8 (t.c.f[b]'(by rw [h.ok.len]; exact hb) : Int)) := by
  have := h.ok.nth' (i := b) (by rw [h.ok.len]; exact hb)
  simp only [nthV, Tb.v, Tb.l, Cl.v] at this ⊢
  rw [List.getElem?_append_left (by rw [h.len]; simp; omega)]; exact this
end
def namesOk : List ByteArray → List ByteArray → Bool
  | _, [] => true
  | pre, s :: l => named s && !memB s pre && namesOk (pre ++ [s]) l
def tHead (t : Tb) : Bool := t.c.right && dRight t.dm t.nx t.tg && decide (t.c.m = t.dm) && decide (1 ≤ t.nm.length ∧ t.nm.length ≤ 200)
def tTags (t : Tb) : Bool := t.tg.all fun x => decide (x < (t.nm.length : Int))
/-- Which tables are right. -/
def tRight (t : Tb) : Bool := tHead t && namesOk [] t.nm && tTags t
theorem dRight_tags {dm : Int} {nx tg : List Int} (h : dRight dm nx tg = true) : 1 ≤ dm ∧ dm ≤ 256 ∧ 1 ≤ tg.length ∧ tg.length ≤ 5000 ∧ (nx.length : Int) = dm * tg.length := by
  simp only [dRight, Bool.and_eq_true, decide_eq_true_eq] at h; exact h.1.1
section
variable {L : List Nat} {w0 w : World} {K : Bool → World → Prop}
theorem in72 {t : Tb} {p : TbS} (ht : TbAt w0 t p) (h : Good L w0 w) (k : ∀ w', Good L w0 w' → K (dRight t.dm t.nx t.tg) w') :
    CallW Try.prog L 72 #[.agg #[.int .i64 t.dm, .slice p.na t.nx.length p.nc, .slice p.ta t.tg.length p.tc]] (fun v w' => opB v fun b => K b w') w := by
  refine (f72_ok t.dm t.nx t.tg p.na p.ta p.nc p.tc w (ht.nx.md h.1) (ht.tg.md h.1) ht.nxl ht.tgl).call h.2 ?_
  rintro v w' rfl h'
  exact opB_in (k w' (h.tr h'))
theorem in152 (s : ByteArray) (hs : s.size < 2 ^ 63) (h : Good L w0 w) (k : ∀ w', Good L w0 w' → K (named s) w') : CallW Try.prog L 152 #[.string s] (fun v w' => opB v fun b => K b w') w := by
  refine (f152_ok s hs w).call h.2 ?_
  rintro v w' rfl h'
  exact opB_in (k w' (h.tr h'))
theorem in155 (s : ByteArray) (hs : s.size < 2 ^ 63) (h : Good L w0 w) (k : ∀ w', Good L w0 w' → K (nmFrom s 0 && decide (1 ≤ s.size)) w') : CallW Try.prog L 155 #[.string s] (fun v w' => opB v fun b => K b w') w := by
  refine (f155_ok s hs w).call h.2 ?_
  rintro v w' rfl h'
  exact opB_in (k w' (h.tr h'))
end
theorem size9 (w : World) : ∃ s, (Go.sizeOf 9).run Try.prog w = .ok s w := by
  have h : (Try.prog.info? 9).map (·.size) = some 1 := by kernel_rfl
  cases hi : Try.prog.info? 9 with
  | none => simp [hi] at h
  | some i => exact ⟨i.size, by simp [Go.sizeOf, typeInfo, hi]⟩
theorem not_eq_of {b c : Bool} (h : b = !c) : (b = true → c = false) ∧ (b = false → c = true) := by subst h; cases c <;> simp
theorem f55_ok (t : Tb) (p : TbS) (w : World) (ht : TbAt w t p) : Ct Try.prog 55 #[.agg (t.v p)] w fun v w' => v = .bool (tRight t) ∧ Md [] w w' := by
  apply f55_in
  intro n1 hn1
  refine ⟨by rw [ht.size]; omega, Bd_in fun cs2 hcs2 => ?_⟩
  rw [ht.front] at hcs2
  subst hcs2
  refine ⟨ht.ok.size, fun w3 h3 hL3 => ?_⟩
  have g3 : Good [n1] w w3 := ⟨h3, hL3⟩
  refine in44 t.c ht.ok g3 fun w5 g5 => ?_
  refine Bd_in fun b7 hb7 => ⟨fun _ => by rw [ht.size]; omega, Bd_in fun cs9 hcs9 => ?_⟩
  rw [ht.mid] at hcs9
  subst hcs9
  refine Gd_to (fun b w' => (b7 = false → b = dRight t.dm t.nx t.tg) ∧ Good [n1] w w') (fun b14 w15 hJ => ?_) (fun fin hc => in72 ht g5 fun w' g' => fin _ _ ⟨fun _ => rfl, g'⟩) (fun hc => ⟨fun h => by simp [h] at hc, g5⟩)
  obtain ⟨hb14, g15⟩ := hJ
  refine Bd_in fun b16 hb16 => Bd_in fun b17 hb17 => ⟨fun _ => ht.i256.1, Bd_in fun x19 hx19 => ⟨fun _ => ht.i257.1, Bd_in fun x21 hx21 => Bd_in fun b22 hb22 => Bd_in fun b23 hb23 => ⟨p.sa, t.nm.length, p.sc, fun _ => ht.n260,
    Bd_in fun x28 hx28 => Bd_in fun b29 hb29 => Bd_in fun b30 hb30 => ⟨p.sa, t.nm.length, p.sc, fun _ => ht.n260, Bd_in fun x35 hx35 => Bd_in fun b36 hb36 => Bd_in fun b37 hb37 => ?_⟩⟩⟩⟩
  have e37 : b37 = !tHead t := by
    rw [hb37, hb36, hb30, hb29, hb23, hb22, hb17, hb16, hx35, hx28, hx21, hx19, ht.i256.2, ht.i257.2]
    unfold tHead
    have e1 : (t.c.m != t.dm) = !decide (t.c.m = t.dm) := by rw [Bool.eq_iff_iff]; simp
    have e2 : decide (1 ≤ t.nm.length ∧ t.nm.length ≤ 200) = (!decide ((t.nm.length : Int) < 1) && !decide ((t.nm.length : Int) > 200)) := by rw [Bool.eq_iff_iff]; simp; omega
    rw [e1, e2]
    cases hc : b7 with
    | true =>
      rw [hc] at hb7
      have : t.c.right = false := by simpa using hb7.symm
      rw [this]; simp
    | false =>
      rw [hc] at hb7
      have : t.c.right = true := by simpa using hb7.symm
      rw [this, hb14 hc]
      cases dRight t.dm t.nx t.tg <;> cases decide (t.c.m = t.dm) <;> cases decide ((t.nm.length : Int) < 1) <;> simp
  refine If_in (fun h => ⟨?_, g15.1⟩) fun h => BdO_in ht.n260 <| opL_in <| Bd_in fun x42 hx42 => ?_
  · unfold tRight; rw [(not_eq_of e37).1 h]; rfl
  have hH := (not_eq_of e37).2 h
  subst hx42
  refine LoopP_in (fun m us vs w' => ∃ i : Nat, us = [.bool false, .int .i64 i] ∧ m = t.nm.length - i ∧ i ≤ t.nm.length ∧ namesOk [] t.nm = namesOk (t.nm.take i) (t.nm.drop i) ∧ Good [n1] w w') t.nm.length ⟨0, rfl, rfl, by omega, by simp, g15⟩ ?_
  rintro m us vs w46 ⟨i, rfl, rfl, hi, hnm, g46⟩
  refine opB_in <| opI_in <| Bd_in fun b49 hb49 => If_in (fun hb => ?_) fun hb => ?_
  · subst hb49
    simp only [decide_eq_true_eq, Int.ofNat_lt] at hb
    refine ⟨ht.nm.ix hb, (ht.nm.md g46.1).ld1 hb rfl <| opStr_in ?_⟩
    refine in152 _ (ht.nsz _ (List.getElem_mem hb)) g46 fun w53 g53 => Bd_in fun b55 hb55 => ⟨p.sa, t.nm.length, p.sc, fun _ => ht.n260, ?_⟩
    refine Gd_to (fun u w' => (b55 = false → u = (p.sa, i, p.sc)) ∧ Good [n1] w w') (fun u w67 hJ => ?_) (fun fin hc => ?_) (fun hc => ⟨fun h => by simp [h] at hc, g53⟩)
    · obtain ⟨hu, g67⟩ := hJ
      refine Gd_to (fun b w' => (b55 = false → b = memB t.nm[i] (t.nm.take i)) ∧ Good [n1] w w') (fun b72 w73 hJ => ?_) (fun fin hc => ?_) (fun hc => ⟨fun h => by simp [h] at hc, g67⟩)
      · obtain ⟨hb72, g73⟩ := hJ
        refine Bd_in fun b74 hb74 => ?_
        have e74 : b74 = !(named t.nm[i] && !memB t.nm[i] (t.nm.take i)) := by
          rw [hb74]
          cases hc : b55 with
          | true =>
            rw [hc] at hb55
            have : named t.nm[i] = false := by simpa using hb55.symm
            rw [this]; rfl
          | false =>
            rw [hc] at hb55
            have : named t.nm[i] = true := by simpa using hb55.symm
            rw [this, hb72 hc]; simp
        have hstep : namesOk [] t.nm = (named t.nm[i] && !memB t.nm[i] (t.nm.take i) && namesOk (t.nm.take (i + 1)) (t.nm.drop (i + 1))) := by
          rw [hnm, List.drop_eq_getElem_cons hb, namesOk, List.take_succ_eq_append_getElem hb]
        refine If_in (fun h => ⟨?_, g73.1⟩) fun h => Bd_in fun x75 hx75 => ?_
        · unfold tRight; rw [hstep, (not_eq_of e74).1 h]; simp
        · rw [inc_len hb ht.nml] at hx75
          subst hx75
          exact ⟨t.nm.length - (i + 1), by omega, i + 1, rfl, rfl, by omega, by rw [hstep, (not_eq_of e74).2 h]; rfl, g73⟩
      · have hu' := hu (by simpa using hc)
        subst hu'
        refine (f153_ok (t.nm.take i) i (by simp; omega) (by have := ht.nml; omega) p.sa p.sc t.nm[i] w67 ((ht.nm.md g67.1).take i)).call g67.2 ?_
        rintro v w' rfl h'
        exact opB_in (fin _ _ ⟨fun _ => rfl, g67.tr h'⟩)
    · exact RunW_in0 (slice_front (e := 9) (by kernel_rfl) size9 _ _ _ _ _ (by have := ht.cap; omega)) <| opL_in <| fin _ _ ⟨fun _ => rfl, g53⟩
  · subst hb49
    simp only [decide_eq_false_iff_not, Int.ofNat_lt] at hb
    rw [List.drop_of_length_le (by omega), namesOk] at hnm
    refine BdO_in ht.n259 <| opL_in <| BdO_in ht.n260 <| opL_in <| Bd_in fun x84 hx84 => ?_
    have h1 : 1 ≤ t.tg.length := by
      have : dRight t.dm t.nx t.tg = true := by
        unfold tHead at hH; cases h : dRight t.dm t.nx t.tg <;> rw [h] at hH <;> simp at hH ⊢
      exact (dRight_tags this).2.2.1
    refine (f154_ok t.tg p.ta p.tc w46.drew (ht.tg.md g46.drew.1) ht.tgl h1).call g46.drew.2 ?_
    rintro v w' ⟨x, rfl, hx⟩ h'
    refine opI_in <| Bd_in fun b88 hb88 => ⟨?_, (g46.drew.tr h').1⟩
    unfold tRight tTags
    rw [hH, hnm, hb88, hx84]
    congr 1
    rw [Bool.eq_iff_iff]
    simp [hx]
theorem f133_ok (dm : Int) (next tags : List Int) (na ta : Option Addr) (nc tc : Nat) (w : World) (hn : RowAt w na 1 i1 next) (ht : RowAt w ta 1 i1 tags) (hnl : next.length < 2 ^ 63) (htl : tags.length < 2 ^ 63) :
    Ct Try.prog 133 #[.agg #[.int .i64 dm, .slice na next.length nc, .slice ta tags.length tc]] w fun v w' => v = .bool (dRight dm next tags) ∧ Md [] w w' := by
  apply f133_in
  intro n1 hn1
  refine Bd_in fun b2 hb2 => Bd_in fun b3 hb3 => Bd_in fun b4 hb4 => Bd_in fun x5 hx5 => Bd_in fun b6 hb6 => Bd_in fun b7 hb7 => Bd_in fun x8 hx8 => Bd_in fun b9 hb9 => Bd_in fun b10 hb10 => Bd_in fun x11 hx11 => Bd_in fun x12 hx12 => Bd_in fun x13 hx13 => Bd_in fun b14 hb14 => Bd_in fun b15 hb15 => ?_
  have e15 : b15 = !decide (1 ≤ dm ∧ dm ≤ 256 ∧ 1 ≤ tags.length ∧ tags.length ≤ 5000 ∧ (next.length : Int) = dm * tags.length) := by
    rw [hb15, hb14, hb10, hb9, hb7, hb6, hb4, hb3, hb2, hx5, hx8, hx11]
    by_cases h1 : 1 ≤ dm
    · by_cases h2 : dm ≤ 256
      · by_cases h3 : 1 ≤ tags.length
        · by_cases h4 : tags.length ≤ 5000
          · rw [hx13, hx12, mul_i64 h1 h2 h4]
            have a1 : ¬ dm < 1 := by omega
            have a2 : ¬ 256 < dm := by omega
            have a3 : ¬ (tags.length : Int) < 1 := by omega
            have a4 : ¬ (5000 : Int) < (tags.length : Int) := by omega
            simp only [a1, a2, a3, a4, gt_iff_lt, decide_false, cond_false, h1, h2, h3, h4, true_and]
            by_cases h5 : (next.length : Int) = dm * tags.length <;> simp [h5]
          · have a4 : (5000 : Int) < (tags.length : Int) := by omega
            simp [h4, a4]
        · have a3 : (tags.length : Int) < 1 := by omega
          simp [h3, a3]
      · have a2 : 256 < dm := by omega
        simp [h2, a2]
    · have a1 : dm < 1 := by omega
      simp [h1, a1]
  refine If_in (fun h w14 h14 hL14 => ⟨?_, h14⟩) fun h w16 h16 hL16 => ?_
  · unfold dRight
    rw [(not_eq_of e15).1 h]; rfl
  have hd := (not_eq_of e15).2 h
  refine LoopP_in (fun m us vs w' => ∃ i : Nat, us = [.bool false, .int .i64 i] ∧ m = tags.length - i ∧ i ≤ tags.length ∧ (tags.take i).all (fun x => decide (-1 ≤ x ∧ x < 200)) = true ∧ Md [] w w') tags.length ⟨0, rfl, rfl, by omega, by simp, h16⟩ ?_
  rintro m us vs w21 ⟨i, rfl, rfl, hi, hall, h21⟩
  refine opB_in <| opI_in <| Bd_in fun x24 hx24 => Bd_in fun b25 hb25 => If_in (fun hb => ?_) fun hb => ?_
  · rw [hb25, hx24] at hb
    simp only [decide_eq_true_eq, Int.ofNat_lt] at hb
    refine ⟨ht.ix hb, (ht.md h21).ld1 hb rfl ?_⟩
    refine opI_in <| Bd_in fun b28 hb28 => ⟨fun _ => ht.ix hb, ?_⟩
    refine Gd_to (fun x w' => (b28 = false → x = tags[i]) ∧ Md [] w w') (fun x33 w34 hJ => ?_) (fun fin hc => (ht.md h21).ld1 hb rfl <| opI_in <| fin _ _ ⟨fun _ => rfl, h21⟩) (fun hc => ⟨fun h => by simp [h] at hc, h21⟩)
    obtain ⟨hx33, h34⟩ := hJ
    refine Bd_in fun b35 hb35 => Bd_in fun b36 hb36 => ?_
    have e36 : b36 = !decide (-1 ≤ tags[i] ∧ tags[i] < 200) := by
      rw [hb36, hb35]
      cases hc : b28 with
      | true =>
        rw [hc] at hb28
        have : tags[i] < -1 := by simpa using hb28.symm
        simp; omega
      | false =>
        rw [hc] at hb28
        rw [hx33 hc]
        have : ¬ tags[i] < -1 := by simpa using hb28.symm
        by_cases h2 : tags[i] > 199 <;> simp [h2] <;> omega
    refine If_in (fun h => ⟨?_, h34⟩) fun h => Bd_in fun x29 hx29 => ?_
    · have : (tags.all fun x => decide (-1 ≤ x ∧ x < 200)) = false := all_false hb ((not_eq_of e36).1 h)
      unfold dRight
      rw [this]; simp
    · rw [inc_len hb htl] at hx29
      subst hx29
      exact ⟨tags.length - (i + 1), by omega, i + 1, rfl, rfl, by omega, all_take hb hall ((not_eq_of e36).2 h), h34⟩
  · rw [hb25, hx24] at hb
    simp only [decide_eq_false_iff_not, Int.ofNat_lt] at hb
    rw [List.take_of_length_le (by omega)] at hall
    refine LoopP_in (fun m us vs w' => ∃ i : Nat, us = [.bool false, .int .i64 i] ∧ m = next.length - i ∧ i ≤ next.length ∧ (next.take i).all (fun x => decide (-1 ≤ x ∧ x < tags.length)) = true ∧ Md [] w w') next.length ⟨0, rfl, rfl, by omega, by simp, h21⟩ ?_
    rintro m us vs w41 ⟨j, rfl, rfl, hj, hall2, h41⟩
    refine opB_in <| opI_in <| Bd_in fun x44 hx44 => Bd_in fun b45 hb45 => If_in (fun hb => ?_) fun hb => ⟨?_, h41⟩
    · rw [hb45, hx44] at hb
      simp only [decide_eq_true_eq, Int.ofNat_lt] at hb
      refine ⟨fun w' => Md [] w w', h41.trans (Md_drew _), hn.ix hb, .int .i64 next[j], fun w' hw' => (hn.md hw').ld1 hb rfl rfl, opI_in <| Bd_in fun b52 hb52 => ⟨fun _ => hn.ix hb, next[j], fun _ w' hw' => (hn.md hw').ld1 hb rfl rfl, Bd_in fun x59 hx59 => Bd_in fun b60 hb60 => Bd_in fun b61 hb61 => ?_⟩⟩
      have e61 : b61 = !decide (-1 ≤ next[j] ∧ next[j] < tags.length) := by
        rw [hb61, hb60, hb52, hx59]
        by_cases h1 : next[j] < -1 <;> by_cases h2 : next[j] ≥ tags.length <;> simp [h1, h2] <;> omega
      refine If_in (fun h => ⟨?_, h41.trans (Md_drew _)⟩) fun h => Bd_in fun x43 hx43 => ?_
      · have : (next.all fun x => decide (-1 ≤ x ∧ x < tags.length)) = false := all_false hb ((not_eq_of e61).1 h)
        unfold dRight
        rw [this]; simp
      · rw [inc_len hb hnl] at hx43
        subst hx43
        exact ⟨next.length - (j + 1), by omega, j + 1, rfl, rfl, by omega, all_take hb hall2 ((not_eq_of e61).2 h), h41.trans (Md_drew _)⟩
    · rw [hb45, hx44] at hb
      simp only [decide_eq_false_iff_not, Int.ofNat_lt] at hb
      rw [List.take_of_length_le (by omega)] at hall2
      unfold dRight
      rw [hd, hall, hall2]; rfl
theorem in133 {L : List Nat} {w0 w : World} {K : Bool → World → Prop} {t : Tb} {p : TbS} (ht : TbAt w0 t p) (h : Good L w0 w) (k : ∀ w', Good L w0 w' → K (dRight t.dm t.nx t.tg) w') :
    CallW Try.prog L 133 #[.agg #[.int .i64 t.dm, .slice p.na t.nx.length p.nc, .slice p.ta t.tg.length p.tc]] (fun v w' => opB v fun b => K b w') w := by
  refine (f133_ok t.dm t.nx t.tg p.na p.ta p.nc p.tc w (ht.nx.md h.1) (ht.tg.md h.1) ht.nxl ht.tgl).call h.2 ?_
  rintro v w' rfl h'
  exact opB_in (k w' (h.tr h'))
theorem memB_step {s x : ByteArray} {l : List ByteArray} : memB s (l ++ [x]) = (memB s l || decide (x = s)) := by simp [memB]
theorem f56_ok (t : Tb) (p : TbS) (w : World) (ht : TbAt w t p) : Ct Try.prog 56 #[.agg (t.v p)] w fun v w' => v = .bool (tRight t) ∧ Md [] w w' := by
  apply f56_in
  intro n1 hn1
  refine ⟨by rw [ht.size]; omega, Bd_in fun cs2 hcs2 => ?_⟩
  rw [ht.front] at hcs2
  subst hcs2
  refine ⟨ht.ok.size, fun w3 h3 hL3 => ?_⟩
  have g3 : Good [n1] w w3 := ⟨h3, hL3⟩
  refine in45 t.c ht.ok g3 fun w5 g5 => ?_
  rw [← right_iff ht.ok]
  refine Bd_in fun b7 hb7 => ⟨fun _ => by rw [ht.size]; omega, Bd_in fun cs9 hcs9 => ?_⟩
  rw [ht.mid] at hcs9
  subst hcs9
  refine Gd_to (fun b w' => (b7 = false → b = dRight t.dm t.nx t.tg) ∧ Good [n1] w w') (fun b14 w15 hJ => ?_) (fun fin hc => in133 ht g5 fun w' g' => fin _ _ ⟨fun _ => rfl, g'⟩) (fun hc => ⟨fun h => by simp [h] at hc, g5⟩)
  obtain ⟨hb14, g15⟩ := hJ
  refine Bd_in fun b16 hb16 => Bd_in fun b17 hb17 => ⟨fun _ => ht.i256.1, Bd_in fun x19 hx19 => ⟨fun _ => ht.i257.1, Bd_in fun x21 hx21 => Bd_in fun b22 hb22 => Bd_in fun b23 hb23 => ?_⟩⟩
  have e23 : b23 = !(t.c.right && dRight t.dm t.nx t.tg && decide (t.c.m = t.dm)) := by
    rw [hb23, hb22, hb17, hb16, hx21, hx19, ht.i256.2, ht.i257.2]
    have e1 : (t.c.m != t.dm) = !decide (t.c.m = t.dm) := by rw [Bool.eq_iff_iff]; simp
    rw [e1]
    cases hc : b7 with
    | true =>
      rw [hc] at hb7
      have : t.c.right = false := by simpa using hb7.symm
      rw [this]; simp
    | false =>
      rw [hc] at hb7
      have : t.c.right = true := by simpa using hb7.symm
      rw [this, hb14 hc]
      cases dRight t.dm t.nx t.tg <;> cases decide (t.c.m = t.dm) <;> simp
  refine If_in (fun h => ⟨?_, g15.1⟩) fun h => BdO_in ht.n260 <| opL_in <| Bd_in fun x28 hx28 => Bd_in fun b29 hb29 => ⟨p.sa, t.nm.length, p.sc, fun _ => ht.n260, Bd_in fun x34 hx34 => Bd_in fun b35 hb35 => Bd_in fun b36 hb36 => ?_⟩
  · unfold tRight tHead; rw [(not_eq_of e23).1 h]; rfl
  have hH1 := (not_eq_of e23).2 h
  have e36 : b36 = !decide (1 ≤ t.nm.length ∧ t.nm.length ≤ 200) := by
    rw [hb36, hb35, hb29, hx34, hx28, Bool.eq_iff_iff]
    generalize t.nm.length = n
    by_cases h1 : n = 0
    · subst h1; simp
    · have h1' : ((n : Int) == 0) = false := by simpa using h1
      rw [h1']
      simp
      omega
  refine If_in (fun h => ⟨?_, g15.1⟩) fun h => ?_
  · unfold tRight tHead; rw [(not_eq_of e36).1 h]; simp
  have hH : tHead t = true := by unfold tHead; rw [hH1, (not_eq_of e36).2 h]; rfl
  refine LoopP_in (fun m us vs w' => ∃ i : Nat, us = [.bool false, .int .i64 i] ∧ m = t.nm.length - i ∧ i ≤ t.nm.length ∧ namesOk [] t.nm = namesOk (t.nm.take i) (t.nm.drop i) ∧ Good [n1] w w') t.nm.length ⟨0, rfl, rfl, by omega, by simp, g15⟩ ?_
  rintro m us vs w40 ⟨i, rfl, rfl, hi, hnm, g40⟩
  refine opB_in <| opI_in <| BdO_in ht.n260 <| opL_in <| Bd_in fun x47 hx47 => Bd_in fun b48 hb48 => If_in (fun hb => ?_) fun hb => ?_
  · rw [hb48, hx47] at hb
    simp only [decide_eq_true_eq, Int.ofNat_lt] at hb
    refine BdO_in ht.n260 <| opL_in ⟨ht.nm.ix hb, (ht.nm.md g40.1).ld1 hb rfl <| opStr_in ?_⟩
    have hsz := ht.nsz _ (List.getElem_mem hb)
    refine Bd_in fun x55 hx55 => Bd_in fun b56 hb56 => ⟨p.sa, t.nm.length, p.sc, fun _ => ht.n260, fun _ => ht.nm.ix hb, ?_⟩
    refine Gd_to (fun s w' => (b56 = false → s = t.nm[i]) ∧ Good [n1] w w') (fun s65 w66 hJ => ?_) (fun fin hc => (ht.nm.md g40.1).ld1 hb rfl <| opStr_in <| fin _ _ ⟨fun _ => rfl, g40⟩) (fun hc => ⟨fun h => by simp [h] at hc, g40⟩)
    obtain ⟨hs65, g66⟩ := hJ
    refine Gd_to (fun b w' => (b56 = false → b = (nmFrom t.nm[i] 0 && decide (1 ≤ t.nm[i].size))) ∧ Good [n1] w w') (fun b71 w72 hJ => ?_) (fun fin hc => ?_) (fun hc => ⟨fun h => by simp [h] at hc, g66⟩)
    · obtain ⟨hb71, g72⟩ := hJ
      refine Bd_in fun b73 hb73 => Bd_in fun b74 hb74 => ?_
      have e74 : b74 = !named t.nm[i] := by
        rw [hb74, hb73]
        unfold named
        rw [hx55] at hb56
        cases hc : b56 with
        | true =>
          rw [hc] at hb56
          have : ¬ t.nm[i].size ≤ 64 := by have : (t.nm[i].size : Int) > 64 := by simpa using hb56.symm
                                           omega
          simp [this]
        | false =>
          rw [hc] at hb56
          have : t.nm[i].size ≤ 64 := by have : ¬ (t.nm[i].size : Int) > 64 := by simpa using hb56.symm
                                         omega
          rw [hb71 hc]; simp [this]
      have hstep : namesOk [] t.nm = (named t.nm[i] && !memB t.nm[i] (t.nm.take i) && namesOk (t.nm.take (i + 1)) (t.nm.drop (i + 1))) := by
        rw [hnm, List.drop_eq_getElem_cons hb, namesOk, List.take_succ_eq_append_getElem hb]
      refine If_in (fun h => ⟨?_, g72.1⟩) fun h => ?_
      · unfold tRight; rw [hstep, (not_eq_of e74).1 h]; simp
      have hnmd := (not_eq_of e74).2 h
      refine LoopP_in (fun m us vs w' => ∃ k : Nat, us = [.bool false, .int .i64 k] ∧ m = i - k ∧ k ≤ i ∧ memB t.nm[i] (t.nm.take k) = false ∧ Good [n1] w w') i ⟨0, rfl, rfl, by omega, by simp [memB], g72⟩ ?_
      rintro m us vs w78 ⟨k, rfl, rfl, hk, hmem, g78⟩
      refine opB_in <| opI_in <| Bd_in fun b81 hb81 => If_in (fun h => ?_) fun h => Bd_in fun x103 hx103 => ?_
      · subst hb81
        simp only [decide_eq_true_eq, Int.ofNat_lt] at h
        have hkl : k < t.nm.length := by omega
        refine ⟨fun w' => Md [] w w', (g78.1.trans (Md_drew _)), BdO_in ht.n260 <| opL_in ⟨ht.nm.ix hkl, .string t.nm[k], fun w' hw' => (ht.nm.md hw').ld1 hkl rfl rfl, opStr_in <| BdO_in ht.n260 <| opL_in ⟨ht.nm.ix hb, .string t.nm[i], fun w' hw' => (ht.nm.md hw').ld1 hb rfl rfl, opStr_in <| Bd_in fun b101 hb101 => ?_⟩⟩⟩
        rw [str_eq] at hb101
        have hst : memB t.nm[i] (t.nm.take (k + 1)) = decide (t.nm[k] = t.nm[i]) := by
          rw [List.take_succ_eq_append_getElem hkl, memB_step, hmem]; rfl
        refine If_in (fun he => ⟨?_, g78.drew.1⟩) fun he => Bd_in fun x102 hx102 => ?_
        · have : memB t.nm[i] (t.nm.take i) = true := by
            rw [memB_iff]
            rw [hb101, decide_eq_true_eq] at he
            rw [← he]
            exact List.mem_take_iff_getElem.2 ⟨k, by omega, rfl⟩
          unfold tRight; rw [hstep, this]; simp
        · rw [inc_len hkl ht.nml] at hx102
          subst hx102
          exact ⟨i - (k + 1), by omega, k + 1, rfl, rfl, by omega, by rw [hst, ← hb101, he], g78.drew⟩
      · subst hb81
        simp only [decide_eq_false_iff_not, Int.ofNat_lt] at h
        have : k = i := by omega
        subst this
        rw [inc_len hb ht.nml] at hx103
        subst hx103
        exact ⟨t.nm.length - (k + 1), by omega, k + 1, rfl, rfl, by omega, by rw [hstep, hnmd, hmem]; rfl, g78⟩
    · rw [hs65 (by simpa using hc)]
      exact in155 _ hsz g66 fun w' g' => fin _ _ ⟨fun _ => rfl, g'⟩
  · rw [hb48, hx47] at hb
    simp only [decide_eq_false_iff_not, Int.ofNat_lt] at hb
    rw [List.drop_of_length_le (by omega), namesOk] at hnm
    refine LoopP_in (fun m us vs w' => ∃ i : Nat, us = [.bool false, .int .i64 i] ∧ m = t.tg.length - i ∧ i ≤ t.tg.length ∧ (t.tg.take i).all (fun x => decide (x < (t.nm.length : Int))) = true ∧ Good [n1] w w') t.tg.length ⟨0, rfl, rfl, by omega, by simp, g40⟩ ?_
    rintro m us vs w107 ⟨j, rfl, rfl, hj, hall, g107⟩
    refine opB_in <| opI_in <| BdO_in ht.n259 <| opL_in <| Bd_in fun x114 hx114 => Bd_in fun b115 hb115 => If_in (fun h => ?_) fun h => ⟨?_, g107.1⟩
    · rw [hb115, hx114] at h
      simp only [decide_eq_true_eq, Int.ofNat_lt] at h
      refine ⟨fun w' => Md [] w w', (g107.1.trans (Md_drew _)), BdO_in ht.n259 <| opL_in ⟨ht.tg.ix h, .int .i64 t.tg[j], fun w' hw' => (ht.tg.md hw').ld1 h rfl rfl, opI_in <| BdO_in ht.n260 <| opL_in <| Bd_in fun x130 hx130 => Bd_in fun b131 hb131 => ?_⟩⟩
      have e131 : b131 = !decide (t.tg[j] < (t.nm.length : Int)) := by
        rw [hb131, hx130, Bool.eq_iff_iff]; simp
      refine If_in (fun he => ⟨?_, g107.drew.1⟩) fun he => Bd_in fun x132 hx132 => ?_
      · have : tTags t = false := all_false h ((not_eq_of e131).1 he)
        unfold tRight; rw [this]; simp
      · rw [inc_len h ht.tgl] at hx132
        subst hx132
        exact ⟨t.tg.length - (j + 1), by omega, j + 1, rfl, rfl, by omega, all_take h hall ((not_eq_of e131).2 he), g107.drew⟩
    · rw [hb115, hx114] at h
      simp only [decide_eq_false_iff_not, Int.ofNat_lt] at h
      rw [List.take_of_length_le (by omega)] at hall
      unfold tRight
      rw [hH, hnm, show tTags t = true from hall]; rfl
/-- Where a state comes to. -/
def tStep (t : Tb) (st : Int) (b : Nat) : Int := if tRight t = true ∧ 0 ≤ st ∧ st < t.tg.length then t.nx.getD ((st * t.dm).toNat + t.c.f.getD b 0) (-1) else -1
theorem right_class {c : Cl} (hc : c.ok) (h : c.right = true) {i : Nat} (hi : i < c.f.length) : (c.f[i] : Int) < c.m := by
  rw [right_iff hc] at h
  simp only [Cl.rightR, Bool.and_eq_true, List.all_eq_true, decide_eq_true_eq] at h
  exact h.1.2 _ (List.getElem_mem hi)
theorem step_in {t : Tb} (hc : t.c.ok) {st : Int} {b : Nat} (hb : b < 256) (hr : tRight t = true) (h0 : 0 ≤ st) (h1 : st < t.tg.length) :
    ∃ (x : Nat) (hx : (st * t.dm).toNat + x < t.nx.length), t.c.f[b]? = some x ∧ IntKind.wrap .i64 (st * t.dm) = (((st * t.dm).toNat : Nat) : Int) ∧ x < 256 ∧ (st * t.dm).toNat < 2 ^ 40 ∧ tStep t st b = t.nx[(st * t.dm).toNat + x] := by
  have hh : tHead t = true := by unfold tRight at hr; simp at hr; exact hr.1.1
  unfold tHead at hh
  simp only [Bool.and_eq_true, decide_eq_true_eq] at hh
  obtain ⟨⟨⟨hcr, hdr⟩, hm⟩, _⟩ := hh
  obtain ⟨d1, d2, d3, d4, d5⟩ := dRight_tags hdr
  have hbl : b < t.c.f.length := by rw [hc.len]; exact hb
  have hcl := right_class hc hcr hbl
  have e1 : 0 ≤ st * t.dm := Int.mul_nonneg h0 (by omega)
  have e2 : st * t.dm ≤ 5000 * 256 := Int.mul_le_mul (by omega) d2 (by omega) (by omega)
  have e3 : (st + 1) * t.dm ≤ (t.tg.length : Int) * t.dm := Int.mul_le_mul_of_nonneg_right (by omega) (by omega)
  have e4 : (st + 1) * t.dm = st * t.dm + t.dm := by rw [Int.add_mul, Int.one_mul]
  have e5 : (t.tg.length : Int) * t.dm = t.nx.length := by rw [d5, Int.mul_comm]
  generalize hP : st * t.dm = P at *
  have hlt : P.toNat + t.c.f[b] < t.nx.length := by omega
  refine ⟨t.c.f[b], hlt, List.getElem?_eq_getElem hbl, by rw [IntKind.wrap_i64]; omega, hc.lt b hbl, by omega, ?_⟩
  unfold tStep
  rw [if_pos ⟨hr, h0, h1⟩, hP]
  simp [List.getD, List.getElem?_eq_getElem hbl, hlt]
section
variable {L : List Nat} {w0 w : World} {K : Bool → World → Prop}
theorem in55 {t : Tb} {p : TbS} (ht : TbAt w0 t p) (h : Good L w0 w) (k : ∀ w', Good L w0 w' → K (tRight t) w') :
    CallW Try.prog L 55 #[.agg (t.v p)] (fun v w' => opB v fun b => K b w') w := by
  refine (f55_ok t p w (ht.md h.1)).call h.2 ?_
  rintro v w' rfl h'
  exact opB_in (k w' (h.tr h'))
theorem in56 {t : Tb} {p : TbS} (ht : TbAt w0 t p) (h : Good L w0 w) (k : ∀ w', Good L w0 w' → K (tRight t) w') :
    CallW Try.prog L 56 #[.agg (t.v p)] (fun v w' => opB v fun b => K b w') w := by
  refine (f56_ok t p w (ht.md h.1)).call h.2 ?_
  rintro v w' rfl h'
  exact opB_in (k w' (h.tr h'))
end
theorem f57_ok (t : Tb) (p : TbS) (st : Int) (b : Nat) (hb : b < 256) (w : World) (ht : TbAt w t p) : Ct Try.prog 57 #[.agg (t.v p), .int .i64 st, .int .u8 b] w fun v w' => v = .int .i64 (tStep t st b) ∧ Md [] w w' := by
  apply f57_in
  intro n1 hn1
  refine ⟨ht.size, fun w2 h2 hL2 => ?_⟩
  have g2 : Good [n1] w w2 := ⟨h2, hL2⟩
  refine in55 ht g2 fun w4 g4 => ?_
  refine Bd_in fun b6 hb6 => Bd_in fun b7 hb7 => Bd_in fun b8 hb8 => ⟨p.ta, t.tg.length, p.tc, fun _ => ht.n259, Bd_in fun x13 hx13 => Bd_in fun b14 hb14 => Bd_in fun b15 hb15 => ?_⟩
  have e15 : b15 = !decide (tRight t = true ∧ 0 ≤ st ∧ st < t.tg.length) := by
    rw [hb15, hb14, hb8, hb7, hb6, hx13]
    cases tRight t <;> by_cases h1 : st < 0 <;> by_cases h2 : st ≥ t.tg.length <;> simp [h1, h2] <;> omega
  refine If_in (fun h => ⟨?_, g4.1⟩) fun h => ?_
  · have := (not_eq_of e15).1 h
    rw [decide_eq_false_iff_not] at this
    unfold tStep; rw [if_neg this]
  have := (not_eq_of e15).2 h
  rw [decide_eq_true_eq] at this
  obtain ⟨hr, h0, h1⟩ := this
  obtain ⟨x, hx, hfx, hwr, hx2, hpb, hst⟩ := step_in ht.ok hb hr h0 h1
  have hby := ht.byte hb
  have hxe : t.c.f[b]'(by rw [ht.ok.len]; exact hb) = x := by
    have := List.getElem?_eq_getElem (l := t.c.f) (i := b) (by rw [ht.ok.len]; exact hb)
    rw [this] at hfx; exact Option.some.inj hfx
  rw [hxe] at hby
  refine ⟨fun w' => Md [] w w', g4.1.trans (Md_drew _), BdO_in ht.n258 <| opL_in <| BdO_in ht.n257 <| opI_in <| Bd_in fun x23 hx23 => ⟨⟨by omega, by omega⟩, BdO_in hby <| opI_in <| Bd_in fun x26 hx26 => Bd_in fun x27 hx27 => ?_⟩⟩
  have e27 : x27 = (((st * t.dm).toNat + x : Nat) : Int) := by
    rw [hx27, hx26, hx23, hwr, wrap_byte hx2, IntKind.wrap_i64]; omega
  subst e27
  refine ⟨ht.nx.ix hx, .int .i64 t.nx[(st * t.dm).toNat + x], fun w' hw' => (ht.nx.md hw').ld1 hx rfl rfl, opI_in ⟨by rw [hst], g4.1.trans (Md_drew _)⟩⟩
theorem f58_ok (t : Tb) (p : TbS) (st : Int) (b : Nat) (hb : b < 256) (w : World) (ht : TbAt w t p) : Ct Try.prog 58 #[.agg (t.v p), .int .i64 st, .int .u8 b] w fun v w' => v = .int .i64 (tStep t st b) ∧ Md [] w w' := by
  apply f58_in
  intro n1 hn1
  refine ⟨ht.size, fun w2 h2 hL2 => ?_⟩
  have g2 : Good [n1] w w2 := ⟨h2, hL2⟩
  refine in56 ht g2 fun w4 g4 => ?_
  refine Bd_in fun b6 hb6 => Bd_in fun b7 hb7 => Bd_in fun b8 hb8 => ⟨p.ta, t.tg.length, p.tc, fun _ => ht.n259, Bd_in fun x13 hx13 => Bd_in fun b14 hb14 => Bd_in fun b15 hb15 => ?_⟩
  have e15 : b15 = !decide (tRight t = true ∧ 0 ≤ st ∧ st < t.tg.length) := by
    rw [hb15, hb14, hb8, hb7, hb6, hx13]
    cases tRight t <;> by_cases h1 : st < 0 <;> by_cases h2 : st ≥ t.tg.length <;> simp [h1, h2] <;> omega
  refine If_in (fun h => ⟨?_, g4.1⟩) fun h => ?_
  · have := (not_eq_of e15).1 h
    rw [decide_eq_false_iff_not] at this
    unfold tStep; rw [if_neg this]
  have := (not_eq_of e15).2 h
  rw [decide_eq_true_eq] at this
  obtain ⟨hr, h0, h1⟩ := this
  obtain ⟨x, hx, hfx, hwr, hx2, hpb, hst⟩ := step_in ht.ok hb hr h0 h1
  have hby := ht.byte hb
  have hxe : t.c.f[b]'(by rw [ht.ok.len]; exact hb) = x := by
    have := List.getElem?_eq_getElem (l := t.c.f) (i := b) (by rw [ht.ok.len]; exact hb)
    rw [this] at hfx; exact Option.some.inj hfx
  rw [hxe] at hby
  refine ⟨⟨by omega, by omega⟩, BdO_in hby <| opI_in <| Bd_in fun x18 hx18 => BdO_in ht.n258 <| opL_in <| BdO_in ht.n257 <| opI_in <| Bd_in fun x25 hx25 => Bd_in fun x26 hx26 => ?_⟩
  have e26 : x26 = (((st * t.dm).toNat + x : Nat) : Int) := by
    rw [hx26, hx25, hx18, hwr, wrap_byte hx2, IntKind.wrap_i64]; omega
  subst e26
  refine ⟨ht.nx.ix hx, (ht.nx.md g4.1).ld1 hx rfl <| opI_in ⟨by rw [hst], g4.1⟩⟩
/-- What is small enough. -/
structure Tb.few (t : Tb) : Prop where
  nm : t.nm.length ≤ 20
  sz : ∀ s ∈ t.nm, s.size ≤ 100
  tg : t.tg.length ≤ 60
  nx : t.nx.length ≤ 2400
theorem f53_ok (t : Tb) (p : TbS) (w : World) (ht : TbAt w t p) : Ct Try.prog 53 #[.agg (t.v p)] w fun v w' => (∃ b, v = .bool b ∧ (b = true → t.few)) ∧ Md [] w w' := by
  apply f53_in
  intro n1 hn1
  refine BdO_in ht.n260 <| opL_in <| Bd_in fun x6 hx6 w7 h7 hL7 => ?_
  subst hx6
  have g7 : Good [n1] w w7 := ⟨h7, hL7⟩
  refine LoopP_in (fun m us vs w' => ∃ i : Nat, us = [.bool false, .int .i64 i] ∧ m = t.nm.length - i ∧ i ≤ t.nm.length ∧ i ≤ 20 ∧ (∀ s ∈ t.nm.take i, s.size ≤ 100) ∧ Good [n1] w w') t.nm.length ⟨0, rfl, rfl, by omega, by omega, by simp, g7⟩ ?_
  rintro m us vs w11 ⟨i, rfl, rfl, hi, hi2, hall, g11⟩
  refine opB_in <| opI_in <| Bd_in fun b14 hb14 => If_in (fun hb => ?_) fun hb => ?_
  · subst hb14
    simp only [decide_eq_true_eq, Int.ofNat_lt] at hb
    refine ⟨ht.nm.ix hb, (ht.nm.md g11.1).ld1 hb rfl <| opStr_in <| Bd_in fun b17 hb17 => Bd_in fun x18 hx18 => Bd_in fun b19 hb19 => Bd_in fun b20 hb20 => ?_⟩
    refine If_in (fun h => ⟨⟨false, rfl, fun h => by cases h⟩, g11.1⟩) fun h => Bd_in fun x21 hx21 => ?_
    rw [hb20, hb19, hb17, hx18] at h
    have h1 : i < 20 ∧ t.nm[i].size ≤ 100 := by
      by_cases h1 : (i : Int) ≥ 20 <;> by_cases h2 : (t.nm[i].size : Int) > 100 <;> simp [h1, h2] at h <;> omega
    rw [inc_len hb ht.nml] at hx21
    subst hx21
    refine ⟨t.nm.length - (i + 1), by omega, i + 1, rfl, rfl, by omega, by omega, ?_, g11⟩
    intro s hs
    rw [List.take_succ_eq_append_getElem hb, List.mem_append, List.mem_singleton] at hs
    rcases hs with hs | rfl
    · exact hall s hs
    · exact h1.2
  · subst hb14
    simp only [decide_eq_false_iff_not, Int.ofNat_lt] at hb
    rw [List.take_of_length_le (by omega)] at hall
    refine ⟨by rw [ht.size]; omega, Bd_in fun cs22 hcs => ?_⟩
    rw [ht.mid] at hcs
    subst hcs
    refine opI_in ?_
    refine opL_in ?_
    refine opL_in ?_
    refine SzIs_in rfl ?_
    refine (f90_ok t.dm p.na p.ta t.nx.length p.nc t.tg.length p.tc w11).call g11.2 ?_
    rintro v w' rfl h'
    refine opB_in ⟨⟨_, rfl, fun h => ?_⟩, (g11.tr h').1⟩
    simp only [Bool.and_eq_true, decide_eq_true_eq] at h
    exact ⟨by omega, hall, h.1, h.2⟩
/-- Two tables are the same: f63. -/
theorem f63_ok (t u : Tb) (p q : TbS) (w : World) (ht : TbAt w t p) (hu : TbAt w u q) : Ct Try.prog 63 #[.agg (t.v p), .agg (u.v q)] w fun v w' => (∃ b, v = .bool b ∧ (b = true ↔ t = u)) ∧ Md [] w w' := by
  apply f63_in
  intro n1 hn1 n2 hn2
  refine ⟨by rw [ht.size]; omega, Bd_in fun cs3 hcs3 => ?_⟩
  rw [ht.front] at hcs3
  subst hcs3
  refine ⟨ht.ok.size, by rw [hu.size]; omega, Bd_in fun cs4 hcs4 => ?_⟩
  rw [hu.front] at hcs4
  subst hcs4
  refine ⟨hu.ok.size, fun w5 h5 hL5 => ?_⟩
  have g5 : Good [n2, n1] w w5 := ⟨h5, hL5⟩
  refine RunW_in0 (eqS_of (by kernel_rfl) (eqCl w5 ht.ok hu.ok) _ _).1 ?_
  refine opB_in ⟨fun _ => by rw [ht.size]; omega, Bd_in fun cs10 hcs10 => ⟨fun _ => by rw [hu.size]; omega, Bd_in fun cs12 hcs12 => ?_⟩⟩
  rw [ht.mid] at hcs10
  rw [hu.mid] at hcs12
  subst hcs10; subst hcs12
  generalize hb8 : (decide (t.c.f = u.c.f) && decide (t.c.m = u.c.m)) = b8
  refine Gd_to (fun b w' => (b8 = true → b = (decide (t.dm = u.dm) && decide (t.nx = u.nx) && decide (t.tg = u.tg))) ∧ Good [n2, n1] w w') (fun b17 w18 hJ => ?_) (fun fin hc => ?_) (fun hc => ⟨fun h => (by rw [h] at hc; cases hc), g5⟩)
  · obtain ⟨hb17, g18⟩ := hJ
    refine Bd_in fun b19 hb19 => ⟨p.sa, t.nm.length, p.sc, fun _ => ht.n260, q.sa, u.nm.length, q.sc, fun _ => hu.n260, ?_⟩
    have e19 : b19 = (b8 && (decide (t.dm = u.dm) && decide (t.nx = u.nx) && decide (t.tg = u.tg))) := by
      rw [hb19]
      cases hc : b8 with
      | false => rfl
      | true => rw [hb17 hc]; rfl
    refine Gd_to (fun b w' => (b19 = true → b = decide (t.nm = u.nm)) ∧ Good [n2, n1] w w') (fun b32 w33 hJ => ?_) (fun fin hc => ?_) (fun hc => ⟨fun h => (by rw [h] at hc; cases hc), g18⟩)
    · obtain ⟨hb32, g33⟩ := hJ
      refine Bd_in fun b34 hb34 => ⟨⟨_, rfl, ?_⟩, g33.1⟩
      have e34 : b34 = (b19 && decide (t.nm = u.nm)) := by
        rw [hb34]
        cases hc : b19 with
        | false => rfl
        | true => rw [hb32 hc]; rfl
      rw [e34, e19, ← hb8]
      simp only [Bool.and_eq_true, decide_eq_true_eq]
      constructor
      · rintro ⟨⟨⟨h1, h2⟩, ⟨h3, h4⟩, h5⟩, h6⟩
        obtain ⟨⟨f, m⟩, dm, nx, tg, nm⟩ := t
        obtain ⟨⟨f', m'⟩, dm', nx', tg', nm'⟩ := u
        simp only at h1 h2 h3 h4 h5 h6
        subst h1; subst h2; subst h3; subst h4; subst h5; subst h6
        rfl
      · rintro rfl; simp
    · refine (f160_ok t.nm u.nm p.sa q.sa p.sc q.sc w18 (ht.nm.md g18.1) (hu.nm.md g18.1) ht.nml).call g18.2 ?_
      rintro v w' rfl h'
      exact opB_in (fin _ _ ⟨fun _ => rfl, g18.tr h'⟩)
  · refine (f96_ok t.dm u.dm t.nx u.nx t.tg u.tg p.na p.ta q.na q.ta p.nc p.tc q.nc q.tc w5 (ht.nx.md h5) (ht.tg.md h5) (hu.nx.md h5) (hu.tg.md h5) ht.nxl ht.tgl).call hL5 ?_
    rintro v w' rfl h'
    exact opB_in (fin _ _ ⟨fun _ => rfl, g5.tr h'⟩)
end Fk
