/- Contracts of functions, and plain laws: several texts, joined. -/
import Derived.Test.YtpgjpgecgibklaaGR5
import Derived.Test.YtpgjpgecgibklaaGV2
set_option linter.unusedVariables false
set_option linter.unusedSimpArgs false
set_option maxRecDepth 100000
set_option maxHeartbeats 4000000
namespace Fk
open Go Go.Proofs Go.RowKit
def L15 (L : List Nat) (u1 u2 : Nat) (cs cc : Array Value) (ta : Option Addr) (tn fn : Nat) (nm : ByteArray) (at0 hiN : Int) (R : Value → World → Prop) (w : World) : Prop :=
  LoopP (fun l101 l102 J103 w104 => opI IntKind.i64 (nthD l101 (0 : Nat)) fun x105 => opI IntKind.i64 (nthD l101 (1 : Nat)) fun x106 => Bd (decide (x106 < hiN)) fun b107 => If b107
  (IxOk x106 tn ta ∧ Ld w104 (adAt ta x106 (1 : Nat)) fun v108 => opI IntKind.i64 v108 fun x109 => Bd (if x109 > x105 then x109 else x105) fun x110 => Bd (IntKind.wrap IntKind.i64
  (x106 + (1 : Int))) fun x111 => J103 [Value.int IntKind.i64 x110, Value.int IntKind.i64 x111] [] w104) (BdO (nthV (Array.toList cs) (260 : Nat)) fun v112 => opL v112 fun a113 n114
  n115 => Bd (if (0 : Int) > x105 then (0 : Int) else x105) fun x116 => RunW Try.prog L (Instr.sliceAt (55 : Nat) (Value.slice a113 n114 n115) none (some (Value.int IntKind.i64
  x116)) none) (fun v117 w118 => opL v117 fun a119 n120 n121 => LeC (261 : Nat) (Array.size cs) (Jn (fun l122 l123 w124 => opBig (nthD l123 (0 : Nat)) fun cs125 => Array.size cs =
  (261 : Nat) ∧ Rg w124 fun n126 => OkC (Array.toList cs) (261 : Nat) (Up [n126] (n126 :: L) w124 fun w127 => Nw (Obj.cells #[] (9 : Nat)) w127 fun n128 w129 => BdO (nthV
  (Array.toList cs) (260 : Nat)) fun v130 => opL v130 fun a131 n132 n133 => RunW Try.prog (n126 :: L) (Builtin.append_ #[(55 : Nat), (55 : Nat)] (55 : Nat) #[Value.slice (some
  (Addr.mk n128 (0 : Nat) none)) (0 : Nat) (0 : Nat), Value.slice a131 n132 n133]) (fun v134 w135 => opL v134 fun a136 n137 n138 => LeC (261 : Nat) (Array.size cs) (Bd (IntKind.wrap
  IntKind.i64 at0) fun x139 => Bd ((fn : Nat) : Int) fun x140 => x140 ≠ (0 : Int) ∧ Bd (Int.tmod x139 x140) fun x141 => BdO (nthV (wrL (Array.toList cs) (260 : Nat) [Value.slice a136
  n137 n138]) (260 : Nat)) fun v142 => opL v142 fun a143 n144 n145 => IxOk x141 n144 a143 ∧ Up [n126] (n126 :: L) w135 fun w146 => ¬Addr.block (adAt a143 x141 (1 : Nat)) ∈ (n126 ::
  L) ∧ Wr w146 (adAt a143 x141 (1 : Nat)) (1 : Nat) ∧ BdO (nthV (Array.toList cs) (260 : Nat)) fun v147 => opL v147 fun a148 n149 n150 => Bd ((n149 : Nat) : Int) fun x151 => LoopP
  (fun l152 l153 J154 w155 => opB (nthD l152 (0 : Nat)) fun b156 => opI IntKind.i64 (nthD l152 (1 : Nat)) fun x157 => Bd (decide (x157 < x151)) fun b158 => If b158 (IxOk x157 n149
  a148 ∧ Ld w155 (adAt a148 x157 (1 : Nat)) fun v159 => opStr v159 fun s160 => Bd (x157 != x141) fun b161 => Bd (ByteArray.toList s160 == ByteArray.toList nm) fun b162 => Bd (bif
  b161 then b162 else false) fun b163 => Bd (bif b156 then true else b163) fun b164 => Bd (IntKind.wrap IntKind.i64 (x157 + (1 : Int))) fun x165 => J154 [Value.bool b164, Value.int
  IntKind.i64 x165] [] w155) (BdO (nthV (wrL (Array.toList cs) (260 : Nat) [Value.slice a119 n120 n121]) (260 : Nat)) fun v166 => opL v166 fun a167 n168 n169 => Bd ((n168 : Nat) :
  Int) fun x170 => Bd (decide (x170 > x105)) fun b171 => ∃ a172 n173 n174, (b171 = true → nthV (wrL (Array.toList cs) (260 : Nat) [Value.slice a119 n120 n121]) (260 : Nat) = some
  (Value.slice a172 n173 n174)) ∧ Bd ((n173 : Nat) : Int) fun x176 => Bd (decide (x176 > (0 : Int))) fun b177 => Bd (bif b171 then b177 else false) fun b178 => ((!b178) = true →
  List.length (wrL (Array.toList cs) (260 : Nat) [Value.slice a119 n120 n121]) = (261 : Nat)) ∧ Gd (!b178) false (fun J180 => CallW Try.prog (n126 :: L) (55 : Nat) #[Value.agg
  (List.toArray (wrL (Array.toList cs) (260 : Nat) [Value.slice a119 n120 n121]))] (fun v181 w182 => opB v181 fun b183 => J180 b183 w182) w155) (fun b184 w185 => Bd (!b184) fun b186
  => Bd (bif b178 then true else b186) fun b187 => (b187 = true → isI IntKind.i64 (Array.toList cc) (256 : Nat)) ∧ Bd (rdI (Array.toList cc) (256 : Nat)) fun x189 => Bd (x189 == (256
  : Int)) fun b190 => ((b187 && !b190) = true → Array.size cs125 = (261 : Nat)) ∧ Gd (b187 && !b190) false (fun J192 => CallW Try.prog (n126 :: L) (55 : Nat) #[Value.agg cs125] (fun
  v193 w194 => opB v193 fun b195 => J192 b195 w194) w185) (fun b196 w197 => Bd (!b196) fun b198 => Bd (bif b190 then true else b198) fun b199 => Bd (bif b187 then b199 else false)
  fun b200 => (b200 = true → List.length (wrL (Array.toList cs) (260 : Nat) [Value.slice a136 n137 n138]) = (261 : Nat)) ∧ Gd b200 false (fun J202 => CallW Try.prog (n126 :: L) (55 :
  Nat) #[Value.agg (List.toArray (wrL (Array.toList cs) (260 : Nat) [Value.slice a136 n137 n138]))] (fun v203 w204 => opB v203 fun b205 => J202 b205 w204) w197) (fun b206 w207 => Gd
  b200 false (fun J208 => CallW Try.prog (n126 :: L) (87 : Nat) #[Value.string nm] (fun v209 w210 => opB v209 fun b211 => J208 b211 w210) w207) (fun b212 w213 => Bd (!b156) fun b214
  => Bd (bif b212 then b214 else false) fun b215 => Bd (b206 == b215) fun b216 => Bd (bif b200 then b216 else false) fun b217 => Gd b217 false (fun J218 => CallW Try.prog (n126 :: L)
  (54 : Nat) #[] (fun v219 w220 => opB v219 fun b221 => J218 b221 w220) w213) (fun b222 w223 => Bd (bif b217 then b222 else false) fun b224 => R (Value.bool b224) w223) w213) w207)
  w197) w185) w155)) [Value.bool false, Value.int IntKind.i64 (0 : Int)] [] (setCells w146 (adAt a143 x141 (1 : Nat)) (0 : Nat) [Value.string nm]))) w129)) fun J225 => Up [u1] L w118
  fun w226 => BdO (nthV (Array.toList cc) (256 : Nat)) fun v227 => opI IntKind.i64 v227 fun x228 => Bd (IntKind.wrap IntKind.u8 x228) fun x229 => BdO (nthV (Array.toList cc) (256 :
  Nat)) fun v230 => opI IntKind.i64 v230 fun x231 => Bd (IntKind.wrap IntKind.i64 (x231 + (1 : Int))) fun x232 => LeC (256 : Nat) (Array.size cs) (Up [u2] L (World.drew w226) fun
  w233 => LeC (257 : Nat) (List.length (wrL (Array.toList cs) (255 : Nat) [Value.int IntKind.u8 x229])) (Up [u2] L w233 fun w234 => J225 [] [Value.agg (List.toArray (wrL (wrL
  (Array.toList cs) (255 : Nat) [Value.int IntKind.u8 x229]) (256 : Nat) [Value.int IntKind.i64 x232]))] w234)))) w104)) [Value.int IntKind.i64 (-1 : Int), Value.int IntKind.i64 (0 :
  Int)] [] w
theorem enc1_get {α : Type} {enc : α → List Value} (he : Enc 1 enc) : ∀ {l : List α} {j : Nat} {u : Value}, (l.flatMap enc)[j]? = some u → ∃ x, l[j]? = some x ∧ (enc x)[0]? = some u
  | [], j, u, h => by simp at h
  | x :: l, j, u, h => by
    have hl := he.len x
    rw [List.flatMap_cons] at h
    cases j with
    | zero =>
      rw [List.getElem?_append_left (by omega)] at h
      exact ⟨x, rfl, h⟩
    | succ j =>
      rw [List.getElem?_append_right (by omega), hl, Nat.add_sub_cancel] at h
      obtain ⟨y, hy, hu⟩ := enc1_get he (l := l) h
      exact ⟨y, by simpa using hy, hu⟩
/-- Behind a row come the elements of another one, from wherever they are read. -/
theorem app_row1 {α : Type} {t e : TypeId} {bytes : Nat} {enc : α → List Value} (T : RowT Try.prog t e 1 bytes) (he : Enc 1 enc) {w : World} {base : Nat} {a a2 : Option Addr} {c c2 : Nat} {l l2 : List α} {L : List Nat}
    (h : OwnL w base e 1 enc a c l) (h2 : RowAt w a2 1 enc l2) (h2n : a2 = none → c2 = 0 ∧ l2 = []) (hb : base ≤ w.heap.size) (hL : ∀ b ∈ L, b < w.heap.size) (hLa : ∀ b ∈ L, ∀ A, a = some A → A.block ≠ b)
    (hn : l.length + l2.length ≤ maxLen) (hby : (l.length + l2.length) * bytes ≤ 140737488355328) {K : Value → World → Prop}
    (k : ∀ (a' : Option Addr) (c' : Nat) (w' : World), OwnL w' base e 1 enc a' c' (l ++ l2) → Md (a.map (·.block)).toList w w' → (∀ A, a' = some A → a = some A ∨ w.heap.size ≤ A.block) → K (.slice a' (l ++ l2).length c') w') :
    RunW Try.prog L (Builtin.append_ #[t, t] t #[.slice a l.length c, .slice a2 l2.length c2]) K w := by
  cases ha2 : a2 with
  | none =>
    obtain ⟨rfl, rfl⟩ := h2n ha2
    obtain ⟨i, z, hi, hz, hs, hy, hzs⟩ := T.hi
    have := run_append_owned_none (P := Try.prog) w (ty := t) base t e i 1 T.ht hi _ _ _ h
    refine RunW_in0 this ?_
    have hk := k a c w (by simpa using h) (Md.refl _ _) (fun A hA => .inl hA)
    simpa using hk
  | some A2 =>
    subst ha2
    obtain ⟨a', c', w', hr, ho, hm, hA⟩ := run_app (ty := t) T h A2 l2.length c2 (l2.flatMap enc) (he.lenL l2) (fun j u hu => by
      obtain ⟨x, hx, hu0⟩ := enc1_get he hu
      obtain ⟨B, hB, hc⟩ := h2 j x hx
      injection hB with hB
      subst hB
      have := hc 0 _ hu0
      rw [add_add] at this
      simpa using this) (he.oneL l2) hn hby hb
    refine RunW_in hr (fun b hbL => hm.blk b (hL b hbL) fun hmem => ?_) ?_
    · cases a with
      | none => simp at hmem
      | some A => simp at hmem; exact hLa b hbL A rfl hmem.symm
    · have := k a' c' w' (by unfold OwnL; rw [List.flatMap_append, List.length_append]; exact ho) hm hA
      rwa [List.length_append] at this
theorem wr_nm (t : Tb) (p : TbS) (h : t.c.ok) (a : Option Addr) (c : Nat) (x : List ByteArray) : wrL (Array.toList (t.v p)) 260 [.slice a x.length c] = Tb.l ⟨t.c, t.dm, t.nx, t.tg, x⟩ ⟨p.na, p.nc, p.ta, p.tc, a, c⟩ := by
  have hl : (t.l p).length = 261 := Tb.len h.len
  rw [show Array.toList (t.v p) = t.l p from rfl, wrL_one _ _ _ (by omega)]
  simp [Tb.l, Tb.d, Cl.l, List.set_append, h.len]
theorem wr_255 (t : Tb) (p : TbS) (h : t.c.ok) (x : Nat) : wrL (Array.toList (t.v p)) 255 [.int .u8 (x : Int)] = Tb.l ⟨⟨t.c.f.set 255 x, t.c.m⟩, t.dm, t.nx, t.tg, t.nm⟩ p := by
  have hl : (t.l p).length = 261 := Tb.len h.len
  rw [show Array.toList (t.v p) = t.l p from rfl, wrL_one _ _ _ (by omega)]
  exact Tb.setB h.len (by omega) x
theorem wr_256 (t : Tb) (p : TbS) (h : t.c.f.length = 256) (m : Int) : wrL (t.l p) 256 [.int .i64 m] = Tb.l ⟨⟨t.c.f, m⟩, t.dm, t.nx, t.tg, t.nm⟩ p := by
  have hl : (t.l p).length = 261 := Tb.len h
  rw [wrL_one _ _ _ (by omega)]
  simp [Tb.l, Tb.d, Cl.l, List.set_append, h]
theorem tHead_nm (t : Tb) (h : t.nm.length < 1) : tRight t = false := by
  unfold tRight tHead
  rw [decide_eq_false (show ¬ (1 ≤ t.nm.length ∧ t.nm.length ≤ 200) by omega)]
  simp
theorem tTags_no (t : Tb) {x : Int} (hx : x ∈ t.tg) (h : (t.nm.length : Int) ≤ x) : tRight t = false := by
  unfold tRight tTags
  have : (t.tg.all fun x => decide (x < (t.nm.length : Int))) = false := by
    rw [List.all_eq_false]
    exact ⟨x, hx, by simp; exact h⟩
  rw [this]; simp
theorem tHead_m (t : Tb) (h : t.c.m ≠ t.dm) : tRight t = false := by
  unfold tRight tHead
  rw [decide_eq_false h]
  simp
theorem in55t {L : List Nat} {w0 w : World} {t : Tb} {p : TbS} (cs : Array Value) (hcs : cs = t.v p) (ht : TbAt w t p) (h : Good L w0 w) {K : Bool → World → Prop} (kk : ∀ w', Good L w0 w' → Md [] w w' → K (tRight t) w') : CallW Try.prog L 55 #[.agg cs] (fun v w' => opB v fun b => K b w') w := by
  subst hcs
  refine (f55_ok t p w ht).call h.2 ?_
  rintro v w' rfl h'
  exact opB_in (kk w' (h.tr h') h')
theorem in54 {L : List Nat} {w0 w : World} (h : Good L w0 w) {K : Bool → World → Prop} (kk : ∀ w', Good L w0 w' → K true w') : CallW Try.prog L 54 #[] (fun v w' => opB v fun b => K b w') w := by
  refine (f54_ok w).call h.2 ?_
  rintro v w' rfl h'
  exact opB_in (kk w' (h.tr h'))
theorem l15_ok {w0 wT w : World} {L : List Nat} {u1 u2 : Nat} (f : Fo) (d : Dm) (O : OfOk f d) (h6 : f.len ≤ 6) (p : TbS) (nm : ByteArray) (hnm : nm.size ≤ 70) (at0 : Int) (ha0 : 0 ≤ at0) (ha1 : at0 < 256) {R : Value → World → Prop}
    (T : TbAt wT (tOf f d (names8.take f.len)) p) (hsn : p.sa ≠ none) (h0 : Md [] w0 wT) (hm : Md [] wT w) (hu1 : wT.heap.size ≤ u1) (hu2 : wT.heap.size ≤ u2) (hL : ∀ b ∈ L, b < w.heap.size)
    (hR : ∀ w', Md [] w0 w' → R (.bool true) w') :
    L15 L u1 u2 ((tOf f d (names8.take f.len)).v p) (clOf f.sets).v p.ta d.2.2.length f.len nm at0 (d.2.2.length : Int) R w := by
  unfold L15
  have hnl : (names8.take f.len).length = f.len := by rw [List.length_take]; show min f.len 8 = f.len; omega
  have D := drOk O.dr
  have hokc := O.ok
  generalize ht : tOf f d (names8.take f.len) = t at *
  have tc : t.c = clOf f.sets := by rw [← ht]; rfl
  have ttg : t.tg = d.2.2 := by rw [← ht]; rfl
  have tnm : t.nm = names8.take f.len := by rw [← ht]; rfl
  have tnl : t.nm.length = f.len := by rw [tnm, hnl]
  have hlen1 := O.len
  have tn2 := D.t2
  have hsz := T.size
  have n260 := T.n260
  have htgr : RowAt wT p.ta 1 i1 d.2.2 := by have := T.tg; rwa [ttg] at this
  have gL : ∀ {w' : World}, Md [] wT w' → (∀ b ∈ L, b < w'.heap.size) → Good L wT w' := fun h1 h2 => ⟨h1, h2⟩
  refine LoopP_in (fun mm us vs w' => ∃ (i : Nat) (h : Int), us = [.int .i64 h, .int .i64 i] ∧ mm = d.2.2.length - i ∧ i ≤ d.2.2.length ∧ -1 ≤ h ∧ (h = -1 ∨ h ∈ d.2.2) ∧ w' = w) d.2.2.length
    ⟨0, -1, rfl, rfl, by omega, by omega, .inl rfl, rfl⟩ ?_
  rintro mm us vs w104 ⟨i, h, rfl, hmm, hi, hlo, hin, rfl⟩
  refine opI_in <| opI_in <| Bd_in fun b107 hb107 => If_in (fun hb => ?_) fun hb => ?_
  · have hit : i < d.2.2.length := by rw [hb107] at hb; have : (i : Int) < (d.2.2.length : Int) := of_decide_eq_true hb
                                      omega
    have hx := D.tag _ (List.getElem_mem hit)
    refine ⟨htgr.ix hit, (htgr.md hm).ld1 hit rfl <| opI_in <| Bd_e rfl <| Bd_e (inc_i64 (by omega)) ⟨d.2.2.length - (i + 1), by omega, i + 1, _, rfl, rfl, by omega, ?_, ?_, rfl⟩⟩
    · split <;> omega
    · split
      · exact .inr (List.getElem_mem hit)
      · exact hin
  obtain ⟨k, hk⟩ : ∃ k : Nat, (if (0 : Int) > h then (0 : Int) else h) = (k : Int) := ⟨h.toNat, by split <;> omega⟩
  have hkh : (h < 0 ∧ k = 0) ∨ (0 ≤ h ∧ (k : Int) = h) := by
    by_cases c : (0 : Int) > h
    · rw [if_pos c] at hk; exact .inl ⟨c, by omega⟩
    · rw [if_neg c] at hk; exact .inr ⟨by omega, hk.symm⟩
  have hkn : k < f.len + 1 := by
    rcases hkh with ⟨_, rfl⟩ | ⟨h1, h2⟩
    · omega
    · rcases hin with h3 | h3
      · omega
      · have := O.tag _ h3; omega
  have hcap := T.cap
  refine BdO_in n260 <| opL_in <| Bd_e hk ?_
  refine RunW_in0 (slice_front (e := 9) (by kernel_rfl) size9 _ _ _ _ _ (by omega)) <| opL_in <| LeC_in (by omega) ?_
  have hfew : tRight ⟨t.c, t.dm, t.nx, t.tg, t.nm.take k⟩ = false := by
    rcases hkh with ⟨_, rfl⟩ | ⟨h1, h2⟩
    · exact tHead_nm _ (by simp)
    · rcases hin with h3 | h3
      · omega
      · refine tTags_no _ (x := h) (by simp only; rw [ttg]; exact h3) ?_
        simp only [List.length_take]; omega
  have htkl : (t.nm.take k).length = k := by rw [List.length_take]; omega
  have ef : wrL (Array.toList (t.v p)) 260 [.slice p.sa k p.sc] = Tb.l ⟨t.c, t.dm, t.nx, t.tg, t.nm.take k⟩ ⟨p.na, p.nc, p.ta, p.tc, p.sa, p.sc⟩ := by
    have := wr_nm t p T.ok p.sa p.sc (t.nm.take k)
    rwa [htkl] at this
  have Tf : ∀ {w' : World}, Md [] wT w' → TbAt w' ⟨t.c, t.dm, t.nx, t.tg, t.nm.take k⟩ ⟨p.na, p.nc, p.ta, p.tc, p.sa, p.sc⟩ := fun hm' =>
    ⟨T.ok, T.nx.md hm', T.tg.md hm', (T.nm.md hm').take k, T.nxl, T.tgl, by simp only; omega, fun s hs => T.nsz s (List.mem_of_mem_take hs), by simp only; omega⟩
  have hm0 : 1 ≤ t.c.m ∧ t.c.m ≤ 256 := by rw [tc]; exact right_m O.ok O.right
  have hdm : t.c.m = t.dm := by rw [tc, ← ht]; exact O.m
  obtain ⟨mx, hmx⟩ : ∃ mx : Nat, IntKind.wrap .u8 t.c.m = (mx : Int) ∧ mx < 256 := ⟨(IntKind.wrap .u8 t.c.m).toNat, by rw [IntKind.wrap_u8]; omega, by rw [IntKind.wrap_u8]; omega⟩
  have okm : Cl.ok ⟨t.c.f.set 255 mx, t.c.m + 1⟩ := ⟨by simp [T.ok.len], fun i hi => by
    simp only [List.length_set] at hi
    rw [List.getElem_set]
    split
    · exact hmx.2
    · exact T.ok.lt i hi, by simp only; omega, by simp only; omega⟩
  have Tm : ∀ {w' : World}, Md [] wT w' → TbAt w' ⟨⟨t.c.f.set 255 mx, t.c.m + 1⟩, t.dm, t.nx, t.tg, t.nm⟩ p := fun hm' =>
    ⟨okm, T.nx.md hm', T.tg.md hm', T.nm.md hm', T.nxl, T.tgl, T.nml, T.nsz, T.cap⟩
  have hmore : tRight ⟨⟨t.c.f.set 255 mx, t.c.m + 1⟩, t.dm, t.nx, t.tg, t.nm⟩ = false := tHead_m _ (by simp only; omega)
  have em : wrL (wrL (Array.toList (t.v p)) 255 [.int .u8 (mx : Int)]) 256 [.int .i64 (t.c.m + 1)] = Tb.l ⟨⟨t.c.f.set 255 mx, t.c.m + 1⟩, t.dm, t.nx, t.tg, t.nm⟩ p := by
    rw [wr_255 t p T.ok, wr_256 _ p (by simp [T.ok.len])]
  refine Jn_in (fun us vs w' => us = [] ∧ vs = [.agg (Tb.v ⟨⟨t.c.f.set 255 mx, t.c.m + 1⟩, t.dm, t.nx, t.tg, t.nm⟩ p)] ∧ Md [] wT w' ∧ (∀ b ∈ L, b < w'.heap.size)) ?_ ?_
  case refine_2 =>
    intro w226 h226 hL226
    have m226 : Md [] wT w226 := hm.old h226 (by simp; exact hu1)
    rw [← tc]
    refine BdO_in T.ok.many <| opI_in <| Bd_e hmx.1 <| BdO_in T.ok.many <| opI_in <| Bd_e (y := t.c.m + 1) (by rw [IntKind.wrap_i64]; omega) <| LeC_in (by omega) ?_
    intro w233 h233 hL233
    have m233 : Md [] wT w233 := (m226.trans (Md_drew _)).old h233 (by simp; exact hu2)
    refine LeC_in (by rw [wr_255 t p T.ok, Tb.len (by simp [T.ok.len])]; omega) ?_
    intro w234 h234 hL234
    rw [em]
    exact ⟨rfl, rfl, m233.old h234 (by simp; exact hu2), hL234⟩
  rintro us vs w124 ⟨rfl, rfl, m124, hL124⟩
  refine opBig_in ⟨hsz, ?_⟩
  intro n126 hn126
  have hokc : okCells (Array.toList (t.v p)) 261 = true := by
    have hl : (t.l p).length = 261 := Tb.len T.ok.len
    have : allOne (t.l p) = true := by simp [allOne, Tb.l, Tb.d, Cl.l, Value.oneCell']
    unfold okCells Tb.v
    rw [hl]; exact this
  refine OkC_in hokc fun w127 h127 hL127 => ?_
  have s124 := m124.size
  have hn126' : wT.heap.size ≤ n126 := by omega
  have m127 : Md [] wT w127 := m124.old h127 (by simp; exact hn126')
  refine Nw_i <| BdO_in n260 <| opL_in ?_
  have ma : Md [] w127 (w127.alloc (.cells #[] 9)) := Md.alloc w127 _
  have oE : OwnL (w127.alloc (.cells #[] 9)) w127.heap.size 9 1 s1 (some ⟨w127.heap.size, 0, none⟩) 0 [] := OwnL.lit (P := Try.prog) (base := w127.heap.size) encs1 w127 9 [] #[] (Nat.le_refl _) (by simp) rfl
  have mTa := m127.trans ma
  have hLa : ∀ b ∈ n126 :: L, b < (w127.alloc (.cells #[] 9)).heap.size := fun b hb => Nat.lt_of_lt_of_le (hL127 b hb) ma.size
  refine app_row1 rowT55 encs1 (l := []) oE (T.nm.md mTa) (fun e => absurd e hsn) ma.size hLa (fun b hb A hA e => by have := (oE.lt hA).1; have := hL127 b hb; omega) (by simp [maxLen]; omega) (by simp; omega) fun a136 c138 w135 o135 m135 hA135 => opL_in <| LeC_in (by omega) ?_
  simp only [List.nil_append] at o135 ⊢
  have md135 : Md [] wT w135 := mTa.old m135 (fun x hx => by obtain ⟨A, hA, rfl⟩ := mem_blk hx; have := (oE.lt hA).1; have := m127.size; omega)
  have en := wr_nm t p T.ok a136 c138 t.nm
  refine Bd_e (y := at0) (by rw [IntKind.wrap_i64]; omega) <| Bd_e rfl ⟨by omega, ?_⟩
  obtain ⟨k0, hk0, hk0l⟩ : ∃ k0 : Nat, Int.tmod at0 (f.len : Int) = (k0 : Int) ∧ k0 < f.len := by
    obtain ⟨n, rfl⟩ := Int.eq_ofNat_of_zero_le ha0
    exact ⟨n % f.len, rfl, Nat.mod_lt _ (by omega)⟩
  refine Bd_e hk0 ?_
  have Ln : ∀ (x : List ByteArray) (q : TbS), nthV (Tb.l ⟨t.c, t.dm, t.nx, t.tg, x⟩ q) 260 = some (.slice q.sa x.length q.sc) := fun x q => by
    simp only [nthV, Tb.l]
    rw [List.getElem?_append_right (by simp [Cl.l, T.ok.len])]
    simp [Cl.l, T.ok.len, Tb.d]
  rw [en]
  refine BdO_in (Ln _ _) <| opL_in ?_
  simp only
  have hk0n : k0 < t.nm.length := by omega
  refine ⟨(o135.row encs1).ix hk0n, fun w146 h146 hL146 => ?_⟩
  have o146 := o135.mdD h146 (fun A hA => by
    have := (o135.lt hA).1
    have := hL127 n126 (by simp)
    simp; omega)
  have md146 : Md [] wT w146 := md135.old h146 (by simp; exact hn126')
  obtain ⟨A, hA, p1, p2, p3, p4, p5, p6⟩ := o146.put encs1 (by omega) hk0n nm
  have s127 := m127.size
  refine ⟨by rw [p3]; intro hb; have := hL127 _ hb; omega, p4, BdO_in n260 <| opL_in <| Bd_e rfl ?_⟩
  have md147 : Md [] wT (setCells w146 (adAt a136 (k0 : Int) 1) 0 [.string nm]) := md146.old p6 (by simp; omega)
  have hL147 : ∀ b ∈ n126 :: L, b < (setCells w146 (adAt a136 (k0 : Int) 1) 0 [.string nm]).heap.size := fun b hb => Nat.lt_of_lt_of_le (hL146 b hb) p6.size
  change OwnL (setCells w146 (adAt a136 (k0 : Int) 1) 0 [.string nm]) _ 9 1 s1 a136 c138 (t.nm.set k0 nm) at p5
  generalize setCells w146 (adAt a136 (k0 : Int) 1) 0 [.string nm] = w147 at *
  refine LoopP_in (fun mm us vs w' => ∃ (i : Nat), us = [.bool ((List.range i).any fun j => decide (j ≠ k0) && decide (t.nm[j]? = some nm)), .int .i64 i] ∧ mm = t.nm.length - i ∧ i ≤ t.nm.length ∧ w' = w147) t.nm.length
    ⟨0, rfl, rfl, by omega, rfl⟩ ?_
  rintro m3 us vs w155 ⟨i, rfl, hm3, hi3, rfl⟩
  refine opB_in <| opI_in <| Bd_in fun b158 hb158 => If_in (fun hb => ?_) fun hb => ?_
  · have hin3 : i < t.nm.length := by rw [hb158] at hb; have : (i : Int) < (t.nm.length : Int) := of_decide_eq_true hb
                                      omega
    refine ⟨T.nm.ix hin3, (T.nm.md md147).ld1 hin3 rfl <| opStr_in <| Bd_in fun b161 hb161 => Bd_in fun b162 hb162 => Bd_in fun b163 hb163 => Bd_e (y := (List.range (i + 1)).any fun j => decide (j ≠ k0) && decide (t.nm[j]? = some nm)) ?_ <| Bd_e (inc_i64 (by omega)) ⟨t.nm.length - (i + 1), by omega, i + 1, rfl, rfl, by omega, rfl⟩⟩
    rw [List.range_succ, List.any_append, hb163, hb162, hb161, str_eq]
    have e1 : ((i : Int) != (k0 : Int)) = decide (i ≠ k0) := by rw [Bool.eq_iff_iff]; simp; omega
    rw [e1]
    have e2 : (decide (some t.nm[i] = some nm)) = decide (t.nm[i] = nm) := by simp
    simp only [List.any_cons, List.any_nil, Bool.or_false, List.getElem?_eq_getElem hin3, e2]
    cases (List.range i).any fun j => decide (j ≠ k0) && decide (t.nm[j]? = some nm) <;> cases decide (i ≠ k0) <;> cases decide (t.nm[i] = nm) <;> rfl
  have hie : i = t.nm.length := by
    have : ¬ (i : Int) < (t.nm.length : Int) := by rw [hb158] at hb; exact of_decide_eq_false hb
    omega
  subst hie
  have hset := namesOk_set (l := t.nm) (by rw [tnm]; exact names8_take _) hk0n nm
  generalize ((List.range t.nm.length).any fun j => decide (j ≠ k0) && decide (t.nm[j]? = some nm)) = twice at *
  rw [ef]
  refine BdO_in (Ln (t.nm.take k) ⟨p.na, p.nc, p.ta, p.tc, p.sa, p.sc⟩) <| opL_in <| Bd_e rfl <| Bd_in fun b171 hb171 => ⟨p.sa, (t.nm.take k).length, p.sc, fun _ => Ln _ _, Bd_e rfl <| Bd_in fun b177 hb177 => Bd_e (y := false) ?_ ⟨fun _ => Tb.len T.ok.len, Gd_t ?_⟩⟩
  · rw [hb177, hb171, htkl]
    rcases hkh with ⟨h1, rfl⟩ | ⟨h1, h2⟩
    · simp
    · rw [h2]; simp
  have g147 : Good (n126 :: L) wT w155 := ⟨md147, hL147⟩
  refine in55t _ rfl (Tf md147) g147 fun w182 g182 m182 => ?_
  rw [hfew]
  have i256 := O.ok.manyI
  refine Bd_e (y := true) rfl <| Bd_e (y := true) rfl ⟨fun _ => i256.1, Bd_e i256.2 <| Bd_in fun b190 hb190 => ⟨fun _ => (Tm g182.1).size, ?_⟩⟩
  refine Gd_to (fun b w' => (b190 = false → b = false) ∧ Good (n126 :: L) wT w' ∧ Md [] w155 w') (fun b196 w197 hJ => ?_) (fun f2 hc => in55t _ rfl (Tm g182.1) g182 fun w' g' m' => by rw [hmore]; exact f2 _ _ ⟨fun _ => rfl, g', m182.trans m'⟩) (fun hc => ⟨fun h => rfl, g182, m182⟩)
  obtain ⟨h196, g197, m197⟩ := hJ
  refine Bd_in fun b198 hb198 => Bd_e (y := true) ?_ <| Bd_e (y := true) rfl ⟨fun _ => Tb.len T.ok.len, Gd_t ?_⟩
  · cases h190 : b190 with
    | true => rfl
    | false => rw [hb198, h196 h190]; rfl
  have Tn : TbAt w197 ⟨t.c, t.dm, t.nx, t.tg, t.nm.set k0 nm⟩ ⟨p.na, p.nc, p.ta, p.tc, a136, c138⟩ :=
    ⟨T.ok, T.nx.md g197.1, T.tg.md g197.1, (p5.md m197).row encs1, T.nxl, T.tgl, by simp; omega, fun s hs => by
      rcases List.mem_or_eq_of_mem_set hs with h | h
      · exact T.nsz s h
      · rw [h]; omega, p5.cap⟩
  have hRn : tRight ⟨t.c, t.dm, t.nx, t.tg, t.nm.set k0 nm⟩ = namesOk [] (t.nm.set k0 nm) := by
    have := tOf_right O h6 (t.nm.set k0 nm) (by simp [tnl])
    rw [← this]
    congr 1
    rw [← ht]; rfl
  refine in55t _ (by unfold Tb.v; congr 1; unfold Tb.l Tb.d; simp) Tn g197 fun w204 g204 m204 => ?_
  rw [hRn, hset]
  refine Gd_t <| (f87_ok nm (by omega) w204).call g204.2 ?_
  rintro v w210 rfl m210
  refine opB_in <| Bd_in fun b214 hb214 => Bd_in fun b215 hb215 => Bd_e (y := true) ?_ <| Bd_e (y := true) rfl <| Gd_t <| in54 (g204.tr m210) fun w220 g220 => Bd_e (y := true) rfl (hR _ (h0.trans g220.1))
  rw [hb215, hb214]
  cases named nm <;> cases twice <;> rfl
end Fk
set_option linter.unusedVariables false
set_option linter.unusedSimpArgs false
set_option maxRecDepth 100000
set_option maxHeartbeats 4000000
namespace Fk
open Go Go.Proofs Go.RowKit
theorem z57_len : (zT.l zP).length = 261 := by kernel_rfl
theorem built57 (parts : List (Nat × Value)) : Try.prog.built 57 parts = Instr.fill (#[(0, 257), (257, 3), (260, 1)][·]?) (zT.l zP).toArray parts := by kernel_rfl
theorem build57g (w : World) (t : Tb) (p : TbS) (h : t.c.ok) : (Instr.build 57 #[(0, .agg t.c.v), (1, .agg #[.int .i64 t.dm, .slice p.na t.nx.length p.nc, .slice p.ta t.tg.length p.tc]), (2, .slice p.sa t.nm.length p.sc)]).run Try.prog w = .ok (.agg (t.v p)) w := by
  refine run_build w 57 _ _ ?_
  rw [built57]
  have hl : t.c.l.length = 257 := by simp [Cl.l, h.len]
  have hz := z57_len
  have k1 : (#[(0, 257), (257, 3), (260, 1)] : Array (Nat × Nat))[0]? = some (0, 257) := rfl
  have k2 : (#[(0, 257), (257, 3), (260, 1)] : Array (Nat × Nat))[1]? = some (257, 3) := rfl
  have k3 : (#[(0, 257), (257, 3), (260, 1)] : Array (Nat × Nat))[2]? = some (260, 1) := rfl
  have c1 : (Value.agg t.c.v).cells.toList = t.c.l := rfl
  have c2 : (Value.agg #[.int .i64 t.dm, .slice p.na t.nx.length p.nc, .slice p.ta t.tg.length p.tc]).cells.toList = t.d p := rfl
  have c3 : (Value.slice p.sa t.nm.length p.sc).cells.toList = [.slice p.sa t.nm.length p.sc] := rfl
  have w1 : (wrL (zT.l zP) 0 t.c.l).length = 261 := by rw [wrL_len (by rw [hl, hz]; omega), hz]
  have w2 : (wrL (wrL (zT.l zP) 0 t.c.l) 257 (t.d p)).length = 261 := by rw [wrL_len (by rw [w1]; simp [Tb.d]), w1]
  rw [show (#[(0, Value.agg t.c.v), (1, .agg #[.int .i64 t.dm, .slice p.na t.nx.length p.nc, .slice p.ta t.tg.length p.tc]), (2, .slice p.sa t.nm.length p.sc)] : Array (Nat × Value)).toList = [(0, Value.agg t.c.v), (1, .agg #[.int .i64 t.dm, .slice p.na t.nx.length p.nc, .slice p.ta t.tg.length p.tc]), (2, .slice p.sa t.nm.length p.sc)] from rfl]
  rw [fill_step' (off := 0) (size := 257) k1 (by show t.c.v.size = 257; exact h.size) (by rw [hz]; omega), c1]
  rw [fill_step' (off := 257) (size := 3) k2 rfl (by rw [w1]; simp [Value.cells]), c2]
  rw [fill_step' (off := 260) (size := 1) k3 rfl (by rw [w2]; simp [Value.cells]), c3]
  rw [Instr.fill]
  congr 2
  generalize zT.l zP = Z at *
  unfold Tb.l
  apply List.ext_getElem?
  intro j
  rw [wrL_get (by rw [w2]; simp), wrL_get (by rw [w1]; simp [Tb.d]), wrL_get (by rw [hl, hz]; omega)]
  have hd : (t.d p).length = 3 := rfl
  simp only [List.length_cons, List.length_nil, hl, hd]
  by_cases j1 : j < 257
  · rw [if_neg (by omega), if_neg (by omega), if_pos (by omega), List.getElem?_append_left (by omega)]; simp
  · by_cases j2 : j < 260
    · rw [if_neg (by omega), if_pos (by omega), List.getElem?_append_right (by omega), hl, List.getElem?_append_left (by omega)]
    · by_cases j3 : j = 260
      · subst j3
        rw [if_pos (by omega), List.getElem?_append_right (by omega), hl, List.getElem?_append_right (by omega)]
        simp [hd]
      · rw [if_neg (by omega), if_neg (by omega), if_neg (by omega), List.getElem?_append_right (by omega), hl, List.getElem?_append_right (by omega), hd]
        rw [List.getElem?_eq_none (by rw [hz]; omega), List.getElem?_eq_none (by simp; omega)]
theorem f15_ok (f : Fo) (A : Option Addr) (C : Nat) (nm : ByteArray) (at0 : Int) (ha0 : 0 ≤ at0) (ha1 : at0 < 256) (w : World) (hr : RepF w A 0 f) (hl : f.len < 2 ^ 63) :
    Ct Try.prog 15 #[.slice A f.len C, .string nm, .int .u8 at0] w fun v w' => v = .bool true ∧ Md [] w w' := by
  apply f15_in
  have g0 : Good [] w w := ⟨Md.refl _ _, by simp⟩
  have fin : ∀ {w' : World} {L : List Nat}, Good L w w' → (Value.bool true = .bool true ∧ Md [] w w') := fun h => ⟨rfl, h.1⟩
  refine Bd_e rfl <| Bd_in fun b2 hb2 => Bd_e rfl <| Bd_in fun b4 hb4 => Bd_in fun b5 hb5 => Bd_e rfl <| Bd_in fun b7 hb7 => Bd_in fun b8 hb8 => If_in (fun _ => in54 g0 fun w10 g10 => fin g10) fun hb => ?_
  have hcond : 1 ≤ f.len ∧ f.len ≤ 6 ∧ nm.size ≤ 70 := by
    rw [hb8, hb7, hb5, hb4, hb2] at hb
    by_cases c1 : (f.len : Int) = 0
    · simp [c1] at hb
    · by_cases c2 : (f.len : Int) > 6
      · simp [c2] at hb
      · by_cases c3 : (nm.size : Int) > 70
        · simp [c3] at hb
        · omega
  obtain ⟨h1, h6, h70⟩ := hcond
  refine Bd_e rfl ?_
  refine LoopP_in (fun mm us vs w' => ∃ (i : Nat) (b : Bool), us = [.bool b, .int .i64 i] ∧ mm = f.len - i ∧ i ≤ f.len ∧ Good [] w w' ∧ (f.drop i).size + 201 * i ≥ f.size) f.len
    ⟨0, _, rfl, rfl, by omega, g0, by simp [Fo.drop]⟩ ?_
  rintro mm us vs w16 ⟨i, b17, rfl, hmm, hi, g16, hsz⟩
  refine opB_in <| opI_in <| Bd_in fun b19 hb19 => If_in (fun hb => ?_) fun hb => ?_
  · have hil : i < f.len := by rw [hb19] at hb; have : (i : Int) < (f.len : Int) := of_decide_eq_true hb
                               omega
    obtain ⟨k, a, b, c, d, q, he, hqs⟩ := Fo.drop_cons f i hil
    refine kid_ld hr g16.1 he hil fun sa' sc' hql' hr' => rgU g16 fun n34 w35 g35 m35 => ?_
    refine (f84_ok q.size q k a b c d sa' sc' 200 w35 (Nat.le_refl _) (hr'.md g35.1) hql' (by omega) (by omega)).call g35.2 ?_
    rintro v w37 ⟨x, rfl, x1, x2, x3⟩ m37
    have g37 := g35.tr m37
    refine opI_in <| Bd_in fun b39 hb39 => If_in (fun _ => in54 g37 fun w41 g41 => fin g41) fun hb => ?_
    have hx : x ≤ 200 := by rw [hb39] at hb; have := of_decide_eq_false hb; omega
    have hq := x3 hx
    refine Bd_e (inc_i64 (by omega)) ⟨f.len - (i + 1), by omega, i + 1, b17, rfl, rfl, by omega, ⟨g37.1, by simp⟩, ?_⟩
    rw [he] at hsz
    simp only [Fo.size] at hsz
    omega
  have hil : i = f.len := by
    have : ¬ (i : Int) < (f.len : Int) := by rw [hb19] at hb; exact of_decide_eq_false hb
    omega
  subst hil
  rw [Fo.drop_all f _ (Nat.le_refl _)] at hsz
  simp only [Fo.size] at hsz
  refine in85 f A C 60 g16 (hr.md g16.1) (by omega) (by omega) fun a49 c51 na nc ta tc w45 g45 m45 o1 o2 o3 => ?_
  have hok0 := ofC_ok f
  refine ⟨hok0.size, fun n62 h62 n63 h63 n64 h64 => OkC_in hok0.cells <| Bd_in fun b65 hb65 => If_in (fun _ w66 h66 hL66 => ?_) fun hb w70 h70' hL70 => ?_⟩
  · have g66 := (g45.up (L' := [n64, n63, n62]) (by simp; omega) h66 hL66).1
    exact in54 g66 fun w68 g68 => fin g68
  have hB : ofB f 60 = true := by rw [hb65] at hb; simpa using hb
  obtain ⟨eC, O⟩ := ofB_ok hB
  rw [eC]
  generalize (ofD f 60).1 = d at *
  obtain ⟨g70, m70⟩ := g45.up (L' := [n64, n63, n62]) (by simp; omega) h70' hL70
  have nx70 := (o2.md m70).row enci1
  have tg70 := (o3.md m70).row enci1
  have D := drOk O.dr
  have dt2 := D.t2
  have dnl := D.nl
  have hnxl : d.2.1.length < 2 ^ 63 := by
    have : d.1 * (d.2.2.length : Int) ≤ 256 * 5000 := Int.mul_le_mul D.m2 (by omega) (by omega) (by omega)
    omega
  have hnl : (names8.take f.len).length = f.len := by rw [List.length_take]; show min f.len 8 = f.len; omega
  have tbl : ∀ {w' : World} {a : Option Addr}, Md [] w70 w' → RowAt w' a 1 s1 names8 → TbAt w' (tOf f d (names8.take f.len)) ⟨na, nc, ta, tc, a, 8⟩ := fun hm ha =>
    ⟨O.ok, nx70.md hm, tg70.md hm, ha.take f.len, hnxl, by show d.2.2.length < 2 ^ 63; omega, by show (names8.take f.len).length < 2 ^ 63; omega, fun s hs => by
      have : ∀ s ∈ names8, s.size < 2 ^ 63 := by decide
      exact this s (List.mem_of_mem_take hs), by show (names8.take f.len).length ≤ 8; omega⟩
  have hright : tRight (tOf f d (names8.take f.len)) = true := by rw [tOf_right O h6 _ hnl]; exact names8_take _
  have bv : ∀ (w' : World) (a : Option Addr), (Instr.build 57 #[(0, .agg (clOf f.sets).v), (1, .agg #[.int .i64 d.1, .slice na d.2.1.length nc, .slice ta d.2.2.length tc]), (2, .slice a f.len 8)]).run Try.prog w' = .ok (.agg ((tOf f d (names8.take f.len)).v ⟨na, nc, ta, tc, a, 8⟩)) w' := fun w' a => by
    have := build57g w' (tOf f d (names8.take f.len)) ⟨na, nc, ta, tc, a, 8⟩ O.ok
    simp only [tOf, hnl] at this
    exact this
  have sl : ∀ (w' : World) (a : Option Addr), (Instr.sliceAt 55 (.slice a 8 8) none (some (.int .i64 (f.len : Int))) none).run Try.prog w' = .ok (.slice a f.len 8) w' := fun w' a => slice_front (e := 9) (by kernel_rfl) size9 _ _ _ _ _ (by omega)
  have okc : ∀ (a : Option Addr), okCells (Array.toList ((tOf f d (names8.take f.len)).v ⟨na, nc, ta, tc, a, 8⟩)) 261 = true := fun a => by
    have hl : ((tOf f d (names8.take f.len)).l ⟨na, nc, ta, tc, a, 8⟩).length = 261 := Tb.len O.ok.len
    have : allOne ((tOf f d (names8.take f.len)).l ⟨na, nc, ta, tc, a, 8⟩) = true := by simp [allOne, Tb.l, Tb.d, Cl.l, Value.oneCell']
    unfold okCells Tb.v
    rw [hl]; exact this
  -- each of the orders in which the rest may come
  have copy := fun {wT w' : World} {L : List Nat} {u1 u2 : Nat} {a : Option Addr} (hT : Md [] w wT) (hw70 : Md [] w70 wT) (ha : RowAt wT a 1 s1 names8) (hsn : a ≠ none) (hm : Md [] wT w') (hu1 : wT.heap.size ≤ u1) (hu2 : wT.heap.size ≤ u2) (hL : ∀ b ∈ L, b < w'.heap.size) =>
    l15_ok (L := L) (u1 := u1) (u2 := u2) f d O h6 ⟨na, nc, ta, tc, a, 8⟩ nm h70 at0 ha0 ha1 (R := fun v w' => v = .bool true ∧ Md [] w w') (tbl hw70 ha) hsn hT hm hu1 hu2 hL (fun w' h => ⟨rfl, h⟩)
  refine ⟨O.ok.size, Bd_e rfl ⟨?_, ?_⟩⟩
  · refine (f86_ok w70.drew).call (g70.drew).2 ?_
    rintro v w73 ⟨a74, rfl, own74⟩ m73
    have g73 := g70.drew.tr m73
    refine opL_in ⟨_, fun w' _ => ⟨sl w' a74⟩, opL_in ⟨_, fun w' _ => ⟨bv w' a74⟩, opBig_in ⟨(tbl ((Md_drew w70).trans m73) (own74.row encs1)).size, ?_⟩⟩⟩
    have hsn : a74 ≠ none := by
      intro e
      rcases own74.2 with ⟨hv, hn⟩ | ⟨g, _, _, hv, _⟩
      · simp [names8] at hn
      · rw [e] at hv; simp at hv
    intro n87 h87 w88 h88 hL88
    have m88 : Md [] w73 w88 := h88
    refine OkC_in (okc a74) fun w89 h89 hL89 => ?_
    have m89 : Md [] w73 w89 := m88.old h89 (by simp; exact h87)
    have md89 : Md [] w70 w89 := ((Md_drew w70).trans m73).trans m89
    have g89 : Good [n87, n64, n63, n62] w w89 := ⟨g73.1.trans m89, hL89⟩
    have own89 := own74.md m89
    have T89 := tbl md89 (own89.row encs1)
    refine ⟨T89.size, in55t _ rfl T89 g89 fun w91 g91 m91 => ?_⟩
    rw [hright]
    refine Bd_e (y := false) rfl <| If_in (fun h => by cases h) fun _ => ⟨T89.size, T89.size, ?_, ?_⟩
    · have mq : Md [] w89 w91.drew := m91.trans (Md_drew _)
      intro n94 h94 w95 h95 hL95 n96 h96 w97 h97 hL97
      refine OkC_in (okc a74) fun w98 h98 hL98 => OkC_in (okc a74) fun w99 h99 hL99 => Bd_e rfl ?_
      have z1 := (mq).size
      have z2 := h95.size
      have m97 : Md [] w89 w97 := (mq.trans h95).trans h97
      have m99 : Md [] w89 w99 := (m97.old h98 (by simp; omega)).old h99 (by simp; omega)
      exact copy g89.1 md89 (own89.row encs1) hsn m99 (by omega) (by omega) hL99
    · have mq : Md [] w89 w91.drew := m91.trans (Md_drew _)
      intro n235 h235 w236 h236 hL236 n237 h237 w238 h238 hL238
      refine OkC_in (okc a74) fun w239 h239 hL239 => OkC_in (okc a74) fun w240 h240 hL240 => Bd_e rfl ?_
      have z1 := (mq).size
      have z2 := h236.size
      have m238 : Md [] w89 w238 := (mq.trans h236).trans h238
      have m240 : Md [] w89 w240 := (m238.old h239 (by simp; omega)).old h240 (by simp; omega)
      exact copy g89.1 md89 (own89.row encs1) hsn m240 (by omega) (by omega) hL240
  · intro n376 h376 w377 h377 hL377
    have m377 : Md [] w70 w377 := (Md_drew w70).trans h377
    have z0 : w70.heap.size ≤ n376 := h376
    refine (f86_ok w377).call hL377 ?_
    rintro v w379 ⟨a380, rfl, own380⟩ m379
    refine opL_in ⟨_, fun w' _ => ⟨sl w' a380⟩, opL_in ⟨_, fun w' _ => ⟨bv w' a380⟩, opBig_in ⟨(tbl (m377.trans m379) (own380.row encs1)).size, ?_⟩⟩⟩
    have hsn : a380 ≠ none := by
      intro e
      rcases own380.2 with ⟨hv, hn⟩ | ⟨g, _, _, hv, _⟩
      · simp [names8] at hn
      · rw [e] at hv; simp at hv
    have z1 := hL377 n376 (by simp)
    refine OkC_in (okc a380) fun w393 h393 hL393 => ?_
    have own393 := own380.mdD h393 (fun A hA => by have := (own380.lt hA).1; simp; omega)
    have md393 : Md [] w70 w393 := (m377.trans m379).old h393 (by simp; exact z0)
    have g393 : Good [n376, n64, n63, n62] w w393 := ⟨g70.1.trans md393, hL393⟩
    have T393 := tbl md393 (own393.row encs1)
    refine ⟨T393.size, in55t _ rfl T393 g393 fun w395 g395 m395 => ?_⟩
    rw [hright]
    refine Bd_e (y := false) rfl <| If_in (fun h => by cases h) fun _ => ⟨T393.size, T393.size, ?_, ?_⟩
    · have mq : Md [] w393 w395.drew := m395.trans (Md_drew _)
      intro n398 h398 w399 h399 hL399 n400 h400 w401 h401 hL401
      refine OkC_in (okc a380) fun w402 h402 hL402 => OkC_in (okc a380) fun w403 h403 hL403 => Bd_e rfl ?_
      have z1 := (mq).size
      have z2 := h399.size
      have m401 : Md [] w393 w401 := (mq.trans h399).trans h401
      have m403 : Md [] w393 w403 := (m401.old h402 (by simp; omega)).old h403 (by simp; omega)
      exact copy g393.1 md393 (own393.row encs1) hsn m403 (by omega) (by omega) hL403
    · have mq : Md [] w393 w395.drew := m395.trans (Md_drew _)
      intro n539 h539 w540 h540 hL540 n541 h541 w542 h542 hL542
      refine OkC_in (okc a380) fun w543 h543 hL543 => OkC_in (okc a380) fun w544 h544 hL544 => Bd_e rfl ?_
      have z1 := (mq).size
      have z2 := h540.size
      have m542 : Md [] w393 w542 := (mq.trans h540).trans h542
      have m544 : Md [] w393 w544 := (m542.old h543 (by simp; omega)).old h544 (by simp; omega)
      exact copy g393.1 md393 (own393.row encs1) hsn m544 (by omega) (by omega) hL544
end Fk
