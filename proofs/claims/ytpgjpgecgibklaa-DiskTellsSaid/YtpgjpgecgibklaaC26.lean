/- Contracts: a table's bytes. -/
import Derived.Test.YtpgjpgecgibklaaC25
import Derived.Test.YtpgjpgecgibklaaV4
import Derived.Lib.AppendStr
set_option linter.unusedVariables false
set_option linter.unusedSimpArgs false
set_option maxRecDepth 100000
namespace Fk
open Go Go.Proofs Go.RowKit
def encN (s : ByteArray) : List Nat := s.size :: bytesL s
def tagB (x : Int) : Nat := (x + 1).toNat
def encX (n : Int) : List Nat := [(n + 1).toNat / 256, (n + 1).toNat % 256]
def hdrL (t : Tb) : List Nat := [70, 84, 1, (t.dm - 1).toNat, t.tg.length / 256, t.tg.length % 256, t.nm.length]
/-- A table's bytes. -/
def packL (t : Tb) : List Nat := hdrL t ++ t.nm.flatMap encN ++ t.c.f ++ t.tg.map tagB ++ t.nx.flatMap encX
theorem wrap_u8 {x : Nat} (h : x < 256) : IntKind.wrap .u8 (x : Int) = x := by rw [IntKind.wrap_u8]; omega
theorem div_u8 {n : Nat} (h : n ≤ 5000) : IntKind.wrap .u8 (IntKind.wrap .i64 (Int.tdiv (n : Int) 256)) = ((n / 256 : Nat) : Int) := by
  have e : IntKind.wrap .i64 (Int.tdiv (n : Int) 256) = ((n / 256 : Nat) : Int) := by
    rw [Int.tdiv_eq_ediv_of_nonneg (by omega), IntKind.wrap_i64]; omega
  rw [e, wrap_u8 (by omega)]
theorem mod_u8 (n : Nat) : IntKind.wrap .u8 (Int.tmod (n : Int) 256) = ((n % 256 : Nat) : Int) := by
  have e : Int.tmod (n : Int) 256 = ((n % 256 : Nat) : Int) := by
    rw [Int.tmod_eq_emod_of_nonneg (by omega)]; omega
  rw [e, wrap_u8 (by omega)]
theorem nat_i64 {x : Int} (h1 : 0 ≤ x) (h2 : x < 2 ^ 40) : IntKind.wrap .i64 x = ((x.toNat : Nat) : Int) := by rw [IntKind.wrap_i64]; omega
theorem dec_u8 {d : Int} (h1 : 1 ≤ d) (h2 : d ≤ 256) : IntKind.wrap .u8 (IntKind.wrap .i64 (d - 1)) = (((d - 1).toNat : Nat) : Int) := by
  rw [nat_i64 (by omega) (by omega), wrap_u8 (by omega)]
theorem tag_u8 {x : Int} (h1 : -1 ≤ x) (h2 : x < 200) : IntKind.wrap .u8 (IntKind.wrap .i64 (x + 1)) = ((tagB x : Nat) : Int) := by
  unfold tagB
  rw [nat_i64 (by omega) (by omega), wrap_u8 (by omega)]
/-- What a right table is like. -/
structure RtF (t : Tb) : Prop where
  d1 : 1 ≤ t.dm
  d2 : t.dm ≤ 256
  m : t.c.m = t.dm
  tg1 : 1 ≤ t.tg.length
  tg2 : t.tg.length ≤ 5000
  nx : (t.nx.length : Int) = t.dm * t.tg.length
  nxl : t.nx.length ≤ 1280000
  n1 : 1 ≤ t.nm.length
  n2 : t.nm.length ≤ 200
  sz : ∀ s ∈ t.nm, s.size ≤ 64
  tag : ∀ x ∈ t.tg, -1 ≤ x ∧ x < 200
  nxt : ∀ x ∈ t.nx, -1 ≤ x ∧ x < 5000
theorem namesOk_sz : ∀ (l pre : List ByteArray), namesOk pre l = true → ∀ s ∈ l, s.size ≤ 64
  | [], _, _ => by simp
  | s :: l, pre, h => by
    unfold namesOk at h
    simp only [Bool.and_eq_true] at h
    intro x hx
    rcases List.mem_cons.1 hx with rfl | hx
    · have := h.1.1
      unfold named at this
      simp only [Bool.and_eq_true, decide_eq_true_eq] at this
      exact this.2
    · exact namesOk_sz l _ h.2 x hx
theorem RtF.of {t : Tb} (h : tRight t = true) : RtF t := by
  have h0 := h
  unfold tRight tHead at h
  simp only [Bool.and_eq_true, decide_eq_true_eq] at h
  obtain ⟨⟨⟨⟨⟨hc, hd⟩, hm⟩, hn⟩, hnm⟩, ht⟩ := h
  obtain ⟨d1, d2, d3, d4, d5⟩ := dRight_tags hd
  unfold dRight at hd
  simp only [Bool.and_eq_true, List.all_eq_true, decide_eq_true_eq] at hd
  refine ⟨d1, d2, hm, d3, d4, d5, ?_, hn.1, hn.2, namesOk_sz _ _ hnm, hd.1.2, fun x hx => ?_⟩
  · have : t.dm * (t.tg.length : Int) ≤ 256 * 5000 := Int.mul_le_mul d2 (by omega) (by omega) (by omega)
    omega
  · have := hd.2 x hx; omega
theorem flat_le {α : Type} {f : α → List Nat} {k : Nat} : ∀ {l : List α}, (∀ x ∈ l, (f x).length ≤ k) → (l.flatMap f).length ≤ l.length * k
  | [], _ => by simp
  | x :: l, h => by
    have h1 := h x (by simp)
    have h2 := flat_le (l := l) fun y hy => h y (List.mem_cons_of_mem _ hy)
    rw [List.flatMap_cons, List.length_append, List.length_cons, Nat.succ_mul]; omega
theorem bytesL_len (s : ByteArray) : (bytesL s).length = s.size := by unfold bytesL; rw [List.length_map]; rfl
theorem RtF.names {t : Tb} (h : RtF t) (i : Nat) : ((t.nm.take i).flatMap encN).length ≤ 200 * 65 := by
  have := flat_le (f := encN) (k := 65) (l := t.nm.take i) fun s hs => by
    have := h.sz s (List.mem_of_mem_take hs)
    simp [encN, bytesL_len]; omega
  have hl : (t.nm.take i).length ≤ 200 := by have := h.n2; rw [List.length_take]; omega
  have : (t.nm.take i).length * 65 ≤ 200 * 65 := Nat.mul_le_mul_right _ hl
  omega
theorem RtF.nexts {t : Tb} (h : RtF t) (i : Nat) : ((t.nx.take i).flatMap encX).length ≤ 2560000 := by
  have := flat_le (f := encX) (k := 2) (l := t.nx.take i) fun s hs => by simp [encX]
  have hl : (t.nx.take i).length ≤ 1280000 := by have := h.nxl; rw [List.length_take]; omega
  omega
/-! ### Bytes that are put down -/
structure PS (w2 w : World) (a : Option Addr) (c : Nat) (acc : List Nat) : Prop where
  md : Md [] w2 w
  own : OwnL w w2.heap.size 5 1 b1 a c acc
section
variable {w2 w : World} {a : Option Addr} {c : Nat} {acc : List Nat} {L : List Nat}
theorem PS.drew (S : PS w2 w a c acc) : PS w2 w.drew a c acc := ⟨S.md.trans (Md_drew _), S.own.md (Md_drew _)⟩
theorem PS.tr {w' : World} (S : PS w2 w a c acc) (h : Md [] w w') : PS w2 w' a c acc := ⟨S.md.trans h, S.own.md h⟩
theorem PS.blk (S : PS w2 w a c acc) : ∀ d ∈ (a.map (·.block)).toList, w2.heap.size ≤ d ∧ d < w.heap.size := by
  intro d hd
  cases ha : a with
  | none => rw [ha] at hd; simp at hd
  | some A => rw [ha] at hd; simp at hd; have := S.own.lt ha; omega
theorem PS.appC (S : PS w2 w a c acc) (A2 : Addr) (m c2 : Nat) (xs : List Nat) (hm : xs.length = m) (hn : ∀ (j x : Nat), xs[j]? = some x → w.cell? (A2.add j) = some (.int .u8 (x : Int))) (hL : ∀ b ∈ L, b < w2.heap.size) (hl : acc.length + m ≤ 2 ^ 40) {K : Value → World → Prop}
    (k : ∀ a' c' w', PS w2 w' a' c' (acc ++ xs) → Md (a.map (·.block)).toList w w' → K (.slice a' (acc ++ xs).length c') w') :
    RunW Try.prog L (Builtin.append_ #[51, 51] 51 #[.slice a acc.length c, .slice (some A2) m c2]) K w := by
  have hsz := S.md.size
  obtain ⟨a', c', w', hr, ho, hmd, hA⟩ := run_app (ty := 51) rowT51 S.own A2 m c2 (xs.flatMap b1) (by rw [encb1.lenL, hm]) (by
    intro j u hu
    have hj : j < xs.length := by have := (List.getElem?_eq_some_iff.1 hu).1; rw [encb1.lenL] at this; omega
    have := encb1.at xs j 0 xs[j] (List.getElem?_eq_getElem hj) (by omega)
    rw [Nat.mul_one, Nat.add_zero] at this
    rw [this] at hu
    rw [hn j xs[j] (List.getElem?_eq_getElem hj)]
    exact hu) (encb1.oneL xs) (by simp [maxLen]; omega) (by omega) hsz
  refine RunW_in hr (fun b hb => hmd.blk b (by have := hL b hb; omega) fun hmem => by have := (S.blk b hmem).1; have := hL b hb; omega) ?_
  have hPS : PS w2 w' a' c' (acc ++ xs) := ⟨S.md.old hmd fun d hd => (S.blk d hd).1, by unfold OwnL; rw [List.flatMap_append, List.length_append, hm]; exact ho⟩
  have := k a' c' w' hPS hmd
  rwa [List.length_append, hm] at this
theorem PS.appN (S : PS w2 w a c acc) (m : Nat) (xs : List Nat) (cs : Array Value) (hm : xs.length = m) (hcs : cs.toList = xs.flatMap b1) (hL : ∀ b ∈ L, b < w2.heap.size) (hl : acc.length + m ≤ 2 ^ 40) {K : Value → World → Prop}
    (k : ∀ a' c' w', PS w2 w' a' c' (acc ++ xs) → K (.slice a' (acc ++ xs).length c') w') :
    Nw (.cells cs 5) w fun b w' => RunW Try.prog L (Builtin.append_ #[51, 51] 51 #[.slice a acc.length c, .slice (some { block := b, off := 0 }) m m]) K w' := by
  intro b w1 e1 e2
  subst e1; subst e2
  refine (S.tr (Md.alloc w _)).appC _ m m xs hm ?_ hL hl fun a' c' w' S' _ => k a' c' w' S'
  intro j x hx
  have hj : j < xs.length := (List.getElem?_eq_some_iff.1 hx).1
  have h1 := encb1.at xs j 0 x hx (by omega)
  rw [Nat.mul_one, Nat.add_zero, ← hcs] at h1
  refine alloc_at w cs 5 0 j ?_
  rw [Nat.zero_add, ← Array.getElem?_toList, h1]; rfl
theorem strCells_b1 (s : ByteArray) : Lib.strCells s = (bytesL s).flatMap b1 := by
  unfold Lib.strCells bytesL
  generalize s.data.toList = l
  induction l with
  | nil => rfl
  | cons x l ih => rw [List.map_cons, ih]; rfl
theorem PS.appS (S : PS w2 w a c acc) (s : ByteArray) (hL : ∀ b ∈ L, b < w2.heap.size) (hl : acc.length + s.size ≤ 2 ^ 40) {K : Value → World → Prop}
    (k : ∀ a' c' w', PS w2 w' a' c' (acc ++ bytesL s) → K (.slice a' (acc ++ bytesL s).length c') w') :
    RunW Try.prog L (Builtin.append_ #[51, 9] 51 #[.slice a acc.length c, .string s]) K w := by
  have hsz := S.md.size
  have h5 : (Try.prog.info? 5).isSome = true := by kernel_rfl
  obtain ⟨i5, hi5⟩ := Option.isSome_iff_exists.1 h5
  have hz5 : (Try.prog.info? 5).bind (·.zero) = some (.int .u8 0) := by kernel_rfl
  have hs5 : (Try.prog.info? 5).map (fun i => (i.size, i.bytes)) = some (1, 1) := by kernel_rfl
  rw [hi5] at hz5 hs5
  simp only [Option.bind_some, Option.map_some, Option.some.injEq, Prod.mk.injEq] at hz5 hs5
  obtain ⟨v', w', hr, ho, hg, _⟩ := Lib.run_append_own_string (P := Try.prog) (w := w) w2.heap.size 51 9 51 5 i5 (by kernel_rfl) (by kernel_rfl) hi5 hz5 hs5.1 hs5.2 _ acc.length (acc.flatMap b1) S.own s (by simp [maxLen]; omega) (by omega) hsz
  obtain ⟨a', c', rfl⟩ := own_slice ho
  have hmd : Md (a.map (·.block)).toList w w' := by
    have := Md_of_grown hg
    have e : (Value.slice a acc.length c).ownBlock = a.map (·.block) := by cases a <;> rfl
    rwa [e] at this
  refine RunW_in hr (fun b hb => hmd.blk b (by have := hL b hb; omega) fun hmem => by have := (S.blk b hmem).1; have := hL b hb; omega) ?_
  have hPS : PS w2 w' a' c' (acc ++ bytesL s) := ⟨S.md.old hmd fun d hd => (S.blk d hd).1, by unfold OwnL; rw [List.flatMap_append, List.length_append, bytesL_len, ← strCells_b1]; exact ho⟩
  have := k a' c' w' hPS
  rwa [List.length_append, bytesL_len] at this
theorem in156 (S : PS w2 w a c acc) (n : Nat) (hn : n < 65536) (hL : ∀ b ∈ L, b < w2.heap.size) (hl : acc.length + 2 ≤ 2 ^ 40) {K : Option Addr → Nat → Nat → World → Prop}
    (k : ∀ a' c' w', PS w2 w' a' c' (acc ++ [n / 256, n % 256]) → Md (a.map (·.block)).toList w w' → K a' (acc ++ [n / 256, n % 256]).length c' w') :
    CallW Try.prog L 156 #[.slice a acc.length c, .int .i64 n] (fun v w' => opL v fun a n c => K a n c w') w := by
  have hct : Ct Try.prog 156 #[.slice a acc.length c, .int .i64 n] w fun v w' => (∃ a' c', v = .slice a' (acc ++ [n / 256, n % 256]).length c' ∧ PS w2 w' a' c' (acc ++ [n / 256, n % 256])) ∧ Md (a.map (·.block)).toList w w' := by
    apply f156_in
    refine Bd_in fun x1 hx1 => Bd_in fun x2 hx2 => Bd_in fun x3 hx3 => ?_
    have e1 : x1 = ((n / 256 : Nat) : Int) := by
      rw [hx1, show (2 : Int) ^ min 8 64 = 256 by decide, Int.fdiv_eq_ediv_of_nonneg _ (by omega)]; omega
    have e2 : x2 = ((n / 256 : Nat) : Int) := by rw [hx2, e1, wrap_u8 (by omega)]
    have e3 : x3 = ((n % 256 : Nat) : Int) := by rw [hx3, IntKind.wrap_u8]; omega
    rw [e2, e3]
    intro b w1 eb ew
    subst eb; subst ew
    refine (S.tr (Md.alloc w _)).appC (L := []) _ 2 2 [n / 256, n % 256] rfl ?_ (by simp) hl ?_
    · intro j x hx
      refine alloc_at w _ 5 0 j ?_
      match j, hx with
      | 0, hx => simp at hx; subst hx; rfl
      | 1, hx => simp at hx; subst hx; rfl
    · intro a' c' w' S' hm
      exact opL_in ⟨⟨a', c', rfl, S'⟩, ((show Md [] w _ from Md.alloc w (.cells #[.int .u8 ((n / 256 : Nat) : Int), .int .u8 ((n % 256 : Nat) : Int)] 5)).mono (by simp)).trans hm⟩
  have hsz := S.md.size
  refine hct.callD (fun b hb => by have := hL b hb; omega) (fun b hb hmem => by have := (S.blk b hmem).1; have := hL b hb; omega) ?_
  rintro v w' ⟨a', c', rfl, S'⟩ hm
  exact opL_in (k a' c' w' S' hm)
end
/-- What is told of packing. -/
def PkOut (t : Tb) (base : Nat) (w : World) (v : Value) (e : Int) : Prop := if tRight t = true then e = 0 ∧ ∃ a c, v = .slice a (packL t).length c ∧ OwnL w base 5 1 b1 a c (packL t) else e = 100 ∧ v = .slice none 0 0
theorem take_flat {α : Type} {f : α → List Nat} {l : List α} {i : Nat} (hi : i < l.length) : (l.take (i + 1)).flatMap f = (l.take i).flatMap f ++ f l[i] := by
  rw [List.take_succ_eq_append_getElem hi, List.flatMap_append]; simp
theorem take_map {α : Type} {f : α → Nat} {l : List α} {i : Nat} (hi : i < l.length) : (l.take (i + 1)).map f = (l.take i).map f ++ [f l[i]] := by
  rw [List.take_succ_eq_append_getElem hi, List.map_append]; simp
theorem f60_ok (t : Tb) (p : TbS) (w : World) (ht : TbAt w t p) : Ct Try.prog 60 #[.agg (t.v p)] w fun v w' => (∃ u e, v = .tuple #[u, .int .i64 e] ∧ PkOut t w.heap.size w' u e) ∧ Md [] w w' := by
  apply f60_in
  intro n1 hn1
  refine ⟨ht.size, fun w2 h2 hL2 => ?_⟩
  have g2 : Good [n1] w w2 := ⟨h2, hL2⟩
  refine in56 ht g2 fun w4 g4 => ?_
  refine Bd_in fun b6 hb6 => If_in (fun h => ⟨⟨_, _, rfl, ?_⟩, g4.1⟩) fun h => ?_
  · unfold PkOut; rw [(not_eq_of hb6).1 h, if_neg (by simp)]; exact ⟨rfl, rfl⟩
  have hr := (not_eq_of hb6).2 h
  have hR := RtF.of hr
  obtain ⟨_, _, hRm, _, _, _, _, _, _, _, _, _⟩ := hR
  have hR := RtF.of hr
  have r1 := hR.d1
  have r2 := hR.d2
  have r3 := hR.tg2
  have r4 := hR.n2
  refine BdO_in ht.n256 <| opI_in <| Bd_in fun x9 hx9 => Bd_in fun x10 hx10 => BdO_in ht.n259 <| opL_in <| Bd_in fun x15 hx15 => Bd_in fun x16 hx16 => Bd_in fun x17 hx17 => BdO_in ht.n259 <| opL_in <| Bd_in fun x22 hx22 => Bd_in fun x23 hx23 => Bd_in fun x24 hx24 => BdO_in ht.n260 <| opL_in <| Bd_in fun x29 hx29 => Bd_in fun x30 hx30 => ?_
  have e10 : x10 = (((t.dm - 1).toNat : Nat) : Int) := by rw [hx10, hx9, hRm]; exact dec_u8 r1 r2
  have e17 : x17 = ((t.tg.length / 256 : Nat) : Int) := by rw [hx17, hx16, hx15]; exact div_u8 r3
  have e24 : x24 = ((t.tg.length % 256 : Nat) : Int) := by rw [hx24, hx23, hx22]; exact mod_u8 _
  have e30 : x30 = ((t.nm.length : Nat) : Int) := by rw [hx30, hx29]; exact wrap_u8 (by omega)
  rw [e10, e17, e24, e30]
  intro n31 w32 en ew
  subst en; subst ew
  have hL4 : ∀ b ∈ [n1], b < w4.heap.size := g4.2
  have S32 : PS w4 (w4.alloc (.cells #[.int .u8 70, .int .u8 84, .int .u8 1, .int .u8 (((t.dm - 1).toNat : Nat) : Int), .int .u8 ((t.tg.length / 256 : Nat) : Int), .int .u8 ((t.tg.length % 256 : Nat) : Int), .int .u8 ((t.nm.length : Nat) : Int)] 5)) (some ⟨w4.heap.size, 0, none⟩) 7 (hdrL t) :=
    ⟨Md.alloc w4 _, OwnL.lit (P := Try.prog) encb1 w4 5 (hdrL t) _ (Nat.le_refl _) (by simp [maxLen, hdrL]) rfl⟩
  have ht' : ∀ {w' : World} {a : Option Addr} {c : Nat} {acc : List Nat}, PS w4 w' a c acc → TbAt w' t p := fun S => ht.md (g4.1.trans S.md)
  refine LoopP_in (fun m us vs w' => ∃ (i : Nat) (a : Option Addr) (c : Nat) (acc : List Nat), us = [.slice a acc.length c, .int .i64 i] ∧ m = t.nm.length - i ∧ i ≤ t.nm.length ∧ acc = hdrL t ++ (t.nm.take i).flatMap encN ∧ PS w4 w' a c acc) t.nm.length ⟨0, _, _, hdrL t, rfl, rfl, by omega, by simp, S32⟩ ?_
  rintro m us vs w36 ⟨i, a, c, acc, rfl, rfl, hi, hacc, S36⟩
  have hal : acc.length ≤ 7 + 200 * 65 := by rw [hacc, List.length_append]; have := hR.names i; have h7 : (hdrL t).length = 7 := rfl; omega
  refine opL_in <| opI_in <| BdO_in ht.n260 <| opL_in <| Bd_in fun x45 hx45 => Bd_in fun b46 hb46 => If_in (fun hb => ?_) fun hb => ?_
  · rw [hb46, hx45] at hb
    simp only [decide_eq_true_eq, Int.ofNat_lt] at hb
    have hsz := hR.sz _ (List.getElem_mem hb)
    refine BdO_in ht.n260 <| opL_in ⟨ht.nm.ix hb, (ht' S36).nm.ld1 hb rfl <| opStr_in <| Bd_in fun x53 hx53 => Bd_in fun x54 hx54 => ?_⟩
    rw [hx53, wrap_u8 (by omega)] at hx54
    rw [hx54]
    refine S36.appN 1 [t.nm[i].size] _ rfl rfl hL4 (by omega) fun a1 c1 w58 S58 => opL_in ?_
    refine BdO_in ht.n260 <| opL_in ⟨ht.nm.ix hb, (ht' S58).nm.ld1 hb rfl <| opStr_in ?_⟩
    refine S58.appS _ hL4 (by simp; omega) fun a2 c2 w69 S69 => opL_in <| Bd_in fun x73 hx73 => ?_
    rw [inc_len hb ht.nml] at hx73
    subst hx73
    exact ⟨t.nm.length - (i + 1), by omega, i + 1, a2, c2, _, rfl, rfl, by omega, by rw [take_flat hb, hacc]; simp [encN], S69⟩
  rw [hb46, hx45] at hb
  simp only [decide_eq_false_iff_not, Int.ofNat_lt] at hb
  rw [List.take_of_length_le (by omega)] at hacc
  refine LoopP_in (fun m us vs w' => ∃ (i : Nat) (a : Option Addr) (c : Nat) (acc2 : List Nat), us = [.slice a acc2.length c, .int .i64 i] ∧ m = 256 - i ∧ i ≤ 256 ∧ acc2 = acc ++ t.c.f.take i ∧ PS w4 w' a c acc2) 256 ⟨0, a, c, acc, rfl, rfl, by omega, by simp, S36⟩ ?_
  rintro m us vs w77 ⟨j, a2, c2, acc2, rfl, rfl, hj, hacc2, S77⟩
  have hal2 : acc2.length ≤ 7 + 200 * 65 + 256 := by rw [hacc2, List.length_append, List.length_take]; omega
  refine opL_in <| opI_in <| Bd_in fun b82 hb82 => If_in (fun hb => ?_) fun hb => ?_
  · rw [hb82] at hb
    simp only [decide_eq_true_eq] at hb
    have hj' : j < 256 := by omega
    have hjf : j < t.c.f.length := by rw [ht.ok.len]; exact hj'
    refine ⟨⟨by omega, by omega⟩, BdO_in (ht.byte hj') <| opI_in ?_⟩
    refine S77.appN 1 [t.c.f[j]] _ rfl rfl hL4 (by omega) fun a1 c1 w88 S88 => opL_in <| Bd_in fun x92 hx92 => ?_
    rw [inc_i64 (by omega)] at hx92
    subst hx92
    exact ⟨256 - (j + 1), by omega, j + 1, a1, c1, _, rfl, rfl, by omega, by rw [List.take_succ_eq_append_getElem hjf, hacc2]; simp, S88⟩
  rw [hb82] at hb
  simp only [decide_eq_false_iff_not] at hb
  rw [List.take_of_length_le (by rw [ht.ok.len]; omega)] at hacc2
  refine LoopP_in (fun m us vs w' => ∃ (i : Nat) (a : Option Addr) (c : Nat) (acc3 : List Nat), us = [.slice a acc3.length c, .int .i64 i] ∧ m = t.tg.length - i ∧ i ≤ t.tg.length ∧ acc3 = acc2 ++ (t.tg.take i).map tagB ∧ PS w4 w' a c acc3) t.tg.length ⟨0, a2, c2, acc2, rfl, rfl, by omega, by simp, S77⟩ ?_
  rintro m us vs w96 ⟨k, a3, c3, acc3, rfl, rfl, hk, hacc3, S96⟩
  have hal3 : acc3.length ≤ 7 + 200 * 65 + 256 + 5000 := by rw [hacc3, List.length_append, List.length_map, List.length_take]; omega
  refine opL_in <| opI_in <| BdO_in ht.n259 <| opL_in <| Bd_in fun x105 hx105 => Bd_in fun b106 hb106 => If_in (fun hb => ?_) fun hb => ?_
  · rw [hb106, hx105] at hb
    simp only [decide_eq_true_eq, Int.ofNat_lt] at hb
    have htag := hR.tag _ (List.getElem_mem hb)
    refine BdO_in ht.n259 <| opL_in ⟨ht.tg.ix hb, (ht' S96).tg.ld1 hb rfl <| opI_in <| Bd_in fun x113 hx113 => Bd_in fun x114 hx114 => ?_⟩
    have e114 : x114 = ((tagB t.tg[k] : Nat) : Int) := by rw [hx114, hx113]; exact tag_u8 htag.1 htag.2
    rw [e114]
    refine S96.appN 1 [tagB t.tg[k]] _ rfl rfl hL4 (by omega) fun a1 c1 w88 S88 => opL_in <| Bd_in fun x92 hx92 => ?_
    rw [inc_len hb ht.tgl] at hx92
    subst hx92
    exact ⟨t.tg.length - (k + 1), by omega, k + 1, a1, c1, _, rfl, rfl, by omega, by rw [take_map hb, hacc3]; simp, S88⟩
  rw [hb106, hx105] at hb
  simp only [decide_eq_false_iff_not, Int.ofNat_lt] at hb
  rw [List.take_of_length_le (by omega)] at hacc3
  refine LoopP_in (fun m us vs w' => ∃ (i : Nat) (a : Option Addr) (c : Nat) (acc4 : List Nat), us = [.slice a acc4.length c, .int .i64 i] ∧ m = t.nx.length - i ∧ i ≤ t.nx.length ∧ acc4 = acc3 ++ (t.nx.take i).flatMap encX ∧ PS w4 w' a c acc4) t.nx.length ⟨0, a3, c3, acc3, rfl, rfl, by omega, by simp, S96⟩ ?_
  rintro m us vs w126 ⟨q, a4, c4, acc4, rfl, rfl, hq, hacc4, S126⟩
  have hal4 : acc4.length ≤ 7 + 200 * 65 + 256 + 5000 + 2560000 := by rw [hacc4, List.length_append]; have := hR.nexts q; omega
  refine opL_in <| opI_in <| BdO_in ht.n258 <| opL_in <| Bd_in fun x135 hx135 => Bd_in fun b136 hb136 => If_in (fun hb => ?_) fun hb => ?_
  · rw [hb136, hx135] at hb
    simp only [decide_eq_true_eq, Int.ofNat_lt] at hb
    have htag := hR.nxt _ (List.getElem_mem hb)
    refine BdO_in ht.n258 <| opL_in ⟨ht.nx.ix hb, (ht' S126).nx.ld1 hb rfl <| opI_in <| Bd_in fun x143 hx143 => Bd_in fun x144 hx144 => Bd_in fun x145 hx145 => Bd_in fun x146 hx146 => Bd_in fun x147 hx147 => ?_⟩
    have e143 : x143 = (((t.nx[q] + 1).toNat : Nat) : Int) := by rw [hx143]; exact nat_i64 (by omega) (by omega)
    have e145 : x145 = (((t.nx[q] + 1).toNat / 256 : Nat) : Int) := by rw [hx145, hx144, e143]; exact div_u8 (by omega)
    have e147 : x147 = (((t.nx[q] + 1).toNat % 256 : Nat) : Int) := by rw [hx147, hx146, e143]; exact mod_u8 _
    rw [e145, e147]
    refine S126.appN 2 (encX t.nx[q]) _ rfl rfl hL4 (by omega) fun a1 c1 w88 S88 => opL_in <| Bd_in fun x92 hx92 => ?_
    rw [inc_len hb ht.nxl] at hx92
    subst hx92
    exact ⟨t.nx.length - (q + 1), by omega, q + 1, a1, c1, _, rfl, rfl, by omega, by rw [take_flat hb, hacc4]; simp, S88⟩
  rw [hb136, hx135] at hb
  simp only [decide_eq_false_iff_not, Int.ofNat_lt] at hb
  rw [List.take_of_length_le (by omega)] at hacc4
  have hfin : acc4 = packL t := by rw [hacc4, hacc3, hacc2, hacc]; rfl
  subst hfin
  refine ⟨⟨_, _, rfl, ?_⟩, g4.1.trans S126.md⟩
  unfold PkOut
  rw [if_pos hr]
  exact ⟨rfl, a4, c4, rfl, S126.own.down g4.1.size⟩
theorem f59_ok (t : Tb) (p : TbS) (w : World) (ht : TbAt w t p) : Ct Try.prog 59 #[.agg (t.v p)] w fun v w' => (∃ u e, v = .tuple #[u, .int .i64 e] ∧ PkOut t w.heap.size w' u e) ∧ Md [] w w' := by
  apply f59_in
  intro n1 w2 e1 e2
  subst e1; subst e2
  have hma : Md [] w (w.alloc (.cells (t.v p) 57)) := Md.alloc w _
  have hblk : Blk (w.alloc (.cells (t.v p) 57)) w.heap.size 57 (t.l p) := heap_alloc_new w _
  have hbs : w.heap.size ≤ w.heap.size := Nat.le_refl _
  generalize hw2 : w.alloc (.cells (t.v p) 57) = w2 at *
  generalize hn1 : w.heap.size = n1 at *
  have ht2 := ht.md hma
  have hf : t.c.f.length = 256 := ht.ok.len
  -- what the box has, from here on
  have cell : ∀ {w' : World} {j : Nat} {v : Value}, Md [] w2 w' → (t.l p)[j]? = some v → w'.cell? ⟨n1, j, none⟩ = some v := fun hm hv => (hblk.md hm (by simp)).cell hv
  refine LdN_in (l := t.l p) (Tb.len hf) ?_ <| Bd_in fun cs4 hcs => ?_
  · intro k u hu
    rw [Addr.add_lit, Nat.zero_add]
    exact hblk.cell hu
  have ecs : cs4 = t.v p := hcs
  subst ecs
  refine ⟨ht2.size, (f55_ok t p w2 ht2).call (by simp) ?_⟩
  rintro v w6 rfl h6
  refine opB_in <| Bd_in fun b8 hb8 => If_in (fun h => ⟨⟨_, _, rfl, ?_⟩, hma.trans h6⟩) fun h => ?_
  · unfold PkOut; rw [(not_eq_of hb8).1 h, if_neg (by simp)]; exact ⟨rfl, rfl⟩
  have hr := (not_eq_of hb8).2 h
  have hR := RtF.of hr
  have r1 := hR.d1
  have r2 := hR.d2
  have r3 := hR.tg2
  have r4 := hR.n2
  refine Ld_in (cell h6 (Tb.at257 hf)) <| opI_in <| Bd_in fun x11 hx11 => Bd_in fun x12 hx12 => ?_
  have e12 : x12 = (((t.dm - 1).toNat : Nat) : Int) := by rw [hx12, hx11]; exact dec_u8 r1 r2
  rw [e12]
  intro n13 w14 en ew
  subst en; subst ew
  have S14 : PS w6 (w6.alloc (.cells #[.int .u8 70, .int .u8 84, .int .u8 1, .int .u8 (((t.dm - 1).toNat : Nat) : Int)] 5)) (some ⟨w6.heap.size, 0, none⟩) 4 [70, 84, 1, (t.dm - 1).toNat] :=
    ⟨Md.alloc w6 _, OwnL.lit (P := Try.prog) encb1 w6 5 [70, 84, 1, (t.dm - 1).toNat] _ (Nat.le_refl _) (by simp [maxLen]) rfl⟩
  have m2 : ∀ {w' : World} {a : Option Addr} {c : Nat} {acc : List Nat}, PS w6 w' a c acc → Md [] w2 w' := fun S => h6.trans S.md
  have ht' : ∀ {w' : World} {a : Option Addr} {c : Nat} {acc : List Nat}, PS w6 w' a c acc → TbAt w' t p := fun S => ht2.md (m2 S)
  refine Jn_in (fun us vs w' => ∃ a c, us = [.slice a (hdrL t).length c] ∧ PS w6 w' a c (hdrL t)) ?_ ?_
  · rintro us vs w17 ⟨a17, c17, rfl, S17⟩
    refine opL_in <| Ld_in (cell (m2 S17) (Tb.at260 hf)) <| opL_in <| Bd_in fun x25 hx25 => ?_
    refine LoopP_in (fun m us vs w' => ∃ (i : Nat) (a : Option Addr) (c : Nat) (acc : List Nat), us = [.slice a acc.length c, .int .i64 i] ∧ m = t.nm.length - i ∧ i ≤ t.nm.length ∧ acc = hdrL t ++ (t.nm.take i).flatMap encN ∧ PS w6 w' a c acc) t.nm.length ⟨0, _, _, hdrL t, rfl, rfl, by omega, by simp, S17⟩ ?_
    rintro m us vs w29 ⟨i, a, c, acc, rfl, rfl, hi, hacc, S29⟩
    have hal : acc.length ≤ 7 + 200 * 65 := by rw [hacc, List.length_append]; have := hR.names i; have h7 : (hdrL t).length = 7 := rfl; omega
    refine opL_in <| opI_in <| Bd_in fun b34 hb34 => If_in (fun hb => ?_) fun hb => ?_
    · rw [hb34, hx25] at hb
      simp only [decide_eq_true_eq, Int.ofNat_lt] at hb
      have hsz := hR.sz _ (List.getElem_mem hb)
      refine ⟨ht.nm.ix hb, (ht' S29).nm.ld1 hb rfl <| opStr_in <| Bd_in fun x37 hx37 => Bd_in fun x38 hx38 => ?_⟩
      rw [hx37, wrap_u8 (by omega)] at hx38
      rw [hx38]
      refine S29.appN 1 [t.nm[i].size] _ rfl rfl (by simp) (by omega) fun a1 c1 w42 S42 => opL_in ?_
      refine S42.appS _ (by simp) (by simp; omega) fun a2 c2 w47 S47 => opL_in <| Bd_in fun x51 hx51 => ?_
      rw [inc_len hb ht.nml] at hx51
      subst hx51
      exact ⟨t.nm.length - (i + 1), by omega, i + 1, a2, c2, _, rfl, rfl, by omega, by rw [take_flat hb, hacc]; simp [encN], S47⟩
    rw [hb34, hx25] at hb
    simp only [decide_eq_false_iff_not, Int.ofNat_lt] at hb
    rw [List.take_of_length_le (by omega)] at hacc
    refine RunW_in0 (slice_arr _ _) <| opL_in ?_
    refine S29.appC ⟨n1, 0, none⟩ 256 256 t.c.f hf ?_ (by simp) (by omega) fun a58 c58 w58 S58 _ => opL_in ?_
    · intro j x hx
      rw [Addr.add_lit, Nat.zero_add]
      refine cell (m2 S29) ?_
      have hj := (List.getElem?_eq_some_iff.1 hx).1
      rw [Tb.l, List.getElem?_append_left (by rw [ht.len]; omega), Cl.l, List.getElem?_append_left (by simp; omega), List.getElem?_map, hx]
      rfl
    refine Ld_in (cell (m2 S58) (Tb.at259 hf)) <| opL_in <| Bd_in fun x66 hx66 => ?_
    generalize hacc2 : acc ++ t.c.f = acc2 at *
    have hal2 : acc2.length ≤ 7 + 200 * 65 + 256 := by rw [← hacc2, List.length_append]; omega
    refine LoopP_in (fun m us vs w' => ∃ (i : Nat) (a : Option Addr) (c : Nat) (acc3 : List Nat), us = [.slice a acc3.length c, .int .i64 i] ∧ m = t.tg.length - i ∧ i ≤ t.tg.length ∧ acc3 = acc2 ++ (t.tg.take i).map tagB ∧ PS w6 w' a c acc3) t.tg.length ⟨0, a58, c58, acc2, rfl, rfl, by omega, by simp, S58⟩ ?_
    rintro m us vs w70 ⟨k, a3, c3, acc3, rfl, rfl, hk, hacc3, S70⟩
    have hal3 : acc3.length ≤ 7 + 200 * 65 + 256 + 5000 := by rw [hacc3, List.length_append, List.length_map, List.length_take]; omega
    refine opL_in <| opI_in <| Bd_in fun b75 hb75 => If_in (fun hb => ?_) fun hb => ?_
    · rw [hb75, hx66] at hb
      simp only [decide_eq_true_eq, Int.ofNat_lt] at hb
      have htag := hR.tag _ (List.getElem_mem hb)
      refine ⟨ht.tg.ix hb, (ht' S70).tg.ld1 hb rfl <| opI_in <| Bd_in fun x78 hx78 => Bd_in fun x79 hx79 => ?_⟩
      have e79 : x79 = ((tagB t.tg[k] : Nat) : Int) := by rw [hx79, hx78]; exact tag_u8 htag.1 htag.2
      rw [e79]
      refine S70.appN 1 [tagB t.tg[k]] _ rfl rfl (by simp) (by omega) fun a1 c1 w88 S88 => opL_in <| Bd_in fun x87 hx87 => ?_
      rw [inc_len hb ht.tgl] at hx87
      subst hx87
      exact ⟨t.tg.length - (k + 1), by omega, k + 1, a1, c1, _, rfl, rfl, by omega, by rw [take_map hb, hacc3]; simp, S88⟩
    rw [hb75, hx66] at hb
    simp only [decide_eq_false_iff_not, Int.ofNat_lt] at hb
    rw [List.take_of_length_le (by omega)] at hacc3
    refine Ld_in (cell (m2 S70) (Tb.at258 hf)) <| opL_in <| Bd_in fun x92 hx92 => ?_
    refine LoopP_in (fun m us vs w' => ∃ (i : Nat) (a : Option Addr) (c : Nat) (acc4 : List Nat), us = [.slice a acc4.length c, .int .i64 i] ∧ m = t.nx.length - i ∧ i ≤ t.nx.length ∧ acc4 = acc3 ++ (t.nx.take i).flatMap encX ∧ PS w6 w' a c acc4) t.nx.length ⟨0, a3, c3, acc3, rfl, rfl, by omega, by simp, S70⟩ ?_
    rintro m us vs w96 ⟨q, a4, c4, acc4, rfl, rfl, hq, hacc4, S96⟩
    have hal4 : acc4.length ≤ 7 + 200 * 65 + 256 + 5000 + 2560000 := by rw [hacc4, List.length_append]; have := hR.nexts q; omega
    refine opL_in <| opI_in <| Bd_in fun b101 hb101 => If_in (fun hb => ?_) fun hb => ?_
    · rw [hb101, hx92] at hb
      simp only [decide_eq_true_eq, Int.ofNat_lt] at hb
      have htag := hR.nxt _ (List.getElem_mem hb)
      refine ⟨ht.nx.ix hb, (ht' S96).nx.ld1 hb rfl <| opI_in <| Bd_in fun x104 hx104 => ?_⟩
      have e104 : x104 = (((t.nx[q] + 1).toNat : Nat) : Int) := by rw [hx104]; exact nat_i64 (by omega) (by omega)
      rw [e104]
      refine in156 S96 _ (by omega) (by simp) (by omega) fun a1 c1 w88 S88 _ => Bd_in fun x110 hx110 => ?_
      rw [inc_len hb ht.nxl] at hx110
      subst hx110
      exact ⟨t.nx.length - (q + 1), by omega, q + 1, a1, c1, _, rfl, rfl, by omega, by rw [take_flat hb, hacc4]; simp [encX], S88⟩
    rw [hb101, hx92] at hb
    simp only [decide_eq_false_iff_not, Int.ofNat_lt] at hb
    rw [List.take_of_length_le (by omega)] at hacc4
    have hfin : acc4 = packL t := by rw [hacc4, hacc3, ← hacc2, hacc]; rfl
    subst hfin
    refine ⟨⟨_, _, rfl, ?_⟩, (hma.trans (m2 S96))⟩
    unfold PkOut
    rw [if_pos hr]
    exact ⟨rfl, a4, c4, rfl, S96.own.down (by have := (hma.trans h6).size; omega)⟩
  · have S14d := S14.drew
    refine ⟨fun w' => Md [] w2 w', m2 S14d, .slice p.ta t.tg.length p.tc, fun w' hw' => Ld_in (cell hw' (Tb.at259 hf)) rfl, opL_in <| Bd_in fun x120 hx120 => ⟨.slice p.sa t.nm.length p.sc, fun w' hw' => Ld_in (cell hw' (Tb.at260 hf)) rfl, opL_in <| Bd_in fun x128 hx128 => Bd_in fun x129 hx129 => ?_⟩⟩
    rw [hx128, wrap_u8 (by omega)] at hx129
    rw [hx129, hx120]
    refine ⟨?_, ?_⟩
    · refine in156 S14d _ (by omega) (by simp) (by simp) fun a1 c1 w131 S131 _ => ⟨m2 S131, ?_⟩
      intro n135 w136 en ew
      subst en; subst ew
      have S136 := S131.tr (show Md [] w131 (w131.alloc (.cells #[.int .u8 ((t.nm.length : Nat) : Int)] 5)) from Md.alloc w131 _)
      refine ⟨m2 S136, S136.appC _ 1 1 [t.nm.length] rfl ?_ (by simp) (by simp) fun a2 c2 w138 S138 _ => opL_in ⟨m2 S138, a2, c2, rfl, S138⟩⟩
      intro j x hx
      refine alloc_at w131 _ 5 0 j ?_
      match j, hx with
      | 0, hx => simp at hx; subst hx; rfl
    · intro n142 w143 en ew
      subst en; subst ew
      have hmd : Md [] (w6.alloc (.cells #[.int .u8 70, .int .u8 84, .int .u8 1, .int .u8 (((t.dm - 1).toNat : Nat) : Int)] 5)).drew _ := Md.alloc _ (.cells #[.int .u8 ((t.nm.length : Nat) : Int)] 5)
      have S143 := S14d.tr hmd
      refine ⟨m2 S143, in156 S143 _ (by omega) (by simp) (by simp) fun a1 c1 w145 S145 hm145 => ⟨m2 S145, S145.appC _ 1 1 [t.nm.length] rfl ?_ (by simp) (by simp) fun a2 c2 w138 S138 _ => opL_in ⟨m2 S138, a2, c2, rfl, S138⟩⟩⟩
      intro j x hx
      refine hm145.cell (alloc_at _ _ 5 0 j ?_) ?_
      · match j, hx with
        | 0, hx => simp at hx; subst hx; rfl
      · intro hmem
        have := (S14d.blk _ hmem).2
        rw [Addr.add_lit] at this
        simp at this
end Fk
