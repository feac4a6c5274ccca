/- Contracts of functions, and plain laws: several texts, joined. -/
import Derived.Test.YtpgjpgecgibklaaGR1
import Derived.Laws.CopyRow
import Derived.Laws.IdiomStrings
import Derived.SizedLaws
import Derived.Test.YtpgjpgecgibklaaGV1
set_option linter.unusedVariables false
set_option linter.unusedSimpArgs false
set_option maxRecDepth 100000
namespace Fk
open Go Go.Proofs Go.RowKit
def bytesOf (l : List Nat) : ByteArray := ⟨(l.map UInt8.ofNat).toArray⟩
theorem conv_row {w : World} {a : Option Addr} {l : List Nat} (h : RowAt w a 1 b1 l) (hl : ∀ x ∈ l, x < 256) (m c : Nat) (hm : l.length = m) : (convert 51 9 (.slice a m c)).run Try.prog w = .ok (.string (bytesOf l)) w := by
  subst hm
  cases a with
  | none =>
    cases l with
    | nil => rw [run_convert_bytes_string w 51 9 5 none _ c (by kernel_rfl) (by kernel_rfl) (by kernel_rfl)]; simp [Conv.bytesToString, bytesOf]; rfl
    | cons x l => obtain ⟨A, hA, _⟩ := h 0 x rfl; cases hA
  | some A =>
    have := run_convert_bytes_back (P := Try.prog) w 51 9 5 A c (l.map UInt8.ofNat) (by kernel_rfl) (by kernel_rfl) (by kernel_rfl) (by
      intro j hj
      simp at hj
      obtain ⟨B, hB, hc⟩ := h j l[j] (List.getElem?_eq_getElem hj)
      cases hB
      have := hc 0 (.int .u8 (l[j] : Int)) rfl
      rw [addr_add0, Nat.mul_one] at this
      rw [this]
      have := hl _ (List.getElem_mem hj)
      simp [UInt8.toNat_ofNat', Nat.mod_eq_of_lt this])
    rw [List.length_map] at this
    exact this
section
variable {t : Tb} {p : TbS}
theorem Tb.len (hf : t.c.f.length = 256) : (t.l p).length = 261 := by simp [Tb.l, Tb.d, Cl.l, hf]
theorem Tb.set256 (hf : t.c.f.length = 256) (m : Int) : (t.l p).set 256 (.int .i64 m) = Tb.l ⟨⟨t.c.f, m⟩, t.dm, t.nx, t.tg, t.nm⟩ p := by
  simp [Tb.l, Tb.d, Cl.l, List.set_append, hf]
theorem Tb.set257 (hf : t.c.f.length = 256) (d : Int) : (t.l p).set 257 (.int .i64 d) = Tb.l ⟨t.c, d, t.nx, t.tg, t.nm⟩ p := by
  simp [Tb.l, Tb.d, Cl.l, List.set_append, hf]
theorem Tb.set258 (hf : t.c.f.length = 256) (a : Option Addr) (l : List Int) (c : Nat) : (t.l p).set 258 (.slice a l.length c) = Tb.l ⟨t.c, t.dm, l, t.tg, t.nm⟩ ⟨a, c, p.ta, p.tc, p.sa, p.sc⟩ := by
  simp [Tb.l, Tb.d, Cl.l, List.set_append, hf]
theorem Tb.set259 (hf : t.c.f.length = 256) (a : Option Addr) (l : List Int) (c : Nat) : (t.l p).set 259 (.slice a l.length c) = Tb.l ⟨t.c, t.dm, t.nx, l, t.nm⟩ ⟨p.na, p.nc, a, c, p.sa, p.sc⟩ := by
  simp [Tb.l, Tb.d, Cl.l, List.set_append, hf]
theorem Tb.set260 (hf : t.c.f.length = 256) (a : Option Addr) (l : List ByteArray) (c : Nat) : (t.l p).set 260 (.slice a l.length c) = Tb.l ⟨t.c, t.dm, t.nx, t.tg, l⟩ ⟨p.na, p.nc, p.ta, p.tc, a, c⟩ := by
  simp [Tb.l, Tb.d, Cl.l, List.set_append, hf]
theorem Tb.at257 (hf : t.c.f.length = 256) : (t.l p)[257]? = some (.int .i64 t.dm) := by simp [Tb.l, Tb.d, Cl.l, List.getElem?_append, hf]
theorem Tb.at258 (hf : t.c.f.length = 256) : (t.l p)[258]? = some (.slice p.na t.nx.length p.nc) := by simp [Tb.l, Tb.d, Cl.l, List.getElem?_append, hf]
theorem Tb.at259 (hf : t.c.f.length = 256) : (t.l p)[259]? = some (.slice p.ta t.tg.length p.tc) := by simp [Tb.l, Tb.d, Cl.l, List.getElem?_append, hf]
theorem Tb.at260 (hf : t.c.f.length = 256) : (t.l p)[260]? = some (.slice p.sa t.nm.length p.sc) := by simp [Tb.l, Tb.d, Cl.l, List.getElem?_append, hf]
theorem Tb.setF (hf : t.c.f.length = 256) (g : List Nat) (hg : g.length = 256) : g.flatMap b1 ++ (t.l p).drop 256 = Tb.l ⟨⟨g, t.c.m⟩, t.dm, t.nx, t.tg, t.nm⟩ p := by
  have : g.flatMap b1 = g.map (fun x : Nat => Value.int .u8 (x : Int)) := by
    clear hg
    induction g with
    | nil => rfl
    | cons x g ih => rw [List.flatMap_cons, ih]; rfl
  simp [Tb.l, Tb.d, Cl.l, List.drop_append, hf, this]
end
theorem CuAt.setT {w : World} {n : Nat} {o : Option (List Nat)} {tl : List Value} (h : CuAt w n o tl) {j : Nat} (hj : j < tl.length) (v : Value) : CuAt (setCells w ⟨n, 2 + j, none⟩ 0 [v]) n o (tl.set j v) ∧ Md [n] w (setCells w ⟨n, 2 + j, none⟩ 0 [v]) ∧ Wr w ⟨n, 2 + j, none⟩ 1 := by
  obtain ⟨r, off, a, c, ho, hb, hr, hc, ha⟩ := h
  have hm := Md_setCells (w := w) n (2 + j) [v]
  have hb2 := hb.set (j := 2 + j) (by simp; omega) v
  refine ⟨⟨r, off, a, c, ho, ?_, hr.mdE hm fun A hA hne => by have := ha A hA hne; simp; omega, hc, ha⟩, hm, hb.wr (by simp; omega)⟩
  rw [show 2 + j = (j + 1) + 1 by omega, List.set_cons_succ, List.set_cons_succ] at hb2
  rw [show 2 + j = (j + 1) + 1 by omega]
  exact hb2
theorem CuAt.cellT {w : World} {n : Nat} {o : Option (List Nat)} {tl : List Value} (h : CuAt w n o tl) {j : Nat} {v : Value} (hv : tl[j]? = some v) : w.cell? ⟨n, 2 + j, none⟩ = some v := by
  obtain ⟨r, off, a, c, ho, hb, hr, hc, ha⟩ := h
  refine hb.cell ?_
  rw [show 2 + j = (j + 1) + 1 by omega, List.getElem?_cons_succ, List.getElem?_cons_succ]
  exact hv
theorem CuAt.mdN {w w' : World} {n : Nat} {o : Option (List Nat)} {tl : List Value} {D : List Nat} (h : CuAt w n o tl) (hm : Md D w w') (hD : ∀ d ∈ D, n < d) : CuAt w' n o tl := by
  obtain ⟨r, off, a, c, ho, hb, hr, hc, ha⟩ := h
  exact ⟨r, off, a, c, ho, hb.md hm (fun h => by have := hD n h; omega), hr.mdE hm fun A hA hne hm => (by have := ha A hA hne; have := hD _ hm; omega), hc, ha⟩
theorem CuAt.offC {w : World} {n : Nat} {o : Option (List Nat)} {tl : List Value} (h : CuAt w n o tl) : w.cell? ⟨n, 1, none⟩ = some (.bool o.isNone) := by
  obtain ⟨r, off, a, c, ho, hb, hr, hc, ha⟩ := h
  have : o.isNone = off := by rw [ho]; cases off <;> rfl
  rw [this]
  exact hb.cell rfl
theorem CuAt.setOff {w : World} {n : Nat} {o : Option (List Nat)} {tl : List Value} (h : CuAt w n o tl) (m : Bool) (x : Bool) (hx : x = (bif o.isNone then true else !m)) :
    CuAt (setCells w ⟨n, 1, none⟩ 0 [.bool x]) n (if m = true then o else none) tl ∧ Md [n] w (setCells w ⟨n, 1, none⟩ 0 [.bool x]) ∧ Wr w ⟨n, 1, none⟩ 1 := by
  obtain ⟨r, off, a, c, ho, hb, hr, hc, ha⟩ := h
  have hm := Md_setCells (w := w) n 1 [.bool x]
  have hb2 := hb.set (j := 1) (by simp) (.bool x)
  refine ⟨⟨r, x, a, c, ?_, hb2, hr.mdE hm fun A hA hne => by have := ha A hA hne; simp; omega, hc, ha⟩, hm, hb.wr (by simp)⟩
  rw [hx, ho]
  cases off <;> cases m <;> rfl
/-- All that is so while the head is read. -/
structure HS (w0 w : World) (n : Nat) (o : Option (List Nat)) (t : Tb) (p : TbS) : Prop where
  cu : CuAt w n o (t.l p)
  ok : okO o
  f : t.c.f.length = 256
  nm : OwnL w w0.heap.size 9 1 s1 p.sa p.sc t.nm
  tg : OwnL w w0.heap.size 3 1 i1 p.ta p.tc t.tg
  nx : OwnL w w0.heap.size 3 1 i1 p.na p.nc t.nx
  md : Md [n] w0 w
  lt : n < w0.heap.size
  d1 : ∀ A B, p.sa = some A → p.ta = some B → A.block ≠ B.block
  d2 : ∀ A B, p.sa = some A → p.na = some B → A.block ≠ B.block
  d3 : ∀ A B, p.ta = some A → p.na = some B → A.block ≠ B.block
section
variable {w0 w : World} {n : Nat} {o : Option (List Nat)} {t : Tb} {p : TbS} {L : List Nat}
theorem own_ne {α : Type} {w : World} {base n : Nat} {e : TypeId} {size : Nat} {enc : α → List Value} {a : Option Addr} {c : Nat} {l : List α} (h : OwnL w base e size enc a c l) (hn : n < base) : ∀ A, a = some A → A.block ∉ [n] := by
  intro A hA
  have := (h.lt hA).1
  simp; omega
theorem HS.step {w' : World} {o' : Option (List Nat)} (S : HS w0 w n o t p) (hm : Md [n] w w') (hc : CuAt w' n o' (t.l p)) (ho : okO o') : HS w0 w' n o' t p :=
  ⟨hc, ho, S.f, S.nm.mdD hm (own_ne S.nm S.lt), S.tg.mdD hm (own_ne S.tg S.lt), S.nx.mdD hm (own_ne S.nx S.lt), S.md.trans hm, S.lt, S.d1, S.d2, S.d3⟩
theorem HS.drew (S : HS w0 w n o t p) : HS w0 w.drew n o t p := S.step ((Md_drew w).mono (by simp)) (S.cu.mdN (Md_drew w) (by simp)) S.ok
theorem HS.size (S : HS w0 w n o t p) : w0.heap.size ≤ w.heap.size := S.md.size
theorem in158 (S : HS w0 w n o t p) (hL : ∀ b ∈ L, b < w0.heap.size ∧ b ≠ n) {A : Addr} (hA : A = ⟨n, 0, none⟩) {K : Int → World → Prop} (k : ∀ w', HS w0 w' n (oneO o).2 t p → K ((oneO o).1 : Int) w') :
    CallW Try.prog L 158 #[.pointer (some A)] (fun v w' => opI .i64 v fun x => K x w') w := by
  subst hA
  have := S.size
  refine (f158_ok n o S.ok (t.l p) w S.cu).callD (fun b hb => by have := (hL b hb).1; omega) (fun b hb => by have := (hL b hb).2; simpa using this) ?_
  rintro v w' ⟨rfl, hc⟩ h'
  exact opI_in (k w' (S.step h' hc S.ok.one.1))
theorem okO.pair {o : Option (List Nat)} (h : okO o) : okO (pairO o).2 := (h.take 2).1
theorem in159 (S : HS w0 w n o t p) (hL : ∀ b ∈ L, b < w0.heap.size ∧ b ≠ n) {A : Addr} (hA : A = ⟨n, 0, none⟩) {K : Int → World → Prop} (k : ∀ w', HS w0 w' n (pairO o).2 t p → K ((pairO o).1 : Int) w') :
    CallW Try.prog L 159 #[.pointer (some A)] (fun v w' => opI .i64 v fun x => K x w') w := by
  subst hA
  have := S.size
  refine (f159_ok n o S.ok (t.l p) w S.cu).callD (fun b hb => by have := (hL b hb).1; omega) (fun b hb => by have := (hL b hb).2; simpa using this) ?_
  rintro v w' ⟨rfl, hc⟩ h'
  exact opI_in (k w' (S.step h' hc S.ok.pair))
theorem in217 (S : HS w0 w n o t p) {m : Nat} (hm : m ≤ 256) (hL : ∀ b ∈ L, b < w0.heap.size ∧ b ≠ n) {A : Addr} (hA : A = ⟨n, 0, none⟩) {K : Option Addr → Nat → Nat → World → Prop}
    (k : ∀ w' a c, HS w0 w' n (takeO o m).2 t p → RowAt w' a 1 b1 (takeO o m).1 → K a m c w') :
    CallW Try.prog L 217 #[.pointer (some A), .int .i64 m] (fun v w' => opL v fun a n c => K a n c w') w := by
  subst hA
  have := S.size
  refine (f217_ok n o (t.l p) m hm w S.cu).callD (fun b hb => by have := (hL b hb).1; omega) (fun b hb => by have := (hL b hb).2; simpa using this) ?_
  rintro v w' ⟨a, c, rfl, hr, hc, hcu⟩ h'
  exact opL_in (k w' a c (S.step h' hcu (S.ok.take m).1) hr)
theorem Md.old' {D E : List Nat} {w0 w w' : World} (h0 : Md E w0 w) (h : Md D w w') (hD : ∀ d ∈ D, w0.heap.size ≤ d) : Md E w0 w' :=
  ⟨h.os.trans h0.os, h.tape.trans h0.tape, h.output.trans h0.output, Nat.le_trans h0.size h.size,
    fun k hk hm => (h.blk k (Nat.lt_of_lt_of_le hk h0.size) fun hm => by have := hD k hm; omega).trans (h0.blk k hk hm)⟩
theorem HS.app_nm (S : HS w0 w n o t p) (x : ByteArray) (hl : t.nm.length + 1 ≤ 2 ^ 40) (hL : ∀ b ∈ L, b < w0.heap.size ∧ b ≠ n) {K : Value → World → Prop}
    (k : ∀ a' c' w', Wr w' ⟨n, 2 + 260, none⟩ 1 → HS w0 (setCells w' ⟨n, 2 + 260, none⟩ 0 [.slice a' (t.nm ++ [x]).length c']) n o ⟨t.c, t.dm, t.nx, t.tg, t.nm ++ [x]⟩ ⟨p.na, p.nc, p.ta, p.tc, a', c'⟩ → K (.slice a' (t.nm ++ [x]).length c') w') :
    RunW Try.prog L (Builtin.append_ #[55, 55] 55 #[.slice p.sa t.nm.length p.sc, .slice (some ⟨w.heap.size, 0, none⟩) 1 1]) K (w.alloc (.cells #[.string x] 9)) := by
  have hsz := S.size
  have hm1 : Md [] w (w.alloc (.cells #[.string x] 9)) := Md.alloc w _
  have h2 := OwnL.lit (P := Try.prog) (base := w.heap.size) encs1 w 9 [x] #[.string x] (Nat.le_refl _) (by simp [maxLen]) rfl
  have hsa : w.heap.size ≤ (w.alloc (.cells #[.string x] 9)).heap.size := hm1.size
  have S1 : HS w0 (w.alloc (.cells #[.string x] 9)) n o t p := S.step (hm1.mono (by simp)) (S.cu.mdN hm1 (by simp)) S.ok
  have hown := S.nm
  refine app_own rowT55 encs1 S1.nm h2 (Nat.le_trans hsz hsa) (fun b hb => by have := (hL b hb).1; omega) (fun b hb A hA => by have := (hown.lt hA).1; have := (hL b hb).1; omega) (by simp [maxLen] at hl ⊢; omega) (by simp at hl ⊢; omega) ?_
  intro a' c' w' ho hm hp
  have hDn : n ∉ (p.sa.map (·.block)).toList := by
    intro hmem
    cases hA : p.sa with
    | none => rw [hA] at hmem; simp at hmem
    | some A => rw [hA] at hmem; simp at hmem; have := (hown.lt hA).1; have := S.lt; omega
  have hcu : CuAt w' n o (t.l p) := S1.cu.mdN hm (fun d hd => by
    cases hA : p.sa with
    | none => rw [hA] at hd; simp at hd
    | some A => rw [hA] at hd; simp at hd; have := (hown.lt hA).1; have := S.lt; omega)
  obtain ⟨hset, hmd, hwr⟩ := hcu.setT (j := 260) (by rw [Tb.len S.f]; omega) (.slice a' (t.nm ++ [x]).length c')
  rw [Tb.set260 S.f] at hset
  refine k a' c' w' hwr ?_
  have hne : ∀ {α : Type} {e : TypeId} {enc : α → List Value} {a : Option Addr} {c : Nat} {l : List α}, OwnL (w.alloc (.cells #[.string x] 9)) w0.heap.size e 1 enc a c l → (∀ A B, p.sa = some A → a = some B → A.block ≠ B.block) → OwnL w' w0.heap.size e 1 enc a c l := by
    intro α e enc a c l ho hd
    refine ho.mdD hm fun B hB hmem => ?_
    cases hA : p.sa with
    | none => rw [hA] at hmem; simp at hmem
    | some A => rw [hA] at hmem; simp at hmem; exact hd A B hA hB hmem.symm
  have hprov : ∀ {α : Type} {e : TypeId} {enc : α → List Value} {a : Option Addr} {c : Nat} {l : List α}, OwnL w w0.heap.size e 1 enc a c l → (∀ A B, p.sa = some A → a = some B → A.block ≠ B.block) → ∀ A B, a' = some A → a = some B → A.block ≠ B.block := by
    intro α e enc a c l ho hd A B hA hB
    rcases hp A hA with h | h
    · exact hd A B h hB
    · have := (ho.lt hB).2; omega
  have hmd0 : Md [n] w0 w' := S1.md.old' hm (fun d hd => by
    cases hA : p.sa with
    | none => rw [hA] at hd; simp at hd
    | some A => rw [hA] at hd; simp at hd; have := (hown.lt hA).1; omega)
  exact ⟨hset, S.ok, S.f, (ho).mdD hmd (own_ne (ho) S.lt), (hne S1.tg S.d1).mdD hmd (own_ne (hne S1.tg S.d1) S.lt), (hne S1.nx S.d2).mdD hmd (own_ne (hne S1.nx S.d2) S.lt), hmd0.trans hmd, S.lt, hprov S.tg S.d1, hprov S.nx S.d2, S.d3⟩
theorem HS.app_tg (S : HS w0 w n o t p) (x : Int) (hl : t.tg.length + 1 ≤ 2 ^ 40) (hL : ∀ b ∈ L, b < w0.heap.size ∧ b ≠ n) {K : Value → World → Prop}
    (k : ∀ a' c' w', Wr w' ⟨n, 2 + 259, none⟩ 1 → HS w0 (setCells w' ⟨n, 2 + 259, none⟩ 0 [.slice a' (t.tg ++ [x]).length c']) n o ⟨t.c, t.dm, t.nx, t.tg ++ [x], t.nm⟩ ⟨p.na, p.nc, a', c', p.sa, p.sc⟩ → K (.slice a' (t.tg ++ [x]).length c') w') :
    RunW Try.prog L (Builtin.append_ #[52, 52] 52 #[.slice p.ta t.tg.length p.tc, .slice (some ⟨w.heap.size, 0, none⟩) 1 1]) K (w.alloc (.cells #[.int .i64 x] 3)) := by
  have hsz := S.size
  have hm1 : Md [] w (w.alloc (.cells #[.int .i64 x] 3)) := Md.alloc w _
  have h2 := OwnL.lit (P := Try.prog) (base := w.heap.size) enci1 w 3 [x] #[.int .i64 x] (Nat.le_refl _) (by simp [maxLen]) rfl
  have hsa : w.heap.size ≤ (w.alloc (.cells #[.int .i64 x] 3)).heap.size := hm1.size
  have S1 : HS w0 (w.alloc (.cells #[.int .i64 x] 3)) n o t p := S.step (hm1.mono (by simp)) (S.cu.mdN hm1 (by simp)) S.ok
  have hown := S.tg
  refine app_own rowT52 enci1 S1.tg h2 (Nat.le_trans hsz hsa) (fun b hb => by have := (hL b hb).1; omega) (fun b hb A hA => by have := (hown.lt hA).1; have := (hL b hb).1; omega) (by simp [maxLen] at hl ⊢; omega) (by simp at hl ⊢; omega) ?_
  intro a' c' w' ho hm hp
  have hDn : n ∉ (p.ta.map (·.block)).toList := by
    intro hmem
    cases hA : p.ta with
    | none => rw [hA] at hmem; simp at hmem
    | some A => rw [hA] at hmem; simp at hmem; have := (hown.lt hA).1; have := S.lt; omega
  have hcu : CuAt w' n o (t.l p) := S1.cu.mdN hm (fun d hd => by
    cases hA : p.ta with
    | none => rw [hA] at hd; simp at hd
    | some A => rw [hA] at hd; simp at hd; have := (hown.lt hA).1; have := S.lt; omega)
  obtain ⟨hset, hmd, hwr⟩ := hcu.setT (j := 259) (by rw [Tb.len S.f]; omega) (.slice a' (t.tg ++ [x]).length c')
  rw [Tb.set259 S.f] at hset
  refine k a' c' w' hwr ?_
  have hne : ∀ {α : Type} {e : TypeId} {enc : α → List Value} {a : Option Addr} {c : Nat} {l : List α}, OwnL (w.alloc (.cells #[.int .i64 x] 3)) w0.heap.size e 1 enc a c l → (∀ A B, p.ta = some A → a = some B → A.block ≠ B.block) → OwnL w' w0.heap.size e 1 enc a c l := by
    intro α e enc a c l ho hd
    refine ho.mdD hm fun B hB hmem => ?_
    cases hA : p.ta with
    | none => rw [hA] at hmem; simp at hmem
    | some A => rw [hA] at hmem; simp at hmem; exact hd A B hA hB hmem.symm
  have hprov : ∀ {α : Type} {e : TypeId} {enc : α → List Value} {a : Option Addr} {c : Nat} {l : List α}, OwnL w w0.heap.size e 1 enc a c l → (∀ A B, p.ta = some A → a = some B → A.block ≠ B.block) → ∀ A B, a' = some A → a = some B → A.block ≠ B.block := by
    intro α e enc a c l ho hd A B hA hB
    rcases hp A hA with h | h
    · exact hd A B h hB
    · have := (ho.lt hB).2; omega
  have hmd0 : Md [n] w0 w' := S1.md.old' hm (fun d hd => by
    cases hA : p.ta with
    | none => rw [hA] at hd; simp at hd
    | some A => rw [hA] at hd; simp at hd; have := (hown.lt hA).1; omega)
  exact ⟨hset, S.ok, S.f, (hne S1.nm (fun A B hA hB => Ne.symm (S.d1 B A hB hA))).mdD hmd (own_ne (hne S1.nm (fun A B hA hB => Ne.symm (S.d1 B A hB hA))) S.lt), (ho).mdD hmd (own_ne (ho) S.lt), (hne S1.nx S.d3).mdD hmd (own_ne (hne S1.nx S.d3) S.lt), hmd0.trans hmd, S.lt, (fun A B hA hB => Ne.symm (hprov S.nm (fun A B hA hB => Ne.symm (S.d1 B A hB hA)) B A hB hA)), S.d2, hprov S.nx S.d3⟩
theorem HS.app_nx (S : HS w0 w n o t p) (x : Int) (hl : t.nx.length + 1 ≤ 2 ^ 40) (hL : ∀ b ∈ L, b < w0.heap.size ∧ b ≠ n) {K : Value → World → Prop}
    (k : ∀ a' c' w', Wr w' ⟨n, 2 + 258, none⟩ 1 → HS w0 (setCells w' ⟨n, 2 + 258, none⟩ 0 [.slice a' (t.nx ++ [x]).length c']) n o ⟨t.c, t.dm, t.nx ++ [x], t.tg, t.nm⟩ ⟨a', c', p.ta, p.tc, p.sa, p.sc⟩ → K (.slice a' (t.nx ++ [x]).length c') w') :
    RunW Try.prog L (Builtin.append_ #[52, 52] 52 #[.slice p.na t.nx.length p.nc, .slice (some ⟨w.heap.size, 0, none⟩) 1 1]) K (w.alloc (.cells #[.int .i64 x] 3)) := by
  have hsz := S.size
  have hm1 : Md [] w (w.alloc (.cells #[.int .i64 x] 3)) := Md.alloc w _
  have h2 := OwnL.lit (P := Try.prog) (base := w.heap.size) enci1 w 3 [x] #[.int .i64 x] (Nat.le_refl _) (by simp [maxLen]) rfl
  have hsa : w.heap.size ≤ (w.alloc (.cells #[.int .i64 x] 3)).heap.size := hm1.size
  have S1 : HS w0 (w.alloc (.cells #[.int .i64 x] 3)) n o t p := S.step (hm1.mono (by simp)) (S.cu.mdN hm1 (by simp)) S.ok
  have hown := S.nx
  refine app_own rowT52 enci1 S1.nx h2 (Nat.le_trans hsz hsa) (fun b hb => by have := (hL b hb).1; omega) (fun b hb A hA => by have := (hown.lt hA).1; have := (hL b hb).1; omega) (by simp [maxLen] at hl ⊢; omega) (by simp at hl ⊢; omega) ?_
  intro a' c' w' ho hm hp
  have hDn : n ∉ (p.na.map (·.block)).toList := by
    intro hmem
    cases hA : p.na with
    | none => rw [hA] at hmem; simp at hmem
    | some A => rw [hA] at hmem; simp at hmem; have := (hown.lt hA).1; have := S.lt; omega
  have hcu : CuAt w' n o (t.l p) := S1.cu.mdN hm (fun d hd => by
    cases hA : p.na with
    | none => rw [hA] at hd; simp at hd
    | some A => rw [hA] at hd; simp at hd; have := (hown.lt hA).1; have := S.lt; omega)
  obtain ⟨hset, hmd, hwr⟩ := hcu.setT (j := 258) (by rw [Tb.len S.f]; omega) (.slice a' (t.nx ++ [x]).length c')
  rw [Tb.set258 S.f] at hset
  refine k a' c' w' hwr ?_
  have hne : ∀ {α : Type} {e : TypeId} {enc : α → List Value} {a : Option Addr} {c : Nat} {l : List α}, OwnL (w.alloc (.cells #[.int .i64 x] 3)) w0.heap.size e 1 enc a c l → (∀ A B, p.na = some A → a = some B → A.block ≠ B.block) → OwnL w' w0.heap.size e 1 enc a c l := by
    intro α e enc a c l ho hd
    refine ho.mdD hm fun B hB hmem => ?_
    cases hA : p.na with
    | none => rw [hA] at hmem; simp at hmem
    | some A => rw [hA] at hmem; simp at hmem; exact hd A B hA hB hmem.symm
  have hprov : ∀ {α : Type} {e : TypeId} {enc : α → List Value} {a : Option Addr} {c : Nat} {l : List α}, OwnL w w0.heap.size e 1 enc a c l → (∀ A B, p.na = some A → a = some B → A.block ≠ B.block) → ∀ A B, a' = some A → a = some B → A.block ≠ B.block := by
    intro α e enc a c l ho hd A B hA hB
    rcases hp A hA with h | h
    · exact hd A B h hB
    · have := (ho.lt hB).2; omega
  have hmd0 : Md [n] w0 w' := S1.md.old' hm (fun d hd => by
    cases hA : p.na with
    | none => rw [hA] at hd; simp at hd
    | some A => rw [hA] at hd; simp at hd; have := (hown.lt hA).1; omega)
  exact ⟨hset, S.ok, S.f, (hne S1.nm (fun A B hA hB => Ne.symm (S.d2 B A hB hA))).mdD hmd (own_ne (hne S1.nm (fun A B hA hB => Ne.symm (S.d2 B A hB hA))) S.lt), (hne S1.tg (fun A B hA hB => Ne.symm (S.d3 B A hB hA))).mdD hmd (own_ne (hne S1.tg (fun A B hA hB => Ne.symm (S.d3 B A hB hA))) S.lt), (ho).mdD hmd (own_ne (ho) S.lt), hmd0.trans hmd, S.lt, S.d1, (fun A B hA hB => Ne.symm (hprov S.nm (fun A B hA hB => Ne.symm (S.d2 B A hB hA)) B A hB hA)), (fun A B hA hB => Ne.symm (hprov S.tg (fun A B hA hB => Ne.symm (S.d3 B A hB hA)) B A hB hA))⟩
theorem HS.set257 (S : HS w0 w n o t p) (d : Int) : HS w0 (setCells w ⟨n, 2 + 257, none⟩ 0 [.int .i64 d]) n o ⟨t.c, d, t.nx, t.tg, t.nm⟩ p ∧ Wr w ⟨n, 2 + 257, none⟩ 1 := by
  obtain ⟨hset, hm, hwr⟩ := S.cu.setT (j := 257) (by rw [Tb.len S.f]; omega) (.int .i64 d)
  rw [Tb.set257 S.f] at hset
  exact ⟨⟨hset, S.ok, S.f, S.nm.mdD hm (own_ne S.nm S.lt), S.tg.mdD hm (own_ne S.tg S.lt), S.nx.mdD hm (own_ne S.nx S.lt), S.md.trans hm, S.lt, S.d1, S.d2, S.d3⟩, hwr⟩
theorem HS.set256 (S : HS w0 w n o t p) (d : Int) : HS w0 (setCells w ⟨n, 2 + 256, none⟩ 0 [.int .i64 d]) n o ⟨⟨t.c.f, d⟩, t.dm, t.nx, t.tg, t.nm⟩ p ∧ Wr w ⟨n, 2 + 256, none⟩ 1 := by
  obtain ⟨hset, hm, hwr⟩ := S.cu.setT (j := 256) (by rw [Tb.len S.f]; omega) (.int .i64 d)
  rw [Tb.set256 S.f] at hset
  exact ⟨⟨hset, S.ok, S.f, S.nm.mdD hm (own_ne S.nm S.lt), S.tg.mdD hm (own_ne S.tg S.lt), S.nx.mdD hm (own_ne S.nx S.lt), S.md.trans hm, S.lt, S.d1, S.d2, S.d3⟩, hwr⟩
theorem HS.off (S : HS w0 w n o t p) (m x : Bool) (hx : x = (bif o.isNone then true else !m)) : HS w0 (setCells w ⟨n, 1, none⟩ 0 [.bool x]) n (if m = true then o else none) t p ∧ Wr w ⟨n, 1, none⟩ 1 := by
  obtain ⟨hset, hm, hwr⟩ := S.cu.setOff m x hx
  exact ⟨S.step hm hset (by cases m; exact fun r hr => (by cases hr); exact S.ok), hwr⟩
theorem Md_setRow {w : World} {n : Nat} (cs : Array Value) : Md [n] w (w.setRow n cs) :=
  ⟨rfl, rfl, rfl, by simp [World.setRow], fun k hk hm => setRow_other w n k cs (by simpa using hm)⟩
theorem HS.copyF (S : HS w0 w n o t p) {g : List Nat} (hg : g.length = 256) {a : Option Addr} {c : Nat} (hr : RowAt w a 1 b1 g) :
    ∃ w', (Builtin.copy_ #[51, 51] 3 #[.slice (some ⟨n, 2, none⟩) 256 256, .slice a 256 c]).run Try.prog w = .ok (.int .i64 256) w' ∧ HS w0 w' n o ⟨⟨g, t.c.m⟩, t.dm, t.nx, t.tg, t.nm⟩ p := by
  obtain ⟨A, hA, _⟩ := hr 0 (g[0]'(by omega)) (List.getElem?_eq_getElem (by omega))
  subst hA
  obtain ⟨r, off, ca, cc, ho, hb, hrr, hc, ha⟩ := S.cu
  have hs5 : (Try.prog.info? 5).map (·.size) = some 1 := by kernel_rfl
  have hl : (g.flatMap b1).length = 256 := by rw [encb1.lenL, hg]
  have h := run_copy_row (P := Try.prog) w 51 51 3 5 n 2 256 256 A 256 c _ 209 (g.flatMap b1) (by kernel_rfl) hs5 hb (by rw [hl]; rfl) (by
    intro j v hv
    have hj : j < g.length := by have := (List.getElem?_eq_some_iff.1 hv).1; omega
    obtain ⟨B, hB, hcl⟩ := hr j g[j] (List.getElem?_eq_getElem hj)
    cases hB
    have := encb1.at g j 0 g[j] (List.getElem?_eq_getElem hj) (by omega)
    rw [Nat.mul_one, Nat.add_zero] at this
    rw [this] at hv
    have := hcl 0 v hv
    rw [addr_add0, Nat.mul_one] at this
    exact this) (by rw [hl]; simp [Tb.len S.f]) (fun v hv => encb1.oneL g v hv)
  rw [hl] at h
  refine ⟨_, h, ?_⟩
  have hm : Md [n] w (w.setRow n (List.toArray (((Value.slice ca r.length cc :: Value.bool off :: t.l p).toArray.toList.take 2) ++ g.flatMap b1 ++ ((Value.slice ca r.length cc :: Value.bool off :: t.l p).toArray.toList.drop (2 + 256))))) := Md_setRow _
  refine ⟨⟨r, off, ca, cc, ho, ?_, hrr.mdE hm fun A hA hne => by have := ha A hA hne; simp; omega, hc, ha⟩, S.ok, hg, S.nm.mdD hm (own_ne S.nm S.lt), S.tg.mdD hm (own_ne S.tg S.lt), S.nx.mdD hm (own_ne S.nx S.lt), S.md.trans hm, S.lt, S.d1, S.d2, S.d3⟩
  have := setRow_heap w n _ (List.toArray (((Value.slice ca r.length cc :: Value.bool off :: t.l p).toArray.toList.take 2) ++ g.flatMap b1 ++ ((Value.slice ca r.length cc :: Value.bool off :: t.l p).toArray.toList.drop (2 + 256)))) 209 (0, 0) hb
  unfold Blk
  rw [this, ← Tb.setF S.f g hg]
  congr 3
end
theorem slice_arr (w : World) (A : Addr) : (Instr.sliceAt 23 (.pointer (some A)) none none none).run Try.prog w = .ok (.slice (some A) 256 256) w := by
  have e1 : Try.prog.elem 23 = 5 := by kernel_rfl
  have e2 : Try.prog.arrayLen 23 = 256 := by kernel_rfl
  rw [run_sliceAt_array_all w 23 A (by kernel_rfl), e1, e2, size5]
  simp [Result.andThen, slicedAt, addr_add0]
def hd1 (o : Option (List Nat)) : Bool × Option (List Nat) :=
  if (oneO o).1 = 70 then (if (oneO (oneO o).2).1 = 84 then (decide ((oneO (oneO (oneO o).2).2).1 = 1), (oneO (oneO (oneO o).2).2).2) else (false, (oneO (oneO o).2).2)) else (false, (oneO o).2)
def hdOff (o : Option (List Nat)) : Option (List Nat) := if (hd1 o).1 = true then (hd1 o).2 else none
def hdM (o : Option (List Nat)) : Nat × Option (List Nat) := oneO (hdOff o)
def hdS (o : Option (List Nat)) : Nat × Option (List Nat) := pairO (hdM o).2
def hdC (o : Option (List Nat)) : Nat × Option (List Nat) := oneO (hdS o).2
def nmsO : Nat → Option (List Nat) → List ByteArray → List ByteArray × Option (List Nat)
  | 0, o, acc => (acc, o)
  | k + 1, o, acc => nmsO k (takeO (oneO o).2 (oneO o).1).2 (acc ++ [bytesOf (takeO (oneO o).2 (oneO o).1).1])
def hdN (o : Option (List Nat)) : List ByteArray × Option (List Nat) := nmsO (hdC o).1 (hdC o).2 []
def hdF (o : Option (List Nat)) : List Nat × Option (List Nat) := takeO (hdN o).2 256
def zT : Tb := ⟨zCl 0, 0, [], [], []⟩
def zP : TbS := ⟨none, 0, none, 0, none, 0⟩
theorem f157_ok (n : Nat) (b : Option (List Nat)) (hb : okO b) (w : World) (hcu : CuAt w n b (zT.l zP)) (hlt : n < w.heap.size) :
    Ct Try.prog 157 #[.pointer (some ⟨n, 0, none⟩)] w fun v w' => (∃ p', v = .int .i64 (hdS b).1 ∧ HS w w' n (hdF b).2 ⟨⟨(hdF b).1, ((hdM b).1 + 1 : Nat)⟩, ((hdM b).1 + 1 : Nat), [], [], (hdN b).1⟩ p') ∧ Md [n] w w' := by
  apply f157_in
  have S : HS w w n b zT zP := ⟨hcu, hb, rfl, OwnL.nil .., OwnL.nil .., OwnL.nil .., Md.refl _ _, hlt, fun A B h => (by cases h), fun A B h => (by cases h), fun A B h => (by cases h)⟩
  refine in158 S (by simp) rfl fun w3 S3 => ?_
  refine Bd_in fun b5 hb5 => ⟨fun _ => rfl, Bd_in fun A7 hA7 => ?_⟩
  obtain rfl : A7 = ⟨n, 0, none⟩ := hA7
  have e5 : b5 = decide ((oneO b).1 = 70) := by rw [hb5, Bool.eq_iff_iff]; simp; omega
  refine Gd_to (fun x w' => ∃ o', HS w w' n o' zT zP ∧ (b5 = true → x = ((oneO (oneO b).2).1 : Int) ∧ o' = (oneO (oneO b).2).2) ∧ (b5 = false → o' = (oneO b).2)) (fun x12 w13 hJ => ?_)
    (fun fin hc => in158 S3 (by simp) rfl fun w' S' => fin _ _ ⟨_, S', fun _ => ⟨rfl, rfl⟩, fun h => by rw [h] at hc; cases hc⟩) (fun hc => ⟨_, S3, fun h => (by rw [h] at hc; cases hc), fun _ => rfl⟩)
  obtain ⟨o2, S13, h13, h13'⟩ := hJ
  refine Bd_in fun b14 hb14 => Bd_in fun b15 hb15 => ⟨fun _ => rfl, Bd_in fun A17 hA17 => ?_⟩
  obtain rfl : A17 = ⟨n, 0, none⟩ := hA17
  refine Gd_to (fun x w' => ∃ o', HS w w' n o' zT zP ∧ (b15 = true → x = ((oneO o2).1 : Int) ∧ o' = (oneO o2).2) ∧ (b15 = false → o' = o2)) (fun x22 w23 hJ => ?_)
    (fun fin hc => in158 S13 (by simp) rfl fun w' S' => fin _ _ ⟨_, S', fun _ => ⟨rfl, rfl⟩, fun h => by rw [h] at hc; cases hc⟩) (fun hc => ⟨_, S13, fun h => (by rw [h] at hc; cases hc), fun _ => rfl⟩)
  obtain ⟨o3, S23, h23, h23'⟩ := hJ
  refine Bd_in fun b24 hb24 => Bd_in fun b25 hb25 => ?_
  have e25 : (b25, o3) = hd1 b := by
    unfold hd1
    by_cases h70 : (oneO b).1 = 70
    · have c5 : b5 = true := by rw [e5]; simpa using h70
      obtain ⟨hx12, rfl⟩ := h13 c5
      rw [if_pos h70]
      by_cases h84 : (oneO (oneO b).2).1 = 84
      · have c15 : b15 = true := by rw [hb15, c5, hb14, hx12, h84]; rfl
        obtain ⟨hx22, rfl⟩ := h23 c15
        rw [if_pos h84, hb25, c15, hb24, hx22]
        congr 1
        rw [Bool.eq_iff_iff]; simp; omega
      · have c15 : b15 = false := by rw [hb15, c5, hb14, hx12]; simp; omega
        rw [if_neg h84, hb25, c15, h23' c15]; rfl
    · have c5 : b5 = false := by rw [e5]; simpa using h70
      have c15 : b15 = false := by rw [hb15, c5]; rfl
      rw [if_neg h70, hb25, c15, h23' c15, h13' c5]; rfl
  have eoff : (if b25 = true then o3 else none) = hdOff b := by unfold hdOff; rw [← e25]
  refine Ld_in S23.cu.offC <| opB_in <| Bd_in fun b29 hb29 => Bd_in fun b30 hb30 => ?_
  obtain ⟨S23', hwr⟩ := S23.off b25 b30 (by rw [hb30, hb29])
  rw [eoff] at S23'
  refine ⟨by simp, hwr, ?_⟩
  refine in158 S23' (by simp) rfl fun w34 S34 => ?_
  refine Bd_in fun x36 hx36 => ?_
  have hM := S23'.ok.one.2
  have e36 : x36 = (((hdM b).1 + 1 : Nat) : Int) := by rw [hx36]; unfold hdM; rw [IntKind.wrap_i64]; omega
  clear hx36
  subst e36
  obtain ⟨S34', hwr34⟩ := S34.set257 (((hdM b).1 + 1 : Nat) : Int)
  refine ⟨by simp, hwr34, ?_⟩
  refine in159 S34' (by simp) rfl fun w40 S40 => ?_
  refine in158 S40 (by simp) rfl fun w44 S44 => ?_
  have hC : (hdC b).1 < 256 := S40.ok.one.2
  refine LoopP_in (fun m us vs w' => ∃ (i : Nat) (o' : Option (List Nat)) (nm : List ByteArray) (p' : TbS), us = [.int .i64 i] ∧ vs = [] ∧ m = (hdC b).1 - i ∧ i ≤ (hdC b).1 ∧ nm.length = i ∧ HS w w' n o' ⟨zCl 0, ((hdM b).1 + 1 : Nat), [], [], nm⟩ p' ∧ hdN b = nmsO ((hdC b).1 - i) o' nm) (hdC b).1
    ⟨0, _, [], zP, rfl, rfl, rfl, by omega, rfl, S44, rfl⟩ ?_
  rintro m us vs w49 ⟨i, o', nm, p', rfl, rfl, rfl, hi, hnl, S49, hN⟩
  refine opI_in <| Bd_in fun b51 hb51 => If_in (fun h => ?_) fun h => ?_
  · subst hb51
    have hi' : i < (hdC b).1 := by
      have : (i : Int) < ((hdC b).1 : Int) := of_decide_eq_true h
      omega
    have hm1 : (oneO o').1 ≤ 256 := by have := S49.ok.one.2; omega
    have hstep : hdN b = nmsO ((hdC b).1 - (i + 1)) (takeO (oneO o').2 (oneO o').1).2 (nm ++ [bytesOf (takeO (oneO o').2 (oneO o').1).1]) := by
      rw [hN, show (hdC b).1 - i = ((hdC b).1 - (i + 1)) + 1 by omega]; rfl
    have hlt1 := (S49.ok.one.1.take (oneO o').1).2
    have hx78 : ∀ x : Int, x = IntKind.wrap .i64 ((i : Int) + 1) → x = ((i + 1 : Nat) : Int) := by
      intro x hx; rw [hx, inc_i64 (by omega)]
    have S49d := S49.drew
    refine ⟨?_, ?_⟩
    · refine Ld_in (S49d.cu.cellT (Tb.at260 S49d.f)) <| opL_in ?_
      refine in158 S49d (by simp) rfl fun w60 S60 => ?_
      refine in217 S60 hm1 (by simp) rfl fun w5 a c S5 hrow => ?_
      refine RunW_in0 (conv_row hrow hlt1 _ _ (takeO_len _ _)) <| opStr_in ?_
      intro nb wb e1 e2
      subst e1; subst e2
      refine S5.app_nm _ (by simp only; omega) (by simp) fun a' c' w6 hwr S6 => opL_in ⟨by simp, hwr, Bd_in fun x hx => ?_⟩
      rw [hx78 x hx]
      exact ⟨(hdC b).1 - (i + 1), by omega, i + 1, _, _, _, rfl, rfl, rfl, by omega, by simp [hnl], S6, hstep⟩
    · refine in158 S49d (by simp) rfl fun w60 S60 => ⟨?_, ?_⟩
      · refine Ld_in (S60.cu.cellT (Tb.at260 S60.f)) <| opL_in ?_
        refine in217 S60 hm1 (by simp) rfl fun w5 a c S5 hrow => ?_
        refine RunW_in0 (conv_row hrow hlt1 _ _ (takeO_len _ _)) <| opStr_in ?_
        intro nb wb e1 e2
        subst e1; subst e2
        refine S5.app_nm _ (by simp only; omega) (by simp) fun a' c' w6 hwr S6 => opL_in ⟨by simp, hwr, Bd_in fun x hx => ?_⟩
        rw [hx78 x hx]
        exact ⟨(hdC b).1 - (i + 1), by omega, i + 1, _, _, _, rfl, rfl, rfl, by omega, by simp [hnl], S6, hstep⟩
      · refine in217 S60 hm1 (by simp) rfl fun w5 a c S5 hrow => ⟨?_, ?_⟩
        · refine Ld_in (S5.cu.cellT (Tb.at260 S5.f)) <| opL_in ?_
          refine RunW_in0 (conv_row hrow hlt1 _ _ (takeO_len _ _)) <| opStr_in ?_
          intro nb wb e1 e2
          subst e1; subst e2
          refine S5.app_nm _ (by simp only; omega) (by simp) fun a' c' w6 hwr S6 => opL_in ⟨by simp, hwr, Bd_in fun x hx => ?_⟩
          rw [hx78 x hx]
          exact ⟨(hdC b).1 - (i + 1), by omega, i + 1, _, _, _, rfl, rfl, rfl, by omega, by simp [hnl], S6, hstep⟩
        · refine RunW_in0 (conv_row hrow hlt1 _ _ (takeO_len _ _)) <| opStr_in ⟨?_, ?_⟩
          · refine Ld_in (S5.cu.cellT (Tb.at260 S5.f)) <| opL_in ?_
            intro nb wb e1 e2
            subst e1; subst e2
            refine S5.app_nm _ (by simp only; omega) (by simp) fun a' c' w6 hwr S6 => opL_in ⟨by simp, hwr, Bd_in fun x hx => ?_⟩
            rw [hx78 x hx]
            exact ⟨(hdC b).1 - (i + 1), by omega, i + 1, _, _, _, rfl, rfl, rfl, by omega, by simp [hnl], S6, hstep⟩
          · intro nb wb e1 e2
            subst e1; subst e2
            have hma : Md [] w5 (w5.alloc (.cells #[.string (bytesOf (takeO (oneO o').2 (oneO o').1).1)] 9)) := Md.alloc w5 _
            have S5a := S5.step (hma.mono (by simp)) (S5.cu.mdN hma (by simp)) S5.ok
            refine Ld_in (S5a.cu.cellT (Tb.at260 S5a.f)) <| opL_in ?_
            refine S5.app_nm _ (by simp only; omega) (by simp) fun a' c' w6 hwr S6 => opL_in ⟨by simp, hwr, Bd_in fun x hx => ?_⟩
            rw [hx78 x hx]
            exact ⟨(hdC b).1 - (i + 1), by omega, i + 1, _, _, _, rfl, rfl, rfl, by omega, by simp [hnl], S6, hstep⟩
  · subst hb51
    have hi' : i = (hdC b).1 := by
      have : ¬ (i : Int) < ((hdC b).1 : Int) := of_decide_eq_false h
      omega
    have hNe : hdN b = (nm, o') := by rw [hN, hi', Nat.sub_self]; rfl
    have hF : hdF b = takeO o' 256 := by unfold hdF; rw [hNe]
    have hlen := takeO_len o' 256
    have S49d := S49.drew
    have hNn : (hdN b).1 = nm := by rw [hNe]
    rw [hNn, hF]
    refine ⟨?_, ?_⟩
    · refine RunW_in0 (slice_arr _ _) <| opL_in ?_
      refine in217 S49d (m := 256) (by omega) (by simp) rfl fun w5 a c S5 hrow => ?_
      obtain ⟨w6, hrun, S6⟩ := S5.copyF hlen (c := c) hrow
      refine RunW_in hrun (fun b hb => by simp at hb) <| opI_in <| Ld_in (S6.cu.cellT (Tb.at257 S6.f)) <| opI_in ?_
      obtain ⟨S7, hwr7⟩ := S6.set256 (((hdM b).1 + 1 : Nat) : Int)
      exact ⟨by simp, hwr7, ⟨p', rfl, S7⟩, S7.md⟩
    · refine in217 S49d (m := 256) (by omega) (by simp) rfl fun w5 a c S5 hrow => ?_
      refine RunW_in0 (slice_arr _ _) <| opL_in ?_
      obtain ⟨w6, hrun, S6⟩ := S5.copyF hlen (c := c) hrow
      refine RunW_in hrun (fun b hb => by simp at hb) <| opI_in <| Ld_in (S6.cu.cellT (Tb.at257 S6.f)) <| opI_in ?_
      obtain ⟨S7, hwr7⟩ := S6.set256 (((hdM b).1 + 1 : Nat) : Int)
      exact ⟨by simp, hwr7, ⟨p', rfl, S7⟩, S7.md⟩
end Fk
set_option linter.unusedVariables false
set_option linter.unusedSimpArgs false
set_option maxRecDepth 100000
namespace Fk
open Go Go.Proofs Go.RowKit
section
variable {H : Type} {enc : TypeId × Value → H} {w : World} {base : Nat} {spare : Nat → Bool} {held : Bool} {fuel : Nat} {cs : List Value} {x : DataW H × List MemPlace}
/-- A state's numbers are what they may be. -/
def Ns.wf (x : Ns) : Prop := 0 ≤ x.k ∧ x.k < 256
theorem str_of {d : DataW H} {ps : List MemPlace} {s : ByteArray} (h : DataW.Trod enc Try.prog w base spare held 9 (.string s) d ps) : ∃ l : List Nat, s = bytesOf l ∧ (∀ x ∈ l, x < 256) ∧ l.length < 2 ^ 63 := by
  obtain ⟨fuel, hf⟩ := h
  obtain ⟨s', h1, h2⟩ := str_cs (by kernel_rfl) hf
  have h1' : [Value.string s] = [.string s'] := h1
  simp at h1'
  subst h1'
  refine ⟨s.data.toList.map (·.toNat), ?_, ?_, ?_⟩
  · apply ByteArray.ext
    apply Array.toList_inj.1
    simp [bytesOf]
    have : (UInt8.ofNat ∘ fun x : UInt8 => x.toNat) = id := by funext x; simp
    rw [this, List.map_id]
  · intro x hx
    obtain ⟨y, _, rfl⟩ := List.mem_map.1 hx
    exact y.toNat_lt
  · rw [List.length_map]
    have e : s.data.toList.length = s.size := Array.length_toList
    simp only [maxLen] at h2
    omega
/-- How long a row of trees may be: what it holds is of bytes that memory bears. -/
theorem fo_sized {ts : List TypeId} {ds : List (DataW H)} (h : (DataW.weightsEach Try.prog ts ds).all (· ≤ reachBytes) = true) {j : Nat} (ht : ts[j]? = some 22) {d : DataW H} (hd : ds[j]? = some d) {ps : List MemPlace} {a : Option Addr} {n c : Nat} (hT : DataW.Trod enc Try.prog w base spare held 22 (.slice a n c) d ps) : n ≤ 2 ^ 41 := by
  obtain ⟨fuel, hT⟩ := hT
  rcases DataW.trod_slice (by kernel_rfl : Try.prog.underlying 22 = some (.slice 42)) hT with ⟨he, _⟩ | ⟨a', len, cap, elems, rest, m, rfl, he, hx, _, _, _, hel, _⟩
  · have he' : [Value.slice a n c] = [.slice none 0 0] := he
    simp at he'
    omega
  · have he' : [Value.slice a n c] = [.slice (some a') len cap] := he
    simp at he'
    simp only [Prod.mk.injEq] at hx
    obtain ⟨rfl, _⟩ := hx
    have := sized_slice h ht hd (by kernel_rfl : Try.prog.underlying 22 = some (.slice 42))
    have hb : Try.prog.bytesOf 42 = 64 := by kernel_rfl
    rw [hb] at this
    simp only [List.length_map, reachBytes] at this
    omega
end
end Fk
set_option linter.unusedVariables false
set_option linter.unusedSimpArgs false
set_option maxRecDepth 100000
namespace Fk
open Go Go.Proofs Go.RowKit
theorem ad0' (n j : Nat) : (Addr.mk n 0 none).add j = ⟨n, j, none⟩ := by rw [Addr.add_lit, Nat.zero_add]
theorem Blk.ld' {w : World} {n : Nat} {ty : TypeId} {l : List Value} (h : Blk w n ty l) {j : Nat} {v : Value} (hv : l[j]? = some v) {K : Value → Prop} (k : K v) : Ld w ((Addr.mk n 0 none).add j) K :=
  Ld_in (by rw [ad0']; exact h.cell hv) k
theorem Blk.new (w : World) (cs : Array Value) (ty : TypeId) : Blk (w.alloc (.cells cs ty)) w.heap.size ty cs.toList := by
  show (w.heap.push (.cells cs ty (0, 0)))[w.heap.size]? = _
  rw [Array.getElem?_push_size]
theorem RowAt.ld8v {w : World} {A : Option Addr} {l : List Ns} (h : RowAt w A 8 nsE l) {i : Nat} (hi : i < l.length) {K : Value → Value → Value → Value → Value → Value → Value → Value → Prop}
    (k : K (.int .u8 l[i].k) (.int .u64 l[i].s1) (.int .u64 l[i].s2) (.int .u64 l[i].s3) (.int .u64 l[i].s4) (.int .i64 l[i].a) (.int .i64 l[i].b) (.int .i64 l[i].t)) :
    Ld w ((adAt A (i : Int) 8).add 0) fun v1 => Ld w ((adAt A (i : Int) 8).add 1) fun v2 => Ld w ((adAt A (i : Int) 8).add 2) fun v3 => Ld w ((adAt A (i : Int) 8).add 3) fun v4 => Ld w ((adAt A (i : Int) 8).add 4) fun v5 => Ld w ((adAt A (i : Int) 8).add 5) fun v6 => Ld w ((adAt A (i : Int) 8).add 6) fun v7 => Ld w ((adAt A (i : Int) 8).add 7) fun v8 => K v1 v2 v3 v4 v5 v6 v7 v8 := by
  obtain ⟨B, rfl, hc⟩ := h i l[i] (List.getElem?_eq_getElem hi)
  exact Ld_in (hc 0 _ rfl) <| Ld_in (hc 1 _ rfl) <| Ld_in (hc 2 _ rfl) <| Ld_in (hc 3 _ rfl) <| Ld_in (hc 4 _ rfl) <| Ld_in (hc 5 _ rfl) <| Ld_in (hc 6 _ rfl) <| Ld_in (hc 7 _ rfl) k
theorem RowAt.ld8 {w : World} {A : Option Addr} {l : List Ns} (h : RowAt w A 8 nsE l) {i : Nat} (hi : i < l.length) {K : Int → Int → Int → Int → Int → Int → Int → Int → Prop}
    (k : K l[i].k l[i].s1 l[i].s2 l[i].s3 l[i].s4 l[i].a l[i].b l[i].t) :
    Ld w ((adAt A (i : Int) 8).add 0) fun v1 => Ld w ((adAt A (i : Int) 8).add 1) fun v2 => Ld w ((adAt A (i : Int) 8).add 2) fun v3 => Ld w ((adAt A (i : Int) 8).add 3) fun v4 => Ld w ((adAt A (i : Int) 8).add 4) fun v5 => Ld w ((adAt A (i : Int) 8).add 5) fun v6 => Ld w ((adAt A (i : Int) 8).add 6) fun v7 => Ld w ((adAt A (i : Int) 8).add 7) fun v8 =>
      opI .u8 v1 fun x1 => opI .u64 v2 fun x2 => opI .u64 v3 fun x3 => opI .u64 v4 fun x4 => opI .u64 v5 fun x5 => opI .i64 v6 fun x6 => opI .i64 v7 fun x7 => opI .i64 v8 fun x8 => K x1 x2 x3 x4 x5 x6 x7 x8 :=
  h.ld8v hi <| opI_in <| opI_in <| opI_in <| opI_in <| opI_in <| opI_in <| opI_in <| opI_in k
def Ns.zs (x : Ns) : Prop := x.s1 = 0 ∧ x.s2 = 0 ∧ x.s3 = 0 ∧ x.s4 = 0
instance (x : Ns) : Decidable x.zs := by unfold Ns.zs; infer_instance
def okNs (m : Int) (x : Ns) : Prop := (x.k = 0 ∧ x.zs ∧ x.a = 0 ∧ x.b = 0 ∧ 0 ≤ x.t ∧ x.t < 200) ∨ (x.k = 1 ∧ ¬ x.zs ∧ 0 ≤ x.a ∧ x.a < m ∧ x.b = 0 ∧ x.t = 0) ∨ (x.k = 2 ∧ x.zs ∧ 0 ≤ x.a ∧ x.a < m ∧ 0 ≤ x.b ∧ x.b < m ∧ x.t = 0)
instance (m : Int) (x : Ns) : Decidable (okNs m x) := by unfold okNs; infer_instance
def nfRight (st : Int) (l : List Ns) : Bool := decide (0 ≤ st ∧ st < l.length ∧ l.length ≤ 20000) && l.all fun x => decide (okNs l.length x)
theorem f186_ok (i : Int) (q : Addr) (A : Option Addr) (n C : Nat) (w : World) (h : w.cell? (q.add 1) = some (.slice A n C)) : Ct Try.prog 186 #[.int .i64 i, .pointer (some q)] w fun v w' => v = .bool (decide (0 ≤ i ∧ i < n)) ∧ Md [] w w' := by
  apply f186_in
  refine Bd_in fun b1 hb1 => Gd_to (fun (u : Option Addr × Nat × Nat) w' => (b1 = true → u.2.1 = n) ∧ Md [] w w') (fun u w8 hJ => ?_) (fun fin hc => Ld_in h <| opL_in <| fin _ _ ⟨fun _ => rfl, Md.refl _ _⟩) (fun hc => ⟨fun h => (by rw [hc] at h; cases h), Md.refl _ _⟩)
  obtain ⟨hu, hm⟩ := hJ
  refine Bd_e rfl <| Bd_in fun b10 hb10 => Bd_in fun b11 hb11 => ⟨?_, hm⟩
  rw [hb11]
  by_cases c : 0 ≤ i
  · have e1 : b1 = true := by rw [hb1]; simpa using c
    rw [e1, hb10, hu e1]
    simp [c]
  · have e1 : b1 = false := by rw [hb1]; simpa using c
    rw [e1]
    simp [c]
theorem in186 {L : List Nat} {w : World} {n1 : Nat} {st : Int} {A : Option Addr} {n C : Nat} (h : Blk w n1 71 [.int .i64 st, .slice A n C]) (i : Int) (hL : ∀ b ∈ L, b < w.heap.size) {K : Bool → World → Prop} (k : ∀ w', Md [] w w' → K (decide (0 ≤ i ∧ i < n)) w') :
    CallW Try.prog L 186 #[.int .i64 i, .pointer (some (Addr.mk n1 0 none))] (fun v w' => opB v fun b => K b w') w := by
  refine (f186_ok i _ A n C w (by rw [ad0']; exact h.cell rfl)).call hL ?_
  rintro v w' rfl m
  exact opB_in (k w' m)
theorem f81_ok (st : Int) (l : List Ns) (A : Option Addr) (C : Nat) (w : World) (hr : RowAt w A 8 nsE l) (hl : l.length < 2 ^ 60) :
    Ct Try.prog 81 #[.agg #[.int .i64 st, .slice A l.length C]] w fun v w' => v = .bool (nfRight st l) ∧ Md [] w w' := by
  apply f81_in
  intro n1 w2 e1 e2
  subst e1; subst e2
  have m2 : Md [] w (w.alloc (.cells #[.int .i64 st, .slice A l.length C] 71)) := Md.alloc w _
  have b2 : Blk (w.alloc (.cells #[.int .i64 st, .slice A l.length C] 71)) w.heap.size 71 [.int .i64 st, .slice A l.length C] := Blk.new w _ 71
  generalize w.alloc (.cells #[.int .i64 st, .slice A l.length C] 71) = w2 at *
  generalize hn1 : w.heap.size = n1 at *
  have hb : ∀ {w' : World}, Md [] w2 w' → Blk w' n1 71 [.int .i64 st, .slice A l.length C] := fun hm => b2.md hm (by simp)
  refine b2.ld' rfl <| opI_in <| in186 b2 st (by simp) fun w6 m6 => Bd_in fun b8 hb8 => ?_
  have hm6 := m2.trans m6
  refine Gd_to (fun (u : Option Addr × Nat × Nat) w' => (b8 = false → u.2.1 = l.length) ∧ w' = w6) (fun u w15 hJ => ?_) (fun fin hc => (hb m6).ld' rfl <| opL_in <| fin _ _ ⟨fun _ => rfl, rfl⟩) (fun hc => ⟨fun h => (by rw [h] at hc; cases hc), rfl⟩)
  obtain ⟨hu, rfl⟩ := hJ
  refine Bd_e rfl <| Bd_in fun b17 hb17 => Bd_in fun b18 hb18 => ?_
  have e18 : b18 = !decide (0 ≤ st ∧ st < l.length ∧ l.length ≤ 20000) := by
    rw [hb18]
    by_cases c : 0 ≤ st ∧ st < l.length
    · have e8 : b8 = false := by rw [hb8]; simpa using c
      rw [e8, hb17, hu e8]
      by_cases c2 : l.length ≤ 20000
      · simp [c, c2]; omega
      · simp [c, c2]; omega
    · have e8 : b8 = true := by rw [hb8, decide_eq_false c]; rfl
      rw [e8]
      have : ¬ (0 ≤ st ∧ st < l.length ∧ l.length ≤ 20000) := fun h => c ⟨h.1, h.2.1⟩
      simp [this]
  refine If_in (fun h => ⟨?_, hm6⟩) fun h => (hb m6).ld' rfl <| opL_in <| Bd_e rfl ?_
  · have : ¬ (0 ≤ st ∧ st < l.length ∧ l.length ≤ 20000) := fun hh => by rw [e18, decide_eq_true hh] at h; cases h
    unfold nfRight
    rw [decide_eq_false this]; rfl
  have hst : 0 ≤ st ∧ st < l.length ∧ l.length ≤ 20000 := by rw [e18] at h; simpa using h
  refine LoopP_in (fun mm us vs w' => ∃ i : Nat, us = [.bool false, .int .i64 i] ∧ mm = l.length - i ∧ i ≤ l.length ∧ Md [] w w' ∧ Md [] w2 w' ∧ ∀ x ∈ l.take i, okNs l.length x) l.length ⟨0, rfl, rfl, by omega, hm6, m6, by simp⟩ ?_
  rintro mm us vs w27 ⟨i, rfl, rfl, hi, hmd, hm2, hall⟩
  refine opB_in <| opI_in <| Bd_in fun b30 hb30 => If_in (fun h => ?_) fun h => ⟨?_, hmd⟩
  case refine_2 =>
    have hi' : i = l.length := by rw [hb30] at h; have : ¬ (i : Int) < (l.length : Int) := by simpa using h
                                  omega
    subst hi'
    rw [List.take_length] at hall
    unfold nfRight
    rw [decide_eq_true hst]
    have : (l.all fun x => decide (okNs l.length x)) = true := by rw [List.all_eq_true]; intro x hx; simpa using hall x hx
    rw [this]; rfl
  have hi' : i < l.length := by rw [hb30] at h; have : (i : Int) < (l.length : Int) := by simpa using h
                                omega
  have hnok : ¬ okNs l.length l[i] → nfRight st l = false := fun hno => by
    have : (l.all fun x => decide (okNs l.length x)) = false := by
      rw [List.all_eq_false]
      exact ⟨l[i], List.getElem_mem hi', by simpa using hno⟩
    unfold nfRight; rw [this]; simp
  have hstep : okNs l.length l[i] → ∀ x ∈ l.take (i + 1), okNs l.length x := fun ho x hx => by
    rw [List.take_succ_eq_append_getElem hi', List.mem_append] at hx
    rcases hx with hx | hx
    · exact hall x hx
    · simp at hx; rw [hx]; exact ho
  refine ⟨hr.ix hi', (hr.md hmd).ld8 hi' fun n47 hn47 n48 hn48 => ?_⟩
  generalize l[i] = x at *
  refine Jn_in (fun us vs w' => ∃ (ok bz : Bool) (y : Ns), us = [.bool ok, .bool bz] ∧ vs = [y.v] ∧ ((ok = true ∧ x = y) ↔ okNs l.length x) ∧ Md [] w w' ∧ Md [] w2 w' ∧ ∀ b ∈ [n48, n47], b < w'.heap.size) ?_ ?_
  · rintro us vs w51 ⟨ok, bz, y, rfl, rfl, hiff, hmd, hm2, hL⟩
    refine opB_in <| opB_in <| opAg_in <| opI_in <| opI_in <| opI_in <| opI_in <| opI_in <| opI_in <| opI_in <| opI_in <| SzIs_in rfl <| Bd_in fun b63 hb63 => ?_
    refine Gd_to (fun (b68 : Bool) w' => (b63 = false → b68 = !decide (x = y)) ∧ w' = w51) (fun b68 w69 hJ => ?_) (fun fin hc => RunW_in0 (eq103 x y w51 _ _) <| opB_in <| fin _ _ ⟨fun _ => rfl, rfl⟩) (fun hc => ⟨fun h => (by rw [h] at hc; cases hc), rfl⟩)
    obtain ⟨h68, rfl⟩ := hJ
    refine Bd_in fun b70 hb70 => ?_
    have e70 : b70 = !decide (okNs l.length x) := by
      rw [hb70, hb63]
      cases ok with
      | false =>
        have : ¬ okNs l.length x := fun h => by have := hiff.2 h; simp at this
        simp [this]
      | true =>
        rw [hb63] at h68
        rw [h68 rfl]
        by_cases c : x = y
        · have : okNs l.length x := hiff.1 ⟨rfl, c⟩
          simp [c, this]
          rw [← c]; exact this
        · have : ¬ okNs l.length x := fun h => c (hiff.2 h).2
          simp [c, this]
    refine If_in (fun h => ⟨?_, hmd⟩) fun h => Bd_e (inc_i64 (by omega)) ⟨l.length - (i + 1), by omega, i + 1, rfl, rfl, by omega, hmd, hm2, hstep ?_⟩
    · rw [hnok (by rw [e70] at h; simpa using h)]
    · rw [e70] at h; simpa using h
  have up : ∀ {w' w'' : World} {D : List Nat}, Md [] w w' → Md [] w2 w' → Md D w' w'' → (∀ d ∈ D, d = n48 ∨ d = n47) → Md [] w w'' ∧ Md [] w2 w'' := fun {w' w'' D} h1 h2 h3 hD => by
    have s1 := hmd.size
    have s2 := hm2.size
    exact ⟨h1.old h3 fun d hd => by rcases hD d hd with rfl | rfl <;> omega, h2.old h3 fun d hd => by rcases hD d hd with rfl | rfl <;> omega⟩
  have hbl : ∀ {w' : World}, Md [] w2 w' → Blk w' n1 71 [.int .i64 st, .slice A l.length C] := hb
  refine Bd_in fun b73 hb73 => If_in (fun h => ?_) fun h => ?_
  · have hk : x.k = 0 := by rw [hb73] at h; simpa using h
    refine Bd_in fun b74 hb74 => Bd_in fun b75 hb75 => Bd_in fun b76 hb76 w77 h77 hL77 => ?_
    obtain ⟨u1, u2⟩ := up hmd hm2 h77 (by simp)
    refine ⟨b76, b73, ⟨x.k, 0, 0, 0, 0, 0, 0, x.t⟩, rfl, rfl, ?_, u1, u2, hL77⟩
    have e : b76 = decide (0 ≤ x.t ∧ x.t < 200) := by rw [hb76, hb74, hb75]; by_cases c1 : 0 ≤ x.t <;> by_cases c2 : x.t < 200 <;> simp [c1, c2]
    rw [e]
    obtain ⟨k, s1, s2, s3, s4, a, b, t⟩ := x
    simp only at hk
    subst hk
    simp [okNs, Ns.zs]
    omega
  refine Bd_in fun b78 hb78 => If_in (fun h1 => ?_) fun h1 => ?_
  · have hk : x.k = 1 := by rw [hb78] at h1; simpa using h1
    refine Jn_in (fun us vs w' => vs = [(⟨x.k, x.s1, x.s2, x.s3, x.s4, x.a, 0, 0⟩ : Ns).v] ∧ Md [] w w' ∧ Md [] w2 w' ∧ ∀ b ∈ [n48, n47], b < w'.heap.size) ?_ ?_
    · rintro us vs w81 ⟨rfl, hm1, hm2', hL⟩
      refine opAg_in <| opI_in <| opI_in <| opI_in <| opI_in <| opI_in <| opI_in <| opI_in <| opI_in <| SzIs_in rfl <| RunW_in0 (ne28 _ _ x.s1 x.s2 x.s3 x.s4 0 0 0 0 w81) <| opB_in ?_
      refine Gd_to (fun (b98 : Bool) w' => ((!decide ([x.s1, x.s2, x.s3, x.s4] = [0, 0, 0, 0])) = true → b98 = decide (0 ≤ x.a ∧ x.a < l.length)) ∧ Md [] w81 w') (fun b98 w99 hJ => ?_) (fun fin hc => in186 (hbl hm2') x.a hL fun w96 m96 => fin _ _ ⟨fun _ => rfl, m96⟩) (fun hc => ⟨fun h => (by rw [h] at hc; cases hc), Md.refl _ _⟩)
      obtain ⟨h98, m99⟩ := hJ
      refine Bd_in fun b100 hb100 => ⟨b100, b73, _, rfl, rfl, ?_, hm1.trans m99, hm2'.trans m99, fun b hb => by have := hL b hb; have := m99.size; omega⟩
      have ez : ([x.s1, x.s2, x.s3, x.s4] = [0, 0, 0, 0]) ↔ x.zs := by simp [Ns.zs]
      have e : b100 = decide (¬ x.zs ∧ 0 ≤ x.a ∧ x.a < l.length) := by
        rw [hb100]
        by_cases c : x.zs
        · have : decide ([x.s1, x.s2, x.s3, x.s4] = [0, 0, 0, 0]) = true := by simpa using ez.2 c
          rw [this]; simp [c]
        · have : decide ([x.s1, x.s2, x.s3, x.s4] = [0, 0, 0, 0]) = false := decide_eq_false fun h => c (ez.1 h)
          rw [this] at h98 ⊢
          rw [h98 rfl]; simp [c]
      rw [e]
      obtain ⟨k, s1, s2, s3, s4, a, b, t⟩ := x
      simp only at hk
      subst hk
      simp [okNs, Ns.zs]
      omega
    intro w102 h102 hL102 w103 h103 hL103 w104 h104 hL104
    obtain ⟨u1, u2⟩ := up hmd hm2 h102 (by simp)
    obtain ⟨u3, u4⟩ := up (u1.trans (Md_drew w102)) (u2.trans (Md_drew w102)) h103 (by simp)
    obtain ⟨u5, u6⟩ := up u3 u4 h104 (by simp)
    exact ⟨rfl, u5, u6, hL104⟩
  refine Bd_in fun b105 hb105 => If_in (fun h2 => ?_) fun h2 => ?_
  · have hk : x.k = 2 := by rw [hb105] at h2; simpa using h2
    refine Jn_in (fun us vs w' => vs = [(⟨x.k, 0, 0, 0, 0, x.a, x.b, 0⟩ : Ns).v] ∧ Md [] w w' ∧ Md [] w2 w' ∧ ∀ b ∈ [n48, n47], b < w'.heap.size) ?_ ?_
    · rintro us vs w81 ⟨rfl, hm1, hm2', hL⟩
      refine opAg_in <| opI_in <| opI_in <| opI_in <| opI_in <| opI_in <| opI_in <| opI_in <| opI_in <| SzIs_in rfl <| in186 (hbl hm2') x.a hL fun w119 m119 => ?_
      have hL119 : ∀ b ∈ [n48, n47], b < w119.heap.size := fun b hb => by have := hL b hb; have := m119.size; omega
      refine Gd_to (fun (b98 : Bool) w' => (decide (0 ≤ x.a ∧ x.a < l.length) = true → b98 = decide (0 ≤ x.b ∧ x.b < l.length)) ∧ Md [] w119 w') (fun b98 w99 hJ => ?_) (fun fin hc => in186 (hbl (hm2'.trans m119)) x.b hL119 fun w96 m96 => fin _ _ ⟨fun _ => rfl, m96⟩) (fun hc => ⟨fun h => (by rw [h] at hc; cases hc), Md.refl _ _⟩)
      obtain ⟨h98, m99⟩ := hJ
      refine Bd_in fun b100 hb100 => ⟨b100, b73, _, rfl, rfl, ?_, (hm1.trans m119).trans m99, (hm2'.trans m119).trans m99, fun b hb => by have := hL119 b hb; have := m99.size; omega⟩
      have e : b100 = decide (0 ≤ x.a ∧ x.a < l.length ∧ 0 ≤ x.b ∧ x.b < l.length) := by
        rw [hb100]
        by_cases c : 0 ≤ x.a ∧ x.a < l.length
        · rw [decide_eq_true c] at h98 ⊢
          rw [h98 rfl]; simp [c]
        · rw [decide_eq_false c]
          have : ¬ (0 ≤ x.a ∧ x.a < l.length ∧ 0 ≤ x.b ∧ x.b < l.length) := fun h => c ⟨h.1, h.2.1⟩
          rw [decide_eq_false this]; rfl
      rw [e]
      obtain ⟨k, s1, s2, s3, s4, a, b, t⟩ := x
      simp only at hk
      subst hk
      simp [okNs, Ns.zs]
      omega
    intro w102 h102 hL102 w103 h103 hL103 w104 h104 hL104
    obtain ⟨u1, u2⟩ := up hmd hm2 h102 (by simp)
    obtain ⟨u3, u4⟩ := up (u1.trans (Md_drew w102)) (u2.trans (Md_drew w102)) h103 (by simp)
    obtain ⟨u5, u6⟩ := up u3 u4 h104 (by simp)
    exact ⟨rfl, u5, u6, hL104⟩
  intro w132 h132 hL132
  obtain ⟨u1, u2⟩ := up hmd hm2 h132 (by simp)
  refine ⟨false, b73, ⟨x.k, 0, 0, 0, 0, 0, 0, 0⟩, rfl, rfl, ?_, u1, u2, hL132⟩
  have k0 : x.k ≠ 0 := by rw [hb73] at h; simpa using h
  have k1 : x.k ≠ 1 := by rw [hb78] at h1; simpa using h1
  have k2 : x.k ≠ 2 := by rw [hb105] at h2; simpa using h2
  simp [okNs, k0, k1, k2]
end Fk
set_option linter.unusedVariables false
set_option linter.unusedSimpArgs false
namespace Fk
open Go Go.Proofs Go.RowKit
theorem wrL_len {cells vs : List Value} {o : Nat} (h : o + vs.length ≤ cells.length) : (wrL cells o vs).length = cells.length := by
  unfold wrL; simp; omega
theorem wrL_get {cells vs : List Value} {o : Nat} (h : o + vs.length ≤ cells.length) (j : Nat) : (wrL cells o vs)[j]? = if o ≤ j ∧ j < o + vs.length then vs[j - o]? else cells[j]? := by
  unfold wrL
  have hl : (cells.take o).length = o := by simp; omega
  split
  · rename_i hj
    rw [List.getElem?_append_right (by omega), hl, List.getElem?_append_left (by omega)]
  · rename_i hj
    rcases Nat.lt_or_ge j o with hjo | hjo
    · rw [List.getElem?_append_left (by omega), List.getElem?_take_of_lt hjo]
    · rw [List.getElem?_append_right (by omega), hl, List.getElem?_append_right (by omega), List.getElem?_drop]
      congr 1; omega
theorem wrL_take {cells vs : List Value} {o m : Nat} (h : o + vs.length ≤ m) (hm : m ≤ cells.length) : (wrL cells o vs).take m = wrL (cells.take m) o vs := by
  apply List.ext_getElem?
  intro j
  have h1 : (cells.take m).length = m := by simp; omega
  rw [wrL_get (by omega), List.getElem?_take, wrL_get (by omega), List.getElem?_take]
  split <;> split <;> rename_i a b <;> first | rfl | omega
theorem wrL_flat {α : Type} {size : Nat} {enc : α → List Value} (he : Enc size enc) : ∀ (l : List α) (i : Nat) (x : α), i < l.length → wrL (l.flatMap enc) (i * size) (enc x) = (l.set i x).flatMap enc
  | [], i, x, h => by simp at h
  | y :: l, 0, x, h => by
    simp only [wrL, List.flatMap_cons, Nat.zero_mul, List.take_zero, List.nil_append, Nat.zero_add, List.set_cons_zero]
    rw [he.len x, List.drop_left' (he.len y)]
  | y :: l, i + 1, x, h => by
    have ih := wrL_flat he l i x (by simpa using h)
    simp only [List.set_cons_succ, List.flatMap_cons, ← ih]
    unfold wrL
    rw [Nat.succ_mul, Nat.add_comm (i * size) size]
    rw [List.take_append, List.drop_append, he.len y]
    have h1 : List.take (size + i * size) (enc y) = enc y := List.take_of_length_le (by rw [he.len]; omega)
    have h2 : List.drop (size + i * size + (enc x).length) (enc y) = [] := List.drop_of_length_le (by rw [he.len, he.len]; omega)
    rw [h1, h2, List.append_assoc, List.nil_append, show size + i * size - size = i * size by omega, show size + i * size + (enc x).length - size = i * size + (enc x).length by omega]
theorem own_put {w : World} {base : Nat} {e : TypeId} {size n c : Nat} {a : Option Addr} {xs : List Value} (h : w.ownsRow base e size (.slice a n c) n xs) (o : Nat) (vs : List Value) (ho : o + vs.length ≤ xs.length) (hv : 0 < vs.length) :
    ∃ A, a = some A ∧ A.block < w.heap.size ∧ base ≤ A.block ∧ Wr w (A.add o) vs.length ∧ (setCells w (A.add o) 0 vs).ownsRow base e size (.slice a n c) n (wrL xs o vs) ∧ Md [A.block] w (setCells w (A.add o) 0 vs) := by
  obtain ⟨hxl, hh⟩ := h
  rcases hh with ⟨hv', hn⟩ | ⟨g, cap, cur, hv', hb, hg, hnc, hcm, hcs, htk⟩
  · subst hn; rw [Nat.zero_mul] at hxl; omega
  · simp only [Value.slice.injEq] at hv'
    obtain ⟨rfl, _, rfl⟩ := hv'
    have hle : n * size ≤ cur.toList.length := by rw [Array.length_toList, hcs]; exact Nat.mul_le_mul_right _ hnc
    have hadd : (Addr.mk g 0 none).add o = ⟨g, o, none⟩ := by simp [Addr.add_lit]
    have hblk : Blk w g e cur.toList := by unfold Blk; simpa using hg
    refine ⟨_, rfl, (Array.getElem?_eq_some_iff.1 hg).1, hb, ?_, ?_, ?_⟩
    · rw [hadd]; exact hblk.wr (by omega)
    · rw [hadd]
      refine ⟨by rw [wrL_len ho]; exact hxl, .inr ⟨g, c, (wrL cur.toList o vs).toArray, rfl, hb, ?_, hnc, hcm, ?_, ?_⟩⟩
      · rcases wrL_run (m := 0) (cells := []) (o := o) (vs := []) (b := g) (ty := e) vs 0 cur.toList w (by simpa using hg) with h' | h'
        · exact h'
        · omega
      · simp only [List.size_toArray]
        rw [wrL_len (by omega), Array.length_toList, hcs]
      · simp only
        rw [wrL_take (by omega) hle, htk]
    · rw [hadd]; exact Md_setCells _ _ _
theorem OwnL.put {α : Type} {w : World} {base : Nat} {e : TypeId} {size : Nat} {enc : α → List Value} {a : Option Addr} {c : Nat} {l : List α} (h : OwnL w base e size enc a c l) (he : Enc size enc) (hs : 0 < size) {i : Nat} (hi : i < l.length) (x : α) :
    ∃ A, a = some A ∧ A.block < w.heap.size ∧ base ≤ A.block ∧ (adAt a (i : Int) size).block = A.block ∧ Wr w (adAt a (i : Int) size) size ∧ OwnL (setCells w (adAt a (i : Int) size) 0 (enc x)) base e size enc a c (l.set i x) ∧
      Md [A.block] w (setCells w (adAt a (i : Int) size) 0 (enc x)) := by
  have hlen := he.lenL l
  have hmul : (i + 1) * size ≤ l.length * size := Nat.mul_le_mul_right _ hi
  rw [Nat.succ_mul] at hmul
  obtain ⟨A, rfl, h1, h2, h3, h4, h5⟩ := own_put h (i * size) (enc x) (by rw [he.len, hlen]; exact hmul) (by rw [he.len]; exact hs)
  have hA : adAt (some A) (i : Int) size = A.add (i * size) := by simp [adAt]
  rw [he.len] at h3
  rw [wrL_flat he l i x hi] at h4
  refine ⟨A, rfl, h1, h2, ?_, ?_, ?_, ?_⟩
  · rw [hA, add_block]
  · rw [hA]; exact h3
  · rw [hA]
    unfold OwnL
    rw [List.length_set]; exact h4
  · rw [hA]; exact h5
end Fk
set_option linter.unusedVariables false
set_option linter.unusedSimpArgs false
set_option maxRecDepth 100000
namespace Fk
open Go Go.Proofs Go.RowKit
def tgsO : Nat → Option (List Nat) → List Int → List Int × Option (List Nat)
  | 0, o, acc => (acc, o)
  | k + 1, o, acc => tgsO k (oneO o).2 (acc ++ [((oneO o).1 : Int) - 1])
def nxsO : Nat → Option (List Nat) → List Int → List Int × Option (List Nat)
  | 0, o, acc => (acc, o)
  | k + 1, o, acc => nxsO k (pairO o).2 (acc ++ [((pairO o).1 : Int) - 1])
def rdM (b : List Nat) : Nat := (hdM (some b)).1 + 1
def rdS (b : List Nat) : Nat := (hdS (some b)).1
def rdTags (b : List Nat) : List Int × Option (List Nat) := tgsO (rdS b) (hdF (some b)).2 []
def rdNext (b : List Nat) : List Int × Option (List Nat) := nxsO (rdS b * rdM b) (rdTags b).2 []
def rdTb (b : List Nat) : Tb := ⟨⟨(hdF (some b)).1, (rdM b : Nat)⟩, (rdM b : Nat), (rdNext b).1, (rdTags b).1, (hdN (some b)).1⟩
/-- Is as much left as is wanted? -/
def rdFit (b : List Nat) : Bool := match (hdF (some b)).2 with | none => false | some r => decide (r.length = rdS b + 2 * rdS b * rdM b)
/-- What bytes are as a table. -/
def rdT (b : List Nat) : Option Tb := if rdFit b && tRight (rdTb b) then some (rdTb b) else none
theorem okO.off {o : Option (List Nat)} (h : okO o) : okO (hdOff o) := by
  have h1 := h.one.1
  have h2 := h1.one.1
  have h3 := h2.one.1
  have hh : okO (hd1 o).2 := by
    unfold hd1
    split
    · split
      · exact h3
      · exact h2
    · exact h1
  unfold hdOff
  split
  · exact hh
  · exact fun r hr => by cases hr
theorem okO.nms : ∀ (k : Nat) (o : Option (List Nat)) (acc : List ByteArray), okO o → (∀ s ∈ acc, s.size < 256) → okO (nmsO k o acc).2 ∧ (∀ s ∈ (nmsO k o acc).1, s.size < 256) ∧ (nmsO k o acc).1.length = acc.length + k
  | 0, o, acc, h, ha => ⟨h, ha, rfl⟩
  | k + 1, o, acc, h, ha => by
    have h1 := h.one
    have h2 := okO.nms k (takeO (oneO o).2 (oneO o).1).2 (acc ++ [bytesOf (takeO (oneO o).2 (oneO o).1).1]) (h1.1.take _).1 (by
      intro s hs
      rcases List.mem_append.1 hs with hs | hs
      · exact ha s hs
      · simp at hs
        subst hs
        simp [bytesOf, ByteArray.size, takeO_len, h1.2])
    refine ⟨h2.1, h2.2.1, ?_⟩
    rw [nmsO, h2.2.2]
    simp; omega
theorem okO.N {o : Option (List Nat)} (h : okO o) : okO (hdN o).2 ∧ (∀ s ∈ (hdN o).1, s.size < 256) ∧ (hdN o).1.length < 256 := by
  have h1 := (h.off.one.1.pair).one
  have h2 := okO.nms (hdC o).1 (hdC o).2 [] h1.1 (by simp)
  refine ⟨h2.1, h2.2.1, ?_⟩
  have : (hdN o).1.length = 0 + (hdC o).1 := h2.2.2
  have h3 : (hdC o).1 < 256 := h1.2
  omega
theorem okO.pairLt {o : Option (List Nat)} (h : okO o) : (pairO o).1 < 65536 := by
  obtain ⟨h1, h2⟩ := h.take 2
  have hl := takeO_len o 2
  unfold pairO
  match hx : (takeO o 2).1, hl with
  | [x, y], _ =>
    rw [hx] at h2
    have := h2 x (by simp)
    have := h2 y (by simp)
    simp; omega
theorem OwnL.cap {α : Type} {w : World} {base : Nat} {e : TypeId} {size : Nat} {enc : α → List Value} {a : Option Addr} {c : Nat} {l : List α} (h : OwnL w base e size enc a c l) : l.length ≤ c := by
  rcases h.2 with ⟨hv, hn⟩ | ⟨g, cap, cur, hv, hb, hg, hnc, rest⟩
  · omega
  · simp only [Value.slice.injEq] at hv
    omega
/-- A table of one's own: no older than 'base'. -/
structure TbF (base : Nat) (w : World) (t : Tb) (p : TbS) : Prop where
  ok : t.c.ok
  nm : OwnL w base 9 1 s1 p.sa p.sc t.nm
  tg : OwnL w base 3 1 i1 p.ta p.tc t.tg
  nx : OwnL w base 3 1 i1 p.na p.nc t.nx
  nml : t.nm.length < 2 ^ 40
  tgl : t.tg.length < 2 ^ 40
  nxl : t.nx.length < 2 ^ 40
  nsz : ∀ s ∈ t.nm, s.size < 2 ^ 40
  d1 : ∀ A B, p.sa = some A → p.ta = some B → A.block ≠ B.block
  d2 : ∀ A B, p.sa = some A → p.na = some B → A.block ≠ B.block
  d3 : ∀ A B, p.ta = some A → p.na = some B → A.block ≠ B.block
theorem TbF.at {base : Nat} {w : World} {t : Tb} {p : TbS} (h : TbF base w t p) : TbAt w t p :=
  ⟨h.ok, h.nx.row enci1, h.tg.row enci1, h.nm.row encs1, by have := h.nxl; omega, by have := h.tgl; omega, by have := h.nml; omega, fun s hs => by have := h.nsz s hs; omega, h.nm.cap⟩
theorem TbF.mdN {base : Nat} {w w' : World} {t : Tb} {p : TbS} {D : List Nat} (h : TbF base w t p) (hm : Md D w w') (hD : ∀ d ∈ D, d < base) : TbF base w' t p := by
  have ne : ∀ {α : Type} {e : TypeId} {size : Nat} {enc : α → List Value} {a : Option Addr} {c : Nat} {l : List α}, OwnL w base e size enc a c l → ∀ A, a = some A → A.block ∉ D := by
    intro α e size enc a c l ho A hA hmem
    have := (ho.lt hA).1
    have := hD _ hmem
    omega
  exact ⟨h.ok, h.nm.mdD hm (ne h.nm), h.tg.mdD hm (ne h.tg), h.nx.mdD hm (ne h.nx), h.nml, h.tgl, h.nxl, h.nsz, h.d1, h.d2, h.d3⟩
theorem TbF.md {base : Nat} {w w' : World} {t : Tb} {p : TbS} (h : TbF base w t p) (hm : Md [] w w') : TbF base w' t p := h.mdN hm (by simp)
theorem TbF.down {base b : Nat} {w : World} {t : Tb} {p : TbS} (h : TbF base w t p) (hb : b ≤ base) : TbF b w t p := ⟨h.ok, h.nm.down hb, h.tg.down hb, h.nx.down hb, h.nml, h.tgl, h.nxl, h.nsz, h.d1, h.d2, h.d3⟩
theorem TbF.cells {base : Nat} {w : World} {t : Tb} {p : TbS} (h : TbF base w t p) : okCells (Array.toList (t.v p)) 261 = true := by
  have hl : (t.l p).length = 261 := Tb.len h.ok.len
  have : allOne (t.l p) = true := by
    simp [allOne, Tb.l, Tb.d, Cl.l, Value.oneCell']
  unfold okCells Tb.v
  rw [hl]
  exact this
theorem zT_ok : (zCl 0).ok := zCl_ok (by omega) (by omega)
theorem TbF.zero (base : Nat) (w : World) : TbF base w zT zP := ⟨zT_ok, OwnL.nil .., OwnL.nil .., OwnL.nil .., by simp [zT], by simp [zT], by simp [zT], by simp [zT], fun A B h => (by cases h), fun A B h => (by cases h), fun A B h => (by cases h)⟩
theorem build57 (w : World) : (Instr.build 57 #[]).run Try.prog w = .ok (.agg (zT.v zP)) w := by kernel_rfl
theorem build209 (w : World) (a : Option Addr) (n c : Nat) : (Instr.build 209 #[(0, .agg #[.slice a n c, .bool false])]).run Try.prog w = .ok (.agg (List.toArray (.slice a n c :: .bool false :: zT.l zP))) w := by kernel_rfl
theorem CuAt.restC {w : World} {n : Nat} {r : List Nat} {tl : List Value} (h : CuAt w n (some r) tl) : ∃ a c, w.cell? ⟨n, 0, none⟩ = some (.slice a r.length c) := by
  obtain ⟨r', off, a, c, ho, hb, hr, hc, ha⟩ := h
  cases off with
  | true => simp at ho
  | false => simp at ho; subst ho; exact ⟨a, c, hb.cell rfl⟩
/-- What is told of reading. -/
def RdOut (b : List Nat) (base : Nat) (w : World) (cs : Array Value) (e : Int) : Prop := match rdT b with
  | some t => e = 0 ∧ ∃ p, cs = t.v p ∧ TbF base w t p
  | none => e = 100 ∧ cs = zT.v zP
theorem f61_ok (b : List Nat) (A : Option Addr) (C : Nat) (hb : ∀ x ∈ b, x < 256) (hl : b.length < 2 ^ 40) (hC : b.length ≤ C) (w : World) (hr : RowAt w A 1 b1 b) :
    Ct Try.prog 61 #[.slice A b.length C] w fun v w' => (∃ cs e, v = .tuple #[.agg cs, .int .i64 e] ∧ RdOut b w.heap.size w' cs e) ∧ Md [] w w' := by
  apply f61_in
  intro n1 hn1 w2 h2 hL2
  refine RunW_in0 (build209 ..) <| opBig_in ⟨by simp [Tb.len (t := zT) (p := zP) rfl], ?_⟩
  intro n6 w7 e6 e7
  subst e6; subst e7
  have hn12 : n1 < w2.heap.size := hL2 n1 (by simp)
  have hma : Md [] w2 (w2.alloc (.cells (List.toArray (.slice A b.length C :: .bool false :: zT.l zP)) 209)) := Md.alloc w2 _
  have hblk : Blk (w2.alloc (.cells (List.toArray (.slice A b.length C :: .bool false :: zT.l zP)) 209)) w2.heap.size 209 (.slice A b.length C :: .bool false :: zT.l zP) := heap_alloc_new w2 _
  generalize hw7 : w2.alloc (.cells (List.toArray (.slice A b.length C :: .bool false :: zT.l zP)) 209) = w7 at *
  generalize hn6 : w2.heap.size = n6 at *
  have hlt : n6 < w7.heap.size := hblk.lt
  have hm7 : Md [] w w7 := h2.trans hma
  have h06 : w.heap.size ≤ n6 := by have := h2.size; omega
  have hcu : CuAt w7 n6 (some b) (zT.l zP) := ⟨b, false, A, C, rfl, hblk, hr.md hm7, hC, fun B hB hne => by have := hr.lt encb1 (by omega) B hB hne; omega⟩
  have hob : okO (some b) := fun r hr => by cases hr; exact hb
  have hLL : ∀ x ∈ [n1], x < w7.heap.size ∧ x ≠ n6 := by intro x hx; simp at hx; subst hx; omega
  refine (f157_ok n6 (some b) hob w7 hcu hlt).callD (D := [n6]) (fun x hx => (hLL x hx).1) (fun x hx => by have := (hLL x hx).2; simpa using this) ?_
  rintro v w9 ⟨p9, rfl, S9⟩ h9
  refine opI_in ?_
  have S9d := S9.drew
  have hS : (hdS (some b)).1 < 65536 := hob.off.one.1.pairLt
  have hM : rdM b ≤ 256 := by have : (hdM (some b)).1 < 256 := hob.off.one.2; unfold rdM; omega
  have hMM : 1 ≤ rdM b := by unfold rdM; omega
  obtain ⟨hNok, hNsz, hNl⟩ := hob.N
  have hcl : Cl.ok ⟨(hdF (some b)).1, ((rdM b : Nat) : Int)⟩ := by
    refine ⟨S9.f, fun i h => ?_, ?_, ?_⟩
    · exact (hNok.take 256).2 _ (List.getElem_mem h)
    · show -9223372036854775808 ≤ ((rdM b : Nat) : Int); omega
    · show ((rdM b : Nat) : Int) ≤ 9223372036854775807; omega
  refine ⟨fun w' => w' = w9.drew, rfl, .bool (hdF (some b)).2.isNone, fun w' hw' => by subst hw'; exact Ld_in S9d.cu.offC rfl, opB_in ⟨fun _ => rfl, ?_⟩⟩
  -- what is left
  have hleft : ∃ a r c, ((!(hdF (some b)).2.isNone) = true → w9.drew.cell? ⟨n6, 0, none⟩ = some (.slice a r c)) ∧ rdFit b = (!(bif (hdF (some b)).2.isNone then true else ((r : Int) != ((rdS b + 2 * rdS b * rdM b : Nat) : Int)))) := by
    have hcu9 := S9d.cu
    generalize ho : (hdF (some b)).2 = o at *
    cases o with
    | none => exact ⟨none, 0, 0, fun h => by simp at h, by unfold rdFit; rw [ho]; rfl⟩
    | some r =>
      obtain ⟨a, c, hc⟩ := hcu9.restC
      refine ⟨a, r.length, c, fun _ => hc, ?_⟩
      unfold rdFit
      rw [ho]
      generalize rdS b + 2 * rdS b * rdM b = X
      rw [Bool.eq_iff_iff]; simp; omega
  obtain ⟨la, lr, lc, hlc, hfit⟩ := hleft
  refine ⟨.slice la lr lc, fun hc w' hw' => by subst hw'; exact Ld_in (hlc hc) rfl, opL_in <| Bd_in fun x27 hx27 => Bd_in fun x28 hx28 => ⟨fun _ => rfl, ((rdM b : Nat) : Int), fun _ w' hw' => by subst hw'; exact Ld_in (S9d.cu.cellT (Tb.at257 S9d.f)) rfl, Bd_in fun x35 hx35 => Bd_in fun x36 hx36 => Bd_in fun b37 hb37 => Bd_in fun b38 hb38 => ?_⟩⟩
  have hrs : rdS b = (hdS (some b)).1 := rfl
  have hp1 : 2 * rdS b * rdM b ≤ 131072 * 256 := Nat.mul_le_mul (by omega) hM
  generalize hP : 2 * rdS b * rdM b = P at *
  have e36 : x36 = ((rdS b + P : Nat) : Int) := by
    have e28 : x28 = ((2 * rdS b : Nat) : Int) := by rw [hx28, ← hrs, IntKind.wrap_i64]; omega
    have e35 : x35 = ((P : Nat) : Int) := by rw [hx35, e28, ← Int.natCast_mul, hP, IntKind.wrap_i64]; omega
    rw [hx36, e35, ← hrs, IntKind.wrap_i64]; omega
  have e38 : b38 = !rdFit b := by rw [hb38, hb37, hx27, e36, hfit, Bool.not_not]
  have hend : ∀ (w' w3 : World), Md [n6] w7 w' → Md [n1] w' w3 → Md [] w w3 := by
    intro w' w3 h1 h2
    exact (hm7.old h1 (by simp; omega)).old h2 (by simpa using hn1)
  refine If_in (fun h => ?_) fun h => ?_
  · have hno : rdT b = none := by unfold rdT; rw [(not_eq_of e38).1 h]; rfl
    refine RunW_in0 (build57 _) <| opBig_in ⟨by simp [Tb.v, Tb.len (t := zT) (p := zP) rfl], OkC_in (TbF.zero 0 w).cells fun w42 h42 hL42 => ⟨by simp [Tb.v, Tb.len (t := zT) (p := zP) rfl], ⟨_, _, rfl, ?_⟩, hend _ _ S9d.md h42⟩⟩
    unfold RdOut; rw [hno]; exact ⟨rfl, rfl⟩
  have hf := (not_eq_of e38).2 h
  have hrl : (rdTags b).1.length = (rdTags b).1.length := rfl
  refine LoopP_in (fun m us vs w' => ∃ (i : Nat) (o' : Option (List Nat)) (tg : List Int) (p' : TbS), us = [.int .i64 i] ∧ vs = [] ∧ m = rdS b - i ∧ i ≤ rdS b ∧ tg.length = i ∧ HS w7 w' n6 o' ⟨⟨(hdF (some b)).1, (rdM b : Nat)⟩, (rdM b : Nat), [], tg, (hdN (some b)).1⟩ p' ∧ rdTags b = tgsO (rdS b - i) o' tg) (rdS b)
    ⟨0, _, [], p9, rfl, rfl, rfl, by omega, rfl, S9d, rfl⟩ ?_
  rintro m us vs w46 ⟨i, o', tg, p', rfl, rfl, rfl, hi, htl, S46, hT⟩
  refine opI_in <| Bd_in fun b48 hb48 => If_in (fun h => ?_) fun h => ?_
  · subst hb48
    have hi' : i < rdS b := by
      have : (i : Int) < ((hdS (some b)).1 : Int) := of_decide_eq_true h
      omega
    have hstep : rdTags b = tgsO (rdS b - (i + 1)) (oneO o').2 (tg ++ [((oneO o').1 : Int) - 1]) := by
      rw [hT, show rdS b - i = (rdS b - (i + 1)) + 1 by omega]; rfl
    have ho1 := S46.ok.one.2
    have hx58 : ∀ x : Int, x = IntKind.wrap .i64 (((oneO o').1 : Int) - 1) → x = ((oneO o').1 : Int) - 1 := by
      intro x hx; rw [hx, IntKind.wrap_i64]; omega
    have hx67 : ∀ x : Int, x = IntKind.wrap .i64 ((i : Int) + 1) → x = ((i + 1 : Nat) : Int) := by
      intro x hx; rw [hx, inc_i64 (by omega)]
    have S46d := S46.drew
    refine ⟨?_, ?_⟩
    · refine Ld_in (S46d.cu.cellT (Tb.at259 S46d.f)) <| opL_in ?_
      refine in158 S46d hLL rfl fun w5 S5 => Bd_in fun x hx => ?_
      rw [hx58 x hx]
      intro nb wb e1 e2
      subst e1; subst e2
      refine S5.app_tg _ (by simp only; omega) hLL fun a' c' w6 hwr S6 => opL_in ⟨by simpa using fun e => (hLL n1 (by simp)).2 e.symm, hwr, Bd_in fun x hx => ?_⟩
      rw [hx67 x hx]
      exact ⟨rdS b - (i + 1), by omega, i + 1, _, _, _, rfl, rfl, rfl, by omega, by simp [htl], S6, hstep⟩
    · refine in158 S46d hLL rfl fun w5 S5 => Bd_in fun x hx => ?_
      rw [hx58 x hx]
      refine ⟨?_, ?_⟩
      · refine Ld_in (S5.cu.cellT (Tb.at259 S5.f)) <| opL_in ?_
        intro nb wb e1 e2
        subst e1; subst e2
        refine S5.app_tg _ (by simp only; omega) hLL fun a' c' w6 hwr S6 => opL_in ⟨by simpa using fun e => (hLL n1 (by simp)).2 e.symm, hwr, Bd_in fun x hx => ?_⟩
        rw [hx67 x hx]
        exact ⟨rdS b - (i + 1), by omega, i + 1, _, _, _, rfl, rfl, rfl, by omega, by simp [htl], S6, hstep⟩
      · intro nb wb e1 e2
        subst e1; subst e2
        have hma5 : Md [] w5 (w5.alloc (.cells #[.int .i64 (((oneO o').1 : Int) - 1)] 3)) := Md.alloc w5 _
        have S5a := S5.step (hma5.mono (by simp)) (S5.cu.mdN hma5 (by simp)) S5.ok
        refine Ld_in (S5a.cu.cellT (Tb.at259 S5a.f)) <| opL_in ?_
        refine S5.app_tg _ (by simp only; omega) hLL fun a' c' w6 hwr S6 => opL_in ⟨by simpa using fun e => (hLL n1 (by simp)).2 e.symm, hwr, Bd_in fun x hx => ?_⟩
        rw [hx67 x hx]
        exact ⟨rdS b - (i + 1), by omega, i + 1, _, _, _, rfl, rfl, rfl, by omega, by simp [htl], S6, hstep⟩
  subst hb48
  have hi' : i = rdS b := by
    have : ¬ (i : Int) < ((hdS (some b)).1 : Int) := of_decide_eq_false h
    omega
  have hTe : rdTags b = (tg, o') := by rw [hT, hi', Nat.sub_self]; rfl
  have hp2 : rdS b * rdM b ≤ 65536 * 256 := Nat.mul_le_mul (by omega) hM
  refine Ld_in (S46.cu.cellT (Tb.at257 S46.f)) <| opI_in <| Bd_in fun x101 hx101 => ?_
  have e101 : x101 = ((rdS b * rdM b : Nat) : Int) := by rw [hx101, ← hrs, ← Int.natCast_mul, IntKind.wrap_i64]; omega
  clear hx101
  subst e101
  refine LoopP_in (fun m us vs w' => ∃ (i : Nat) (o' : Option (List Nat)) (nx : List Int) (p' : TbS), us = [.int .i64 i] ∧ vs = [] ∧ m = rdS b * rdM b - i ∧ i ≤ rdS b * rdM b ∧ nx.length = i ∧ HS w7 w' n6 o' ⟨⟨(hdF (some b)).1, (rdM b : Nat)⟩, (rdM b : Nat), nx, (rdTags b).1, (hdN (some b)).1⟩ p' ∧ rdNext b = nxsO (rdS b * rdM b - i) o' nx) (rdS b * rdM b)
    ⟨0, _, [], p', rfl, rfl, rfl, by omega, rfl, by rw [hTe]; exact S46, by unfold rdNext; rw [hTe]; rfl⟩ ?_
  rintro m us vs w105 ⟨j, o2, nx, p2, rfl, rfl, rfl, hj, hnl, S105, hN⟩
  refine opI_in <| Bd_in fun b107 hb107 => If_in (fun h => ?_) fun h => ?_
  · subst hb107
    have hj' : j < rdS b * rdM b := by
      have : (j : Int) < ((rdS b * rdM b : Nat) : Int) := of_decide_eq_true h
      omega
    have hstep : rdNext b = nxsO (rdS b * rdM b - (j + 1)) (pairO o2).2 (nx ++ [((pairO o2).1 : Int) - 1]) := by
      rw [hN, show rdS b * rdM b - j = (rdS b * rdM b - (j + 1)) + 1 by omega]; rfl
    have ho1 := S105.ok.pairLt
    have hx58 : ∀ x : Int, x = IntKind.wrap .i64 (((pairO o2).1 : Int) - 1) → x = ((pairO o2).1 : Int) - 1 := by
      intro x hx; rw [hx, IntKind.wrap_i64]; omega
    have hx67 : ∀ x : Int, x = IntKind.wrap .i64 ((j : Int) + 1) → x = ((j + 1 : Nat) : Int) := by
      intro x hx; rw [hx, inc_i64 (by omega)]
    have S46d := S105.drew
    refine ⟨?_, ?_⟩
    · refine Ld_in (S46d.cu.cellT (Tb.at258 S46d.f)) <| opL_in ?_
      refine in159 S46d hLL rfl fun w5 S5 => Bd_in fun x hx => ?_
      rw [hx58 x hx]
      intro nb wb e1 e2
      subst e1; subst e2
      refine S5.app_nx _ (by simp only; omega) hLL fun a' c' w6 hwr S6 => opL_in ⟨by simpa using fun e => (hLL n1 (by simp)).2 e.symm, hwr, Bd_in fun x hx => ?_⟩
      rw [hx67 x hx]
      exact ⟨rdS b * rdM b - (j + 1), by omega, j + 1, _, _, _, rfl, rfl, rfl, by omega, by simp [hnl], S6, hstep⟩
    · refine in159 S46d hLL rfl fun w5 S5 => Bd_in fun x hx => ?_
      rw [hx58 x hx]
      refine ⟨?_, ?_⟩
      · refine Ld_in (S5.cu.cellT (Tb.at258 S5.f)) <| opL_in ?_
        intro nb wb e1 e2
        subst e1; subst e2
        refine S5.app_nx _ (by simp only; omega) hLL fun a' c' w6 hwr S6 => opL_in ⟨by simpa using fun e => (hLL n1 (by simp)).2 e.symm, hwr, Bd_in fun x hx => ?_⟩
        rw [hx67 x hx]
        exact ⟨rdS b * rdM b - (j + 1), by omega, j + 1, _, _, _, rfl, rfl, rfl, by omega, by simp [hnl], S6, hstep⟩
      · intro nb wb e1 e2
        subst e1; subst e2
        have hma5 : Md [] w5 (w5.alloc (.cells #[.int .i64 (((pairO o2).1 : Int) - 1)] 3)) := Md.alloc w5 _
        have S5a := S5.step (hma5.mono (by simp)) (S5.cu.mdN hma5 (by simp)) S5.ok
        refine Ld_in (S5a.cu.cellT (Tb.at258 S5a.f)) <| opL_in ?_
        refine S5.app_nx _ (by simp only; omega) hLL fun a' c' w6 hwr S6 => opL_in ⟨by simpa using fun e => (hLL n1 (by simp)).2 e.symm, hwr, Bd_in fun x hx => ?_⟩
        rw [hx67 x hx]
        exact ⟨rdS b * rdM b - (j + 1), by omega, j + 1, _, _, _, rfl, rfl, rfl, by omega, by simp [hnl], S6, hstep⟩
  subst hb107
  have hj' : j = rdS b * rdM b := by
    have : ¬ (j : Int) < ((rdS b * rdM b : Nat) : Int) := of_decide_eq_false h
    omega
  have hNe : rdNext b = (nx, o2) := by rw [hN, hj', Nat.sub_self]; rfl
  have htb : rdTb b = ⟨⟨(hdF (some b)).1, (rdM b : Nat)⟩, (rdM b : Nat), nx, (rdTags b).1, (hdN (some b)).1⟩ := by unfold rdTb; rw [hNe]
  rw [← htb] at S105
  have hF : TbF w7.heap.size w105 (rdTb b) p2 := ⟨hcl, S105.nm, S105.tg, S105.nx, by show (hdN (some b)).1.length < _; omega, by show (rdTags b).1.length < _; rw [hTe]; simp only; omega, by rw [htb]; simp only; omega, fun s hs => by have := hNsz s hs; omega, S105.d1, S105.d2, S105.d3⟩
  have hsz := Tb.len (t := rdTb b) (p := p2) S105.f
  refine LdN_in (l := (rdTb b).l p2) hsz ?_ <| Bd_in fun cs159 hcs => ?_
  · intro k u hu
    rw [show (Addr.add ⟨n6, 0, none⟩ 2).add k = ⟨n6, 2 + k, none⟩ by rw [Addr.add_lit, Addr.add_lit]]
    exact S105.cu.cellT hu
  have ecs : cs159 = (rdTb b).v p2 := hcs
  subst ecs
  have hL105 : ∀ x ∈ [n1], x < w105.heap.size := fun x hx => by have := (hLL x hx).1; have := S105.size; omega
  refine ⟨hF.at.size, (f55_ok (rdTb b) p2 w105 hF.at).call hL105 ?_⟩
  rintro v w161 rfl h161
  refine opB_in <| Bd_in fun b163 hb163 => If_in (fun h => ?_) fun h => ?_
  · have hno : rdT b = none := by
      unfold rdT; rw [(not_eq_of hb163).1 h]; simp
    refine RunW_in0 (build57 _) <| opBig_in ⟨by simp [Tb.v, Tb.len (t := zT) (p := zP) rfl], OkC_in (TbF.zero 0 w).cells fun w42 h42 hL42 => ⟨by simp [Tb.v, Tb.len (t := zT) (p := zP) rfl], ⟨_, _, rfl, ?_⟩, hend _ _ (S105.md.trans (h161.mono (by simp))) h42⟩⟩
    unfold RdOut; rw [hno]; exact ⟨rfl, rfl⟩
  · have hyes : rdT b = some (rdTb b) := by
      unfold rdT; rw [hf, (not_eq_of hb163).2 h]; simp
    have S161 := S105.step (h161.mono (by simp)) (S105.cu.mdN h161 (by simp)) S105.ok
    refine LdN_in (l := (rdTb b).l p2) hsz ?_ <| Bd_in fun cs170 hcs => ?_
    · intro k u hu
      rw [show (Addr.add ⟨n6, 0, none⟩ 2).add k = ⟨n6, 2 + k, none⟩ by rw [Addr.add_lit, Addr.add_lit]]
      exact S161.cu.cellT hu
    have ecs : cs170 = (rdTb b).v p2 := hcs
    subst ecs
    refine ⟨hF.at.size, OkC_in hF.cells fun w171 h171 hL171 => ⟨hF.at.size, ⟨_, _, rfl, ?_⟩, hend _ _ S161.md h171⟩⟩
    unfold RdOut; rw [hyes]
    exact ⟨rfl, p2, rfl, ((hF.md h161).mdN h171 (by simp; omega)).down (by have := hm7.size; omega)⟩
end Fk
set_option linter.unusedVariables false
set_option linter.unusedSimpArgs false
namespace Fk
open Go Go.Proofs Go.RowKit
/-- Two rows stand in blocks of their own. -/
def Apt (a b : Option Addr) : Prop := ∀ A B, a = some A → b = some B → A.block ≠ B.block
theorem Apt.symm {a b : Option Addr} (h : Apt a b) : Apt b a := fun A B hA hB e => h B A hB hA e.symm
/-- What stays when another row is appended to. -/
theorem own_keep {α : Type} {w w' : World} {base : Nat} {e : TypeId} {size : Nat} {enc : α → List Value} {a a' b : Option Addr} {c : Nat} {l : List α} (h : OwnL w base e size enc b c l)
    (hm : Md (a.map (·.block)).toList w w') (hA : ∀ A, a' = some A → a = some A ∨ w.heap.size ≤ A.block) (hd : Apt a b) : OwnL w' base e size enc b c l ∧ Apt a' b := by
  constructor
  · refine h.mdD hm fun B hB hmem => ?_
    cases a with
    | none => simp at hmem
    | some A => simp at hmem; exact hd A B rfl hB hmem.symm
  · intro A B hA' hB
    rcases hA A hA' with h1 | h1
    · exact hd A B h1 hB
    · have := (h.lt hB).2; omega
theorem md_app {α : Type} {w0 w w' : World} {base : Nat} {e : TypeId} {size : Nat} {enc : α → List Value} {a : Option Addr} {c : Nat} {l : List α} {D : List Nat} (h : OwnL w base e size enc a c l)
    (hm : Md (a.map (·.block)).toList w w') (h0 : w0.heap.size ≤ base) (hmd : Md D w0 w) : Md D w0 w' :=
  hmd.old' hm fun d hd => by
    cases a with
    | none => simp at hd
    | some A => simp at hd; have := (h.lt rfl).1; omega
section
variable {base : Nat} {w : World} {t : Tb} {p : TbS} {L : List Nat}
theorem TbF.app_nm (S : TbF base w t p) (hb : base ≤ w.heap.size) (x : ByteArray) (hx : x.size < 2 ^ 40) (hl : t.nm.length + 1 < 2 ^ 40) (hL : ∀ b ∈ L, b < base) {K : Value → World → Prop}
    (k : ∀ a' c' w', TbF base w' ⟨t.c, t.dm, t.nx, t.tg, t.nm ++ [x]⟩ ⟨p.na, p.nc, p.ta, p.tc, a', c'⟩ → (∀ w0, w0.heap.size ≤ base → Md [] w0 w → Md [] w0 w') → w.heap.size ≤ w'.heap.size → K (.slice a' (t.nm ++ [x]).length c') w') :
    Nw (.cells #[.string x] 9) w fun b w' => RunW Try.prog L (Builtin.append_ #[55, 55] 55 #[.slice p.sa t.nm.length p.sc, .slice (some { block := b, off := 0 }) 1 1]) K w' := by
  refine app_one rowT55 encs1 x rfl S.nm hb (fun b hbL => by have := hL b hbL; omega) (fun b hbL A hA e => by have := (S.nm.lt hA).1; have := hL b hbL; omega) (by simp [maxLen] at hl ⊢; omega) (by simp at hl ⊢; omega) ?_
  intro a' c' w' ho hm hA
  obtain ⟨k1, d1⟩ := own_keep S.tg hm hA S.d1
  obtain ⟨k2, d2⟩ := own_keep S.nx hm hA S.d2
  refine k a' c' w' ⟨S.ok, ho, k1, k2, by simp; omega, S.tgl, S.nxl, ?_, d1, d2, S.d3⟩ (fun w0 h0 hmd => md_app S.nm hm h0 hmd) hm.size
  intro s hs
  rcases List.mem_append.1 hs with h | h
  · exact S.nsz s h
  · simp at h; subst h; exact hx
theorem TbF.app_tg (S : TbF base w t p) (hb : base ≤ w.heap.size) (x : Int) (hl : t.tg.length + 1 < 2 ^ 40) (hL : ∀ b ∈ L, b < base) {K : Value → World → Prop}
    (k : ∀ a' c' w', TbF base w' ⟨t.c, t.dm, t.nx, t.tg ++ [x], t.nm⟩ ⟨p.na, p.nc, a', c', p.sa, p.sc⟩ → (∀ w0, w0.heap.size ≤ base → Md [] w0 w → Md [] w0 w') → w.heap.size ≤ w'.heap.size → K (.slice a' (t.tg ++ [x]).length c') w') :
    Nw (.cells #[.int .i64 x] 3) w fun b w' => RunW Try.prog L (Builtin.append_ #[52, 52] 52 #[.slice p.ta t.tg.length p.tc, .slice (some { block := b, off := 0 }) 1 1]) K w' := by
  refine app_one rowT52 enci1 x rfl S.tg hb (fun b hbL => by have := hL b hbL; omega) (fun b hbL A hA e => by have := (S.tg.lt hA).1; have := hL b hbL; omega) (by simp [maxLen] at hl ⊢; omega) (by simp at hl ⊢; omega) ?_
  intro a' c' w' ho hm hA
  obtain ⟨k1, d1⟩ := own_keep S.nm hm hA (fun A B h1 h2 e => S.d1 B A h2 h1 e.symm)
  obtain ⟨k2, d2⟩ := own_keep S.nx hm hA S.d3
  exact k a' c' w' ⟨S.ok, k1, ho, k2, S.nml, by simp; omega, S.nxl, S.nsz, d1.symm, S.d2, d2⟩ (fun w0 h0 hmd => md_app S.tg hm h0 hmd) hm.size
theorem TbF.app_nx (S : TbF base w t p) (hb : base ≤ w.heap.size) (x : Int) (hl : t.nx.length + 1 < 2 ^ 40) (hL : ∀ b ∈ L, b < base) {K : Value → World → Prop}
    (k : ∀ a' c' w', TbF base w' ⟨t.c, t.dm, t.nx ++ [x], t.tg, t.nm⟩ ⟨a', c', p.ta, p.tc, p.sa, p.sc⟩ → (∀ w0, w0.heap.size ≤ base → Md [] w0 w → Md [] w0 w') → w.heap.size ≤ w'.heap.size → K (.slice a' (t.nx ++ [x]).length c') w') :
    Nw (.cells #[.int .i64 x] 3) w fun b w' => RunW Try.prog L (Builtin.append_ #[52, 52] 52 #[.slice p.na t.nx.length p.nc, .slice (some { block := b, off := 0 }) 1 1]) K w' := by
  refine app_one rowT52 enci1 x rfl S.nx hb (fun b hbL => by have := hL b hbL; omega) (fun b hbL A hA e => by have := (S.nx.lt hA).1; have := hL b hbL; omega) (by simp [maxLen] at hl ⊢; omega) (by simp at hl ⊢; omega) ?_
  intro a' c' w' ho hm hA
  obtain ⟨k1, d1⟩ := own_keep S.nm hm hA (fun A B h1 h2 e => S.d2 B A h2 h1 e.symm)
  obtain ⟨k2, d2⟩ := own_keep S.tg hm hA (fun A B h1 h2 e => S.d3 B A h2 h1 e.symm)
  exact k a' c' w' ⟨S.ok, k1, k2, ho, S.nml, S.tgl, by simp; omega, S.nsz, S.d1, d1.symm, d2.symm⟩ (fun w0 h0 hmd => md_app S.nx hm h0 hmd) hm.size
end
theorem wrL_one (l : List Value) (o : Nat) (v : Value) (h : o < l.length) : wrL l o [v] = l.set o v := by
  unfold wrL
  rw [List.set_eq_take_append_cons_drop, if_pos h]; rfl
theorem Tb.setB {t : Tb} {p : TbS} {i : Nat} (hf : t.c.f.length = 256) (hi : i < 256) (x : Nat) : (t.l p).set i (.int .u8 (x : Int)) = Tb.l ⟨⟨t.c.f.set i x, t.c.m⟩, t.dm, t.nx, t.tg, t.nm⟩ p := by
  simp [Tb.l, Tb.d, Cl.l, List.set_append, hf, hi, Nat.lt_succ_of_lt hi, List.map_set]
end Fk
set_option linter.unusedVariables false
set_option linter.unusedSimpArgs false
set_option maxRecDepth 100000
namespace Fk
open Go Go.Proofs Go.RowKit
theorem rowT69 : RowT Try.prog 69 103 8 64 := RowT.of (by kernel_rfl) (by kernel_rfl) (by kernel_rfl) (by omega)
/-- A maker: its states, and how many there may be. -/
structure MkAt (w : World) (n : Nat) (l : List Ns) (most : Nat) (a : Option Addr) (c : Nat) : Prop where
  blk : Blk w n 214 [.slice a l.length c, .int .i64 most]
  own : OwnL w 0 103 8 nsE a c l
  ne : ∀ A, a = some A → A.block ≠ n
def fpM (n : Nat) (a : Option Addr) : List Nat := n :: (a.map (·.block)).toList
def Mkr (w : World) (n : Nat) (l : List Ns) (most : Nat) (F : List Nat) : Prop := ∃ a c, MkAt w n l most a c ∧ F = fpM n a
def FrN (w : World) (F F' : List Nat) : Prop := ∀ b ∈ F', b ∈ F ∨ w.heap.size ≤ b
theorem FrN.refl (w : World) (F : List Nat) : FrN w F F := fun _ h => .inl h
theorem FrN.trans {w w' : World} {F F' F'' : List Nat} (h : FrN w F F') (h2 : FrN w' F' F'') (hs : w.heap.size ≤ w'.heap.size) : FrN w F F'' := fun b hb => by
  rcases h2 b hb with h1 | h1
  · exact h b h1
  · right; omega
theorem mem_fpM {n : Nat} {a : Option Addr} {b : Nat} : b ∈ fpM n a ↔ b = n ∨ ∃ A, a = some A ∧ A.block = b := by
  unfold fpM
  cases a <;> simp [eq_comm]
theorem Mkr.md {w w' : World} {n : Nat} {l : List Ns} {most : Nat} {F D : List Nat} (h : Mkr w n l most F) (hm : Md D w w') (hD : ∀ b ∈ F, b ∉ D) : Mkr w' n l most F := by
  obtain ⟨a, c, h, rfl⟩ := h
  exact ⟨a, c, ⟨h.blk.md hm (hD n (by rw [mem_fpM]; exact .inl rfl)), h.own.mdD hm (fun A hA => hD _ (by rw [mem_fpM]; exact .inr ⟨A, hA, rfl⟩)), h.ne⟩, rfl⟩
theorem Mkr.md0 {w w' : World} {n : Nat} {l : List Ns} {most : Nat} {F : List Nat} (h : Mkr w n l most F) (hm : Md [] w w') : Mkr w' n l most F := h.md hm (by simp)
theorem Mkr.lt {w : World} {n : Nat} {l : List Ns} {most : Nat} {F : List Nat} (h : Mkr w n l most F) : ∀ b ∈ F, b < w.heap.size := by
  obtain ⟨a, c, h, rfl⟩ := h
  intro b hb
  rw [mem_fpM] at hb
  rcases hb with rfl | ⟨A, hA, rfl⟩
  · exact h.blk.lt
  · exact (h.own.lt hA).2
theorem f165_ok (n : Nat) (l : List Ns) (most : Nat) (F : List Nat) (w : World) (h : Mkr w n l most F) : Ct Try.prog 165 #[.pointer (some ⟨n, 0, none⟩)] w fun v w' => v = .bool (decide (l.length > most)) ∧ Md [] w w' := by
  apply f165_in
  obtain ⟨a, c, h, rfl⟩ := h
  refine ⟨fun w' => Md [] w.drew w', Md.refl _ _, ?_⟩
  show ∃ v3, _ ∧ _
  refine ⟨_, fun w' hm => (h.blk.md ((Md_drew w).trans hm) (by simp)).ld' rfl rfl, opL_in <| Bd_e rfl ?_⟩
  show ∃ v3, _ ∧ _
  refine ⟨_, fun w' hm => (h.blk.md ((Md_drew w).trans hm) (by simp)).ld' rfl rfl, opI_in <| Bd_in fun b17 hb17 => ⟨?_, Md_drew w⟩⟩
  rw [hb17]
  congr 2
  apply propext; omega
def mst (most : Nat) (l : List Ns) (x : Ns) : List Ns := if l.length ≤ most then l ++ [x] else l
theorem f164_ok (n : Nat) (l : List Ns) (most : Nat) (F : List Nat) (x : Ns) (w : World) (h : Mkr w n l most F) (hm : most ≤ 20000) (hl : l.length ≤ most + 1) :
    Ct Try.prog 164 #[.pointer (some ⟨n, 0, none⟩), x.v] w fun v w' => (v = .int .i64 ((mst most l x).length - 1 : Int) ∧ ∃ F', Mkr w' n (mst most l x) most F' ∧ FrN w F F') ∧ Md F w w' := by
  apply f164_in
  intro n1 hn1
  refine Jn_in (fun us vs w' => (∃ F', Mkr w' n (mst most l x) most F' ∧ FrN w F F') ∧ Md F w w') ?_ fun w13 h13 hL13 => ?_
  · rintro us vs w4 ⟨⟨F', ⟨a, c, hk, rfl⟩, hf⟩, hmd⟩
    have h1 : 1 ≤ (mst most l x).length := by unfold mst; split <;> (try simp) <;> omega
    have h2 : (mst most l x).length ≤ most + 2 := by unfold mst; split <;> (try simp) <;> omega
    show Ld _ _ _
    exact hk.blk.ld' rfl <| opL_in <| Bd_e rfl <| Bd_e (y := ((mst most l x).length - 1 : Int)) (by rw [IntKind.wrap_i64]; omega) ⟨⟨rfl, _, ⟨a, c, hk, rfl⟩, hf⟩, hmd⟩
  obtain ⟨a, c, hk, rfl⟩ := h
  have l1 := hL13 n1 (by simp)
  have hk13 : ∀ {w' : World}, Md [] w13.drew w' → Blk w' n 214 [.slice a l.length c, .int .i64 most] := fun hm => (hk.blk.md h13 (by simp)).md ((Md_drew w13).trans hm) (by simp)
  refine ⟨fun w' => Md [] w13.drew w', Md.refl _ _, ?_⟩
  show ∃ v3, _ ∧ _
  refine ⟨_, fun w' hm => (hk13 hm).ld' rfl rfl, opL_in <| Bd_e rfl ?_⟩
  show ∃ v3, _ ∧ _
  refine ⟨_, fun w' hm => (hk13 hm).ld' rfl rfl, opI_in <| Bd_in fun b30 hb30 => If_in (fun hb => ?_) fun hb => ?_⟩
  · have hle : l.length ≤ most := by rw [hb30] at hb; have : (l.length : Int) ≤ (most : Int) := by simpa using hb
                                     omega
    have ems : mst most l x = l ++ [x] := by unfold mst; rw [if_pos hle]
    have m0 : Md [] w w13.drew.drew := h13.trans ((Md_drew w13).trans (Md_drew _))
    have fin : ∀ (w' w2 : World), Md [] w w' → ∀ (a' : Option Addr) (c' : Nat), OwnL w2 0 103 8 nsE a' c' (l ++ [x]) → Md (a.map (·.block)).toList w' w2 → (∀ A, a' = some A → a = some A ∨ w'.heap.size ≤ A.block) →
        ¬ Addr.block (Addr.add (Addr.mk n 0 none) 0) ∈ [n1] ∧ Wr w2 (Addr.add (Addr.mk n 0 none) 0) 1 ∧ (∃ F', Mkr (setCells w2 (Addr.add (Addr.mk n 0 none) 0) 0 [.slice a' (l ++ [x]).length c']) n (mst most l x) most F' ∧ FrN w (fpM n a) F') ∧ Md (fpM n a) w (setCells w2 (Addr.add (Addr.mk n 0 none) 0) 0 [.slice a' (l ++ [x]).length c']) := by
      intro w' w2 hmw a' c' ho hm2 hA
      have hnlt := hk.blk.lt
      have hna : n ∉ (a.map (·.block)).toList := by
        cases a with
        | none => simp
        | some A => simp; exact fun e => hk.ne A rfl e.symm
      have b2 : Blk w2 n 214 [.slice a l.length c, .int .i64 most] := (hk.blk.md hmw (by simp)).md hm2 hna
      have hs1 := hmw.size
      have ne' : ∀ A, a' = some A → A.block ≠ n := fun A h e => by
        rcases hA A h with h1 | h1
        · exact hk.ne A h1 e
        · omega
      rw [ad0', ems]
      have b3 := b2.set (j := 0) (by simp) (.slice a' (l ++ [x]).length c')
      have ms := Md_setCells (w := w2) n 0 [.slice a' (l ++ [x]).length c']
      refine ⟨?_, b2.wr (by simp), ⟨_, ⟨a', c', ⟨b3, ho.mdD ms (fun A h => by simp; exact ne' A h), ne'⟩, rfl⟩, fun b hb => ?_⟩, ?_⟩
      · simp; omega
      · rw [mem_fpM] at hb ⊢
        rcases hb with rfl | ⟨A, h, rfl⟩
        · exact .inl (.inl rfl)
        · rcases hA A h with h1 | h1
          · exact .inl (.inr ⟨A, h1, rfl⟩)
          · right; omega
      · refine ⟨ms.os.trans (hm2.os.trans hmw.os), ms.tape.trans (hm2.tape.trans hmw.tape), ms.output.trans (hm2.output.trans hmw.output), by have := ms.size; have := hm2.size; omega, fun k hk' hkm => ?_⟩
        have hkn : k ≠ n := fun e => hkm (by rw [mem_fpM]; exact .inl e)
        have hka : k ∉ (a.map (·.block)).toList := fun hmem => hkm (by unfold fpM; exact List.mem_cons_of_mem _ hmem)
        have s2 := hm2.size
        exact ((ms.blk k (by omega) (by simpa using hkn)).trans (hm2.blk k (by omega) hka)).trans (hmw.blk k hk' (by simp))
    have hnot : ∀ b ∈ [n1], ∀ A, a = some A → A.block ≠ b := fun b hb A hA e => by have := (hk.own.lt hA).2; simp at hb; omega
    have hlD : ∀ {w' : World}, Md [] w13.drew.drew w' → ∀ b ∈ [n1], b < w'.heap.size := fun hm b hb => by
      have h1 := hm.size
      have h2 : w13.heap.size ≤ _ := h1
      simp at hb; omega
    have bD : ∀ {w' : World}, Md [] w13.drew.drew w' → Blk w' n 214 [.slice a l.length c, .int .i64 most] := fun hm => hk13 ((Md_drew _).trans hm)
    refine ⟨(bD (Md.refl _ _)).ld' rfl <| opL_in <| app_one rowT69 encNs x rfl (hk.own.md m0) (Nat.zero_le _) (hlD (Md.refl _ _)) hnot (by simp [maxLen]; omega) (by omega) fun a' c' w' ho hm hA => opL_in (fin _ w' m0 a' c' ho hm hA), ?_⟩
    intro n44 w45 e1 e2
    subst e1; subst e2
    have ma : Md [] w13.drew.drew (w13.drew.drew.alloc (.cells #[.int .u8 x.k, .int .u64 x.s1, .int .u64 x.s2, .int .u64 x.s3, .int .u64 x.s4, .int .i64 x.a, .int .i64 x.b, .int .i64 x.t] 103)) := Md.alloc _ _
    have ol := OwnL.lit (P := Try.prog) (base := 0) encNs w13.drew.drew 103 [x] #[.int .u8 x.k, .int .u64 x.s1, .int .u64 x.s2, .int .u64 x.s3, .int .u64 x.s4, .int .i64 x.a, .int .i64 x.b, .int .i64 x.t] (Nat.zero_le _) (by simp [maxLen]) rfl
    exact (bD ma).ld' rfl <| opL_in <| app_own rowT69 encNs ((hk.own.md m0).md ma) ol (Nat.zero_le _) (hlD ma) hnot (by simp [maxLen]; omega) (by simp; omega) fun a' c' w' ho hm hA => opL_in (fin _ w' (m0.trans ma) a' c' ho hm hA)
  · have hle : ¬ l.length ≤ most := by rw [hb30] at hb; have : ¬ (l.length : Int) ≤ (most : Int) := by simpa using hb
                                       omega
    have ems : mst most l x = l := by unfold mst; rw [if_neg hle]
    have m : Md [] w w13.drew := h13.trans (Md_drew w13)
    rw [ems]
    exact ⟨⟨_, ⟨a, c, ⟨hk13 (Md.refl _ _), hk.own.md m, hk.ne⟩, rfl⟩, FrN.refl _ _⟩, m.mono (by simp)⟩
end Fk
set_option linter.unusedVariables false
set_option linter.unusedSimpArgs false
set_option maxRecDepth 100000
namespace Fk
open Go Go.Proofs Go.RowKit
/-- A state more: all of them, and the last one's number. -/
def pst (most : Nat) (l : List Ns) (x : Ns) : List Ns × Int := (mst most l x, (mst most l x).length - 1)
def spl (a b : Int) : Ns := ⟨2, 0, 0, 0, 0, a, b, 0⟩
def setA (l : List Ns) (i k : Int) : List Ns := match l[i.toNat]? with
  | some x => l.set i.toNat { x with a := k }
  | none => l
/-- What a row of trees makes: as a row of a text; as choices; the first tree alone. -/
structure Tw where
  cat : List Ns × Int → List Ns × Int
  alt : Int → List Ns → List Ns × Option Int
  one : List Ns × Int → List Ns × Int
def twOne (most : Nat) (k a b c d : Int) (Q : Tw) (p : List Ns × Int) : List Ns × Int :=
  if p.1.length > most then p
  else if k = 1 then pst most p.1 ⟨1, a, b, c, d, p.2, 0, 0⟩
  else if k = 2 then Q.cat p
  else if k = 3 then ((Q.alt p.2 p.1).1, (Q.alt p.2 p.1).2.getD 0)
  else if k = 4 then
    let s := pst most p.1 (spl 0 p.2)
    let q := Q.one (s.1, s.2)
    (setA q.1 s.2 q.2, s.2)
  else p
def twAlt (most : Nat) (one : List Ns × Int → List Ns × Int) (R : Tw) (to : Int) (l : List Ns) : List Ns × Option Int :=
  let r := R.alt to l
  let q := one (r.1, to)
  match r.2 with
  | none => (q.1, some q.2)
  | some at' => ((pst most q.1 (spl q.2 at')).1, some (pst most q.1 (spl q.2 at')).2)
def tw (most : Nat) : Fo → Tw
  | .nil => ⟨id, fun _ l => (l, none), id⟩
  | .cons k a b c d q r =>
    let one := twOne most k a b c d (tw most q)
    ⟨fun p => one ((tw most r).cat p), twAlt most one (tw most r), one⟩
theorem mst_len (most : Nat) (l : List Ns) (x : Ns) (h : l.length ≤ most + 1) : l.length ≤ (mst most l x).length ∧ (mst most l x).length ≤ most + 1 := by
  unfold mst
  split
  · simp; omega
  · omega
theorem setA_len (l : List Ns) (i k : Int) : (setA l i k).length = l.length := by
  unfold setA
  split <;> simp
theorem tw_len (most : Nat) : ∀ f : Fo, (∀ p : List Ns × Int, p.1.length ≤ most + 1 → p.1.length ≤ ((tw most f).cat p).1.length ∧ ((tw most f).cat p).1.length ≤ most + 1) ∧
    (∀ (to : Int) (l : List Ns), l.length ≤ most + 1 → l.length ≤ ((tw most f).alt to l).1.length ∧ ((tw most f).alt to l).1.length ≤ most + 1) ∧
    (∀ p : List Ns × Int, p.1.length ≤ most + 1 → p.1.length ≤ ((tw most f).one p).1.length ∧ ((tw most f).one p).1.length ≤ most + 1)
  | .nil => ⟨fun p h => ⟨Nat.le_refl _, h⟩, fun to l h => ⟨Nat.le_refl _, h⟩, fun p h => ⟨Nat.le_refl _, h⟩⟩
  | .cons k a b c d q r => by
    obtain ⟨q1, q2, q3⟩ := tw_len most q
    obtain ⟨r1, r2, r3⟩ := tw_len most r
    have one : ∀ p : List Ns × Int, p.1.length ≤ most + 1 → p.1.length ≤ (twOne most k a b c d (tw most q) p).1.length ∧ (twOne most k a b c d (tw most q) p).1.length ≤ most + 1 := by
      intro p hp
      unfold twOne
      split
      · exact ⟨Nat.le_refl _, hp⟩
      · split
        · exact mst_len most p.1 _ hp
        · split
          · exact q1 p hp
          · split
            · exact q2 _ _ hp
            · split
              · have h1 := mst_len most p.1 (spl 0 p.2) hp
                have h2 := q3 (pst most p.1 (spl 0 p.2)) h1.2
                simp only [setA_len]
                exact ⟨Nat.le_trans h1.1 h2.1, h2.2⟩
              · exact ⟨Nat.le_refl _, hp⟩
    refine ⟨fun p hp => ?_, fun to l hl => ?_, one⟩
    · have h1 := r1 p hp
      have h2 := one _ h1.2
      exact ⟨Nat.le_trans h1.1 h2.1, h2.2⟩
    · have h1 := r2 to l hl
      have h2 := one (((tw most r).alt to l).1, to) h1.2
      show l.length ≤ (twAlt most _ _ to l).1.length ∧ (twAlt most _ _ to l).1.length ≤ most + 1
      unfold twAlt
      simp only
      split
      · exact ⟨Nat.le_trans h1.1 h2.1, h2.2⟩
      · rename_i at' _
        have h3 := mst_len most _ (spl (twOne most k a b c d (tw most q) (((tw most r).alt to l).1, to)).2 at') h2.2
        exact ⟨Nat.le_trans h1.1 (Nat.le_trans h2.1 h3.1), h3.2⟩
end Fk
set_option linter.unusedVariables false
set_option linter.unusedSimpArgs false
set_option maxRecDepth 100000
namespace Fk
open Go Go.Proofs Go.RowKit
theorem Md_frN {F F' : List Nat} {w w1 w2 : World} (h1 : Md F w w1) (h2 : Md F' w1 w2) (hf : FrN w F F') : Md F w w2 :=
  ⟨h2.os.trans h1.os, h2.tape.trans h1.tape, h2.output.trans h1.output, Nat.le_trans h1.size h2.size, fun k hk hm => (h2.blk k (Nat.lt_of_lt_of_le hk h1.size) fun hm' => by
    rcases hf k hm' with h | h
    · exact hm h
    · omega).trans (h1.blk k hk hm)⟩
def Fo.drop : Fo → Nat → Fo
  | f, 0 => f
  | .nil, _ + 1 => .nil
  | .cons _ _ _ _ _ _ r, n + 1 => r.drop n
theorem Fo.drop_len : ∀ (f : Fo) (j : Nat), (f.drop j).len = f.len - j
  | f, 0 => by simp [Fo.drop]
  | .nil, j + 1 => by simp [Fo.drop, Fo.len]
  | .cons _ _ _ _ _ _ r, j + 1 => by simp only [Fo.drop, Fo.len, Fo.drop_len r j]; omega
theorem Fo.drop_cons : ∀ (f : Fo) (j : Nat), j < f.len → ∃ k a b c d q, f.drop j = .cons k a b c d q (f.drop (j + 1)) ∧ q.size < f.size
  | .nil, j, h => by simp [Fo.len] at h
  | .cons k a b c d q r, 0, _ => ⟨k, a, b, c, d, q, by cases r <;> rfl, by simp only [Fo.size]; omega⟩
  | .cons k a b c d q r, j + 1, h => by
    obtain ⟨k', a', b', c', d', q', e, hs⟩ := Fo.drop_cons r j (by simp only [Fo.len] at h; omega)
    exact ⟨k', a', b', c', d', q', by simp only [Fo.drop]; exact e, by simp only [Fo.size]; omega⟩
theorem Fo.drop_all (f : Fo) : ∀ j, f.len ≤ j → f.drop j = .nil := by
  intro j hj
  have := Fo.drop_len f j
  cases h : f.drop j with
  | nil => rfl
  | cons => rw [h] at this; simp only [Fo.len] at this; omega
theorem RepF.drop {w : World} {A : Option Addr} : ∀ (f : Fo) (i j : Nat), RepF w A i f → RepF w A (i + j) (f.drop j)
  | f, i, 0, h => by simpa [Fo.drop] using h
  | .nil, i, j + 1, h => trivial
  | .cons _ _ _ _ _ _ r, i, j + 1, h => by
    obtain ⟨B, sa, sc, _, _, _, _, hr⟩ := h.at
    have := RepF.drop r (i + 1) j hr
    rw [show i + (j + 1) = i + 1 + j by omega]
    exact this
/-- Trees whose choices and stars have kids. -/
def Fo.gdP : Fo → Prop
  | .nil => True
  | .cons k _ _ _ _ q r => ((k = 3 ∨ k = 4) → 1 ≤ q.len) ∧ q.gdP ∧ r.gdP
theorem Fo.gdP_drop : ∀ (f : Fo) (j : Nat), f.gdP → (f.drop j).gdP
  | f, 0, h => by simpa [Fo.drop] using h
  | .nil, j + 1, h => trivial
  | .cons _ _ _ _ _ _ r, j + 1, h => Fo.gdP_drop r j h.2.2
/-- What a call of toward, or of state, brings. -/
structure Tws (w0 w : World) (n : Nat) (l : List Ns) (most : Nat) (F : List Nat) : Prop where
  mr : Mkr w n l most F
  md : Md [] w0 w
  lo : ∀ b ∈ F, w0.heap.size ≤ b
  len : l.length ≤ most + 1
theorem Tws.step {w0 w w' : World} {n : Nat} {l l' : List Ns} {most : Nat} {F F' : List Nat} (S : Tws w0 w n l most F) (h : Mkr w' n l' most F') (hm : Md F w w') (hf : FrN w F F') (hl : l'.length ≤ most + 1) : Tws w0 w' n l' most F' :=
  ⟨h, S.md.old hm S.lo, fun b hb => by rcases hf b hb with h | h; exact S.lo b h; have := S.md.size; omega, hl⟩
theorem Tws.md0 {w0 w w' : World} {n : Nat} {l : List Ns} {most : Nat} {F : List Nat} (S : Tws w0 w n l most F) (hm : Md [] w w') : Tws w0 w' n l most F := ⟨S.mr.md0 hm, S.md.trans hm, S.lo, S.len⟩
/-- Blocks that are there, and are none of the maker's. -/
def LN (L : List Nat) (w : World) (F : List Nat) : Prop := ∀ b ∈ L, b < w.heap.size ∧ b ∉ F
theorem LN.fr {L F F' : List Nat} {w w' : World} (h : LN L w F) (hf : FrN w F F') (hs : w.heap.size ≤ w'.heap.size) : LN L w' F' := fun b hb => by
  obtain ⟨h1, h2⟩ := h b hb
  refine ⟨by omega, fun hm => ?_⟩
  rcases hf b hm with h3 | h3
  · exact h2 h3
  · omega
theorem in164 {w0 w : World} {n : Nat} {l : List Ns} {most : Nat} {F L : List Nat} (S : Tws w0 w n l most F) (hL : LN L w F) (hm : most ≤ 20000) (k a b c d e f t : Int) {K : Int → World → Prop}
    (kk : ∀ F' w', Tws w0 w' n (pst most l ⟨k, a, b, c, d, e, f, t⟩).1 most F' → Md F w w' → FrN w F F' → LN L w' F' → K (pst most l ⟨k, a, b, c, d, e, f, t⟩).2 w') :
    CallW Try.prog L 164 #[.pointer (some ⟨n, 0, none⟩), .agg #[.int .u8 k, .int .u64 a, .int .u64 b, .int .u64 c, .int .u64 d, .int .i64 e, .int .i64 f, .int .i64 t]] (fun v w' => opI .i64 v fun x => K x w') w := by
  refine (f164_ok n l most F ⟨k, a, b, c, d, e, f, t⟩ w S.mr hm S.len).callD (fun b hb => (hL b hb).1) (fun b hb => (hL b hb).2) ?_
  rintro v w' ⟨rfl, F', h1, h2⟩ h'
  exact opI_in (kk F' w' (S.step h1 h' h2 (mst_len most l _ S.len).2) h' h2 (hL.fr h2 h'.size))
end Fk
