/- Contracts: what stands ahead of a table's states. -/
import Derived.Test.YtpgjpgecgibklaaC23
import Derived.Laws.CopyRow
import Derived.Laws.IdiomStrings
set_option linter.unusedVariables false
set_option linter.unusedSimpArgs false
set_option maxRecDepth 100000
namespace Fk
open Go Go.Proofs Go.RowKit
def bytesOf (l : List Nat) : ByteArray := ⟨(l.map UInt8.ofNat).toArray⟩
theorem conv_row {w : World} {a : Option Addr} {l : List Nat} (h : RowAt w a 1 b1 l) (hl : ∀ x ∈ l, x < 256) (m c : Nat) (hm : l.length = m) : (convert 51 9 (.slice a m c)).run Try.prog w = .ok (.string (bytesOf l)) w := by
  subst hm
  cases a with
  | none =>
    cases l with
    | nil => rw [run_convert_bytes_string w 51 9 5 none _ c (by kernel_rfl) (by kernel_rfl) (by kernel_rfl)]; simp [Conv.bytesToString, bytesOf]; rfl
    | cons x l => obtain ⟨A, hA, _⟩ := h 0 x rfl; cases hA
  | some A =>
    have := run_convert_bytes_back (P := Try.prog) w 51 9 5 A c (l.map UInt8.ofNat) (by kernel_rfl) (by kernel_rfl) (by kernel_rfl) (by
      intro j hj
      simp at hj
      obtain ⟨B, hB, hc⟩ := h j l[j] (List.getElem?_eq_getElem hj)
      cases hB
      have := hc 0 (.int .u8 (l[j] : Int)) rfl
      rw [addr_add0, Nat.mul_one] at this
      rw [this]
      have := hl _ (List.getElem_mem hj)
      simp [UInt8.toNat_ofNat', Nat.mod_eq_of_lt this])
    rw [List.length_map] at this
    exact this
section
variable {t : Tb} {p : TbS}
theorem Tb.len (hf : t.c.f.length = 256) : (t.l p).length = 261 := by simp [Tb.l, Tb.d, Cl.l, hf]
theorem Tb.set256 (hf : t.c.f.length = 256) (m : Int) : (t.l p).set 256 (.int .i64 m) = Tb.l ⟨⟨t.c.f, m⟩, t.dm, t.nx, t.tg, t.nm⟩ p := by
  simp [Tb.l, Tb.d, Cl.l, List.set_append, hf]
theorem Tb.set257 (hf : t.c.f.length = 256) (d : Int) : (t.l p).set 257 (.int .i64 d) = Tb.l ⟨t.c, d, t.nx, t.tg, t.nm⟩ p := by
  simp [Tb.l, Tb.d, Cl.l, List.set_append, hf]
theorem Tb.set258 (hf : t.c.f.length = 256) (a : Option Addr) (l : List Int) (c : Nat) : (t.l p).set 258 (.slice a l.length c) = Tb.l ⟨t.c, t.dm, l, t.tg, t.nm⟩ ⟨a, c, p.ta, p.tc, p.sa, p.sc⟩ := by
  simp [Tb.l, Tb.d, Cl.l, List.set_append, hf]
theorem Tb.set259 (hf : t.c.f.length = 256) (a : Option Addr) (l : List Int) (c : Nat) : (t.l p).set 259 (.slice a l.length c) = Tb.l ⟨t.c, t.dm, t.nx, l, t.nm⟩ ⟨p.na, p.nc, a, c, p.sa, p.sc⟩ := by
  simp [Tb.l, Tb.d, Cl.l, List.set_append, hf]
theorem Tb.set260 (hf : t.c.f.length = 256) (a : Option Addr) (l : List ByteArray) (c : Nat) : (t.l p).set 260 (.slice a l.length c) = Tb.l ⟨t.c, t.dm, t.nx, t.tg, l⟩ ⟨p.na, p.nc, p.ta, p.tc, a, c⟩ := by
  simp [Tb.l, Tb.d, Cl.l, List.set_append, hf]
theorem Tb.at256 (hf : t.c.f.length = 256) : (t.l p)[256]? = some (.int .i64 t.c.m) := by simp [Tb.l, Tb.d, Cl.l, List.getElem?_append, hf]
theorem Tb.at257 (hf : t.c.f.length = 256) : (t.l p)[257]? = some (.int .i64 t.dm) := by simp [Tb.l, Tb.d, Cl.l, List.getElem?_append, hf]
theorem Tb.at258 (hf : t.c.f.length = 256) : (t.l p)[258]? = some (.slice p.na t.nx.length p.nc) := by simp [Tb.l, Tb.d, Cl.l, List.getElem?_append, hf]
theorem Tb.at259 (hf : t.c.f.length = 256) : (t.l p)[259]? = some (.slice p.ta t.tg.length p.tc) := by simp [Tb.l, Tb.d, Cl.l, List.getElem?_append, hf]
theorem Tb.at260 (hf : t.c.f.length = 256) : (t.l p)[260]? = some (.slice p.sa t.nm.length p.sc) := by simp [Tb.l, Tb.d, Cl.l, List.getElem?_append, hf]
theorem Tb.setF (hf : t.c.f.length = 256) (g : List Nat) (hg : g.length = 256) : g.flatMap b1 ++ (t.l p).drop 256 = Tb.l ⟨⟨g, t.c.m⟩, t.dm, t.nx, t.tg, t.nm⟩ p := by
  have : g.flatMap b1 = g.map (fun x : Nat => Value.int .u8 (x : Int)) := by
    clear hg
    induction g with
    | nil => rfl
    | cons x g ih => rw [List.flatMap_cons, ih]; rfl
  simp [Tb.l, Tb.d, Cl.l, List.drop_append, hf, this]
end
theorem CuAt.setT {w : World} {n : Nat} {o : Option (List Nat)} {tl : List Value} (h : CuAt w n o tl) {j : Nat} (hj : j < tl.length) (v : Value) : CuAt (setCells w ⟨n, 2 + j, none⟩ 0 [v]) n o (tl.set j v) ∧ Md [n] w (setCells w ⟨n, 2 + j, none⟩ 0 [v]) ∧ Wr w ⟨n, 2 + j, none⟩ 1 := by
  obtain ⟨r, off, a, c, ho, hb, hr, hc, ha⟩ := h
  have hm := Md_setCells (w := w) n (2 + j) [v]
  have hb2 := hb.set (j := 2 + j) (by simp; omega) v
  refine ⟨⟨r, off, a, c, ho, ?_, hr.mdE hm fun A hA hne => by have := ha A hA hne; simp; omega, hc, ha⟩, hm, hb.wr (by simp; omega)⟩
  rw [show 2 + j = (j + 1) + 1 by omega, List.set_cons_succ, List.set_cons_succ] at hb2
  rw [show 2 + j = (j + 1) + 1 by omega]
  exact hb2
theorem CuAt.cellT {w : World} {n : Nat} {o : Option (List Nat)} {tl : List Value} (h : CuAt w n o tl) {j : Nat} {v : Value} (hv : tl[j]? = some v) : w.cell? ⟨n, 2 + j, none⟩ = some v := by
  obtain ⟨r, off, a, c, ho, hb, hr, hc, ha⟩ := h
  refine hb.cell ?_
  rw [show 2 + j = (j + 1) + 1 by omega, List.getElem?_cons_succ, List.getElem?_cons_succ]
  exact hv
theorem CuAt.mdN {w w' : World} {n : Nat} {o : Option (List Nat)} {tl : List Value} {D : List Nat} (h : CuAt w n o tl) (hm : Md D w w') (hD : ∀ d ∈ D, n < d) : CuAt w' n o tl := by
  obtain ⟨r, off, a, c, ho, hb, hr, hc, ha⟩ := h
  exact ⟨r, off, a, c, ho, hb.md hm (fun h => by have := hD n h; omega), hr.mdE hm fun A hA hne hm => (by have := ha A hA hne; have := hD _ hm; omega), hc, ha⟩
theorem CuAt.offC {w : World} {n : Nat} {o : Option (List Nat)} {tl : List Value} (h : CuAt w n o tl) : w.cell? ⟨n, 1, none⟩ = some (.bool o.isNone) := by
  obtain ⟨r, off, a, c, ho, hb, hr, hc, ha⟩ := h
  have : o.isNone = off := by rw [ho]; cases off <;> rfl
  rw [this]
  exact hb.cell rfl
theorem CuAt.setOff {w : World} {n : Nat} {o : Option (List Nat)} {tl : List Value} (h : CuAt w n o tl) (m : Bool) (x : Bool) (hx : x = (bif o.isNone then true else !m)) :
    CuAt (setCells w ⟨n, 1, none⟩ 0 [.bool x]) n (if m = true then o else none) tl ∧ Md [n] w (setCells w ⟨n, 1, none⟩ 0 [.bool x]) ∧ Wr w ⟨n, 1, none⟩ 1 := by
  obtain ⟨r, off, a, c, ho, hb, hr, hc, ha⟩ := h
  have hm := Md_setCells (w := w) n 1 [.bool x]
  have hb2 := hb.set (j := 1) (by simp) (.bool x)
  refine ⟨⟨r, x, a, c, ?_, hb2, hr.mdE hm fun A hA hne => by have := ha A hA hne; simp; omega, hc, ha⟩, hm, hb.wr (by simp)⟩
  rw [hx, ho]
  cases off <;> cases m <;> rfl
/-- All that is so while the head is read. -/
structure HS (w0 w : World) (n : Nat) (o : Option (List Nat)) (t : Tb) (p : TbS) : Prop where
  cu : CuAt w n o (t.l p)
  ok : okO o
  f : t.c.f.length = 256
  nm : OwnL w w0.heap.size 9 1 s1 p.sa p.sc t.nm
  tg : OwnL w w0.heap.size 3 1 i1 p.ta p.tc t.tg
  nx : OwnL w w0.heap.size 3 1 i1 p.na p.nc t.nx
  md : Md [n] w0 w
  lt : n < w0.heap.size
  d1 : ∀ A B, p.sa = some A → p.ta = some B → A.block ≠ B.block
  d2 : ∀ A B, p.sa = some A → p.na = some B → A.block ≠ B.block
  d3 : ∀ A B, p.ta = some A → p.na = some B → A.block ≠ B.block
section
variable {w0 w : World} {n : Nat} {o : Option (List Nat)} {t : Tb} {p : TbS} {L : List Nat}
theorem own_ne {α : Type} {w : World} {base n : Nat} {e : TypeId} {size : Nat} {enc : α → List Value} {a : Option Addr} {c : Nat} {l : List α} (h : OwnL w base e size enc a c l) (hn : n < base) : ∀ A, a = some A → A.block ∉ [n] := by
  intro A hA
  have := (h.lt hA).1
  simp; omega
theorem HS.step {w' : World} {o' : Option (List Nat)} (S : HS w0 w n o t p) (hm : Md [n] w w') (hc : CuAt w' n o' (t.l p)) (ho : okO o') : HS w0 w' n o' t p :=
  ⟨hc, ho, S.f, S.nm.mdD hm (own_ne S.nm S.lt), S.tg.mdD hm (own_ne S.tg S.lt), S.nx.mdD hm (own_ne S.nx S.lt), S.md.trans hm, S.lt, S.d1, S.d2, S.d3⟩
theorem HS.drew (S : HS w0 w n o t p) : HS w0 w.drew n o t p := S.step ((Md_drew w).mono (by simp)) (S.cu.mdN (Md_drew w) (by simp)) S.ok
theorem HS.size (S : HS w0 w n o t p) : w0.heap.size ≤ w.heap.size := S.md.size
theorem in158 (S : HS w0 w n o t p) (hL : ∀ b ∈ L, b < w0.heap.size ∧ b ≠ n) {A : Addr} (hA : A = ⟨n, 0, none⟩) {K : Int → World → Prop} (k : ∀ w', HS w0 w' n (oneO o).2 t p → K ((oneO o).1 : Int) w') :
    CallW Try.prog L 158 #[.pointer (some A)] (fun v w' => opI .i64 v fun x => K x w') w := by
  subst hA
  have := S.size
  refine (f158_ok n o S.ok (t.l p) w S.cu).callD (fun b hb => by have := (hL b hb).1; omega) (fun b hb => by have := (hL b hb).2; simpa using this) ?_
  rintro v w' ⟨rfl, hc⟩ h'
  exact opI_in (k w' (S.step h' hc S.ok.one.1))
theorem okO.pair {o : Option (List Nat)} (h : okO o) : okO (pairO o).2 := (h.take 2).1
theorem in159 (S : HS w0 w n o t p) (hL : ∀ b ∈ L, b < w0.heap.size ∧ b ≠ n) {A : Addr} (hA : A = ⟨n, 0, none⟩) {K : Int → World → Prop} (k : ∀ w', HS w0 w' n (pairO o).2 t p → K ((pairO o).1 : Int) w') :
    CallW Try.prog L 159 #[.pointer (some A)] (fun v w' => opI .i64 v fun x => K x w') w := by
  subst hA
  have := S.size
  refine (f159_ok n o S.ok (t.l p) w S.cu).callD (fun b hb => by have := (hL b hb).1; omega) (fun b hb => by have := (hL b hb).2; simpa using this) ?_
  rintro v w' ⟨rfl, hc⟩ h'
  exact opI_in (k w' (S.step h' hc S.ok.pair))
theorem in217 (S : HS w0 w n o t p) {m : Nat} (hm : m ≤ 256) (hL : ∀ b ∈ L, b < w0.heap.size ∧ b ≠ n) {A : Addr} (hA : A = ⟨n, 0, none⟩) {K : Option Addr → Nat → Nat → World → Prop}
    (k : ∀ w' a c, HS w0 w' n (takeO o m).2 t p → RowAt w' a 1 b1 (takeO o m).1 → K a m c w') :
    CallW Try.prog L 217 #[.pointer (some A), .int .i64 m] (fun v w' => opL v fun a n c => K a n c w') w := by
  subst hA
  have := S.size
  refine (f217_ok n o (t.l p) m hm w S.cu).callD (fun b hb => by have := (hL b hb).1; omega) (fun b hb => by have := (hL b hb).2; simpa using this) ?_
  rintro v w' ⟨a, c, rfl, hr, hc, hcu⟩ h'
  exact opL_in (k w' a c (S.step h' hcu (S.ok.take m).1) hr)
theorem Md.old' {D E : List Nat} {w0 w w' : World} (h0 : Md E w0 w) (h : Md D w w') (hD : ∀ d ∈ D, w0.heap.size ≤ d) : Md E w0 w' :=
  ⟨h.os.trans h0.os, h.tape.trans h0.tape, h.output.trans h0.output, Nat.le_trans h0.size h.size,
    fun k hk hm => (h.blk k (Nat.lt_of_lt_of_le hk h0.size) fun hm => by have := hD k hm; omega).trans (h0.blk k hk hm)⟩
theorem HS.app_nm (S : HS w0 w n o t p) (x : ByteArray) (hl : t.nm.length + 1 ≤ 2 ^ 40) (hL : ∀ b ∈ L, b < w0.heap.size ∧ b ≠ n) {K : Value → World → Prop}
    (k : ∀ a' c' w', Wr w' ⟨n, 2 + 260, none⟩ 1 → HS w0 (setCells w' ⟨n, 2 + 260, none⟩ 0 [.slice a' (t.nm ++ [x]).length c']) n o ⟨t.c, t.dm, t.nx, t.tg, t.nm ++ [x]⟩ ⟨p.na, p.nc, p.ta, p.tc, a', c'⟩ → K (.slice a' (t.nm ++ [x]).length c') w') :
    RunW Try.prog L (Builtin.append_ #[55, 55] 55 #[.slice p.sa t.nm.length p.sc, .slice (some ⟨w.heap.size, 0, none⟩) 1 1]) K (w.alloc (.cells #[.string x] 9)) := by
  have hsz := S.size
  have hm1 : Md [] w (w.alloc (.cells #[.string x] 9)) := Md.alloc w _
  have h2 := OwnL.lit (P := Try.prog) (base := w.heap.size) encs1 w 9 [x] #[.string x] (Nat.le_refl _) (by simp [maxLen]) rfl
  have hsa : w.heap.size ≤ (w.alloc (.cells #[.string x] 9)).heap.size := hm1.size
  have S1 : HS w0 (w.alloc (.cells #[.string x] 9)) n o t p := S.step (hm1.mono (by simp)) (S.cu.mdN hm1 (by simp)) S.ok
  have hown := S.nm
  refine app_own rowT55 encs1 S1.nm h2 (Nat.le_trans hsz hsa) (fun b hb => by have := (hL b hb).1; omega) (fun b hb A hA => by have := (hown.lt hA).1; have := (hL b hb).1; omega) (by simp [maxLen] at hl ⊢; omega) (by simp at hl ⊢; omega) ?_
  intro a' c' w' ho hm hp
  have hDn : n ∉ (p.sa.map (·.block)).toList := by
    intro hmem
    cases hA : p.sa with
    | none => rw [hA] at hmem; simp at hmem
    | some A => rw [hA] at hmem; simp at hmem; have := (hown.lt hA).1; have := S.lt; omega
  have hcu : CuAt w' n o (t.l p) := S1.cu.mdN hm (fun d hd => by
    cases hA : p.sa with
    | none => rw [hA] at hd; simp at hd
    | some A => rw [hA] at hd; simp at hd; have := (hown.lt hA).1; have := S.lt; omega)
  obtain ⟨hset, hmd, hwr⟩ := hcu.setT (j := 260) (by rw [Tb.len S.f]; omega) (.slice a' (t.nm ++ [x]).length c')
  rw [Tb.set260 S.f] at hset
  refine k a' c' w' hwr ?_
  have hne : ∀ {α : Type} {e : TypeId} {enc : α → List Value} {a : Option Addr} {c : Nat} {l : List α}, OwnL (w.alloc (.cells #[.string x] 9)) w0.heap.size e 1 enc a c l → (∀ A B, p.sa = some A → a = some B → A.block ≠ B.block) → OwnL w' w0.heap.size e 1 enc a c l := by
    intro α e enc a c l ho hd
    refine ho.mdD hm fun B hB hmem => ?_
    cases hA : p.sa with
    | none => rw [hA] at hmem; simp at hmem
    | some A => rw [hA] at hmem; simp at hmem; exact hd A B hA hB hmem.symm
  have hprov : ∀ {α : Type} {e : TypeId} {enc : α → List Value} {a : Option Addr} {c : Nat} {l : List α}, OwnL w w0.heap.size e 1 enc a c l → (∀ A B, p.sa = some A → a = some B → A.block ≠ B.block) → ∀ A B, a' = some A → a = some B → A.block ≠ B.block := by
    intro α e enc a c l ho hd A B hA hB
    rcases hp A hA with h | h
    · exact hd A B h hB
    · have := (ho.lt hB).2; omega
  have hmd0 : Md [n] w0 w' := S1.md.old' hm (fun d hd => by
    cases hA : p.sa with
    | none => rw [hA] at hd; simp at hd
    | some A => rw [hA] at hd; simp at hd; have := (hown.lt hA).1; omega)
  exact ⟨hset, S.ok, S.f, (ho).mdD hmd (own_ne (ho) S.lt), (hne S1.tg S.d1).mdD hmd (own_ne (hne S1.tg S.d1) S.lt), (hne S1.nx S.d2).mdD hmd (own_ne (hne S1.nx S.d2) S.lt), hmd0.trans hmd, S.lt, hprov S.tg S.d1, hprov S.nx S.d2, S.d3⟩
theorem HS.app_tg (S : HS w0 w n o t p) (x : Int) (hl : t.tg.length + 1 ≤ 2 ^ 40) (hL : ∀ b ∈ L, b < w0.heap.size ∧ b ≠ n) {K : Value → World → Prop}
    (k : ∀ a' c' w', Wr w' ⟨n, 2 + 259, none⟩ 1 → HS w0 (setCells w' ⟨n, 2 + 259, none⟩ 0 [.slice a' (t.tg ++ [x]).length c']) n o ⟨t.c, t.dm, t.nx, t.tg ++ [x], t.nm⟩ ⟨p.na, p.nc, a', c', p.sa, p.sc⟩ → K (.slice a' (t.tg ++ [x]).length c') w') :
    RunW Try.prog L (Builtin.append_ #[52, 52] 52 #[.slice p.ta t.tg.length p.tc, .slice (some ⟨w.heap.size, 0, none⟩) 1 1]) K (w.alloc (.cells #[.int .i64 x] 3)) := by
  have hsz := S.size
  have hm1 : Md [] w (w.alloc (.cells #[.int .i64 x] 3)) := Md.alloc w _
  have h2 := OwnL.lit (P := Try.prog) (base := w.heap.size) enci1 w 3 [x] #[.int .i64 x] (Nat.le_refl _) (by simp [maxLen]) rfl
  have hsa : w.heap.size ≤ (w.alloc (.cells #[.int .i64 x] 3)).heap.size := hm1.size
  have S1 : HS w0 (w.alloc (.cells #[.int .i64 x] 3)) n o t p := S.step (hm1.mono (by simp)) (S.cu.mdN hm1 (by simp)) S.ok
  have hown := S.tg
  refine app_own rowT52 enci1 S1.tg h2 (Nat.le_trans hsz hsa) (fun b hb => by have := (hL b hb).1; omega) (fun b hb A hA => by have := (hown.lt hA).1; have := (hL b hb).1; omega) (by simp [maxLen] at hl ⊢; omega) (by simp at hl ⊢; omega) ?_
  intro a' c' w' ho hm hp
  have hDn : n ∉ (p.ta.map (·.block)).toList := by
    intro hmem
    cases hA : p.ta with
    | none => rw [hA] at hmem; simp at hmem
    | some A => rw [hA] at hmem; simp at hmem; have := (hown.lt hA).1; have := S.lt; omega
  have hcu : CuAt w' n o (t.l p) := S1.cu.mdN hm (fun d hd => by
    cases hA : p.ta with
    | none => rw [hA] at hd; simp at hd
    | some A => rw [hA] at hd; simp at hd; have := (hown.lt hA).1; have := S.lt; omega)
  obtain ⟨hset, hmd, hwr⟩ := hcu.setT (j := 259) (by rw [Tb.len S.f]; omega) (.slice a' (t.tg ++ [x]).length c')
  rw [Tb.set259 S.f] at hset
  refine k a' c' w' hwr ?_
  have hne : ∀ {α : Type} {e : TypeId} {enc : α → List Value} {a : Option Addr} {c : Nat} {l : List α}, OwnL (w.alloc (.cells #[.int .i64 x] 3)) w0.heap.size e 1 enc a c l → (∀ A B, p.ta = some A → a = some B → A.block ≠ B.block) → OwnL w' w0.heap.size e 1 enc a c l := by
    intro α e enc a c l ho hd
    refine ho.mdD hm fun B hB hmem => ?_
    cases hA : p.ta with
    | none => rw [hA] at hmem; simp at hmem
    | some A => rw [hA] at hmem; simp at hmem; exact hd A B hA hB hmem.symm
  have hprov : ∀ {α : Type} {e : TypeId} {enc : α → List Value} {a : Option Addr} {c : Nat} {l : List α}, OwnL w w0.heap.size e 1 enc a c l → (∀ A B, p.ta = some A → a = some B → A.block ≠ B.block) → ∀ A B, a' = some A → a = some B → A.block ≠ B.block := by
    intro α e enc a c l ho hd A B hA hB
    rcases hp A hA with h | h
    · exact hd A B h hB
    · have := (ho.lt hB).2; omega
  have hmd0 : Md [n] w0 w' := S1.md.old' hm (fun d hd => by
    cases hA : p.ta with
    | none => rw [hA] at hd; simp at hd
    | some A => rw [hA] at hd; simp at hd; have := (hown.lt hA).1; omega)
  exact ⟨hset, S.ok, S.f, (hne S1.nm (fun A B hA hB => Ne.symm (S.d1 B A hB hA))).mdD hmd (own_ne (hne S1.nm (fun A B hA hB => Ne.symm (S.d1 B A hB hA))) S.lt), (ho).mdD hmd (own_ne (ho) S.lt), (hne S1.nx S.d3).mdD hmd (own_ne (hne S1.nx S.d3) S.lt), hmd0.trans hmd, S.lt, (fun A B hA hB => Ne.symm (hprov S.nm (fun A B hA hB => Ne.symm (S.d1 B A hB hA)) B A hB hA)), S.d2, hprov S.nx S.d3⟩
theorem HS.app_nx (S : HS w0 w n o t p) (x : Int) (hl : t.nx.length + 1 ≤ 2 ^ 40) (hL : ∀ b ∈ L, b < w0.heap.size ∧ b ≠ n) {K : Value → World → Prop}
    (k : ∀ a' c' w', Wr w' ⟨n, 2 + 258, none⟩ 1 → HS w0 (setCells w' ⟨n, 2 + 258, none⟩ 0 [.slice a' (t.nx ++ [x]).length c']) n o ⟨t.c, t.dm, t.nx ++ [x], t.tg, t.nm⟩ ⟨a', c', p.ta, p.tc, p.sa, p.sc⟩ → K (.slice a' (t.nx ++ [x]).length c') w') :
    RunW Try.prog L (Builtin.append_ #[52, 52] 52 #[.slice p.na t.nx.length p.nc, .slice (some ⟨w.heap.size, 0, none⟩) 1 1]) K (w.alloc (.cells #[.int .i64 x] 3)) := by
  have hsz := S.size
  have hm1 : Md [] w (w.alloc (.cells #[.int .i64 x] 3)) := Md.alloc w _
  have h2 := OwnL.lit (P := Try.prog) (base := w.heap.size) enci1 w 3 [x] #[.int .i64 x] (Nat.le_refl _) (by simp [maxLen]) rfl
  have hsa : w.heap.size ≤ (w.alloc (.cells #[.int .i64 x] 3)).heap.size := hm1.size
  have S1 : HS w0 (w.alloc (.cells #[.int .i64 x] 3)) n o t p := S.step (hm1.mono (by simp)) (S.cu.mdN hm1 (by simp)) S.ok
  have hown := S.nx
  refine app_own rowT52 enci1 S1.nx h2 (Nat.le_trans hsz hsa) (fun b hb => by have := (hL b hb).1; omega) (fun b hb A hA => by have := (hown.lt hA).1; have := (hL b hb).1; omega) (by simp [maxLen] at hl ⊢; omega) (by simp at hl ⊢; omega) ?_
  intro a' c' w' ho hm hp
  have hDn : n ∉ (p.na.map (·.block)).toList := by
    intro hmem
    cases hA : p.na with
    | none => rw [hA] at hmem; simp at hmem
    | some A => rw [hA] at hmem; simp at hmem; have := (hown.lt hA).1; have := S.lt; omega
  have hcu : CuAt w' n o (t.l p) := S1.cu.mdN hm (fun d hd => by
    cases hA : p.na with
    | none => rw [hA] at hd; simp at hd
    | some A => rw [hA] at hd; simp at hd; have := (hown.lt hA).1; have := S.lt; omega)
  obtain ⟨hset, hmd, hwr⟩ := hcu.setT (j := 258) (by rw [Tb.len S.f]; omega) (.slice a' (t.nx ++ [x]).length c')
  rw [Tb.set258 S.f] at hset
  refine k a' c' w' hwr ?_
  have hne : ∀ {α : Type} {e : TypeId} {enc : α → List Value} {a : Option Addr} {c : Nat} {l : List α}, OwnL (w.alloc (.cells #[.int .i64 x] 3)) w0.heap.size e 1 enc a c l → (∀ A B, p.na = some A → a = some B → A.block ≠ B.block) → OwnL w' w0.heap.size e 1 enc a c l := by
    intro α e enc a c l ho hd
    refine ho.mdD hm fun B hB hmem => ?_
    cases hA : p.na with
    | none => rw [hA] at hmem; simp at hmem
    | some A => rw [hA] at hmem; simp at hmem; exact hd A B hA hB hmem.symm
  have hprov : ∀ {α : Type} {e : TypeId} {enc : α → List Value} {a : Option Addr} {c : Nat} {l : List α}, OwnL w w0.heap.size e 1 enc a c l → (∀ A B, p.na = some A → a = some B → A.block ≠ B.block) → ∀ A B, a' = some A → a = some B → A.block ≠ B.block := by
    intro α e enc a c l ho hd A B hA hB
    rcases hp A hA with h | h
    · exact hd A B h hB
    · have := (ho.lt hB).2; omega
  have hmd0 : Md [n] w0 w' := S1.md.old' hm (fun d hd => by
    cases hA : p.na with
    | none => rw [hA] at hd; simp at hd
    | some A => rw [hA] at hd; simp at hd; have := (hown.lt hA).1; omega)
  exact ⟨hset, S.ok, S.f, (hne S1.nm (fun A B hA hB => Ne.symm (S.d2 B A hB hA))).mdD hmd (own_ne (hne S1.nm (fun A B hA hB => Ne.symm (S.d2 B A hB hA))) S.lt), (hne S1.tg (fun A B hA hB => Ne.symm (S.d3 B A hB hA))).mdD hmd (own_ne (hne S1.tg (fun A B hA hB => Ne.symm (S.d3 B A hB hA))) S.lt), (ho).mdD hmd (own_ne (ho) S.lt), hmd0.trans hmd, S.lt, S.d1, (fun A B hA hB => Ne.symm (hprov S.nm (fun A B hA hB => Ne.symm (S.d2 B A hB hA)) B A hB hA)), (fun A B hA hB => Ne.symm (hprov S.tg (fun A B hA hB => Ne.symm (S.d3 B A hB hA)) B A hB hA))⟩
theorem HS.set257 (S : HS w0 w n o t p) (d : Int) : HS w0 (setCells w ⟨n, 2 + 257, none⟩ 0 [.int .i64 d]) n o ⟨t.c, d, t.nx, t.tg, t.nm⟩ p ∧ Wr w ⟨n, 2 + 257, none⟩ 1 := by
  obtain ⟨hset, hm, hwr⟩ := S.cu.setT (j := 257) (by rw [Tb.len S.f]; omega) (.int .i64 d)
  rw [Tb.set257 S.f] at hset
  exact ⟨⟨hset, S.ok, S.f, S.nm.mdD hm (own_ne S.nm S.lt), S.tg.mdD hm (own_ne S.tg S.lt), S.nx.mdD hm (own_ne S.nx S.lt), S.md.trans hm, S.lt, S.d1, S.d2, S.d3⟩, hwr⟩
theorem HS.set256 (S : HS w0 w n o t p) (d : Int) : HS w0 (setCells w ⟨n, 2 + 256, none⟩ 0 [.int .i64 d]) n o ⟨⟨t.c.f, d⟩, t.dm, t.nx, t.tg, t.nm⟩ p ∧ Wr w ⟨n, 2 + 256, none⟩ 1 := by
  obtain ⟨hset, hm, hwr⟩ := S.cu.setT (j := 256) (by rw [Tb.len S.f]; omega) (.int .i64 d)
  rw [Tb.set256 S.f] at hset
  exact ⟨⟨hset, S.ok, S.f, S.nm.mdD hm (own_ne S.nm S.lt), S.tg.mdD hm (own_ne S.tg S.lt), S.nx.mdD hm (own_ne S.nx S.lt), S.md.trans hm, S.lt, S.d1, S.d2, S.d3⟩, hwr⟩
theorem HS.off (S : HS w0 w n o t p) (m x : Bool) (hx : x = (bif o.isNone then true else !m)) : HS w0 (setCells w ⟨n, 1, none⟩ 0 [.bool x]) n (if m = true then o else none) t p ∧ Wr w ⟨n, 1, none⟩ 1 := by
  obtain ⟨hset, hm, hwr⟩ := S.cu.setOff m x hx
  exact ⟨S.step hm hset (by cases m; exact fun r hr => (by cases hr); exact S.ok), hwr⟩
theorem Md_setRow {w : World} {n : Nat} (cs : Array Value) : Md [n] w (w.setRow n cs) :=
  ⟨rfl, rfl, rfl, by simp [World.setRow], fun k hk hm => setRow_other w n k cs (by simpa using hm)⟩
theorem HS.copyF (S : HS w0 w n o t p) {g : List Nat} (hg : g.length = 256) {a : Option Addr} {c : Nat} (hr : RowAt w a 1 b1 g) :
    ∃ w', (Builtin.copy_ #[51, 51] 3 #[.slice (some ⟨n, 2, none⟩) 256 256, .slice a 256 c]).run Try.prog w = .ok (.int .i64 256) w' ∧ HS w0 w' n o ⟨⟨g, t.c.m⟩, t.dm, t.nx, t.tg, t.nm⟩ p := by
  obtain ⟨A, hA, _⟩ := hr 0 (g[0]'(by omega)) (List.getElem?_eq_getElem (by omega))
  subst hA
  obtain ⟨r, off, ca, cc, ho, hb, hrr, hc, ha⟩ := S.cu
  have hs5 : (Try.prog.info? 5).map (·.size) = some 1 := by kernel_rfl
  have hl : (g.flatMap b1).length = 256 := by rw [encb1.lenL, hg]
  have h := run_copy_row (P := Try.prog) w 51 51 3 5 n 2 256 256 A 256 c _ 209 (g.flatMap b1) (by kernel_rfl) hs5 hb (by rw [hl]; rfl) (by
    intro j v hv
    have hj : j < g.length := by have := (List.getElem?_eq_some_iff.1 hv).1; omega
    obtain ⟨B, hB, hcl⟩ := hr j g[j] (List.getElem?_eq_getElem hj)
    cases hB
    have := encb1.at g j 0 g[j] (List.getElem?_eq_getElem hj) (by omega)
    rw [Nat.mul_one, Nat.add_zero] at this
    rw [this] at hv
    have := hcl 0 v hv
    rw [addr_add0, Nat.mul_one] at this
    exact this) (by rw [hl]; simp [Tb.len S.f]) (fun v hv => encb1.oneL g v hv)
  rw [hl] at h
  refine ⟨_, h, ?_⟩
  have hm : Md [n] w (w.setRow n (List.toArray (((Value.slice ca r.length cc :: Value.bool off :: t.l p).toArray.toList.take 2) ++ g.flatMap b1 ++ ((Value.slice ca r.length cc :: Value.bool off :: t.l p).toArray.toList.drop (2 + 256))))) := Md_setRow _
  refine ⟨⟨r, off, ca, cc, ho, ?_, hrr.mdE hm fun A hA hne => by have := ha A hA hne; simp; omega, hc, ha⟩, S.ok, hg, S.nm.mdD hm (own_ne S.nm S.lt), S.tg.mdD hm (own_ne S.tg S.lt), S.nx.mdD hm (own_ne S.nx S.lt), S.md.trans hm, S.lt, S.d1, S.d2, S.d3⟩
  have := setRow_heap w n _ (List.toArray (((Value.slice ca r.length cc :: Value.bool off :: t.l p).toArray.toList.take 2) ++ g.flatMap b1 ++ ((Value.slice ca r.length cc :: Value.bool off :: t.l p).toArray.toList.drop (2 + 256)))) 209 (0, 0) hb
  unfold Blk
  rw [this, ← Tb.setF S.f g hg]
  congr 3
end
theorem slice_arr (w : World) (A : Addr) : (Instr.sliceAt 23 (.pointer (some A)) none none none).run Try.prog w = .ok (.slice (some A) 256 256) w := by
  have e1 : Try.prog.elem 23 = 5 := by kernel_rfl
  have e2 : Try.prog.arrayLen 23 = 256 := by kernel_rfl
  rw [run_sliceAt_array_all w 23 A (by kernel_rfl), e1, e2, size5]
  simp [Result.andThen, slicedAt, addr_add0]
/-! ### The head -/
def hd1 (o : Option (List Nat)) : Bool × Option (List Nat) :=
  if (oneO o).1 = 70 then (if (oneO (oneO o).2).1 = 84 then (decide ((oneO (oneO (oneO o).2).2).1 = 1), (oneO (oneO (oneO o).2).2).2) else (false, (oneO (oneO o).2).2)) else (false, (oneO o).2)
def hdOff (o : Option (List Nat)) : Option (List Nat) := if (hd1 o).1 = true then (hd1 o).2 else none
def hdM (o : Option (List Nat)) : Nat × Option (List Nat) := oneO (hdOff o)
def hdS (o : Option (List Nat)) : Nat × Option (List Nat) := pairO (hdM o).2
def hdC (o : Option (List Nat)) : Nat × Option (List Nat) := oneO (hdS o).2
def nmsO : Nat → Option (List Nat) → List ByteArray → List ByteArray × Option (List Nat)
  | 0, o, acc => (acc, o)
  | k + 1, o, acc => nmsO k (takeO (oneO o).2 (oneO o).1).2 (acc ++ [bytesOf (takeO (oneO o).2 (oneO o).1).1])
def hdN (o : Option (List Nat)) : List ByteArray × Option (List Nat) := nmsO (hdC o).1 (hdC o).2 []
def hdF (o : Option (List Nat)) : List Nat × Option (List Nat) := takeO (hdN o).2 256
def zT : Tb := ⟨zCl 0, 0, [], [], []⟩
def zP : TbS := ⟨none, 0, none, 0, none, 0⟩
theorem f157_ok (n : Nat) (b : Option (List Nat)) (hb : okO b) (w : World) (hcu : CuAt w n b (zT.l zP)) (hlt : n < w.heap.size) :
    Ct Try.prog 157 #[.pointer (some ⟨n, 0, none⟩)] w fun v w' => (∃ p', v = .int .i64 (hdS b).1 ∧ HS w w' n (hdF b).2 ⟨⟨(hdF b).1, ((hdM b).1 + 1 : Nat)⟩, ((hdM b).1 + 1 : Nat), [], [], (hdN b).1⟩ p') ∧ Md [n] w w' := by
  apply f157_in
  have S : HS w w n b zT zP := ⟨hcu, hb, rfl, OwnL.nil .., OwnL.nil .., OwnL.nil .., Md.refl _ _, hlt, fun A B h => (by cases h), fun A B h => (by cases h), fun A B h => (by cases h)⟩
  refine in158 S (by simp) rfl fun w3 S3 => ?_
  refine Bd_in fun b5 hb5 => ⟨fun _ => rfl, Bd_in fun A7 hA7 => ?_⟩
  obtain rfl : A7 = ⟨n, 0, none⟩ := hA7
  have e5 : b5 = decide ((oneO b).1 = 70) := by rw [hb5, Bool.eq_iff_iff]; simp; omega
  refine Gd_to (fun x w' => ∃ o', HS w w' n o' zT zP ∧ (b5 = true → x = ((oneO (oneO b).2).1 : Int) ∧ o' = (oneO (oneO b).2).2) ∧ (b5 = false → o' = (oneO b).2)) (fun x12 w13 hJ => ?_)
    (fun fin hc => in158 S3 (by simp) rfl fun w' S' => fin _ _ ⟨_, S', fun _ => ⟨rfl, rfl⟩, fun h => by rw [h] at hc; cases hc⟩) (fun hc => ⟨_, S3, fun h => (by rw [h] at hc; cases hc), fun _ => rfl⟩)
  obtain ⟨o2, S13, h13, h13'⟩ := hJ
  refine Bd_in fun b14 hb14 => Bd_in fun b15 hb15 => ⟨fun _ => rfl, Bd_in fun A17 hA17 => ?_⟩
  obtain rfl : A17 = ⟨n, 0, none⟩ := hA17
  refine Gd_to (fun x w' => ∃ o', HS w w' n o' zT zP ∧ (b15 = true → x = ((oneO o2).1 : Int) ∧ o' = (oneO o2).2) ∧ (b15 = false → o' = o2)) (fun x22 w23 hJ => ?_)
    (fun fin hc => in158 S13 (by simp) rfl fun w' S' => fin _ _ ⟨_, S', fun _ => ⟨rfl, rfl⟩, fun h => by rw [h] at hc; cases hc⟩) (fun hc => ⟨_, S13, fun h => (by rw [h] at hc; cases hc), fun _ => rfl⟩)
  obtain ⟨o3, S23, h23, h23'⟩ := hJ
  refine Bd_in fun b24 hb24 => Bd_in fun b25 hb25 => ?_
  have e25 : (b25, o3) = hd1 b := by
    unfold hd1
    by_cases h70 : (oneO b).1 = 70
    · have c5 : b5 = true := by rw [e5]; simpa using h70
      obtain ⟨hx12, rfl⟩ := h13 c5
      rw [if_pos h70]
      by_cases h84 : (oneO (oneO b).2).1 = 84
      · have c15 : b15 = true := by rw [hb15, c5, hb14, hx12, h84]; rfl
        obtain ⟨hx22, rfl⟩ := h23 c15
        rw [if_pos h84, hb25, c15, hb24, hx22]
        congr 1
        rw [Bool.eq_iff_iff]; simp; omega
      · have c15 : b15 = false := by rw [hb15, c5, hb14, hx12]; simp; omega
        rw [if_neg h84, hb25, c15, h23' c15]; rfl
    · have c5 : b5 = false := by rw [e5]; simpa using h70
      have c15 : b15 = false := by rw [hb15, c5]; rfl
      rw [if_neg h70, hb25, c15, h23' c15, h13' c5]; rfl
  have eoff : (if b25 = true then o3 else none) = hdOff b := by unfold hdOff; rw [← e25]
  refine Ld_in S23.cu.offC <| opB_in <| Bd_in fun b29 hb29 => Bd_in fun b30 hb30 => ?_
  obtain ⟨S23', hwr⟩ := S23.off b25 b30 (by rw [hb30, hb29])
  rw [eoff] at S23'
  refine ⟨by simp, hwr, ?_⟩
  refine in158 S23' (by simp) rfl fun w34 S34 => ?_
  refine Bd_in fun x36 hx36 => ?_
  have hM := S23'.ok.one.2
  have e36 : x36 = (((hdM b).1 + 1 : Nat) : Int) := by rw [hx36]; unfold hdM; rw [IntKind.wrap_i64]; omega
  clear hx36
  subst e36
  obtain ⟨S34', hwr34⟩ := S34.set257 (((hdM b).1 + 1 : Nat) : Int)
  refine ⟨by simp, hwr34, ?_⟩
  refine in159 S34' (by simp) rfl fun w40 S40 => ?_
  refine in158 S40 (by simp) rfl fun w44 S44 => ?_
  have hC : (hdC b).1 < 256 := S40.ok.one.2
  refine LoopP_in (fun m us vs w' => ∃ (i : Nat) (o' : Option (List Nat)) (nm : List ByteArray) (p' : TbS), us = [.int .i64 i] ∧ vs = [] ∧ m = (hdC b).1 - i ∧ i ≤ (hdC b).1 ∧ nm.length = i ∧ HS w w' n o' ⟨zCl 0, ((hdM b).1 + 1 : Nat), [], [], nm⟩ p' ∧ hdN b = nmsO ((hdC b).1 - i) o' nm) (hdC b).1
    ⟨0, _, [], zP, rfl, rfl, rfl, by omega, rfl, S44, rfl⟩ ?_
  rintro m us vs w49 ⟨i, o', nm, p', rfl, rfl, rfl, hi, hnl, S49, hN⟩
  refine opI_in <| Bd_in fun b51 hb51 => If_in (fun h => ?_) fun h => ?_
  · subst hb51
    have hi' : i < (hdC b).1 := by
      have : (i : Int) < ((hdC b).1 : Int) := of_decide_eq_true h
      omega
    have hm1 : (oneO o').1 ≤ 256 := by have := S49.ok.one.2; omega
    have hstep : hdN b = nmsO ((hdC b).1 - (i + 1)) (takeO (oneO o').2 (oneO o').1).2 (nm ++ [bytesOf (takeO (oneO o').2 (oneO o').1).1]) := by
      rw [hN, show (hdC b).1 - i = ((hdC b).1 - (i + 1)) + 1 by omega]; rfl
    have hlt1 := (S49.ok.one.1.take (oneO o').1).2
    have hx78 : ∀ x : Int, x = IntKind.wrap .i64 ((i : Int) + 1) → x = ((i + 1 : Nat) : Int) := by
      intro x hx; rw [hx, inc_i64 (by omega)]
    have S49d := S49.drew
    refine ⟨?_, ?_⟩
    · refine Ld_in (S49d.cu.cellT (Tb.at260 S49d.f)) <| opL_in ?_
      refine in158 S49d (by simp) rfl fun w60 S60 => ?_
      refine in217 S60 hm1 (by simp) rfl fun w5 a c S5 hrow => ?_
      refine RunW_in0 (conv_row hrow hlt1 _ _ (takeO_len _ _)) <| opStr_in ?_
      intro nb wb e1 e2
      subst e1; subst e2
      refine S5.app_nm _ (by simp only; omega) (by simp) fun a' c' w6 hwr S6 => opL_in ⟨by simp, hwr, Bd_in fun x hx => ?_⟩
      rw [hx78 x hx]
      exact ⟨(hdC b).1 - (i + 1), by omega, i + 1, _, _, _, rfl, rfl, rfl, by omega, by simp [hnl], S6, hstep⟩
    · refine in158 S49d (by simp) rfl fun w60 S60 => ⟨?_, ?_⟩
      · refine Ld_in (S60.cu.cellT (Tb.at260 S60.f)) <| opL_in ?_
        refine in217 S60 hm1 (by simp) rfl fun w5 a c S5 hrow => ?_
        refine RunW_in0 (conv_row hrow hlt1 _ _ (takeO_len _ _)) <| opStr_in ?_
        intro nb wb e1 e2
        subst e1; subst e2
        refine S5.app_nm _ (by simp only; omega) (by simp) fun a' c' w6 hwr S6 => opL_in ⟨by simp, hwr, Bd_in fun x hx => ?_⟩
        rw [hx78 x hx]
        exact ⟨(hdC b).1 - (i + 1), by omega, i + 1, _, _, _, rfl, rfl, rfl, by omega, by simp [hnl], S6, hstep⟩
      · refine in217 S60 hm1 (by simp) rfl fun w5 a c S5 hrow => ⟨?_, ?_⟩
        · refine Ld_in (S5.cu.cellT (Tb.at260 S5.f)) <| opL_in ?_
          refine RunW_in0 (conv_row hrow hlt1 _ _ (takeO_len _ _)) <| opStr_in ?_
          intro nb wb e1 e2
          subst e1; subst e2
          refine S5.app_nm _ (by simp only; omega) (by simp) fun a' c' w6 hwr S6 => opL_in ⟨by simp, hwr, Bd_in fun x hx => ?_⟩
          rw [hx78 x hx]
          exact ⟨(hdC b).1 - (i + 1), by omega, i + 1, _, _, _, rfl, rfl, rfl, by omega, by simp [hnl], S6, hstep⟩
        · refine RunW_in0 (conv_row hrow hlt1 _ _ (takeO_len _ _)) <| opStr_in ⟨?_, ?_⟩
          · refine Ld_in (S5.cu.cellT (Tb.at260 S5.f)) <| opL_in ?_
            intro nb wb e1 e2
            subst e1; subst e2
            refine S5.app_nm _ (by simp only; omega) (by simp) fun a' c' w6 hwr S6 => opL_in ⟨by simp, hwr, Bd_in fun x hx => ?_⟩
            rw [hx78 x hx]
            exact ⟨(hdC b).1 - (i + 1), by omega, i + 1, _, _, _, rfl, rfl, rfl, by omega, by simp [hnl], S6, hstep⟩
          · intro nb wb e1 e2
            subst e1; subst e2
            have hma : Md [] w5 (w5.alloc (.cells #[.string (bytesOf (takeO (oneO o').2 (oneO o').1).1)] 9)) := Md.alloc w5 _
            have S5a := S5.step (hma.mono (by simp)) (S5.cu.mdN hma (by simp)) S5.ok
            refine Ld_in (S5a.cu.cellT (Tb.at260 S5a.f)) <| opL_in ?_
            refine S5.app_nm _ (by simp only; omega) (by simp) fun a' c' w6 hwr S6 => opL_in ⟨by simp, hwr, Bd_in fun x hx => ?_⟩
            rw [hx78 x hx]
            exact ⟨(hdC b).1 - (i + 1), by omega, i + 1, _, _, _, rfl, rfl, rfl, by omega, by simp [hnl], S6, hstep⟩
  · subst hb51
    have hi' : i = (hdC b).1 := by
      have : ¬ (i : Int) < ((hdC b).1 : Int) := of_decide_eq_false h
      omega
    have hNe : hdN b = (nm, o') := by rw [hN, hi', Nat.sub_self]; rfl
    have hF : hdF b = takeO o' 256 := by unfold hdF; rw [hNe]
    have hlen := takeO_len o' 256
    have S49d := S49.drew
    have hNn : (hdN b).1 = nm := by rw [hNe]
    rw [hNn, hF]
    refine ⟨?_, ?_⟩
    · refine RunW_in0 (slice_arr _ _) <| opL_in ?_
      refine in217 S49d (m := 256) (by omega) (by simp) rfl fun w5 a c S5 hrow => ?_
      obtain ⟨w6, hrun, S6⟩ := S5.copyF hlen (c := c) hrow
      refine RunW_in hrun (fun b hb => by simp at hb) <| opI_in <| Ld_in (S6.cu.cellT (Tb.at257 S6.f)) <| opI_in ?_
      obtain ⟨S7, hwr7⟩ := S6.set256 (((hdM b).1 + 1 : Nat) : Int)
      exact ⟨by simp, hwr7, ⟨p', rfl, S7⟩, S7.md⟩
    · refine in217 S49d (m := 256) (by omega) (by simp) rfl fun w5 a c S5 hrow => ?_
      refine RunW_in0 (slice_arr _ _) <| opL_in ?_
      obtain ⟨w6, hrun, S6⟩ := S5.copyF hlen (c := c) hrow
      refine RunW_in hrun (fun b hb => by simp at hb) <| opI_in <| Ld_in (S6.cu.cellT (Tb.at257 S6.f)) <| opI_in ?_
      obtain ⟨S7, hwr7⟩ := S6.set256 (((hdM b).1 + 1 : Nat) : Int)
      exact ⟨by simp, hwr7, ⟨p', rfl, S7⟩, S7.md⟩
end Fk
