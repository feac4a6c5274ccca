/- Rows of one's own: one is appended to, others stay. -/
import Derived.Test.YtpgjpgecgibklaaT7
import Derived.Test.YtpgjpgecgibklaaC25
set_option linter.unusedVariables false
set_option linter.unusedSimpArgs false
namespace Fk
open Go Go.Proofs Go.RowKit
/-- Two rows stand in blocks of their own. -/
def Apt (a b : Option Addr) : Prop := ∀ A B, a = some A → b = some B → A.block ≠ B.block
theorem Apt.symm {a b : Option Addr} (h : Apt a b) : Apt b a := fun A B hA hB e => h B A hB hA e.symm
/-- What stays when another row is appended to. -/
theorem own_keep {α : Type} {w w' : World} {base : Nat} {e : TypeId} {size : Nat} {enc : α → List Value} {a a' b : Option Addr} {c : Nat} {l : List α} (h : OwnL w base e size enc b c l)
    (hm : Md (a.map (·.block)).toList w w') (hA : ∀ A, a' = some A → a = some A ∨ w.heap.size ≤ A.block) (hd : Apt a b) : OwnL w' base e size enc b c l ∧ Apt a' b := by
  constructor
  · refine h.mdD hm fun B hB hmem => ?_
    cases a with
    | none => simp at hmem
    | some A => simp at hmem; exact hd A B rfl hB hmem.symm
  · intro A B hA' hB
    rcases hA A hA' with h1 | h1
    · exact hd A B h1 hB
    · have := (h.lt hB).2; omega
theorem md_app {α : Type} {w0 w w' : World} {base : Nat} {e : TypeId} {size : Nat} {enc : α → List Value} {a : Option Addr} {c : Nat} {l : List α} {D : List Nat} (h : OwnL w base e size enc a c l)
    (hm : Md (a.map (·.block)).toList w w') (h0 : w0.heap.size ≤ base) (hmd : Md D w0 w) : Md D w0 w' :=
  hmd.old' hm fun d hd => by
    cases a with
    | none => simp at hd
    | some A => simp at hd; have := (h.lt rfl).1; omega
section
variable {base : Nat} {w : World} {t : Tb} {p : TbS} {L : List Nat}
theorem TbF.app_nm (S : TbF base w t p) (hb : base ≤ w.heap.size) (x : ByteArray) (hx : x.size < 2 ^ 40) (hl : t.nm.length + 1 < 2 ^ 40) (hL : ∀ b ∈ L, b < base) {K : Value → World → Prop}
    (k : ∀ a' c' w', TbF base w' ⟨t.c, t.dm, t.nx, t.tg, t.nm ++ [x]⟩ ⟨p.na, p.nc, p.ta, p.tc, a', c'⟩ → (∀ w0, w0.heap.size ≤ base → Md [] w0 w → Md [] w0 w') → w.heap.size ≤ w'.heap.size → K (.slice a' (t.nm ++ [x]).length c') w') :
    Nw (.cells #[.string x] 9) w fun b w' => RunW Try.prog L (Builtin.append_ #[55, 55] 55 #[.slice p.sa t.nm.length p.sc, .slice (some { block := b, off := 0 }) 1 1]) K w' := by
  refine app_one rowT55 encs1 x rfl S.nm hb (fun b hbL => by have := hL b hbL; omega) (fun b hbL A hA e => by have := (S.nm.lt hA).1; have := hL b hbL; omega) (by simp [maxLen] at hl ⊢; omega) (by simp at hl ⊢; omega) ?_
  intro a' c' w' ho hm hA
  obtain ⟨k1, d1⟩ := own_keep S.tg hm hA S.d1
  obtain ⟨k2, d2⟩ := own_keep S.nx hm hA S.d2
  refine k a' c' w' ⟨S.ok, ho, k1, k2, by simp; omega, S.tgl, S.nxl, ?_, d1, d2, S.d3⟩ (fun w0 h0 hmd => md_app S.nm hm h0 hmd) hm.size
  intro s hs
  rcases List.mem_append.1 hs with h | h
  · exact S.nsz s h
  · simp at h; subst h; exact hx
theorem TbF.app_tg (S : TbF base w t p) (hb : base ≤ w.heap.size) (x : Int) (hl : t.tg.length + 1 < 2 ^ 40) (hL : ∀ b ∈ L, b < base) {K : Value → World → Prop}
    (k : ∀ a' c' w', TbF base w' ⟨t.c, t.dm, t.nx, t.tg ++ [x], t.nm⟩ ⟨p.na, p.nc, a', c', p.sa, p.sc⟩ → (∀ w0, w0.heap.size ≤ base → Md [] w0 w → Md [] w0 w') → w.heap.size ≤ w'.heap.size → K (.slice a' (t.tg ++ [x]).length c') w') :
    Nw (.cells #[.int .i64 x] 3) w fun b w' => RunW Try.prog L (Builtin.append_ #[52, 52] 52 #[.slice p.ta t.tg.length p.tc, .slice (some { block := b, off := 0 }) 1 1]) K w' := by
  refine app_one rowT52 enci1 x rfl S.tg hb (fun b hbL => by have := hL b hbL; omega) (fun b hbL A hA e => by have := (S.tg.lt hA).1; have := hL b hbL; omega) (by simp [maxLen] at hl ⊢; omega) (by simp at hl ⊢; omega) ?_
  intro a' c' w' ho hm hA
  obtain ⟨k1, d1⟩ := own_keep S.nm hm hA (fun A B h1 h2 e => S.d1 B A h2 h1 e.symm)
  obtain ⟨k2, d2⟩ := own_keep S.nx hm hA S.d3
  exact k a' c' w' ⟨S.ok, k1, ho, k2, S.nml, by simp; omega, S.nxl, S.nsz, d1.symm, S.d2, d2⟩ (fun w0 h0 hmd => md_app S.tg hm h0 hmd) hm.size
theorem TbF.app_nx (S : TbF base w t p) (hb : base ≤ w.heap.size) (x : Int) (hl : t.nx.length + 1 < 2 ^ 40) (hL : ∀ b ∈ L, b < base) {K : Value → World → Prop}
    (k : ∀ a' c' w', TbF base w' ⟨t.c, t.dm, t.nx ++ [x], t.tg, t.nm⟩ ⟨a', c', p.ta, p.tc, p.sa, p.sc⟩ → (∀ w0, w0.heap.size ≤ base → Md [] w0 w → Md [] w0 w') → w.heap.size ≤ w'.heap.size → K (.slice a' (t.nx ++ [x]).length c') w') :
    Nw (.cells #[.int .i64 x] 3) w fun b w' => RunW Try.prog L (Builtin.append_ #[52, 52] 52 #[.slice p.na t.nx.length p.nc, .slice (some { block := b, off := 0 }) 1 1]) K w' := by
  refine app_one rowT52 enci1 x rfl S.nx hb (fun b hbL => by have := hL b hbL; omega) (fun b hbL A hA e => by have := (S.nx.lt hA).1; have := hL b hbL; omega) (by simp [maxLen] at hl ⊢; omega) (by simp at hl ⊢; omega) ?_
  intro a' c' w' ho hm hA
  obtain ⟨k1, d1⟩ := own_keep S.nm hm hA (fun A B h1 h2 e => S.d2 B A h2 h1 e.symm)
  obtain ⟨k2, d2⟩ := own_keep S.tg hm hA (fun A B h1 h2 e => S.d3 B A h2 h1 e.symm)
  exact k a' c' w' ⟨S.ok, k1, k2, ho, S.nml, S.tgl, by simp; omega, S.nsz, S.d1, d1.symm, d2.symm⟩ (fun w0 h0 hmd => md_app S.nx hm h0 hmd) hm.size
end
theorem wrL_one (l : List Value) (o : Nat) (v : Value) (h : o < l.length) : wrL l o [v] = l.set o v := by
  unfold wrL
  rw [List.set_eq_take_append_cons_drop, if_pos h]; rfl
theorem Tb.setB {t : Tb} {p : TbS} {i : Nat} (hf : t.c.f.length = 256) (hi : i < 256) (x : Nat) : (t.l p).set i (.int .u8 (x : Int)) = Tb.l ⟨⟨t.c.f.set i x, t.c.m⟩, t.dm, t.nx, t.tg, t.nm⟩ p := by
  simp [Tb.l, Tb.d, Cl.l, List.set_append, hf, hi, Nat.lt_succ_of_lt hi, List.map_set]
theorem zeroL57 : zeroL Try.prog 57 = zT.l zP := by kernel_rfl
end Fk
