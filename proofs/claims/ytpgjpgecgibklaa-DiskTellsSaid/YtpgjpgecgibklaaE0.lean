/- Disks in memory: what they are, and their small contracts. -/
import Derived.Test.YtpgjpgecgibklaaT9
import Derived.Test.YtpgjpgecgibklaaV7
set_option linter.unusedVariables false
set_option linter.unusedSimpArgs false
set_option maxRecDepth 100000
namespace Fk
open Go Go.Proofs Go.RowKit
/-- A block's bytes. -/
def Bk := { l : List Nat // l.length = 64 ∧ ∀ x ∈ l, x < 256 }
def zBk : Bk := ⟨List.replicate 64 0, by simp, by intro x hx; have := List.eq_of_mem_replicate hx; omega⟩
def blE (b : Bk) : List Value := b.1.flatMap b1
structure Wt where
  i : Nat
  now : Bk
  was : Bk
def wtE (x : Wt) : List Value := .int .i64 (x.i : Int) :: (blE x.now ++ blE x.was)
theorem blE_len (b : Bk) : (blE b).length = 64 := by unfold blE; rw [encb1.lenL, b.2.1]
theorem encBl : Enc 64 blE := ⟨blE_len, fun b v hv => encb1.oneL b.1 v hv⟩
theorem encWt : Enc 129 wtE := ⟨fun x => by simp [wtE, blE_len], fun x v hv => by
  unfold wtE at hv
  rcases List.mem_cons.1 hv with rfl | hv
  · rfl
  · rcases List.mem_append.1 hv with h | h
    · exact encBl.one _ v h
    · exact encBl.one _ v h⟩
theorem rowT153 : RowT Try.prog 153 254 129 136 := RowT.of (by kernel_rfl) (by kernel_rfl) (by kernel_rfl) (by omega)
/-- A disk. -/
structure Dk where
  bl : List Bk
  pd : List Wt
  rf : Int
structure DkS where
  a : Option Addr
  c : Nat
  pa : Option Addr
  pc : Nat
structure DkAt (w : World) (n : Nat) (p : DkS) (d : Dk) : Prop where
  blk : Blk w n 155 [.slice p.a d.bl.length p.c, .slice p.pa d.pd.length p.pc, .int .i64 d.rf]
  bl : OwnL w 0 252 64 blE p.a p.c d.bl
  pd : OwnL w 0 254 129 wtE p.pa p.pc d.pd
  isD : p.a.isSome = true
  d1 : ∀ A, p.a = some A → A.block ≠ n
  d2 : ∀ A, p.pa = some A → A.block ≠ n
  d3 : Apt p.a p.pa
  len : d.bl.length ≤ 65536
  ix : ∀ x ∈ d.pd, x.i < d.bl.length
  rf0 : 0 ≤ d.rf ∧ d.rf ≤ 9223372036854775807
def fp (n : Nat) (p : DkS) : List Nat := n :: ((p.a.map (·.block)).toList ++ (p.pa.map (·.block)).toList)
/-- A disk, and the blocks of memory where it stands. -/
def Dsk (w : World) (n : Nat) (d : Dk) (F : List Nat) : Prop := ∃ p, DkAt w n p d ∧ F = fp n p
/-- Blocks of memory are no others, or new ones. -/
def Fr (w : World) (F F' : List Nat) : Prop := ∀ b ∈ F', b ∈ F ∨ w.heap.size ≤ b
theorem Fr.refl (w : World) (F : List Nat) : Fr w F F := fun _ h => .inl h
theorem Fr.trans {w w' : World} {F F' F'' : List Nat} (h : Fr w F F') (h2 : Fr w' F' F'') (hs : w.heap.size ≤ w'.heap.size) : Fr w F F'' := fun b hb => by
  rcases h2 b hb with h1 | h1
  · exact h b h1
  · exact .inr (by omega)
section
variable {w w' : World} {n : Nat} {p : DkS} {d : Dk} {F : List Nat}
theorem DkAt.md {D : List Nat} (h : DkAt w n p d) (hm : Md D w w') (hD : ∀ b ∈ fp n p, b ∉ D) : DkAt w' n p d := by
  refine ⟨h.blk.md hm (hD n (by simp [fp])), h.bl.mdD hm fun A hA => hD _ (by simp [fp, hA]), h.pd.mdD hm fun A hA => hD _ (by simp [fp, hA]), h.isD, h.d1, h.d2, h.d3, h.len, h.ix, h.rf0⟩
theorem DkAt.lt (h : DkAt w n p d) : ∀ b ∈ fp n p, b < w.heap.size := by
  intro b hb
  simp only [fp, List.mem_cons, List.mem_append] at hb
  rcases hb with rfl | hb | hb
  · exact h.blk.lt
  · obtain ⟨A, hA, rfl⟩ : ∃ A, p.a = some A ∧ A.block = b := by cases ha : p.a with | none => rw [ha] at hb; simp at hb | some A => rw [ha] at hb; simp at hb; exact ⟨A, rfl, hb.symm⟩
    exact (h.bl.lt hA).2
  · obtain ⟨A, hA, rfl⟩ : ∃ A, p.pa = some A ∧ A.block = b := by cases ha : p.pa with | none => rw [ha] at hb; simp at hb | some A => rw [ha] at hb; simp at hb; exact ⟨A, rfl, hb.symm⟩
    exact (h.pd.lt hA).2
theorem Dsk.md {D : List Nat} (h : Dsk w n d F) (hm : Md D w w') (hD : ∀ b ∈ F, b ∉ D) : Dsk w' n d F := by
  obtain ⟨p, hp, rfl⟩ := h
  exact ⟨p, hp.md hm hD, rfl⟩
theorem Dsk.md0 (h : Dsk w n d F) (hm : Md [] w w') : Dsk w' n d F := h.md hm (by simp)
theorem Dsk.lt (h : Dsk w n d F) : ∀ b ∈ F, b < w.heap.size := by
  obtain ⟨p, hp, rfl⟩ := h
  exact hp.lt
theorem Dsk.mem (h : Dsk w n d F) : n ∈ F := by
  obtain ⟨p, hp, rfl⟩ := h
  simp [fp]
theorem ad0 (n j : Nat) : (Addr.mk n 0 none).add j = ⟨n, j, none⟩ := by rw [Addr.add_lit, Nat.zero_add]
theorem Blk.ld {n : Nat} {ty : TypeId} {l : List Value} (h : Blk w n ty l) {j : Nat} {v : Value} (hv : l[j]? = some v) {K : Value → Prop} (k : K v) : Ld w ((Addr.mk n 0 none).add j) K :=
  Ld_in (by rw [ad0]; exact h.cell hv) k
/-- A cell of the disk's own is written. -/
theorem DkAt.setRf (h : DkAt w n p d) (x : Int) (hx : 0 ≤ x ∧ x ≤ 9223372036854775807) : DkAt (setCells w ((Addr.mk n 0 none).add 2) 0 [.int .i64 x]) n p { d with rf := x } ∧ Md [n] w (setCells w ((Addr.mk n 0 none).add 2) 0 [.int .i64 x]) ∧ Wr w ((Addr.mk n 0 none).add 2) 1 := by
  rw [ad0]
  have hm := Md_setCells (w := w) n 2 [.int .i64 x]
  refine ⟨⟨h.blk.set (j := 2) (by simp) _, h.bl.mdD hm fun A hA => by have := h.d1 A hA; simpa using this, h.pd.mdD hm fun A hA => by have := h.d2 A hA; simpa using this, h.isD, h.d1, h.d2, h.d3, h.len, h.ix, hx⟩, hm, h.blk.wr (by simp)⟩
theorem DkAt.clrPd (h : DkAt w n p d) : DkAt (setCells w ((Addr.mk n 0 none).add 1) 0 [.slice none 0 0]) n ⟨p.a, p.c, none, 0⟩ { d with pd := [] } ∧ Md [n] w (setCells w ((Addr.mk n 0 none).add 1) 0 [.slice none 0 0]) ∧ Wr w ((Addr.mk n 0 none).add 1) 1 := by
  rw [ad0]
  have hm := Md_setCells (w := w) n 1 [.slice none 0 0]
  exact ⟨⟨h.blk.set (j := 1) (by simp) _, h.bl.mdD hm fun A hA => by have := h.d1 A hA; simpa using this, OwnL.nil .., h.isD, h.d1, fun A hA => (by cases hA), fun A B hA hB => (by cases hB), h.len, fun x hx => (by simp at hx), h.rf0⟩, hm, h.blk.wr (by simp)⟩
end
/-! ### Contracts -/
theorem f191_nil (w : World) : Ct Try.prog 191 #[.pointer none] w fun v w' => v = .bool true ∧ Md [] w w' := by
  apply f191_in
  refine RunW_in0 (eqNilP (e := 155) none w _ _ 119 (by kernel_rfl) (by kernel_rfl)).1 <| opB_in ⟨fun h => (by cases h), Bd_in fun A5 hA5 => Gd_f <| Gd_f <| Bd_t rfl ⟨rfl, Md.refl _ _⟩⟩
theorem f191_zero (n : Nat) (w : World) (h : Blk w n 155 [.slice none 0 0, .slice none 0 0, .int .i64 0]) : Ct Try.prog 191 #[.pointer (some ⟨n, 0, none⟩)] w fun v w' => v = .bool true ∧ Md [] w w' := by
  apply f191_in
  refine RunW_in0 (eqNilP (e := 155) _ w _ _ 119 (by kernel_rfl) (by kernel_rfl)).1 <| opB_in ⟨fun _ => rfl, Bd_e rfl <| Gd_t <| h.ld rfl <| opL_in <| Gd_t <| RunW_in0 (eqNilS (e := 252) none 0 0 w _ _ 152 (by kernel_rfl) (by kernel_rfl)) <| opB_in <| Bd_t rfl ⟨rfl, Md.refl _ _⟩⟩
theorem f191_ok (n : Nat) (d : Dk) (F : List Nat) (w : World) (h : Dsk w n d F) : Ct Try.prog 191 #[.pointer (some ⟨n, 0, none⟩)] w fun v w' => v = .bool false ∧ Md [] w w' := by
  obtain ⟨p, hp, rfl⟩ := h
  apply f191_in
  have hs : p.a.isNone = false := by have := hp.isD; cases ha : p.a <;> simp_all
  refine RunW_in0 (eqNilP (e := 155) _ w _ _ 119 (by kernel_rfl) (by kernel_rfl)).1 <| opB_in ⟨fun _ => rfl, Bd_e rfl <| Gd_t <| hp.blk.ld rfl <| opL_in <| Gd_t <| RunW_in0 (eqNilS (e := 252) p.a _ _ w _ _ 152 (by kernel_rfl) (by kernel_rfl)) <| opB_in <| Bd_e (by rw [hs]; rfl) ⟨rfl, Md.refl _ _⟩⟩
theorem in191 {L : List Nat} {n : Nat} {d : Dk} {F : List Nat} {w : World} {K : Bool → World → Prop} (h : Dsk w n d F) (hL : ∀ b ∈ L, b < w.heap.size) (k : ∀ w', Dsk w' n d F → Md [] w w' → K false w') :
    CallW Try.prog L 191 #[.pointer (some ⟨n, 0, none⟩)] (fun v w' => opB v fun b => K b w') w := by
  refine (f191_ok n d F w h).call hL ?_
  rintro v w' rfl h'
  exact opB_in (k w' (h.md0 h') h')
def Dk.stepD (d : Dk) : Dk × Bool := if d.rf > 0 then ({ d with rf := d.rf - 1 }, decide (d.rf - 1 > 0)) else (d, true)
theorem f192_ok (n : Nat) (d : Dk) (F : List Nat) (w : World) (h : Dsk w n d F) : Ct Try.prog 192 #[.pointer (some ⟨n, 0, none⟩)] w fun v w' => (v = .bool d.stepD.2 ∧ Dsk w' n d.stepD.1 F) ∧ Md F w w' := by
  obtain ⟨p, hp, rfl⟩ := h
  apply f192_in
  have h0 := hp.rf0
  refine hp.blk.ld rfl <| opI_in <| Bd_in fun b4 hb4 => If_in (fun hb => ?_) fun hb => ?_
  · have hpos : d.rf > 0 := by rw [hb4] at hb; simpa using hb
    obtain ⟨h1, h2, h3⟩ := hp.setRf (d.rf - 1) (by omega)
    refine hp.blk.ld rfl <| opI_in <| Bd_e (y := d.rf - 1) (by rw [IntKind.wrap_i64]; omega) ⟨by simp, h3, h1.blk.ld rfl <| opI_in <| Bd_e rfl ⟨⟨?_, ?_⟩, h2.mono (by simp [fp])⟩⟩
    · unfold Dk.stepD; rw [if_pos hpos]
    · unfold Dk.stepD; rw [if_pos hpos]; exact ⟨p, h1, rfl⟩
  · have hno : ¬ d.rf > 0 := by rw [hb4] at hb; simpa using hb
    refine ⟨⟨?_, ?_⟩, Md.refl _ _⟩
    · unfold Dk.stepD; rw [if_neg hno]
    · unfold Dk.stepD; rw [if_neg hno]; exact ⟨p, hp, rfl⟩
theorem f112_ok (n : Nat) (d : Dk) (F : List Nat) (w : World) (h : Dsk w n d F) : Ct Try.prog 112 #[.pointer (some ⟨n, 0, none⟩)] w fun v w' => v = .int .i64 d.bl.length ∧ Md [] w w' := by
  apply f112_in
  refine in191 h (by simp) fun w2 h2 m2 => If_f ?_
  obtain ⟨p, hp, _⟩ := h2
  exact hp.blk.ld rfl <| opL_in <| Bd_e rfl ⟨rfl, m2⟩
theorem f108_ok (n : Nat) (d : Dk) (F : List Nat) (w : World) (h : Dsk w n d F) : Ct Try.prog 108 #[.pointer (some ⟨n, 0, none⟩)] w fun v w' => v = .int .i64 d.pd.length ∧ Md [] w w' := by
  apply f108_in
  refine in191 h (by simp) fun w2 h2 m2 => If_f ?_
  obtain ⟨p, hp, _⟩ := h2
  exact hp.blk.ld rfl <| opL_in <| Bd_e rfl ⟨rfl, m2⟩
def Dk.arm (d : Dk) (x : Int) : Dk := { d with rf := max x 0 }
theorem f102_ok (n : Nat) (d : Dk) (F : List Nat) (x : Int) (hx : x ≤ 9223372036854775807) (w : World) (h : Dsk w n d F) : Ct Try.prog 102 #[.pointer (some ⟨n, 0, none⟩), .int .i64 x] w fun v w' => (v = .tuple #[] ∧ Dsk w' n (d.arm x) F) ∧ Md F w w' := by
  apply f102_in
  refine in191 h (by simp) fun w2 h2 m2 => Bd_t rfl <| If_t ?_
  obtain ⟨p, hp, rfl⟩ := h2
  obtain ⟨h1, h2', h3⟩ := hp.setRf (max x 0) (by omega)
  refine Bd_e (y := max x 0) (by split <;> omega) ⟨by simp, h3, ⟨rfl, p, h1, rfl⟩, (m2.mono (by simp)).trans (h2'.mono (by simp [fp]))⟩
def Dk.flush (d : Dk) : Dk × Int := if d.stepD.2 = true then ({ d.stepD.1 with pd := [] }, 0) else (d.stepD.1, 200)
theorem in192 {L : List Nat} {n : Nat} {d : Dk} {F : List Nat} {w : World} {K : Bool → World → Prop} (h : Dsk w n d F) (hL : ∀ b ∈ L, b < w.heap.size) (hLF : ∀ b ∈ L, b ∉ F) (k : ∀ w', Dsk w' n d.stepD.1 F → Md F w w' → K d.stepD.2 w') :
    CallW Try.prog L 192 #[.pointer (some ⟨n, 0, none⟩)] (fun v w' => opB v fun b => K b w') w := by
  refine (f192_ok n d F w h).callD hL hLF ?_
  rintro v w' ⟨rfl, hd⟩ h'
  exact opB_in (k w' hd h')
theorem fp_sub {n : Nat} {p : DkS} : ∀ b ∈ fp n ⟨p.a, p.c, none, 0⟩, b ∈ fp n p := by
  intro b hb
  simp only [fp, List.mem_cons, List.mem_append, Option.map_none, Option.toList_none, List.not_mem_nil, or_false] at hb ⊢
  rcases hb with h | h
  · exact .inl h
  · exact .inr (.inl h)
theorem f103_ok (n : Nat) (d : Dk) (F : List Nat) (w : World) (h : Dsk w n d F) : Ct Try.prog 103 #[.pointer (some ⟨n, 0, none⟩)] w fun v w' => (v = .int .i64 d.flush.2 ∧ ∃ F', Dsk w' n d.flush.1 F' ∧ ∀ b ∈ F', b ∈ F) ∧ Md F w w' := by
  apply f103_in
  refine in191 h (by simp) fun w2 h2 m2 => If_f <| in192 h2 (by simp) (by simp) fun w5 h5 m5 => Bd_e rfl ?_
  have m : Md F w w5 := (m2.mono (by simp)).trans m5
  cases hs : d.stepD.2 with
  | false => exact If_t ⟨⟨by unfold Dk.flush; rw [hs]; rfl, F, by unfold Dk.flush; rw [hs]; exact h5, fun _ hb => hb⟩, m⟩
  | true =>
    obtain ⟨p, hp, rfl⟩ := h5
    obtain ⟨h1, h2', h3⟩ := hp.clrPd
    refine If_f ⟨by simp, h3, ⟨by unfold Dk.flush; rw [hs]; rfl, _, by unfold Dk.flush; rw [hs]; exact ⟨_, h1, rfl⟩, fp_sub⟩, m.trans (h2'.mono (by simp [fp]))⟩
end Fk
