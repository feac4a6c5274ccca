/- Contracts: what goes through bytes. -/
import Derived.Test.YtpgjpgecgibklaaC22
import Derived.Test.YtpgjpgecgibklaaV3
import Derived.Laws.OwnMore
set_option linter.unusedVariables false
set_option linter.unusedSimpArgs false
set_option maxRecDepth 100000
namespace Fk
open Go Go.Proofs Go.RowKit
def b1 (x : Nat) : List Value := [.int .u8 (x : Int)]
theorem encb1 : Enc 1 b1 := ⟨fun _ => rfl, by intro x v hv; simp [b1] at hv; subst hv; rfl⟩
theorem rowT51 : RowT Try.prog 51 5 1 1 := RowT.of (by kernel_rfl) (by kernel_rfl) (by kernel_rfl) (by omega)
theorem rowT55 : RowT Try.prog 55 9 1 16 := RowT.of (by kernel_rfl) (by kernel_rfl) (by kernel_rfl) (by omega)
theorem size5 (w : World) : (Go.sizeOf 5).run Try.prog w = .ok 1 w := by
  have h : (Try.prog.info? 5).map (·.size) = some 1 := by kernel_rfl
  cases hi : Try.prog.info? 5 with
  | none => simp [hi] at h
  | some i => simp [hi] at h; simp [Go.sizeOf, typeInfo, hi, h]
/-! ### A block of one's own -/
def Blk (w : World) (n : Nat) (ty : TypeId) (l : List Value) : Prop := w.heap[n]? = some (.cells l.toArray ty (0, 0))
theorem Blk.lt {w : World} {n : Nat} {ty : TypeId} {l : List Value} (h : Blk w n ty l) : n < w.heap.size := (Array.getElem?_eq_some_iff.1 h).1
theorem Blk.cell {w : World} {n : Nat} {ty : TypeId} {l : List Value} (h : Blk w n ty l) {j : Nat} {v : Value} (hv : l[j]? = some v) : w.cell? ⟨n, j, none⟩ = some v := by
  rw [cell_of_row w n j _ ty (0, 0) h]; simpa using hv
theorem Blk.wr {w : World} {n : Nat} {ty : TypeId} {l : List Value} (h : Blk w n ty l) {o k : Nat} (hk : o + k ≤ l.length) : Wr w ⟨n, o, none⟩ k := by
  intro j hj
  rw [Addr.add_lit]
  refine ⟨⟨_, h.cell (List.getElem?_eq_getElem (by omega))⟩, ?_⟩
  unfold Blk at h
  simp [World.frozen?, h]
theorem Blk.set {w : World} {n : Nat} {ty : TypeId} {l : List Value} (h : Blk w n ty l) {j : Nat} (hj : j < l.length) (v : Value) : Blk (setCells w ⟨n, j, none⟩ 0 [v]) n ty (l.set j v) := by
  rcases wrL_run (m := 0) (cells := []) (o := j) (vs := []) [v] 0 l w h with h' | h'
  · unfold Blk
    rw [h']
    congr 3
    unfold wrL
    simp [List.set_eq_take_append_cons_drop, hj]
  · simp at h'; omega
theorem setCells_env : ∀ (vs : List Value) (i : Nat) (w : World) (A : Addr), (setCells w A i vs).os = w.os ∧ (setCells w A i vs).tape = w.tape ∧ (setCells w A i vs).output = w.output ∧ (setCells w A i vs).heap.size = w.heap.size
  | [], _, _, _ => ⟨rfl, rfl, rfl, rfl⟩
  | v :: vs, i, w, A => by
    obtain ⟨h1, h2, h3, h4⟩ := setCells_env vs (i + 1) (w.setCell (A.add i) v) A
    simp only [setCells]
    exact ⟨h1, h2, h3, by rw [h4]; simp [World.setCell]⟩
theorem Md_setCells {w : World} (n o : Nat) (vs : List Value) : Md [n] w (setCells w ⟨n, o, none⟩ 0 vs) := by
  obtain ⟨h1, h2, h3, h4⟩ := setCells_env vs 0 w ⟨n, o, none⟩
  exact ⟨h1, h2, h3, by omega, fun k hk hm => setCells_heap _ _ _ _ (by simpa using hm)⟩
theorem Blk.md {w w' : World} {n : Nat} {ty : TypeId} {l : List Value} {D : List Nat} (h : Blk w n ty l) (hm : Md D w w') (hD : n ∉ D) : Blk w' n ty l := by
  unfold Blk
  rw [hm.blk n h.lt hD]; exact h
/-- Rows that a change elsewhere leaves. -/
theorem RowAt.mdD {α : Type} {w w' : World} {a : Option Addr} {size : Nat} {enc : α → List Value} {l : List α} {D : List Nat} (h : RowAt w a size enc l) (hm : Md D w w') (hD : ∀ A, a = some A → A.block ∉ D) : RowAt w' a size enc l := by
  intro i x hx
  obtain ⟨B, hB, hc⟩ := h i x hx
  refine ⟨B, hB, fun j u hu => hm.cell (hc j u hu) ?_⟩
  rw [add_block, add_block]
  exact hD B hB
theorem RowAt.mdE {α : Type} {w w' : World} {a : Option Addr} {size : Nat} {enc : α → List Value} {l : List α} {D : List Nat} (h : RowAt w a size enc l) (hm : Md D w w') (hD : ∀ A, a = some A → l ≠ [] → A.block ∉ D) : RowAt w' a size enc l := by
  cases l with
  | nil => intro i x hx; simp at hx
  | cons x l => exact h.mdD hm fun A hA => hD A hA (by simp)
theorem RowAt.lt {α : Type} {w : World} {a : Option Addr} {size : Nat} {enc : α → List Value} {l : List α} (h : RowAt w a size enc l) (he : Enc size enc) (hs : 0 < size) : ∀ A, a = some A → l ≠ [] → A.block < w.heap.size := by
  intro A hA hne
  obtain ⟨x, l', rfl⟩ := List.exists_cons_of_ne_nil hne
  obtain ⟨B, hB, hc⟩ := h 0 x rfl
  rw [hA] at hB
  cases hB
  have hl := he.len x
  have := cell_lt (hc 0 _ (List.getElem?_eq_getElem (by omega)))
  rw [add_block, add_block] at this
  exact this
theorem add_add (B : Addr) (x y : Nat) : (B.add x).add y = B.add (x + y) := by
  unfold Addr.add
  split <;> split <;> simp_all [Nat.add_assoc]
theorem RowAt.drop {α : Type} {w : World} {A : Option Addr} {size : Nat} {enc : α → List Value} {l : List α} (h : RowAt w A size enc l) (n : Nat) : RowAt w (A.map (·.add (n * size))) size enc (l.drop n) := by
  intro i x hx
  rw [List.getElem?_drop] at hx
  obtain ⟨B, rfl, hc⟩ := h (n + i) x hx
  refine ⟨_, rfl, fun j u hu => ?_⟩
  have := hc j u hu
  rw [show (B.add (n * size)).add (i * size) = B.add ((n + i) * size) by rw [Nat.add_mul]; exact add_add B _ _]
  exact this
theorem slice_rest {P : Program} {t e : TypeId} (ht : P.underlying t = some (.slice e)) (hs : ∀ w, (Go.sizeOf e).run P w = .ok 1 w) (w : World) (a : Option Addr) (n c m : Nat) (h : m ≤ n) :
    (Instr.sliceAt t (.slice a n c) (some (.int .i64 (m : Int))) none none).run P w = .ok (.slice (if c = m then a else a.map (·.add (m * 1))) (n - m) (c - m)) w := by
  have he : P.elem t = e := by simp [Program.elem, ht]
  have ht' : P.underlying t = some (.slice (P.elem t)) := by rw [he]; exact ht
  rw [run_sliceAt_slice w t _ _ _ _ ht', run_slice_l w t a n c ht' .i64 m (by omega) (by omega), he, hs w]
  simp [Result.andThen, sliced]
/-! ### What goes through bytes -/
def takeO (o : Option (List Nat)) (m : Nat) : List Nat × Option (List Nat) := match o with
  | none => (List.replicate m 0, none)
  | some r => if r.length < m then (List.replicate m 0, none) else (r.take m, some (r.drop m))
theorem takeO_len (o : Option (List Nat)) (m : Nat) : (takeO o m).1.length = m := by
  unfold takeO
  split
  · simp
  · split
    · simp
    · simp; omega
def CuAt (w : World) (n : Nat) (o : Option (List Nat)) (tl : List Value) : Prop :=
  ∃ (r : List Nat) (off : Bool) (a : Option Addr) (c : Nat), o = (if off = true then none else some r) ∧ Blk w n 209 (.slice a r.length c :: .bool off :: tl) ∧ RowAt w a 1 b1 r ∧ r.length ≤ c ∧ (∀ A, a = some A → r ≠ [] → A.block < n)
theorem f217_ok (n : Nat) (o : Option (List Nat)) (tl : List Value) (m : Nat) (hm : m ≤ 256) (w : World) (h : CuAt w n o tl) :
    Ct Try.prog 217 #[.pointer (some ⟨n, 0, none⟩), .int .i64 m] w fun v w' => (∃ a c, v = .slice a m c ∧ RowAt w' a 1 b1 (takeO o m).1 ∧ m ≤ c ∧ CuAt w' n (takeO o m).2 tl) ∧ Md [n] w w' := by
  obtain ⟨r, off, a, c, rfl, hb, hr, hc, ha⟩ := h
  apply f217_in
  have c0 : w.cell? ⟨n, 0, none⟩ = some (.slice a r.length c) := hb.cell rfl
  have c1 : w.cell? ⟨n, 1, none⟩ = some (.bool off) := hb.cell rfl
  refine Ld_in (by rw [Addr.add_lit]; exact c1) <| opB_in ⟨fun _ => rfl, Bd_in fun A5 hA5 => ?_⟩
  have hA5' : A5 = ⟨n, 0, none⟩ := hA5
  subst hA5'
  refine Gd_to (fun u w' => (off = false → u = (a, r.length, c)) ∧ w' = w) (fun u w12 hJ => ?_) (fun fin hc => Ld_in (by rw [Addr.add_lit]; exact c0) <| opL_in <| fin _ _ ⟨fun _ => rfl, rfl⟩) (fun hc => ⟨fun h => by simp [h] at hc, rfl⟩)
  obtain ⟨hu, rfl⟩ := hJ
  refine Bd_in fun x13 hx13 => Bd_in fun b14 hb14 => Bd_in fun b15 hb15 => If_in (fun h => ?_) fun h => ?_
  · have hno : (if off = true then none else some r : Option (List Nat)) = none ∨ r.length < m := by
      cases ho : off with
      | true => left; rfl
      | false =>
        right
        rw [hb15, hb14, hx13, hu ho, ho] at h
        simpa using h
    have ht : takeO (if off = true then none else some r) m = (List.replicate m 0, none) := by
      rcases hno with h | h
      · rw [h]; rfl
      · cases off
        · simp [takeO, h]
        · rfl
    refine ⟨by simp, by rw [Addr.add_lit]; exact hb.wr (by simp), ?_⟩
    rw [Addr.add_lit, Nat.zero_add]
    have hb2 := hb.set (j := 1) (by simp) (.bool true)
    have hm2 := Md_setCells (w := w12) n 1 [.bool true]
    generalize setCells w12 ⟨n, 1, none⟩ 0 [.bool true] = w2 at *
    have h5 : (Try.prog.info? 5).isSome = true := by kernel_rfl
    obtain ⟨i5, hi5⟩ := Option.isSome_iff_exists.1 h5
    have hz5 : (Try.prog.info? 5).bind (·.zero) = some (.int .u8 0) := by kernel_rfl
    have hs5 : (Try.prog.info? 5).map (fun i => (i.size, i.bytes)) = some (1, 1) := by kernel_rfl
    rw [hi5] at hz5 hs5
    simp only [Option.bind_some, Option.map_some, Option.some.injEq, Prod.mk.injEq] at hz5 hs5
    obtain ⟨w3, hrun, hown, hgr⟩ := run_makeSlice_full (P := Try.prog) w2 w2.heap.size 51 5 i5 (.int .u8 0) 1 (by kernel_rfl) hi5 hz5 hs5.1 .i64 .i64 m (by omega) (by rw [hs5.2]; omega) (by simp [maxLen]; omega) (Nat.le_refl _)
    have hm3 : Md [] w2 w3 := Md_of_grown hgr
    refine RunW_in hrun (fun b hb => by simp at hb) <| opL_in ⟨⟨_, _, rfl, ?_, Nat.le_refl _, ?_⟩, hm2.trans (hm3.mono (by simp))⟩
    · rw [ht]
      have hmc : (madeCells (Value.int .u8 0).cells (m * 1)).toList = (List.replicate m 0).flatMap b1 := by
        have hl : ∀ k : Nat, (List.replicate k (0 : Nat)).flatMap b1 = List.replicate k (Value.int .u8 0) := by
          intro k; induction k with
          | zero => rfl
          | succ k ih => rw [List.replicate_succ, List.flatMap_cons, ih]; rfl
        rw [hl, Nat.mul_one]
        exact toList_madeCells_one _ m
      have hl2 := hown.lt _ rfl
      have ho : OwnL w3 w2.heap.size 5 1 b1 (some ⟨w2.heap.size, 0, none⟩) m (List.replicate m 0) := by
        unfold OwnL
        rw [← hmc, List.length_replicate]; exact hown
      exact ho.row encb1
    · rw [ht]
      refine ⟨r, true, a, c, rfl, hb2.md hm3 (by simp), (hr.mdE hm2 fun A hA hne => ?_).md hm3, hc, ha⟩
      have := ha A hA hne
      simp; omega
  · have hoff : off = false ∧ m ≤ r.length := by
      rw [hb15] at h
      cases ho : off with
      | true => rw [ho] at h; simp at h
      | false =>
        rw [hb14, hx13, hu ho, ho] at h
        exact ⟨rfl, by simpa using h⟩
    obtain ⟨rfl, hml⟩ := hoff
    have ht : takeO (if false = true then none else some r) m = (r.take m, some (r.drop m)) := by
      simp [takeO]; omega
    refine Ld_in (by rw [Addr.add_lit]; exact c0) <| opL_in <| RunW_in0 (slice_front (e := 5) (by kernel_rfl) (fun w => ⟨1, size5 w⟩) _ _ _ _ _ (by omega)) <| opL_in <| Ld_in (by rw [Addr.add_lit]; exact c0) <| opL_in <| RunW_in0 (slice_rest (e := 5) (by kernel_rfl) size5 _ _ _ _ _ hml) <| opL_in ⟨by simp, by rw [Addr.add_lit]; exact hb.wr (by simp), ?_⟩
    rw [Addr.add_lit, Nat.zero_add]
    have hb2 := hb.set (j := 0) (by simp) (.slice (if c = m then a else a.map (·.add (m * 1))) (r.length - m) (c - m))
    have hm2 := Md_setCells (w := w12) n 0 [.slice (if c = m then a else a.map (·.add (m * 1))) (r.length - m) (c - m)]
    generalize setCells w12 ⟨n, 0, none⟩ 0 [.slice (if c = m then a else a.map (·.add (m * 1))) (r.length - m) (c - m)] = w2 at *
    have hn : ∀ A, a = some A → r ≠ [] → A.block ∉ [n] := by intro A hA hne; have := ha A hA hne; simp; omega
    have hnt : r.take m ≠ [] → r ≠ [] := by rintro h rfl; simp at h
    have hnd : r.drop m ≠ [] → r ≠ [] := by rintro h rfl; simp at h
    rw [ht]
    refine ⟨⟨a, c, rfl, (hr.take m).mdE hm2 (fun A hA hne => hn A hA (hnt hne)), by omega, ?_⟩, hm2⟩
    refine ⟨r.drop m, false, if c = m then a else a.map (·.add (m * 1)), c - m, rfl, ?_, ?_, by simp; omega, ?_⟩
    · have hls : (r.drop m).length = r.length - m := by simp
      rw [hls]
      exact hb2
    · have hd := (hr.drop m).mdE hm2 (by
        intro A hA hne
        cases a with
        | none => cases hA
        | some B => simp at hA; subst hA; rw [add_block]; exact hn B rfl (hnd hne))
      split
      · rename_i hcm
        have : r.drop m = [] := List.drop_of_length_le (by omega)
        rw [this]
        intro i x hx; simp at hx
      · exact hd
    · intro A hA hne
      split at hA
      · exact ha A hA (hnd hne)
      · cases a with
        | none => cases hA
        | some B => simp at hA; subst hA; rw [add_block]; exact ha B rfl (hnd hne)
def oneO (o : Option (List Nat)) : Nat × Option (List Nat) := ((takeO o 1).1.headD 0, (takeO o 1).2)
def pairO (o : Option (List Nat)) : Nat × Option (List Nat) := ((takeO o 2).1.headD 0 * 256 + ((takeO o 2).1.getD 1 0), (takeO o 2).2)
def okO (o : Option (List Nat)) : Prop := ∀ r, o = some r → ∀ x ∈ r, x < 256
theorem okO.take {o : Option (List Nat)} (h : okO o) (m : Nat) : okO (takeO o m).2 ∧ ∀ x ∈ (takeO o m).1, x < 256 := by
  cases o with
  | none => exact ⟨fun r hr => (by cases hr), fun x hx => by simp [takeO] at hx; omega⟩
  | some r =>
    unfold takeO
    by_cases hl : r.length < m
    · simp only [hl, if_true]
      exact ⟨fun r hr => (by cases hr), fun x hx => by simp at hx; omega⟩
    · simp only [hl, if_false]
      exact ⟨fun r' hr => (by cases hr; exact fun x hx => h r rfl x (List.mem_of_mem_drop hx)), fun x hx => h r rfl x (List.mem_of_mem_take hx)⟩
theorem okO.one {o : Option (List Nat)} (h : okO o) : okO (oneO o).2 ∧ (oneO o).1 < 256 := by
  obtain ⟨h1, h2⟩ := h.take 1
  refine ⟨h1, ?_⟩
  have hl := takeO_len o 1
  unfold oneO
  match hx : (takeO o 1).1, hl with
  | [x], _ => rw [hx] at h2; exact h2 x (by simp)
theorem f158_ok (n : Nat) (o : Option (List Nat)) (ho : okO o) (tl : List Value) (w : World) (h : CuAt w n o tl) :
    Ct Try.prog 158 #[.pointer (some ⟨n, 0, none⟩)] w fun v w' => (v = .int .i64 (oneO o).1 ∧ CuAt w' n (oneO o).2 tl) ∧ Md [n] w w' := by
  apply f158_in
  refine (f217_ok n o tl 1 (by omega) w h).callD (D := [n]) (by simp) (by simp) ?_
  rintro v w' ⟨a, c, rfl, hr, hc, hcu⟩ h'
  have hl := takeO_len o 1
  have h2 := (ho.one).2
  unfold oneO at h2 ⊢
  match hx : (takeO o 1).1, hl with
  | [x], _ =>
    rw [hx] at h2 hr
    simp only [List.headD_cons] at h2
    refine opL_in ⟨hr.ix (i := 0) (by simp), hr.ld1 (i := 0) (by simp) rfl <| opI_in <| Bd_in fun x8 hx8 => ⟨⟨?_, hcu⟩, h'⟩⟩
    rw [hx8]
    show Value.int .i64 (IntKind.wrap .i64 (x : Int)) = .int .i64 (x : Int)
    rw [wrap_byte h2]
theorem or_byte {x y : Nat} (hx : x < 256) (hy : y < 256) : IntKind.wrap .i64 ((BitVec.toNat (BitVec.ofInt 64 (IntKind.wrap .i64 (IntKind.wrap .i64 (x : Int) * (2 : Int) ^ min 8 64)) ||| BitVec.ofInt 64 (IntKind.wrap .i64 (y : Int))) : Nat) : Int) = ((x * 256 + y : Nat) : Int) := by
  have e1 : IntKind.wrap .i64 (IntKind.wrap .i64 (x : Int) * (2 : Int) ^ min 8 64) = ((x * 256 : Nat) : Int) := by
    rw [wrap_byte hx, show (2 : Int) ^ min 8 64 = 256 by decide, IntKind.wrap_i64]; omega
  rw [e1, wrap_byte hy]
  have e2 : BitVec.toNat (BitVec.ofInt 64 ((x * 256 : Nat) : Int) ||| BitVec.ofInt 64 (y : Int)) = x * 256 + y := by
    rw [BitVec.ofInt_natCast, BitVec.ofInt_natCast, BitVec.toNat_or, BitVec.toNat_ofNat, BitVec.toNat_ofNat, Nat.mod_eq_of_lt (by omega), Nat.mod_eq_of_lt (by omega)]
    have := Nat.two_pow_add_eq_or_of_lt (i := 8) (b := y) (by omega) x
    rw [show 2 ^ 8 = 256 from rfl, Nat.mul_comm] at this
    exact this.symm
  rw [e2, IntKind.wrap_i64]; omega
theorem f159_ok (n : Nat) (o : Option (List Nat)) (ho : okO o) (tl : List Value) (w : World) (h : CuAt w n o tl) :
    Ct Try.prog 159 #[.pointer (some ⟨n, 0, none⟩)] w fun v w' => (v = .int .i64 (pairO o).1 ∧ CuAt w' n (pairO o).2 tl) ∧ Md [n] w w' := by
  apply f159_in
  refine (f217_ok n o tl 2 (by omega) w h).callD (D := [n]) (by simp) (by simp) ?_
  rintro v w' ⟨a, c, rfl, hr, hc, hcu⟩ h'
  have hl := takeO_len o 2
  have h2 := (ho.take 2).2
  have hcu' : CuAt w'.drew n (takeO o 2).2 tl := by
    obtain ⟨r, off, a, c, h1, h2, h3, h4, h5⟩ := hcu
    exact ⟨r, off, a, c, h1, h2, h3.md (Md_drew _), h4, h5⟩
  unfold pairO
  match hx : (takeO o 2).1, hl with
  | [x, y], _ =>
    rw [hx] at hr h2
    have hx' := h2 x (by simp)
    have hy' := h2 y (by simp)
    refine opL_in ⟨fun w2 => Md [] w' w2, Md_drew _, hr.ix (i := 0) (by simp), .int .u8 (x : Int), fun w2 hw => (hr.md hw).ld1 (i := 0) (by simp) rfl rfl, opI_in <| Bd_in fun x12 hx12 => Bd_in fun x13 hx13 => ⟨hr.ix (i := 1) (by simp), .int .u8 (y : Int), fun w2 hw => (hr.md hw).ld1 (i := 1) (by simp) rfl rfl, opI_in <| Bd_in fun x19 hx19 => Bd_in fun x20 hx20 => ⟨⟨?_, hcu'⟩, h'.trans ((Md_drew _).mono (by simp))⟩⟩⟩
    rw [hx20, hx19, hx13, hx12, or_byte hx' hy']
    rfl
end Fk
