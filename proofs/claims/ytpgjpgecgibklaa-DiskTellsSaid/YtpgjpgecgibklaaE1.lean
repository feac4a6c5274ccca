/- Contracts of disks: all that is read, new ones, one block read, one written. -/
import Derived.Test.YtpgjpgecgibklaaE0
set_option linter.unusedVariables false
set_option linter.unusedSimpArgs false
set_option maxRecDepth 100000
namespace Fk
open Go Go.Proofs Go.RowKit
theorem blE_get {b : Bk} {j x : Nat} (h : b.1[j]? = some x) : (blE b)[j]? = some (.int .u8 (x : Int)) := by
  have hj := (List.getElem?_eq_some_iff.1 h).1
  have := encb1.at b.1 j 0 x h (by omega)
  rw [Nat.mul_one, Nat.add_zero] at this
  exact this
def bytesB (l : List Bk) : List Nat := l.flatMap (·.1)
theorem bytesB_len (l : List Bk) : (bytesB l).length = l.length * 64 := by
  induction l with
  | nil => rfl
  | cons b l ih => unfold bytesB at ih ⊢; rw [List.flatMap_cons, List.length_append, ih, b.2.1, List.length_cons]; omega
theorem bytesB_lt (l : List Bk) : ∀ x ∈ bytesB l, x < 256 := by
  intro x hx
  obtain ⟨b, _, h⟩ := List.mem_flatMap.1 hx
  exact b.2.2 x h
theorem bytesB_take {l : List Bk} {i : Nat} (hi : i < l.length) : bytesB (l.take (i + 1)) = bytesB (l.take i) ++ l[i].1 := by
  unfold bytesB
  rw [List.take_succ_eq_append_getElem hi, List.flatMap_append]; simp
def Dk.all (d : Dk) : List Nat := bytesB d.bl
theorem f104_ok (n : Nat) (d : Dk) (F : List Nat) (w : World) (h : Dsk w n d F) :
    Ct Try.prog 104 #[.pointer (some ⟨n, 0, none⟩)] w fun v w' => (∃ a c, v = .slice a d.all.length c ∧ OwnL w' w.heap.size 5 1 b1 a c d.all) ∧ Md [] w w' := by
  apply f104_in
  refine in191 h (by simp) fun w2 h2 m2 => If_f ?_
  obtain ⟨p, hp, _⟩ := h2
  refine hp.blk.ld rfl <| opL_in <| Bd_e rfl ?_
  have hlen := hp.len
  refine LoopP_in (fun m us vs w' => ∃ (i : Nat) (a : Option Addr) (c : Nat), us = [.slice a (bytesB (d.bl.take i)).length c, .int .i64 i] ∧ m = d.bl.length - i ∧ i ≤ d.bl.length ∧ PS w2 w' a c (bytesB (d.bl.take i))) d.bl.length
    ⟨0, none, 0, rfl, rfl, by omega, ⟨Md.refl _ _, OwnL.nil ..⟩⟩ ?_
  rintro m us vs w13 ⟨i, a, c, rfl, rfl, hi, S⟩
  refine opL_in <| opI_in <| Bd_in fun b18 hb18 => If_in (fun hb => ?_) fun hb => ?_
  · have hi' : i < d.bl.length := by rw [hb18] at hb; simpa using hb
    have hp' := hp.md S.md (by simp)
    have hrow := hp'.bl.row encBl
    refine hp'.blk.ld rfl <| opL_in ⟨hrow.ix hi', RunW_in0 (slice_arr64 w13 _) <| opL_in ?_⟩
    have hbl := bytesB_len (d.bl.take i)
    rw [List.length_take] at hbl
    refine S.appC _ 64 64 d.bl[i].1 d.bl[i].2.1 (fun j x hx => ?_) (by simp) (by omega) fun a' c' w' S' _ => opL_in <| Bd_e (inc_i64 (by omega)) ⟨d.bl.length - (i + 1), by omega, i + 1, a', c', by rw [bytesB_take hi'], rfl, by omega, by rw [bytesB_take hi']; exact S'⟩
    obtain ⟨B, hB, hc⟩ := hrow i d.bl[i] (List.getElem?_eq_getElem hi')
    rw [hB]
    have := hc j _ (blE_get hx)
    simpa [adAt] using this
  · have hi' : i = d.bl.length := by rw [hb18] at hb; have : ¬ i < d.bl.length := by simpa using hb
                                     omega
    subst hi'
    rw [List.take_length] at S ⊢
    exact ⟨⟨a, c, rfl, S.own.down m2.size⟩, m2.trans S.md⟩
theorem in104 {L : List Nat} {n : Nat} {d : Dk} {F : List Nat} {w : World} {K : Option Addr → Nat → Nat → World → Prop} (h : Dsk w n d F) (hL : ∀ b ∈ L, b < w.heap.size)
    (k : ∀ a c w', Dsk w' n d F → Md [] w w' → OwnL w' w.heap.size 5 1 b1 a c d.all → K a d.all.length c w') :
    CallW Try.prog L 104 #[.pointer (some ⟨n, 0, none⟩)] (fun v w' => opL v fun a n c => K a n c w') w := by
  refine (f104_ok n d F w h).call hL ?_
  rintro v w' ⟨a, c, rfl, ho⟩ h'
  exact opL_in (k a c w' (h.md0 h') h' ho)
/-! ### New ones -/
def newDk (n : Nat) : Dk := ⟨List.replicate n zBk, [], 0⟩
theorem made252 (n : Nat) : (madeCells (Value.agg (Array.replicate 64 (.int .u8 0))).cells (n * 64)).toList = (List.replicate n zBk).flatMap blE := by
  have hz : ∀ k : Nat, (List.replicate k (0 : Nat)).flatMap b1 = List.replicate k (Value.int .u8 0) := by
    intro k; induction k with
    | zero => rfl
    | succ k ih => rw [List.replicate_succ, List.flatMap_cons, ih]; rfl
  have h1 : (List.replicate n zBk).flatMap blE = List.replicate (n * 64) (Value.int .u8 0) := by
    induction n with
    | zero => rfl
    | succ n ih =>
      rw [List.replicate_succ, List.flatMap_cons, ih]
      have : blE zBk = List.replicate 64 (Value.int .u8 0) := hz 64
      rw [this, List.replicate_append_replicate]
      congr 1; omega
  rw [h1]
  apply List.ext_getElem
  · simp [madeCells]
  · intro i h1 h2
    have : i % 64 < 64 := Nat.mod_lt _ (by omega)
    simp [madeCells, Value.cells]
    rw [getElem!_pos _ _ (by simpa using this)]
    simp
theorem f109_ok (x : Int) (w : World) : Ct Try.prog 109 #[.int .i64 x] w fun v w' =>
    ((1 ≤ x ∧ x ≤ 65536 ∧ ∃ n F, v = .tuple #[.pointer (some ⟨n, 0, none⟩), .int .i64 0] ∧ Dsk w' n (newDk x.toNat) F ∧ ∀ b ∈ F, w.heap.size ≤ b) ∨ (¬ (1 ≤ x ∧ x ≤ 65536) ∧ v = .tuple #[.pointer none, .int .i64 2])) ∧ Md [] w w' := by
  apply f109_in
  refine Bd_in fun b1' hb1 => Bd_in fun b2 hb2 => Bd_in fun b3 hb3 => If_in (fun h => ?_) fun h => ?_
  · refine ⟨.inr ⟨?_, rfl⟩, Md.refl _ _⟩
    rw [hb3, hb1, hb2] at h
    by_cases h1 : x < 1
    · omega
    · simp [h1] at h; omega
  · have hx : 1 ≤ x ∧ x ≤ 65536 := by
      rw [hb3, hb1, hb2] at h
      by_cases h1 : x < 1
      · simp [h1] at h
      · simp [h1] at h; omega
    obtain ⟨m, rfl⟩ := Int.eq_ofNat_of_zero_le (by omega : 0 ≤ x)
    have h5 : (Try.prog.info? 252).isSome = true := by kernel_rfl
    obtain ⟨i5, hi5⟩ := Option.isSome_iff_exists.1 h5
    have hz5 : (Try.prog.info? 252).bind (·.zero) = some (.agg (Array.replicate 64 (.int .u8 0))) := by kernel_rfl
    have hs5 : (Try.prog.info? 252).map (fun i => (i.size, i.bytes)) = some (64, 64) := by kernel_rfl
    rw [hi5] at hz5 hs5
    simp only [Option.bind_some, Option.map_some, Option.some.injEq, Prod.mk.injEq] at hz5 hs5
    obtain ⟨w3, hrun, hown, hgr⟩ := run_makeSlice_full (P := Try.prog) w w.heap.size 152 252 i5 _ 64 (by kernel_rfl) hi5 hz5 hs5.1 .i64 .i64 m (by omega) (by rw [hs5.2]; omega) (by simp [maxLen]; omega) (Nat.le_refl _)
    have hm3 : Md [] w w3 := Md_of_grown hgr
    rw [made252] at hown
    have hb0 := World.ownsRow.lt hown w.heap.size rfl
    refine RunW_in hrun (fun b hb => by simp at hb) <| opL_in fun n9 w10 e9 e10 => ?_
    subst e9; subst e10
    have hma : Md [] w3 (w3.alloc (.cells #[.slice (some ⟨w.heap.size, 0, none⟩) m m, .slice none 0 0, .int .i64 0] 155)) := Md.alloc w3 _
    refine ⟨.inl ⟨by omega, by omega, w3.heap.size, _, rfl, ⟨⟨some ⟨w.heap.size, 0, none⟩, m, none, 0⟩, ?_, rfl⟩, ?_⟩, hm3.trans hma⟩
    · have ho : OwnL w3 0 252 64 blE (some ⟨w.heap.size, 0, none⟩) m (List.replicate m zBk) := by
        have := OwnL.down (enc := blE) (l := List.replicate m zBk) (a := some ⟨w.heap.size, 0, none⟩) (c := m) (w := w3) (e := 252) (size := 64) (base := w.heap.size) (by unfold OwnL; rw [List.length_replicate]; exact hown) (Nat.zero_le _)
        exact this
      refine ⟨?_, ho.md hma, OwnL.nil .., rfl, ?_, fun A hA => (by cases hA), fun A B hA hB => (by cases hB), ?_, fun y hy => (by simp [newDk] at hy), by simp [newDk]⟩
      · have := heap_alloc_new w3 (.cells #[.slice (some ⟨w.heap.size, 0, none⟩) m m, .slice none 0 0, .int .i64 0] 155)
        simp only [newDk, List.length_replicate, Int.toNat_natCast, List.length_nil]
        exact this
      · intro A hA; cases hA; simp; omega
      · simp [newDk]; omega
    · intro b hb
      simp [fp] at hb
      have := hm3.size
      omega
/-! ### One block -/
theorem zero252 : zeroL Try.prog 252 = List.replicate 64 (Value.int .u8 0) := by kernel_rfl
theorem arr_row {w : World} {n : Nat} {l : List Nat} (h : Blk w n 252 (l.flatMap b1)) (hl : l.length = 64) {base : Nat} (hb : base ≤ n) : OwnL w base 252 1 b1 (some ⟨n, 0, none⟩) 64 l := by
  refine ⟨by rw [encb1.lenL], .inr ⟨n, 64, (l.flatMap b1).toArray, by rw [hl], hb, h, by omega, by simp [maxLen], by rw [List.size_toArray, encb1.lenL, hl], ?_⟩⟩
  have : (l.flatMap b1).length = l.length * 1 := encb1.lenL l
  simp only [← this, List.take_length]
theorem LdN_blk {w : World} {a : Option Addr} {c : Nat} {l : List Bk} {base : Nat} {e : TypeId} (h : OwnL w base e 64 blE a c l) {i : Nat} (hi : i < l.length) {K : List Value → Prop} (k : K (blE l[i])) : LdN w (adAt a (i : Int) 64) 64 K := by
  obtain ⟨B, hB, hc⟩ := h.row encBl i l[i] (List.getElem?_eq_getElem hi)
  subst hB
  refine LdN_in (blE_len _) (fun j u hu => ?_) k
  have := hc j u hu
  simpa [adAt] using this
theorem okBl (b : Bk) : okCells (blE b) 64 = true := by
  have h1 := blE_len b
  have h2 : allOne (blE b) = true := by
    unfold allOne
    rw [List.all_eq_true]
    exact fun v hv => encBl.one b v hv
  unfold okCells
  rw [h1, h2]; rfl
theorem f119_ok (n : Nat) (d : Dk) (F : List Nat) (i : Int) (w : World) (h : Dsk w n d F) :
    Ct Try.prog 119 #[.pointer (some ⟨n, 0, none⟩), .int .i64 i] w fun v w' =>
      ((∃ (h0 : 0 ≤ i) (h1 : i.toNat < d.bl.length) (a : Option Addr), v = .tuple #[.slice a 64 64, .int .i64 0] ∧ OwnL w' w.heap.size 252 1 b1 a 64 d.bl[i.toNat].1) ∨ (¬ (0 ≤ i ∧ i < d.bl.length) ∧ v = .tuple #[.slice none 0 0, .int .i64 2])) ∧ Md [] w w' := by
  apply f119_in
  refine in191 h (by simp) fun w2 h2 m2 => If_f <| Bd_in fun b4 hb4 => ⟨fun _ => rfl, Bd_e rfl ?_⟩
  obtain ⟨p, hp, _⟩ := h2
  refine Gd_to (fun u w' => (b4 = false → u = (p.a, d.bl.length, p.c)) ∧ w' = w2) (fun u w13 hJ => ?_) (fun fin hc => hp.blk.ld rfl <| opL_in <| fin _ _ ⟨fun _ => rfl, rfl⟩) (fun hc => ⟨fun h => by simp [h] at hc, rfl⟩)
  obtain ⟨hu, rfl⟩ := hJ
  refine Bd_in fun x14 hx14 => Bd_in fun b15 hb15 => Bd_in fun b16 hb16 => If_in (fun hb => ?_) fun hb => ?_
  · refine ⟨.inr ⟨?_, rfl⟩, m2⟩
    rintro ⟨h0, h1⟩
    have e4 : b4 = false := by rw [hb4]; simp; omega
    rw [hb16, e4, cond_false, hb15, hx14, hu e4] at hb
    simp at hb
    omega
  · have hii : 0 ≤ i ∧ i < d.bl.length := by
      cases hc : b4 with
      | true => rw [hb16, hc] at hb; simp at hb
      | false =>
        rw [hb16, hc, cond_false, hb15, hx14, hu hc] at hb
        rw [hc] at hb4
        simp at hb hb4
        exact ⟨by omega, by omega⟩
    obtain ⟨m, rfl⟩ := Int.eq_ofNat_of_zero_le hii.1
    have hm : m < d.bl.length := by omega
    refine hp.blk.ld rfl <| opL_in ⟨(hp.bl.row encBl).ix hm, LdN_blk hp.bl hm <| Bd_in fun cs hcs => ?_⟩
    subst hcs
    refine ⟨by simp [blE_len], fun n24 w25 e24 e25 => ?_⟩
    subst e24; subst e25
    have hma : Md [] w13 (w13.alloc (.cells (zeroL Try.prog 252).toArray 252)) := Md.alloc w13 _
    have hblk : Blk (w13.alloc (.cells (zeroL Try.prog 252).toArray 252)) w13.heap.size 252 (zeroL Try.prog 252) := heap_alloc_new w13 _
    have hzl : (zeroL Try.prog 252).length = 64 := by rw [zero252]; simp
    have hset : Blk (setCells (w13.alloc (.cells (zeroL Try.prog 252).toArray 252)) ⟨w13.heap.size, 0, none⟩ 0 (blE d.bl[m])) w13.heap.size 252 (blE d.bl[m]) := by
      rcases wrL_run (m := 0) (cells := []) (o := 0) (vs := []) (b := w13.heap.size) (ty := 252) (blE d.bl[m]) 0 (zeroL Try.prog 252) _ hblk with h' | h'
      · have e : wrL (zeroL Try.prog 252) (0 + 0) (blE d.bl[m]) = blE d.bl[m] := by
          unfold wrL
          rw [blE_len, List.take_zero, List.nil_append, List.drop_of_length_le (by omega), List.append_nil]
        rw [e] at h'
        exact h'
      · rw [blE_len, hzl] at h'; omega
    have hmd := Md_setCells (w := w13.alloc (.cells (zeroL Try.prog 252).toArray 252)) w13.heap.size 0 (blE d.bl[m])
    refine OkC_in (okBl _) ⟨by simp, hblk.wr (by omega), RunW_in0 (slice_arr64 _ _) <| opL_in ⟨.inl ⟨by omega, by simpa using hm, _, rfl, arr_row hset d.bl[m].2.1 m2.size⟩, (m2.trans hma).old hmd (by have := m2.size; simp; omega)⟩⟩
end Fk
