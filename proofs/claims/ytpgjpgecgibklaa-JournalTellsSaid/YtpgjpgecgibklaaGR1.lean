/- Contracts of functions, and plain laws: several texts, joined. -/
import Derived.Test.YtpgjpgecgibklaaGR0
import Derived.Laws.Externs
import Derived.Lib.MakeNoZero
import Derived.Laws.Concat
import Derived.Test.YtpgjpgecgibklaaGK2
import Derived.WalkSmall
import Derived.Test.YtpgjpgecgibklaaGV0
set_option linter.unusedVariables false
set_option linter.unusedSimpArgs false
set_option maxRecDepth 100000
namespace Fk
open Go Go.Proofs Go.RowKit
theorem blE_get {b : Bk} {j x : Nat} (h : b.1[j]? = some x) : (blE b)[j]? = some (.int .u8 (x : Int)) := by
  have hj := (List.getElem?_eq_some_iff.1 h).1
  have := encb1.at b.1 j 0 x h (by omega)
  rw [Nat.mul_one, Nat.add_zero] at this
  exact this
def bytesB (l : List Bk) : List Nat := l.flatMap (·.1)
theorem bytesB_len (l : List Bk) : (bytesB l).length = l.length * 64 := by
  induction l with
  | nil => rfl
  | cons b l ih => unfold bytesB at ih ⊢; rw [List.flatMap_cons, List.length_append, ih, b.2.1, List.length_cons]; omega
theorem bytesB_lt (l : List Bk) : ∀ x ∈ bytesB l, x < 256 := by
  intro x hx
  obtain ⟨b, _, h⟩ := List.mem_flatMap.1 hx
  exact b.2.2 x h
theorem bytesB_take {l : List Bk} {i : Nat} (hi : i < l.length) : bytesB (l.take (i + 1)) = bytesB (l.take i) ++ l[i].1 := by
  unfold bytesB
  rw [List.take_succ_eq_append_getElem hi, List.flatMap_append]; simp
def Dk.all (d : Dk) : List Nat := bytesB d.bl
theorem f104_ok (n : Nat) (d : Dk) (F : List Nat) (w : World) (h : Dsk w n d F) :
    Ct Try.prog 104 #[.pointer (some ⟨n, 0, none⟩)] w fun v w' => (∃ a c, v = .slice a d.all.length c ∧ OwnL w' w.heap.size 5 1 b1 a c d.all) ∧ Md [] w w' := by
  apply f104_in
  refine in191 h (by simp) fun w2 h2 m2 => If_f ?_
  obtain ⟨p, hp, _⟩ := h2
  refine hp.blk.ld rfl <| opL_in <| Bd_e rfl ?_
  have hlen := hp.len
  refine LoopP_in (fun m us vs w' => ∃ (i : Nat) (a : Option Addr) (c : Nat), us = [.slice a (bytesB (d.bl.take i)).length c, .int .i64 i] ∧ m = d.bl.length - i ∧ i ≤ d.bl.length ∧ PS w2 w' a c (bytesB (d.bl.take i))) d.bl.length
    ⟨0, none, 0, rfl, rfl, by omega, ⟨Md.refl _ _, OwnL.nil ..⟩⟩ ?_
  rintro m us vs w13 ⟨i, a, c, rfl, rfl, hi, S⟩
  refine opL_in <| opI_in <| Bd_in fun b18 hb18 => If_in (fun hb => ?_) fun hb => ?_
  · have hi' : i < d.bl.length := by rw [hb18] at hb; simpa using hb
    have hp' := hp.md S.md (by simp)
    have hrow := hp'.bl.row encBl
    refine hp'.blk.ld rfl <| opL_in ⟨hrow.ix hi', RunW_in0 (slice_arr64 w13 _) <| opL_in ?_⟩
    have hbl := bytesB_len (d.bl.take i)
    rw [List.length_take] at hbl
    refine S.appC _ 64 64 d.bl[i].1 d.bl[i].2.1 (fun j x hx => ?_) (by simp) (by omega) fun a' c' w' S' _ => opL_in <| Bd_e (inc_i64 (by omega)) ⟨d.bl.length - (i + 1), by omega, i + 1, a', c', by rw [bytesB_take hi'], rfl, by omega, by rw [bytesB_take hi']; exact S'⟩
    obtain ⟨B, hB, hc⟩ := hrow i d.bl[i] (List.getElem?_eq_getElem hi')
    rw [hB]
    have := hc j _ (blE_get hx)
    simpa [adAt] using this
  · have hi' : i = d.bl.length := by rw [hb18] at hb; have : ¬ i < d.bl.length := by simpa using hb
                                     omega
    subst hi'
    rw [List.take_length] at S ⊢
    exact ⟨⟨a, c, rfl, S.own.down m2.size⟩, m2.trans S.md⟩
theorem in104 {L : List Nat} {n : Nat} {d : Dk} {F : List Nat} {w : World} {K : Option Addr → Nat → Nat → World → Prop} (h : Dsk w n d F) (hL : ∀ b ∈ L, b < w.heap.size)
    (k : ∀ a c w', Dsk w' n d F → Md [] w w' → OwnL w' w.heap.size 5 1 b1 a c d.all → K a d.all.length c w') :
    CallW Try.prog L 104 #[.pointer (some ⟨n, 0, none⟩)] (fun v w' => opL v fun a n c => K a n c w') w := by
  refine (f104_ok n d F w h).call hL ?_
  rintro v w' ⟨a, c, rfl, ho⟩ h'
  exact opL_in (k a c w' (h.md0 h') h' ho)
def newDk (n : Nat) : Dk := ⟨List.replicate n zBk, [], 0⟩
theorem made252 (n : Nat) : (madeCells (Value.agg (Array.replicate 64 (.int .u8 0))).cells (n * 64)).toList = (List.replicate n zBk).flatMap blE := by
  have hz : ∀ k : Nat, (List.replicate k (0 : Nat)).flatMap b1 = List.replicate k (Value.int .u8 0) := by
    intro k; induction k with
    | zero => rfl
    | succ k ih => rw [List.replicate_succ, List.flatMap_cons, ih]; rfl
  have h1 : (List.replicate n zBk).flatMap blE = List.replicate (n * 64) (Value.int .u8 0) := by
    induction n with
    | zero => rfl
    | succ n ih =>
      rw [List.replicate_succ, List.flatMap_cons, ih]
      have : blE zBk = List.replicate 64 (Value.int .u8 0) := hz 64
      rw [this, List.replicate_append_replicate]
      congr 1; omega
  rw [h1]
  apply List.ext_getElem
  · simp [madeCells]
  · intro i h1 h2
    have : i % 64 < 64 := Nat.mod_lt _ (by omega)
    simp [madeCells, Value.cells]
    rw [getElem!_pos _ _ (by simpa using this)]
    simp
theorem f109_ok (x : Int) (w : World) : Ct Try.prog 109 #[.int .i64 x] w fun v w' =>
    ((1 ≤ x ∧ x ≤ 65536 ∧ ∃ n F, v = .tuple #[.pointer (some ⟨n, 0, none⟩), .int .i64 0] ∧ Dsk w' n (newDk x.toNat) F ∧ ∀ b ∈ F, w.heap.size ≤ b) ∨ (¬ (1 ≤ x ∧ x ≤ 65536) ∧ v = .tuple #[.pointer none, .int .i64 2])) ∧ Md [] w w' := by
  apply f109_in
  refine Bd_in fun b1' hb1 => Bd_in fun b2 hb2 => Bd_in fun b3 hb3 => If_in (fun h => ?_) fun h => ?_
  · refine ⟨.inr ⟨?_, rfl⟩, Md.refl _ _⟩
    rw [hb3, hb1, hb2] at h
    by_cases h1 : x < 1
    · omega
    · simp [h1] at h; omega
  · have hx : 1 ≤ x ∧ x ≤ 65536 := by
      rw [hb3, hb1, hb2] at h
      by_cases h1 : x < 1
      · simp [h1] at h
      · simp [h1] at h; omega
    obtain ⟨m, rfl⟩ := Int.eq_ofNat_of_zero_le (by omega : 0 ≤ x)
    have h5 : (Try.prog.info? 252).isSome = true := by kernel_rfl
    obtain ⟨i5, hi5⟩ := Option.isSome_iff_exists.1 h5
    have hz5 : (Try.prog.info? 252).bind (·.zero) = some (.agg (Array.replicate 64 (.int .u8 0))) := by kernel_rfl
    have hs5 : (Try.prog.info? 252).map (fun i => (i.size, i.bytes)) = some (64, 64) := by kernel_rfl
    rw [hi5] at hz5 hs5
    simp only [Option.bind_some, Option.map_some, Option.some.injEq, Prod.mk.injEq] at hz5 hs5
    obtain ⟨w3, hrun, hown, hgr⟩ := run_makeSlice_full (P := Try.prog) w w.heap.size 152 252 i5 _ 64 (by kernel_rfl) hi5 hz5 hs5.1 .i64 .i64 m (by omega) (by rw [hs5.2]; omega) (by simp [maxLen]; omega) (Nat.le_refl _)
    have hm3 : Md [] w w3 := Md_of_grown hgr
    rw [made252] at hown
    have hb0 := World.ownsRow.lt hown w.heap.size rfl
    refine RunW_in hrun (fun b hb => by simp at hb) <| opL_in fun n9 w10 e9 e10 => ?_
    subst e9; subst e10
    have hma : Md [] w3 (w3.alloc (.cells #[.slice (some ⟨w.heap.size, 0, none⟩) m m, .slice none 0 0, .int .i64 0] 155)) := Md.alloc w3 _
    refine ⟨.inl ⟨by omega, by omega, w3.heap.size, _, rfl, ⟨⟨some ⟨w.heap.size, 0, none⟩, m, none, 0⟩, ?_, rfl⟩, ?_⟩, hm3.trans hma⟩
    · have ho : OwnL w3 0 252 64 blE (some ⟨w.heap.size, 0, none⟩) m (List.replicate m zBk) := by
        have := OwnL.down (enc := blE) (l := List.replicate m zBk) (a := some ⟨w.heap.size, 0, none⟩) (c := m) (w := w3) (e := 252) (size := 64) (base := w.heap.size) (by unfold OwnL; rw [List.length_replicate]; exact hown) (Nat.zero_le _)
        exact this
      refine ⟨?_, ho.md hma, OwnL.nil .., rfl, ?_, fun A hA => (by cases hA), fun A B hA hB => (by cases hB), ?_, fun y hy => (by simp [newDk] at hy), by simp [newDk]⟩
      · have := heap_alloc_new w3 (.cells #[.slice (some ⟨w.heap.size, 0, none⟩) m m, .slice none 0 0, .int .i64 0] 155)
        simp only [newDk, List.length_replicate, Int.toNat_natCast, List.length_nil]
        exact this
      · intro A hA; cases hA; simp; omega
      · simp [newDk]; omega
    · intro b hb
      simp [fp] at hb
      have := hm3.size
      omega
theorem zero252 : zeroL Try.prog 252 = List.replicate 64 (Value.int .u8 0) := by kernel_rfl
theorem arr_row {w : World} {n : Nat} {l : List Nat} (h : Blk w n 252 (l.flatMap b1)) (hl : l.length = 64) {base : Nat} (hb : base ≤ n) : OwnL w base 252 1 b1 (some ⟨n, 0, none⟩) 64 l := by
  refine ⟨by rw [encb1.lenL], .inr ⟨n, 64, (l.flatMap b1).toArray, by rw [hl], hb, h, by omega, by simp [maxLen], by rw [List.size_toArray, encb1.lenL, hl], ?_⟩⟩
  have : (l.flatMap b1).length = l.length * 1 := encb1.lenL l
  simp only [← this, List.take_length]
theorem LdN_blk {w : World} {a : Option Addr} {c : Nat} {l : List Bk} {base : Nat} {e : TypeId} (h : OwnL w base e 64 blE a c l) {i : Nat} (hi : i < l.length) {K : List Value → Prop} (k : K (blE l[i])) : LdN w (adAt a (i : Int) 64) 64 K := by
  obtain ⟨B, hB, hc⟩ := h.row encBl i l[i] (List.getElem?_eq_getElem hi)
  subst hB
  refine LdN_in (blE_len _) (fun j u hu => ?_) k
  have := hc j u hu
  simpa [adAt] using this
theorem okBl (b : Bk) : okCells (blE b) 64 = true := by
  have h1 := blE_len b
  have h2 : allOne (blE b) = true := by
    unfold allOne
    rw [List.all_eq_true]
    exact fun v hv => encBl.one b v hv
  unfold okCells
  rw [h1, h2]; rfl
theorem f119_ok (n : Nat) (d : Dk) (F : List Nat) (i : Int) (w : World) (h : Dsk w n d F) :
    Ct Try.prog 119 #[.pointer (some ⟨n, 0, none⟩), .int .i64 i] w fun v w' =>
      ((∃ (h0 : 0 ≤ i) (h1 : i.toNat < d.bl.length) (a : Option Addr), v = .tuple #[.slice a 64 64, .int .i64 0] ∧ OwnL w' w.heap.size 252 1 b1 a 64 d.bl[i.toNat].1) ∨ (¬ (0 ≤ i ∧ i < d.bl.length) ∧ v = .tuple #[.slice none 0 0, .int .i64 2])) ∧ Md [] w w' := by
  apply f119_in
  refine in191 h (by simp) fun w2 h2 m2 => If_f <| Bd_in fun b4 hb4 => ⟨fun _ => rfl, Bd_e rfl ?_⟩
  obtain ⟨p, hp, _⟩ := h2
  refine Gd_to (fun u w' => (b4 = false → u = (p.a, d.bl.length, p.c)) ∧ w' = w2) (fun u w13 hJ => ?_) (fun fin hc => hp.blk.ld rfl <| opL_in <| fin _ _ ⟨fun _ => rfl, rfl⟩) (fun hc => ⟨fun h => by simp [h] at hc, rfl⟩)
  obtain ⟨hu, rfl⟩ := hJ
  refine Bd_in fun x14 hx14 => Bd_in fun b15 hb15 => Bd_in fun b16 hb16 => If_in (fun hb => ?_) fun hb => ?_
  · refine ⟨.inr ⟨?_, rfl⟩, m2⟩
    rintro ⟨h0, h1⟩
    have e4 : b4 = false := by rw [hb4]; simp; omega
    rw [hb16, e4, cond_false, hb15, hx14, hu e4] at hb
    simp at hb
    omega
  · have hii : 0 ≤ i ∧ i < d.bl.length := by
      cases hc : b4 with
      | true => rw [hb16, hc] at hb; simp at hb
      | false =>
        rw [hb16, hc, cond_false, hb15, hx14, hu hc] at hb
        rw [hc] at hb4
        simp at hb hb4
        exact ⟨by omega, by omega⟩
    obtain ⟨m, rfl⟩ := Int.eq_ofNat_of_zero_le hii.1
    have hm : m < d.bl.length := by omega
    refine hp.blk.ld rfl <| opL_in ⟨(hp.bl.row encBl).ix hm, LdN_blk hp.bl hm <| Bd_in fun cs hcs => ?_⟩
    subst hcs
    refine ⟨by simp [blE_len], fun n24 w25 e24 e25 => ?_⟩
    subst e24; subst e25
    have hma : Md [] w13 (w13.alloc (.cells (zeroL Try.prog 252).toArray 252)) := Md.alloc w13 _
    have hblk : Blk (w13.alloc (.cells (zeroL Try.prog 252).toArray 252)) w13.heap.size 252 (zeroL Try.prog 252) := heap_alloc_new w13 _
    have hzl : (zeroL Try.prog 252).length = 64 := by rw [zero252]; simp
    have hset : Blk (setCells (w13.alloc (.cells (zeroL Try.prog 252).toArray 252)) ⟨w13.heap.size, 0, none⟩ 0 (blE d.bl[m])) w13.heap.size 252 (blE d.bl[m]) := by
      rcases wrL_run (m := 0) (cells := []) (o := 0) (vs := []) (b := w13.heap.size) (ty := 252) (blE d.bl[m]) 0 (zeroL Try.prog 252) _ hblk with h' | h'
      · have e : wrL (zeroL Try.prog 252) (0 + 0) (blE d.bl[m]) = blE d.bl[m] := by
          unfold wrL
          rw [blE_len, List.take_zero, List.nil_append, List.drop_of_length_le (by omega), List.append_nil]
        rw [e] at h'
        exact h'
      · rw [blE_len, hzl] at h'; omega
    have hmd := Md_setCells (w := w13.alloc (.cells (zeroL Try.prog 252).toArray 252)) w13.heap.size 0 (blE d.bl[m])
    refine OkC_in (okBl _) ⟨by simp, hblk.wr (by omega), RunW_in0 (slice_arr64 _ _) <| opL_in ⟨.inl ⟨by omega, by simpa using hm, _, rfl, arr_row hset d.bl[m].2.1 m2.size⟩, (m2.trans hma).old hmd (by have := m2.size; simp; omega)⟩⟩
end Fk
set_option linter.unusedVariables false
set_option linter.unusedSimpArgs false
set_option maxRecDepth 100000
namespace Fk
open Go Go.Proofs Go.RowKit
def mkBk (b : List Nat) : Bk := if h : b.length = 64 ∧ ∀ x ∈ b, x < 256 then ⟨b, h⟩ else zBk
theorem mkBk_val {b : List Nat} (h : b.length = 64) (h2 : ∀ x ∈ b, x < 256) : (mkBk b).1 = b := by
  have e : mkBk b = ⟨b, h, h2⟩ := dif_pos ⟨h, h2⟩
  rw [e]
def getB (l : List Bk) (i : Nat) : Bk := l.getD i zBk
theorem getB_eq {l : List Bk} {i : Nat} (h : i < l.length) : getB l i = l[i] := by unfold getB; simp [h]
/-- A write. -/
def Dk.put (d : Dk) (i : Nat) (b : Bk) : Dk := ⟨d.bl.set i b, d.pd ++ [⟨i, b, getB d.bl i⟩], d.rf⟩
def Dk.write (d : Dk) (i : Int) (b : List Nat) : Dk × Int :=
  if ¬ (0 ≤ i ∧ i < d.bl.length ∧ b.length = 64) then (d, 2) else if d.stepD.2 = true then (d.stepD.1.put i.toNat (mkBk b), 0) else (d.stepD.1, 200)
theorem stepD_bl (d : Dk) : d.stepD.1.bl = d.bl ∧ d.stepD.1.pd = d.pd := by unfold Dk.stepD; split <;> exact ⟨rfl, rfl⟩
theorem zero254 : zeroL Try.prog 254 = [Value.int .i64 0] ++ (List.replicate 64 (Value.int .u8 0) ++ (List.replicate 64 (Value.int .u8 0) ++ [])) := by kernel_rfl
theorem built254 (i : Int) (y z : List Value) (hy : y.length = 64) (hz : z.length = 64) : Try.prog.built 254 [(0, .int .i64 i), (1, .agg y.toArray), (2, .agg z.toArray)] = some ((.int .i64 i) :: (y ++ z)).toArray := by
  have hb : ∀ parts, Try.prog.built 254 parts = Instr.fill (#[(0, 1), (1, 64), (65, 64)][·]?) (zeroL Try.prog 254).toArray parts := fun parts => by kernel_rfl
  rw [hb, zero254, fill_step' (off := 0) (size := 1) rfl rfl (by simp)]
  have e1 : wrL ([Value.int .i64 0] ++ (List.replicate 64 (Value.int .u8 0) ++ (List.replicate 64 (Value.int .u8 0) ++ []))) 0 (Value.int .i64 i).cells.toList = [Value.int .i64 i] ++ (List.replicate 64 (Value.int .u8 0) ++ (List.replicate 64 (Value.int .u8 0) ++ [])) := wrL_all rfl
  rw [e1, fill_step' (off := 1) (size := 64) rfl (by simpa [Value.cells] using hy) (by simp)]
  have e2 : wrL ([Value.int .i64 i] ++ (List.replicate 64 (Value.int .u8 0) ++ (List.replicate 64 (Value.int .u8 0) ++ []))) 1 (Value.agg y.toArray).cells.toList = [Value.int .i64 i] ++ (y ++ (List.replicate 64 (Value.int .u8 0) ++ [])) :=
    wrL_mid (a := [Value.int .i64 i]) (by simpa [Value.cells] using hy)
  rw [e2, fill_step' (off := 65) (size := 64) rfl (by simpa [Value.cells] using hz) (by simp [hy])]
  have e3 : wrL ([Value.int .i64 i] ++ (y ++ (List.replicate 64 (Value.int .u8 0) ++ []))) 65 (Value.agg z.toArray).cells.toList = [Value.int .i64 i] ++ (y ++ (z ++ [])) := by
    have := wrL_mid (a := [Value.int .i64 i] ++ y) (d := List.replicate 64 (Value.int .u8 0)) (c := []) (b := z) (by simpa using hz)
    have hl : ([Value.int .i64 i] ++ y).length = 65 := by simp [hy]
    rw [hl] at this
    simpa [List.append_assoc, Value.cells] using this
  rw [e3, Instr.fill]
  simp
theorem LdN_row {w : World} {A : Addr} {b : List Nat} (h : RowAt w (some A) 1 b1 b) {n : Nat} (hl : b.length = n) {K : List Value → Prop} (k : K (b.flatMap b1)) : LdN w A n K := by
  refine LdN_in (by rw [encb1.lenL, hl, Nat.mul_one]) (fun j u hu => ?_) k
  have hj : j < b.length := by have := (List.getElem?_eq_some_iff.1 hu).1; rw [encb1.lenL] at this; omega
  have h1 := encb1.at b j 0 b[j] (List.getElem?_eq_getElem hj) (by omega)
  rw [Nat.mul_one, Nat.add_zero] at h1
  rw [h1] at hu
  obtain ⟨B, hB, hc⟩ := h j b[j] (List.getElem?_eq_getElem hj)
  cases hB
  have := hc 0 u hu
  rw [addr_add0, Nat.mul_one] at this
  exact this
theorem Md.fr {F F' : List Nat} {w w1 w2 : World} (h1 : Md F w w1) (h2 : Md F' w1 w2) (hf : Fr w F F') : Md F w w2 :=
  ⟨h2.os.trans h1.os, h2.tape.trans h1.tape, h2.output.trans h1.output, Nat.le_trans h1.size h2.size, fun k hk hm =>
    (h2.blk k (Nat.lt_of_lt_of_le hk h1.size) fun hm' => by rcases hf k hm' with h | h; exact hm h; omega).trans (h1.blk k hk hm)⟩
/-- Pending writes are appended to. -/
theorem DkAt.appPd {w w' : World} {n : Nat} {p : DkS} {d : Dk} (h : DkAt w n p d) {x : Wt} {a' : Option Addr} {c' : Nat} (ho : OwnL w' 0 254 129 wtE a' c' (d.pd ++ [x])) (hm : Md (p.pa.map (·.block)).toList w w')
    (hA : ∀ A, a' = some A → p.pa = some A ∨ w.heap.size ≤ A.block) (hx : x.i < d.bl.length) :
    Wr w' ((Addr.mk n 0 none).add 1) 1 ∧ DkAt (setCells w' ((Addr.mk n 0 none).add 1) 0 [.slice a' (d.pd ++ [x]).length c']) n ⟨p.a, p.c, a', c'⟩ { d with pd := d.pd ++ [x] } ∧
      Md (fp n p) w (setCells w' ((Addr.mk n 0 none).add 1) 0 [.slice a' (d.pd ++ [x]).length c']) ∧ Fr w (fp n p) (fp n ⟨p.a, p.c, a', c'⟩) := by
  rw [ad0]
  have hn : n < w.heap.size := h.blk.lt
  have hnp : n ∉ (p.pa.map (·.block)).toList := by
    intro hmem
    cases hpa : p.pa with
    | none => rw [hpa] at hmem; simp at hmem
    | some A => rw [hpa] at hmem; simp at hmem; exact h.d2 A hpa hmem.symm
  have hblk := h.blk.md hm hnp
  have hm2 := Md_setCells (w := w') n 1 [.slice a' (d.pd ++ [x]).length c']
  obtain ⟨k1, k2⟩ := own_keep h.bl hm hA (Apt.symm h.d3)
  have ha'n : ∀ A, a' = some A → A.block ≠ n := by
    intro A hA'
    rcases hA A hA' with h1 | h1
    · exact h.d2 A h1
    · omega
  refine ⟨hblk.wr (by simp), ⟨?_, k1.mdD hm2 fun A hA' => by have := h.d1 A hA'; simpa using this, ho.mdD hm2 fun A hA' => by have := ha'n A hA'; simpa using this, h.isD, h.d1, ha'n, k2.symm, h.len, ?_, h.rf0⟩, ?_, ?_⟩
  · have := hblk.set (j := 1) (by simp) (.slice a' (d.pd ++ [x]).length c')
    simpa using this
  · intro y hy
    rcases List.mem_append.1 hy with hy | hy
    · exact h.ix y hy
    · simp at hy; subst hy; exact hx
  · exact (hm.mono (by intro b hb; simp [fp]; right; right; simpa using hb)).trans (hm2.mono (by simp [fp]))
  · intro b hb
    simp only [fp, List.mem_cons, List.mem_append] at hb ⊢
    rcases hb with hb | hb | hb
    · exact .inl (.inl hb)
    · exact .inl (.inr (.inl hb))
    · obtain ⟨A, hA', rfl⟩ : ∃ A, a' = some A ∧ A.block = b := by
        cases ha : a' with
        | none => rw [ha] at hb; simp at hb
        | some A => rw [ha] at hb; simp at hb; exact ⟨A, rfl, hb.symm⟩
      rcases hA A hA' with h1 | h1
      · exact .inl (.inr (.inr (by rw [h1]; simp)))
      · exact .inr h1
theorem DkAt.setBl {w : World} {n : Nat} {p : DkS} {d : Dk} (h : DkAt w n p d) {i : Nat} (hi : i < d.bl.length) (b : Bk) :
    (adAt p.a (i : Int) 64).block ∈ fp n p ∧ Wr w (adAt p.a (i : Int) 64) 64 ∧ DkAt (setCells w (adAt p.a (i : Int) 64) 0 (blE b)) n p { d with bl := d.bl.set i b } ∧ Md (fp n p) w (setCells w (adAt p.a (i : Int) 64) 0 (blE b)) := by
  obtain ⟨A, hA, h1, h2, h3, h4, h5, h6⟩ := h.bl.put encBl (by omega) hi b
  have hAm : A.block ∈ fp n p := by simp [fp, hA]
  refine ⟨by rw [h3]; exact hAm, h4, ⟨?_, h5, h.pd.mdD h6 fun B hB => by have := h.d3 A B hA hB; simpa using this.symm, h.isD, h.d1, h.d2, h.d3, by simpa using h.len, fun x hx => by simpa using h.ix x hx, h.rf0⟩, h6.mono (by simpa using hAm)⟩
  have := h.blk.md h6 (by have := h.d1 A hA; simpa using this.symm)
  simpa using this
theorem f114_ok (n : Nat) (d : Dk) (F : List Nat) (i : Int) (a : Option Addr) (c : Nat) (b : List Nat) (hbb : ∀ x ∈ b, x < 256) (hbl : b.length < 2 ^ 40) (hpd : d.pd.length < 2 ^ 30) (w : World) (h : Dsk w n d F) (hr : RowAt w a 1 b1 b) (hab : ∀ A, a = some A → A.block ∉ F) :
    Ct Try.prog 114 #[.pointer (some ⟨n, 0, none⟩), .int .i64 i, .slice a b.length c] w fun v w' => (v = .int .i64 (d.write i b).2 ∧ ∃ F', Dsk w' n (d.write i b).1 F' ∧ Fr w F F') ∧ Md F w w' := by
  apply f114_in
  refine in191 h (by simp) fun w2 h2 m2 => If_f <| Bd_in fun b4 hb4 => ⟨fun _ => rfl, Bd_e rfl ?_⟩
  have hD2 := h2
  obtain ⟨p, hp, rfl⟩ := h2
  refine Gd_to (fun u w' => (b4 = false → u = (p.a, d.bl.length, p.c)) ∧ w' = w2) (fun u w13 hJ => ?_) (fun fin hc => hp.blk.ld rfl <| opL_in <| fin _ _ ⟨fun _ => rfl, rfl⟩) (fun hc => ⟨fun h => by simp [h] at hc, rfl⟩)
  obtain ⟨hu, rfl⟩ := hJ
  refine Bd_in fun x14 hx14 => Bd_in fun b15 hb15 => Bd_in fun b16 hb16 => Bd_in fun x17 hx17 => Bd_in fun b18 hb18 => Bd_in fun b19 hb19 => ?_
  have e19 : b19 = !decide (0 ≤ i ∧ i < d.bl.length ∧ b.length = 64) := by
    have e18 : b18 = !decide (b.length = 64) := by rw [hb18, hx17, Bool.eq_iff_iff]; simp; omega
    rw [hb19, hb16, e18]
    cases hc : b4 with
    | true =>
      rw [hc] at hb4
      have : i < 0 := by simpa using hb4.symm
      have : ¬ (0 ≤ i ∧ i < d.bl.length ∧ b.length = 64) := by omega
      simp [this]
    | false =>
      rw [hc] at hb4
      have h0 : ¬ i < 0 := by simpa using hb4.symm
      rw [hb15, hx14, hu hc]
      by_cases h1 : i < d.bl.length
      · have h1' : ¬ (i ≥ (d.bl.length : Int)) := by omega
        have h0' : 0 ≤ i := by omega
        simp [h1, h1', h0']
      · have h1' : i ≥ (d.bl.length : Int) := by omega
        simp [h1, h1']
  refine If_in (fun hb => ?_) fun hb => ?_
  · have hno := (not_eq_of e19).1 hb
    rw [decide_eq_false_iff_not] at hno
    refine ⟨⟨by unfold Dk.write; rw [if_pos hno], fp n p, by unfold Dk.write; rw [if_pos hno]; exact ⟨p, hp, rfl⟩, Fr.refl _ _⟩, m2.mono (by simp)⟩
  have hyes := (not_eq_of e19).2 hb
  rw [decide_eq_true_eq] at hyes
  obtain ⟨h0, h1, h64⟩ := hyes
  obtain ⟨m, rfl⟩ := Int.eq_ofNat_of_zero_le h0
  have hm : m < d.bl.length := by omega
  have ew : d.write (m : Int) b = if d.stepD.2 = true then (d.stepD.1.put m (mkBk b), 0) else (d.stepD.1, 200) := by
    unfold Dk.write
    rw [if_neg (by intro h; exact h ⟨h0, h1, h64⟩)]
    rfl
  rw [ew]
  refine in192 hD2 (by simp) (by simp) fun w21 h21 m21 => Bd_in fun b23 hb23 => If_in (fun hb => ?_) fun hb => ?_
  · have hs : d.stepD.2 = false := by rw [hb23] at hb; simpa using hb
    rw [hs]
    exact ⟨⟨rfl, fp n p, h21, Fr.refl _ _⟩, (m2.mono (by simp)).trans m21⟩
  have hs : d.stepD.2 = true := by rw [hb23] at hb; simpa using hb
  rw [hs]
  obtain ⟨sb, sp⟩ := stepD_bl d
  obtain ⟨q, hq, hqF⟩ := h21
  have mw21 : Md (fp n p) w w21 := (m2.mono (by simp)).trans m21
  have hm' : m < d.stepD.1.bl.length := by rw [sb]; exact hm
  have hval := mkBk_val h64 hbb
  have hrow21 : RowAt w21 a 1 b1 b := hr.mdE mw21 fun A hA _ => hab A hA
  obtain ⟨A, rfl⟩ : ∃ A, a = some A := by obtain ⟨A, hA, _⟩ := hr 0 b[0] (List.getElem?_eq_getElem (by omega)); exact ⟨A, hA⟩
  have hblE : b.flatMap b1 = blE (mkBk b) := by unfold blE; rw [hval]
  generalize hD : d.stepD.1 = D at *
  generalize hB : mkBk b = B at *
  refine ⟨fun w' => Md [] w21 w', Md_drew _, A, fun w' hw => ⟨run_arr w' (some A) _ c (by omega)⟩, .agg (blE B).toArray, fun w' hw => LdN_row (hrow21.md hw) h64 (by rw [hblE]), opBig_in ⟨by simp [blE_len], ?_⟩⟩
  refine ⟨.slice q.a D.bl.length q.c, fun w' hw => (hq.md hw (by simp)).blk.ld rfl rfl, opL_in ⟨(hq.bl.row encBl).ix hm', .agg (blE D.bl[m]).toArray, fun w' hw => LdN_blk (hq.md hw (by simp)).bl hm' rfl, opBig_in ⟨by simp [blE_len], ?_⟩⟩⟩
  refine ⟨.agg (wtE ⟨m, B, D.bl[m]⟩).toArray, fun w' hw => ⟨run_build w' 254 _ _ (built254 _ _ _ (blE_len _) (blE_len _))⟩, opBig_in ⟨by simp [encWt.len], fun n50 hn50 w51 h51 hL51 => ⟨(Md_drew w21).trans h51, ?_⟩⟩⟩
  have hn50' : w21.heap.size ≤ n50 := hn50
  have m51 : Md [] w21 w51 := (Md_drew w21).trans h51
  have hok : okCells (Array.toList (wtE ⟨m, B, D.bl[m]⟩).toArray) 129 = true := by
    have h1 := encWt.len ⟨m, B, D.bl[m]⟩
    have h2 : allOne (wtE ⟨m, B, D.bl[m]⟩) = true := by
      unfold allOne
      rw [List.all_eq_true]
      exact fun v hv => encWt.one _ v hv
    show okCells (wtE ⟨m, B, D.bl[m]⟩) 129 = true
    unfold okCells
    rw [h1, h2]; rfl
  refine OkC_in hok fun w52 h52 hL52 => ?_
  have m52 : Md [] w21 w52 := m51.old h52 (by simpa using hn50')
  have hq52 := hq.md m52 (by simp)
  have hqlt := hq.lt
  have hn50q : ∀ x ∈ fp n q, x ≠ n50 := fun x hx e => by have := hqlt x hx; omega
  refine ⟨m52, Jn_in (fun us vs w' => us = [] ∧ vs = [] ∧ n50 < w'.heap.size ∧ ∃ p', DkAt w' n p' { D with pd := D.pd ++ [⟨m, B, D.bl[m]⟩] } ∧ Fr w (fp n p) (fp n p') ∧ Md (fp n p) w w' ∧ n50 ∉ fp n p') ?_ ?_⟩
  · rintro us vs w55 ⟨rfl, rfl, hlt, p', hp', hfr, hmd, hnp⟩
    have hpd' := hp'.md (Md_drew w55) (by simp)
    have e1 : List.take 64 (List.drop 1 (Array.toList (wtE ⟨m, B, D.bl[m]⟩).toArray)) = blE B := by
      simp only [wtE, List.drop_succ_cons, List.drop_zero]
      exact List.take_left' (blE_len B)
    obtain ⟨g1, g2, g3, g4⟩ := hpd'.setBl (i := m) hm' B
    refine ⟨by simp [encWt.len], Bd_e (congrArg List.toArray e1) ⟨by simp [blE_len], hpd'.blk.ld rfl <| opL_in ⟨(hpd'.bl.row encBl).ix hm', OkC_in (okBl B) ⟨?_, g2, ⟨rfl, _, ⟨p', ?_, rfl⟩, hfr⟩, (hmd.trans ((Md_drew _).mono (by simp))).fr g4 hfr⟩⟩⟩⟩
    · intro hmem
      have : (adAt p'.a (m : Int) 64).block = n50 := by simpa using hmem
      exact hnp (this ▸ g1)
    · have : D.put m B = { D with pd := D.pd ++ [⟨m, B, D.bl[m]⟩], bl := D.bl.set m B } := by unfold Dk.put; rw [getB_eq hm']
      rw [this]
      exact g3
  · refine ⟨by simp [encWt.len], ?_⟩
    have hflat : (flat [(0, Value.agg (wtE ⟨m, B, D.bl[m]⟩).toArray)]).toArray.toList = wtE ⟨m, B, D.bl[m]⟩ := by simp [flat, cL, Value.cells]
    have hrow : ∀ (w' : World), Md [] w52 w' → n50 < w'.heap.size → DkAt w' n q D := fun w' hw _ => hq52.md hw (by simp)
    have hlt52 : n50 < w52.heap.size := hL52 n50 (by simp)
    have hpl : D.pd.length < 2 ^ 30 := by rw [sp]; exact hpd
    have frq : Fr w (fp n p) (fp n q) := by rw [hqF]; exact Fr.refl _ _
    have leaf : ∀ w', Md [] w52 w' → Nw (.cells (flat [(0, Value.agg (wtE ⟨m, B, D.bl[m]⟩).toArray)]).toArray 254) w' fun b w'' => RunW Try.prog [n50] (Builtin.append_ #[153, 153] 153 #[.slice q.pa D.pd.length q.pc, .slice (some { block := b, off := 0 }) 1 1])
        (fun v w'' => opL v fun a72 n73 n74 => ¬ n ∈ [n50] ∧ Wr w'' ((Addr.mk n 0 none).add 1) 1 ∧
          (([] : List Value) = [] ∧ ([] : List Value) = [] ∧ n50 < (setCells w'' ((Addr.mk n 0 none).add 1) 0 [.slice a72 n73 n74]).heap.size ∧ ∃ p', DkAt (setCells w'' ((Addr.mk n 0 none).add 1) 0 [.slice a72 n73 n74]) n p' { D with pd := D.pd ++ [⟨m, B, D.bl[m]⟩] } ∧ Fr w (fp n p) (fp n p') ∧ Md (fp n p) w (setCells w'' ((Addr.mk n 0 none).add 1) 0 [.slice a72 n73 n74]) ∧ n50 ∉ fp n p')) w'' := by
      intro w' hw
      have hq' := hq52.md hw (by simp)
      have hs' := hw.size
      refine app_one rowT153 encWt ⟨m, B, D.bl[m]⟩ hflat hq'.pd (Nat.zero_le _) (by simp; omega) (fun b hb A hA e => by
        simp at hb; subst hb
        exact hn50q A.block (by simp [fp, hA]) e) (by simp [maxLen]; omega) (by omega) ?_
      intro a' c' w'' ho hmd hA
      obtain ⟨g1, g2, g3, g4⟩ := hq'.appPd ho hmd hA hm'
      have hsz := (setCells_env [Value.slice a' (D.pd ++ [(⟨m, B, D.bl[m]⟩ : Wt)]).length c'] 0 w'' ((Addr.mk n 0 none).add 1)).2.2.2
      have h1 := hmd.size
      have h2 := mw21.size
      have h3 := m52.size
      refine opL_in ⟨by simpa using hn50q n (by simp [fp]), g1, rfl, rfl, by rw [hsz]; omega, _, g2, ?_, ?_, ?_⟩
      · exact frq.trans g4 (by omega)
      · exact ((mw21.trans (m52.mono (by simp))).trans (hw.mono (by simp))).fr g3 frq
      · intro hmem
        rcases g4 n50 hmem with h | h
        · exact hn50q n50 h rfl
        · omega
    refine ⟨(hq52.md (Md_drew w52) (by simp)).blk.ld rfl <| opL_in <| SzIs_in (by simp [encWt.len]) (leaf w52.drew (Md_drew w52)), SzIs_in (by simp [encWt.len]) fun b w' e1 e2 => ?_⟩
    have hl := leaf w52.drew (Md_drew w52) b w' e1 e2
    subst e1; subst e2
    exact (hq52.md ((Md_drew w52).trans (Md.alloc _ _)) (by simp)).blk.ld rfl <| opL_in hl
end Fk
set_option linter.unusedVariables false
set_option linter.unusedSimpArgs false
set_option maxRecDepth 100000
namespace Fk
open Go Go.Proofs Go.RowKit
def undo (x : Wt) (bl : List Bk) : List Bk := bl.set x.i x.was
def mixB (t : Nat) (a b : Bk) : Bk := ⟨a.1.take t ++ b.1.drop t, by simp [a.2.1, b.2.1]; omega, fun x hx => by
  rcases List.mem_append.1 hx with h | h
  · exact a.2.2 x (List.mem_of_mem_take h)
  · exact b.2.2 x (List.mem_of_mem_drop h)⟩
def Dk.crB (d : Dk) (k t m : Nat) : List Bk := match d.pd.drop m with
  | [] => d.bl
  | x :: r => if m = k then ((x :: r).foldr undo d.bl).set x.i (mixB t x.now x.was) else (x :: r).foldr undo d.bl
/-- A crash. -/
def Dk.crash (d : Dk) (keep torn : Int) : Dk := ⟨d.crB keep.toNat (min torn.toNat 64) keep.toNat, [], 0⟩
theorem undo_len (l : List Wt) (bl : List Bk) : (l.foldr undo bl).length = bl.length := by
  induction l with
  | nil => rfl
  | cons x l ih => rw [List.foldr_cons]; unfold undo; rw [List.length_set]; exact ih
theorem crB_len (d : Dk) (k t m : Nat) : (d.crB k t m).length = d.bl.length := by
  unfold Dk.crB
  split
  · rfl
  · split
    · rw [List.length_set, undo_len]
    · rw [undo_len]
theorem slice_arrh (w : World) (A : Addr) (t : Nat) (h : t ≤ 64) : (Instr.sliceAt 252 (.pointer (some A)) none (some (.int .i64 (t : Int))) none).run Try.prog w = .ok (.slice (some A) t 64) w := by
  have e1 : Try.prog.elem 252 = 5 := by kernel_rfl
  have e2 : Try.prog.arrayLen 252 = 64 := by kernel_rfl
  rw [run_sliceAt_array_h w 252 A (by kernel_rfl) .i64 t (by omega) (by rw [e2]; omega), e1, e2, size5]
  simp [Result.andThen, slicedAt, addr_add0]
theorem wrL_more {X vs rest tail : List Value} {o : Nat} (h : X.drop (o + vs.length) = rest ++ tail) : wrL X o vs = wrL X o (vs ++ rest) := by
  unfold wrL
  have h2 : X.drop (o + (vs ++ rest).length) = tail := by
    rw [List.length_append, ← Nat.add_assoc, ← List.drop_drop, h]
    exact List.drop_left
  rw [h, h2]
  simp
/-- A copy into a row of one's own. -/
theorem own_copy {w : World} {base : Nat} {e : TypeId} {size n c : Nat} {a : Option Addr} {xs : List Value} (h : w.ownsRow base e size (.slice a n c) n xs) (o dLen dCap : Nat) (vs : List Value) (ho : o + vs.length ≤ xs.length) (A : Addr) (ha : a = some A)
    (B : Addr) (sLen sCap : Nat) (hn : vs.length = Nat.min sLen dLen) (hsrc : ∀ j v, vs[j]? = some v → w.cell? (B.add j) = some v) (h1 : ∀ v ∈ vs, v.oneCell' = true) :
    ∃ w', (Builtin.copy_ #[51, 51] 3 #[.slice (some (A.add o)) dLen dCap, .slice (some B) sLen sCap]).run Try.prog w = .ok (goInt vs.length) w' ∧ w'.ownsRow base e size (.slice a n c) n (wrL xs o vs) ∧ Md [A.block] w w' := by
  obtain ⟨hxl, hh⟩ := h
  subst ha
  rcases hh with ⟨hv', hn'⟩ | ⟨g, cap, cur, hv', hb, hg, hnc, hcm, hcs, htk⟩
  · simp at hv'
  · simp only [Value.slice.injEq, Option.some.injEq] at hv'
    obtain ⟨rfl, _, rfl⟩ := hv'
    have hle : n * size ≤ cur.toList.length := by rw [Array.length_toList, hcs]; exact Nat.mul_le_mul_right _ hnc
    have hs5 : (Try.prog.info? 5).map (·.size) = some 1 := by kernel_rfl
    have hr := run_copy_row (P := Try.prog) w 51 51 3 5 g o dLen dCap B sLen sCap cur e vs (by kernel_rfl) hs5 hg hn hsrc (by simp at hle; omega) h1
    rw [ad0]
    refine ⟨_, hr, ?_, Md_setRow _⟩
    refine ⟨by rw [wrL_len ho]; exact hxl, .inr ⟨g, c, (wrL cur.toList o vs).toArray, rfl, hb, ?_, hnc, hcm, ?_, ?_⟩⟩
    · have := setRow_heap w g cur (cur.toList.take o ++ vs ++ cur.toList.drop (o + vs.length)).toArray e (0, 0) hg
      rw [this]
      unfold wrL
      simp
    · simp only [List.size_toArray]
      rw [wrL_len (by omega), Array.length_toList, hcs]
    · simp only
      rw [wrL_take (by omega) hle, htk]
theorem drop_flat {l : List Bk} : ∀ {i : Nat} (hi : i < l.length), (l.flatMap blE).drop (i * 64) = blE l[i] ++ (l.drop (i + 1)).flatMap blE := by
  intro i hi
  have e : l.flatMap blE = (l.take i).flatMap blE ++ (blE l[i] ++ (l.drop (i + 1)).flatMap blE) := by
    conv => lhs; rw [← List.take_append_drop i l, List.drop_eq_getElem_cons hi]
    rw [List.flatMap_append, List.flatMap_cons]
  rw [e]
  exact List.drop_left' (by rw [encBl.lenL, List.length_take]; rw [Nat.min_eq_left (by omega)])
/-- The first bytes of a block are copied. -/
theorem DkAt.copyBl {w : World} {n : Nat} {p : DkS} {d : Dk} (h : DkAt w n p d) {i : Nat} (hi : i < d.bl.length) (x : Bk) {t : Nat} (ht : t ≤ 64) (B : Addr) (hsrc : ∀ j v, ((x.1.take t).flatMap b1)[j]? = some v → w.cell? (B.add j) = some v) :
    ∃ w', (Builtin.copy_ #[51, 51] 3 #[.slice (some (adAt p.a (i : Int) 64)) t 64, .slice (some B) t 64]).run Try.prog w = .ok (.int .i64 t) w' ∧ DkAt w' n p { d with bl := d.bl.set i (mixB t x d.bl[i]) } ∧ Md (p.a.map (·.block)).toList w w' := by
  obtain ⟨A, hA⟩ : ∃ A, p.a = some A := Option.isSome_iff_exists.1 h.isD
  have hl : ((x.1.take t).flatMap b1).length = t := by rw [encb1.lenL, List.length_take, x.2.1]; omega
  have hmul : (i + 1) * 64 ≤ d.bl.length * 64 := Nat.mul_le_mul_right _ hi
  obtain ⟨w', h1, h2, h3⟩ := own_copy h.bl (i * 64) t 64 ((x.1.take t).flatMap b1) (by rw [hl, encBl.lenL]; omega) A hA B t 64 (by rw [hl]; simp) hsrc (fun v hv => encb1.oneL _ v hv)
  have hbo : OwnL w' 0 252 64 blE p.a p.c (d.bl.set i (mixB t x d.bl[i])) := by
    unfold OwnL
    rw [List.length_set, ← wrL_flat encBl d.bl i _ hi]
    have e : blE (mixB t x d.bl[i]) = (x.1.take t).flatMap b1 ++ (d.bl[i].1.drop t).flatMap b1 := by unfold blE mixB; simp only [List.flatMap_append]
    have hd : (d.bl.flatMap blE).drop (i * 64 + ((x.1.take t).flatMap b1).length) = (d.bl[i].1.drop t).flatMap b1 ++ (d.bl.drop (i + 1)).flatMap blE := by
      have e2 : blE d.bl[i] = (d.bl[i].1.take t).flatMap b1 ++ (d.bl[i].1.drop t).flatMap b1 := by
        unfold blE
        rw [← List.flatMap_append, List.take_append_drop]
      rw [← List.drop_drop, drop_flat hi, e2, List.append_assoc, hl]
      exact List.drop_left' (by rw [encb1.lenL, List.length_take, d.bl[i].2.1]; omega)
    rw [e, ← wrL_more hd]
    exact h2
  have hm3 : Md (p.a.map (·.block)).toList w w' := by rw [hA]; exact h3
  have hnA : A.block ≠ n := h.d1 A hA
  refine ⟨w', ?_, ⟨?_, hbo, h.pd.mdD h3 fun B hB => by have := h.d3 A B hA hB; simpa using this.symm, h.isD, h.d1, h.d2, h.d3, by simpa using h.len, fun y hy => by simpa using h.ix y hy, h.rf0⟩, hm3⟩
  · have eA : adAt p.a (i : Int) 64 = A.add (i * 64) := by rw [hA]; simp [adAt]
    rw [eA, h1, hl]; rfl
  · have := h.blk.md h3 (by simpa using hnA.symm)
    simpa using this
theorem crB_step {d : Dk} {k t m : Nat} (hm : m < d.pd.length) (hk : k ≤ m) :
    d.crB k t m = if m = k then ((d.crB k t (m + 1)).set d.pd[m].i d.pd[m].was).set d.pd[m].i (mixB t d.pd[m].now d.pd[m].was) else (d.crB k t (m + 1)).set d.pd[m].i d.pd[m].was := by
  have e1 : d.crB k t (m + 1) = (d.pd.drop (m + 1)).foldr undo d.bl := by
    unfold Dk.crB
    cases hd : d.pd.drop (m + 1) with
    | nil => rfl
    | cons x r => simp only; rw [if_neg (by omega)]
  rw [e1]
  unfold Dk.crB
  rw [List.drop_eq_getElem_cons hm]
  simp only [List.foldr_cons, undo]
theorem f106_ok (n : Nat) (d : Dk) (F : List Nat) (keep torn : Int) (hpd : d.pd.length < 2 ^ 40) (w : World) (h : Dsk w n d F) :
    Ct Try.prog 106 #[.pointer (some ⟨n, 0, none⟩), .int .i64 keep, .int .i64 torn] w fun v w' => (v = .tuple #[] ∧ ∃ F', Dsk w' n (d.crash keep torn) F' ∧ ∀ b ∈ F', b ∈ F) ∧ Md F w w' := by
  apply f106_in
  refine in191 h (by simp) fun w2 h2 m2 => If_f ?_
  obtain ⟨p, hp, rfl⟩ := h2
  refine Bd_e (y := ((keep.toNat : Nat) : Int)) (by split <;> omega) <| Bd_e (y := ((torn.toNat : Nat) : Int)) (by split <;> omega) <| Bd_e (y := ((min torn.toNat 64 : Nat) : Int)) (by split <;> omega) ?_
  generalize hk : keep.toNat = k
  generalize ht : min torn.toNat 64 = t
  have ht64 : t ≤ 64 := by omega
  have ecr : d.crash keep torn = ⟨d.crB k t k, [], 0⟩ := by unfold Dk.crash; rw [hk, ht]
  rw [ecr]
  refine hp.blk.ld rfl <| opL_in <| Bd_e rfl <| Bd_e (y := (d.pd.length : Int) - 1) (by rw [IntKind.wrap_i64]; omega) ?_
  refine LoopP_in (fun m us vs w' => us = [.int .i64 ((m : Int) - 1)] ∧ m ≤ d.pd.length ∧ (k ≤ m ∨ m = d.pd.length) ∧ DkAt w' n p { d with bl := d.crB k t m } ∧ Md (fp n p) w w') d.pd.length ⟨rfl, by omega, .inr rfl, ?_, m2.mono (by simp)⟩ ?_
  · have : d.crB k t d.pd.length = d.bl := by unfold Dk.crB; rw [List.drop_length]
    rw [this]; exact hp
  rintro m us vs w17 ⟨rfl, hm, hkm, hq, hmd⟩
  refine opI_in <| Bd_in fun b19 hb19 => If_in (fun hb => ?_) fun hb => ?_
  · have hge : k + 1 ≤ m := by rw [hb19] at hb; have : ((m : Int) - 1 ≥ (k : Int)) := by simpa using hb
                               omega
    obtain ⟨j, rfl⟩ : ∃ j, m = j + 1 := ⟨m - 1, by omega⟩
    have hj : j < d.pd.length := by omega
    have ej : (((j + 1 : Nat) : Int) - 1) = (j : Int) := by omega
    rw [ej]
    have hkj : k ≤ j := by omega
    refine Jn_in (fun us vs w' => us = [] ∧ vs = [] ∧ DkAt w' n p { d with bl := d.crB k t j } ∧ Md (fp n p) w w') ?_ ?_
    · rintro us vs w22 ⟨rfl, rfl, h22, m22⟩
      exact Bd_e (y := (j : Int) - 1) (by rw [IntKind.wrap_i64]; omega) ⟨j, by omega, rfl, by omega, .inl hkj, h22, m22⟩
    · have hxi : d.pd[j].i < (d.crB k t (j + 1)).length := by rw [crB_len]; exact hp.ix _ (List.getElem_mem hj)
      have hst := crB_step (t := t) hj hkj
      refine hq.blk.ld rfl <| opL_in ⟨(hq.pd.row encWt).ix hj, ?_⟩
      have hld : LdN w17 (adAt p.pa (j : Int) 129) 129 = LdN w17 (adAt p.pa (j : Int) 129) 129 := rfl
      refine LdN_in (l := wtE d.pd[j]) (encWt.len _) (fun i u hu => ?_) <| Bd_e rfl ⟨by simp [encWt.len], ?_⟩
      · obtain ⟨B, hB, hc⟩ := hq.pd.row encWt j d.pd[j] (List.getElem?_eq_getElem hj)
        rw [hB]
        have := hc i u hu
        simpa [adAt] using this
      generalize hX : d.pd[j] = x at *
      generalize hBL : d.crB k t (j + 1) = BL at *
      intro n32 w33 e32 e33
      subst e32; subst e33
      have hok : okCells (Array.toList (wtE x).toArray) 129 = true := by
        have h1 := encWt.len x
        have h2 : allOne (wtE x) = true := by
          unfold allOne
          rw [List.all_eq_true]
          exact fun v hv => encWt.one _ v hv
        show okCells (wtE x) 129 = true
        unfold okCells
        rw [h1, h2]; rfl
      have hzl : (zeroL Try.prog 254).length = 129 := by rw [zero254]; simp
      have hma : Md [] w17 (w17.alloc (.cells (zeroL Try.prog 254).toArray 254)) := Md.alloc w17 _
      have hblk0 : Blk (w17.alloc (.cells (zeroL Try.prog 254).toArray 254)) w17.heap.size 254 (zeroL Try.prog 254) := heap_alloc_new w17 _
      have hmd2 := Md_setCells (w := w17.alloc (.cells (zeroL Try.prog 254).toArray 254)) w17.heap.size 0 (wtE x)
      have hblk1 : Blk (setCells (w17.alloc (.cells (zeroL Try.prog 254).toArray 254)) ⟨w17.heap.size, 0, none⟩ 0 (wtE x)) w17.heap.size 254 (wtE x) := by
        rcases wrL_run (m := 0) (cells := []) (o := 0) (vs := []) (b := w17.heap.size) (ty := 254) (wtE x) 0 (zeroL Try.prog 254) _ hblk0 with h' | h'
        · have e : wrL (zeroL Try.prog 254) (0 + 0) (wtE x) = wtE x := by
            unfold wrL
            rw [encWt.len, List.take_zero, List.nil_append, List.drop_of_length_le (by omega), List.append_nil]
          rw [e] at h'
          exact h'
        · rw [encWt.len, hzl] at h'; omega
      refine OkC_in hok ⟨by simp, hblk0.wr (by omega), ?_⟩
      have hlt17 := hq.lt
      have mx : Md [] w17 (setCells (w17.alloc (.cells (zeroL Try.prog 254).toArray 254)) ⟨w17.heap.size, 0, none⟩ 0 (wtE x)) := hma.old hmd2 (by simp)
      show Dr (World.drew (setCells (w17.alloc (.cells (zeroL Try.prog 254).toArray 254)) ⟨w17.heap.size, 0, none⟩ 0 (wtE x))) _
      generalize hw34 : World.drew (setCells (w17.alloc (.cells (zeroL Try.prog 254).toArray 254)) ⟨w17.heap.size, 0, none⟩ 0 (wtE x)) = w34 at *
      have m34 : Md [] w17 w34 := by rw [← hw34]; exact mx.trans (Md_drew _)
      have hb34 : Blk w34 w17.heap.size 254 (wtE x) := by rw [← hw34]; exact hblk1.md (Md_drew _) (by simp)
      have hq34 := hq.md m34 (by simp)
      obtain ⟨A, hA⟩ : ∃ A, p.a = some A := Option.isSome_iff_exists.1 hp.isD
      have hAm : A.block ∈ fp n p := by simp [fp, hA]
      have hAlt := hlt17 A.block hAm
      have nA : n ∉ [A.block] := by have := hp.d1 A hA; simpa using this.symm
      have xA : w17.heap.size ∉ [A.block] := by simp; omega
      have b0 : ∀ {w'}, Md [A.block] w34 w' → Blk w' n 155 [.slice p.a BL.length p.c, .slice p.pa d.pd.length p.pc, .int .i64 d.rf] := fun hw => hq34.blk.md hw nA
      have bx : ∀ {w'}, Md [A.block] w34 w' → Blk w' w17.heap.size 254 (wtE x) := fun hw => hb34.md hw xA
      have ldW : ∀ {w'}, Md [A.block] w34 w' → ∀ {K : List Value → Prop}, K (blE x.was) → LdN w' ((Addr.mk w17.heap.size 0 none).add 65) 64 K := by
        intro w' hw K k
        refine LdN_in (blE_len _) (fun i u hu => ?_) k
        rw [ad0, Addr.add_lit]
        refine (bx hw).cell ?_
        have hl : (blE x.now).length = 64 := blE_len _
        unfold wtE
        rw [show 65 + i = (64 + i) + 1 by omega, List.getElem?_cons_succ, List.getElem?_append_right (by omega), hl, show 64 + i - 64 = i by omega]
        exact hu
      obtain ⟨g1, g2, g3, g4⟩ := hq34.setBl hxi x.was
      have g4' : Md [A.block] w34 (setCells w34 (adAt p.a (x.i : Int) 64) 0 (blE x.was)) := by
        obtain ⟨A', hA', _, _, _, _, _, h6⟩ := hq34.bl.put encBl (by omega) hxi x.was
        rw [hA] at hA'; cases hA'
        exact h6
      refine ⟨fun w' => Md [A.block] w34 w', Md.refl _ _, _, fun w' hw => (b0 hw).ld rfl rfl, opL_in ⟨_, fun w' hw => (bx hw).ld rfl rfl, opI_in ⟨.agg (blE x.was).toArray, fun w' hw => ldW hw rfl, opBig_in ⟨by simp [blE_len], (hq34.bl.row encBl).ix hxi, OkC_in (okBl x.was) ⟨by simp, g2, g4', ?_⟩⟩⟩⟩⟩
      show Bd _ _
      have m34F : Md (fp n p) w w34 := hmd.trans (m34.mono (by simp))
      have mS : Md (fp n p) w (setCells w34 (adAt p.a (x.i : Int) 64) 0 (blE x.was)) := m34F.trans g4
      refine Bd_in fun b53 hb53 => If_in (fun hb => ?_) fun hb => ?_
      · have hjk : j = k := by rw [hb53] at hb; have : (j : Int) = (k : Int) := by simpa using hb
                               omega
        rw [if_pos hjk] at hst
        have hw2 : ∀ {w'}, Md [A.block] (setCells w34 (adAt p.a (x.i : Int) 64) 0 (blE x.was)).drew w' → Md [A.block] w34 w' := fun hw => g4'.trans (((Md_drew _).mono (by simp)).trans hw)
        have g3d := g3.md (Md_drew _) (by simp)
        have hxi2 : x.i < (BL.set x.i x.was).length := by rw [List.length_set]; exact hxi
        obtain ⟨w', hc1, hc2, hc3⟩ := g3d.copyBl (i := x.i) hxi2 x.now ht64 ((Addr.mk w17.heap.size 0 none).add 1) (fun i u hu => by
          rw [ad0, Addr.add_lit]
          refine (bx (hw2 (Md.refl _ _))).cell ?_
          have hi : i < ((x.now.1.take t).flatMap b1).length := (List.getElem?_eq_some_iff.1 hu).1
          have hl2 : ((x.now.1.take t).flatMap b1).length = t := by rw [encb1.lenL, List.length_take, x.now.2.1]; omega
          have e2 : blE x.now = (x.now.1.take t).flatMap b1 ++ (x.now.1.drop t).flatMap b1 := by
            unfold blE
            rw [← List.flatMap_append, List.take_append_drop]
          unfold wtE
          rw [show 1 + i = i + 1 by omega, List.getElem?_cons_succ, List.getElem?_append_left (by rw [blE_len]; omega), e2, List.getElem?_append_left hi]
          exact hu)
        have hgs : (BL.set x.i x.was)[x.i] = x.was := List.getElem_set_self ..
        rw [hgs] at hc2
        have hc3' : Md [A.block] (setCells w34 (adAt p.a (x.i : Int) 64) 0 (blE x.was)).drew w' := hc3.mono (by intro b hb; rw [hA] at hb; simpa using hb)
        refine ⟨fun w' => Md [A.block] (setCells w34 (adAt p.a (x.i : Int) 64) 0 (blE x.was)).drew w', Md.refl _ _, _, fun w' hw => (b0 (hw2 hw)).ld rfl rfl, opL_in ⟨_, fun w' hw => (bx (hw2 hw)).ld rfl rfl, opI_in ⟨(hq34.bl.row encBl).ix hxi,
          _, fun w' hw => ⟨slice_arrh w' _ t ht64⟩, opL_in ⟨_, fun w' hw => ⟨slice_arrh w' _ t ht64⟩, opL_in <| RunW_in hc1 (fun b hb => by simp at hb) <| opI_in ⟨hc3', rfl, rfl, by rw [hst]; exact hc2, ?_⟩⟩⟩⟩⟩
        exact (mS.trans ((Md_drew _).mono (by simp))).trans (hc3'.mono (by simpa using hAm))
      · have hjk : j ≠ k := by rw [hb53] at hb; have : ¬ (j : Int) = (k : Int) := by simpa using hb
                               omega
        rw [if_neg hjk] at hst
        exact ⟨rfl, rfl, by rw [hst]; exact g3, mS⟩
  · have hlt : m ≤ k := by rw [hb19] at hb; have : ¬ ((m : Int) - 1 ≥ (k : Int)) := by simpa using hb
                           omega
    have hfin : d.crB k t m = d.crB k t k := by
      rcases hkm with h | h
      · rw [show m = k by omega]
      · subst h
        unfold Dk.crB
        rw [List.drop_length, List.drop_of_length_le hlt]
    rw [hfin] at hq
    obtain ⟨h1, h2', h3⟩ := hq.clrPd
    obtain ⟨k1, k2, k3⟩ := h1.setRf 0 (by omega)
    exact ⟨by simp, h3, by simp, k3, ⟨rfl, _, ⟨_, k1, rfl⟩, fp_sub⟩, (hmd.trans (h2'.mono (by simp [fp]))).trans (k2.mono (by simp [fp]))⟩
end Fk
set_option linter.unusedVariables false
set_option linter.unusedSimpArgs false
set_option maxRecDepth 100000
namespace Fk
open Go Go.Proofs Go.RowKit
theorem and_mask {m : Nat} (h : m < 4294967296) : (BitVec.toNat (BitVec.ofInt 64 (m : Int) &&& BitVec.ofInt 64 4294967295) : Int) = (m : Int) := by
  have e1 : BitVec.ofInt 64 (m : Int) = BitVec.ofNat 64 m := BitVec.ofInt_natCast ..
  have e2 : BitVec.ofInt 64 4294967295 = BitVec.ofNat 64 4294967295 := rfl
  rw [e1, e2, BitVec.toNat_and, BitVec.toNat_ofNat, BitVec.toNat_ofNat, Nat.mod_eq_of_lt (by omega), Nat.mod_eq_of_lt (by omega)]
  have : m &&& 4294967295 = m % 2 ^ 32 := Nat.and_two_pow_sub_one_eq_mod m 32
  rw [this, Nat.mod_eq_of_lt (by omega)]
theorem f233_ok (m : Nat) (h : m < 4294967296) (w : World) : Ct Try.prog 233 #[.int .u64 1, .int .u64 m] w fun v w' => v = .tuple #[.int .u64 0, .int .u64 m] ∧ Md [] w w' := by
  apply f233_in
  have p32 : (2 : Int) ^ min 32 64 = 4294967296 := by decide
  have hm1 := and_mask (m := 1) (by omega)
  have hm0 := and_mask (m := 0) (by omega)
  have hmm := and_mask h
  have fd : ∀ k : Nat, k < 4294967296 → Int.fdiv (k : Int) 4294967296 = 0 := fun k hk => by rw [Int.fdiv_eq_ediv_of_nonneg _ (by omega)]; omega
  refine Bd_e (y := 1) (by rw [show (1 : Int) = ((1 : Nat) : Int) from rfl, hm1]; rfl) <| Bd_e (y := 0) (by rw [p32]; exact fd 1 (by omega)) <| Bd_e (y := (m : Int)) (by rw [hmm, IntKind.wrap_u64]; omega) <| Bd_e (y := 0) (by rw [p32]; exact fd m h) <|
    Bd_e (y := (m : Int)) (by rw [IntKind.wrap_u64]; omega) <| Bd_e (y := 0) (by rw [IntKind.wrap_u64]; omega) <| Bd_e (y := 0) (by rw [p32]; exact fd m h) <| Bd_e (y := 0) rfl <| Bd_e (y := 0) (by rw [show (0 : Int) = ((0 : Nat) : Int) from rfl, hm0]; rfl) <| Bd_e (y := 0) (by rw [p32]; exact fd 0 (by omega)) <| Bd_e (y := 0) rfl <| Bd_e (y := 0) rfl <| Bd_e (y := 0) rfl <| Bd_e (y := 0) rfl <| Bd_e (y := 0) (by rw [p32]; exact fd 0 (by omega)) <| Bd_e (y := 0) rfl <| Bd_e (y := (m : Int)) (by rw [IntKind.wrap_u64]; omega) ⟨rfl, Md.refl _ _⟩
theorem f223_ok (m : Nat) (h : m < 4294967296) (w : World) : Ct Try.prog 223 #[.int .u64 1, .int .u64 m] w fun v w' => v = .tuple #[.int .u64 0, .int .u64 m] ∧ Md [] w w' := by
  apply f223_in
  refine If_f ?_
  refine (f233_ok m h w).call (by simp) ?_
  rintro v w' rfl h'
  exact opTu_in <| opI_in <| opI_in <| SzIs_in rfl ⟨rfl, h'⟩
/-- A new row of whatever bytes. -/
theorem call224 {L : List Nat} {w : World} {m : Nat} (hm : m ≤ 2 ^ 30) (hL : ∀ b ∈ L, b < w.heap.size) {K : Option Addr → Nat → Nat → World → Prop}
    (k : ∀ (c : Nat) (xs : List Value) w', w'.ownsRow w.heap.size 5 1 (.slice (some ⟨w.heap.size, 0, none⟩) m c) m xs → m ≤ c → Md [] w w' → K (some ⟨w.heap.size, 0, none⟩) m c w') :
    CallW Try.prog L 224 #[.int .i64 m] (fun v w' => opL v fun a n c => K a n c w') w := by
  obtain ⟨cs, hrun, hle, hmax⟩ := Lib.run_makeNoZero (P := Try.prog) w #[3] 51 5 (by kernel_rfl) m (by omega)
  have hc := run_callFunc_extern (P := Try.prog) (f := 224) (fn := Try.f224) Try.func224 (by kernel_rfl) (by kernel_rfl) (e := Extern.BytealgMakeNoZero.makeNoZero #[3] #[51]) (by kernel_rfl) (by kernel_rfl) #[.int .i64 m] w
  rw [hrun] at hc
  have hmd : Md [] w (w.drew.drew.alloc (.cells cs 5)) := ((Md_drew w).trans (Md_drew _)).trans (Md.alloc _ _)
  refine ⟨.inr ⟨_, _, hc, Kept_md hmd hL, opL_in (k cs.size (cs.toList.take m) _ ?_ hle hmd)⟩⟩
  refine ⟨by rw [List.length_take, Array.length_toList]; omega, .inr ⟨w.heap.size, cs.size, cs, rfl, Nat.le_refl _, heap_alloc_new w.drew.drew _, hle, hmax (by simp [maxLen]; omega), by omega, by rw [Nat.mul_one]⟩⟩
theorem b1_map (l : List Nat) : l.flatMap b1 = l.map fun x => .int .u8 (x : Int) := by
  induction l with
  | nil => rfl
  | cons x l ih => rw [List.flatMap_cons, ih]; rfl
theorem slice_hm (w : World) (a : Option Addr) (n c m : Nat) (h : m ≤ c) : (Instr.sliceAt 51 (.slice a n c) none (some (.int .i64 (m : Int))) (some (.int .i64 (m : Int)))).run Try.prog w = .ok (.slice a m m) w := by
  have he : Try.prog.elem 51 = 5 := by kernel_rfl
  have ht' : Try.prog.underlying 51 = some (.slice (Try.prog.elem 51)) := by rw [he]; kernel_rfl
  rw [run_sliceAt_slice w 51 _ _ _ _ ht', run_slice_hm w 51 a n c ht' .i64 .i64 m m (by omega) (by omega) (by omega), he, size5]
  simp [Result.andThen, sliced]
  cases a <;> simp [addr_add0]
theorem own_cell {w : World} {base : Nat} {e : TypeId} {n c : Nat} {a : Option Addr} {xs : List Value} (h : w.ownsRow base e 1 (.slice a n c) n xs) {A : Addr} (ha : a = some A) : ∀ j v, xs[j]? = some v → w.cell? (A.add j) = some v := by
  intro j v hv
  subst ha
  rcases h.2 with ⟨hv', hn⟩ | ⟨g, cap, cur, hv', _⟩
  · simp at hv'
  · simp only [Value.slice.injEq, Option.some.injEq] at hv'
    rw [hv'.1]
    exact World.ownsRow.cells h (by rw [hv'.1]; rfl) j v hv
/-- One byte, many times. -/
theorem f193_ok (x : Nat) (hx : x < 256) (A : Option Addr) (c m : Nat) (hm : m ≤ 2 ^ 20) (w : World) (hr : RowAt w A 1 b1 [x]) :
    Ct Try.prog 193 #[.slice A 1 c, .int .i64 m] w fun v w' => (∃ a c C, v = .slice a m c ∧ m ≤ c ∧ OwnL w' w.heap.size 5 1 b1 a C (List.replicate m x)) ∧ Md [] w w' := by
  apply f193_in
  refine Bd_in fun b1' hb1 => If_in (fun h => ?_) fun h => ?_
  · have h0 : m = 0 := by rw [hb1] at h; simp at h; omega
    subst h0
    intro n2 w3 e2 e3
    subst e2; subst e3
    exact ⟨⟨_, _, _, rfl, Nat.le_refl _, OwnL.lit (P := Try.prog) encb1 w 5 [] #[] (Nat.le_refl _) (by simp [maxLen]) rfl⟩, Md.alloc w _⟩
  have h0 : 0 < m := by rw [hb1] at h; simp at h; omega
  clear hb1 h
  refine Jn_in (fun us vs w' => w' = w) ?_ ?_
  case refine_2 => exact Bd_f (by simp) <| If_f rfl
  rintro us vs w6 rfl
  refine Bd_e (y := 1) rfl <| Bd_e (y := 1) rfl <| Bd_e (y := (m : Int)) (by rw [IntKind.wrap_u64]; omega) ?_
  refine (f223_ok m (by omega) w6).call (by simp) ?_
  rintro v w11 rfl h11
  refine opTu_in <| opI_in <| opI_in <| SzIs_in rfl ?_
  refine Jn_in (fun us vs w' => w' = w11) ?_ ?_
  case refine_2 => exact Bd_f (by simp) <| Bd_f (by simp; omega) <| Bd_f rfl <| If_f rfl
  rintro us vs w17 rfl
  refine Bd_e (y := (m : Int)) (by rw [IntKind.wrap_i64]; omega) <| Bd_e (y := 1) rfl <| Bd_f rfl <| If_f ?_
  refine Jn_in (fun us vs w' => w' = w17 ∧ ∃ q : Nat, us = [.int .i64 q] ∧ 0 < q ∧ q < 2 ^ 30) ?_ ?_
  case refine_2 =>
    refine Bd_in fun b65 hb65 => If_in (fun h => ?_) fun h => ⟨rfl, m, rfl, h0, by omega⟩
    refine Bd_e (y := 1) rfl ⟨by omega, Bd_e (y := 8192) rfl <| Bd_e (y := 1) rfl <| Bd_e (y := 8192) rfl <| Bd_f rfl <| If_f ⟨rfl, 8192, rfl, by omega, by omega⟩⟩
  rintro us vs w25 ⟨rfl, q, rfl, hq0, hq1⟩
  refine opI_in <| call224 (by omega) (by simp) fun C xs w28 hown hC h28 => ?_
  have hxl : xs.length = m := by have := hown.1; omega
  refine RunW_in0 (slice_hm w28 _ _ _ _ hC) <| opL_in ?_
  obtain ⟨B, rfl, hc⟩ := hr 0 x rfl
  have hsrc : ∀ {w'}, Md [] w6 w' → ∀ j v, (b1 x)[j]? = some v → w'.cell? (B.add j) = some v := by
    intro w' hm j v hv
    have := hc j v hv
    rw [Nat.zero_mul, addr_add0] at this
    exact hm.cell0 this
  have g0 : w25.heap.size ≤ w28.heap.size := h28.size
  have hbk : ∀ {D w'}, w25.heap.size ≤ D → Md [D] w28 w' → Md [] w6 w' := fun hD hm => (h11.trans h28).old hm (by have := h11.size; simp; omega)
  obtain ⟨w38, r1, o1, m1⟩ := own_copy hown 0 m m (b1 x) (by simp [b1]; omega) _ rfl B 1 c (by show 1 = min 1 m; omega) (hsrc (h11.trans h28)) (encb1.one x)
  rw [addr_add0] at r1
  refine RunW_in r1 (fun b hb => by simp at hb) <| opI_in ?_
  refine LoopP_in (fun k us vs w' => ∃ (bp : Nat) (xs : List Value), us = [.int .i64 bp] ∧ 1 ≤ bp ∧ bp ≤ m ∧ k = m - bp ∧ xs.take bp = List.replicate bp (.int .u8 (x : Int)) ∧ w'.ownsRow w25.heap.size 5 1 (.slice (some ⟨w25.heap.size, 0, none⟩) m C) m xs ∧ Md [] w6 w') (m - 1)
    ⟨1, _, rfl, by omega, by omega, rfl, by simp [wrL, b1], o1, hbk (Nat.le_refl _) m1⟩ ?_
  rintro k us vs w43 ⟨bp, ys, rfl, hb1, hbm, rfl, hys, hy, hmd⟩
  have hyl : ys.length = m := by have := hy.1; omega
  refine opI_in <| Bd_in fun b45 hb45 => If_in (fun h => ?_) fun h => ?_
  · have hlt : bp < m := by rw [hb45] at h; simpa using h
    refine Bd_e (y := ((min bp q : Nat) : Int)) (by split <;> omega) ?_
    generalize hk : min bp q = k
    have hkb : k ≤ bp := by omega
    have hk0 : 0 < k := by omega
    refine ⟨fun _ => True, trivial, _, fun w' _ => ⟨slice_rest (e := 5) (by kernel_rfl) size5 w' _ _ _ bp (by omega)⟩, opL_in ⟨_, fun w' _ => ⟨slice_front (e := 5) (by kernel_rfl) (fun w => ⟨1, size5 w⟩) w' _ _ _ k (by omega)⟩, opL_in ?_⟩⟩
    rw [if_neg (by omega)]
    simp only [Option.map_some, Nat.mul_one]
    generalize hk2 : min k (m - bp) = k2
    have hk2b : k2 ≤ bp ∧ 0 < k2 ∧ bp + k2 ≤ m := by omega
    have hyd : w43.drew.ownsRow w25.heap.size 5 1 (.slice (some ⟨w25.heap.size, 0, none⟩) m C) m ys := ⟨hy.1, hy.2⟩
    have hyj : ∀ j, j < bp → ys[j]? = some (.int .u8 (x : Int)) := by
      intro j hj
      have := congrArg (fun l => l[j]?) hys
      simpa [List.getElem?_take, hj, List.getElem?_replicate] using this
    obtain ⟨w61, r2, o2, m2⟩ := own_copy hyd bp (m - bp) (m - bp) (List.replicate k2 (.int .u8 (x : Int))) (by rw [List.length_replicate, hyl]; omega) _ rfl ⟨w25.heap.size, 0, none⟩ k m (by rw [List.length_replicate, ← hk2])
      (fun j v hv => own_cell hyd rfl j v (by
        have hj : j < k2 := by have := (List.getElem?_eq_some_iff.1 hv).1; simpa using this
        rw [List.getElem?_replicate, if_pos hj] at hv
        rw [hyj j (by omega)]; exact hv)) (fun v hv => by rw [List.eq_of_mem_replicate hv]; rfl)
    rw [List.length_replicate] at r2
    have hs43 : w25.heap.size < w43.heap.size := (World.ownsRow.lt hy w25.heap.size rfl).2
    refine RunW_in r2 (fun b hb => by simp at hb) <| opI_in ⟨trivial, Bd_e (y := ((bp + k2 : Nat) : Int)) (by show IntKind.wrap .i64 ((bp : Int) + (k2 : Int)) = _; rw [IntKind.wrap_i64]; omega) ⟨m - (bp + k2), by omega, bp + k2, _, rfl, by omega, by omega, rfl, ?_, o2, ?_⟩⟩
    · have e : (ys.take bp).length = bp := by rw [List.length_take]; omega
      unfold wrL
      rw [List.take_append, e, List.take_of_length_le (by omega), hys, show bp + k2 - bp = k2 by omega, List.take_left' (by simp), List.replicate_append_replicate]
    · exact (hmd.trans (Md_drew _)).old m2 (by have := h11.size; simp; omega)
  · have hge : bp = m := by rw [hb45] at h; have : ¬ bp < m := by simpa using h
                            omega
    subst hge
    have e : ys = (List.replicate bp x).flatMap b1 := by
      rw [b1_map, List.map_replicate, ← hys, List.take_of_length_le (by omega)]
    refine ⟨⟨_, _, C, rfl, Nat.le_refl _, ?_⟩, hmd⟩
    have ho : OwnL w43 w25.heap.size 5 1 b1 (some ⟨w25.heap.size, 0, none⟩) C (List.replicate bp x) := by
      unfold OwnL
      rw [List.length_replicate, ← e]; exact hy
    exact ho.down h11.size
end Fk
set_option linter.unusedVariables false
set_option linter.unusedSimpArgs false
set_option maxRecDepth 100000
namespace Fk
open Go Go.Proofs Go.RowKit
/-- A disk that was made since w0, no more was turned. -/
structure DS (w0 w : World) (n : Nat) (d : Dk) (F : List Nat) : Prop where
  dk : Dsk w n d F
  md : Md [] w0 w
  lo : ∀ b ∈ F, w0.heap.size ≤ b
/-- Blocks that are there, and are none of the disk's. -/
def LF (L : List Nat) (w : World) (F : List Nat) : Prop := ∀ b ∈ L, b < w.heap.size ∧ b ∉ F
theorem LF.nil (w : World) (F : List Nat) : LF [] w F := fun b hb => by cases hb
theorem LF.fr {L F F' : List Nat} {w w' : World} (h : LF L w F) (hf : Fr w F F') (hs : w.heap.size ≤ w'.heap.size) : LF L w' F' := fun b hb => by
  obtain ⟨h1, h2⟩ := h b hb
  refine ⟨by omega, fun hm => ?_⟩
  rcases hf b hm with h3 | h3
  · exact h2 h3
  · omega
theorem LF.md {L F : List Nat} {w w' : World} (h : LF L w F) (hs : w.heap.size ≤ w'.heap.size) : LF L w' F := fun b hb => ⟨by have := (h b hb).1; omega, (h b hb).2⟩
theorem LF.swap {L F : List Nat} {w : World} (h : LF L w F) (hF : ∀ b ∈ F, b < w.heap.size) : LF F w L := fun b hb => ⟨hF b hb, fun hm => (h b hm).2 hb⟩
theorem Fr.sub {w : World} {F F' : List Nat} (h : ∀ b ∈ F', b ∈ F) : Fr w F F' := fun b hb => .inl (h b hb)
section
variable {w0 w : World} {n : Nat} {d : Dk} {F L : List Nat}
theorem DS.step {w' : World} {d' : Dk} {F' : List Nat} (S : DS w0 w n d F) (h : Dsk w' n d' F') (hm : Md F w w') (hf : Fr w F F') : DS w0 w' n d' F' :=
  ⟨h, S.md.old hm S.lo, fun b hb => by rcases hf b hb with h | h; exact S.lo b h; have := S.md.size; omega⟩
theorem DS.md0 {w' : World} (S : DS w0 w n d F) (hm : Md [] w w') : DS w0 w' n d F := ⟨S.dk.md0 hm, S.md.trans hm, S.lo⟩
theorem DS.drew (S : DS w0 w n d F) : DS w0 w.drew n d F := S.md0 (Md_drew w)
theorem DS.other {w' : World} {G : List Nat} (S : DS w0 w n d F) (hm : Md G w w') (hG : LF F w G) (hg : ∀ b ∈ G, w0.heap.size ≤ b) : DS w0 w' n d F :=
  ⟨S.dk.md hm fun b hb => (hG b hb).2, S.md.old hm hg, S.lo⟩
theorem in114 (S : DS w0 w n d F) (hL : LF L w F) (i : Int) {a : Option Addr} {c m : Nat} {b : List Nat} (hm : m = b.length) (hbb : ∀ x ∈ b, x < 256) (hbl : b.length < 2 ^ 40) (hpd : d.pd.length < 2 ^ 30) (hr : RowAt w a 1 b1 b) (hab : ∀ A, a = some A → A.block ∉ F) {K : Int → World → Prop}
    (k : ∀ F' w', DS w0 w' n (d.write i b).1 F' → Md F w w' → Fr w F F' → LF L w' F' → K (d.write i b).2 w') :
    CallW Try.prog L 114 #[.pointer (some ⟨n, 0, none⟩), .int .i64 i, .slice a m c] (fun v w' => opI .i64 v fun x => K x w') w := by
  subst hm
  refine (f114_ok n d F i a c b hbb hbl hpd w S.dk hr hab).callD (fun b hb => (hL b hb).1) (fun b hb => (hL b hb).2) ?_
  rintro v w' ⟨rfl, F', h1, h2⟩ h'
  exact opI_in (k F' w' (S.step h1 h' h2) h' h2 (hL.fr h2 h'.size))
theorem in106 (S : DS w0 w n d F) (hL : LF L w F) (keep torn : Int) (hpd : d.pd.length < 2 ^ 30) {K : World → Prop}
    (k : ∀ F' w', DS w0 w' n (d.crash keep torn) F' → Md F w w' → Fr w F F' → LF L w' F' → K w') :
    CallW Try.prog L 106 #[.pointer (some ⟨n, 0, none⟩), .int .i64 keep, .int .i64 torn] (fun v w' => opTu v fun cs => SzIs (Array.size cs) 0 (K w')) w := by
  refine (f106_ok n d F keep torn (by omega) w S.dk).callD (fun b hb => (hL b hb).1) (fun b hb => (hL b hb).2) ?_
  rintro v w' ⟨rfl, F', h1, h2⟩ h'
  exact opTu_in <| SzIs_in rfl (k F' w' (S.step h1 h' (Fr.sub h2)) h' (Fr.sub h2) (hL.fr (Fr.sub h2) h'.size))
theorem in102 (S : DS w0 w n d F) (hL : LF L w F) (x : Int) (hx : x ≤ 9223372036854775807) {K : World → Prop} (k : ∀ w', DS w0 w' n (d.arm x) F → Md F w w' → LF L w' F → K w') :
    CallW Try.prog L 102 #[.pointer (some ⟨n, 0, none⟩), .int .i64 x] (fun v w' => opTu v fun cs => SzIs (Array.size cs) 0 (K w')) w := by
  refine (f102_ok n d F x hx w S.dk).callD (fun b hb => (hL b hb).1) (fun b hb => (hL b hb).2) ?_
  rintro v w' ⟨rfl, h1⟩ h'
  exact opTu_in <| SzIs_in rfl (k w' (S.step h1 h' (Fr.refl _ _)) h' (hL.md h'.size))
theorem in103 (S : DS w0 w n d F) (hL : LF L w F) {K : Int → World → Prop} (k : ∀ F' w', DS w0 w' n d.flush.1 F' → Md F w w' → Fr w F F' → LF L w' F' → K d.flush.2 w') :
    CallW Try.prog L 103 #[.pointer (some ⟨n, 0, none⟩)] (fun v w' => opI .i64 v fun x => K x w') w := by
  refine (f103_ok n d F w S.dk).callD (fun b hb => (hL b hb).1) (fun b hb => (hL b hb).2) ?_
  rintro v w' ⟨rfl, F', h1, h2⟩ h'
  exact opI_in (k F' w' (S.step h1 h' (Fr.sub h2)) h' (Fr.sub h2) (hL.fr (Fr.sub h2) h'.size))
theorem in104' (S : DS w0 w n d F) (hL : ∀ b ∈ L, b < w.heap.size) {K : Option Addr → Nat → Nat → World → Prop}
    (k : ∀ a c w', DS w0 w' n d F → Md [] w w' → OwnL w' w.heap.size 5 1 b1 a c d.all → K a d.all.length c w') :
    CallW Try.prog L 104 #[.pointer (some ⟨n, 0, none⟩)] (fun v w' => opL v fun a n c => K a n c w') w :=
  in104 S.dk hL fun a c w' _ hm ho => k a c w' (S.md0 hm) hm ho
theorem in108 (S : DS w0 w n d F) (hL : ∀ b ∈ L, b < w.heap.size) {K : Int → World → Prop} (k : ∀ w', DS w0 w' n d F → Md [] w w' → K (d.pd.length : Int) w') :
    CallW Try.prog L 108 #[.pointer (some ⟨n, 0, none⟩)] (fun v w' => opI .i64 v fun x => K x w') w := by
  refine (f108_ok n d F w S.dk).call hL ?_
  rintro v w' rfl h'
  exact opI_in (k w' (S.md0 h') h')
theorem in112 (S : DS w0 w n d F) (hL : ∀ b ∈ L, b < w.heap.size) {K : Int → World → Prop} (k : ∀ w', DS w0 w' n d F → Md [] w w' → K (d.bl.length : Int) w') :
    CallW Try.prog L 112 #[.pointer (some ⟨n, 0, none⟩)] (fun v w' => opI .i64 v fun x => K x w') w := by
  refine (f112_ok n d F w S.dk).call hL ?_
  rintro v w' rfl h'
  exact opI_in (k w' (S.md0 h') h')
theorem in109 (hm : Md [] w0 w) (x : Nat) (h1 : 1 ≤ x) (h2 : x ≤ 65536) (hL : ∀ b ∈ L, b < w.heap.size) {K : Option Addr → Int → World → Prop}
    (k : ∀ n F w', DS w0 w' n (newDk x) F → Md [] w w' → (∀ b ∈ F, w.heap.size ≤ b) → K (some ⟨n, 0, none⟩) 0 w') :
    CallW Try.prog L 109 #[.int .i64 x] (fun v w' => opTu v fun cs => opP (nthD (Array.toList cs) 0) fun a => opI .i64 (nthD (Array.toList cs) 1) fun e => SzIs (Array.size cs) 2 (K a e w')) w := by
  refine (f109_ok x w).call hL ?_
  rintro v w' h h'
  rcases h with ⟨_, _, n, F, rfl, hd, hF⟩ | ⟨hno, _⟩
  · rw [Int.toNat_natCast] at hd
    exact opTu_in <| opP_in <| opI_in <| SzIs_in rfl (k n F w' ⟨hd, hm.trans h', fun b hb => by have := hF b hb; have := hm.size; omega⟩ h' hF)
  · exact absurd ⟨by omega, by omega⟩ hno
end
structure Op20 where
  k : Nat
  n : Int
  m : Int
  c : Nat
  l : Nat
  u : Bool
def opBytes (c n : Nat) : List Nat := (List.range n).map fun i => (c + i) % 256
theorem opBytes_len (c n : Nat) : (opBytes c n).length = n := by simp [opBytes]
def Op20.bytes (o : Op20) : List Nat := opBytes o.c (if o.u = true then 64 else o.l)
structure Op20.ok (o : Op20) : Prop where
  n : o.n ≤ 9223372036854775807
  c : o.c < 256
  l : o.l < 256
theorem Op20.len {o : Op20} (h : o.ok) : o.bytes.length < 256 := by have := h.l; unfold Op20.bytes; rw [opBytes_len]; split <;> omega
def Op20.v (o : Op20) : Value := .agg #[.int .u8 o.k, .int .i64 o.n, .int .i64 o.m, .int .u8 o.c, .int .u8 o.l, .bool o.u]
end Fk
set_option linter.unusedVariables false
set_option linter.unusedSimpArgs false
set_option maxRecDepth 100000
namespace Fk
open Go Go.Proofs Go.RowKit
theorem RowAt.ldj {α : Type} {w : World} {A : Option Addr} {size : Nat} {enc : α → List Value} {l : List α} (h : RowAt w A size enc l) {i : Nat} (hi : i < l.length) {j : Nat} {v : Value} (hv : (enc l[i])[j]? = some v) {K : Value → Prop} (k : K v) : Ld w ((adAt A (i : Int) size).add j) K := by
  obtain ⟨B, rfl, hc⟩ := h i l[i] (List.getElem?_eq_getElem hi)
  refine Ld_in ?_ k
  have := hc j v hv
  simpa [adAt] using this
theorem LF.new {F : List Nat} {w w' : World} {n : Nat} (hF : ∀ b ∈ F, b < w.heap.size) (hn : w.heap.size ≤ n) (hlt : n < w'.heap.size) : LF [n] w' F := fun b hb => by
  simp at hb; subst hb
  exact ⟨hlt, fun hm => by have := hF _ hm; omega⟩
theorem LF.cons {F L : List Nat} {w : World} {n : Nat} (h1 : LF [n] w F) (h2 : LF L w F) : LF (n :: L) w F := fun b hb => by
  rcases List.mem_cons.1 hb with rfl | hb
  · exact h1 _ (by simp)
  · exact h2 b hb
theorem write_len (d : Dk) (i : Int) (b : List Nat) : (d.write i b).1.bl.length = d.bl.length ∧ (d.write i b).1.pd.length ≤ d.pd.length + 1 := by
  obtain ⟨h1, h2⟩ := stepD_bl d
  unfold Dk.write
  split
  · exact ⟨rfl, by simp⟩
  · split
    · simp [Dk.put, h1, h2]
    · simp [h1, h2]
theorem flush_len (d : Dk) : d.flush.1.bl = d.bl ∧ d.flush.1.pd.length ≤ d.pd.length := by
  obtain ⟨h1, h2⟩ := stepD_bl d
  unfold Dk.flush
  split
  · simp [h1]
  · simp [h1, h2]
/-- A row stands apart from a disk. -/
def Sep (a : Option Addr) (w : World) (F : List Nat) : Prop := ∀ A, a = some A → A.block < w.heap.size ∧ A.block ∉ F
theorem Sep.fr {a : Option Addr} {F F' : List Nat} {w w' : World} (h : Sep a w F) (hf : Fr w F F') (hs : w.heap.size ≤ w'.heap.size) : Sep a w' F' := fun A hA => by
  obtain ⟨h1, h2⟩ := h A hA
  refine ⟨by omega, fun hm => ?_⟩
  rcases hf _ hm with h3 | h3
  · exact h2 h3
  · omega
theorem Sep.md {a : Option Addr} {F : List Nat} {w w' : World} (h : Sep a w F) (hs : w.heap.size ≤ w'.heap.size) : Sep a w' F := h.fr (Fr.refl _ _) hs
theorem run_addS (w : World) (o1 o2 : Operand) (a b : ByteArray) (ha : a.size ≤ 8388608) (hb : b.size ≤ 8388608) : (eqS .add 9 o1 o2 (.string a) (.string b)).run Try.prog w = .ok (.string (a ++ b)) w := by
  unfold eqS
  rw [Sem.run_bind, eqGuard_add, binOp_string_add]
  simp only [Sem.run_pure, Result.andThen_ok]
  exact run_string_add w a b (by omega) (by omega)
theorem made5 (m : Nat) (w : World) (hm : m < 2 ^ 20) : ∃ w', (Instr.makeSlice 51 (.int .i64 (m : Int)) (.int .i64 (m : Int))).run Try.prog w = .ok (.slice (some ⟨w.heap.size, 0, none⟩) m m) w' ∧ OwnL w' w.heap.size 5 1 b1 (some ⟨w.heap.size, 0, none⟩) m (List.replicate m 0) ∧ Md [] w w' := by
  have h5 : (Try.prog.info? 5).isSome = true := by kernel_rfl
  obtain ⟨i5, hi5⟩ := Option.isSome_iff_exists.1 h5
  have hz5 : (Try.prog.info? 5).bind (·.zero) = some (.int .u8 0) := by kernel_rfl
  have hs5 : (Try.prog.info? 5).map (fun i => (i.size, i.bytes)) = some (1, 1) := by kernel_rfl
  rw [hi5] at hz5 hs5
  simp only [Option.bind_some, Option.map_some, Option.some.injEq, Prod.mk.injEq] at hz5 hs5
  obtain ⟨w3, hrun, hown, hgr⟩ := run_makeSlice_full (P := Try.prog) w w.heap.size 51 5 i5 (.int .u8 0) 1 (by kernel_rfl) hi5 hz5 hs5.1 .i64 .i64 m (by omega) (by rw [hs5.2]; omega) (by simp [maxLen]; omega) (Nat.le_refl _)
  refine ⟨w3, hrun, ?_, Md_of_grown hgr⟩
  have hmc : (madeCells (Value.int .u8 0).cells (m * 1)).toList = (List.replicate m 0).flatMap b1 := by
    rw [b1_map, List.map_replicate, Nat.mul_one]
    exact toList_madeCells_one _ m
  unfold OwnL
  rw [← hmc, List.length_replicate]; exact hown
end Fk
set_option linter.unusedVariables false
set_option linter.unusedSimpArgs false
set_option maxRecDepth 100000
set_option maxHeartbeats 2000000
namespace Fk
open Go Go.Proofs Go.RowKit
def be (n : Nat) : Nat → List Nat
  | 0 => []
  | k + 1 => (n / 256 ^ k % 256) :: be n k
def numF (n : Nat) (l : List Nat) : Nat := l.foldl (fun n c => n * 256 + c) n
def num (l : List Nat) : Nat := numF 0 l
def sumF (s : Nat) (l : List Nat) : Nat := l.foldl (fun s c => ((s ^^^ c) * 16777619) % 4294967296) s
def sumL (l : List Nat) : Nat := sumF 2166136261 l
theorem be_len (n : Nat) : ∀ k, (be n k).length = k
  | 0 => rfl
  | k + 1 => by simp [be, be_len n k]
theorem be_lt (n : Nat) : ∀ k, ∀ x ∈ be n k, x < 256
  | 0, x, h => by simp [be] at h
  | k + 1, x, h => by
    simp only [be, List.mem_cons] at h
    rcases h with rfl | h
    · exact Nat.mod_lt _ (by omega)
    · exact be_lt n k x h
theorem numF_be (n : Nat) : ∀ (k a : Nat), numF a (be n k) = a * 256 ^ k + n % 256 ^ k
  | 0, a => by simp [numF, be, Nat.mod_one]
  | k + 1, a => by
    have ih := numF_be n k (a * 256 + n / 256 ^ k % 256)
    unfold numF at ih ⊢
    simp only [be, List.foldl_cons]
    rw [ih]
    have h1 : n % 256 ^ (k + 1) = n % 256 ^ k + 256 ^ k * (n / 256 ^ k % 256) := by
      rw [Nat.pow_succ, Nat.mod_mul]
    rw [h1, Nat.pow_succ, Nat.add_mul]
    have h2 : a * 256 * 256 ^ k = a * (256 ^ k * 256) := by rw [Nat.mul_assoc, Nat.mul_comm 256]
    rw [h2, Nat.mul_comm (n / 256 ^ k % 256)]
    omega
theorem num_be (n k : Nat) (h : n < 256 ^ k) : num (be n k) = n := by
  unfold num
  rw [numF_be, Nat.zero_mul, Nat.zero_add, Nat.mod_eq_of_lt h]
theorem numF_lt : ∀ (l : List Nat) (a : Nat), (∀ x ∈ l, x < 256) → numF a l < (a + 1) * 256 ^ l.length
  | [], a, _ => by simp [numF]
  | x :: l, a, h => by
    have hx := h x (by simp)
    have ih := numF_lt l (a * 256 + x) fun y hy => h y (by simp [hy])
    have e : numF a (x :: l) = numF (a * 256 + x) l := rfl
    rw [e, List.length_cons, Nat.pow_succ]
    refine Nat.lt_of_lt_of_le ih ?_
    have : (a + 1) * (256 ^ l.length * 256) = ((a + 1) * 256) * 256 ^ l.length := by rw [Nat.mul_assoc, Nat.mul_comm 256]
    rw [this]
    exact Nat.mul_le_mul_right _ (by omega)
theorem num_lt (l : List Nat) (h : ∀ x ∈ l, x < 256) : num l < 256 ^ l.length := by
  have := numF_lt l 0 h
  unfold num
  simpa using this
theorem sumF_lt (l : List Nat) (s : Nat) (h : s < 4294967296) : sumF s l < 4294967296 := by
  induction l generalizing s with
  | nil => exact h
  | cons x l ih => exact ih _ (Nat.mod_lt _ (by omega))
theorem sumL_lt (l : List Nat) : sumL l < 4294967296 := sumF_lt l _ (by omega)
/-- A record's bytes. -/
def bodyB (r : List Nat) : List Nat := be r.length 3 ++ r
def frm (m : Nat) (r : List Nat) : List Nat := m :: (bodyB r ++ be (sumL (bodyB r)) 4)
theorem frm_len (m : Nat) (r : List Nat) : (frm m r).length = r.length + 8 := by simp [frm, bodyB, be_len]; omega
theorem frm_lt (m : Nat) (r : List Nat) (hm : m < 256) (hr : ∀ x ∈ r, x < 256) : ∀ x ∈ frm m r, x < 256 := by
  intro x hx
  simp only [frm, bodyB, List.mem_cons, List.mem_append] at hx
  rcases hx with rfl | (h | h) | h
  · exact hm
  · exact be_lt _ _ x h
  · exact hr x h
  · exact be_lt _ _ x h
/-- What bytes are, read on from here: records, and how many bytes they have; none: damage. -/
def jprs : Nat → List Nat → Option (List (List Nat) × Nat)
  | 0, _ => none
  | f + 1, l => match l with
    | [] => some ([], 0)
    | m :: t => if m = 0 then some ([], 0) else if m ≠ 1 ∨ l.length < 4 then none else
        if num (t.take 3) < 1 ∨ num (t.take 3) > 1048576 ∨ l.length < num (t.take 3) + 8 then none else
        if num ((t.drop (3 + num (t.take 3))).take 4) ≠ sumL (t.take (3 + num (t.take 3))) then none else
        (jprs f (l.drop (num (t.take 3) + 8))).map fun p => ((t.drop 3).take (num (t.take 3)) :: p.1, num (t.take 3) + 8 + p.2)
def parseL (l : List Nat) : Option (List (List Nat) × Nat) := jprs (l.length + 1) l
theorem jprs_more : ∀ (f : Nat) (l : List Nat), l.length < f → ∀ g, f ≤ g → jprs f l = jprs g l
  | 0, l, h, _, _ => by omega
  | f + 1, l, h, 0, hg => by omega
  | f + 1, l, h, g + 1, hg => by
    cases l with
    | nil => rfl
    | cons m t =>
      unfold jprs
      simp only
      split
      · rfl
      · split
        · rfl
        · split
          · rfl
          · split
            · rfl
            · rw [jprs_more f _ (by simp at h ⊢; omega) g (by omega)]
theorem parse_zero (l : List Nat) : parseL (0 :: l) = some ([], 0) := by unfold parseL jprs; simp
theorem parse_nil : parseL [] = some ([], 0) := rfl
theorem parse_frm (r rest : List Nat) (h1 : 1 ≤ r.length) (h2 : r.length ≤ 1048576) : parseL (frm 1 r ++ rest) = (parseL rest).map fun p => (r :: p.1, r.length + 8 + p.2) := by
  have hl := frm_len 1 r
  have e : frm 1 r ++ rest = 1 :: (be r.length 3 ++ (r ++ (be (sumL (bodyB r)) 4 ++ rest))) := by simp [frm, bodyB, List.append_assoc]
  have t3 : (be r.length 3 ++ (r ++ (be (sumL (bodyB r)) 4 ++ rest))).take 3 = be r.length 3 := by rw [List.take_left' (be_len _ _)]
  have n3 : num (be r.length 3) = r.length := num_be _ _ (by omega)
  have d3 : (be r.length 3 ++ (r ++ (be (sumL (bodyB r)) 4 ++ rest))).drop 3 = r ++ (be (sumL (bodyB r)) 4 ++ rest) := by rw [List.drop_left' (be_len _ _)]
  have db : (be r.length 3 ++ (r ++ (be (sumL (bodyB r)) 4 ++ rest))).drop (3 + r.length) = be (sumL (bodyB r)) 4 ++ rest := by
    rw [← List.drop_drop, d3, List.drop_left]
  have tb : (be r.length 3 ++ (r ++ (be (sumL (bodyB r)) 4 ++ rest))).take (3 + r.length) = bodyB r := by
    rw [← List.append_assoc, List.take_left' (by simp [be_len])]; rfl
  have n4 : num (be (sumL (bodyB r)) 4) = sumL (bodyB r) := num_be _ _ (sumL_lt _)
  have hlen : (frm 1 r ++ rest).length = r.length + 8 + rest.length := by rw [List.length_append, hl]
  have hdrop : (frm 1 r ++ rest).drop (r.length + 8) = rest := by rw [List.drop_left' hl]
  have key : ∀ f, jprs (f + 1) (frm 1 r ++ rest) = (jprs f rest).map fun p => (r :: p.1, r.length + 8 + p.2) := by
    intro f
    conv => lhs; rw [e]; unfold jprs
    simp only [t3, n3, d3, db, tb]
    rw [← e, hlen, hdrop, List.take_left' (be_len _ _), n4, if_neg (by omega), if_neg (by omega), if_neg (by omega), if_neg (by simp), List.take_left]
  unfold parseL
  rw [key, hlen]
  rw [← jprs_more (rest.length + 1) rest (by omega) _ (by omega)]
def rawR (rs : List (List Nat)) : List Nat := rs.flatMap (frm 1)
theorem parse_raw (rest : List Nat) : ∀ (rs : List (List Nat)), (∀ r ∈ rs, 1 ≤ r.length ∧ r.length ≤ 1048576) → parseL (rawR rs ++ rest) = (parseL rest).map fun p => (rs ++ p.1, (rawR rs).length + p.2)
  | [], _ => by cases h : parseL rest <;> simp [rawR, h]
  | r :: rs, h => by
    have hr := h r (by simp)
    have ih := parse_raw rest rs fun x hx => h x (by simp [hx])
    have e : rawR (r :: rs) ++ rest = frm 1 r ++ (rawR rs ++ rest) := by simp [rawR, List.append_assoc]
    rw [e, parse_frm _ _ hr.1 hr.2, ih]
    cases h : parseL rest <;> simp [rawR, frm_len]
    omega
theorem parse_end (rs : List (List Nat)) (h : ∀ r ∈ rs, 1 ≤ r.length ∧ r.length ≤ 1048576) (rest : List Nat) (hr : rest = [] ∨ ∃ t, rest = 0 :: t) : parseL (rawR rs ++ rest) = some (rs, (rawR rs).length) := by
  rw [parse_raw rest rs h]
  rcases hr with rfl | ⟨t, rfl⟩
  · rw [parse_nil]; simp
  · rw [parse_zero]; simp
end Fk
set_option linter.unusedVariables false
set_option linter.unusedSimpArgs false
set_option maxRecDepth 100000
namespace Fk
open Go Go.Proofs Go.RowKit
structure Ns where
  k : Int
  s1 : Int
  s2 : Int
  s3 : Int
  s4 : Int
  a : Int
  b : Int
  t : Int
  deriving DecidableEq
def nsE (x : Ns) : List Value := [.int .u8 x.k, .int .u64 x.s1, .int .u64 x.s2, .int .u64 x.s3, .int .u64 x.s4, .int .i64 x.a, .int .i64 x.b, .int .i64 x.t]
abbrev Ns.v (x : Ns) : Value := .agg #[.int .u8 x.k, .int .u64 x.s1, .int .u64 x.s2, .int .u64 x.s3, .int .u64 x.s4, .int .i64 x.a, .int .i64 x.b, .int .i64 x.t]
end Fk
set_option linter.unusedVariables false
set_option linter.unusedSimpArgs false
set_option maxRecDepth 100000
namespace Fk
open Go Go.Proofs Go.RowKit
theorem Blk.new (w : World) (cs : Array Value) (ty : TypeId) : Blk (w.alloc (.cells cs ty)) w.heap.size ty cs.toList := by
  show (w.heap.push (.cells cs ty (0, 0)))[w.heap.size]? = _
  rw [Array.getElem?_push_size]
def Ns.zs (x : Ns) : Prop := x.s1 = 0 ∧ x.s2 = 0 ∧ x.s3 = 0 ∧ x.s4 = 0
instance (x : Ns) : Decidable x.zs := by unfold Ns.zs; infer_instance
def okNs (m : Int) (x : Ns) : Prop := (x.k = 0 ∧ x.zs ∧ x.a = 0 ∧ x.b = 0 ∧ 0 ≤ x.t ∧ x.t < 200) ∨ (x.k = 1 ∧ ¬ x.zs ∧ 0 ≤ x.a ∧ x.a < m ∧ x.b = 0 ∧ x.t = 0) ∨ (x.k = 2 ∧ x.zs ∧ 0 ≤ x.a ∧ x.a < m ∧ 0 ≤ x.b ∧ x.b < m ∧ x.t = 0)
instance (m : Int) (x : Ns) : Decidable (okNs m x) := by unfold okNs; infer_instance
end Fk
set_option linter.unusedVariables false
set_option linter.unusedSimpArgs false
set_option maxRecDepth 100000
namespace Fk
open Go Go.Proofs Go.RowKit
/-- A maker: its states, and how many there may be. -/
structure MkAt (w : World) (n : Nat) (l : List Ns) (most : Nat) (a : Option Addr) (c : Nat) : Prop where
  blk : Blk w n 214 [.slice a l.length c, .int .i64 most]
  own : OwnL w 0 103 8 nsE a c l
  ne : ∀ A, a = some A → A.block ≠ n
def fpM (n : Nat) (a : Option Addr) : List Nat := n :: (a.map (·.block)).toList
def Mkr (w : World) (n : Nat) (l : List Ns) (most : Nat) (F : List Nat) : Prop := ∃ a c, MkAt w n l most a c ∧ F = fpM n a
def FrN (w : World) (F F' : List Nat) : Prop := ∀ b ∈ F', b ∈ F ∨ w.heap.size ≤ b
theorem FrN.refl (w : World) (F : List Nat) : FrN w F F := fun _ h => .inl h
theorem FrN.trans {w w' : World} {F F' F'' : List Nat} (h : FrN w F F') (h2 : FrN w' F' F'') (hs : w.heap.size ≤ w'.heap.size) : FrN w F F'' := fun b hb => by
  rcases h2 b hb with h1 | h1
  · exact h b h1
  · right; omega
theorem mem_fpM {n : Nat} {a : Option Addr} {b : Nat} : b ∈ fpM n a ↔ b = n ∨ ∃ A, a = some A ∧ A.block = b := by
  unfold fpM
  cases a <;> simp [eq_comm]
theorem Mkr.md {w w' : World} {n : Nat} {l : List Ns} {most : Nat} {F D : List Nat} (h : Mkr w n l most F) (hm : Md D w w') (hD : ∀ b ∈ F, b ∉ D) : Mkr w' n l most F := by
  obtain ⟨a, c, h, rfl⟩ := h
  exact ⟨a, c, ⟨h.blk.md hm (hD n (by rw [mem_fpM]; exact .inl rfl)), h.own.mdD hm (fun A hA => hD _ (by rw [mem_fpM]; exact .inr ⟨A, hA, rfl⟩)), h.ne⟩, rfl⟩
theorem Mkr.md0 {w w' : World} {n : Nat} {l : List Ns} {most : Nat} {F : List Nat} (h : Mkr w n l most F) (hm : Md [] w w') : Mkr w' n l most F := h.md hm (by simp)
theorem Mkr.lt {w : World} {n : Nat} {l : List Ns} {most : Nat} {F : List Nat} (h : Mkr w n l most F) : ∀ b ∈ F, b < w.heap.size := by
  obtain ⟨a, c, h, rfl⟩ := h
  intro b hb
  rw [mem_fpM] at hb
  rcases hb with rfl | ⟨A, hA, rfl⟩
  · exact h.blk.lt
  · exact (h.own.lt hA).2
end Fk
set_option linter.unusedVariables false
set_option linter.unusedSimpArgs false
set_option maxRecDepth 100000
namespace Fk
open Go Go.Proofs Go.RowKit
def Fo.drop : Fo → Nat → Fo
  | f, 0 => f
  | .nil, _ + 1 => .nil
  | .cons _ _ _ _ _ _ r, n + 1 => r.drop n
theorem RepF.drop {w : World} {A : Option Addr} : ∀ (f : Fo) (i j : Nat), RepF w A i f → RepF w A (i + j) (f.drop j)
  | f, i, 0, h => by simpa [Fo.drop] using h
  | .nil, i, j + 1, h => trivial
  | .cons _ _ _ _ _ _ r, i, j + 1, h => by
    obtain ⟨B, sa, sc, _, _, _, _, hr⟩ := h.at
    have := RepF.drop r (i + 1) j hr
    rw [show i + (j + 1) = i + 1 + j by omega]
    exact this
/-- What a call of toward, or of state, brings. -/
structure Tws (w0 w : World) (n : Nat) (l : List Ns) (most : Nat) (F : List Nat) : Prop where
  mr : Mkr w n l most F
  md : Md [] w0 w
  lo : ∀ b ∈ F, w0.heap.size ≤ b
  len : l.length ≤ most + 1
theorem Tws.step {w0 w w' : World} {n : Nat} {l l' : List Ns} {most : Nat} {F F' : List Nat} (S : Tws w0 w n l most F) (h : Mkr w' n l' most F') (hm : Md F w w') (hf : FrN w F F') (hl : l'.length ≤ most + 1) : Tws w0 w' n l' most F' :=
  ⟨h, S.md.old hm S.lo, fun b hb => by rcases hf b hb with h | h; exact S.lo b h; have := S.md.size; omega, hl⟩
theorem Tws.md0 {w0 w w' : World} {n : Nat} {l : List Ns} {most : Nat} {F : List Nat} (S : Tws w0 w n l most F) (hm : Md [] w w') : Tws w0 w' n l most F := ⟨S.mr.md0 hm, S.md.trans hm, S.lo, S.len⟩
/-- Blocks that are there, and are none of the maker's. -/
def LN (L : List Nat) (w : World) (F : List Nat) : Prop := ∀ b ∈ L, b < w.heap.size ∧ b ∉ F
theorem LN.fr {L F F' : List Nat} {w w' : World} (h : LN L w F) (hf : FrN w F F') (hs : w.heap.size ≤ w'.heap.size) : LN L w' F' := fun b hb => by
  obtain ⟨h1, h2⟩ := h b hb
  refine ⟨by omega, fun hm => ?_⟩
  rcases hf b hm with h3 | h3
  · exact h2 h3
  · omega
end Fk
set_option linter.unusedVariables false
set_option linter.unusedSimpArgs false
set_option maxRecDepth 100000
set_option maxHeartbeats 2000000
namespace Fk
open Go Go.Proofs Go.RowKit
theorem NN_in {A : Addr} {k : Addr → Prop} (h : k A) : NN (some A) k := h
end Fk
set_option linter.unusedVariables false
set_option linter.unusedSimpArgs false
set_option maxRecDepth 100000
set_option maxHeartbeats 2000000
namespace Fk
open Go Go.Proofs Go.RowKit
theorem OwnL.up {α : Type} {w : World} {base b : Nat} {e : TypeId} {size : Nat} {enc : α → List Value} {a : Option Addr} {c : Nat} {l : List α} (h : OwnL w base e size enc a c l) (hb : ∀ A, a = some A → b ≤ A.block) : OwnL w b e size enc a c l := by
  refine ⟨h.1, ?_⟩
  rcases h.2 with hn | ⟨g, cap, cur, hv, hb', rest⟩
  · exact .inl hn
  · refine .inr ⟨g, cap, cur, hv, ?_, rest⟩
    simp only [Value.slice.injEq] at hv
    exact hb _ hv.1
end Fk
set_option linter.unusedVariables false
set_option linter.unusedSimpArgs false
set_option maxRecDepth 100000
set_option maxHeartbeats 2000000
namespace Fk
open Go Go.Proofs Go.RowKit
theorem Nw_i {o : Obj} {w : World} {K : Nat → World → Prop} (k : K w.heap.size (w.alloc o)) : Nw o w K := fun _ _ e1 e2 => by subst e1; subst e2; exact k
end Fk
set_option linter.unusedVariables false
set_option linter.unusedSimpArgs false
namespace Fk
open Go Go.Proofs Go.RowKit
def Ns.q (x : Ns) : Q4 := (x.s1, x.s2, x.s3, x.s4)
def On (N : List Bool) (i : Nat) : Prop := N[i]? = some true
instance (N : List Bool) (i : Nat) : Decidable (On N i) := by unfold On; infer_instance
/-- What some states come to without a byte. -/
inductive Rch (l : List Ns) (S : Nat → Prop) : Nat → Prop
  | base {i : Nat} : S i → Rch l S i
  | a {i : Nat} {x : Ns} : Rch l S i → l[i]? = some x → x.k = 2 → Rch l S x.a.toNat
  | b {i : Nat} {x : Ns} : Rch l S i → l[i]? = some x → x.k = 2 → Rch l S x.b.toNat
theorem Rch.sub {l : List Ns} {S T : Nat → Prop} (h : ∀ i, S i → Rch l T i) {i : Nat} (hi : Rch l S i) : Rch l T i := by
  induction hi with
  | base hs => exact h _ hs
  | a _ h1 h2 ih => exact .a ih h1 h2
  | b _ h1 h2 ih => exact .b ih h1 h2
theorem Rch.mono {l : List Ns} {S T : Nat → Prop} (h : ∀ i, S i → T i) {i : Nat} (hi : Rch l S i) : Rch l T i := hi.sub fun i hs => .base (h i hs)
theorem On.lt {N : List Bool} {i : Nat} (h : On N i) : i < N.length := by
  unfold On at h
  exact (List.getElem?_eq_some_iff.1 h).1
/-- These are the states that some come to. -/
def IsSt (l : List Ns) (S : Nat → Prop) (N : List Bool) : Prop := N.length = l.length ∧ ∀ i, On N i ↔ Rch l S i
theorem IsSt.congr {l : List Ns} {S T : Nat → Prop} {N : List Bool} (h : IsSt l S N) (hi : ∀ i, S i ↔ T i) : IsSt l T N :=
  ⟨h.1, fun i => (h.2 i).trans ⟨Rch.mono fun i => (hi i).1, Rch.mono fun i => (hi i).2⟩⟩
end Fk
set_option linter.unusedVariables false
set_option linter.unusedSimpArgs false
set_option maxRecDepth 100000
set_option maxHeartbeats 1000000
namespace Fk
open Go Go.Proofs Go.RowKit
def bE (b : Bool) : List Value := [.bool b]
theorem encbE : Enc 1 bE := ⟨fun _ => rfl, by intro x v hv; simp [bE] at hv; subst hv; rfl⟩
theorem mem_blk {a : Option Addr} {d : Nat} (h : d ∈ (a.map (·.block)).toList) : ∃ A, a = some A ∧ A.block = d := by
  cases a with
  | none => simp at h
  | some A => simp at h; exact ⟨A, rfl, h.symm⟩
/-- A stand in memory: the machine, where it stands, and where it is to come to. -/
structure StAt (w0 w : World) (n : Nat) (st : Int) (pa : Option Addr) (pc : Nat) (l : List Ns) (an ax : Option Addr) (cn cx : Nat) (now next : List Bool) : Prop where
  blk : Blk w n 231 [.int .i64 st, .slice pa l.length pc, .slice an now.length cn, .slice ax next.length cx]
  row : RowAt w0 pa 8 nsE l
  md : Md [] w0 w
  nlo : w0.heap.size ≤ n
  onow : OwnL w w0.heap.size 4 1 bE an cn now
  onext : OwnL w w0.heap.size 4 1 bE ax cx next
  d1 : ∀ A, an = some A → A.block ≠ n
  d2 : ∀ A, ax = some A → A.block ≠ n
  d3 : Apt an ax
section
variable {w0 w w' : World} {n : Nat} {st : Int} {pa : Option Addr} {pc : Nat} {l : List Ns} {an ax : Option Addr} {cn cx : Nat} {now next : List Bool}
theorem StAt.md0 (S : StAt w0 w n st pa pc l an ax cn cx now next) (hm : Md [] w w') : StAt w0 w' n st pa pc l an ax cn cx now next :=
  ⟨S.blk.md hm (by simp), S.row, S.md.trans hm, S.nlo, S.onow.md hm, S.onext.md hm, S.d1, S.d2, S.d3⟩
theorem StAt.mdN {D : List Nat} (S : StAt w0 w n st pa pc l an ax cn cx now next) (hm : Md D w w') (hD : ∀ d ∈ D, w.heap.size ≤ d) : StAt w0 w' n st pa pc l an ax cn cx now next := S.md0 (hm.fresh hD)
theorem StAt.put (S : StAt w0 w n st pa pc l an ax cn cx now next) {i : Nat} (hi : i < next.length) (x : Bool) :
    ∃ A, ax = some A ∧ A.block < w.heap.size ∧ w0.heap.size ≤ A.block ∧ (adAt ax (i : Int) 1).block = A.block ∧ Wr w (adAt ax (i : Int) 1) 1 ∧ StAt w0 (setCells w (adAt ax (i : Int) 1) 0 [.bool x]) n st pa pc l an ax cn cx now (next.set i x) ∧
      Md [A.block] w (setCells w (adAt ax (i : Int) 1) 0 [.bool x]) := by
  obtain ⟨A, hA, h1, h2, h3, h4, h5, h6⟩ := S.onext.put encbE (by omega) hi x
  refine ⟨A, hA, h1, h2, h3, h4, ⟨?_, S.row, S.md.old h6 (by simpa using h2), S.nlo, S.onow.mdD h6 fun B hB => by simpa using S.d3 B A hB hA, h5, S.d1, S.d2, S.d3⟩, h6⟩
  have := S.blk.md h6 (by simpa using (S.d2 A hA).symm)
  rw [List.length_set]; exact this
end
end Fk
set_option linter.unusedVariables false
set_option linter.unusedSimpArgs false
set_option maxRecDepth 100000
set_option maxHeartbeats 2000000
namespace Fk
open Go Go.Proofs Go.RowKit
theorem xor32 (s c : Nat) (hs : s < 4294967296) (hc : c < 4294967296) : IntKind.wrap .u32 ((BitVec.toNat (BitVec.ofInt 32 (s : Int) ^^^ BitVec.ofInt 32 (c : Int)) : Nat) : Int) = ((s ^^^ c : Nat) : Int) := by
  have h : s ^^^ c < 2 ^ 32 := Nat.xor_lt_two_pow hs hc
  have e : BitVec.toNat (BitVec.ofInt 32 (s : Int) ^^^ BitVec.ofInt 32 (c : Int)) = s ^^^ c := by
    rw [BitVec.toNat_xor, BitVec.ofInt_natCast, BitVec.ofInt_natCast, BitVec.toNat_ofNat, BitVec.toNat_ofNat, Nat.mod_eq_of_lt (by omega), Nat.mod_eq_of_lt (by omega)]
  rw [e, IntKind.wrap_u32]
  generalize s ^^^ c = m at *
  omega
theorem f138_ok (l : List Nat) (hl : ∀ x ∈ l, x < 256) (hn : l.length < 2 ^ 40) (a : Option Addr) (c : Nat) (w : World) (hr : RowAt w a 1 b1 l) : Ct Try.prog 138 #[.slice a l.length c] w fun v w' => v = .int .u32 (sumL l) ∧ Md [] w w' := by
  apply f138_in
  refine Bd_e rfl ?_
  refine LoopP_in (fun mm us vs w' => ∃ (i s : Nat), us = [.int .u32 s, .int .i64 i] ∧ mm = l.length - i ∧ i ≤ l.length ∧ s < 4294967296 ∧ sumF s (l.drop i) = sumL l ∧ w' = w) l.length
    ⟨0, 2166136261, rfl, rfl, by omega, by omega, rfl, rfl⟩ ?_
  rintro mm us vs w5 ⟨i, s, rfl, hmm, hi, hs, he, rfl⟩
  refine opI_in <| opI_in <| Bd_in fun b8 hb8 => If_in (fun hb => ?_) fun hb => ?_
  · have hil : i < l.length := by rw [hb8] at hb; have : (i : Int) < (l.length : Int) := of_decide_eq_true hb
                                  omega
    have hx := hl _ (List.getElem_mem hil)
    rw [List.drop_eq_getElem_cons hil] at he
    refine ⟨hr.ix hil, hr.ld1 hil rfl <| opI_in <| Bd_e (y := ((l[i] : Nat) : Int)) (by rw [IntKind.wrap_u32]; omega) <| Bd_e (xor32 s l[i] hs (by omega)) <| Bd_e (y := (((s ^^^ l[i]) * 16777619 % 4294967296 : Nat) : Int)) ?_ <| Bd_e (inc_i64 (by omega)) ⟨l.length - (i + 1), by omega, i + 1, _, rfl, rfl, by omega, Nat.mod_lt _ (by omega), he, rfl⟩⟩
    rw [IntKind.wrap_u32]
    generalize s ^^^ l[i] = m
    omega
  · have hil : i = l.length := by
      have : ¬ (i : Int) < (l.length : Int) := by rw [hb8] at hb; exact of_decide_eq_false hb
      omega
    subst hil
    rw [List.drop_of_length_le (Nat.le_refl _)] at he
    rw [← he]
    exact ⟨rfl, Md.refl _ _⟩
theorem or64 (n c : Nat) (hn : n < 2 ^ 40) (hc : c < 256) : IntKind.wrap .i64 ((BitVec.toNat (BitVec.ofInt 64 ((n * 256 : Nat) : Int) ||| BitVec.ofInt 64 (c : Int)) : Nat) : Int) = ((n * 256 + c : Nat) : Int) := by
  have h1 : n * 256 ||| c = n * 256 + c := by
    have := Nat.shiftLeft_add_eq_or_of_lt (b := c) (i := 8) (by simpa using hc) n
    rw [Nat.shiftLeft_eq] at this
    exact this.symm
  have e : BitVec.toNat (BitVec.ofInt 64 ((n * 256 : Nat) : Int) ||| BitVec.ofInt 64 (c : Int)) = n * 256 + c := by
    rw [BitVec.toNat_or, BitVec.ofInt_natCast, BitVec.ofInt_natCast, BitVec.toNat_ofNat, BitVec.toNat_ofNat, Nat.mod_eq_of_lt (by omega), Nat.mod_eq_of_lt (by omega), h1]
  rw [e, IntKind.wrap_i64]
  omega
theorem f226_ok (l : List Nat) (hl : ∀ x ∈ l, x < 256) (hn : l.length ≤ 4) (a : Option Addr) (c : Nat) (w : World) (hr : RowAt w a 1 b1 l) : Ct Try.prog 226 #[.slice a l.length c] w fun v w' => v = .int .i64 (num l) ∧ Md [] w w' := by
  apply f226_in
  refine Bd_e rfl ?_
  refine LoopP_in (fun mm us vs w' => ∃ (i s : Nat), us = [.int .i64 s, .int .i64 i] ∧ mm = l.length - i ∧ i ≤ l.length ∧ s < 256 ^ i ∧ numF s (l.drop i) = num l ∧ w' = w) l.length
    ⟨0, 0, rfl, rfl, by omega, by omega, rfl, rfl⟩ ?_
  rintro mm us vs w5 ⟨i, s, rfl, hmm, hi, hs, he, rfl⟩
  refine opI_in <| opI_in <| Bd_in fun b8 hb8 => If_in (fun hb => ?_) fun hb => ?_
  · have hil : i < l.length := by rw [hb8] at hb; have : (i : Int) < (l.length : Int) := of_decide_eq_true hb
                                  omega
    have hx := hl _ (List.getElem_mem hil)
    have hs2 : s < 2 ^ 24 := by
      have : 256 ^ i ≤ 256 ^ 3 := Nat.pow_le_pow_right (by omega) (by omega)
      omega
    rw [List.drop_eq_getElem_cons hil] at he
    refine ⟨hr.ix hil, hr.ld1 hil rfl <| opI_in <| Bd_e (y := ((s * 256 : Nat) : Int)) (by rw [show min 8 64 = 8 from rfl, IntKind.wrap_i64]; omega) <| Bd_e (y := ((l[i] : Nat) : Int)) (by rw [IntKind.wrap_i64]; omega) <| Bd_e (or64 s l[i] (by omega) hx) <| Bd_e (inc_i64 (by omega)) ⟨l.length - (i + 1), by omega, i + 1, _, rfl, rfl, by omega, ?_, he, rfl⟩⟩
    rw [Nat.pow_succ]
    have : (s + 1) * 256 ≤ 256 ^ i * 256 := Nat.mul_le_mul_right _ hs
    omega
  · have hil : i = l.length := by
      have : ¬ (i : Int) < (l.length : Int) := by rw [hb8] at hb; exact of_decide_eq_false hb
      omega
    subst hil
    rw [List.drop_of_length_le (Nat.le_refl _)] at he
    rw [← he]
    exact ⟨rfl, Md.refl _ _⟩
structure Bx (w0 w : World) (n : Nat) (a : Option Addr) (c : Nat) (out : List Nat) : Prop where
  blk : Blk w n 51 [.slice a out.length c]
  own : OwnL w w0.heap.size 5 1 b1 a c out
  md : Md [] w0 w
  lo : w0.heap.size ≤ n
  ne : ∀ A, a = some A → A.block ≠ n
theorem Bx.md0 {w0 w w' : World} {n : Nat} {a : Option Addr} {c : Nat} {out : List Nat} (h : Bx w0 w n a c out) (hm : Md [] w w') : Bx w0 w' n a c out :=
  ⟨h.blk.md hm (by simp), h.own.md hm, h.md.trans hm, h.lo, h.ne⟩
theorem Bx.set {w0 w w' : World} {n : Nat} {a a' : Option Addr} {c c' : Nat} {out o2 : List Nat} (h : Bx w0 w n a c out) (o : OwnL w' w0.heap.size 5 1 b1 a' c' (out ++ o2)) (hm : Md (a.map (·.block)).toList w w') (hA : ∀ A, a' = some A → a = some A ∨ w.heap.size ≤ A.block) :
    Wr w' ⟨n, 0, none⟩ 1 ∧ Bx w0 (setCells w' ⟨n, 0, none⟩ 0 [.slice a' (out ++ o2).length c']) n a' c' (out ++ o2) := by
  have hn : n ∉ (a.map (·.block)).toList := fun hd => by obtain ⟨A, hA, e⟩ := mem_blk hd; exact h.ne A hA e
  have b' := h.blk.md hm hn
  have hlt := h.blk.lt
  have ne' : ∀ A, a' = some A → A.block ≠ n := fun A hA' e => by
    rcases hA A hA' with h1 | h1
    · exact h.ne A h1 e
    · omega
  have m := Md_setCells (w := w') n 0 [.slice a' (out ++ o2).length c']
  have md' : Md [] w0 w' := h.md.old hm (fun d hd => by obtain ⟨A, hA, rfl⟩ := mem_blk hd; exact (h.own.lt hA).1)
  refine ⟨b'.wr (by simp), ?_, o.mdD m (fun A hA => by simp; exact ne' A hA), md'.old m (by simp; exact h.lo), h.lo, ne'⟩
  exact b'.set (j := 0) (by simp) _
theorem f225_ok {w0 w : World} {n : Nat} {a : Option Addr} {c : Nat} {out : List Nat} (h : Bx w0 w n a c out) (hl : out.length < 2 ^ 30) (x : Nat) (hx : x < 4294967296) (k : Nat) (hk : k ≤ 4) :
    Ct Try.prog 225 #[.int .u32 (x : Int), .int .i64 (k : Int), .pointer (some ⟨n, 0, none⟩)] w fun v w' => v = .tuple #[] ∧ ∃ a' c', Bx w0 w' n a' c' (out ++ be x k) := by
  apply f225_in
  refine Bd_e (y := (k : Int) - 1) (by rw [IntKind.wrap_i64]; omega) ?_
  refine LoopP_in (fun mm us vs w' => ∃ (j : Nat) (a' : Option Addr) (c' : Nat) (o : List Nat), us = [.int .i64 ((j : Int) - 1)] ∧ mm = j ∧ j ≤ k ∧ Bx w0 w' n a' c' o ∧ o ++ be x j = out ++ be x k) k
    ⟨k, a, c, out, rfl, rfl, by omega, h, rfl⟩ ?_
  rintro mm us vs w5 ⟨j, a', c', o, rfl, hmj, hj, S, he⟩
  refine opI_in <| Bd_in fun b7 hb7 => If_in (fun hb => ?_) fun hb => ?_
  · have hj1 : (j : Int) - 1 ≥ 0 := by rw [hb7] at hb; exact of_decide_eq_true hb
    obtain ⟨i, rfl⟩ : ∃ i, j = i + 1 := ⟨j - 1, by omega⟩
    have ei : (((i + 1 : Nat) : Int) - 1) = (i : Int) := by omega
    rw [ei]
    have hol : o.length + (i + 1) = out.length + k := by have := congrArg List.length he; simpa [be_len] using this
    have hp : (2 : Int) ^ (8 * i) = ((256 ^ i : Nat) : Int) := by
      rw [Int.natCast_pow, Int.pow_mul]; rfl
    have hby : IntKind.wrap .u8 (Int.fdiv (x : Int) (2 ^ min (Int.toNat ((8 * i : Nat) : Int)) 32)) = ((x / 256 ^ i % 256 : Nat) : Int) := by
      rw [Int.toNat_natCast, Nat.min_eq_left (by omega), hp, Int.fdiv_eq_ediv_of_nonneg _ (Int.natCast_nonneg _), IntKind.wrap_u8, ← Int.natCast_ediv]
      generalize x / 256 ^ i = m
      omega
    have hbe : o ++ [x / 256 ^ i % 256] ++ be x i = out ++ be x k := by rw [← he]; simp [be]
    have Sd := S.md0 (Md_drew w5)
    have dec : IntKind.wrap .i64 ((i : Int) - 1) = (i : Int) - 1 := by rw [IntKind.wrap_i64]; omega
    refine Bd_e (y := ((8 * i : Nat) : Int)) (by rw [IntKind.wrap_i64]; omega) ⟨by omega, Bd_e rfl <| Bd_e hby ⟨?_, ?_⟩⟩
    · refine Ld_in (Sd.blk.cell rfl) <| opL_in ?_
      refine app_one rowT51 encb1 _ rfl Sd.own Sd.md.size (by simp) (by simp) (by simp [maxLen]; omega) (by omega) fun a2 c2 w18 o18 m18 hA => opL_in ?_
      obtain ⟨q1, q2⟩ := Sd.set o18 m18 hA
      exact ⟨by simp, q1, Bd_e dec ⟨i, by omega, i, a2, c2, _, rfl, rfl, by omega, q2, hbe⟩⟩
    · refine Nw_i <| Ld_in ((Sd.md0 (Md.alloc _ _)).blk.cell rfl) <| opL_in ?_
      have S2 := Sd.md0 (Md.alloc (M := []) w5.drew (.cells #[.int .u8 ((x / 256 ^ i % 256 : Nat) : Int)] 5))
      have ol := OwnL.lit (P := Try.prog) (base := w5.drew.heap.size) encb1 w5.drew 5 [x / 256 ^ i % 256] #[.int .u8 ((x / 256 ^ i % 256 : Nat) : Int)] (Nat.le_refl _) (by simp [maxLen]) rfl
      refine app_own rowT51 encb1 S2.own ol S2.md.size (by simp) (by simp) (by simp [maxLen]; omega) (by simp; omega) fun a2 c2 w18 o18 m18 hA => opL_in ?_
      obtain ⟨q1, q2⟩ := S2.set o18 m18 hA
      exact ⟨by simp, q1, Bd_e dec ⟨i, by omega, i, a2, c2, _, rfl, rfl, by omega, q2, hbe⟩⟩
  · have hj0 : j = 0 := by
      have : ¬ (j : Int) - 1 ≥ 0 := by rw [hb7] at hb; exact of_decide_eq_false hb
      omega
    subst hj0
    simp only [be, List.append_nil] at he
    rw [← he]
    exact ⟨rfl, a', c', S⟩
theorem call225 {w0 w : World} {n : Nat} {a : Option Addr} {c : Nat} {out : List Nat} (h : Bx w0 w n a c out) (hl : out.length < 2 ^ 30) (x : Nat) (hx : x < 4294967296) (k : Nat) (hk : k ≤ 4) {K : World → Prop} (kk : ∀ a' c' w', Bx w0 w' n a' c' (out ++ be x k) → K w') :
    CallW Try.prog [] 225 #[.int .u32 (x : Int), .int .i64 (k : Int), .pointer (some ⟨n, 0, none⟩)] (fun v w' => opTu v fun cs => SzIs cs.size 0 (K w')) w := by
  have := f225_ok h hl x hx k hk
  refine ⟨.inl ⟨this.1, this.2.mono fun e w' he => ?_⟩⟩
  cases e <;> first | exact he.elim | skip
  obtain ⟨rfl, a', c', S⟩ := he
  exact ⟨(fun b hb => by cases hb), opTu_in <| SzIs_in rfl (kk a' c' w' S)⟩
theorem size5b (w : World) : (Go.sizeOf 5).run Try.prog w = .ok 1 w := by
  have h : (Try.prog.info? 5).map (·.size) = some 1 := by kernel_rfl
  cases hi : Try.prog.info? 5 with
  | none => rw [hi] at h; cases h
  | some i => rw [hi] at h; simp [Go.sizeOf, typeInfo, hi]; simpa using h
theorem rest_b1 {w : World} {a : Option Addr} {l : List Nat} {c m : Nat} (h : RowAt w a 1 b1 l) (hc : l.length ≤ c) (hm : m ≤ l.length) : RowAt w (if c = m then a else a.map (·.add (m * 1))) 1 b1 (l.drop m) := by
  by_cases e : c = m
  · rw [List.drop_of_length_le (by omega)]
    intro i x hx
    simp at hx
  · rw [if_neg e]; exact h.drop m
theorem jenc1_get {α : Type} {enc : α → List Value} (he : Enc 1 enc) : ∀ {l : List α} {j : Nat} {u : Value}, (l.flatMap enc)[j]? = some u → ∃ x, l[j]? = some x ∧ (enc x)[0]? = some u
  | [], j, u, h => by simp at h
  | x :: l, j, u, h => by
    have hl := he.len x
    rw [List.flatMap_cons] at h
    cases j with
    | zero =>
      rw [List.getElem?_append_left (by omega)] at h
      exact ⟨x, rfl, h⟩
    | succ j =>
      rw [List.getElem?_append_right (by omega), hl, Nat.add_sub_cancel] at h
      obtain ⟨y, hy, hu⟩ := jenc1_get he (l := l) h
      exact ⟨y, by simpa using hy, hu⟩
/-- Behind a row come the elements of another one, from wherever they are read. -/
theorem japp_row {α : Type} {t e : TypeId} {bytes : Nat} {enc : α → List Value} (T : RowT Try.prog t e 1 bytes) (he : Enc 1 enc) {w : World} {base : Nat} {a a2 : Option Addr} {c c2 m2 : Nat} {l l2 : List α} {L : List Nat} (hm2 : m2 = l2.length)
    (h : OwnL w base e 1 enc a c l) (h2 : RowAt w a2 1 enc l2) (h2n : a2.isSome = true) (hb : base ≤ w.heap.size) (hL : ∀ b ∈ L, b < w.heap.size) (hLa : ∀ b ∈ L, ∀ A, a = some A → A.block ≠ b)
    (hn : l.length + l2.length ≤ maxLen) (hby : (l.length + l2.length) * bytes ≤ 140737488355328) {K : Value → World → Prop}
    (k : ∀ (a' : Option Addr) (c' : Nat) (w' : World), OwnL w' base e 1 enc a' c' (l ++ l2) → Md (a.map (·.block)).toList w w' → (∀ A, a' = some A → a = some A ∨ w.heap.size ≤ A.block) → K (.slice a' (l ++ l2).length c') w') :
    RunW Try.prog L (Builtin.append_ #[t, t] t #[.slice a l.length c, .slice a2 m2 c2]) K w := by
  subst hm2
  obtain ⟨A2, rfl⟩ := Option.isSome_iff_exists.1 h2n
  obtain ⟨a', c', w', hr, ho, hm, hA⟩ := run_app (ty := t) T h A2 l2.length c2 (l2.flatMap enc) (he.lenL l2) (fun j u hu => by
    obtain ⟨x, hx, hu0⟩ := jenc1_get he hu
    obtain ⟨B, hB, hc⟩ := h2 j x hx
    injection hB with hB
    subst hB
    have := hc 0 _ hu0
    rw [add_add] at this
    simpa using this) (he.oneL l2) hn hby hb
  refine RunW_in hr (fun b hbL => hm.blk b (hL b hbL) fun hmem => ?_) ?_
  · cases a with
    | none => simp at hmem
    | some A => simp at hmem; exact hLa b hbL A rfl hmem.symm
  · have := k a' c' w' (by unfold OwnL; rw [List.flatMap_append, List.length_append]; exact ho) hm hA
    rwa [List.length_append] at this
theorem f199_ok (r : List Nat) (hr : ∀ x ∈ r, x < 256) (hl : r.length ≤ 1048576) (m : Nat) (hm : m < 256) (A : Option Addr) (C : Nat) (w : World) (ho : RowAt w A 1 b1 r) (hA : A.isSome = true) :
    Ct Try.prog 199 #[.slice A r.length C, .int .u8 m] w fun v w' => (∃ (a : Option Addr) (c : Nat), v = .slice a (frm m r).length c ∧ OwnL w' w.heap.size 5 1 b1 a c (frm m r)) ∧ Md [] w w' := by
  apply f199_in
  refine Nw_i ?_
  have ma : Md [] w (w.alloc (.cells #[.slice none 0 0] 51)) := Md.alloc w _
  have S0 : Bx w (w.alloc (.cells #[.slice none 0 0] 51)) w.heap.size none 0 [] := ⟨Blk.new w _ 51, OwnL.nil _ _ _ _ _, ma, Nat.le_refl _, fun A hA => by cases hA⟩
  refine Bd_e (y := (m : Int)) (by rw [IntKind.wrap_u32]; omega) <| call225 S0 (by simp) m (by omega) 1 (by omega) fun a1 c1 w5 S1 => ?_
  have e1 : [] ++ be m 1 = [m] := by simp [be]; omega
  rw [e1] at S1
  refine Bd_e rfl <| Bd_e (y := (r.length : Int)) (by rw [IntKind.wrap_u32]; omega) <| call225 S1 (by simp) r.length (by omega) 3 (by omega) fun a2 c2 w10 S2 => ?_
  have l2 : ([m] ++ be r.length 3).length = 4 := by simp [be_len]
  refine Ld_in (S2.blk.cell rfl) <| opL_in ?_
  refine japp_row rowT51 encb1 rfl S2.own (ho.md S2.md) hA S2.md.size (by simp) (by simp) (by rw [l2]; simp [maxLen]; omega) (by rw [l2]; omega) fun a3 c3 w17 o17 m17 hA => opL_in ?_
  obtain ⟨q1, S3⟩ := S2.set o17 m17 hA
  refine ⟨by simp, q1, Ld_in (S3.blk.cell rfl) <| opL_in ?_⟩
  have eb : [m] ++ be r.length 3 ++ r = m :: bodyB r := by simp [bodyB]
  rw [eb] at S3 ⊢
  have hc3 := S3.own.cap
  have hbl : (bodyB r).length = r.length + 3 := by simp [bodyB, be_len]; omega
  have hbb : ∀ x ∈ bodyB r, x < 256 := fun x hx => by
    rcases List.mem_append.1 hx with h | h
    · exact be_lt _ _ x h
    · exact hr x h
  refine RunW_in0 (slice_rest (m := 1) (e := 5) (by kernel_rfl) size5b _ _ _ _ (by simp)) <| opL_in ?_
  have hrest := rest_b1 (m := 1) (S3.own.row encb1) hc3 (by simp)
  have edl : (m :: bodyB r).length - 1 = (bodyB r).length := by simp
  rw [edl]
  refine (f138_ok (bodyB r) hbb (by omega) _ _ _ (by simpa using hrest)).call (by simp) ?_
  rintro v w31 rfl m31
  have S31 := S3.md0 m31
  refine opI_in <| call225 S31 (by simp [hbl]; omega) (sumL (bodyB r)) (sumL_lt _) 4 (by omega) fun a4 c4 w34 S4 => Ld_in (S4.blk.cell rfl) <| opL_in ⟨⟨a4, c4, rfl, S4.own⟩, S4.md⟩
end Fk
set_option linter.unusedVariables false
set_option linter.unusedSimpArgs false
set_option maxRecDepth 100000
set_option maxHeartbeats 2000000
namespace Fk
open Go Go.Proofs Go.RowKit
structure Lg where
  area : Nat
  pos : Nat
  ov : Bool
def Lg.c (n : Nat) (g : Lg) : List Value := [.pointer (some ⟨n, 0, none⟩), .int .i64 g.area, .int .i64 g.pos, .bool g.ov]
structure JS (w0 w : World) (n : Nat) (d : Dk) (F : List Nat) (ln : Nat) (g : Lg) : Prop where
  ds : DS w0 w n d F
  blk : Blk w ln 260 (g.c n)
  out : ln ∉ F
  lo : w0.heap.size ≤ ln
def half (d : Dk) : Nat := (d.bl.length - 1) / 2
def jsz (d : Dk) : Nat := half d * 64
def jbk (d : Dk) (area k : Nat) : Nat := 1 + area * half d + k
section
variable {w0 w : World} {n : Nat} {d : Dk} {F : List Nat} {ln : Nat} {g : Lg}
theorem JS.lf1 (S : JS w0 w n d F ln g) : LF [ln] w F := fun b hb => by
  simp only [List.mem_singleton] at hb; subst hb; exact ⟨S.blk.lt, S.out⟩
theorem JS.md0 {w' : World} (S : JS w0 w n d F ln g) (hm : Md [] w w') : JS w0 w' n d F ln g := ⟨S.ds.md0 hm, S.blk.md hm (by simp), S.out, S.lo⟩
theorem JS.step {w' : World} {d' : Dk} {F' : List Nat} (S : JS w0 w n d F ln g) (h : DS w0 w' n d' F') (hm : Md F w w') (hf : Fr w F F') : JS w0 w' n d' F' ln g :=
  ⟨h, S.blk.md hm S.out, (S.lf1.fr hf hm.size ln (by simp)).2, S.lo⟩
theorem JS.other {w' : World} {G : List Nat} (S : JS w0 w n d F ln g) (hm : Md G w w') (hG : LF (ln :: F) w G) (hg : ∀ b ∈ G, w0.heap.size ≤ b) : JS w0 w' n d F ln g :=
  ⟨S.ds.other hm (fun b hb => hG b (by simp [hb])) hg, S.blk.md hm (hG ln (by simp)).2, S.out, S.lo⟩
theorem JS.set (S : JS w0 w n d F ln g) {j : Nat} {v : Value} {g' : Lg} (hj : j < 4) (e : (g.c n).set j v = g'.c n) :
    JS w0 (setCells w ((Addr.mk ln 0 none).add j) 0 [v]) n d F ln g' ∧ Md [ln] w (setCells w ((Addr.mk ln 0 none).add j) 0 [v]) ∧ Wr w ((Addr.mk ln 0 none).add j) 1 := by
  rw [ad0]
  have hm := Md_setCells (w := w) ln j [v]
  refine ⟨⟨S.ds.other hm (S.lf1.swap S.ds.dk.lt) (by simp; exact S.lo), ?_, S.out, S.lo⟩, hm, S.blk.wr (by simp [Lg.c]; omega)⟩
  rw [← e]
  exact S.blk.set (by simp [Lg.c]; omega) v
theorem JS.len (S : JS w0 w n d F ln g) : d.bl.length ≤ 65536 := by obtain ⟨p, hp, _⟩ := S.ds.dk; exact hp.len
theorem half_le (h : d.bl.length ≤ 65536) : half d ≤ 32767 := by unfold half; omega
theorem f205_ok (S : JS w0 w n d F ln g) (h1 : 1 ≤ d.bl.length) : Ct Try.prog 205 #[.pointer (some ⟨ln, 0, none⟩)] w fun v w' => v = .int .i64 (half d) ∧ Md [] w w' := by
  have hl := S.len
  apply f205_in
  refine NN_in <| S.blk.ld (j := 0) rfl <| opP_in <| in112 S.ds (L := []) (by simp) fun w5 S5 m5 => Bd_e (y := ((d.bl.length - 1 : Nat) : Int)) (by rw [IntKind.wrap_i64]; omega) <| Bd_e (y := (half d : Int)) ?_ ⟨rfl, m5⟩
  rw [Int.tdiv_eq_ediv_of_nonneg (by omega), IntKind.wrap_i64]; unfold half; omega
theorem f197_ok (S : JS w0 w n d F ln g) (h1 : 1 ≤ d.bl.length) : Ct Try.prog 197 #[.pointer (some ⟨ln, 0, none⟩)] w fun v w' => v = .int .i64 (jsz d) ∧ Md [] w w' := by
  have hl := half_le S.len
  apply f197_in
  refine (f205_ok S h1).call (by simp) ?_
  rintro v w2 rfl m2
  exact opI_in <| Bd_e (y := (jsz d : Int)) (by rw [IntKind.wrap_i64]; unfold jsz; omega) ⟨rfl, m2⟩
theorem f202_ok (S : JS w0 w n d F ln g) (h1 : 1 ≤ d.bl.length) (a k : Nat) (ha : a ≤ 1) (hk : k ≤ 65536) : Ct Try.prog 202 #[.pointer (some ⟨ln, 0, none⟩), .int .i64 a, .int .i64 k] w fun v w' => v = .int .i64 (jbk d a k) ∧ Md [] w w' := by
  have hl := half_le S.len
  apply f202_in
  refine (f205_ok S h1).call (by simp) ?_
  rintro v w2 rfl m2
  have h3 : a * half d ≤ 1 * half d := Nat.mul_le_mul_right _ ha
  refine opI_in <| Bd_e (y := ((a * half d : Nat) : Int)) (by rw [IntKind.wrap_i64, ← Int.natCast_mul]; generalize a * half d = m at *; omega) <| Bd_e (y := ((1 + a * half d : Nat) : Int)) ?_ <| Bd_e (y := (jbk d a k : Int)) ?_ ⟨rfl, m2⟩
  all_goals
    rw [IntKind.wrap_i64]
    try unfold jbk
    generalize a * half d = m at *
    omega
theorem in205 {L : List Nat} (S : JS w0 w n d F ln g) (h1 : 1 ≤ d.bl.length) (hL : ∀ b ∈ L, b < w.heap.size) {K : Int → World → Prop} (k : ∀ w', JS w0 w' n d F ln g → Md [] w w' → K (half d : Int) w') :
    CallW Try.prog L 205 #[.pointer (some ⟨ln, 0, none⟩)] (fun v w' => opI .i64 v fun x => K x w') w := by
  refine (f205_ok S h1).call hL ?_
  rintro v w' rfl h'
  exact opI_in (k w' (S.md0 h') h')
theorem in197 {L : List Nat} (S : JS w0 w n d F ln g) (h1 : 1 ≤ d.bl.length) (hL : ∀ b ∈ L, b < w.heap.size) {K : Int → World → Prop} (k : ∀ w', JS w0 w' n d F ln g → Md [] w w' → K (jsz d : Int) w') :
    CallW Try.prog L 197 #[.pointer (some ⟨ln, 0, none⟩)] (fun v w' => opI .i64 v fun x => K x w') w := by
  refine (f197_ok S h1).call hL ?_
  rintro v w' rfl h'
  exact opI_in (k w' (S.md0 h') h')
theorem in202 {L : List Nat} (S : JS w0 w n d F ln g) (h1 : 1 ≤ d.bl.length) {a k : Nat} (ha : a ≤ 1) (hk : k ≤ 65536) (hL : ∀ b ∈ L, b < w.heap.size) {K : Int → World → Prop} (kk : ∀ w', JS w0 w' n d F ln g → Md [] w w' → K (jbk d a k : Int) w') :
    CallW Try.prog L 202 #[.pointer (some ⟨ln, 0, none⟩), .int .i64 a, .int .i64 k] (fun v w' => opI .i64 v fun x => K x w') w := by
  refine (f202_ok S h1 a k ha hk).call hL ?_
  rintro v w' rfl h'
  exact opI_in (kk w' (S.md0 h') h')
theorem in119 {L : List Nat} (S : DS w0 w n d F) (hL : ∀ b ∈ L, b < w.heap.size) {i : Nat} (hi : i < d.bl.length) {K : Option Addr → Nat → Nat → Int → World → Prop}
    (k : ∀ a w', DS w0 w' n d F → Md [] w w' → OwnL w' w.heap.size 252 1 b1 a 64 (getB d.bl i).1 → K a 64 64 0 w') :
    CallW Try.prog L 119 #[.pointer (some ⟨n, 0, none⟩), .int .i64 i] (fun v w' => opTu v fun cs => opL (nthD (Array.toList cs) 0) fun a m c => opI .i64 (nthD (Array.toList cs) 1) fun e => SzIs (Array.size cs) 2 (K a m c e w')) w := by
  refine (f119_ok n d F i w S.dk).call hL ?_
  rintro v w' h h'
  rcases h with ⟨_, h1, a, rfl, ho⟩ | ⟨hno, _⟩
  · rw [getB_eq hi] at k
    exact opTu_in <| opL_in <| opI_in <| SzIs_in rfl (k a w' (S.md0 h') h' ho)
  · exact absurd ⟨by omega, by omega⟩ hno
def oneD (d : Dk) (i : Nat) (b : List Nat) : Dk × Bool := if (d.write i b).2 = 0 then ((d.write i b).1.flush.1, (d.write i b).1.flush.2 == 0) else ((d.write i b).1, false)
theorem f201_ok (S : JS w0 w n d F ln g) (hpd : d.pd.length < 2 ^ 30) (i : Nat) (hi : i < d.bl.length) (p : Nat) (hp : p < 64) (c : Nat) (hc : c < 256) :
    Ct Try.prog 201 #[.pointer (some ⟨ln, 0, none⟩), .int .i64 i, .int .i64 p, .int .u8 c] w fun v w' =>
      (v = .bool (oneD d i ((getB d.bl i).1.set p c)).2 ∧ ∃ F', JS w0 w' n (oneD d i ((getB d.bl i).1.set p c)).1 F' ln g ∧ Fr w F F') ∧ Md F w w' := by
  apply f201_in
  refine NN_in <| S.blk.ld (j := 0) rfl <| opP_in <| in119 S.ds (L := []) (by simp) hi fun a w5 S5 m5 o5 => ?_
  have hlen : (getB d.bl i).1.length = 64 := (getB d.bl i).2.1
  have hx5 : IxOk (p : Int) 64 a := by have := (o5.row encb1).ix (i := p) (by omega); rwa [hlen] at this
  obtain ⟨A, rfl, h1, h2, h3, h4, o6, m6⟩ := o5.put encb1 (by omega) (i := p) (by omega) c
  have hfr : ∀ b ∈ [A.block], w.heap.size ≤ b := by simpa using h2
  have S5' := S.md0 m5
  have m56 := m5.old m6 hfr
  have S6 := S.md0 m56
  refine ⟨hx5, by simp, h4, NN_in <| S6.blk.ld (j := 0) rfl <| opP_in ?_⟩
  have hbb : ∀ x ∈ (getB d.bl i).1.set p c, x < 256 := fun x hx => by
    rcases List.mem_or_eq_of_mem_set hx with h | h
    · exact (getB d.bl i).2.2 x h
    · omega
  have hl6 : ((getB d.bl i).1.set p c).length = 64 := by simp [hlen]
  have hAF : A.block ∉ F := fun h => by have := S.ds.dk.lt _ h; omega
  refine in114 (L := []) S6.ds (LF.nil _ _) i (b := (getB d.bl i).1.set p c) (by rw [hl6]) hbb (by rw [hl6]; omega) hpd (o6.row encb1) (fun B hB => by cases hB; exact hAF) fun F' w15 S15 m15 f15 _ => ?_
  have m15' : Md F w w15 := (m56.mono (by simp)).trans m15
  have f15' : Fr w F F' := fun b hb => (f15 b hb).imp id (Nat.le_trans m56.size)
  have J15 := S6.step S15 m15 f15
  refine Bd_in fun b17 hb17 => ⟨fun _ => rfl, Bd_e rfl ?_⟩
  by_cases hw : (d.write i ((getB d.bl i).1.set p c)).2 = 0
  · have e17 : b17 = true := by rw [hb17, hw]; rfl
    subst e17
    refine Gd_t <| J15.blk.ld (j := 0) rfl <| opP_in <| Gd_t <| in103 (L := []) S15 (LF.nil _ _) fun F2 w27 S27 m27 f27 _ => Bd_e rfl <| Bd_e rfl ⟨⟨?_, F2, ?_, fun b hb => ?_⟩, ?_⟩
    · unfold oneD; rw [if_pos hw]; rfl
    · unfold oneD; rw [if_pos hw]; exact J15.step S27 m27 f27
    · rcases f27 b hb with h | h
      · exact f15' b h
      · exact .inr (Nat.le_trans m15'.size h)
    · exact m15'.fr m27 f15'
  · have e17 : b17 = false := by rw [hb17]; exact beq_eq_false_iff_ne.2 hw
    subst e17
    refine Gd_f <| Gd_f <| Bd_e rfl <| Bd_e rfl ⟨⟨?_, F', ?_, f15'⟩, m15'⟩
    · unfold oneD; rw [if_neg hw]; rfl
    · unfold oneD; rw [if_neg hw]; exact J15
end
end Fk
