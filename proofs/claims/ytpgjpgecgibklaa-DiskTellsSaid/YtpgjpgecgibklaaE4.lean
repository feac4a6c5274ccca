/- Contracts: bytes repeated, what an operation writes. -/
import Derived.Test.YtpgjpgecgibklaaE3
import Derived.Laws.Externs
import Derived.Lib.MakeNoZero
set_option linter.unusedVariables false
set_option linter.unusedSimpArgs false
set_option maxRecDepth 100000
namespace Fk
open Go Go.Proofs Go.RowKit
theorem and_mask {m : Nat} (h : m < 4294967296) : (BitVec.toNat (BitVec.ofInt 64 (m : Int) &&& BitVec.ofInt 64 4294967295) : Int) = (m : Int) := by
  have e1 : BitVec.ofInt 64 (m : Int) = BitVec.ofNat 64 m := BitVec.ofInt_natCast ..
  have e2 : BitVec.ofInt 64 4294967295 = BitVec.ofNat 64 4294967295 := rfl
  rw [e1, e2, BitVec.toNat_and, BitVec.toNat_ofNat, BitVec.toNat_ofNat, Nat.mod_eq_of_lt (by omega), Nat.mod_eq_of_lt (by omega)]
  have : m &&& 4294967295 = m % 2 ^ 32 := Nat.and_two_pow_sub_one_eq_mod m 32
  rw [this, Nat.mod_eq_of_lt (by omega)]
theorem f233_ok (m : Nat) (h : m < 4294967296) (w : World) : Ct Try.prog 233 #[.int .u64 1, .int .u64 m] w fun v w' => v = .tuple #[.int .u64 0, .int .u64 m] ∧ Md [] w w' := by
  apply f233_in
  have p32 : (2 : Int) ^ min 32 64 = 4294967296 := by decide
  have hm1 := and_mask (m := 1) (by omega)
  have hm0 := and_mask (m := 0) (by omega)
  have hmm := and_mask h
  have fd : ∀ k : Nat, k < 4294967296 → Int.fdiv (k : Int) 4294967296 = 0 := fun k hk => by rw [Int.fdiv_eq_ediv_of_nonneg _ (by omega)]; omega
  refine Bd_e (y := 1) (by rw [show (1 : Int) = ((1 : Nat) : Int) from rfl, hm1]; rfl) <| Bd_e (y := 0) (by rw [p32]; exact fd 1 (by omega)) <| Bd_e (y := (m : Int)) (by rw [hmm, IntKind.wrap_u64]; omega) <| Bd_e (y := 0) (by rw [p32]; exact fd m h) <|
    Bd_e (y := (m : Int)) (by rw [IntKind.wrap_u64]; omega) <| Bd_e (y := 0) (by rw [IntKind.wrap_u64]; omega) <| Bd_e (y := 0) (by rw [p32]; exact fd m h) <| Bd_e (y := 0) rfl <| Bd_e (y := 0) (by rw [show (0 : Int) = ((0 : Nat) : Int) from rfl, hm0]; rfl) <| Bd_e (y := 0) (by rw [p32]; exact fd 0 (by omega)) <| Bd_e (y := 0) rfl <| Bd_e (y := 0) rfl <| Bd_e (y := 0) rfl <| Bd_e (y := 0) rfl <| Bd_e (y := 0) (by rw [p32]; exact fd 0 (by omega)) <| Bd_e (y := 0) rfl <| Bd_e (y := (m : Int)) (by rw [IntKind.wrap_u64]; omega) ⟨rfl, Md.refl _ _⟩
theorem f223_ok (m : Nat) (h : m < 4294967296) (w : World) : Ct Try.prog 223 #[.int .u64 1, .int .u64 m] w fun v w' => v = .tuple #[.int .u64 0, .int .u64 m] ∧ Md [] w w' := by
  apply f223_in
  refine If_f ?_
  refine (f233_ok m h w).call (by simp) ?_
  rintro v w' rfl h'
  exact opTu_in <| opI_in <| opI_in <| SzIs_in rfl ⟨rfl, h'⟩
/-- A new row of whatever bytes. -/
theorem call224 {L : List Nat} {w : World} {m : Nat} (hm : m ≤ 2 ^ 30) (hL : ∀ b ∈ L, b < w.heap.size) {K : Option Addr → Nat → Nat → World → Prop}
    (k : ∀ (c : Nat) (xs : List Value) w', w'.ownsRow w.heap.size 5 1 (.slice (some ⟨w.heap.size, 0, none⟩) m c) m xs → m ≤ c → Md [] w w' → K (some ⟨w.heap.size, 0, none⟩) m c w') :
    CallW Try.prog L 224 #[.int .i64 m] (fun v w' => opL v fun a n c => K a n c w') w := by
  obtain ⟨cs, hrun, hle, hmax⟩ := Lib.run_makeNoZero (P := Try.prog) w #[3] 51 5 (by kernel_rfl) m (by omega)
  have hc := run_callFunc_extern (P := Try.prog) (f := 224) (fn := Try.f224) Try.func224 (by kernel_rfl) (by kernel_rfl) (e := Extern.BytealgMakeNoZero.makeNoZero #[3] #[51]) (by kernel_rfl) (by kernel_rfl) #[.int .i64 m] w
  rw [hrun] at hc
  have hmd : Md [] w (w.drew.drew.alloc (.cells cs 5)) := ((Md_drew w).trans (Md_drew _)).trans (Md.alloc _ _)
  refine ⟨.inr ⟨_, _, hc, Kept_md hmd hL, opL_in (k cs.size (cs.toList.take m) _ ?_ hle hmd)⟩⟩
  refine ⟨by rw [List.length_take, Array.length_toList]; omega, .inr ⟨w.heap.size, cs.size, cs, rfl, Nat.le_refl _, heap_alloc_new w.drew.drew _, hle, hmax (by simp [maxLen]; omega), by omega, by rw [Nat.mul_one]⟩⟩
theorem b1_map (l : List Nat) : l.flatMap b1 = l.map fun x => .int .u8 (x : Int) := by
  induction l with
  | nil => rfl
  | cons x l ih => rw [List.flatMap_cons, ih]; rfl
theorem slice_hm (w : World) (a : Option Addr) (n c m : Nat) (h : m ≤ c) : (Instr.sliceAt 51 (.slice a n c) none (some (.int .i64 (m : Int))) (some (.int .i64 (m : Int)))).run Try.prog w = .ok (.slice a m m) w := by
  have he : Try.prog.elem 51 = 5 := by kernel_rfl
  have ht' : Try.prog.underlying 51 = some (.slice (Try.prog.elem 51)) := by rw [he]; kernel_rfl
  rw [run_sliceAt_slice w 51 _ _ _ _ ht', run_slice_hm w 51 a n c ht' .i64 .i64 m m (by omega) (by omega) (by omega), he, size5]
  simp [Result.andThen, sliced]
  cases a <;> simp [addr_add0]
theorem own_cell {w : World} {base : Nat} {e : TypeId} {n c : Nat} {a : Option Addr} {xs : List Value} (h : w.ownsRow base e 1 (.slice a n c) n xs) {A : Addr} (ha : a = some A) : ∀ j v, xs[j]? = some v → w.cell? (A.add j) = some v := by
  intro j v hv
  subst ha
  rcases h.2 with ⟨hv', hn⟩ | ⟨g, cap, cur, hv', _⟩
  · simp at hv'
  · simp only [Value.slice.injEq, Option.some.injEq] at hv'
    rw [hv'.1]
    exact World.ownsRow.cells h (by rw [hv'.1]; rfl) j v hv
/-- One byte, many times. -/
theorem f193_ok (x : Nat) (hx : x < 256) (A : Option Addr) (c m : Nat) (hm : m ≤ 2 ^ 20) (w : World) (hr : RowAt w A 1 b1 [x]) :
    Ct Try.prog 193 #[.slice A 1 c, .int .i64 m] w fun v w' => (∃ a c C, v = .slice a m c ∧ m ≤ c ∧ OwnL w' w.heap.size 5 1 b1 a C (List.replicate m x)) ∧ Md [] w w' := by
  apply f193_in
  refine Bd_in fun b1' hb1 => If_in (fun h => ?_) fun h => ?_
  · have h0 : m = 0 := by rw [hb1] at h; simp at h; omega
    subst h0
    intro n2 w3 e2 e3
    subst e2; subst e3
    exact ⟨⟨_, _, _, rfl, Nat.le_refl _, OwnL.lit (P := Try.prog) encb1 w 5 [] #[] (Nat.le_refl _) (by simp [maxLen]) rfl⟩, Md.alloc w _⟩
  have h0 : 0 < m := by rw [hb1] at h; simp at h; omega
  clear hb1 h
  refine Jn_in (fun us vs w' => w' = w) ?_ ?_
  case refine_2 => exact Bd_f (by simp) <| If_f rfl
  rintro us vs w6 rfl
  refine Bd_e (y := 1) rfl <| Bd_e (y := 1) rfl <| Bd_e (y := (m : Int)) (by rw [IntKind.wrap_u64]; omega) ?_
  refine (f223_ok m (by omega) w6).call (by simp) ?_
  rintro v w11 rfl h11
  refine opTu_in <| opI_in <| opI_in <| SzIs_in rfl ?_
  refine Jn_in (fun us vs w' => w' = w11) ?_ ?_
  case refine_2 => exact Bd_f (by simp) <| Bd_f (by simp; omega) <| Bd_f rfl <| If_f rfl
  rintro us vs w17 rfl
  refine Bd_e (y := (m : Int)) (by rw [IntKind.wrap_i64]; omega) <| Bd_e (y := 1) rfl <| Bd_f rfl <| If_f ?_
  refine Jn_in (fun us vs w' => w' = w17 ∧ ∃ q : Nat, us = [.int .i64 q] ∧ 0 < q ∧ q < 2 ^ 30) ?_ ?_
  case refine_2 =>
    refine Bd_in fun b65 hb65 => If_in (fun h => ?_) fun h => ⟨rfl, m, rfl, h0, by omega⟩
    refine Bd_e (y := 1) rfl ⟨by omega, Bd_e (y := 8192) rfl <| Bd_e (y := 1) rfl <| Bd_e (y := 8192) rfl <| Bd_f rfl <| If_f ⟨rfl, 8192, rfl, by omega, by omega⟩⟩
  rintro us vs w25 ⟨rfl, q, rfl, hq0, hq1⟩
  refine opI_in <| call224 (by omega) (by simp) fun C xs w28 hown hC h28 => ?_
  have hxl : xs.length = m := by have := hown.1; omega
  refine RunW_in0 (slice_hm w28 _ _ _ _ hC) <| opL_in ?_
  obtain ⟨B, rfl, hc⟩ := hr 0 x rfl
  have hsrc : ∀ {w'}, Md [] w6 w' → ∀ j v, (b1 x)[j]? = some v → w'.cell? (B.add j) = some v := by
    intro w' hm j v hv
    have := hc j v hv
    rw [Nat.zero_mul, addr_add0] at this
    exact hm.cell0 this
  have g0 : w25.heap.size ≤ w28.heap.size := h28.size
  have hbk : ∀ {D w'}, w25.heap.size ≤ D → Md [D] w28 w' → Md [] w6 w' := fun hD hm => (h11.trans h28).old hm (by have := h11.size; simp; omega)
  obtain ⟨w38, r1, o1, m1⟩ := own_copy hown 0 m m (b1 x) (by simp [b1]; omega) _ rfl B 1 c (by show 1 = min 1 m; omega) (hsrc (h11.trans h28)) (encb1.one x)
  rw [addr_add0] at r1
  refine RunW_in r1 (fun b hb => by simp at hb) <| opI_in ?_
  refine LoopP_in (fun k us vs w' => ∃ (bp : Nat) (xs : List Value), us = [.int .i64 bp] ∧ 1 ≤ bp ∧ bp ≤ m ∧ k = m - bp ∧ xs.take bp = List.replicate bp (.int .u8 (x : Int)) ∧ w'.ownsRow w25.heap.size 5 1 (.slice (some ⟨w25.heap.size, 0, none⟩) m C) m xs ∧ Md [] w6 w') (m - 1)
    ⟨1, _, rfl, by omega, by omega, rfl, by simp [wrL, b1], o1, hbk (Nat.le_refl _) m1⟩ ?_
  rintro k us vs w43 ⟨bp, ys, rfl, hb1, hbm, rfl, hys, hy, hmd⟩
  have hyl : ys.length = m := by have := hy.1; omega
  refine opI_in <| Bd_in fun b45 hb45 => If_in (fun h => ?_) fun h => ?_
  · have hlt : bp < m := by rw [hb45] at h; simpa using h
    refine Bd_e (y := ((min bp q : Nat) : Int)) (by split <;> omega) ?_
    generalize hk : min bp q = k
    have hkb : k ≤ bp := by omega
    have hk0 : 0 < k := by omega
    refine ⟨fun _ => True, trivial, _, fun w' _ => ⟨slice_rest (e := 5) (by kernel_rfl) size5 w' _ _ _ bp (by omega)⟩, opL_in ⟨_, fun w' _ => ⟨slice_front (e := 5) (by kernel_rfl) (fun w => ⟨1, size5 w⟩) w' _ _ _ k (by omega)⟩, opL_in ?_⟩⟩
    rw [if_neg (by omega)]
    simp only [Option.map_some, Nat.mul_one]
    generalize hk2 : min k (m - bp) = k2
    have hk2b : k2 ≤ bp ∧ 0 < k2 ∧ bp + k2 ≤ m := by omega
    have hyd : w43.drew.ownsRow w25.heap.size 5 1 (.slice (some ⟨w25.heap.size, 0, none⟩) m C) m ys := ⟨hy.1, hy.2⟩
    have hyj : ∀ j, j < bp → ys[j]? = some (.int .u8 (x : Int)) := by
      intro j hj
      have := congrArg (fun l => l[j]?) hys
      simpa [List.getElem?_take, hj, List.getElem?_replicate] using this
    obtain ⟨w61, r2, o2, m2⟩ := own_copy hyd bp (m - bp) (m - bp) (List.replicate k2 (.int .u8 (x : Int))) (by rw [List.length_replicate, hyl]; omega) _ rfl ⟨w25.heap.size, 0, none⟩ k m (by rw [List.length_replicate, ← hk2])
      (fun j v hv => own_cell hyd rfl j v (by
        have hj : j < k2 := by have := (List.getElem?_eq_some_iff.1 hv).1; simpa using this
        rw [List.getElem?_replicate, if_pos hj] at hv
        rw [hyj j (by omega)]; exact hv)) (fun v hv => by rw [List.eq_of_mem_replicate hv]; rfl)
    rw [List.length_replicate] at r2
    have hs43 : w25.heap.size < w43.heap.size := (World.ownsRow.lt hy w25.heap.size rfl).2
    refine RunW_in r2 (fun b hb => by simp at hb) <| opI_in ⟨trivial, Bd_e (y := ((bp + k2 : Nat) : Int)) (by show IntKind.wrap .i64 ((bp : Int) + (k2 : Int)) = _; rw [IntKind.wrap_i64]; omega) ⟨m - (bp + k2), by omega, bp + k2, _, rfl, by omega, by omega, rfl, ?_, o2, ?_⟩⟩
    · have e : (ys.take bp).length = bp := by rw [List.length_take]; omega
      unfold wrL
      rw [List.take_append, e, List.take_of_length_le (by omega), hys, show bp + k2 - bp = k2 by omega, List.take_left' (by simp), List.replicate_append_replicate]
    · exact (hmd.trans (Md_drew _)).old m2 (by have := h11.size; simp; omega)
  · have hge : bp = m := by rw [hb45] at h; have : ¬ bp < m := by simpa using h
                            omega
    subst hge
    have e : ys = (List.replicate bp x).flatMap b1 := by
      rw [b1_map, List.map_replicate, ← hys, List.take_of_length_le (by omega)]
    refine ⟨⟨_, _, C, rfl, Nat.le_refl _, ?_⟩, hmd⟩
    have ho : OwnL w43 w25.heap.size 5 1 b1 (some ⟨w25.heap.size, 0, none⟩) C (List.replicate bp x) := by
      unfold OwnL
      rw [List.length_replicate, ← e]; exact hy
    exact ho.down h11.size
end Fk
