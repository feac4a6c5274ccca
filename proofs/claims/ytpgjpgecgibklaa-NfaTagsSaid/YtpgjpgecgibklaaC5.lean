/- Contracts: classes, parted by a set. -/
import Derived.Test.YtpgjpgecgibklaaC4
import Derived.Test.YtpgjpgecgibklaaTT
set_option linter.unusedVariables false
set_option linter.unusedSimpArgs false
set_option maxRecDepth 4000
namespace Fk
open Go Go.Proofs Go.RowKit
/-! ### Numbered as they come -/
def idxK {K : Type} [DecidableEq K] (k : K) (kn : List K) : Nat := kn.idxOf k
def addK {K : Type} [DecidableEq K] (k : K) (kn : List K) : List K := if k ∈ kn then kn else kn ++ [k]
theorem idxK_le {K : Type} [DecidableEq K] (k : K) (kn : List K) : idxK k kn ≤ kn.length := List.idxOf_le_length
theorem addK_le {K : Type} [DecidableEq K] (k : K) (kn : List K) : (addK k kn).length ≤ kn.length + 1 := by unfold addK; split <;> simp
theorem addK_old {K : Type} [DecidableEq K] {k : K} {kn : List K} (h : k ∈ kn) : addK k kn = kn := if_pos h
theorem addK_new {K : Type} [DecidableEq K] {k : K} {kn : List K} (h : k ∉ kn) : addK k kn = kn ++ [k] := if_neg h
theorem idxK_new {K : Type} [DecidableEq K] {k : K} {kn : List K} (h : k ∉ kn) : idxK k kn = kn.length := List.idxOf_eq_length h
def numGo {K : Type} [DecidableEq K] : List K → List K → List Nat × List K
  | [], kn => ([], kn)
  | k :: ks, kn => (idxK k kn :: (numGo ks (addK k kn)).1, (numGo ks (addK k kn)).2)
def keysOf (f : List Nat) (q : Q4) : List (Nat × Bool) := f.zipIdx.map fun p => (p.1, inQ q p.2)
def Cl.parted (c : Cl) (q : Q4) : Cl := ⟨(numGo (keysOf c.f q) []).1, (numGo (keysOf c.f q) []).2.length⟩
theorem keysOf_length (f : List Nat) (q : Q4) : (keysOf f q).length = f.length := by simp [keysOf]
theorem keysOf_at (f : List Nat) (q : Q4) (i : Nat) (h : i < (keysOf f q).length) : (keysOf f q)[i] = (f[i]'(by simpa [keysOf] using h), inQ q i) := by simp [keysOf]
theorem findI_zip {K : Type} [DecidableEq K] (k : K) : ∀ (kn : List K) (n i : Nat), findI k (kn.zipIdx n) i = if k ∈ kn then some (i + idxK k kn, n + idxK k kn) else none
  | [], n, i => by simp [findI]
  | x :: kn, n, i => by
    have ih := findI_zip k kn (n + 1) (i + 1)
    unfold idxK at ih ⊢
    simp only [List.zipIdx_cons, findI, List.mem_cons, List.idxOf_cons]
    by_cases h : k = x
    · subst h; simp
    · have h' : (x == k) = false := by simpa using fun e => h e.symm
      rw [if_neg h, ih, h']
      simp only [h, false_or, cond_false]
      split <;> simp <;> omega
theorem wrL_cl (done rest : List Nat) (x y : Nat) (m : Int) (i : Nat) (hd : done.length = i) :
    wrL (Cl.l ⟨done ++ x :: rest, m⟩) i [.int .u8 (y : Int)] = Cl.l ⟨(done ++ [y]) ++ rest, m⟩ := by
  subst hd
  simp [wrL, Cl.l, List.take_append, List.drop_append]
theorem wrL_many (f : List Nat) (m m' : Int) (hf : f.length = 256) : wrL (Cl.l ⟨f, m⟩) 256 [.int .i64 m'] = Cl.l ⟨f, m'⟩ := by
  simp [wrL, Cl.l, List.take_append, List.drop_append, hf]
theorem ok_cells (c : Cl) (hf : c.f.length = 256) : okCells c.v.toList 257 = true := by
  simp [okCells, Cl.v, Cl.l, hf, allOne, Value.oneCell']
theorem zero5 (w : World) : (zeroValue 5).run Try.prog w = .ok (.int .u8 0) w := by
  have h : (Try.prog.info? 5).bind (·.zero) = some (.int .u8 0) := by kernel_rfl
  cases hi : Try.prog.info? 5 with
  | none => simp [hi] at h
  | some i =>
    simp [hi] at h
    simp [zeroValue, typeInfo, hi, h]

/-! ### Worlds on the way -/
def Good (L : List Nat) (w0 w : World) : Prop := Md [] w0 w ∧ ∀ b ∈ L, b < w.heap.size
theorem Good.drew {L : List Nat} {w0 w : World} (h : Good L w0 w) : Good L w0 w.drew := ⟨h.1.trans (Md_drew _), h.2⟩
theorem Good.tr {L : List Nat} {w0 w w' : World} (h : Good L w0 w) (k : Md [] w w') : Good L w0 w' := ⟨h.1.trans k, fun b hb => Nat.lt_of_lt_of_le (h.2 b hb) k.size⟩
theorem rgUp {L : List Nat} {w0 w : World} {K : Nat → World → Prop} (h : Good L w0 w) (k : ∀ n w', w0.heap.size ≤ n → Good (n :: L) w0 w' → K n w') : Rg w fun n => Up [] (n :: L) w (K n) :=
  fun n hn w' hm hL => k n w' (Nat.le_trans h.1.size hn) ⟨h.1.trans hm, hL⟩
theorem in214 (q : Q4) {i : Nat} (hi : i < 256) {L : List Nat} {w0 w : World} {K : Bool → World → Prop} (h : Good L w0 w) (k : ∀ w', Good L w0 w' → K (inQ q i) w') :
    CallW Try.prog L 214 #[.agg #[.int .u64 q.1, .int .u64 q.2.1, .int .u64 q.2.2.1, .int .u64 q.2.2.2], .int .i64 i] (fun v w' => opB v fun b => K b w') w := by
  refine (f214_ok q i hi w).call h.2 ?_
  rintro v w' rfl h'
  exact opB_in (k w' (h.tr h'))
theorem f146_ok (c : Cl) (hc : c.ok) (q : Q4) (w : World) : Ct Try.prog 146 #[.agg c.v, .agg #[.int .u64 q.1, .int .u64 q.2.1, .int .u64 q.2.2.1, .int .u64 q.2.2.2]] w fun v w' => v = .agg (c.parted q).v ∧ Md [] w w' := by
  apply f146_in
  intro n1 hn1 n2 hn2 n3 hn3 w4 h4 hL4 n5 w6 e5 e6
  subst e5; subst e6
  have h6 : Good [n3, n2, n1] w (w4.alloc (.map #[] 0)) := Good.tr ⟨h4, hL4⟩ (Md.alloc _ _)
  have hn5 : w.heap.size ≤ w4.heap.size := h4.size
  generalize e5 : w4.heap.size = n5 at *
  have hLn : ∀ b ∈ [n3, n2, n1], b ≠ n5 := fun b hb => by have := hL4 b hb; omega
  have hK := keysOf_length c.f q
  refine LoopP_in (fun m us vs w' => ∃ (i : Nat) (done : List Nat) (kn : List (Nat × Bool)), us = [.int .i64 i] ∧ vs = [.agg (Cl.v ⟨done ++ c.f.drop i, c.m⟩)] ∧ m = 256 - i ∧ i ≤ 256 ∧ done.length = i ∧ kn.length ≤ i ∧ Good [n3, n2, n1] w w' ∧ MapAt w' n5 keyV (fun x : Nat => .int .u8 (x : Int)) kn.zipIdx ∧
      (numGo (keysOf c.f q) []) = (done ++ (numGo ((keysOf c.f q).drop i) kn).1, (numGo ((keysOf c.f q).drop i) kn).2) ∧ (∀ x ∈ done, x < 256)) 256
    ⟨0, [], [], rfl, by simp, rfl, by omega, rfl, by simp, h6, by rw [← e5]; exact MapAt.new w4 _ _, by simp, by simp⟩ ?_
  rintro m us vs w10 ⟨i, done, kn, rfl, rfl, rfl, hi, hd, hkn, h10, hM, hnum, hlt⟩
  have hsz : (Cl.v ⟨done ++ c.f.drop i, c.m⟩).size = 257 := by simp [Cl.v, Cl.l, hc.len, hd]; omega
  refine opI_in <| opBig_in <| Bd_in fun b13 hb13 => If_in (fun hb => ?_) fun hb => ?_
  · subst hb13
    simp only [decide_eq_true_eq] at hb
    have hi' : i < c.f.length := by rw [hc.len]; omega
    have hx := hc.lt i hi'
    have hnth : nthV (Array.toList (Cl.v ⟨done ++ c.f.drop i, c.m⟩)) (0 + (i : Int).toNat * 1) = some (.int .u8 (c.f[i] : Int)) := by
      rw [List.drop_eq_getElem_cons hi']
      simp only [nthV, Cl.v, Cl.l, Int.toNat_natCast, Nat.zero_add, Nat.mul_one, List.map_append, List.map_cons, List.append_assoc]
      rw [List.getElem?_append_right (by simp [hd])]
      simp [hd]
    have hg : Good [n3, n2, n1] w10 w10.drew := ⟨Md_drew _, h10.2⟩
    have hfi := findI_zip (c.f[i], inQ q i) kn 0 0
    simp only [Nat.zero_add] at hfi
    have hidx : idxK (c.f[i], inQ q i) kn < 256 := by have := idxK_le (c.f[i], inQ q i) kn; omega
    have hkey := keysOf_at c.f q i (by rw [hK]; exact hi')
    have hnum' : numGo (keysOf c.f q) [] = ((done ++ [idxK (c.f[i], inQ q i) kn]) ++ (numGo ((keysOf c.f q).drop (i + 1)) (addK (c.f[i], inQ q i) kn)).1,
        (numGo ((keysOf c.f q).drop (i + 1)) (addK (c.f[i], inQ q i) kn)).2) := by
      rw [hnum, List.drop_eq_getElem_cons (by rw [hK]; exact hi'), hkey, numGo]
      simp
    have hwr : List.toArray (wrL (Array.toList (Cl.v ⟨done ++ c.f.drop i, c.m⟩)) (0 + (i : Int).toNat * 1) [.int .u8 ((idxK (c.f[i], inQ q i) kn : Nat) : Int)]) = Cl.v ⟨(done ++ [idxK (c.f[i], inQ q i) kn]) ++ c.f.drop (i + 1), c.m⟩ := by
      rw [List.drop_eq_getElem_cons hi']
      simp only [Int.toNat_natCast, Nat.zero_add, Nat.mul_one, Cl.v]
      rw [wrL_cl _ _ _ _ _ _ hd]
    have hM10 := hM.lt
    refine ⟨⟨by omega, by omega⟩, ?_⟩
    have rest : ∀ (n : Nat), w10.heap.size ≤ n → ∀ (us vs : List Value) (w29 : World), us = [Value.int .u8 ((idxK (c.f[i], inQ q i) kn : Nat) : Int)] ∧ Md [] w w29 ∧ (∀ b ∈ [n, n3, n2, n1], b < w29.heap.size) ∧ MapAt w29 n5 keyV (fun x : Nat => .int .u8 (x : Int)) (addK (c.f[i], inQ q i) kn).zipIdx →
          opI .u8 (nthD us 0) fun x30 => ((0 : Int) ≤ (i : Int) ∧ (i : Int) < ((256 : Nat) : Int)) ∧ LeC (0 + (i : Int).toNat * 1 + 1) (Array.size (Cl.v ⟨done ++ c.f.drop i, c.m⟩)) (Bd (IntKind.wrap .i64 ((i : Int) + 1)) fun x31 => Up [n1] [n, n3, n2, n1] w29 fun w32 =>
            ∃ m', m' < 256 - i ∧ ∃ (i' : Nat) (dn' : List Nat) (kn' : List (Nat × Bool)), [Value.int .i64 x31] = [.int .i64 i'] ∧ [Value.agg (List.toArray (wrL (Array.toList (Cl.v ⟨done ++ c.f.drop i, c.m⟩)) (0 + (i : Int).toNat * 1) [.int .u8 x30]))] = [.agg (Cl.v ⟨dn' ++ c.f.drop i', c.m⟩)] ∧ m' = 256 - i' ∧ i' ≤ 256 ∧ dn'.length = i' ∧ kn'.length ≤ i' ∧ Good [n3, n2, n1] w w32 ∧ MapAt w32 n5 keyV (fun x : Nat => .int .u8 (x : Int)) kn'.zipIdx ∧
              (numGo (keysOf c.f q) []) = (dn' ++ (numGo ((keysOf c.f q).drop i') kn').1, (numGo ((keysOf c.f q).drop i') kn').2) ∧ (∀ x ∈ dn', x < 256)) := by
      rintro n hn us vs w29 ⟨rfl, h29, hL29, hM29⟩
      refine opI_in ⟨⟨by omega, by omega⟩, LeC_in (by rw [hsz]; simp; omega) (Bd_in fun x31 hx31 w32 h32 hL32 => ?_)⟩
      rw [inc_i64 (by omega)] at hx31
      subst hx31
      refine ⟨256 - (i + 1), by omega, i + 1, _, addK (c.f[i], inQ q i) kn, rfl, by rw [hwr], rfl, by omega, by simp [hd], ?_, ⟨h29.old h32 (by simpa using hn1), fun b hb => hL32 b (List.mem_cons_of_mem _ hb)⟩, ?_, hnum', ?_⟩
      · have := addK_le (c.f[i], inQ q i) kn; omega
      · exact hM29.md h32 (by simpa using (hLn n1 (by simp)).symm)
      · intro x hx
        rcases List.mem_append.1 hx with h | h
        · exact hlt x h
        · simp at h; omega
    repeat' first
      | (refine BdO_in hnth ?_; refine opI_in ?_)
      | (refine in214 q (i := i) (by omega) hg ?_; intro w' hg)
      | (refine rgUp hg ?_; intro n w' hn hg)
      | refine And.intro ?_ ?_
    all_goals
      intro w21 h21 hL21
      have hM21 : MapAt w21 n5 keyV (fun x : Nat => .int .u8 (x : Int)) kn.zipIdx := (hM.md hg.1 (by simp)).md h21 (by simp; omega)
      have hw21 : Md [] w w21 := (h10.1.trans hg.1).old h21 (by have := h10.1.size; simp; omega)
      have hL5 : ∀ b ∈ [n, n3, n2, n1], b ≠ n5 := by
        intro b hb'
        rcases List.mem_cons.1 hb' with rfl | hb'
        · omega
        · exact hLn b hb'
      have hlk := mapKey.lookup hM21 (c.f[i], inQ q i) (.int .u8 0) (zero5 _)
      by_cases hk : (c.f[i], inQ q i) ∈ kn
      · rw [hfi, if_pos hk] at hlk
        refine RunW_in0 hlk ?_
        refine opTu_in ?_
        refine opI_in ?_
        refine opB_in ?_
        refine SzIs_in rfl ?_
        refine Jn_in _ (rest n hn) ?_
        refine Bd_in fun b34 hb34 => If_in (fun h => absurd h (by rw [hb34]; simp)) fun h => ?_
        exact ⟨rfl, hw21, hL21, by rw [addK_old hk]; exact hM21⟩
      · rw [hfi, if_neg hk] at hlk
        refine RunW_in0 hlk ?_
        refine opTu_in ?_
        refine opI_in ?_
        refine opB_in ?_
        refine SzIs_in rfl ?_
        refine Jn_in _ (rest n hn) ?_
        refine Bd_in fun b34 hb34 => If_in (fun h => ?_) fun h => absurd h (by rw [hb34]; simp)
        refine RunW_in0 (run_len_map mapKey.hm hM21) ?_
        refine opI_in <| Bd_in fun x38 hx38 => ?_
        have e38 : x38 = ((idxK (c.f[i], inQ q i) kn : Nat) : Int) := by rw [hx38, idxK_new hk, List.length_zipIdx, IntKind.wrap_u8]; omega
        subst e38
        obtain ⟨w39, hr, hM39, hm39⟩ := mapKey.add hM21 (c.f[i], inQ q i) (idxK (c.f[i], inQ q i) kn) (by rw [hfi, if_neg hk])
        refine RunU_in hr (fun b hb => hm39.blk b (hL21 b hb) (by simpa using hL5 b hb)) ?_
        refine ⟨rfl, hw21.old hm39 (by simp; omega), fun b hb => Nat.lt_of_lt_of_le (hL21 b hb) hm39.size, ?_⟩
        rw [addK_new hk, List.zipIdx_append]
        rw [idxK_new hk] at hM39
        simpa using hM39
  · subst hb13
    simp only [decide_eq_false_iff_not] at hb
    have hi2 : i = 256 := by omega
    have hdf : c.f.drop i = [] := List.drop_of_length_le (by rw [hc.len]; omega)
    have hdk : (keysOf c.f q).drop i = [] := List.drop_of_length_le (by rw [hK, hc.len]; omega)
    rw [hdk, numGo, List.append_nil] at hnum
    have hp : c.parted q = ⟨done, kn.length⟩ := by unfold Cl.parted; rw [hnum]
    rw [hdf, List.append_nil] at hsz ⊢
    have hd' : done.length = 256 := by omega
    refine RunW_in0 (run_len_map mapKey.hm hM) ?_
    have hw : List.toArray (wrL (Array.toList (Cl.v ⟨done, c.m⟩)) 256 [Value.int .i64 ((kn.zipIdx.length : Nat) : Int)]) = (c.parted q).v := by
      rw [List.length_zipIdx, hp]
      simp only [Cl.v]
      rw [wrL_many _ _ _ hd']
    have hsz' : (c.parted q).v.size = 257 := by rw [hp]; simp [Cl.v, Cl.l, hd']
    refine opI_in <| LeC_in (by omega) ⟨?_, OkC_in ?_ fun w314 h314 hL314 => ⟨?_, ?_, ?_⟩⟩
    · have := congrArg Array.size hw
      simpa [hsz'] using this
    · rw [hw, hp]; exact ok_cells _ hd'
    · rw [hw]; exact hsz'
    · rw [hw]
    · refine h10.1.old h314 ?_
      intro d hd
      simp at hd
      rcases hd with rfl | rfl <;> assumption
end Fk
