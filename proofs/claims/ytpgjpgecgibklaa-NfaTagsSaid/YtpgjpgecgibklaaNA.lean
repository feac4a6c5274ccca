/- First machines: several texts, joined. -/
import Derived.Test.YtpgjpgecgibklaaC10
import Derived.Test.YtpgjpgecgibklaaC23
import Derived.Test.YtpgjpgecgibklaaT6
import Derived.Test.YtpgjpgecgibklaaVN
import Derived.Test.YtpgjpgecgibklaaT7
import Derived.Test.YtpgjpgecgibklaaT8
import Derived.Test.YtpgjpgecgibklaaC1
/- First machines: their states in memory, compared. -/
set_option linter.unusedVariables false
set_option linter.unusedSimpArgs false
set_option maxRecDepth 100000
namespace Fk
open Go Go.Proofs Go.RowKit
structure Ns where
  k : Int
  s1 : Int
  s2 : Int
  s3 : Int
  s4 : Int
  a : Int
  b : Int
  t : Int
  deriving DecidableEq
def nsE (x : Ns) : List Value := [.int .u8 x.k, .int .u64 x.s1, .int .u64 x.s2, .int .u64 x.s3, .int .u64 x.s4, .int .i64 x.a, .int .i64 x.b, .int .i64 x.t]
abbrev Ns.v (x : Ns) : Value := .agg #[.int .u8 x.k, .int .u64 x.s1, .int .u64 x.s2, .int .u64 x.s3, .int .u64 x.s4, .int .i64 x.a, .int .i64 x.b, .int .i64 x.t]
theorem encNs : Enc 8 nsE := ⟨fun _ => rfl, by intro x v hv; simp [nsE] at hv; rcases hv with rfl | rfl | rfl | rfl | rfl | rfl | rfl | rfl <;> rfl⟩
/-- A struct, field by field: each one's type, place, and whether both have the same there. -/
theorem run_structN {P : Program} {w : World} {t : TypeId} (ht : P.underlying t = some (.struct (P.fieldsOf t))) (hp : P.stoodInHeld t = false) {d : Nat} {xs ys : Array Value} (rs : List (TypeId × Nat × Bool))
    (hF : fieldsL P t = rs.map fun p => (false, p.1, p.2.1))
    (h : ∀ p ∈ rs, ∃ a b, (part p.1 xs p.2.1).run P w = .ok a w ∧ (part p.1 ys p.2.1).run P w = .ok b w ∧ (Op.equalIn d p.1 a b).run P w = .ok p.2.2 w) :
    (Op.equalIn (d + 1) t (.agg xs) (.agg ys)).run P w = .ok (rs.all fun p => p.2.2) w := by
  rw [run_equalIn_struct w d t xs ys ht hp]
  unfold fieldsL at hF
  generalize P.fieldsOf t = fs at hF ⊢
  obtain ⟨l⟩ := fs
  show (Op.eqFields d xs ys l).run P w = _
  simp only at hF
  induction l generalizing rs with
  | nil =>
    cases rs with
    | nil => simp [Op.eqFields]
    | cons p rs => simp at hF
  | cons f l ih =>
    cases rs with
    | nil => simp at hF
    | cons p rs =>
      simp only [List.map_cons, List.cons.injEq, Prod.mk.injEq, decide_eq_false_iff_not] at hF
      obtain ⟨⟨n1, n2, n3⟩, hF⟩ := hF
      obtain ⟨a, b, h1, h2, h3⟩ := h p (by simp)
      rw [← n2] at h1 h2 h3
      rw [← n3] at h1 h2
      have := run_eqFields_cons (d := d) n1 h1 h2 h3 (ih rs (fun p hp => h p (by simp [hp])) hF)
      rw [this, List.all_cons]
theorem size28 (w : World) : (Go.sizeOf 28).run Try.prog w = .ok 4 w := by
  have h : (Try.prog.info? 28).map (·.size) = some 4 := by kernel_rfl
  cases hi : Try.prog.info? 28 with
  | none => rw [hi] at h; cases h
  | some i => rw [hi] at h; simp [Go.sizeOf, typeInfo, hi]; simpa using h
theorem eq103 (x y : Ns) (w : World) (o1 o2 : Operand) : (eqS .neq 103 o1 o2 x.v y.v).run Try.prog w = .ok (.bool (!decide (x = y))) w := by
  have u28 : Try.prog.underlying 28 = some (.array 4 26) := by kernel_rfl
  have u3 : Try.prog.underlying 3 = some (.int .i64) := by kernel_rfl
  have u5 : Try.prog.underlying 5 = some (.int .u8) := by kernel_rfl
  have a28 : isAggT Try.prog 28 = true := by kernel_rfl
  have a3 : isAggT Try.prog 3 = false := by kernel_rfl
  have a5 : isAggT Try.prog 5 = false := by kernel_rfl
  have h26 : (Try.prog.info? 26).isSome = true := by kernel_rfl
  obtain ⟨i26, hi26⟩ := Option.isSome_iff_exists.1 h26
  have e28 := run_equal_ints (P := Try.prog) (w := w) (t := 28) (e := 26) (q := .u64) (n := 4) u28 hi26 (by kernel_rfl) (by kernel_rfl) .u64 [x.s1, x.s2, x.s3, x.s4] [y.s1, y.s2, y.s3, y.s4] rfl rfl 9997
  have eI := fun (p q : Int) => EqT.int (P := Try.prog) (t := 3) (q := .i64) u3 .i64 9999 w p q (by omega)
  have eB := EqT.int (P := Try.prog) (t := 5) (q := .u8) u5 .u8 9999 w x.k y.k (by omega)
  have h := run_structN (P := Try.prog) (w := w) (t := 103) (by kernel_rfl) (by kernel_rfl) (d := 9999) (xs := #[.int .u8 x.k, .int .u64 x.s1, .int .u64 x.s2, .int .u64 x.s3, .int .u64 x.s4, .int .i64 x.a, .int .i64 x.b, .int .i64 x.t])
    (ys := #[.int .u8 y.k, .int .u64 y.s1, .int .u64 y.s2, .int .u64 y.s3, .int .u64 y.s4, .int .i64 y.a, .int .i64 y.b, .int .i64 y.t])
    [(5, 0, decide (x.k = y.k)), (28, 1, decide ([x.s1, x.s2, x.s3, x.s4] = [y.s1, y.s2, y.s3, y.s4])), (3, 5, decide (x.a = y.a)), (3, 6, decide (x.b = y.b)), (3, 7, decide (x.t = y.t))] (by kernel_rfl) (by
      intro p hp
      simp only [List.mem_cons, List.not_mem_nil, or_false] at hp
      rcases hp with rfl | rfl | rfl | rfl | rfl
      · exact ⟨_, _, part_cell u5 a5 rfl, part_cell u5 a5 rfl, eB⟩
      · exact ⟨_, _, part_agg u28 a28 (size28 w), part_agg u28 a28 (size28 w), e28⟩
      · exact ⟨_, _, part_cell u3 a3 rfl, part_cell u3 a3 rfl, eI _ _⟩
      · exact ⟨_, _, part_cell u3 a3 rfl, part_cell u3 a3 rfl, eI _ _⟩
      · exact ⟨_, _, part_cell u3 a3 rfl, part_cell u3 a3 rfl, eI _ _⟩)
  have := (eqS_of (by kernel_rfl) h o1 o2).2
  rw [this]
  congr 3
  clear this h eB eI e28
  cases x; cases y
  simp only [List.all_cons, List.all_nil, Ns.mk.injEq, List.cons.injEq]
  rw [Bool.eq_iff_iff]
  simp only [Bool.and_eq_true, decide_eq_true_eq, and_true]
  omega
end Fk

/- First machines: which ones are right, which are small, which are the same. -/
set_option linter.unusedVariables false
set_option linter.unusedSimpArgs false
set_option maxRecDepth 100000
namespace Fk
open Go Go.Proofs Go.RowKit
theorem ad0' (n j : Nat) : (Addr.mk n 0 none).add j = ⟨n, j, none⟩ := by rw [Addr.add_lit, Nat.zero_add]
theorem Blk.ld' {w : World} {n : Nat} {ty : TypeId} {l : List Value} (h : Blk w n ty l) {j : Nat} {v : Value} (hv : l[j]? = some v) {K : Value → Prop} (k : K v) : Ld w ((Addr.mk n 0 none).add j) K :=
  Ld_in (by rw [ad0']; exact h.cell hv) k
theorem Blk.new (w : World) (cs : Array Value) (ty : TypeId) : Blk (w.alloc (.cells cs ty)) w.heap.size ty cs.toList := by
  show (w.heap.push (.cells cs ty (0, 0)))[w.heap.size]? = _
  rw [Array.getElem?_push_size]
theorem RowAt.ld8v {w : World} {A : Option Addr} {l : List Ns} (h : RowAt w A 8 nsE l) {i : Nat} (hi : i < l.length) {K : Value → Value → Value → Value → Value → Value → Value → Value → Prop}
    (k : K (.int .u8 l[i].k) (.int .u64 l[i].s1) (.int .u64 l[i].s2) (.int .u64 l[i].s3) (.int .u64 l[i].s4) (.int .i64 l[i].a) (.int .i64 l[i].b) (.int .i64 l[i].t)) :
    Ld w ((adAt A (i : Int) 8).add 0) fun v1 => Ld w ((adAt A (i : Int) 8).add 1) fun v2 => Ld w ((adAt A (i : Int) 8).add 2) fun v3 => Ld w ((adAt A (i : Int) 8).add 3) fun v4 => Ld w ((adAt A (i : Int) 8).add 4) fun v5 => Ld w ((adAt A (i : Int) 8).add 5) fun v6 => Ld w ((adAt A (i : Int) 8).add 6) fun v7 => Ld w ((adAt A (i : Int) 8).add 7) fun v8 => K v1 v2 v3 v4 v5 v6 v7 v8 := by
  obtain ⟨B, rfl, hc⟩ := h i l[i] (List.getElem?_eq_getElem hi)
  exact Ld_in (hc 0 _ rfl) <| Ld_in (hc 1 _ rfl) <| Ld_in (hc 2 _ rfl) <| Ld_in (hc 3 _ rfl) <| Ld_in (hc 4 _ rfl) <| Ld_in (hc 5 _ rfl) <| Ld_in (hc 6 _ rfl) <| Ld_in (hc 7 _ rfl) k
theorem RowAt.ld8 {w : World} {A : Option Addr} {l : List Ns} (h : RowAt w A 8 nsE l) {i : Nat} (hi : i < l.length) {K : Int → Int → Int → Int → Int → Int → Int → Int → Prop}
    (k : K l[i].k l[i].s1 l[i].s2 l[i].s3 l[i].s4 l[i].a l[i].b l[i].t) :
    Ld w ((adAt A (i : Int) 8).add 0) fun v1 => Ld w ((adAt A (i : Int) 8).add 1) fun v2 => Ld w ((adAt A (i : Int) 8).add 2) fun v3 => Ld w ((adAt A (i : Int) 8).add 3) fun v4 => Ld w ((adAt A (i : Int) 8).add 4) fun v5 => Ld w ((adAt A (i : Int) 8).add 5) fun v6 => Ld w ((adAt A (i : Int) 8).add 6) fun v7 => Ld w ((adAt A (i : Int) 8).add 7) fun v8 =>
      opI .u8 v1 fun x1 => opI .u64 v2 fun x2 => opI .u64 v3 fun x3 => opI .u64 v4 fun x4 => opI .u64 v5 fun x5 => opI .i64 v6 fun x6 => opI .i64 v7 fun x7 => opI .i64 v8 fun x8 => K x1 x2 x3 x4 x5 x6 x7 x8 :=
  h.ld8v hi <| opI_in <| opI_in <| opI_in <| opI_in <| opI_in <| opI_in <| opI_in <| opI_in k
/-! ### Few, Same -/
theorem f76_ok (st : Int) (A : Option Addr) (n C : Nat) (w : World) : Ct Try.prog 76 #[.agg #[.int .i64 st, .slice A n C]] w fun v w' => v = .bool (decide (n ≤ 300)) ∧ Md [] w w' := by
  apply f76_in
  intro n1 hn1
  refine Bd_e rfl <| Bd_in fun b3 hb3 w4 h4 _ => ⟨?_, h4⟩
  rw [hb3]
  congr 2
  apply propext; omega
def nfSame (s1 : Int) (l1 : List Ns) (s2 : Int) (l2 : List Ns) : Bool := decide (s1 = s2 ∧ l1 = l2)
theorem f79_ok (s1 s2 : Int) (l1 l2 : List Ns) (A1 A2 : Option Addr) (C1 C2 : Nat) (w : World) (h1 : RowAt w A1 8 nsE l1) (h2 : RowAt w A2 8 nsE l2) (hl : l1.length < 2 ^ 40) :
    Ct Try.prog 79 #[.agg #[.int .i64 s1, .slice A1 l1.length C1], .agg #[.int .i64 s2, .slice A2 l2.length C2]] w fun v w' => v = .bool (nfSame s1 l1 s2 l2) ∧ Md [] w w' := by
  apply f79_in
  intro n1 hn1 n2 hn2
  refine Bd_in fun b3 hb3 => Bd_e rfl <| Bd_e rfl <| Bd_in fun b6 hb6 => Bd_in fun b7 hb7 => If_in (fun hb w8 h8 _ => ⟨?_, h8⟩) fun hb => Bd_e rfl fun w10 h10 hL10 => ?_
  · have : ¬ (s1 = s2 ∧ l1.length = l2.length) := by
      rintro ⟨e1, e2⟩
      rw [hb7, hb3, hb6, e1, e2] at hb
      simp at hb
    unfold nfSame
    rw [decide_eq_false]
    rintro ⟨e1, e2⟩
    exact this ⟨e1, by rw [e2]⟩
  have hse : s1 = s2 ∧ l1.length = l2.length := by
    rw [hb7, hb3, hb6] at hb
    by_cases c : s1 = s2
    · refine ⟨c, ?_⟩
      simp [c] at hb; omega
    · have : (s1 != s2) = true := by simpa using c
      rw [this] at hb; simp at hb
  refine LoopP_in (fun mm us vs w' => ∃ i : Nat, us = [.bool false, .int .i64 i] ∧ mm = l1.length - i ∧ i ≤ l1.length ∧ Md [] w w' ∧ l1.take i = l2.take i) l1.length ⟨0, rfl, rfl, by omega, h10, rfl⟩ ?_
  rintro mm us vs w14 ⟨i, rfl, rfl, hi, hmd, he⟩
  refine opB_in <| opI_in <| Bd_in fun b17 hb17 => If_in (fun hb => ?_) fun hb => ⟨?_, hmd⟩
  · have hi' : i < l1.length := by rw [hb17] at hb; have : (i : Int) < (l1.length : Int) := by simpa using hb
                                   omega
    have hi2 : i < l2.length := by omega
    have hmw : ∀ {w' : World}, Md [] w14.drew w' → Md [] w w' := fun hm => hmd.trans ((Md_drew w14).trans hm)
    refine ⟨fun w' => Md [] w14.drew w', Md.refl _ _, h1.ix hi', _, fun w' hm => (h1.md (hmw hm)).ld8v hi' rfl, opAg_in <| opI_in <| opI_in <| opI_in <| opI_in <| opI_in <| opI_in <| opI_in <| opI_in <| SzIs_in rfl ⟨h2.ix hi2, _, fun w' hm => (h2.md (hmw hm)).ld8v hi2 rfl, opAg_in <| opI_in <| opI_in <| opI_in <| opI_in <| opI_in <| opI_in <| opI_in <| opI_in <| SzIs_in rfl ⟨_, fun w' hm => ⟨eq103 l1[i] l2[i] w' _ _⟩, opB_in <| If_in (fun hb => ⟨?_, hmd.trans (Md_drew _)⟩) fun hb => Bd_e (inc_i64 (by omega)) ⟨l1.length - (i + 1), by omega, i + 1, rfl, rfl, by omega, hmd.trans (Md_drew _), ?_⟩⟩⟩⟩
    · have hne : ¬ l1[i] = l2[i] := by simpa using hb
      unfold nfSame
      rw [decide_eq_false]
      rintro ⟨_, e⟩
      subst e
      exact hne rfl
    · have heq : l1[i] = l2[i] := by simpa using hb
      rw [List.take_succ_eq_append_getElem hi', List.take_succ_eq_append_getElem hi2, he, heq]
  · have hi' : i = l1.length := by rw [hb17] at hb; have : ¬ (i : Int) < (l1.length : Int) := by simpa using hb
                                   omega
    subst hi'
    rw [List.take_length, List.take_of_length_le (by omega)] at he
    unfold nfSame
    rw [decide_eq_true ⟨hse.1, he⟩]
/-! ### Right -/
def Ns.zs (x : Ns) : Prop := x.s1 = 0 ∧ x.s2 = 0 ∧ x.s3 = 0 ∧ x.s4 = 0
instance (x : Ns) : Decidable x.zs := by unfold Ns.zs; infer_instance
def okNs (m : Int) (x : Ns) : Prop := (x.k = 0 ∧ x.zs ∧ x.a = 0 ∧ x.b = 0 ∧ 0 ≤ x.t ∧ x.t < 200) ∨ (x.k = 1 ∧ ¬ x.zs ∧ 0 ≤ x.a ∧ x.a < m ∧ x.b = 0 ∧ x.t = 0) ∨ (x.k = 2 ∧ x.zs ∧ 0 ≤ x.a ∧ x.a < m ∧ 0 ≤ x.b ∧ x.b < m ∧ x.t = 0)
instance (m : Int) (x : Ns) : Decidable (okNs m x) := by unfold okNs; infer_instance
def nfRight (st : Int) (l : List Ns) : Bool := decide (0 ≤ st ∧ st < l.length ∧ l.length ≤ 20000) && l.all fun x => decide (okNs l.length x)
theorem f186_ok (i : Int) (q : Addr) (A : Option Addr) (n C : Nat) (w : World) (h : w.cell? (q.add 1) = some (.slice A n C)) : Ct Try.prog 186 #[.int .i64 i, .pointer (some q)] w fun v w' => v = .bool (decide (0 ≤ i ∧ i < n)) ∧ Md [] w w' := by
  apply f186_in
  refine Bd_in fun b1 hb1 => Gd_to (fun (u : Option Addr × Nat × Nat) w' => (b1 = true → u.2.1 = n) ∧ Md [] w w') (fun u w8 hJ => ?_) (fun fin hc => Ld_in h <| opL_in <| fin _ _ ⟨fun _ => rfl, Md.refl _ _⟩) (fun hc => ⟨fun h => (by rw [hc] at h; cases h), Md.refl _ _⟩)
  obtain ⟨hu, hm⟩ := hJ
  refine Bd_e rfl <| Bd_in fun b10 hb10 => Bd_in fun b11 hb11 => ⟨?_, hm⟩
  rw [hb11]
  by_cases c : 0 ≤ i
  · have e1 : b1 = true := by rw [hb1]; simpa using c
    rw [e1, hb10, hu e1]
    simp [c]
  · have e1 : b1 = false := by rw [hb1]; simpa using c
    rw [e1]
    simp [c]
theorem in186 {L : List Nat} {w : World} {n1 : Nat} {st : Int} {A : Option Addr} {n C : Nat} (h : Blk w n1 71 [.int .i64 st, .slice A n C]) (i : Int) (hL : ∀ b ∈ L, b < w.heap.size) {K : Bool → World → Prop} (k : ∀ w', Md [] w w' → K (decide (0 ≤ i ∧ i < n)) w') :
    CallW Try.prog L 186 #[.int .i64 i, .pointer (some (Addr.mk n1 0 none))] (fun v w' => opB v fun b => K b w') w := by
  refine (f186_ok i _ A n C w (by rw [ad0']; exact h.cell rfl)).call hL ?_
  rintro v w' rfl m
  exact opB_in (k w' m)
theorem f81_ok (st : Int) (l : List Ns) (A : Option Addr) (C : Nat) (w : World) (hr : RowAt w A 8 nsE l) (hl : l.length < 2 ^ 60) :
    Ct Try.prog 81 #[.agg #[.int .i64 st, .slice A l.length C]] w fun v w' => v = .bool (nfRight st l) ∧ Md [] w w' := by
  apply f81_in
  intro n1 w2 e1 e2
  subst e1; subst e2
  have m2 : Md [] w (w.alloc (.cells #[.int .i64 st, .slice A l.length C] 71)) := Md.alloc w _
  have b2 : Blk (w.alloc (.cells #[.int .i64 st, .slice A l.length C] 71)) w.heap.size 71 [.int .i64 st, .slice A l.length C] := Blk.new w _ 71
  generalize w.alloc (.cells #[.int .i64 st, .slice A l.length C] 71) = w2 at *
  generalize hn1 : w.heap.size = n1 at *
  have hb : ∀ {w' : World}, Md [] w2 w' → Blk w' n1 71 [.int .i64 st, .slice A l.length C] := fun hm => b2.md hm (by simp)
  refine b2.ld' rfl <| opI_in <| in186 b2 st (by simp) fun w6 m6 => Bd_in fun b8 hb8 => ?_
  have hm6 := m2.trans m6
  refine Gd_to (fun (u : Option Addr × Nat × Nat) w' => (b8 = false → u.2.1 = l.length) ∧ w' = w6) (fun u w15 hJ => ?_) (fun fin hc => (hb m6).ld' rfl <| opL_in <| fin _ _ ⟨fun _ => rfl, rfl⟩) (fun hc => ⟨fun h => (by rw [h] at hc; cases hc), rfl⟩)
  obtain ⟨hu, rfl⟩ := hJ
  refine Bd_e rfl <| Bd_in fun b17 hb17 => Bd_in fun b18 hb18 => ?_
  have e18 : b18 = !decide (0 ≤ st ∧ st < l.length ∧ l.length ≤ 20000) := by
    rw [hb18]
    by_cases c : 0 ≤ st ∧ st < l.length
    · have e8 : b8 = false := by rw [hb8]; simpa using c
      rw [e8, hb17, hu e8]
      by_cases c2 : l.length ≤ 20000
      · simp [c, c2]; omega
      · simp [c, c2]; omega
    · have e8 : b8 = true := by rw [hb8, decide_eq_false c]; rfl
      rw [e8]
      have : ¬ (0 ≤ st ∧ st < l.length ∧ l.length ≤ 20000) := fun h => c ⟨h.1, h.2.1⟩
      simp [this]
  refine If_in (fun h => ⟨?_, hm6⟩) fun h => (hb m6).ld' rfl <| opL_in <| Bd_e rfl ?_
  · have : ¬ (0 ≤ st ∧ st < l.length ∧ l.length ≤ 20000) := fun hh => by rw [e18, decide_eq_true hh] at h; cases h
    unfold nfRight
    rw [decide_eq_false this]; rfl
  have hst : 0 ≤ st ∧ st < l.length ∧ l.length ≤ 20000 := by rw [e18] at h; simpa using h
  refine LoopP_in (fun mm us vs w' => ∃ i : Nat, us = [.bool false, .int .i64 i] ∧ mm = l.length - i ∧ i ≤ l.length ∧ Md [] w w' ∧ Md [] w2 w' ∧ ∀ x ∈ l.take i, okNs l.length x) l.length ⟨0, rfl, rfl, by omega, hm6, m6, by simp⟩ ?_
  rintro mm us vs w27 ⟨i, rfl, rfl, hi, hmd, hm2, hall⟩
  refine opB_in <| opI_in <| Bd_in fun b30 hb30 => If_in (fun h => ?_) fun h => ⟨?_, hmd⟩
  case refine_2 =>
    have hi' : i = l.length := by rw [hb30] at h; have : ¬ (i : Int) < (l.length : Int) := by simpa using h
                                  omega
    subst hi'
    rw [List.take_length] at hall
    unfold nfRight
    rw [decide_eq_true hst]
    have : (l.all fun x => decide (okNs l.length x)) = true := by rw [List.all_eq_true]; intro x hx; simpa using hall x hx
    rw [this]; rfl
  have hi' : i < l.length := by rw [hb30] at h; have : (i : Int) < (l.length : Int) := by simpa using h
                                omega
  have hnok : ¬ okNs l.length l[i] → nfRight st l = false := fun hno => by
    have : (l.all fun x => decide (okNs l.length x)) = false := by
      rw [List.all_eq_false]
      exact ⟨l[i], List.getElem_mem hi', by simpa using hno⟩
    unfold nfRight; rw [this]; simp
  have hstep : okNs l.length l[i] → ∀ x ∈ l.take (i + 1), okNs l.length x := fun ho x hx => by
    rw [List.take_succ_eq_append_getElem hi', List.mem_append] at hx
    rcases hx with hx | hx
    · exact hall x hx
    · simp at hx; rw [hx]; exact ho
  refine ⟨hr.ix hi', (hr.md hmd).ld8 hi' fun n47 hn47 n48 hn48 => ?_⟩
  generalize l[i] = x at *
  refine Jn_in (fun us vs w' => ∃ (ok bz : Bool) (y : Ns), us = [.bool ok, .bool bz] ∧ vs = [y.v] ∧ ((ok = true ∧ x = y) ↔ okNs l.length x) ∧ Md [] w w' ∧ Md [] w2 w' ∧ ∀ b ∈ [n48, n47], b < w'.heap.size) ?_ ?_
  · rintro us vs w51 ⟨ok, bz, y, rfl, rfl, hiff, hmd, hm2, hL⟩
    refine opB_in <| opB_in <| opAg_in <| opI_in <| opI_in <| opI_in <| opI_in <| opI_in <| opI_in <| opI_in <| opI_in <| SzIs_in rfl <| Bd_in fun b63 hb63 => ?_
    refine Gd_to (fun (b68 : Bool) w' => (b63 = false → b68 = !decide (x = y)) ∧ w' = w51) (fun b68 w69 hJ => ?_) (fun fin hc => RunW_in0 (eq103 x y w51 _ _) <| opB_in <| fin _ _ ⟨fun _ => rfl, rfl⟩) (fun hc => ⟨fun h => (by rw [h] at hc; cases hc), rfl⟩)
    obtain ⟨h68, rfl⟩ := hJ
    refine Bd_in fun b70 hb70 => ?_
    have e70 : b70 = !decide (okNs l.length x) := by
      rw [hb70, hb63]
      cases ok with
      | false =>
        have : ¬ okNs l.length x := fun h => by have := hiff.2 h; simp at this
        simp [this]
      | true =>
        rw [hb63] at h68
        rw [h68 rfl]
        by_cases c : x = y
        · have : okNs l.length x := hiff.1 ⟨rfl, c⟩
          simp [c, this]
          rw [← c]; exact this
        · have : ¬ okNs l.length x := fun h => c (hiff.2 h).2
          simp [c, this]
    refine If_in (fun h => ⟨?_, hmd⟩) fun h => Bd_e (inc_i64 (by omega)) ⟨l.length - (i + 1), by omega, i + 1, rfl, rfl, by omega, hmd, hm2, hstep ?_⟩
    · rw [hnok (by rw [e70] at h; simpa using h)]
    · rw [e70] at h; simpa using h
  have up : ∀ {w' w'' : World} {D : List Nat}, Md [] w w' → Md [] w2 w' → Md D w' w'' → (∀ d ∈ D, d = n48 ∨ d = n47) → Md [] w w'' ∧ Md [] w2 w'' := fun {w' w'' D} h1 h2 h3 hD => by
    have s1 := hmd.size
    have s2 := hm2.size
    exact ⟨h1.old h3 fun d hd => by rcases hD d hd with rfl | rfl <;> omega, h2.old h3 fun d hd => by rcases hD d hd with rfl | rfl <;> omega⟩
  have hbl : ∀ {w' : World}, Md [] w2 w' → Blk w' n1 71 [.int .i64 st, .slice A l.length C] := hb
  refine Bd_in fun b73 hb73 => If_in (fun h => ?_) fun h => ?_
  · have hk : x.k = 0 := by rw [hb73] at h; simpa using h
    refine Bd_in fun b74 hb74 => Bd_in fun b75 hb75 => Bd_in fun b76 hb76 w77 h77 hL77 => ?_
    obtain ⟨u1, u2⟩ := up hmd hm2 h77 (by simp)
    refine ⟨b76, b73, ⟨x.k, 0, 0, 0, 0, 0, 0, x.t⟩, rfl, rfl, ?_, u1, u2, hL77⟩
    have e : b76 = decide (0 ≤ x.t ∧ x.t < 200) := by rw [hb76, hb74, hb75]; by_cases c1 : 0 ≤ x.t <;> by_cases c2 : x.t < 200 <;> simp [c1, c2]
    rw [e]
    obtain ⟨k, s1, s2, s3, s4, a, b, t⟩ := x
    simp only at hk
    subst hk
    simp [okNs, Ns.zs]
    omega
  refine Bd_in fun b78 hb78 => If_in (fun h1 => ?_) fun h1 => ?_
  · have hk : x.k = 1 := by rw [hb78] at h1; simpa using h1
    refine Jn_in (fun us vs w' => vs = [(⟨x.k, x.s1, x.s2, x.s3, x.s4, x.a, 0, 0⟩ : Ns).v] ∧ Md [] w w' ∧ Md [] w2 w' ∧ ∀ b ∈ [n48, n47], b < w'.heap.size) ?_ ?_
    · rintro us vs w81 ⟨rfl, hm1, hm2', hL⟩
      refine opAg_in <| opI_in <| opI_in <| opI_in <| opI_in <| opI_in <| opI_in <| opI_in <| opI_in <| SzIs_in rfl <| RunW_in0 (ne28 _ _ x.s1 x.s2 x.s3 x.s4 0 0 0 0 w81) <| opB_in ?_
      refine Gd_to (fun (b98 : Bool) w' => ((!decide ([x.s1, x.s2, x.s3, x.s4] = [0, 0, 0, 0])) = true → b98 = decide (0 ≤ x.a ∧ x.a < l.length)) ∧ Md [] w81 w') (fun b98 w99 hJ => ?_) (fun fin hc => in186 (hbl hm2') x.a hL fun w96 m96 => fin _ _ ⟨fun _ => rfl, m96⟩) (fun hc => ⟨fun h => (by rw [h] at hc; cases hc), Md.refl _ _⟩)
      obtain ⟨h98, m99⟩ := hJ
      refine Bd_in fun b100 hb100 => ⟨b100, b73, _, rfl, rfl, ?_, hm1.trans m99, hm2'.trans m99, fun b hb => by have := hL b hb; have := m99.size; omega⟩
      have ez : ([x.s1, x.s2, x.s3, x.s4] = [0, 0, 0, 0]) ↔ x.zs := by simp [Ns.zs]
      have e : b100 = decide (¬ x.zs ∧ 0 ≤ x.a ∧ x.a < l.length) := by
        rw [hb100]
        by_cases c : x.zs
        · have : decide ([x.s1, x.s2, x.s3, x.s4] = [0, 0, 0, 0]) = true := by simpa using ez.2 c
          rw [this]; simp [c]
        · have : decide ([x.s1, x.s2, x.s3, x.s4] = [0, 0, 0, 0]) = false := decide_eq_false fun h => c (ez.1 h)
          rw [this] at h98 ⊢
          rw [h98 rfl]; simp [c]
      rw [e]
      obtain ⟨k, s1, s2, s3, s4, a, b, t⟩ := x
      simp only at hk
      subst hk
      simp [okNs, Ns.zs]
      omega
    intro w102 h102 hL102 w103 h103 hL103 w104 h104 hL104
    obtain ⟨u1, u2⟩ := up hmd hm2 h102 (by simp)
    obtain ⟨u3, u4⟩ := up (u1.trans (Md_drew w102)) (u2.trans (Md_drew w102)) h103 (by simp)
    obtain ⟨u5, u6⟩ := up u3 u4 h104 (by simp)
    exact ⟨rfl, u5, u6, hL104⟩
  refine Bd_in fun b105 hb105 => If_in (fun h2 => ?_) fun h2 => ?_
  · have hk : x.k = 2 := by rw [hb105] at h2; simpa using h2
    refine Jn_in (fun us vs w' => vs = [(⟨x.k, 0, 0, 0, 0, x.a, x.b, 0⟩ : Ns).v] ∧ Md [] w w' ∧ Md [] w2 w' ∧ ∀ b ∈ [n48, n47], b < w'.heap.size) ?_ ?_
    · rintro us vs w81 ⟨rfl, hm1, hm2', hL⟩
      refine opAg_in <| opI_in <| opI_in <| opI_in <| opI_in <| opI_in <| opI_in <| opI_in <| opI_in <| SzIs_in rfl <| in186 (hbl hm2') x.a hL fun w119 m119 => ?_
      have hL119 : ∀ b ∈ [n48, n47], b < w119.heap.size := fun b hb => by have := hL b hb; have := m119.size; omega
      refine Gd_to (fun (b98 : Bool) w' => (decide (0 ≤ x.a ∧ x.a < l.length) = true → b98 = decide (0 ≤ x.b ∧ x.b < l.length)) ∧ Md [] w119 w') (fun b98 w99 hJ => ?_) (fun fin hc => in186 (hbl (hm2'.trans m119)) x.b hL119 fun w96 m96 => fin _ _ ⟨fun _ => rfl, m96⟩) (fun hc => ⟨fun h => (by rw [h] at hc; cases hc), Md.refl _ _⟩)
      obtain ⟨h98, m99⟩ := hJ
      refine Bd_in fun b100 hb100 => ⟨b100, b73, _, rfl, rfl, ?_, (hm1.trans m119).trans m99, (hm2'.trans m119).trans m99, fun b hb => by have := hL119 b hb; have := m99.size; omega⟩
      have e : b100 = decide (0 ≤ x.a ∧ x.a < l.length ∧ 0 ≤ x.b ∧ x.b < l.length) := by
        rw [hb100]
        by_cases c : 0 ≤ x.a ∧ x.a < l.length
        · rw [decide_eq_true c] at h98 ⊢
          rw [h98 rfl]; simp [c]
        · rw [decide_eq_false c]
          have : ¬ (0 ≤ x.a ∧ x.a < l.length ∧ 0 ≤ x.b ∧ x.b < l.length) := fun h => c ⟨h.1, h.2.1⟩
          rw [decide_eq_false this]; rfl
      rw [e]
      obtain ⟨k, s1, s2, s3, s4, a, b, t⟩ := x
      simp only at hk
      subst hk
      simp [okNs, Ns.zs]
      omega
    intro w102 h102 hL102 w103 h103 hL103 w104 h104 hL104
    obtain ⟨u1, u2⟩ := up hmd hm2 h102 (by simp)
    obtain ⟨u3, u4⟩ := up (u1.trans (Md_drew w102)) (u2.trans (Md_drew w102)) h103 (by simp)
    obtain ⟨u5, u6⟩ := up u3 u4 h104 (by simp)
    exact ⟨rfl, u5, u6, hL104⟩
  intro w132 h132 hL132
  obtain ⟨u1, u2⟩ := up hmd hm2 h132 (by simp)
  refine ⟨false, b73, ⟨x.k, 0, 0, 0, 0, 0, 0, 0⟩, rfl, rfl, ?_, u1, u2, hL132⟩
  have k0 : x.k ≠ 0 := by rw [hb73] at h; simpa using h
  have k1 : x.k ≠ 1 := by rw [hb78] at h1; simpa using h1
  have k2 : x.k ≠ 2 := by rw [hb105] at h2; simpa using h2
  simp [okNs, k0, k1, k2]
end Fk

/- First machines: the reference's Right. -/
set_option linter.unusedVariables false
set_option linter.unusedSimpArgs false
set_option maxRecDepth 100000
namespace Fk
open Go Go.Proofs Go.RowKit
theorem f82_ok (st : Int) (l : List Ns) (A : Option Addr) (C : Nat) (w : World) (hr : RowAt w A 8 nsE l) (hl : l.length < 2 ^ 60) (hk : ∀ x ∈ l, 0 ≤ x.k) :
    Ct Try.prog 82 #[.agg #[.int .i64 st, .slice A l.length C]] w fun v w' => v = .bool (nfRight st l) ∧ Md [] w w' := by
  apply f82_in
  intro n1 hn1
  refine Bd_e rfl <| Bd_in fun b3 hb3 => Bd_in fun b4 hb4 => Bd_in fun b5 hb5 => Bd_in fun b6 hb6 => Bd_in fun b7 hb7 => Bd_in fun b8 hb8 => Bd_in fun b9 hb9 => ?_
  have e9 : b9 = !decide (0 ≤ st ∧ st < l.length ∧ l.length ≤ 20000) := by
    rw [hb9, hb7, hb8, hb5, hb6, hb3, hb4]
    by_cases c1 : (l.length : Int) < 1
    · have : ¬ (0 ≤ st ∧ st < l.length ∧ l.length ≤ 20000) := by omega
      simp [c1, this]
    · by_cases c2 : (l.length : Int) > 20000
      · have : ¬ (0 ≤ st ∧ st < l.length ∧ l.length ≤ 20000) := by omega
        simp [c2, this]
      · by_cases c3 : st < 0
        · have : ¬ (0 ≤ st ∧ st < l.length ∧ l.length ≤ 20000) := by omega
          simp [c3, this]
        · by_cases c4 : st ≥ (l.length : Int)
          · have : ¬ (0 ≤ st ∧ st < l.length ∧ l.length ≤ 20000) := by omega
            simp [c4, this]
          · have : 0 ≤ st ∧ st < l.length ∧ l.length ≤ 20000 := by omega
            simp [c1, c2, c3, c4, this]
  refine If_in (fun h w10 h10 _ => ⟨?_, h10⟩) fun h n11 hn11 w12 h12 hL12 => ?_
  · have : ¬ (0 ≤ st ∧ st < l.length ∧ l.length ≤ 20000) := fun hh => by rw [e9, decide_eq_true hh] at h; cases h
    unfold nfRight
    rw [decide_eq_false this]; rfl
  have hst : 0 ≤ st ∧ st < l.length ∧ l.length ≤ 20000 := by rw [e9] at h; simpa using h
  refine LoopP_in (fun mm us vs w' => ∃ i : Nat, us = [.bool false, .int .i64 i] ∧ mm = l.length - i ∧ i ≤ l.length ∧ Md [] w w' ∧ ∀ x ∈ l.take i, okNs l.length x) l.length ⟨0, rfl, rfl, by omega, h12, by simp⟩ ?_
  rintro mm us vs w16 ⟨i, rfl, rfl, hi, hmd, hall⟩
  refine opB_in <| opI_in <| Bd_in fun b19 hb19 => If_in (fun h => ?_) fun h => ⟨?_, hmd⟩
  case refine_2 =>
    have hi' : i = l.length := by rw [hb19] at h; have : ¬ (i : Int) < (l.length : Int) := by simpa using h
                                  omega
    subst hi'
    rw [List.take_length] at hall
    unfold nfRight
    rw [decide_eq_true hst]
    have : (l.all fun x => decide (okNs l.length x)) = true := by rw [List.all_eq_true]; intro x hx; simpa using hall x hx
    rw [this]; rfl
  have hi' : i < l.length := by rw [hb19] at h; have : (i : Int) < (l.length : Int) := by simpa using h
                                omega
  have hnok : ¬ okNs l.length l[i] → nfRight st l = false := fun hno => by
    have : (l.all fun x => decide (okNs l.length x)) = false := by
      rw [List.all_eq_false]
      exact ⟨l[i], List.getElem_mem hi', by simpa using hno⟩
    unfold nfRight; rw [this]; simp
  have hstep : okNs l.length l[i] → ∀ x ∈ l.take (i + 1), okNs l.length x := fun ho x hx => by
    rw [List.take_succ_eq_append_getElem hi', List.mem_append] at hx
    rcases hx with hx | hx
    · exact hall x hx
    · simp at hx; rw [hx]; exact ho
  have hk0 := hk _ (List.getElem_mem hi')
  refine ⟨hr.ix hi', (hr.md hmd).ld8 hi' fun n36 hn36 => ?_⟩
  generalize l[i] = x at *
  have hw36 : w.heap.size ≤ n36 := Nat.le_trans hmd.size hn36
  refine Bd_in fun b37 hb37 => Bd_in fun b38 hb38 => Bd_in fun b39 hb39 => Bd_in fun b40 hb40 => Bd_in fun b41 hb41 => Bd_in fun b42 hb42 => Bd_in fun b43 hb43 => Bd_in fun b44 hb44 => Bd_in fun b45 hb45 => ?_
  have e45 : b45 = !decide (x.k ≤ 2 ∧ 0 ≤ x.a ∧ x.a < l.length ∧ 0 ≤ x.b ∧ x.b < l.length) := by
    rw [hb45, hb43, hb44, hb41, hb42, hb39, hb40, hb37, hb38]
    by_cases c1 : x.k > 2
    · have : ¬ x.k ≤ 2 := by omega
      simp [c1, this]
    · by_cases c2 : x.a < 0
      · have : ¬ 0 ≤ x.a := by omega
        simp [c2, this]
      · by_cases c3 : x.a ≥ (l.length : Int)
        · have : ¬ x.a < l.length := by omega
          simp [c3, this]
        · by_cases c4 : x.b < 0
          · have : ¬ 0 ≤ x.b := by omega
            simp [c4, this]
          · by_cases c5 : x.b ≥ (l.length : Int)
            · have : ¬ x.b < l.length := by omega
              simp [c5, this]
            · have : x.k ≤ 2 ∧ 0 ≤ x.a ∧ x.a < l.length ∧ 0 ≤ x.b ∧ x.b < l.length := by omega
              simp [c1, c2, c3, c4, c5, this]
  have ez : ([x.s1, x.s2, x.s3, x.s4] = [0, 0, 0, 0]) ↔ x.zs := by simp [Ns.zs]
  have dz : decide ([x.s1, x.s2, x.s3, x.s4] = [0, 0, 0, 0]) = decide x.zs := decide_eq_decide.2 ez
  refine If_in (fun h w46 h46 _ => ⟨?_, hmd.old h46 (by simp; exact hw36)⟩) fun h => ?_
  · have hno : ¬ (x.k ≤ 2 ∧ 0 ≤ x.a ∧ x.a < l.length ∧ 0 ≤ x.b ∧ x.b < l.length) := fun hh => by rw [e45, decide_eq_true hh] at h; cases h
    rw [hnok]
    unfold okNs
    omega
  have hrg : x.k ≤ 2 ∧ 0 ≤ x.a ∧ x.a < l.length ∧ 0 ≤ x.b ∧ x.b < l.length := by rw [e45] at h; simpa using h
  refine Bd_in fun b47 hb47 w48 h48 hL48 => ?_
  have m48 : Md [] w w48 := hmd.old h48 (by simp; exact hw36)
  have e47 : b47 = decide (x.k = 0) := by rw [hb47]; rfl
  refine Gd_to (fun (b : Bool) w' => (b47 = true → b = !decide x.zs) ∧ w' = w48) (fun b53 w54 hJ => ?_) (fun fin hc => RunW_in0 (ne28 _ _ x.s1 x.s2 x.s3 x.s4 0 0 0 0 w48) <| opB_in <| fin _ _ ⟨fun _ => (by rw [dz]), rfl⟩) (fun hc => ⟨fun h => (by rw [h] at hc; cases hc), rfl⟩)
  obtain ⟨h53, rfl⟩ := hJ
  refine Bd_in fun b55 hb55 => Bd_in fun b56 hb56 => Bd_in fun b57 hb57 => Bd_in fun b58 hb58 => Bd_in fun b59 hb59 => Bd_in fun b60 hb60 => Bd_in fun b61 hb61 => Bd_in fun b62 hb62 => Bd_in fun b63 hb63 => ?_
  have e63 : b63 = decide (x.k = 0 ∧ ¬ (x.zs ∧ x.a = 0 ∧ x.b = 0 ∧ 0 ≤ x.t ∧ x.t < 200)) := by
    rw [hb63, hb62, hb61, hb60, hb59, hb58, hb57, hb56, hb55]
    by_cases c : x.k = 0
    · have : b47 = true := by rw [e47]; simpa using c
      rw [this, h53 this]
      by_cases c1 : x.zs <;> by_cases c2 : x.a = 0 <;> by_cases c3 : x.b = 0 <;> by_cases c4 : x.t < 0 <;> by_cases c5 : x.t > 199 <;> simp [c, c1, c2, c3, c4, c5] <;> omega
    · have : b47 = false := by rw [e47]; simpa using c
      rw [this]; simp [c]
  refine If_in (fun h => ⟨?_, m48⟩) fun h => ?_
  · rw [e63] at h
    have h' := of_decide_eq_true h
    rw [hnok]
    unfold okNs
    unfold Ns.zs at *
    omega
  have n63 : ¬ (x.k = 0 ∧ ¬ (x.zs ∧ x.a = 0 ∧ x.b = 0 ∧ 0 ≤ x.t ∧ x.t < 200)) := by rw [e63] at h; exact of_decide_eq_false h
  refine Bd_in fun b64 hb64 => ?_
  have e64 : b64 = decide (x.k = 1) := by rw [hb64]; rfl
  refine Gd_to (fun (b : Bool) w' => (b64 = true → b = decide x.zs) ∧ w' = w54) (fun b69 w70 hJ => ?_) (fun fin hc => RunW_in0 (eq28 _ _ x.s1 x.s2 x.s3 x.s4 0 0 0 0 w54) <| opB_in <| fin _ _ ⟨fun _ => (by rw [dz]), rfl⟩) (fun hc => ⟨fun h => (by rw [h] at hc; cases hc), rfl⟩)
  obtain ⟨h69, rfl⟩ := hJ
  refine Bd_in fun b71 hb71 => Bd_in fun b72 hb72 => Bd_in fun b73 hb73 => Bd_in fun b74 hb74 => Bd_in fun b75 hb75 => ?_
  have e75 : b75 = decide (x.k = 1 ∧ ¬ (¬ x.zs ∧ x.b = 0 ∧ x.t = 0)) := by
    rw [hb75, hb74, hb73, hb72, hb71]
    by_cases c : x.k = 1
    · have : b64 = true := by rw [e64]; simpa using c
      rw [this, h69 this]
      by_cases c1 : x.zs <;> by_cases c3 : x.b = 0 <;> by_cases c4 : x.t = 0 <;> simp [c, c1, c3, c4]
    · have : b64 = false := by rw [e64]; simpa using c
      rw [this]; simp [c]
  refine If_in (fun h => ⟨?_, m48⟩) fun h => ?_
  · rw [e75] at h
    have h' := of_decide_eq_true h
    rw [hnok]
    unfold okNs
    unfold Ns.zs at *
    omega
  have n75 : ¬ (x.k = 1 ∧ ¬ (¬ x.zs ∧ x.b = 0 ∧ x.t = 0)) := by rw [e75] at h; exact of_decide_eq_false h
  refine Bd_in fun b76 hb76 => ?_
  have e76 : b76 = decide (x.k = 2) := by rw [hb76]; rfl
  refine Gd_to (fun (b : Bool) w' => (b76 = true → b = !decide x.zs) ∧ w' = w70) (fun b81 w82 hJ => ?_) (fun fin hc => RunW_in0 (ne28 _ _ x.s1 x.s2 x.s3 x.s4 0 0 0 0 w70) <| opB_in <| fin _ _ ⟨fun _ => (by rw [dz]), rfl⟩) (fun hc => ⟨fun h => (by rw [h] at hc; cases hc), rfl⟩)
  obtain ⟨h81, rfl⟩ := hJ
  refine Bd_in fun b83 hb83 => Bd_in fun b84 hb84 => Bd_in fun b85 hb85 => ?_
  have e85 : b85 = decide (x.k = 2 ∧ ¬ (x.zs ∧ x.t = 0)) := by
    rw [hb85, hb84, hb83]
    by_cases c : x.k = 2
    · have : b76 = true := by rw [e76]; simpa using c
      rw [this, h81 this]
      by_cases c1 : x.zs <;> by_cases c4 : x.t = 0 <;> simp [c, c1, c4]
    · have : b76 = false := by rw [e76]; simpa using c
      rw [this]; simp [c]
  refine If_in (fun h => ⟨?_, m48⟩) fun h => ?_
  · rw [e85] at h
    have h' := of_decide_eq_true h
    rw [hnok]
    unfold okNs
    unfold Ns.zs at *
    omega
  have n85 : ¬ (x.k = 2 ∧ ¬ (x.zs ∧ x.t = 0)) := by rw [e85] at h; exact of_decide_eq_false h
  refine Bd_e (inc_i64 (by omega)) ⟨l.length - (i + 1), by omega, i + 1, rfl, rfl, by omega, m48, hstep ?_⟩
  unfold okNs
  unfold Ns.zs at *
  omega
end Fk

/- First machines: how states are put down (maker.full, maker.state). -/
set_option linter.unusedVariables false
set_option linter.unusedSimpArgs false
set_option maxRecDepth 100000
namespace Fk
open Go Go.Proofs Go.RowKit
theorem rowT69 : RowT Try.prog 69 103 8 64 := RowT.of (by kernel_rfl) (by kernel_rfl) (by kernel_rfl) (by omega)
/-- A maker: its states, and how many there may be. -/
structure MkAt (w : World) (n : Nat) (l : List Ns) (most : Nat) (a : Option Addr) (c : Nat) : Prop where
  blk : Blk w n 214 [.slice a l.length c, .int .i64 most]
  own : OwnL w 0 103 8 nsE a c l
  ne : ∀ A, a = some A → A.block ≠ n
def fpM (n : Nat) (a : Option Addr) : List Nat := n :: (a.map (·.block)).toList
def Mkr (w : World) (n : Nat) (l : List Ns) (most : Nat) (F : List Nat) : Prop := ∃ a c, MkAt w n l most a c ∧ F = fpM n a
def FrN (w : World) (F F' : List Nat) : Prop := ∀ b ∈ F', b ∈ F ∨ w.heap.size ≤ b
theorem FrN.refl (w : World) (F : List Nat) : FrN w F F := fun _ h => .inl h
theorem FrN.trans {w w' : World} {F F' F'' : List Nat} (h : FrN w F F') (h2 : FrN w' F' F'') (hs : w.heap.size ≤ w'.heap.size) : FrN w F F'' := fun b hb => by
  rcases h2 b hb with h1 | h1
  · exact h b h1
  · right; omega
theorem mem_fpM {n : Nat} {a : Option Addr} {b : Nat} : b ∈ fpM n a ↔ b = n ∨ ∃ A, a = some A ∧ A.block = b := by
  unfold fpM
  cases a <;> simp [eq_comm]
theorem Mkr.md {w w' : World} {n : Nat} {l : List Ns} {most : Nat} {F D : List Nat} (h : Mkr w n l most F) (hm : Md D w w') (hD : ∀ b ∈ F, b ∉ D) : Mkr w' n l most F := by
  obtain ⟨a, c, h, rfl⟩ := h
  exact ⟨a, c, ⟨h.blk.md hm (hD n (by rw [mem_fpM]; exact .inl rfl)), h.own.mdD hm (fun A hA => hD _ (by rw [mem_fpM]; exact .inr ⟨A, hA, rfl⟩)), h.ne⟩, rfl⟩
theorem Mkr.md0 {w w' : World} {n : Nat} {l : List Ns} {most : Nat} {F : List Nat} (h : Mkr w n l most F) (hm : Md [] w w') : Mkr w' n l most F := h.md hm (by simp)
theorem Mkr.lt {w : World} {n : Nat} {l : List Ns} {most : Nat} {F : List Nat} (h : Mkr w n l most F) : ∀ b ∈ F, b < w.heap.size := by
  obtain ⟨a, c, h, rfl⟩ := h
  intro b hb
  rw [mem_fpM] at hb
  rcases hb with rfl | ⟨A, hA, rfl⟩
  · exact h.blk.lt
  · exact (h.own.lt hA).2
theorem f165_ok (n : Nat) (l : List Ns) (most : Nat) (F : List Nat) (w : World) (h : Mkr w n l most F) : Ct Try.prog 165 #[.pointer (some ⟨n, 0, none⟩)] w fun v w' => v = .bool (decide (l.length > most)) ∧ Md [] w w' := by
  apply f165_in
  obtain ⟨a, c, h, rfl⟩ := h
  refine ⟨fun w' => Md [] w.drew w', Md.refl _ _, ?_⟩
  show ∃ v3, _ ∧ _
  refine ⟨_, fun w' hm => (h.blk.md ((Md_drew w).trans hm) (by simp)).ld' rfl rfl, opL_in <| Bd_e rfl ?_⟩
  show ∃ v3, _ ∧ _
  refine ⟨_, fun w' hm => (h.blk.md ((Md_drew w).trans hm) (by simp)).ld' rfl rfl, opI_in <| Bd_in fun b17 hb17 => ⟨?_, Md_drew w⟩⟩
  rw [hb17]
  congr 2
  apply propext; omega
def mst (most : Nat) (l : List Ns) (x : Ns) : List Ns := if l.length ≤ most then l ++ [x] else l
theorem f164_ok (n : Nat) (l : List Ns) (most : Nat) (F : List Nat) (x : Ns) (w : World) (h : Mkr w n l most F) (hm : most ≤ 20000) (hl : l.length ≤ most + 1) :
    Ct Try.prog 164 #[.pointer (some ⟨n, 0, none⟩), x.v] w fun v w' => (v = .int .i64 ((mst most l x).length - 1 : Int) ∧ ∃ F', Mkr w' n (mst most l x) most F' ∧ FrN w F F') ∧ Md F w w' := by
  apply f164_in
  intro n1 hn1
  refine Jn_in (fun us vs w' => (∃ F', Mkr w' n (mst most l x) most F' ∧ FrN w F F') ∧ Md F w w') ?_ fun w13 h13 hL13 => ?_
  · rintro us vs w4 ⟨⟨F', ⟨a, c, hk, rfl⟩, hf⟩, hmd⟩
    have h1 : 1 ≤ (mst most l x).length := by unfold mst; split <;> (try simp) <;> omega
    have h2 : (mst most l x).length ≤ most + 2 := by unfold mst; split <;> (try simp) <;> omega
    show Ld _ _ _
    exact hk.blk.ld' rfl <| opL_in <| Bd_e rfl <| Bd_e (y := ((mst most l x).length - 1 : Int)) (by rw [IntKind.wrap_i64]; omega) ⟨⟨rfl, _, ⟨a, c, hk, rfl⟩, hf⟩, hmd⟩
  obtain ⟨a, c, hk, rfl⟩ := h
  have l1 := hL13 n1 (by simp)
  have hk13 : ∀ {w' : World}, Md [] w13.drew w' → Blk w' n 214 [.slice a l.length c, .int .i64 most] := fun hm => (hk.blk.md h13 (by simp)).md ((Md_drew w13).trans hm) (by simp)
  refine ⟨fun w' => Md [] w13.drew w', Md.refl _ _, ?_⟩
  show ∃ v3, _ ∧ _
  refine ⟨_, fun w' hm => (hk13 hm).ld' rfl rfl, opL_in <| Bd_e rfl ?_⟩
  show ∃ v3, _ ∧ _
  refine ⟨_, fun w' hm => (hk13 hm).ld' rfl rfl, opI_in <| Bd_in fun b30 hb30 => If_in (fun hb => ?_) fun hb => ?_⟩
  · have hle : l.length ≤ most := by rw [hb30] at hb; have : (l.length : Int) ≤ (most : Int) := by simpa using hb
                                     omega
    have ems : mst most l x = l ++ [x] := by unfold mst; rw [if_pos hle]
    have m0 : Md [] w w13.drew.drew := h13.trans ((Md_drew w13).trans (Md_drew _))
    have fin : ∀ (w' w2 : World), Md [] w w' → ∀ (a' : Option Addr) (c' : Nat), OwnL w2 0 103 8 nsE a' c' (l ++ [x]) → Md (a.map (·.block)).toList w' w2 → (∀ A, a' = some A → a = some A ∨ w'.heap.size ≤ A.block) →
        ¬ Addr.block (Addr.add (Addr.mk n 0 none) 0) ∈ [n1] ∧ Wr w2 (Addr.add (Addr.mk n 0 none) 0) 1 ∧ (∃ F', Mkr (setCells w2 (Addr.add (Addr.mk n 0 none) 0) 0 [.slice a' (l ++ [x]).length c']) n (mst most l x) most F' ∧ FrN w (fpM n a) F') ∧ Md (fpM n a) w (setCells w2 (Addr.add (Addr.mk n 0 none) 0) 0 [.slice a' (l ++ [x]).length c']) := by
      intro w' w2 hmw a' c' ho hm2 hA
      have hnlt := hk.blk.lt
      have hna : n ∉ (a.map (·.block)).toList := by
        cases a with
        | none => simp
        | some A => simp; exact fun e => hk.ne A rfl e.symm
      have b2 : Blk w2 n 214 [.slice a l.length c, .int .i64 most] := (hk.blk.md hmw (by simp)).md hm2 hna
      have hs1 := hmw.size
      have ne' : ∀ A, a' = some A → A.block ≠ n := fun A h e => by
        rcases hA A h with h1 | h1
        · exact hk.ne A h1 e
        · omega
      rw [ad0', ems]
      have b3 := b2.set (j := 0) (by simp) (.slice a' (l ++ [x]).length c')
      have ms := Md_setCells (w := w2) n 0 [.slice a' (l ++ [x]).length c']
      refine ⟨?_, b2.wr (by simp), ⟨_, ⟨a', c', ⟨b3, ho.mdD ms (fun A h => by simp; exact ne' A h), ne'⟩, rfl⟩, fun b hb => ?_⟩, ?_⟩
      · simp; omega
      · rw [mem_fpM] at hb ⊢
        rcases hb with rfl | ⟨A, h, rfl⟩
        · exact .inl (.inl rfl)
        · rcases hA A h with h1 | h1
          · exact .inl (.inr ⟨A, h1, rfl⟩)
          · right; omega
      · refine ⟨ms.os.trans (hm2.os.trans hmw.os), ms.tape.trans (hm2.tape.trans hmw.tape), ms.output.trans (hm2.output.trans hmw.output), by have := ms.size; have := hm2.size; omega, fun k hk' hkm => ?_⟩
        have hkn : k ≠ n := fun e => hkm (by rw [mem_fpM]; exact .inl e)
        have hka : k ∉ (a.map (·.block)).toList := fun hmem => hkm (by unfold fpM; exact List.mem_cons_of_mem _ hmem)
        have s2 := hm2.size
        exact ((ms.blk k (by omega) (by simpa using hkn)).trans (hm2.blk k (by omega) hka)).trans (hmw.blk k hk' (by simp))
    have hnot : ∀ b ∈ [n1], ∀ A, a = some A → A.block ≠ b := fun b hb A hA e => by have := (hk.own.lt hA).2; simp at hb; omega
    have hlD : ∀ {w' : World}, Md [] w13.drew.drew w' → ∀ b ∈ [n1], b < w'.heap.size := fun hm b hb => by
      have h1 := hm.size
      have h2 : w13.heap.size ≤ _ := h1
      simp at hb; omega
    have bD : ∀ {w' : World}, Md [] w13.drew.drew w' → Blk w' n 214 [.slice a l.length c, .int .i64 most] := fun hm => hk13 ((Md_drew _).trans hm)
    refine ⟨(bD (Md.refl _ _)).ld' rfl <| opL_in <| app_one rowT69 encNs x rfl (hk.own.md m0) (Nat.zero_le _) (hlD (Md.refl _ _)) hnot (by simp [maxLen]; omega) (by omega) fun a' c' w' ho hm hA => opL_in (fin _ w' m0 a' c' ho hm hA), ?_⟩
    intro n44 w45 e1 e2
    subst e1; subst e2
    have ma : Md [] w13.drew.drew (w13.drew.drew.alloc (.cells #[.int .u8 x.k, .int .u64 x.s1, .int .u64 x.s2, .int .u64 x.s3, .int .u64 x.s4, .int .i64 x.a, .int .i64 x.b, .int .i64 x.t] 103)) := Md.alloc _ _
    have ol := OwnL.lit (P := Try.prog) (base := 0) encNs w13.drew.drew 103 [x] #[.int .u8 x.k, .int .u64 x.s1, .int .u64 x.s2, .int .u64 x.s3, .int .u64 x.s4, .int .i64 x.a, .int .i64 x.b, .int .i64 x.t] (Nat.zero_le _) (by simp [maxLen]) rfl
    exact (bD ma).ld' rfl <| opL_in <| app_own rowT69 encNs ((hk.own.md m0).md ma) ol (Nat.zero_le _) (hlD ma) hnot (by simp [maxLen]; omega) (by simp; omega) fun a' c' w' ho hm hA => opL_in (fin _ w' (m0.trans ma) a' c' ho hm hA)
  · have hle : ¬ l.length ≤ most := by rw [hb30] at hb; have : ¬ (l.length : Int) ≤ (most : Int) := by simpa using hb
                                       omega
    have ems : mst most l x = l := by unfold mst; rw [if_neg hle]
    have m : Md [] w w13.drew := h13.trans (Md_drew w13)
    rw [ems]
    exact ⟨⟨_, ⟨a, c, ⟨hk13 (Md.refl _ _), hk.own.md m, hk.ne⟩, rfl⟩, FrN.refl _ _⟩, m.mono (by simp)⟩
end Fk

/- First machines: what a tree makes, as a plain function. -/
set_option linter.unusedVariables false
set_option linter.unusedSimpArgs false
set_option maxRecDepth 100000
namespace Fk
open Go Go.Proofs Go.RowKit
/-- A state more: all of them, and the last one's number. -/
def pst (most : Nat) (l : List Ns) (x : Ns) : List Ns × Int := (mst most l x, (mst most l x).length - 1)
def spl (a b : Int) : Ns := ⟨2, 0, 0, 0, 0, a, b, 0⟩
def setA (l : List Ns) (i k : Int) : List Ns := match l[i.toNat]? with
  | some x => l.set i.toNat { x with a := k }
  | none => l
/-- What a row of trees makes: as a row of a text; as choices; the first tree alone. -/
structure Tw where
  cat : List Ns × Int → List Ns × Int
  alt : Int → List Ns → List Ns × Option Int
  one : List Ns × Int → List Ns × Int
def twOne (most : Nat) (k a b c d : Int) (Q : Tw) (p : List Ns × Int) : List Ns × Int :=
  if p.1.length > most then p
  else if k = 1 then pst most p.1 ⟨1, a, b, c, d, p.2, 0, 0⟩
  else if k = 2 then Q.cat p
  else if k = 3 then ((Q.alt p.2 p.1).1, (Q.alt p.2 p.1).2.getD 0)
  else if k = 4 then
    let s := pst most p.1 (spl 0 p.2)
    let q := Q.one (s.1, s.2)
    (setA q.1 s.2 q.2, s.2)
  else p
def twAlt (most : Nat) (one : List Ns × Int → List Ns × Int) (R : Tw) (to : Int) (l : List Ns) : List Ns × Option Int :=
  let r := R.alt to l
  let q := one (r.1, to)
  match r.2 with
  | none => (q.1, some q.2)
  | some at' => ((pst most q.1 (spl q.2 at')).1, some (pst most q.1 (spl q.2 at')).2)
def tw (most : Nat) : Fo → Tw
  | .nil => ⟨id, fun _ l => (l, none), id⟩
  | .cons k a b c d q r =>
    let one := twOne most k a b c d (tw most q)
    ⟨fun p => one ((tw most r).cat p), twAlt most one (tw most r), one⟩
/-! ### Lengths -/
theorem mst_len (most : Nat) (l : List Ns) (x : Ns) (h : l.length ≤ most + 1) : l.length ≤ (mst most l x).length ∧ (mst most l x).length ≤ most + 1 := by
  unfold mst
  split
  · simp; omega
  · omega
theorem setA_len (l : List Ns) (i k : Int) : (setA l i k).length = l.length := by
  unfold setA
  split <;> simp
theorem tw_len (most : Nat) : ∀ f : Fo, (∀ p : List Ns × Int, p.1.length ≤ most + 1 → p.1.length ≤ ((tw most f).cat p).1.length ∧ ((tw most f).cat p).1.length ≤ most + 1) ∧
    (∀ (to : Int) (l : List Ns), l.length ≤ most + 1 → l.length ≤ ((tw most f).alt to l).1.length ∧ ((tw most f).alt to l).1.length ≤ most + 1) ∧
    (∀ p : List Ns × Int, p.1.length ≤ most + 1 → p.1.length ≤ ((tw most f).one p).1.length ∧ ((tw most f).one p).1.length ≤ most + 1)
  | .nil => ⟨fun p h => ⟨Nat.le_refl _, h⟩, fun to l h => ⟨Nat.le_refl _, h⟩, fun p h => ⟨Nat.le_refl _, h⟩⟩
  | .cons k a b c d q r => by
    obtain ⟨q1, q2, q3⟩ := tw_len most q
    obtain ⟨r1, r2, r3⟩ := tw_len most r
    have one : ∀ p : List Ns × Int, p.1.length ≤ most + 1 → p.1.length ≤ (twOne most k a b c d (tw most q) p).1.length ∧ (twOne most k a b c d (tw most q) p).1.length ≤ most + 1 := by
      intro p hp
      unfold twOne
      split
      · exact ⟨Nat.le_refl _, hp⟩
      · split
        · exact mst_len most p.1 _ hp
        · split
          · exact q1 p hp
          · split
            · exact q2 _ _ hp
            · split
              · have h1 := mst_len most p.1 (spl 0 p.2) hp
                have h2 := q3 (pst most p.1 (spl 0 p.2)) h1.2
                simp only [setA_len]
                exact ⟨Nat.le_trans h1.1 h2.1, h2.2⟩
              · exact ⟨Nat.le_refl _, hp⟩
    refine ⟨fun p hp => ?_, fun to l hl => ?_, one⟩
    · have h1 := r1 p hp
      have h2 := one _ h1.2
      exact ⟨Nat.le_trans h1.1 h2.1, h2.2⟩
    · have h1 := r2 to l hl
      have h2 := one (((tw most r).alt to l).1, to) h1.2
      show l.length ≤ (twAlt most _ _ to l).1.length ∧ (twAlt most _ _ to l).1.length ≤ most + 1
      unfold twAlt
      simp only
      split
      · exact ⟨Nat.le_trans h1.1 h2.1, h2.2⟩
      · rename_i at' _
        have h3 := mst_len most _ (spl (twOne most k a b c d (tw most q) (((tw most r).alt to l).1, to)).2 at') h2.2
        exact ⟨Nat.le_trans h1.1 (Nat.le_trans h2.1 h3.1), h3.2⟩
end Fk

/- First machines: what a tree makes (maker.toward). -/
set_option linter.unusedVariables false
set_option linter.unusedSimpArgs false
set_option maxRecDepth 100000
namespace Fk
open Go Go.Proofs Go.RowKit
theorem Md_frN {F F' : List Nat} {w w1 w2 : World} (h1 : Md F w w1) (h2 : Md F' w1 w2) (hf : FrN w F F') : Md F w w2 :=
  ⟨h2.os.trans h1.os, h2.tape.trans h1.tape, h2.output.trans h1.output, Nat.le_trans h1.size h2.size, fun k hk hm => (h2.blk k (Nat.lt_of_lt_of_le hk h1.size) fun hm' => by
    rcases hf k hm' with h | h
    · exact hm h
    · omega).trans (h1.blk k hk hm)⟩
def Fo.drop : Fo → Nat → Fo
  | f, 0 => f
  | .nil, _ + 1 => .nil
  | .cons _ _ _ _ _ _ r, n + 1 => r.drop n
theorem Fo.drop_len : ∀ (f : Fo) (j : Nat), (f.drop j).len = f.len - j
  | f, 0 => by simp [Fo.drop]
  | .nil, j + 1 => by simp [Fo.drop, Fo.len]
  | .cons _ _ _ _ _ _ r, j + 1 => by simp only [Fo.drop, Fo.len, Fo.drop_len r j]; omega
theorem Fo.drop_cons : ∀ (f : Fo) (j : Nat), j < f.len → ∃ k a b c d q, f.drop j = .cons k a b c d q (f.drop (j + 1)) ∧ q.size < f.size
  | .nil, j, h => by simp [Fo.len] at h
  | .cons k a b c d q r, 0, _ => ⟨k, a, b, c, d, q, by cases r <;> rfl, by simp only [Fo.size]; omega⟩
  | .cons k a b c d q r, j + 1, h => by
    obtain ⟨k', a', b', c', d', q', e, hs⟩ := Fo.drop_cons r j (by simp only [Fo.len] at h; omega)
    exact ⟨k', a', b', c', d', q', by simp only [Fo.drop]; exact e, by simp only [Fo.size]; omega⟩
theorem Fo.drop_all (f : Fo) : ∀ j, f.len ≤ j → f.drop j = .nil := by
  intro j hj
  have := Fo.drop_len f j
  cases h : f.drop j with
  | nil => rfl
  | cons => rw [h] at this; simp only [Fo.len] at this; omega
theorem RepF.drop {w : World} {A : Option Addr} : ∀ (f : Fo) (i j : Nat), RepF w A i f → RepF w A (i + j) (f.drop j)
  | f, i, 0, h => by simpa [Fo.drop] using h
  | .nil, i, j + 1, h => trivial
  | .cons _ _ _ _ _ _ r, i, j + 1, h => by
    obtain ⟨B, sa, sc, _, _, _, _, hr⟩ := h.at
    have := RepF.drop r (i + 1) j hr
    rw [show i + (j + 1) = i + 1 + j by omega]
    exact this
/-- Trees whose choices and stars have kids. -/
def Fo.gdP : Fo → Prop
  | .nil => True
  | .cons k _ _ _ _ q r => ((k = 3 ∨ k = 4) → 1 ≤ q.len) ∧ q.gdP ∧ r.gdP
theorem Fo.gdP_drop : ∀ (f : Fo) (j : Nat), f.gdP → (f.drop j).gdP
  | f, 0, h => by simpa [Fo.drop] using h
  | .nil, j + 1, h => trivial
  | .cons _ _ _ _ _ _ r, j + 1, h => Fo.gdP_drop r j h.2.2
/-- What a call of toward, or of state, brings. -/
structure Tws (w0 w : World) (n : Nat) (l : List Ns) (most : Nat) (F : List Nat) : Prop where
  mr : Mkr w n l most F
  md : Md [] w0 w
  lo : ∀ b ∈ F, w0.heap.size ≤ b
  len : l.length ≤ most + 1
theorem Tws.step {w0 w w' : World} {n : Nat} {l l' : List Ns} {most : Nat} {F F' : List Nat} (S : Tws w0 w n l most F) (h : Mkr w' n l' most F') (hm : Md F w w') (hf : FrN w F F') (hl : l'.length ≤ most + 1) : Tws w0 w' n l' most F' :=
  ⟨h, S.md.old hm S.lo, fun b hb => by rcases hf b hb with h | h; exact S.lo b h; have := S.md.size; omega, hl⟩
theorem Tws.md0 {w0 w w' : World} {n : Nat} {l : List Ns} {most : Nat} {F : List Nat} (S : Tws w0 w n l most F) (hm : Md [] w w') : Tws w0 w' n l most F := ⟨S.mr.md0 hm, S.md.trans hm, S.lo, S.len⟩
/-- Blocks that are there, and are none of the maker's. -/
def LN (L : List Nat) (w : World) (F : List Nat) : Prop := ∀ b ∈ L, b < w.heap.size ∧ b ∉ F
theorem LN.fr {L F F' : List Nat} {w w' : World} (h : LN L w F) (hf : FrN w F F') (hs : w.heap.size ≤ w'.heap.size) : LN L w' F' := fun b hb => by
  obtain ⟨h1, h2⟩ := h b hb
  refine ⟨by omega, fun hm => ?_⟩
  rcases hf b hm with h3 | h3
  · exact h2 h3
  · omega
theorem in164 {w0 w : World} {n : Nat} {l : List Ns} {most : Nat} {F L : List Nat} (S : Tws w0 w n l most F) (hL : LN L w F) (hm : most ≤ 20000) (k a b c d e f t : Int) {K : Int → World → Prop}
    (kk : ∀ F' w', Tws w0 w' n (pst most l ⟨k, a, b, c, d, e, f, t⟩).1 most F' → Md F w w' → FrN w F F' → LN L w' F' → K (pst most l ⟨k, a, b, c, d, e, f, t⟩).2 w') :
    CallW Try.prog L 164 #[.pointer (some ⟨n, 0, none⟩), .agg #[.int .u8 k, .int .u64 a, .int .u64 b, .int .u64 c, .int .u64 d, .int .i64 e, .int .i64 f, .int .i64 t]] (fun v w' => opI .i64 v fun x => K x w') w := by
  refine (f164_ok n l most F ⟨k, a, b, c, d, e, f, t⟩ w S.mr hm S.len).callD (fun b hb => (hL b hb).1) (fun b hb => (hL b hb).2) ?_
  rintro v w' ⟨rfl, F', h1, h2⟩ h'
  exact opI_in (kk F' w' (S.step h1 h' h2 (mst_len most l _ S.len).2) h' h2 (hL.fr h2 h'.size))
end Fk

/- First machines: maker.toward. -/
set_option linter.unusedVariables false
set_option linter.unusedSimpArgs false
set_option maxRecDepth 100000
set_option maxHeartbeats 2000000
namespace Fk
open Go Go.Proofs Go.RowKit
theorem wrL_a {l : List Ns} {i : Nat} (hi : i < l.length) (y : Int) : wrL (l.flatMap nsE) (i * 8 + 5) [.int .i64 y] = (l.set i { l[i] with a := y }).flatMap nsE := by
  rw [← wrL_flat encNs l i { l[i] with a := y } hi]
  apply List.ext_getElem?
  intro j
  have hlen := encNs.lenL l
  rw [wrL_get (by simp only [List.length_cons, List.length_nil]; omega), wrL_get (by rw [encNs.len]; omega), encNs.len]
  simp only [List.length_cons, List.length_nil]
  by_cases h1 : i * 8 ≤ j ∧ j < i * 8 + 8
  · obtain ⟨r, rfl⟩ : ∃ r, j = i * 8 + r := ⟨j - i * 8, by omega⟩
    have hr : r < 8 := by omega
    rw [if_pos h1, encNs.at l i r l[i] (List.getElem?_eq_getElem hi) hr, show i * 8 + r - i * 8 = r by omega]
    rcases (by omega : r = 0 ∨ r = 1 ∨ r = 2 ∨ r = 3 ∨ r = 4 ∨ r = 5 ∨ r = 6 ∨ r = 7) with rfl | rfl | rfl | rfl | rfl | rfl | rfl | rfl
    case inr.inr.inr.inr.inr.inl => rw [if_pos (by omega)]; simp [nsE]
    all_goals (rw [if_neg (by omega)]; simp [nsE])
  · rw [if_neg h1, if_neg (by omega)]
theorem NN_in {A : Addr} {k : Addr → Prop} (h : k A) : NN (some A) k := h
theorem star_put {w0 w : World} {n : Nat} {l2 : List Ns} {most : Nat} {F : List Nat} {n1 : Nat} (S : Tws w0 w n l2 most F) (x : Int) (i : Nat) (hx : x = (i : Int)) (hi : i < l2.length) (kid : Int) (hn1 : n1 ∉ F) {K : World → Prop}
    (kk : ∀ w', Tws w0 w' n (setA l2 x kid) most F → Md F w w' → K w') :
    Ld w ((Addr.mk n 0 none).add 0) fun v115 => opL v115 fun a116 n117 n118 => IxOk x n117 a116 ∧ ¬ Addr.block (adAt a116 x 8) ∈ [n1] ∧ Wr w ((adAt a116 x 8).add 5) 1 ∧ K (setCells w ((adAt a116 x 8).add 5) 0 [.int .i64 kid]) := by
  subst hx
  obtain ⟨a, c, hk, hF⟩ := S.mr
  refine hk.blk.ld' rfl <| opL_in ?_
  have hlen := encNs.lenL l2
  obtain ⟨A, rfl, p1, p2, p3, p4, p5⟩ := own_put hk.own (i * 8 + 5) [.int .i64 kid] (by simp only [List.length_cons, List.length_nil]; omega) (by simp)
  have hA : (adAt (some A) (i : Int) 8).add 5 = A.add (i * 8 + 5) := by
    rw [← add_add]
    simp [adAt]
  have hB : (adAt (some A) (i : Int) 8).block = A.block := by simp [adAt, add_block]
  have hAF : A.block ∈ F := by rw [hF, mem_fpM]; exact .inr ⟨A, rfl, rfl⟩
  rw [wrL_a hi] at p4
  have es : setA l2 (i : Int) kid = l2.set i { l2[i] with a := kid } := by unfold setA; simp [hi]
  rw [hA, hB]
  have hne : A.block ≠ n := hk.ne A rfl
  have own' : OwnL (setCells w (A.add (i * 8 + 5)) 0 [.int .i64 kid]) 0 103 8 nsE (some A) c (l2.set i { l2[i] with a := kid }) := by
    unfold OwnL
    rw [List.length_set]; exact p4
  refine ⟨(hk.own.row encNs).ix hi, by simp; exact fun e => hn1 (e ▸ hAF), p3, kk _ ⟨⟨some A, c, ⟨?_, ?_, hk.ne⟩, hF⟩, S.md.old p5 (by simp; exact S.lo _ hAF), S.lo, by rw [es, List.length_set]; exact S.len⟩ (p5.mono (by simp; exact hAF))⟩
  · have := hk.blk.md p5 (by simp; exact fun e => hne e.symm)
    rw [es, List.length_set]; exact this
  · rw [es]; exact own'
def Tow (most : Nat) (q : Fo) : Prop := ∀ (k a b c d : Int) (sa : Option Addr) (sc : Nat) (to : Int) (n : Nat) (l : List Ns) (F : List Nat) (w0 w : World), RepF w0 sa 0 q → q.len < 2 ^ 63 → ((k = 3 ∨ k = 4) → 1 ≤ q.len) → q.gdP → Tws w0 w n l most F →
    Ct Try.prog 163 #[.pointer (some ⟨n, 0, none⟩), .agg #[.int .u8 k, .int .u64 a, .int .u64 b, .int .u64 c, .int .u64 d, .slice sa q.len sc], .int .i64 to] w
      fun v w' => (v = .int .i64 (twOne most k a b c d (tw most q) (l, to)).2 ∧ ∃ F', Tws w0 w' n (twOne most k a b c d (tw most q) (l, to)).1 most F' ∧ FrN w F F') ∧ Md F w w'
theorem in163 {most : Nat} {q : Fo} (hT : Tow most q) {k a b c d : Int} {sa : Option Addr} {sc : Nat} (to : Int) {n : Nat} {l : List Ns} {F L : List Nat} {w0 w : World} (h1 : RepF w0 sa 0 q) (h2 : q.len < 2 ^ 63) (h3 : (k = 3 ∨ k = 4) → 1 ≤ q.len) (h4 : q.gdP) (S : Tws w0 w n l most F) (hL : LN L w F) {K : Int → World → Prop}
    (kk : ∀ F' w', Tws w0 w' n (twOne most k a b c d (tw most q) (l, to)).1 most F' → Md F w w' → FrN w F F' → LN L w' F' → K (twOne most k a b c d (tw most q) (l, to)).2 w') :
    CallW Try.prog L 163 #[.pointer (some ⟨n, 0, none⟩), .agg #[.int .u8 k, .int .u64 a, .int .u64 b, .int .u64 c, .int .u64 d, .slice sa q.len sc], .int .i64 to] (fun v w' => opI .i64 v fun x => K x w') w := by
  refine (hT k a b c d sa sc to n l F w0 w h1 h2 h3 h4 S).callD (fun b hb => (hL b hb).1) (fun b hb => (hL b hb).2) ?_
  rintro v w' ⟨rfl, F', h5, h6⟩ h'
  exact opI_in (kk F' w' h5 h' h6 (hL.fr h6 h'.size))
/-- A kid is read. -/
theorem kid_ld {w0 w : World} {sa : Option Addr} {q : Fo} {j : Nat} {k a b c d : Int} {q' : Fo} (h : RepF w0 sa 0 q) (hm : Md [] w0 w) (he : q.drop j = .cons k a b c d q' (q.drop (j + 1))) (hj : j < q.len) {K : Int → Int → Int → Int → Int → Option Addr → Nat → Nat → Prop}
    (kk : ∀ sa' sc', q'.len < 2 ^ 63 → RepF w0 sa' 0 q' → K k a b c d sa' q'.len sc') :
    IxOk (j : Int) q.len sa ∧ Ld w ((adAt sa (j : Int) 6).add 0) fun v14 => Ld w ((adAt sa (j : Int) 6).add 1) fun v15 => Ld w ((adAt sa (j : Int) 6).add 2) fun v16 => Ld w ((adAt sa (j : Int) 6).add 3) fun v17 => Ld w ((adAt sa (j : Int) 6).add 4) fun v18 => Ld w ((adAt sa (j : Int) 6).add 5) fun v19 =>
      opI .u8 v14 fun x20 => opI .u64 v15 fun x21 => opI .u64 v16 fun x22 => opI .u64 v17 fun x23 => opI .u64 v18 fun x24 => opL v19 fun a25 n26 n27 => K x20 x21 x22 x23 x24 a25 n26 n27 := by
  have := h.drop q 0 j
  rw [he, Nat.zero_add] at this
  obtain ⟨B, sa', sc', rfl, hc, hql, hq, _⟩ := this.at
  exact ⟨⟨by omega, by omega, rfl⟩, ReC.ld (hc.md hm) (kk sa' sc' hql hq)⟩
theorem f163_step (most : Nat) (hm : most ≤ 20000) (q : Fo) (ih : ∀ q' : Fo, q'.size < q.size → Tow most q') : Tow most q := by
  intro k a b c d sa sc to n l F w0 w hr hql hk34 hgood S
  apply f163_in
  intro n1 hn1 w2 h2 hL2
  have S2 := S.md0 h2
  refine (f165_ok n l most F w2 S2.mr).call hL2 ?_
  rintro v w4 rfl m4
  have S4 := S2.md0 m4
  have m24 := h2.trans m4
  have l1 : n1 < w4.heap.size := by have := hL2 n1 (by simp); have := m4.size; omega
  have hLN : LN [n1] w4 F := fun b hb => by
    simp at hb; subst hb
    exact ⟨l1, fun hm => by have := S.mr.lt _ hm; omega⟩
  refine opB_in <| If_in (fun hb => ?_) fun hb => Bd_e rfl <| Bd_e (y := (q.len : Int) - 1) (by rw [IntKind.wrap_i64]; omega) ?_
  · have hfull : l.length > most := by simpa using hb
    have e : twOne most k a b c d (tw most q) (l, to) = (l, to) := by unfold twOne; rw [if_pos hfull]
    rw [e]
    exact ⟨⟨rfl, F, S4, FrN.refl _ _⟩, m24.mono (by simp)⟩
  have hnf : ¬ l.length > most := by simpa using hb
  have up : ∀ {F' : List Nat} {w' : World} {l' : List Ns}, Tws w0 w' n l' most F' → Md F w4 w' → FrN w4 F F' → (∃ F', Tws w0 w' n l' most F' ∧ FrN w F F') ∧ Md F w w' := fun {F' w' l'} h1 h2 h3 =>
    ⟨⟨F', h1, fun b hb => by rcases h3 b hb with h | h; exact .inl h; have := m24.size; right; omega⟩, Md_frN (m24.mono (by simp)) h2 (FrN.refl _ _)⟩
  refine Jn_in (fun us vs w' => ∃ (x y : Int) (b1 b2 : Bool), us = [.int .i64 x, .int .i64 y, .bool b1, .bool b2] ∧ x = (twOne most k a b c d (tw most q) (l, to)).2 ∧ (∃ F', Tws w0 w' n (twOne most k a b c d (tw most q) (l, to)).1 most F' ∧ FrN w F F') ∧ Md F w w') ?_ ?_
  · rintro us vs w10 ⟨x, y, b1, b2, rfl, rfl, h3, h4⟩
    exact opI_in <| opI_in <| opB_in <| opB_in ⟨⟨rfl, h3⟩, h4⟩
  refine Bd_in fun b16 hb16 => If_in (fun hb => ?_) fun hb1 => ?_
  · have hk : k = 1 := by rw [hb16] at hb; simpa using hb
    have e : twOne most k a b c d (tw most q) (l, to) = pst most l ⟨1, a, b, c, d, to, 0, 0⟩ := by unfold twOne; rw [if_neg hnf, if_pos hk]
    rw [e]
    refine in164 S4 hLN hm 1 a b c d to 0 0 fun F' w18 S18 m18 f18 _ => ?_
    obtain ⟨u1, u2⟩ := up S18 m18 f18
    exact ⟨⟨rfl, u1⟩, u2⟩

  have hk1 : k ≠ 1 := by rw [hb16] at hb1; simpa using hb1
  refine Bd_in fun b20 hb20 => If_in (fun hb => ?_) fun hb2 => ?_
  · have hk : k = 2 := by rw [hb20] at hb; simpa using hb
    have e : twOne most k a b c d (tw most q) (l, to) = (tw most q).cat (l, to) := by unfold twOne; rw [if_neg hnf, if_neg hk1, if_pos hk]
    refine LoopP_in (fun mm us vs w' => ∃ (j : Nat) (x : Int) (l' : List Ns) (F' : List Nat), us = [.int .i64 x, .int .i64 ((j : Int) - 1)] ∧ mm = j ∧ j ≤ q.len ∧ (tw most (q.drop j)).cat (l, to) = (l', x) ∧ Tws w0 w' n l' most F' ∧ Md F w4 w' ∧ FrN w4 F F' ∧ LN [n1] w' F') q.len
      ⟨q.len, to, l, F, rfl, rfl, Nat.le_refl _, by rw [Fo.drop_all q _ (Nat.le_refl _)]; rfl, S4, Md.refl _ _, FrN.refl _ _, hLN⟩ ?_
    rintro mm us vs w24 ⟨j, x, l', F', rfl, hmm, hj, hc, St, m, f, hL⟩
    refine opI_in <| opI_in <| Bd_in fun b27 hb27 => If_in (fun hb => ?_) fun hb => ?_
    · have hj1 : (j : Int) - 1 ≥ 0 := by rw [hb27] at hb; exact of_decide_eq_true hb
      obtain ⟨i, rfl⟩ : ∃ i, j = i + 1 := ⟨j - 1, by omega⟩
      have ei : (((i + 1 : Nat) : Int) - 1) = (i : Int) := by omega
      rw [ei]
      obtain ⟨k', a', b', c', d', q', he, hqs⟩ := Fo.drop_cons q i hj
      have hg := q.gdP_drop i hgood
      rw [he] at hg
      refine kid_ld hr St.md he hj fun sa' sc' hql' hr' => ?_
      refine in163 (ih q' hqs) x hr' hql' hg.1 hg.2.1 St hL fun F2 w43 S43 m43 f43 lf43 => Bd_e (y := (i : Int) - 1) (by rw [IntKind.wrap_i64]; omega) ⟨i, by omega, i, _, _, F2, rfl, rfl, by omega, ?_, S43, Md_frN m m43 f, f.trans f43 m.size, lf43⟩
      rw [he]
      show twOne most k' a' b' c' d' (tw most q') ((tw most (q.drop (i + 1))).cat (l, to)) = _
      rw [hc]
    · have hj1 : ¬ (j : Int) - 1 ≥ 0 := by rw [hb27] at hb; exact of_decide_eq_false hb
      have hj0 : j = 0 := by omega
      subst hj0
      obtain ⟨u1, u2⟩ := up St m f
      have hc' : (tw most q).cat (l, to) = (l', x) := by simpa [Fo.drop] using hc
      rw [e, hc']
      exact ⟨x, 0, b16, b20, rfl, rfl, u1, u2⟩
  have hk2 : k ≠ 2 := by rw [hb20] at hb2; simpa using hb2
  refine Bd_in fun b46 hb46 => If_in (fun hb => ?_) fun hb3 => ?_
  · have hk : k = 3 := by rw [hb46] at hb; simpa using hb
    have e : twOne most k a b c d (tw most q) (l, to) = (((tw most q).alt to l).1, ((tw most q).alt to l).2.getD 0) := by unfold twOne; rw [if_neg hnf, if_neg hk1, if_neg hk2, if_pos hk]
    have hl1 := hk34 (.inl hk)
    obtain ⟨j0, hj0⟩ : ∃ j0, q.len = j0 + 1 := ⟨q.len - 1, by omega⟩
    have ei : (q.len : Int) - 1 = (j0 : Int) := by omega
    rw [ei]
    obtain ⟨k', a', b', c', d', q', he, hqs⟩ := Fo.drop_cons q j0 (by omega)
    have hg := q.gdP_drop j0 hgood
    rw [he] at hg
    refine kid_ld hr S4.md he (by omega) fun sa' sc' hql' hr' => ?_
    refine in163 (ih q' hqs) to hr' hql' hg.1 hg.2.1 S4 hLN fun F1 w62 S62 m62 f62 lf62 => Bd_e (y := (j0 : Int) - 1) (by rw [IntKind.wrap_i64]; omega) ?_
    refine LoopP_in (fun mm us vs w' => ∃ (j : Nat) (x : Int) (l' : List Ns) (F' : List Nat), us = [.int .i64 x, .int .i64 ((j : Int) - 1)] ∧ mm = j ∧ j ≤ j0 ∧ (tw most (q.drop j)).alt to l = (l', some x) ∧ Tws w0 w' n l' most F' ∧ Md F w4 w' ∧ FrN w4 F F' ∧ LN [n1] w' F') j0
      ⟨j0, _, _, F1, rfl, rfl, Nat.le_refl _, by rw [he, Fo.drop_all q _ (by omega)]; rfl, S62, m62, f62, lf62⟩ ?_
    rintro mm us vs w24 ⟨j, x, l', F', rfl, hmm, hj, hc, St, m, f, hL⟩
    refine opI_in <| opI_in <| Bd_in fun b27 hb27 => If_in (fun hb => ?_) fun hb => ?_
    · have hj1 : (j : Int) - 1 ≥ 0 := by rw [hb27] at hb; exact of_decide_eq_true hb
      obtain ⟨i, rfl⟩ : ∃ i, j = i + 1 := ⟨j - 1, by omega⟩
      have ei : (((i + 1 : Nat) : Int) - 1) = (i : Int) := by omega
      rw [ei]
      obtain ⟨k2, a2, b2, c2, d2, q2, he2, hqs2⟩ := Fo.drop_cons q i (by omega)
      have hg2 := q.gdP_drop i hgood
      rw [he2] at hg2
      refine kid_ld hr St.md he2 (by omega) fun sa' sc' hql' hr' => ?_
      refine in163 (ih q2 hqs2) to hr' hql' hg2.1 hg2.2.1 St hL fun F2 w43 S43 m43 f43 lf43 => ?_
      refine in164 S43 lf43 hm 2 0 0 0 0 _ x 0 fun F3 w44 S44 m44 f44 lf44 => Bd_e (y := (i : Int) - 1) (by rw [IntKind.wrap_i64]; omega) ⟨i, by omega, i, _, _, F3, rfl, rfl, by omega, ?_, S44, Md_frN (Md_frN m m43 f) m44 (f.trans f43 m.size), (f.trans f43 m.size).trans f44 (by have := m.size; have := m43.size; omega), lf44⟩
      rw [he2]
      show twAlt most (twOne most k2 a2 b2 c2 d2 (tw most q2)) (tw most (q.drop (i + 1))) to l = _
      unfold twAlt
      simp only [hc]
      rfl
    · have hj1 : ¬ (j : Int) - 1 ≥ 0 := by rw [hb27] at hb; exact of_decide_eq_false hb
      have hj0 : j = 0 := by omega
      subst hj0
      obtain ⟨u1, u2⟩ := up St m f
      have hc' : (tw most q).alt to l = (l', some x) := by simpa [Fo.drop] using hc
      rw [e, hc']
      exact ⟨⟨rfl, u1⟩, u2⟩
  have hk3 : k ≠ 3 := by rw [hb46] at hb3; simpa using hb3
  refine Bd_in fun b93 hb93 => If_in (fun hb => ?_) fun hb4 => ?_
  case refine_2 =>
    have hk4 : k ≠ 4 := by rw [hb93] at hb4; simpa using hb4
    have e : twOne most k a b c d (tw most q) (l, to) = (l, to) := by unfold twOne; rw [if_neg hnf, if_neg hk1, if_neg hk2, if_neg hk3, if_neg hk4]
    obtain ⟨u1, u2⟩ := up S4 (Md.refl _ _) (FrN.refl _ _)
    rw [e]
    exact ⟨to, 0, b16, b20, rfl, rfl, u1, u2⟩
  have hk : k = 4 := by rw [hb93] at hb; simpa using hb
  have e : twOne most k a b c d (tw most q) (l, to) = (setA ((tw most q).one (pst most l (spl 0 to))).1 (pst most l (spl 0 to)).2 ((tw most q).one (pst most l (spl 0 to))).2, (pst most l (spl 0 to)).2) := by unfold twOne; rw [if_neg hnf, if_neg hk1, if_neg hk2, if_neg hk3, if_pos hk]
  have hl1 := hk34 (.inr hk)
  obtain ⟨k', a', b', c', d', q', he, hqs⟩ := Fo.drop_cons q 0 (by omega)
  have he0 : q = .cons k' a' b' c' d' q' (q.drop 1) := by have := he; simpa [Fo.drop] using this
  have hg := hgood
  rw [he0] at hg
  refine in164 S4 hLN hm 2 0 0 0 0 0 to 0 fun F1 w95 S95 m95 f95 lf95 => kid_ld (j := 0) hr S95.md he (by omega) fun sa' sc' hql' hr' => ?_
  refine in163 (ih q' hqs) _ hr' hql' hg.1 hg.2.1 S95 lf95 fun F2 w112 S112 m112 f112 lf112 => ?_
  have eone : (tw most q).one = twOne most k' a' b' c' d' (tw most q') := by rw [he0]; rfl
  have hlp := (tw_len most q).2.2 (pst most l (spl 0 to)) S95.len
  rw [eone] at e hlp
  have hp1 : 1 ≤ (pst most l (spl 0 to)).1.length := by show 1 ≤ (mst most l _).length; unfold mst; split <;> (try simp) <;> omega
  have hp2 : (pst most l (spl 0 to)).2 = ((pst most l (spl 0 to)).1.length : Int) - 1 := rfl
  change Tws w0 w112 n (twOne most k' a' b' c' d' (tw most q') (pst most l (spl 0 to))).1 most F2 at S112
  rw [e]
  refine NN_in <| star_put (K := fun w' => (Value.int .i64 (pst most l (spl 0 to)).2 = .int .i64 (pst most l (spl 0 to)).2 ∧ ∃ F', Tws w0 w' n (setA (twOne most k' a' b' c' d' (tw most q') (pst most l (spl 0 to))).1 (pst most l (spl 0 to)).2 (twOne most k' a' b' c' d' (tw most q') (pst most l (spl 0 to))).2) most F' ∧ FrN w F F') ∧ Md F w w') S112 (pst most l (spl 0 to)).2 ((pst most l (spl 0 to)).1.length - 1) (by omega) (by omega) _ (lf112 n1 (by simp)).2 fun w' S' m' => ?_
  have mm := Md_frN (Md_frN m95 m112 f95) m' ((f95.trans f112 m95.size))
  obtain ⟨u1, u2⟩ := up S' mm (f95.trans f112 m95.size)
  exact ⟨⟨rfl, u1⟩, u2⟩
theorem tow_ok (most : Nat) (hm : most ≤ 20000) : ∀ (s : Nat) (q : Fo), q.size < s → Tow most q
  | 0, q, h => by omega
  | s + 1, q, h => f163_step most hm q fun q' h' => tow_ok most hm s q' (by omega)
end Fk

/- First machines: Build, as a plain function. -/
set_option linter.unusedVariables false
set_option linter.unusedSimpArgs false
set_option maxRecDepth 100000
namespace Fk
open Go Go.Proofs Go.RowKit
theorem good_of_right : ∀ f : Fo, f.right = true → f.gdP
  | .nil, _ => trivial
  | .cons k a b c d q r, h => by
    simp only [Fo.right, Bool.and_eq_true] at h
    refine ⟨fun hk => ?_, good_of_right q h.1.2, good_of_right r h.2⟩
    have h1 := h.1.1
    unfold nodeOk at h1
    rcases hk with rfl | rfl <;> simp at h1 <;> omega
/-- The trees of a row, one behind the other: an end, what the tree makes, and where it begins. -/
def bldF (most : Nat) : Fo → Int → List Ns → List Int → List Ns × List Int
  | .nil, _, l, bs => (l, bs)
  | .cons k a b c d q r, i, l, bs =>
    let s := pst most l ⟨0, 0, 0, 0, 0, 0, 0, i⟩
    let t := twOne most k a b c d (tw most q) s
    bldF most r (i + 1) t.1 (bs ++ [t.2])
/-- The beginnings, joined from the last one on. -/
def joinB (most : Nat) : List Int → List Ns → List Ns × Int
  | [], l => (l, 0)
  | b :: bs, l => match bs with
    | [] => (l, b)
    | _ :: _ => pst most (joinB most bs l).1 (spl b (joinB most bs l).2)
def Fo.rightAll (f : Fo) : Bool := f.right
def bld (f : Fo) (most : Int) : (Int × List Ns) × Int :=
  if 1 ≤ f.len ∧ f.len ≤ 200 ∧ 1 ≤ most ∧ most ≤ 20000 ∧ f.right = true then
    let t := bldF most.toNat f 0 [] []
    let j := joinB most.toNat t.2 t.1
    if (j.1.length : Int) > most then ((0, []), 40) else ((j.2, j.1), 0)
  else ((0, []), 2)
end Fk

/- First machines: Build. -/
set_option linter.unusedVariables false
set_option linter.unusedSimpArgs false
set_option maxRecDepth 100000
set_option maxHeartbeats 2000000
namespace Fk
open Go Go.Proofs Go.RowKit
theorem OwnL.up {α : Type} {w : World} {base b : Nat} {e : TypeId} {size : Nat} {enc : α → List Value} {a : Option Addr} {c : Nat} {l : List α} (h : OwnL w base e size enc a c l) (hb : ∀ A, a = some A → b ≤ A.block) : OwnL w b e size enc a c l := by
  refine ⟨h.1, ?_⟩
  rcases h.2 with hn | ⟨g, cap, cur, hv, hb', rest⟩
  · exact .inl hn
  · refine .inr ⟨g, cap, cur, hv, ?_, rest⟩
    simp only [Value.slice.injEq] at hv
    exact hb _ hv.1
theorem right_take : ∀ (f : Fo) (j : Nat), f.right = true → (f.drop j).right = true
  | f, 0, h => by simpa [Fo.drop] using h
  | .nil, j + 1, h => rfl
  | .cons _ _ _ _ _ _ r, j + 1, h => by
    simp only [Fo.right, Bool.and_eq_true] at h
    exact right_take r j h.2
theorem right_pre {f : Fo} {j : Nat} {k a b c d : Int} {q : Fo} (he : f.drop j = .cons k a b c d q (f.drop (j + 1))) (h : f.right = true) : nodeOk k (z4 a b c d) q.len = true ∧ q.right = true := by
  have := right_take f j h
  rw [he] at this
  simp only [Fo.right, Bool.and_eq_true] at this
  exact this.1
theorem drop_right {f : Fo} {j : Nat} {k a b c d : Int} {q : Fo} (he : f.drop j = .cons k a b c d q (f.drop (j + 1))) : (f.drop j).right = (nodeOk k (z4 a b c d) q.len && q.right && (f.drop (j + 1)).right) := by
  rw [he]; rfl
theorem right_at : ∀ (f : Fo), (∀ j k a b c d q, j < f.len → f.drop j = .cons k a b c d q (f.drop (j + 1)) → nodeOk k (z4 a b c d) q.len = true ∧ q.right = true) → f.right = true
  | .nil, _ => rfl
  | .cons k a b c d q r, h => by
    have h0 := h 0 k a b c d q (by simp [Fo.len]) (by simp only [Fo.drop])
    have hr := right_at r fun j k' a' b' c' d' q' hj he => h (j + 1) k' a' b' c' d' q' (by simp only [Fo.len]; omega) (by simp only [Fo.drop]; exact he)
    simp only [Fo.right, Bool.and_eq_true]
    exact ⟨⟨h0.1, h0.2⟩, hr⟩
/-- All trees are asked, as long as they are right. -/
def firstR (f : Fo) (i : Nat) : Prop := ∀ j k a b c d q, j < i → f.drop j = .cons k a b c d q (f.drop (j + 1)) → nodeOk k (z4 a b c d) q.len = true ∧ q.right = true
end Fk

