/- Disks that were played; the chapter's examples. -/
import Derived.Test.YtpgjpgecgibklaaE5
import Derived.Laws.Concat
set_option linter.unusedVariables false
set_option linter.unusedSimpArgs false
set_option maxRecDepth 100000
namespace Fk
open Go Go.Proofs Go.RowKit
def opE (o : Op20) : List Value := [.int .u8 o.k, .int .i64 o.n, .int .i64 o.m, .int .u8 o.c, .int .u8 o.l, .bool o.u]
theorem encOp : Enc 6 opE := ⟨fun _ => rfl, by intro x v hv; simp [opE] at hv; rcases hv with rfl | rfl | rfl | rfl | rfl | rfl <;> rfl⟩
theorem RowAt.ldj {α : Type} {w : World} {A : Option Addr} {size : Nat} {enc : α → List Value} {l : List α} (h : RowAt w A size enc l) {i : Nat} (hi : i < l.length) {j : Nat} {v : Value} (hv : (enc l[i])[j]? = some v) {K : Value → Prop} (k : K v) : Ld w ((adAt A (i : Int) size).add j) K := by
  obtain ⟨B, rfl, hc⟩ := h i l[i] (List.getElem?_eq_getElem hi)
  refine Ld_in ?_ k
  have := hc j v hv
  simpa [adAt] using this
theorem LF.new {F : List Nat} {w w' : World} {n : Nat} (hF : ∀ b ∈ F, b < w.heap.size) (hn : w.heap.size ≤ n) (hlt : n < w'.heap.size) : LF [n] w' F := fun b hb => by
  simp at hb; subst hb
  exact ⟨hlt, fun hm => by have := hF _ hm; omega⟩
theorem LF.cons {F L : List Nat} {w : World} {n : Nat} (h1 : LF [n] w F) (h2 : LF L w F) : LF (n :: L) w F := fun b hb => by
  rcases List.mem_cons.1 hb with rfl | hb
  · exact h1 _ (by simp)
  · exact h2 b hb
theorem write_len (d : Dk) (i : Int) (b : List Nat) : (d.write i b).1.bl.length = d.bl.length ∧ (d.write i b).1.pd.length ≤ d.pd.length + 1 := by
  obtain ⟨h1, h2⟩ := stepD_bl d
  unfold Dk.write
  split
  · exact ⟨rfl, by simp⟩
  · split
    · simp [Dk.put, h1, h2]
    · simp [h1, h2]
theorem flush_len (d : Dk) : d.flush.1.bl = d.bl ∧ d.flush.1.pd.length ≤ d.pd.length := by
  obtain ⟨h1, h2⟩ := stepD_bl d
  unfold Dk.flush
  split
  · simp [h1]
  · simp [h1, h2]
theorem does_len (d : Dk) (o : Op20) : (d.does o).1.bl.length = d.bl.length ∧ (d.does o).1.pd.length ≤ d.pd.length + 1 := by
  unfold Dk.does
  split
  · exact write_len _ _ _
  · split
    · have := flush_len d
      exact ⟨by rw [this.1], by omega⟩
    · split
      · simp [Dk.arm]
      · split
        · exact ⟨crB_len _ _ _ _, by simp [Dk.crash]⟩
        · simp
def playL (d : Dk) (l : List Op20) : Dk := l.foldl (fun d o => (d.does o).1) d
def playD (l : List Op20) : Dk := playL (newDk 8) (l.take 40)
theorem playL_len (l : List Op20) : ∀ d : Dk, (playL d l).bl.length = d.bl.length ∧ (playL d l).pd.length ≤ d.pd.length + l.length := by
  induction l with
  | nil => intro d; exact ⟨rfl, by simp [playL]⟩
  | cons o l ih =>
    intro d
    obtain ⟨h1, h2⟩ := ih (d.does o).1
    obtain ⟨h3, h4⟩ := does_len d o
    unfold playL at h1 h2 ⊢
    rw [List.foldl_cons]
    exact ⟨h1.trans h3, by simp only [List.length_cons]; omega⟩
theorem playD_len (l : List Op20) : (playD l).bl.length = 8 ∧ (playD l).pd.length ≤ 40 := by
  obtain ⟨h1, h2⟩ := playL_len (l.take 40) (newDk 8)
  refine ⟨by unfold playD; rw [h1]; simp [newDk], ?_⟩
  have : (l.take 40).length ≤ 40 := by simp; omega
  unfold playD
  simp [newDk] at h2 ⊢
  omega
theorem playL_take {d : Dk} {l : List Op20} {i : Nat} (hi : i < l.length) : playL d (l.take (i + 1)) = ((playL d (l.take i)).does l[i]).1 := by
  unfold playL
  rw [List.take_succ_eq_append_getElem hi, List.foldl_append]; rfl
theorem size125 (w : World) : ∃ s, (Go.sizeOf 125).run Try.prog w = .ok s w := by
  have h : (Try.prog.info? 125).isSome = true := by kernel_rfl
  obtain ⟨i, hi⟩ := Option.isSome_iff_exists.1 h
  exact ⟨i.size, by simp [Go.sizeOf, typeInfo, hi]⟩
theorem in105 {w0 w : World} {n : Nat} {d : Dk} {F L : List Nat} (S : DS w0 w n d F) (hL : LF L w F) (o : Op20) (ho : o.ok) (hpd : d.pd.length < 2 ^ 30) {K : Int → World → Prop}
    (k : ∀ F' w', DS w0 w' n (d.does o).1 F' → Md F w w' → Fr w F F' → LF L w' F' → K (d.does o).2 w') :
    CallW Try.prog L 105 #[.pointer (some ⟨n, 0, none⟩), .agg #[.int .u8 o.k, .int .i64 o.n, .int .i64 o.m, .int .u8 o.c, .int .u8 o.l, .bool o.u]] (fun v w' => opI .i64 v fun x => K x w') w := by
  refine (f105_ok n d F o ho hpd w S.dk).callD (fun b hb => (hL b hb).1) (fun b hb => (hL b hb).2) ?_
  rintro v w' ⟨rfl, F', h1, h2⟩ h'
  exact opI_in (k F' w' (S.step h1 h' h2) h' h2 (hL.fr h2 h'.size))
theorem f101_ok (l : List Op20) (A : Option Addr) (C : Nat) (hl : l.length < 2 ^ 63) (hC : l.length ≤ C) (hok : ∀ o ∈ l, o.ok) (w : World) (hr : RowAt w A 6 opE l) :
    Ct Try.prog 101 #[.slice A l.length C] w fun v w' => (∃ n F, v = .pointer (some ⟨n, 0, none⟩) ∧ DS w w' n (playD l) F) ∧ Md [] w w' := by
  apply f101_in
  refine in109 (w0 := w) (Md.refl _ _) 8 (by omega) (by omega) (by simp) fun n F w2 S2 m2 hF2 => ?_
  refine Bd_e rfl <| Bd_e (y := ((min l.length 40 : Nat) : Int)) (by split <;> omega) ?_
  refine RunW_in0 (slice_front (e := 125) (by kernel_rfl) size125 _ _ _ _ _ (by omega)) <| opL_in <| Bd_e rfl ?_
  refine LoopP_in (fun m us vs w' => ∃ (i : Nat) (F' : List Nat), us = [.int .i64 i] ∧ m = min l.length 40 - i ∧ i ≤ min l.length 40 ∧ DS w w' n (playL (newDk 8) (l.take i)) F') (min l.length 40) ⟨0, F, rfl, rfl, by omega, S2⟩ ?_
  rintro m us vs w17 ⟨i, F', rfl, rfl, hi, S⟩
  refine opI_in <| Bd_in fun b19 hb19 => If_in (fun hb => ?_) fun hb => ?_
  · have hi' : i < min l.length 40 := by rw [hb19] at hb; have : (i : Int) < ((min l.length 40 : Nat) : Int) := by simpa using hb
                                         omega
    have hil : i < l.length := by omega
    have hrow := hr.md S.md
    have hok' := hok _ (List.getElem_mem hil)
    have hix : IxOk (i : Int) (min l.length 40) A := by have := hr.ix hil; exact ⟨this.1, by omega, this.2.2⟩
    refine ⟨hix, hrow.ldj hil rfl <| hrow.ldj hil rfl <| hrow.ldj hil rfl <| hrow.ldj hil rfl <| hrow.ldj hil rfl <| hrow.ldj hil rfl <| opI_in <| opI_in <| opI_in <| opI_in <| opI_in <| opB_in fun n32 hn32 w33 h33 hL33 => ?_⟩
    have S33 := S.md0 (mdUp hn32 h33)
    have hlf : LF [n32] w33 F' := LF.new S.dk.lt hn32 (hL33 n32 (by simp))
    obtain ⟨hpl1, hpl2⟩ := playL_len (l.take i) (newDk 8)
    have htl : (l.take i).length = i := by rw [List.length_take]; omega
    refine in105 S33 hlf l[i] hok' (by have h0 : (newDk 8).pd.length = 0 := rfl; omega) fun F'' w35 S35 m35 f35 _ => Bd_e (inc_i64 (by omega)) ⟨min l.length 40 - (i + 1), by omega, i + 1, F'', rfl, rfl, by omega, by rw [playL_take hil]; exact S35⟩
  · have hi' : i = min l.length 40 := by rw [hb19] at hb; have : ¬ (i : Int) < ((min l.length 40 : Nat) : Int) := by simpa using hb
                                         omega
    have e : l.take i = l.take 40 := by
      rw [hi']
      rcases Nat.le_total l.length 40 with h | h
      · rw [Nat.min_eq_left h, List.take_length, List.take_of_length_le h]
      · rw [Nat.min_eq_right h]
    rw [e] at S
    exact ⟨⟨n, F', rfl, S⟩, S.md⟩
theorem in101 {w0 w : World} {L : List Nat} (hm : Md [] w0 w) (l : List Op20) {A : Option Addr} {C m : Nat} (hml : m = l.length) (hl : l.length < 2 ^ 63) (hC : l.length ≤ C) (hok : ∀ o ∈ l, o.ok) (hr : RowAt w A 6 opE l) (hL : ∀ b ∈ L, b < w.heap.size) {K : Option Addr → World → Prop}
    (k : ∀ n F w', DS w0 w' n (playD l) F → Md [] w w' → (∀ b ∈ F, w.heap.size ≤ b) → K (some ⟨n, 0, none⟩) w') :
    CallW Try.prog L 101 #[.slice A m C] (fun v w' => opP v fun a => K a w') w := by
  subst hml
  refine (f101_ok l A C hl hC hok w hr).call hL ?_
  rintro v w' ⟨n, F, rfl, S⟩ h'
  exact opP_in (k n F w' ⟨S.dk, hm.trans h', fun b hb => by have := S.lo b hb; have := hm.size; omega⟩ h' S.lo)
/-! ### The chapter's examples -/
/-- A row stands apart from a disk. -/
def Sep (a : Option Addr) (w : World) (F : List Nat) : Prop := ∀ A, a = some A → A.block < w.heap.size ∧ A.block ∉ F
theorem Sep.fr {a : Option Addr} {F F' : List Nat} {w w' : World} (h : Sep a w F) (hf : Fr w F F') (hs : w.heap.size ≤ w'.heap.size) : Sep a w' F' := fun A hA => by
  obtain ⟨h1, h2⟩ := h A hA
  refine ⟨by omega, fun hm => ?_⟩
  rcases hf _ hm with h3 | h3
  · exact h2 h3
  · omega
theorem Sep.md {a : Option Addr} {F : List Nat} {w w' : World} (h : Sep a w F) (hs : w.heap.size ≤ w'.heap.size) : Sep a w' F := h.fr (Fr.refl _ _) hs
theorem run_addS (w : World) (o1 o2 : Operand) (a b : ByteArray) (ha : a.size ≤ 8388608) (hb : b.size ≤ 8388608) : (eqS .add 9 o1 o2 (.string a) (.string b)).run Try.prog w = .ok (.string (a ++ b)) w := by
  unfold eqS
  rw [Sem.run_bind, eqGuard_add, binOp_string_add]
  simp only [Sem.run_pure, Result.andThen_ok]
  exact run_string_add w a b (by omega) (by omega)
def sevens : List Nat := List.replicate 64 7
def ex1 : Dk := ((newDk 3).write 1 sevens).1
def ex2 : Dk := ex1.crash 0 2
def ex3 : Dk := ex2.arm 2
def ex4 : Dk := (ex3.write 2 sevens).1
def ex5 : Dk := ex4.flush.1
def ex6 : Dk := ex5.flush.1
theorem ex_e1 : ((newDk 3).write 1 sevens).2 = 0 := by kernel_rfl
theorem ex_e4 : (ex3.write 2 sevens).2 = 0 := by kernel_rfl
theorem ex_e5 : ex4.flush.2 = 200 := by kernel_rfl
theorem ex_e6 : ex5.flush.2 = 0 := by kernel_rfl
theorem ex_l1 : ex1.pd.length = 1 := by kernel_rfl
theorem ex_l2 : ex2.bl.length = 3 := by kernel_rfl
theorem ex_l3 : ex3.pd.length = 0 := by kernel_rfl
theorem ex_p6 : ex6.pd.length = 0 := by kernel_rfl
theorem ex_a6 : ex6.all.length = 192 := by kernel_rfl
theorem ex_r2 : (getB ex2.bl 1).1 = [7, 7] ++ List.replicate 62 0 := by kernel_rfl
theorem ex_str : bytesOf ([7, 7] ++ List.replicate 62 0) = (⟨#[7, 7]⟩ : ByteArray) ++ bytesOf (List.replicate 62 0) := by kernel_rfl
theorem made5 (m : Nat) (w : World) (hm : m < 2 ^ 20) : ∃ w', (Instr.makeSlice 51 (.int .i64 (m : Int)) (.int .i64 (m : Int))).run Try.prog w = .ok (.slice (some ⟨w.heap.size, 0, none⟩) m m) w' ∧ OwnL w' w.heap.size 5 1 b1 (some ⟨w.heap.size, 0, none⟩) m (List.replicate m 0) ∧ Md [] w w' := by
  have h5 : (Try.prog.info? 5).isSome = true := by kernel_rfl
  obtain ⟨i5, hi5⟩ := Option.isSome_iff_exists.1 h5
  have hz5 : (Try.prog.info? 5).bind (·.zero) = some (.int .u8 0) := by kernel_rfl
  have hs5 : (Try.prog.info? 5).map (fun i => (i.size, i.bytes)) = some (1, 1) := by kernel_rfl
  rw [hi5] at hz5 hs5
  simp only [Option.bind_some, Option.map_some, Option.some.injEq, Prod.mk.injEq] at hz5 hs5
  obtain ⟨w3, hrun, hown, hgr⟩ := run_makeSlice_full (P := Try.prog) w w.heap.size 51 5 i5 (.int .u8 0) 1 (by kernel_rfl) hi5 hz5 hs5.1 .i64 .i64 m (by omega) (by rw [hs5.2]; omega) (by simp [maxLen]; omega) (Nat.le_refl _)
  refine ⟨w3, hrun, ?_, Md_of_grown hgr⟩
  have hmc : (madeCells (Value.int .u8 0).cells (m * 1)).toList = (List.replicate m 0).flatMap b1 := by
    rw [b1_map, List.map_replicate, Nat.mul_one]
    exact toList_madeCells_one _ m
  unfold OwnL
  rw [← hmc, List.length_replicate]; exact hown
theorem f107_ok (w : World) : Ct Try.prog 107 #[] w fun v w' => v = .bool true ∧ Md [] w w' := by
  apply f107_in
  refine (f109_ok 0 w).call (by simp) ?_
  rintro v w2 h m2
  rcases h with ⟨h1, _⟩ | ⟨_, rfl⟩
  · omega
  refine opTu_in <| opP_in <| opI_in <| SzIs_in rfl ?_
  refine in109 m2 3 (by omega) (by omega) (by simp) fun n F w7 S7 m7 hF7 => ?_
  intro n11 w12 e11 e12
  subst e11; subst e12
  have hma : Md [] w7 (w7.alloc (.cells #[.int .u8 7] 5)) := Md.alloc w7 _
  have hrow : RowAt (w7.alloc (.cells #[.int .u8 7] 5)) (some ⟨w7.heap.size, 0, none⟩) 1 b1 [7] := (OwnL.lit (P := Try.prog) (base := w7.heap.size) encb1 w7 5 [7] _ (Nat.le_refl _) (by simp [maxLen]) rfl).row encb1
  refine (f193_ok 7 (by omega) _ 1 64 (by omega) _ hrow).call (by simp) ?_
  rintro v w14 ⟨a15, c15, C15, rfl, _, own15⟩ m14
  refine opL_in ?_
  have S14 := (S7.md0 hma).md0 m14
  have sep14 : Sep a15 w14 F := fun A hA => by
    obtain ⟨h1, h2⟩ := own15.lt hA
    refine ⟨h2, fun hm => ?_⟩
    have := S7.dk.lt _ hm
    have := hma.size
    omega
  have own15' : OwnL w14 (w7.alloc (.cells #[.int .u8 7] 5)).heap.size 5 1 b1 a15 C15 sevens := own15
  have hs : ∀ x ∈ sevens, x < 256 := fun x hx => by have := List.eq_of_mem_replicate hx; omega
  refine in114 S14 (LF.nil _ _) 1 (b := sevens) rfl hs (by simp [sevens]) (by simp [newDk]) (own15'.row encb1) (fun A hA => (sep14 A hA).2) fun F19 w19 S19 m19 f19 _ => ?_
  rw [ex_e1]
  have own19 := own15'.mdD m19 fun A hA => (sep14 A hA).2
  have sep19 := sep14.fr f19 m19.size
  refine in106 S19 (LF.nil _ _) 0 2 (by show ex1.pd.length < _; rw [ex_l1]; omega) fun F22 w22 S22 m22 f22 _ => ?_
  have own22 := own19.mdD m22 fun A hA => (sep19 A hA).2
  have sep22 := sep19.fr f22 m22.size
  have S22' : DS w w22 n ex2 F22 := S22
  refine (f119_ok n ex2 F22 1 w22 S22'.dk).call (by simp) ?_
  rintro v w25 h m25
  rcases h with ⟨h0, h1, a27, rfl, own27⟩ | ⟨hno, _⟩
  case inr => exact absurd ⟨by omega, by rw [ex_l2]; omega⟩ hno
  have hg : ex2.bl[(1 : Int).toNat] = getB ex2.bl 1 := (getB_eq (i := 1) (by rw [ex_l2]; omega)).symm
  rw [hg, ex_r2] at own27
  refine opTu_in <| opL_in <| opI_in <| SzIs_in rfl ?_
  have S25 := S22'.md0 m25
  have own25 := own22.md m25
  have sep25 := sep22.md m25.size
  have sp27 : Sep a27 w25 F22 := fun A hA => by
    obtain ⟨h1, h2⟩ := own27.lt hA
    exact ⟨h2, fun hm => by have := S22'.dk.lt _ hm; omega⟩
  refine in102 S25 (LF.nil _ _) 2 (by omega) fun w32 S32 m32 _ => ?_
  have S32' : DS w w32 n ex3 F22 := S32
  have own32 := own25.mdD m32 fun A hA => (sep25 A hA).2
  have sep32 := sep25.md m32.size
  have r32 := own27.mdD m32 fun A hA => (sp27 A hA).2
  have t32 := sp27.md m32.size
  refine in114 S32' (LF.nil _ _) 2 (b := sevens) rfl hs (by simp [sevens]) (by rw [ex_l3]; omega) (own32.row encb1) (fun A hA => (sep32 A hA).2) fun F35 w35 S35 m35 f35 _ => ?_
  rw [ex_e4]
  have S35' : DS w w35 n ex4 F35 := S35
  have r35 := r32.mdD m35 fun A hA => (t32 A hA).2
  have t35 := t32.fr f35 m35.size
  refine in103 S35' (LF.nil _ _) fun F38 w38 S38 m38 f38 _ => ?_
  rw [ex_e5]
  have S38' : DS w w38 n ex5 F38 := S38
  have r38 := r35.mdD m38 fun A hA => (t35 A hA).2
  have t38 := t35.fr f38 m38.size
  refine in103 S38' (LF.nil _ _) fun F41 w41 S41 m41 f41 _ => ?_
  rw [ex_e6]
  have S41' : DS w w41 n ex6 F41 := S41
  have r41 := r38.mdD m41 fun A hA => (t38 A hA).2
  have hlr : ∀ x ∈ ([7, 7] ++ List.replicate 62 0 : List Nat), x < 256 := by
    intro x hx
    rcases List.mem_append.1 hx with h | h
    · simp at h; omega
    · have := List.eq_of_mem_replicate h; omega
  have hl0 : ∀ x ∈ (List.replicate 62 0 : List Nat), x < 256 := fun x hx => by have := List.eq_of_mem_replicate hx; omega
  refine Jn_in (fun us vs w' => us = [.bool true] ∧ Md [] w w') (by rintro us vs w45 ⟨rfl, h⟩; exact opB_in ⟨rfl, h⟩) ?_
  refine Bd_t rfl <| Bd_t rfl <| Bd_t rfl <| Bd_t rfl <| Bd_t rfl <| Bd_t rfl <| Bd_t rfl ?_
  have cv1 : ∀ {w'}, Md [] w41 w' → (convert 51 9 (.slice a27 64 64)).run Try.prog w' = .ok (.string (bytesOf ([7, 7] ++ List.replicate 62 0))) w' := fun hm => conv_row ((r41.md hm).row encb1) hlr 64 64 rfl
  have add : ∀ w' (o1 o2 : Operand), (eqS .add 9 o1 o2 (.string ⟨#[7, 7]⟩) (.string (bytesOf (List.replicate 62 0)))).run Try.prog w' = .ok (.string (bytesOf ([7, 7] ++ List.replicate 62 0))) w' := fun w' o1 o2 => by
    rw [run_addS w' o1 o2 _ _ (by decide) (by rw [show (bytesOf (List.replicate 62 0)).size = 62 by rfl]; omega), ← ex_str]
  obtain ⟨wm, rm, om, mm⟩ := made5 62 w41.drew (by omega)
  have cv2 : ∀ {w'}, Md [] wm w' → (convert 51 9 (.slice (some ⟨w41.drew.heap.size, 0, none⟩) 62 62)).run Try.prog w' = .ok (.string (bytesOf (List.replicate 62 0))) w' := fun hm => conv_row ((om.md hm).row encb1) hl0 62 62 (by simp)
  have md1 : Md [] w41 wm := (Md_drew w41).trans mm
  have hp6 := ex_p6
  have ha6 := ex_a6
  have Sm := S41'.md0 md1
  refine ⟨?_, ?_⟩
  · refine Gd_t <| RunW_in0 (cv1 (Md_drew _)) <| opStr_in <| Gd_t <| RunW_in rm (fun b hb => by simp at hb) <| opL_in <| Gd_t <| RunW_in0 (cv2 (Md.refl _ _)) <| opStr_in ⟨_, fun _ w' _ => ⟨add w' _ _⟩, opStr_in <| Bd_t (by simp) <| Bd_t rfl <| Bd_t rfl <| Bd_t rfl <| Bd_t rfl <| Bd_t rfl <| Bd_t rfl <| Bd_t rfl <| Gd_t <| in108 Sm (by simp) fun w1 S1 q1 => ?_⟩
    rw [hp6]
    refine Bd_t rfl <| Bd_t rfl <| Gd_t <| in104' S1 (by simp) fun a c w2 S2 q2 _ => Bd_e (y := 192) (by show ((ex6.all.length : Nat) : Int) = 192; rw [ha6]; rfl) <| Bd_t rfl <| Bd_t rfl ⟨rfl, S2.md⟩
  · refine Gd_t <| RunW_in rm (fun b hb => by simp at hb) <| opL_in ⟨?_, ?_⟩
    · refine Gd_t <| RunW_in0 (cv1 md1) <| opStr_in <| Gd_t <| RunW_in0 (cv2 (Md.refl _ _)) <| opStr_in ⟨_, fun _ w' _ => ⟨add w' _ _⟩, opStr_in <| Bd_t (by simp) <| Bd_t rfl <| Bd_t rfl <| Bd_t rfl <| Bd_t rfl <| Bd_t rfl <| Bd_t rfl <| Bd_t rfl <| Gd_t <| in108 Sm (by simp) fun w1 S1 q1 => ?_⟩
      rw [hp6]
      refine Bd_t rfl <| Bd_t rfl <| Gd_t <| in104' S1 (by simp) fun a c w2 S2 q2 _ => Bd_e (y := 192) (by show ((ex6.all.length : Nat) : Int) = 192; rw [ha6]; rfl) <| Bd_t rfl <| Bd_t rfl ⟨rfl, S2.md⟩
    · refine Gd_t <| RunW_in0 (cv2 (Md.refl _ _)) <| opStr_in ⟨_, fun _ w' _ => ⟨add w' _ _⟩, opStr_in <| Gd_t <| RunW_in0 (cv1 md1) <| opStr_in <| Bd_t (by simp) <| Bd_t rfl <| Bd_t rfl <| Bd_t rfl <| Bd_t rfl <| Bd_t rfl <| Bd_t rfl <| Bd_t rfl <| Gd_t <| in108 Sm (by simp) fun w1 S1 q1 => ?_⟩
      rw [hp6]
      refine Bd_t rfl <| Bd_t rfl <| Gd_t <| in104' S1 (by simp) fun a c w2 S2 q2 _ => Bd_e (y := 192) (by show ((ex6.all.length : Nat) : Int) = 192; rw [ha6]; rfl) <| Bd_t rfl <| Bd_t rfl ⟨rfl, S2.md⟩
theorem in107 {w0 w : World} {L : List Nat} (h : Md [] w0 w) (hL : ∀ b ∈ L, b < w.heap.size) {K : Bool → World → Prop} (k : ∀ w', Md [] w0 w' → (∀ b ∈ L, b < w'.heap.size) → K true w') : CallW Try.prog L 107 #[] (fun v w' => opB v fun b => K b w') w := by
  refine (f107_ok w).call hL ?_
  rintro v w' rfl h'
  exact opB_in (k w' (h.trans h') fun b hb => by have := hL b hb; have := h'.size; omega)
end Fk
