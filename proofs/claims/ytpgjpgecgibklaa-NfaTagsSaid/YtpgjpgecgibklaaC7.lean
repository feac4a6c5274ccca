/- Contracts: classes of trees, as the program makes them and as the document does. -/
import Derived.Test.YtpgjpgecgibklaaC6
set_option linter.unusedVariables false
set_option linter.unusedSimpArgs false
set_option maxRecDepth 100000
namespace Fk
open Go Go.Proofs Go.RowKit
def zCl (m : Int) : Cl := ⟨List.replicate 256 0, m⟩
theorem zero_cl : (zeroL Try.prog 25) = (zCl 0).l := by kernel_rfl
theorem build0 (w : World) : (Instr.build 25 #[]).run Try.prog w = .ok (.agg (zCl 0).v) w := by kernel_rfl
theorem build1 (w : World) : (Instr.build 25 #[(1, .int .i64 1)]).run Try.prog w = .ok (.agg (zCl 1).v) w := by kernel_rfl
theorem zCl_ok {m : Int} (h0 : 0 ≤ m) (h1 : m ≤ 256) : (zCl m).ok := ⟨by simp [zCl], fun i h => by simp only [zCl, List.getElem_replicate]; omega, by simp only [zCl]; omega, by simp only [zCl]; omega⟩
/-- A row that can be read. -/
def RowAt {α : Type} (w : World) (a : Option Addr) (size : Nat) (enc : α → List Value) (l : List α) : Prop :=
  ∀ i x, l[i]? = some x → ∃ A, a = some A ∧ ∀ j u, (enc x)[j]? = some u → w.cell? ((A.add (i * size)).add j) = some u
theorem OwnL.row {α : Type} {w : World} {base : Nat} {e : TypeId} {size : Nat} {enc : α → List Value} {a : Option Addr} {c : Nat} {l : List α} (he : Enc size enc) (h : OwnL w base e size enc a c l) : RowAt w a size enc l :=
  fun i x hx => h.at he hx
theorem RowAt.md {α : Type} {w w' : World} {a : Option Addr} {size : Nat} {enc : α → List Value} {l : List α} (h : RowAt w a size enc l) (hm : Md [] w w') : RowAt w' a size enc l := by
  intro i x hx
  obtain ⟨A, hA, hc⟩ := h i x hx
  exact ⟨A, hA, fun j u hu => hm.cell0 (hc j u hu)⟩
/-- Four words are read. -/
theorem RowAt.ld4 {w : World} {A : Option Addr} {l : List Q4} (h : RowAt w A 4 q4 l) {i : Nat} (hi : i < l.length) {K : Value → Value → Value → Value → Prop}
    (hk : K (.int .u64 l[i].1) (.int .u64 l[i].2.1) (.int .u64 l[i].2.2.1) (.int .u64 l[i].2.2.2)) :
    Ld w ((adAt A (i : Int) 4).add 0) fun v1 => Ld w ((adAt A (i : Int) 4).add 1) fun v2 => Ld w ((adAt A (i : Int) 4).add 2) fun v3 => Ld w ((adAt A (i : Int) 4).add 3) fun v4 => K v1 v2 v3 v4 := by
  obtain ⟨B, rfl, hc⟩ := h i l[i] (List.getElem?_eq_getElem hi)
  exact Ld_in (hc 0 _ rfl) <| Ld_in (hc 1 _ rfl) <| Ld_in (hc 2 _ rfl) <| Ld_in (hc 3 _ rfl) hk
theorem RowAt.ix {α : Type} {w : World} {A : Option Addr} {size : Nat} {enc : α → List Value} {l : List α} (h : RowAt w A size enc l) {i : Nat} (hi : i < l.length) : IxOk (i : Int) l.length A := by
  obtain ⟨B, rfl, hc⟩ := h i l[i] (List.getElem?_eq_getElem hi)
  exact ⟨by omega, by omega, rfl⟩
def apart (l : List Q4) (a b : Nat) : Bool := l.any fun q => inQ q a != inQ q b
theorem f149_ok (A : Option Addr) (C : Nat) (l : List Q4) (a b : Nat) (ha : a < 256) (hb : b < 256) (w : World) (hr : RowAt w A 4 q4 l) (hl : l.length < 2 ^ 40) :
    Ct Try.prog 149 #[.slice A l.length C, .int .i64 a, .int .i64 b] w fun v w' => v = .bool (apart l a b) ∧ Md [] w w' := by
  apply f149_in
  refine LoopP_in (fun m us vs w' => ∃ i : Nat, us = [.bool false, .int .i64 i] ∧ m = l.length - i ∧ i ≤ l.length ∧ apart l a b = apart (l.drop i) a b ∧ Md [] w w') l.length ⟨0, rfl, rfl, by omega, by simp, Md.refl _ _⟩ ?_
  rintro m us vs w4 ⟨i, rfl, rfl, hi, hg, h4⟩
  refine opB_in <| opI_in <| Bd_in fun x7 hx7 => Bd_in fun b8 hb8 => ?_
  subst hx7
  refine If_in (fun h => ?_) fun h => ⟨?_, h4⟩
  · subst hb8
    simp only [decide_eq_true_eq, Int.ofNat_lt] at h
    rw [List.drop_eq_getElem_cons h] at hg
    refine Jn_in (fun us vs w' => us = [.bool (inQ l[i] a != inQ l[i] b)] ∧ Md [] w w') ?_ ?_
    · rintro us vs w11 ⟨rfl, h11⟩
      refine opB_in <| If_in (fun h' => ⟨?_, h11⟩) fun h' => Bd_in fun x13 hx13 => ?_
      · rw [hg]; simp only [apart, List.any_cons, h', Bool.true_or]
      · rw [inc_i64 (by omega)] at hx13
        subst hx13
        refine ⟨l.length - (i + 1), by omega, i + 1, rfl, rfl, by omega, ?_, h11⟩
        rw [hg]; simp only [apart, List.any_cons, h', Bool.false_or]
    · refine ⟨fun w' => Md [] w w', h4.trans (Md_drew _), hr.ix h, setV l[i].1 l[i].2.1 l[i].2.2.1 l[i].2.2.2, fun w17 h17 => (hr.md h17).ld4 h rfl, ?_⟩
      refine opAg_in ?_
      refine opI_in ?_
      refine opI_in ?_
      refine opI_in ?_
      refine opI_in ?_
      refine SzIs_in rfl ?_
      refine ⟨hr.ix h, setV l[i].1 l[i].2.1 l[i].2.2.1 l[i].2.2.2, fun w17 h17 => (hr.md h17).ld4 h rfl, ?_⟩
      refine opAg_in ?_
      refine opI_in ?_
      refine opI_in ?_
      refine opI_in ?_
      refine opI_in ?_
      refine SzIs_in rfl ?_
      have hg4 : Good [] w w4.drew := ⟨h4.trans (Md_drew _), by simp⟩
      refine in151 l[i] ha hg4 fun w41 hg41 => ⟨hg41.1, ?_⟩
      refine in151 l[i] hb hg41 fun w44 hg44 => ⟨hg44.1, Bd_in fun b46 hb46 => ⟨?_, hg44.1⟩⟩
      rw [hb46]
      congr 2
  · subst hb8
    simp only [decide_eq_false_iff_not, Int.ofNat_lt] at h
    have : l.drop i = [] := List.drop_of_length_le (by omega)
    rw [hg, this]; rfl

/-! ### The program's -/
def clOf (l : List Q4) : Cl := l.foldl Cl.parted (zCl 1)
theorem clOf_ok : ∀ (l : List Q4) (c : Cl), c.ok → (l.foldl Cl.parted c).ok
  | [], c, h => h
  | q :: l, c, h => clOf_ok l _ (h.parted q)
def ofV (c : Cl) (e : Int) : Value := .tuple #[.agg c.v, .int .i64 e]
theorem Cl.ok.cells {c : Cl} (h : c.ok) : okCells c.v.toList 257 = true := ok_cells c h.len
theorem f40_ok (fo : Fo) (sa : Option Addr) (sc : Nat) (w : World) (hr : RepF w sa 0 fo) (hl : fo.len < 2 ^ 40) (hbig : fo.size ≤ 2 ^ 39) :
    Ct Try.prog 40 #[.slice sa fo.len sc] w fun v w' => v = (if fo.right = true then ofV (clOf fo.sets) 0 else ofV (zCl 0) 2) ∧ Md [] w w' := by
  apply f40_in
  intro n1 hn1
  refine Bd_in fun x2 hx2 w3 h3 hL3 => ?_
  subst hx2
  have hz := zCl_ok (m := 0) (by omega) (by omega)
  have hn3 : n1 < w3.heap.size := hL3 _ (by simp)
  refine LoopP_in (fun m us vs w' => ∃ (i : Nat) (r : Fo), us = [.int .i64 0, .int .i64 i] ∧ vs = [.agg (zCl 0).v] ∧ m = r.len ∧ i + r.len = fo.len ∧ r.size ≤ fo.size ∧ RepF w sa i r ∧ fo.right = r.right ∧ Md [] w w' ∧ n1 < w'.heap.size)
    fo.len ⟨0, fo, rfl, by rw [zero_cl]; rfl, rfl, by omega, by omega, hr, rfl, h3, hn3⟩ ?_
  rintro m us vs w7 ⟨i, r, rfl, rfl, rfl, hi, hrs, hri, hrr, h7, hn7⟩
  refine opI_in <| opI_in <| opBig_in <| Bd_in fun b11 hb11 => If_in (fun hb => ?_) fun hb => ?_
  · subst hb11
    simp only [decide_eq_true_eq, Int.ofNat_lt] at hb
    cases r with
    | nil => simp [Fo.len] at hi; omega
    | cons k' a' b' c' d' q' r' => ?_
    obtain ⟨B, sa', sc', rfl, hc', hql, hq, hr'⟩ := hri.at
    simp only [Fo.len, Fo.size, Fo.right] at hi hrs hrr
    refine ⟨⟨by omega, by omega, rfl⟩, ?_⟩
    refine ReC.ld (hc'.md h7) ?_
    intro n26 hn26 w27 h27 hL27
    have h27' := h7.old h27 (by simpa using Nat.le_trans h7.size hn26)
    refine (f144_ok _ q' _ _ _ _ _ _ _ _ (Nat.le_refl _) (hq.md h27') hql).call hL27 ?_
    rintro v28 w29 rfl h29
    have h29' := h27'.trans h29
    have hn29 : n1 < w29.heap.size := Nat.lt_of_lt_of_le (hL27 n1 (by simp)) h29.size
    refine opB_in <| Bd_in fun b31 hb31 => If_in (fun h => ?_) fun h => Bd_in fun x36 hx36 => ?_
    · have hno : fo.right = false := by
        rw [hb31] at h
        rw [hrr]
        simp only [Bool.not_eq_true'] at h
        rw [h]; rfl
      refine RunW_in0 (build0 _) ?_
      refine opBig_in ⟨hz.size, OkC_in hz.cells <| SzIs_in hz.size fun w35 h35 hL35 => ⟨hz.size, ?_, h29'.old h35 (by simpa using hn1)⟩⟩
      simp [hno, ofV]
    · rw [inc_i64 (by omega)] at hx36
      subst hx36
      have hyes : (nodeOk k' (z4 a' b' c' d') q'.len && q'.right) = true := by rw [hb31] at h; simpa using h
      exact ⟨r'.len, by simp [Fo.len], i + 1, r', rfl, rfl, rfl, by omega, by omega, hr', by rw [hrr, hyes]; rfl, h29', hn29⟩
  · subst hb11
    simp only [decide_eq_false_iff_not, Int.ofNat_lt] at hb
    have hyes : fo.right = true := by
      cases r with
      | nil => rw [hrr]; rfl
      | cons => simp only [Fo.len] at hi; omega
    have h1 := zCl_ok (m := 1) (by omega) (by omega)
    refine RunW_in0 (build1 _) ?_
    refine opBig_in ⟨h1.size, fun n40 hn40 => OkC_in h1.cells fun w41 h41 hL41 => ?_⟩
    have h41' := h7.old h41 (by simpa using Nat.le_trans h7.size hn40)
    refine (f145_ok _ fo sa sc w41 (Nat.le_refl _) (hr.md h41') (by omega) (by omega)).call hL41 ?_
    rintro v42 w43 ⟨a44, c44, rfl, ho43⟩ h43
    have h43' := h41'.trans h43
    have hS := fo.sets_le
    refine opL_in <| Bd_in fun x47 hx47 => ?_
    subst hx47
    have hn41 : n40 < w41.heap.size := hL41 n40 (by simp)
    refine LoopP_in (fun m us vs w' => ∃ (i : Nat) (c : Cl), us = [.int .i64 i] ∧ vs = [.agg c.v] ∧ m = fo.sets.length - i ∧ i ≤ fo.sets.length ∧ c.ok ∧ clOf fo.sets = (fo.sets.drop i).foldl Cl.parted c ∧ Md [] w w' ∧ OwnS w' w41.heap.size a44 c44 fo.sets ∧ n1 < w'.heap.size ∧ n40 < w'.heap.size)
      fo.sets.length ⟨0, zCl 1, rfl, rfl, rfl, by omega, h1, by rw [List.drop_zero]; rfl, h43', ho43, Nat.lt_of_lt_of_le (hL41 n1 (by simp)) h43.size, Nat.lt_of_lt_of_le (hL41 n40 (by simp)) h43.size⟩ ?_
    rintro m us vs w51 ⟨i, c, rfl, rfl, rfl, hi, hc, hcl, h51, ho51, hn51, hn51'⟩
    refine opI_in <| opBig_in <| Bd_in fun b54 hb54 => If_in (fun hb => ?_) fun hb => ?_
    · subst hb54
      simp only [decide_eq_true_eq, Int.ofNat_lt] at hb
      refine ⟨(ho51.row enc4).ix hb, (ho51.row enc4).ld4 hb ?_⟩
      refine opI_in ?_
      refine opI_in ?_
      refine opI_in ?_
      refine opI_in ?_
      intro n63 hn63
      refine ⟨hc.size, fun w64 h64 hL64 => ?_⟩
      have h64' : Md [] w w64 := h51.old h64 (by simpa using Nat.le_trans h51.size hn63)
      have ho64 := ho51.mdN h64 (by simpa using hn63)
      refine (f146_ok c hc fo.sets[i] w64).call hL64 ?_
      rintro v65 w66 rfl h66
      have hp := hc.parted fo.sets[i]
      refine opBig_in ⟨hp.size, OkC_in hp.cells <| SzIs_in hc.size <| Bd_in fun x68 hx68 w69 h69 hL69 => ?_⟩
      rw [inc_i64 (by omega)] at hx68
      subst hx68
      refine ⟨fo.sets.length - (i + 1), by omega, i + 1, c.parted fo.sets[i], rfl, rfl, rfl, by omega, hp, ?_, ?_, ?_, hL69 n1 (by simp), hL69 n40 (by simp)⟩
      · rw [hcl, List.drop_eq_getElem_cons hb]; rfl
      · refine (h64'.trans h66).old h69 ?_
        have := h7.size
        simp; omega
      · refine (ho64.md h66).mdD h69 fun A hA => ?_
        have := (ho64.lt hA).1
        simp; omega
    · subst hb54
      simp only [decide_eq_false_iff_not, Int.ofNat_lt] at hb
      have hd : fo.sets.drop i = [] := List.drop_of_length_le (by omega)
      rw [hd] at hcl
      refine ⟨hc.size, OkC_in hc.cells <| SzIs_in hz.size fun w70 h70 hL70 => ⟨hc.size, ?_, h51.old h70 (by simpa using hn1)⟩⟩
      simp [hyes, ofV, hcl]
end Fk
