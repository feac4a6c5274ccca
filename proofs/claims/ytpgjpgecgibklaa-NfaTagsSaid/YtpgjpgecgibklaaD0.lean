/- Arguments that are trees, sets and classes: what they hold. -/
import Derived.Test.YtpgjpgecgibklaaC10
import Derived.WalkKit
import Derived.ProofKit
import Derived.OpenShut
import Derived.ShutString
import Derived.ChangeOld
import Derived.Below
import Derived.ChangeArms
set_option linter.unusedVariables false
set_option linter.unusedSimpArgs false
set_option maxRecDepth 100000
namespace Fk
open Go Go.Proofs Go.RowKit
section
variable {H : Type} {enc : TypeId × Value → H} {P : Program} {w : World} {base : Nat} {spare : Nat → Bool} {held : Bool} {fuel : Nat} {t : TypeId} {cs : List Value} {x : DataW H × List MemPlace}
theorem int_cs {k : IntKind} (ht : P.underlying t = some (.int k)) (h : DataW.trod enc P w base spare held fuel t cs = some x) : ∃ v, cs = [.int k v] ∧ (Lit.int k v).wf = true := by
  cases fuel with
  | zero => simp [DataW.trod] at h
  | succ m =>
    unfold DataW.trod at h
    rw [ht] at h
    split at h <;> simp_all
theorem drop_one {cs : List Value} {i : Nat} {v : Value} (h : (cs.drop i).take 1 = [v]) : cs[i]? = some v := by
  rw [← List.head?_drop]
  cases hd : cs.drop i with
  | nil => rw [hd] at h; simp at h
  | cons a l => rw [hd] at h; simp at h; simp [h]
/-- An array of numbers. -/
theorem ints_cs {n : Nat} {e : TypeId} {k : IntKind} (ht : P.underlying t = some (.array n e)) (he : P.underlying e = some (.int k)) (hc : P.cellsOf e = 1) (hn : P.cellsOf t = n) (h : DataW.trod enc P w base spare held fuel t cs = some x) :
    cs.length = n ∧ ∀ i, i < n → ∃ v, cs[i]? = some (.int k v) ∧ (Lit.int k v).wf = true := by
  obtain ⟨xs, m, rfl, rfl, hl, hx, hi⟩ := DataW.trod_array ht h
  refine ⟨by rw [hl, hn], fun i hlt => ?_⟩
  have h1 := hi i hlt
  rw [List.getElem?_eq_getElem (by omega), hc, Nat.mul_one] at h1
  obtain ⟨v, hv, hw⟩ := int_cs he h1
  exact ⟨v, drop_one hv, hw⟩
end
theorem words_cs {H : Type} {enc : TypeId × Value → H} {w : World} {base : Nat} {spare : Nat → Bool} {held : Bool} {fuel : Nat} {cs : List Value} {x : DataW H × List MemPlace}
    (h : DataW.trod enc Try.prog w base spare held fuel 28 cs = some x) : ∃ q : Q4, cs = q4 q := by
  obtain ⟨hl, hi⟩ := ints_cs (t := 28) (n := 4) (e := 26) (k := .u64) (by kernel_rfl) (by kernel_rfl) (by kernel_rfl) (by kernel_rfl) h
  obtain ⟨a, ha, _⟩ := hi 0 (by omega)
  obtain ⟨b, hb, _⟩ := hi 1 (by omega)
  obtain ⟨c, hc, _⟩ := hi 2 (by omega)
  obtain ⟨d, hd, _⟩ := hi 3 (by omega)
  match cs, hl with
  | [v0, v1, v2, v3], _ =>
    simp at ha hb hc hd
    exact ⟨(a, b, c, d), by simp [q4, ha, hb, hc, hd]⟩
theorem three_fields {fs : Array Field} {t1 t2 t3 : TypeId} {o1 o2 o3 : Nat} (hF : fs.toList.map (fun f => (decide (f.name = "_"), f.type, f.offset)) = [(false, t1, o1), (false, t2, o2), (false, t3, o3)]) :
    ∃ f1 f2 f3, fs = #[f1, f2, f3] ∧ f1.type = t1 ∧ f1.offset = o1 ∧ f2.type = t2 ∧ f2.offset = o2 ∧ f3.type = t3 ∧ f3.offset = o3 := by
  obtain ⟨l⟩ := fs
  match l with
  | [] => simp at hF
  | [f1] => simp at hF
  | [f1, f2] => simp at hF
  | [f1, f2, f3] =>
    simp only [List.map_cons, List.map_nil, List.cons.injEq, Prod.mk.injEq, decide_eq_false_iff_not, and_true] at hF
    exact ⟨f1, f2, f3, rfl, hF.1.2.1, hF.1.2.2, hF.2.1.2.1, hF.2.1.2.2, hF.2.2.2.1, hF.2.2.2.2⟩
  | f1 :: f2 :: f3 :: f4 :: l => simp at hF
theorem elem_cs {H : Type} {enc : TypeId × Value → H} {w : World} {base : Nat} {spare : Nat → Bool} {held : Bool} {fuel : Nat} {cs : List Value} {x : DataW H × List MemPlace}
    (h : DataW.trod enc Try.prog w base spare held fuel 42 cs = some x) : ∃ (k : Int) (q : Q4) (l : List Value) (m : Nat) (y : DataW H × List MemPlace), cs = .int .u8 k :: (q4 q ++ l) ∧ l.length = 1 ∧ fuel = m + 1 ∧ DataW.trod enc Try.prog w base spare held m 22 l = some y := by
  have u : Try.prog.underlying 42 = some (.struct (Try.prog.fieldsOf 42)) := by kernel_rfl
  have hF : fieldsL Try.prog 42 = [(false, 5, 0), (false, 28, 1), (false, 22, 5)] := by kernel_rfl
  have c5 : Try.prog.cellsOf 5 = 1 := by kernel_rfl
  have c28 : Try.prog.cellsOf 28 = 4 := by kernel_rfl
  have c22 : Try.prog.cellsOf 22 = 1 := by kernel_rfl
  have c42 : Try.prog.cellsOf 42 = 6 := by kernel_rfl
  have u5 : Try.prog.underlying 5 = some (.int .u8) := by kernel_rfl
  unfold fieldsL at hF
  generalize Try.prog.fieldsOf 42 = fs at u hF
  obtain ⟨xs, m, rfl, rfl, hl, hx, hi⟩ := DataW.trod_struct u h
  obtain ⟨f1, f2, f3, rfl, e1, o1, e2, o2, e3, o3⟩ := three_fields hF
  have hx3 : xs.length = 3 := hx
  have h0 := hi 0 f1 rfl
  have h1 := hi 1 f2 rfl
  have h2 := hi 2 f3 rfl
  rw [List.getElem?_eq_getElem (by omega), e1, o1, c5] at h0
  rw [List.getElem?_eq_getElem (by omega), e2, o2, c28] at h1
  rw [List.getElem?_eq_getElem (by omega), e3, o3, c22] at h2
  obtain ⟨k, hk, _⟩ := int_cs u5 h0
  obtain ⟨q, hq⟩ := words_cs h1
  rw [c42] at hl
  match cs, hl with
  | [v0, v1, v2, v3, v4, v5], _ =>
    simp at hk hq h2
    refine ⟨k, q, [v5], m, _, ?_, rfl, rfl, h2⟩
    rw [hk, ← hq]; rfl

theorem open_fo {H : Type} {enc : TypeId × Value → H} {w : World} {base : Nat} {spare : Nat → Bool} {held : Bool} : ∀ (fuel : Nat) {cs : List Value} {x : DataW H × List MemPlace},
    DataW.trod enc Try.prog w base spare held fuel 22 cs = some x → ∃ (a : Option Addr) (n c : Nat) (fo : Fo), cs = [.slice a n c] ∧ fo.len = n ∧ n < 2 ^ 63 ∧ RepF w a 0 fo := by
  intro fuel
  induction fuel using Nat.strongRecOn with
  | ind fuel ih =>
    intro cs x h
    rcases DataW.trod_slice (by kernel_rfl : Try.prog.underlying 22 = some (.slice 42)) h with ⟨rfl, _⟩ | ⟨a, len, cap, elems, rest, n, rfl, rfl, _, _, hlc, hcm, hel, hat, _⟩
    · exact ⟨none, 0, 0, .nil, rfl, rfl, by omega, trivial⟩
    have c42 : Try.prog.cellsOf 42 = 6 := by kernel_rfl
    have hfo : ∀ j, j ≤ len → ∃ fo : Fo, fo.len = j ∧ RepF w (some a) (len - j) fo := by
      intro j
      induction j with
      | zero => exact fun _ => ⟨.nil, rfl, trivial⟩
      | succ j ihj =>
        intro hj
        obtain ⟨fo, hfl, hfr⟩ := ihj (by omega)
        have h1 := hat (len - (j + 1)) (by omega)
        rw [List.getElem?_eq_getElem (by omega), c42] at h1
        obtain ⟨cs', hcs, ht⟩ := Option.bind_eq_some_iff.1 h1
        obtain ⟨k, q, l, m, y, rfl, hl1, rfl, hk⟩ := elem_cs ht
        obtain ⟨sa, sn, sc, kids, rfl, hkl, hkn, hkr⟩ := ih m (by omega) hk
        obtain ⟨_, _, hcell⟩ := World.cells?_some hcs
        refine ⟨.cons k q.1 q.2.1 q.2.2.1 q.2.2.2 kids fo, by simp [Fo.len, hfl], ?_⟩
        simp only [RepF]
        refine ⟨⟨a, sa, sc, rfl, ⟨hcell 0 (by omega), hcell 1 (by omega), hcell 2 (by omega), hcell 3 (by omega), hcell 4 (by omega), ?_⟩, by omega, hkr⟩, ?_⟩
        · rw [hkl]; exact hcell 5 (by omega)
        · rw [show len - (j + 1) + 1 = len - j by omega]; exact hfr
    obtain ⟨fo, h1, h2⟩ := hfo len (Nat.le_refl _)
    rw [Nat.sub_self] at h2
    exact ⟨some a, len, cap, fo, rfl, h1, by simp only [maxLen] at hcm; omega, h2⟩
theorem byte_wf {v : Int} (h : (Lit.int .u8 v).wf = true) : 0 ≤ v ∧ v < 256 := by
  simp [Lit.wf, IntKind.min, IntKind.max, IntKind.signed, IntKind.bits] at h
  omega
theorem i64_wf {v : Int} (h : (Lit.int .i64 v).wf = true) : -9223372036854775808 ≤ v ∧ v ≤ 9223372036854775807 := by
  simp [Lit.wf, IntKind.min, IntKind.max, IntKind.signed, IntKind.bits] at h
  omega
theorem cl_cs {H : Type} {enc : TypeId × Value → H} {w : World} {base : Nat} {spare : Nat → Bool} {held : Bool} {fuel : Nat} {cs : List Value} {x : DataW H × List MemPlace}
    (h : DataW.trod enc Try.prog w base spare held fuel 25 cs = some x) : ∃ c : Cl, c.ok ∧ cs = c.l := by
  have u : Try.prog.underlying 25 = some (.struct (Try.prog.fieldsOf 25)) := by kernel_rfl
  have hF : fieldsL Try.prog 25 = [(false, 23, 0), (false, 3, 256)] := by kernel_rfl
  have c23 : Try.prog.cellsOf 23 = 256 := by kernel_rfl
  have c3 : Try.prog.cellsOf 3 = 1 := by kernel_rfl
  have c25 : Try.prog.cellsOf 25 = 257 := by kernel_rfl
  have u3 : Try.prog.underlying 3 = some (.int .i64) := by kernel_rfl
  unfold fieldsL at hF
  generalize Try.prog.fieldsOf 25 = fs at u hF
  obtain ⟨xs, m, rfl, rfl, hl, hx, hi⟩ := DataW.trod_struct u h
  obtain ⟨f1, f2, rfl, _, e1, o1, _, e2, o2⟩ := two_fields hF
  have hx2 : xs.length = 2 := hx
  have h0 := hi 0 f1 rfl
  have h1 := hi 1 f2 rfl
  rw [List.getElem?_eq_getElem (by omega), e1, o1, c23] at h0
  rw [List.getElem?_eq_getElem (by omega), e2, o2, c3] at h1
  rw [c25] at hl
  obtain ⟨mv, hm, hmw⟩ := int_cs u3 h1
  obtain ⟨hlen, hb⟩ := ints_cs (t := 23) (n := 256) (e := 5) (k := .u8) (by kernel_rfl) (by kernel_rfl) (by kernel_rfl) (by kernel_rfl) h0
  rw [List.drop_zero] at hb hlen
  have hmw' := i64_wf hmw
  let f : List Nat := (List.range 256).map fun i => match cs[i]? with | some (Value.int _ v) => v.toNat | _ => 0
  have hf : ∀ i, i < 256 → ∃ v : Int, cs[i]? = some (.int .u8 v) ∧ 0 ≤ v ∧ v < 256 := by
    intro i hi
    obtain ⟨v, hv, hw⟩ := hb i hi
    rw [List.getElem?_take, if_pos hi] at hv
    exact ⟨v, hv, byte_wf hw⟩
  have hfl : f.length = 256 := by simp [f]
  have hfi : ∀ i (h : i < f.length), ∃ v : Int, cs[i]? = some (.int .u8 v) ∧ (f[i] : Int) = v ∧ v < 256 := by
    intro i h
    obtain ⟨v, hv, h1, h2⟩ := hf i (by omega)
    refine ⟨v, hv, ?_, h2⟩
    simp only [f, List.getElem_map, List.getElem_range, hv]
    omega
  refine ⟨⟨f, mv⟩, ⟨hfl, fun i h => ?_, hmw'.1, hmw'.2⟩, ?_⟩
  · obtain ⟨v, _, h1, h2⟩ := hfi i h
    show f[i] < 256
    omega
  · apply List.ext_getElem?
    intro i
    simp only [Cl.l]
    rcases Nat.lt_or_ge i 256 with h | h
    · obtain ⟨v, hv, h1, _⟩ := hfi i (by omega)
      rw [List.getElem?_append_left (by simp; omega), hv, List.getElem?_map, List.getElem?_eq_getElem (by omega), Option.map_some, h1]
    · rw [List.getElem?_append_right (by simp; omega)]
      simp only [List.length_map, hfl]
      rcases Nat.eq_or_lt_of_le h with h | h
      · subst h; simpa using drop_one hm
      · rw [List.getElem?_eq_none (by omega), List.getElem?_eq_none (by simp; omega)]
theorem below_of {w w' : World} (h : Md [] w w') : Below w.heap.size w w' :=
  ⟨h.os, h.tape, h.output, h.size, fun k hk => h.blk k hk (by simp)⟩
end Fk
