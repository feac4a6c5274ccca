/- Arguments that are rows of a disk's operations, opened. -/
import Derived.Test.YtpgjpgecgibklaaD4
import Derived.Test.YtpgjpgecgibklaaE6
set_option linter.unusedVariables false
set_option linter.unusedSimpArgs false
set_option maxRecDepth 100000
namespace Fk
open Go Go.Proofs Go.RowKit
section
variable {H : Type} {enc : TypeId × Value → H} {w : World} {base : Nat} {spare : Nat → Bool} {held : Bool} {fuel : Nat} {cs : List Value} {x : DataW H × List MemPlace}
theorem bool_cs {t : TypeId} (ht : Try.prog.underlying t = some .bool) (h : DataW.trod enc Try.prog w base spare held fuel t cs = some x) : ∃ b : Bool, cs = [.bool b] := by
  cases fuel with
  | zero => simp [DataW.trod] at h
  | succ m =>
    unfold DataW.trod at h
    rw [ht] at h
    split at h <;> simp_all
theorem six_fields {fs : Array Field} {t1 t2 t3 t4 t5 t6 : TypeId} {o1 o2 o3 o4 o5 o6 : Nat} (hF : fs.toList.map (fun f => (decide (f.name = "_"), f.type, f.offset)) = [(false, t1, o1), (false, t2, o2), (false, t3, o3), (false, t4, o4), (false, t5, o5), (false, t6, o6)]) :
    ∃ f1 f2 f3 f4 f5 f6, fs = #[f1, f2, f3, f4, f5, f6] ∧ (f1.type = t1 ∧ f1.offset = o1) ∧ (f2.type = t2 ∧ f2.offset = o2) ∧ (f3.type = t3 ∧ f3.offset = o3) ∧ (f4.type = t4 ∧ f4.offset = o4) ∧ (f5.type = t5 ∧ f5.offset = o5) ∧ (f6.type = t6 ∧ f6.offset = o6) := by
  obtain ⟨l⟩ := fs
  match l with
  | [f1, f2, f3, f4, f5, f6] =>
    simp only [List.map_cons, List.map_nil, List.cons.injEq, Prod.mk.injEq, decide_eq_false_iff_not, and_true] at hF
    exact ⟨f1, f2, f3, f4, f5, f6, rfl, hF.1.2, hF.2.1.2, hF.2.2.1.2, hF.2.2.2.1.2, hF.2.2.2.2.1.2, hF.2.2.2.2.2.2⟩
  | [] | [_] | [_, _] | [_, _, _] | [_, _, _, _] | [_, _, _, _, _] | _ :: _ :: _ :: _ :: _ :: _ :: _ :: _ => simp at hF
theorem op_cs (h : DataW.trod enc Try.prog w base spare held fuel 125 cs = some x) : ∃ o : Op20, cs = opE o ∧ o.ok := by
  have u : Try.prog.underlying 125 = some (.struct (Try.prog.fieldsOf 125)) := by kernel_rfl
  have hF : fieldsL Try.prog 125 = [(false, 5, 0), (false, 3, 1), (false, 3, 2), (false, 5, 3), (false, 5, 4), (false, 4, 5)] := by kernel_rfl
  have c3 : Try.prog.cellsOf 3 = 1 := by kernel_rfl
  have c5 : Try.prog.cellsOf 5 = 1 := by kernel_rfl
  have c4 : Try.prog.cellsOf 4 = 1 := by kernel_rfl
  have c125 : Try.prog.cellsOf 125 = 6 := by kernel_rfl
  have u3 : Try.prog.underlying 3 = some (.int .i64) := by kernel_rfl
  have u5 : Try.prog.underlying 5 = some (.int .u8) := by kernel_rfl
  have u4 : Try.prog.underlying 4 = some .bool := by kernel_rfl
  unfold fieldsL at hF
  generalize Try.prog.fieldsOf 125 = fs at u hF
  obtain ⟨xs, m, rfl, rfl, hl, hx, hi⟩ := DataW.trod_struct u h
  obtain ⟨f1, f2, f3, f4, f5, f6, rfl, ⟨e1, o1⟩, ⟨e2, o2⟩, ⟨e3, o3⟩, ⟨e4, o4⟩, ⟨e5, o5⟩, e6, o6⟩ := six_fields hF
  have hx6 : xs.length = 6 := hx
  have h0 := hi 0 f1 rfl
  have h1 := hi 1 f2 rfl
  have h2 := hi 2 f3 rfl
  have h3 := hi 3 f4 rfl
  have h4 := hi 4 f5 rfl
  have h5 := hi 5 f6 rfl
  rw [List.getElem?_eq_getElem (by omega), e1, o1, c5] at h0
  rw [List.getElem?_eq_getElem (by omega), e2, o2, c3] at h1
  rw [List.getElem?_eq_getElem (by omega), e3, o3, c3] at h2
  rw [List.getElem?_eq_getElem (by omega), e4, o4, c5] at h3
  rw [List.getElem?_eq_getElem (by omega), e5, o5, c5] at h4
  rw [List.getElem?_eq_getElem (by omega), e6, o6, c4] at h5
  obtain ⟨k, hk, hkw⟩ := int_cs u5 h0
  obtain ⟨n, hn, hnw⟩ := int_cs u3 h1
  obtain ⟨mm, hm, hmw⟩ := int_cs u3 h2
  obtain ⟨c, hc, hcw⟩ := int_cs u5 h3
  obtain ⟨ll, hll, hlw⟩ := int_cs u5 h4
  obtain ⟨ub, hu⟩ := bool_cs u4 h5
  have bk := byte_wf hkw
  have bc := byte_wf hcw
  have bl := byte_wf hlw
  have bn := i64_wf hnw
  rw [c125] at hl
  match cs, hl with
  | [v0, v1, v2, v3, v4, v5], _ =>
    simp at hk hn hm hc hll hu
    refine ⟨⟨k.toNat, n, mm, c.toNat, ll.toNat, ub⟩, ?_, ⟨bn.2, by show c.toNat < 256; omega, by show ll.toNat < 256; omega⟩⟩
    have a1 : ((k.toNat : Nat) : Int) = k := by omega
    have a2 : ((c.toNat : Nat) : Int) = c := by omega
    have a3 : ((ll.toNat : Nat) : Int) = ll := by omega
    simp only [opE, a1, a2, a3, hk, hn, hm, hc, hll, hu]
theorem ops_of {d : DataW H} {ps : List MemPlace} {a : Option Addr} {n c : Nat} (h : DataW.Trod enc Try.prog w base spare held 118 (.slice a n c) d ps) : ∃ l : List Op20, l.length = n ∧ n ≤ c ∧ n < 2 ^ 63 ∧ RowAt w a 6 opE l ∧ ∀ z ∈ l, z.ok := by
  obtain ⟨fuel, hf⟩ := h
  obtain ⟨a', c', l, he, h1, h2, h3, h4⟩ := row_cs (t := 118) (by kernel_rfl) (by kernel_rfl) encOp (fun m cs y hy => op_cs hy) hf
  have he' : [Value.slice a n c] = [.slice a' l.length c'] := he
  simp at he'
  obtain ⟨rfl, rfl, rfl⟩ := he'
  exact ⟨l, rfl, h1, h2, h3, h4⟩
end
end Fk
