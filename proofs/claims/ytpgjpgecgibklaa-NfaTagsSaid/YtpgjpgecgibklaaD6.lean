/- Arguments that are first machines, and strings, opened. -/
import Derived.Test.YtpgjpgecgibklaaD3
import Derived.Test.YtpgjpgecgibklaaNA
import Derived.Test.YtpgjpgecgibklaaC24
import Derived.SizedLaws
set_option linter.unusedVariables false
set_option linter.unusedSimpArgs false
set_option maxRecDepth 100000
namespace Fk
open Go Go.Proofs Go.RowKit
section
variable {H : Type} {enc : TypeId × Value → H} {w : World} {base : Nat} {spare : Nat → Bool} {held : Bool} {fuel : Nat} {cs : List Value} {x : DataW H × List MemPlace}
theorem five_fields {fs : Array Field} {t1 t2 t3 t4 t5 : TypeId} {o1 o2 o3 o4 o5 : Nat} (hF : fs.toList.map (fun f => (decide (f.name = "_"), f.type, f.offset)) = [(false, t1, o1), (false, t2, o2), (false, t3, o3), (false, t4, o4), (false, t5, o5)]) :
    ∃ f1 f2 f3 f4 f5, fs = #[f1, f2, f3, f4, f5] ∧ (f1.type = t1 ∧ f1.offset = o1) ∧ (f2.type = t2 ∧ f2.offset = o2) ∧ (f3.type = t3 ∧ f3.offset = o3) ∧ (f4.type = t4 ∧ f4.offset = o4) ∧ (f5.type = t5 ∧ f5.offset = o5) := by
  obtain ⟨l⟩ := fs
  match l with
  | [f1, f2, f3, f4, f5] =>
    simp only [List.map_cons, List.map_nil, List.cons.injEq, Prod.mk.injEq, decide_eq_false_iff_not, and_true] at hF
    exact ⟨f1, f2, f3, f4, f5, rfl, hF.1.2, hF.2.1.2, hF.2.2.1.2, hF.2.2.2.1.2, hF.2.2.2.2.2⟩
  | [] | [_] | [_, _] | [_, _, _] | [_, _, _, _] | _ :: _ :: _ :: _ :: _ :: _ :: _ => simp at hF
/-- A state's numbers are what they may be. -/
def Ns.wf (x : Ns) : Prop := 0 ≤ x.k ∧ x.k < 256
theorem ns_cs (h : DataW.trod enc Try.prog w base spare held fuel 103 cs = some x) : ∃ o : Ns, cs = nsE o ∧ o.wf := by
  have u : Try.prog.underlying 103 = some (.struct (Try.prog.fieldsOf 103)) := by kernel_rfl
  have hF : fieldsL Try.prog 103 = [(false, 5, 0), (false, 28, 1), (false, 3, 5), (false, 3, 6), (false, 3, 7)] := by kernel_rfl
  have c3 : Try.prog.cellsOf 3 = 1 := by kernel_rfl
  have c5 : Try.prog.cellsOf 5 = 1 := by kernel_rfl
  have c28 : Try.prog.cellsOf 28 = 4 := by kernel_rfl
  have c103 : Try.prog.cellsOf 103 = 8 := by kernel_rfl
  have u3 : Try.prog.underlying 3 = some (.int .i64) := by kernel_rfl
  have u5 : Try.prog.underlying 5 = some (.int .u8) := by kernel_rfl
  unfold fieldsL at hF
  generalize Try.prog.fieldsOf 103 = fs at u hF
  obtain ⟨xs, m, rfl, rfl, hl, hx, hi⟩ := DataW.trod_struct u h
  obtain ⟨f1, f2, f3, f4, f5, rfl, ⟨e1, o1⟩, ⟨e2, o2⟩, ⟨e3, o3⟩, ⟨e4, o4⟩, e5, o5⟩ := five_fields hF
  have hx5 : xs.length = 5 := hx
  have h0 := hi 0 f1 rfl
  have h1 := hi 1 f2 rfl
  have h2 := hi 2 f3 rfl
  have h3 := hi 3 f4 rfl
  have h4 := hi 4 f5 rfl
  rw [List.getElem?_eq_getElem (by omega), e1, o1, c5] at h0
  rw [List.getElem?_eq_getElem (by omega), e2, o2, c28] at h1
  rw [List.getElem?_eq_getElem (by omega), e3, o3, c3] at h2
  rw [List.getElem?_eq_getElem (by omega), e4, o4, c3] at h3
  rw [List.getElem?_eq_getElem (by omega), e5, o5, c3] at h4
  obtain ⟨k, hk, hkw⟩ := int_cs u5 h0
  obtain ⟨q, hq⟩ := words_cs h1
  obtain ⟨a, ha, _⟩ := int_cs u3 h2
  obtain ⟨b, hb, _⟩ := int_cs u3 h3
  obtain ⟨t, ht, _⟩ := int_cs u3 h4
  rw [c103] at hl
  match cs, hl with
  | [v0, v1, v2, v3, v4, v5, v6, v7], _ =>
    simp [q4] at hk hq ha hb ht
    refine ⟨⟨k, q.1, q.2.1, q.2.2.1, q.2.2.2, a, b, t⟩, ?_, byte_wf hkw⟩
    simp only [nsE, hk, hq, ha, hb, ht]
theorem nfa_cs (h : DataW.trod enc Try.prog w base spare held fuel 71 cs = some x) : ∃ (st : Int) (a : Option Addr) (c : Nat) (l : List Ns), cs = [.int .i64 st, .slice a l.length c] ∧ l.length < 2 ^ 63 ∧ RowAt w a 8 nsE l ∧ ∀ z ∈ l, z.wf := by
  have u : Try.prog.underlying 71 = some (.struct (Try.prog.fieldsOf 71)) := by kernel_rfl
  have hF : fieldsL Try.prog 71 = [(false, 3, 0), (false, 69, 1)] := by kernel_rfl
  have c3 : Try.prog.cellsOf 3 = 1 := by kernel_rfl
  have c69 : Try.prog.cellsOf 69 = 1 := by kernel_rfl
  have c71 : Try.prog.cellsOf 71 = 2 := by kernel_rfl
  have u3 : Try.prog.underlying 3 = some (.int .i64) := by kernel_rfl
  unfold fieldsL at hF
  generalize Try.prog.fieldsOf 71 = fs at u hF
  obtain ⟨xs, m, rfl, rfl, hl, hx, hi⟩ := DataW.trod_struct u h
  obtain ⟨f1, f2, rfl, _, e1, o1, _, e2, o2⟩ := two_fields hF
  have hx2 : xs.length = 2 := hx
  have h0 := hi 0 f1 rfl
  have h1 := hi 1 f2 rfl
  rw [List.getElem?_eq_getElem (by omega), e1, o1, c3] at h0
  rw [List.getElem?_eq_getElem (by omega), e2, o2, c69] at h1
  obtain ⟨st, hst, _⟩ := int_cs u3 h0
  obtain ⟨a, c, l, hll, h3, h4, h5, h6⟩ := row_cs (t := 69) (by kernel_rfl) (by kernel_rfl) encNs (fun m cs y hy => ns_cs hy) h1
  rw [c71] at hl
  match cs, hl with
  | [v0, v1], _ =>
    simp at hst hll
    exact ⟨st, a, c, l, by rw [hst, hll], h4, h5, h6⟩
theorem nfa_of {d : DataW H} {ps : List MemPlace} {cs : Array Value} (h : DataW.Trod enc Try.prog w base spare held 71 (.agg cs) d ps) : ∃ (st : Int) (a : Option Addr) (c : Nat) (l : List Ns), cs = #[.int .i64 st, .slice a l.length c] ∧ l.length < 2 ^ 63 ∧ RowAt w a 8 nsE l ∧ ∀ z ∈ l, z.wf := by
  obtain ⟨fuel, h⟩ := h
  have e : (Value.agg cs).cells.toList = cs.toList := rfl
  rw [e] at h
  obtain ⟨st, a, c, l, h1, h2⟩ := nfa_cs h
  exact ⟨st, a, c, l, Array.ext' (by simpa using h1), h2⟩
theorem str_of {d : DataW H} {ps : List MemPlace} {s : ByteArray} (h : DataW.Trod enc Try.prog w base spare held 9 (.string s) d ps) : ∃ l : List Nat, s = bytesOf l ∧ (∀ x ∈ l, x < 256) ∧ l.length < 2 ^ 63 := by
  obtain ⟨fuel, hf⟩ := h
  obtain ⟨s', h1, h2⟩ := str_cs (by kernel_rfl) hf
  have h1' : [Value.string s] = [.string s'] := h1
  simp at h1'
  subst h1'
  refine ⟨s.data.toList.map (·.toNat), ?_, ?_, ?_⟩
  · apply ByteArray.ext
    apply Array.toList_inj.1
    simp [bytesOf]
    have : (UInt8.ofNat ∘ fun x : UInt8 => x.toNat) = id := by funext x; simp
    rw [this, List.map_id]
  · intro x hx
    obtain ⟨y, _, rfl⟩ := List.mem_map.1 hx
    exact y.toNat_lt
  · rw [List.length_map]
    have e : s.data.toList.length = s.size := Array.length_toList
    simp only [maxLen] at h2
    omega
/-- How long a row of trees may be: what it holds is of bytes that memory bears. -/
theorem fo_sized {ts : List TypeId} {ds : List (DataW H)} (h : (DataW.weightsEach Try.prog ts ds).all (· ≤ reachBytes) = true) {j : Nat} (ht : ts[j]? = some 22) {d : DataW H} (hd : ds[j]? = some d) {ps : List MemPlace} {a : Option Addr} {n c : Nat} (hT : DataW.Trod enc Try.prog w base spare held 22 (.slice a n c) d ps) : n ≤ 2 ^ 41 := by
  obtain ⟨fuel, hT⟩ := hT
  rcases DataW.trod_slice (by kernel_rfl : Try.prog.underlying 22 = some (.slice 42)) hT with ⟨he, _⟩ | ⟨a', len, cap, elems, rest, m, rfl, he, hx, _, _, _, hel, _⟩
  · have he' : [Value.slice a n c] = [.slice none 0 0] := he
    simp at he'
    omega
  · have he' : [Value.slice a n c] = [.slice (some a') len cap] := he
    simp at he'
    simp only [Prod.mk.injEq] at hx
    obtain ⟨rfl, _⟩ := hx
    have := sized_slice h ht hd (by kernel_rfl : Try.prog.underlying 22 = some (.slice 42))
    have hb : Try.prog.bytesOf 42 = 64 := by kernel_rfl
    rw [hb] at this
    simp only [List.length_map, reachBytes] at this
    omega
end
end Fk
