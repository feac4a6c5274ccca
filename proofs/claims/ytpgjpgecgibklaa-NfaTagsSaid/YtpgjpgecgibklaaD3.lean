/- Arguments that are rows and tables, opened. -/
import Derived.Test.YtpgjpgecgibklaaD1
import Derived.Test.YtpgjpgecgibklaaC22
import Derived.Test.YtpgjpgecgibklaaC23
set_option linter.unusedVariables false
set_option linter.unusedSimpArgs false
set_option maxRecDepth 100000
namespace Fk
open Go Go.Proofs Go.RowKit
section
variable {H : Type} {enc : TypeId × Value → H} {w : World} {base : Nat} {spare : Nat → Bool} {held : Bool} {fuel : Nat} {cs : List Value} {x : DataW H × List MemPlace}
/-- A row of elements of one kind. -/
theorem row_cs {α : Type} {t e : TypeId} {size : Nat} {en : α → List Value} {Q : α → Prop} (ht : Try.prog.underlying t = some (.slice e)) (hc : Try.prog.cellsOf e = size) (he : Enc size en)
    (hel : ∀ (m : Nat) (cs : List Value) (y : DataW H × List MemPlace), DataW.trod enc Try.prog w base spare held m e cs = some y → ∃ z : α, cs = en z ∧ Q z) (h : DataW.trod enc Try.prog w base spare held fuel t cs = some x) :
    ∃ (a : Option Addr) (c : Nat) (l : List α), cs = [.slice a l.length c] ∧ l.length ≤ c ∧ l.length < 2 ^ 63 ∧ RowAt w a size en l ∧ ∀ z ∈ l, Q z := by
  rcases DataW.trod_slice ht h with ⟨rfl, _⟩ | ⟨a, len, cap, elems, rest, n, rfl, rfl, _, _, hlc, hcm, hel', hat, _⟩
  · exact ⟨none, 0, [], rfl, by simp, by simp, fun i x hx => by simp at hx, by simp⟩
  have hx : ∀ j : Fin len, ∃ z : α, Q z ∧ ∀ k u, (en z)[k]? = some u → w.cell? ((a.add (j.1 * size)).add k) = some u := by
    intro j
    have h1 := hat j.1 j.2
    rw [List.getElem?_eq_getElem (by omega), hc] at h1
    obtain ⟨cs', hcs, htr⟩ := Option.bind_eq_some_iff.1 h1
    obtain ⟨z, rfl, hq⟩ := hel n _ _ htr
    obtain ⟨_, hl, hcell⟩ := World.cells?_some hcs
    refine ⟨z, hq, fun k u hu => ?_⟩
    rw [hcell k (by have := (List.getElem?_eq_some_iff.1 hu).1; omega)]
    exact hu
  refine ⟨some a, cap, List.ofFn fun j : Fin len => Classical.choose (hx j), by simp, by simpa using hlc, ?_, ?_, ?_⟩
  · simp only [maxLen] at hcm; simp; omega
  · intro i z hz
    have hi : i < len := by have := (List.getElem?_eq_some_iff.1 hz).1; simpa using this
    rw [List.getElem?_ofFn] at hz
    simp [hi] at hz
    refine ⟨a, rfl, fun k u hu => ?_⟩
    rw [← hz] at hu
    exact (Classical.choose_spec (hx ⟨i, hi⟩)).2 k u hu
  · intro z hz
    obtain ⟨j, rfl⟩ := List.mem_ofFn.1 hz
    exact (Classical.choose_spec (hx j)).1
theorem str_cs {t : TypeId} (ht : Try.prog.underlying t = some .string) (h : DataW.trod enc Try.prog w base spare held fuel t cs = some x) : ∃ s : ByteArray, cs = [.string s] ∧ s.size ≤ maxLen := by
  cases fuel with
  | zero => simp [DataW.trod] at h
  | succ m =>
    unfold DataW.trod at h
    rw [ht] at h
    split at h <;> simp_all
theorem ints_row {t : TypeId} (ht : Try.prog.underlying t = some (.slice 3)) (h : DataW.trod enc Try.prog w base spare held fuel t cs = some x) :
    ∃ (a : Option Addr) (c : Nat) (l : List Int), cs = [.slice a l.length c] ∧ l.length ≤ c ∧ l.length < 2 ^ 63 ∧ RowAt w a 1 i1 l ∧ ∀ z ∈ l, -9223372036854775808 ≤ z ∧ z ≤ 9223372036854775807 :=
  row_cs ht (by kernel_rfl) enci1 (fun m cs y hy => by
    obtain ⟨v, rfl, hv⟩ := int_cs (k := .i64) (by kernel_rfl) hy
    exact ⟨v, rfl, i64_wf hv⟩) h
theorem strs_row {t : TypeId} (ht : Try.prog.underlying t = some (.slice 9)) (h : DataW.trod enc Try.prog w base spare held fuel t cs = some x) :
    ∃ (a : Option Addr) (c : Nat) (l : List ByteArray), cs = [.slice a l.length c] ∧ l.length ≤ c ∧ l.length < 2 ^ 63 ∧ RowAt w a 1 s1 l ∧ ∀ z ∈ l, z.size < 2 ^ 63 :=
  row_cs ht (by kernel_rfl) encs1 (fun m cs y hy => by
    obtain ⟨v, rfl, hv⟩ := str_cs (by kernel_rfl) hy
    exact ⟨v, rfl, by simp only [maxLen] at hv; omega⟩) h
theorem bytes_row {t : TypeId} (ht : Try.prog.underlying t = some (.slice 5)) (h : DataW.trod enc Try.prog w base spare held fuel t cs = some x) :
    ∃ (a : Option Addr) (c : Nat) (l : List Nat), cs = [.slice a l.length c] ∧ l.length ≤ c ∧ l.length < 2 ^ 63 ∧ RowAt w a 1 b1 l ∧ ∀ z ∈ l, z < 256 :=
  row_cs ht (by kernel_rfl) encb1 (fun m cs y hy => by
    obtain ⟨v, rfl, hv⟩ := int_cs (k := .u8) (by kernel_rfl) hy
    have := byte_wf hv
    exact ⟨v.toNat, by simp [b1]; omega, by omega⟩) h
theorem dfa_cs (h : DataW.trod enc Try.prog w base spare held fuel 54 cs = some x) : ∃ (dm : Int) (na : Option Addr) (nc : Nat) (nx : List Int) (ta : Option Addr) (tc : Nat) (tg : List Int),
    cs = [.int .i64 dm, .slice na nx.length nc, .slice ta tg.length tc] ∧ nx.length < 2 ^ 63 ∧ tg.length < 2 ^ 63 ∧ RowAt w na 1 i1 nx ∧ RowAt w ta 1 i1 tg ∧
    (-9223372036854775808 ≤ dm ∧ dm ≤ 9223372036854775807) ∧ (∀ z ∈ nx, -9223372036854775808 ≤ z ∧ z ≤ 9223372036854775807) ∧ (∀ z ∈ tg, -9223372036854775808 ≤ z ∧ z ≤ 9223372036854775807) ∧ nx.length ≤ nc ∧ tg.length ≤ tc := by
  have u : Try.prog.underlying 54 = some (.struct (Try.prog.fieldsOf 54)) := by kernel_rfl
  have hF : fieldsL Try.prog 54 = [(false, 3, 0), (false, 52, 1), (false, 52, 2)] := by kernel_rfl
  have c3 : Try.prog.cellsOf 3 = 1 := by kernel_rfl
  have c52 : Try.prog.cellsOf 52 = 1 := by kernel_rfl
  have c54 : Try.prog.cellsOf 54 = 3 := by kernel_rfl
  have u3 : Try.prog.underlying 3 = some (.int .i64) := by kernel_rfl
  have u52 : Try.prog.underlying 52 = some (.slice 3) := by kernel_rfl
  unfold fieldsL at hF
  generalize Try.prog.fieldsOf 54 = fs at u hF
  obtain ⟨xs, m, rfl, rfl, hl, hx, hi⟩ := DataW.trod_struct u h
  obtain ⟨f1, f2, f3, rfl, e1, o1, e2, o2, e3, o3⟩ := three_fields hF
  have hx3 : xs.length = 3 := hx
  have h0 := hi 0 f1 rfl
  have h1 := hi 1 f2 rfl
  have h2 := hi 2 f3 rfl
  rw [List.getElem?_eq_getElem (by omega), e1, o1, c3] at h0
  rw [List.getElem?_eq_getElem (by omega), e2, o2, c52] at h1
  rw [List.getElem?_eq_getElem (by omega), e3, o3, c52] at h2
  obtain ⟨dm, hdm, hdw⟩ := int_cs u3 h0
  obtain ⟨na, nc, nx, hnx, hnc, hnl, hnr, hnw⟩ := ints_row u52 h1
  obtain ⟨ta, tc, tg, htg, htc, htl, htr, htw⟩ := ints_row u52 h2
  rw [c54] at hl
  match cs, hl with
  | [v0, v1, v2], _ =>
    simp at hdm hnx htg
    exact ⟨dm, na, nc, nx, ta, tc, tg, by rw [hdm, hnx, htg], hnl, htl, hnr, htr, i64_wf hdw, hnw, htw, hnc, htc⟩
theorem tb_of {d : DataW H} {ps : List MemPlace} {cs : Array Value} (h : DataW.Trod enc Try.prog w base spare held 57 (.agg cs) d ps) : ∃ (t : Tb) (p : TbS), cs = t.v p ∧ TbAt w t p := by
  obtain ⟨fuel, h⟩ := h
  have e : (Value.agg cs).cells.toList = cs.toList := rfl
  rw [e] at h
  have u : Try.prog.underlying 57 = some (.struct (Try.prog.fieldsOf 57)) := by kernel_rfl
  have hF : fieldsL Try.prog 57 = [(false, 25, 0), (false, 54, 257), (false, 55, 260)] := by kernel_rfl
  have c25 : Try.prog.cellsOf 25 = 257 := by kernel_rfl
  have c54 : Try.prog.cellsOf 54 = 3 := by kernel_rfl
  have c55 : Try.prog.cellsOf 55 = 1 := by kernel_rfl
  have c57 : Try.prog.cellsOf 57 = 261 := by kernel_rfl
  have u55 : Try.prog.underlying 55 = some (.slice 9) := by kernel_rfl
  unfold fieldsL at hF
  generalize Try.prog.fieldsOf 57 = fs at u hF
  obtain ⟨xs, m, rfl, _, hl, hx, hi⟩ := DataW.trod_struct u h
  obtain ⟨f1, f2, f3, rfl, e1, o1, e2, o2, e3, o3⟩ := three_fields hF
  have hx3 : xs.length = 3 := hx
  have h0 := hi 0 f1 rfl
  have h1 := hi 1 f2 rfl
  have h2 := hi 2 f3 rfl
  rw [List.getElem?_eq_getElem (by omega), e1, o1, c25] at h0
  rw [List.getElem?_eq_getElem (by omega), e2, o2, c54] at h1
  rw [List.getElem?_eq_getElem (by omega), e3, o3, c55] at h2
  obtain ⟨c, hc, hcl⟩ := cl_cs h0
  obtain ⟨dm, na, nc, nx, ta, tc, tg, hd, hnl, htl, hnr, htr, _, _, _, _, _⟩ := dfa_cs h1
  obtain ⟨sa, sc, nm, hnm, hcap, hml, hmr, hms⟩ := strs_row u55 h2
  rw [c57] at hl
  refine ⟨⟨c, dm, nx, tg, nm⟩, ⟨na, nc, ta, tc, sa, sc⟩, Array.ext' ?_, ⟨hc, hnr, htr, hmr, hnl, htl, hml, hms, hcap⟩⟩
  show cs.toList = c.l ++ ([.int .i64 dm, .slice na nx.length nc, .slice ta tg.length tc] ++ [.slice sa nm.length sc])
  rw [← hcl, ← hd, ← hnm]
  generalize cs.toList = l at *
  have : l = l.take 257 ++ ((l.drop 257).take 3 ++ (l.drop 260).take 1) := by
    have a1 : (l.drop 260).take 1 = l.drop 260 := List.take_of_length_le (by simp; omega)
    have a2 : (l.drop 257).take 3 ++ l.drop 260 = l.drop 257 := by
      rw [show l.drop 260 = (l.drop 257).drop 3 by rw [List.drop_drop]]
      exact List.take_append_drop 3 _
    rw [a1, a2, List.take_append_drop]
  simpa using this
theorem bytes_of {d : DataW H} {ps : List MemPlace} {a : Option Addr} {n c : Nat} (h : DataW.Trod enc Try.prog w base spare held 51 (.slice a n c) d ps) : ∃ l : List Nat, l.length = n ∧ n ≤ c ∧ n < 2 ^ 63 ∧ RowAt w a 1 b1 l ∧ ∀ z ∈ l, z < 256 := by
  obtain ⟨fuel, h⟩ := h
  obtain ⟨a', c', l, he, h1, h2, h3, h4⟩ := bytes_row (by kernel_rfl : Try.prog.underlying 51 = some (.slice 5)) h
  have he' : [Value.slice a n c] = [.slice a' l.length c'] := he
  simp at he'
  obtain ⟨rfl, rfl, rfl⟩ := he'
  exact ⟨l, rfl, h1, h2, h3, h4⟩
end
end Fk
