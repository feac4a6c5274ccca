/- Rows of one's own: lists that are made, and appended to. -/
import Derived.Test.YtpgjpgecgibklaaT1
import Derived.ArgAppend
import Derived.KernelRfl
set_option linter.unusedVariables false
namespace Fk
open Go Go.Proofs Go.RowKit
/-- A type of slices, of elements of so many cells and bytes. -/
structure RowT (P : Program) (t e : TypeId) (size bytes : Nat) : Prop where
  ht : P.underlying t = some (.slice e)
  hi : ∃ i z, P.info? e = some i ∧ i.zero = some z ∧ i.size = size ∧ i.bytes = bytes ∧ z.cells.size = size
  pos : 0 < size
theorem RowT.of {P : Program} {t e : TypeId} {size bytes : Nat} (h1 : P.underlying t = some (.slice e)) (h2 : (P.info? e).map (fun i => (i.size, i.bytes)) = some (size, bytes))
    (h3 : ((P.info? e).bind (·.zero)).map (·.cells.size) = some size) (h4 : 0 < size) : RowT P t e size bytes := by
  refine ⟨h1, ?_, h4⟩
  cases hi : P.info? e with
  | none => simp [hi] at h2
  | some i =>
    simp only [hi, Option.map_some, Option.some.injEq, Prod.mk.injEq, Option.bind_some] at h2 h3
    cases hz : i.zero with
    | none => simp [hz] at h3
    | some z => simp only [hz, Option.map_some, Option.some.injEq] at h3; exact ⟨i, z, rfl, hz, h2.1, h2.2, h3⟩
/-- A way to lay out elements. -/
structure Enc {α : Type} (size : Nat) (enc : α → List Value) : Prop where
  len : ∀ x, (enc x).length = size
  one : ∀ x, ∀ v ∈ enc x, v.oneCell' = true
theorem Enc.lenL {α : Type} {size : Nat} {enc : α → List Value} (h : Enc size enc) : ∀ l : List α, (l.flatMap enc).length = l.length * size
  | [] => by simp
  | x :: l => by rw [List.flatMap_cons, List.length_append, h.len, h.lenL l, List.length_cons, Nat.succ_mul]; omega
theorem Enc.oneL {α : Type} {size : Nat} {enc : α → List Value} (h : Enc size enc) (l : List α) : ∀ v ∈ l.flatMap enc, v.oneCell' = true := by
  intro v hv
  obtain ⟨x, _, hx⟩ := List.mem_flatMap.1 hv
  exact h.one x v hx
theorem Enc.at {α : Type} {size : Nat} {enc : α → List Value} (h : Enc size enc) : ∀ (l : List α) (i j : Nat) (x : α), l[i]? = some x → j < size → (l.flatMap enc)[i * size + j]? = (enc x)[j]?
  | [], i, j, x, hx, hj => by simp at hx
  | y :: l, 0, j, x, hx, hj => by
    simp at hx; subst hx
    rw [List.flatMap_cons, Nat.zero_mul, Nat.zero_add, List.getElem?_append_left (by rw [h.len]; exact hj)]
  | y :: l, i + 1, j, x, hx, hj => by
    simp at hx
    rw [List.flatMap_cons, Nat.succ_mul, List.getElem?_append_right (by rw [h.len]; omega), h.len, show i * size + size + j - size = i * size + j by omega]
    exact h.at l i j x hx hj
/-- A row of one's own: no older than 'base'. -/
def OwnL {α : Type} (w : World) (base : Nat) (e : TypeId) (size : Nat) (enc : α → List Value) (a : Option Addr) (c : Nat) (l : List α) : Prop :=
  w.ownsRow base e size (.slice a l.length c) l.length (l.flatMap enc)
theorem Md_of_grown {w w' : World} {row : Option Nat} (h : w.grownBy w' row) : Md row.toList w w' :=
  ⟨h.os, h.tape, h.output, h.size, fun k hk hm => h.block k hk fun e => hm (by rw [← e]; simp)⟩
section
variable {α : Type} {w w' : World} {base : Nat} {e : TypeId} {size : Nat} {enc : α → List Value} {a : Option Addr} {c : Nat} {l : List α}
theorem OwnL.nil (w : World) (base : Nat) (e : TypeId) (size : Nat) (enc : α → List Value) : OwnL w base e size enc none 0 [] := World.ownsRow_nil w base e size
theorem OwnL.lt (h : OwnL w base e size enc a c l) {A : Addr} (ha : a = some A) : base ≤ A.block ∧ A.block < w.heap.size := World.ownsRow.lt h A.block (by subst ha; rfl)
theorem OwnL.mdD {D : List Nat} (h : OwnL w base e size enc a c l) (hm : Md D w w') (hD : ∀ A, a = some A → A.block ∉ D) : OwnL w' base e size enc a c l := by
  refine ⟨h.1, ?_⟩
  rcases h.2 with hn | ⟨g, cap, cur, hv, hb, hg, rest⟩
  · exact .inl hn
  · refine .inr ⟨g, cap, cur, hv, hb, ?_, rest⟩
    simp only [Value.slice.injEq] at hv
    rw [hm.blk g (Array.getElem?_eq_some_iff.1 hg).1 (hD _ hv.1)]
    exact hg
theorem OwnL.md (h : OwnL w base e size enc a c l) (hm : Md [] w w') : OwnL w' base e size enc a c l := h.mdD hm (by simp)
/-- What is made anew elsewhere leaves it. -/
theorem OwnL.mdN {D : List Nat} (h : OwnL w base e size enc a c l) (hm : Md D w w') (hD : ∀ d ∈ D, w.heap.size ≤ d) : OwnL w' base e size enc a c l := h.md (hm.fresh hD)
theorem OwnL.down {b : Nat} (h : OwnL w base e size enc a c l) (hb : b ≤ base) : OwnL w b e size enc a c l := by
  refine ⟨h.1, ?_⟩
  rcases h.2 with hn | ⟨g, cap, cur, hv, hb', rest⟩
  · exact .inl hn
  · exact .inr ⟨g, cap, cur, hv, Nat.le_trans hb hb', rest⟩
/-- Its cells. -/
theorem OwnL.cells (h : OwnL w base e size enc a c l) : ∀ j u, (l.flatMap enc)[j]? = some u → ∃ A, a = some A ∧ w.cell? (A.add j) = some u := by
  intro j u hu
  rcases h.2 with ⟨hv, hn⟩ | ⟨g, cap, cur, hv, _⟩
  · have hl : l = [] := List.eq_nil_of_length_eq_zero hn
    subst hl; simp at hu
  · simp only [Value.slice.injEq] at hv
    refine ⟨⟨g, 0, none⟩, hv.1, ?_⟩
    exact World.ownsRow.cells h (by rw [hv.1]; rfl) j u hu
theorem OwnL.at (h : OwnL w base e size enc a c l) (he : Enc size enc) {i : Nat} {x : α} (hx : l[i]? = some x) :
    ∃ A, a = some A ∧ ∀ j u, (enc x)[j]? = some u → w.cell? ((A.add (i * size)).add j) = some u := by
  rcases h.2 with ⟨hv, hn⟩ | ⟨g, cap, cur, hv, _⟩
  · have hl : l = [] := List.eq_nil_of_length_eq_zero hn
    subst hl; simp at hx
  · simp only [Value.slice.injEq] at hv
    refine ⟨⟨g, 0, none⟩, hv.1, fun j u hu => ?_⟩
    have hj : j < size := by rw [← he.len x]; exact (List.getElem?_eq_some_iff.1 hu).1
    have h1 := World.ownsRow.cells h (g := g) (by rw [hv.1]; rfl) (i * size + j) u (by rw [he.at l i j x hx hj]; exact hu)
    simp only [Addr.add_lit, Nat.zero_add] at h1 ⊢
    exact h1
theorem OwnL.lit {P : Program} (he : Enc size enc) (w : World) (e : TypeId) (l : List α) (cs : Array Value) (hb : base ≤ w.heap.size) (hm : l.length ≤ maxLen) (hs : cs.toList = l.flatMap enc) :
    OwnL (w.alloc (.cells cs e)) base e size enc (some ⟨w.heap.size, 0, none⟩) l.length l := by
  have h := World.ownsRow_lit (w := w) (e := e) (size := size) cs l.length hb hm (by rw [← Array.length_toList, hs, he.lenL])
  unfold OwnL
  rw [← hs]
  exact h
end
theorem own_slice {w : World} {base : Nat} {e : TypeId} {size : Nat} {v : Value} {n : Nat} {xs : List Value} (h : w.ownsRow base e size v n xs) : ∃ a c, v = .slice a n c := by
  rcases h.2 with ⟨rfl, hn0⟩ | ⟨g', cap', cur', rfl, _⟩
  · exact ⟨none, 0, by rw [hn0]⟩
  · exact ⟨_, _, rfl⟩
theorem own_blk {w : World} {base : Nat} {e : TypeId} {size : Nat} {a : Option Addr} {m c : Nat} {n : Nat} {xs : List Value} (h : w.ownsRow base e size (.slice a m c) n xs) : ∀ A, a = some A → base ≤ A.block :=
  fun A hA => (World.ownsRow.lt h A.block (by subst hA; rfl)).1
/-- The append itself. -/
theorem run_app {P : Program} {t ty e : TypeId} {size bytes : Nat} (T : RowT P t e size bytes) {w : World} {base : Nat} {a : Option Addr} {n c : Nat} {xs : List Value} (h : w.ownsRow base e size (.slice a n c) n xs)
    (A2 : Addr) (m c2 : Nat) (news : List Value) (hl : news.length = m * size) (hnews : ∀ j u, news[j]? = some u → w.cell? (A2.add j) = some u) (h1 : ∀ u ∈ news, u.oneCell' = true)
    (hn : n + m ≤ maxLen) (hby : (n + m) * bytes ≤ 140737488355328) (hb : base ≤ w.heap.size) :
    ∃ a' c' w', (Builtin.append_ #[t, t] ty #[.slice a n c, .slice (some A2) m c2]).run P w = .ok (.slice a' (n + m) c') w' ∧ w'.ownsRow base e size (.slice a' (n + m) c') (n + m) (xs ++ news) ∧
      Md (a.map (·.block)).toList w w' ∧ (∀ A, a' = some A → a = some A ∨ w.heap.size ≤ A.block) := by
  obtain ⟨i, z, hi, hz, hs, hy, hzs⟩ := T.hi
  have dn : ∀ {w' : World} {v : Value} {k : Nat} {ys : List Value}, w'.ownsRow w.heap.size e size v k ys → w'.ownsRow base e size v k ys := by
    intro w' v k ys h
    refine ⟨h.1, ?_⟩
    rcases h.2 with hn | ⟨g, cap, cur, hv, hb', rest⟩
    · exact .inl hn
    · exact .inr ⟨g, cap, cur, hv, Nat.le_trans hb hb', rest⟩
  rcases h.2 with ⟨hv, hn0⟩ | ⟨g, cap, cur, hv, hbg, hg, hnc, hrest⟩
  · simp only [Value.slice.injEq] at hv
    obtain ⟨rfl, _, rfl⟩ := hv
    subst hn0
    have hx : xs = [] := List.eq_nil_of_length_eq_zero (by simpa using h.1)
    subst hx
    obtain ⟨v', w', hr, ho, hgr, _⟩ := run_append_own (P := P) w (ty := ty) w.heap.size t e i z size bytes T.ht hi hz hs hy hzs T.pos _ 0 [] (World.ownsRow_nil w _ e size) A2 m c2 news hl hnews h1 hn hby (Nat.le_refl _)
    obtain ⟨a', c', rfl⟩ := own_slice ho
    exact ⟨a', c', w', hr, dn ho, Md_of_grown hgr, fun A hA => .inr (own_blk ho A hA)⟩
  · simp only [Value.slice.injEq] at hv
    obtain ⟨rfl, _, rfl⟩ := hv
    by_cases hroom : n + m ≤ c
    · obtain ⟨w', hr, ho, hgr⟩ := run_append_fits (P := P) w (ty := ty) base t e i size T.ht hi hs g n c xs h A2 m c2 news hl hnews h1 hroom
      exact ⟨_, _, w', hr, ho, Md_of_grown hgr, fun A hA => .inl hA⟩
    · have hsz : 0 < size := T.pos
      obtain ⟨v', w', hr, ho, hgr⟩ := run_append_arg_grows (P := P) w (ty := ty) t e i z size bytes T.ht hi hz hs hy hzs T.pos ⟨g, 0, none⟩ n c xs h.1 (World.ownsRow.cells h rfl) A2 m c2 news hl hnews (by omega) hn hby
      obtain ⟨a', c', rfl⟩ := own_slice ho
      exact ⟨a', c', w', hr, dn ho, (Md_of_grown hgr).mono (by simp), fun A hA => .inr (own_blk ho A hA)⟩
/-- Behind a row of one's own comes what another one has. -/
theorem app_own {α : Type} {P : Program} {t ty e : TypeId} {size bytes : Nat} (T : RowT P t e size bytes) {enc : α → List Value} (he : Enc size enc) {w : World} {base base2 : Nat} {a a2 : Option Addr} {c c2 : Nat} {l l2 : List α} {L : List Nat}
    (h : OwnL w base e size enc a c l) (h2 : OwnL w base2 e size enc a2 c2 l2) (hb : base ≤ w.heap.size) (hL : ∀ b ∈ L, b < w.heap.size) (hLa : ∀ b ∈ L, ∀ A, a = some A → A.block ≠ b)
    (hn : l.length + l2.length ≤ maxLen) (hby : (l.length + l2.length) * bytes ≤ 140737488355328) {K : Value → World → Prop}
    (k : ∀ (a' : Option Addr) (c' : Nat) (w' : World), OwnL w' base e size enc a' c' (l ++ l2) → Md (a.map (·.block)).toList w w' → (∀ A, a' = some A → a = some A ∨ w.heap.size ≤ A.block) → K (.slice a' (l ++ l2).length c') w') :
    RunW P L (Builtin.append_ #[t, t] ty #[.slice a l.length c, .slice a2 l2.length c2]) K w := by
  rcases h2.2 with ⟨hv, hn0⟩ | ⟨g, cap, cur, hv, _⟩
  · have hl : l2 = [] := List.eq_nil_of_length_eq_zero hn0
    subst hl
    obtain ⟨i, z, hi, hz, hs, hy, hzs⟩ := T.hi
    have := run_append_owned_none (P := P) w (ty := ty) base t e i size T.ht hi _ _ _ h
    rw [hv]
    refine RunW_in0 this ?_
    have hk := k a c w (by simpa using h) (Md.refl _ _) (fun A hA => .inl hA)
    simpa using hk
  · simp only [Value.slice.injEq] at hv
    obtain ⟨rfl, _, rfl⟩ := hv
    obtain ⟨a', c', w', hr, ho, hm, hA⟩ := run_app (ty := ty) T h ⟨g, 0, none⟩ l2.length c2 (l2.flatMap enc) (he.lenL l2) (World.ownsRow.cells h2 rfl) (he.oneL l2) hn hby hb
    refine RunW_in hr (fun b hbL => hm.blk b (hL b hbL) fun hmem => ?_) ?_
    · cases a with
      | none => simp at hmem
      | some A => simp at hmem; exact hLa b hbL A rfl hmem.symm
    · have := k a' c' w' (by unfold OwnL; rw [List.flatMap_append, List.length_append]; exact ho) hm hA
      rwa [List.length_append] at this
/-- One element more, from where it has just been laid. -/
theorem app_one {α : Type} {P : Program} {t ty e : TypeId} {size bytes : Nat} (T : RowT P t e size bytes) {enc : α → List Value} (he : Enc size enc) {w : World} {base : Nat} {a : Option Addr} {c : Nat} {l : List α} {L : List Nat} {cs : Array Value} (x : α) (hcs : cs.toList = enc x)
    (h : OwnL w base e size enc a c l) (hb : base ≤ w.heap.size) (hL : ∀ b ∈ L, b < w.heap.size) (hLa : ∀ b ∈ L, ∀ A, a = some A → A.block ≠ b)
    (hn : l.length + 1 ≤ maxLen) (hby : (l.length + 1) * bytes ≤ 140737488355328) {K : Value → World → Prop}
    (k : ∀ (a' : Option Addr) (c' : Nat) (w' : World), OwnL w' base e size enc a' c' (l ++ [x]) → Md (a.map (·.block)).toList w w' → (∀ A, a' = some A → a = some A ∨ w.heap.size ≤ A.block) → K (.slice a' (l ++ [x]).length c') w') :
    Nw (.cells cs e) w fun b w' => RunW P L (Builtin.append_ #[t, t] ty #[.slice a l.length c, .slice (some { block := b, off := 0 }) 1 1]) K w' := by
  intro b w1 eb e1
  subst eb; subst e1
  have h2 := OwnL.lit (P := P) (base := w.heap.size) he w e [x] cs (Nat.le_refl _) (by simp [maxLen]) (by simpa using hcs)
  have hs : w.heap.size ≤ (w.alloc (.cells cs e)).heap.size := by simp
  refine app_own T he (h.md (Md.alloc w _)) h2 (Nat.le_trans hb hs) (fun b hbL => Nat.lt_of_lt_of_le (hL b hbL) hs) hLa hn hby fun a' c' w' ho hm hA => k a' c' w' ho ?_ fun A hA' => (hA A hA').imp id (Nat.le_trans hs)
  exact (Md.alloc w _).trans hm
/-! ### Rows of sets -/
abbrev Q4 := Int × Int × Int × Int
def q4 (q : Q4) : List Value := [.int .u64 q.1, .int .u64 q.2.1, .int .u64 q.2.2.1, .int .u64 q.2.2.2]
theorem enc4 : Enc 4 q4 := ⟨fun _ => rfl, by intro x v hv; simp [q4] at hv; rcases hv with rfl | rfl | rfl | rfl <;> rfl⟩
theorem rowT43 : RowT Try.prog 43 28 4 32 := RowT.of (by kernel_rfl) (by kernel_rfl) (by kernel_rfl) (by omega)
abbrev OwnS (w : World) (base : Nat) (a : Option Addr) (c : Nat) (l : List Q4) : Prop := OwnL w base 28 4 q4 a c l
end Fk
