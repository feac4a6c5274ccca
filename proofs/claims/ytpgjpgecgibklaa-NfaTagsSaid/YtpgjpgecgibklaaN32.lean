/- First machines: the tag is the place of the first tree that has the text (NfaTags). -/
import Derived.Test.YtpgjpgecgibklaaN31
import Derived.Test.YtpgjpgecgibklaaN33
import Derived.Test.YtpgjpgecgibklaaN23
import Derived.Test.YtpgjpgecgibklaaV25
set_option linter.unusedVariables false
set_option linter.unusedSimpArgs false
set_option maxRecDepth 100000
set_option maxHeartbeats 2000000
namespace Fk
open Go Go.Proofs Go.RowKit
/-- Rows of different kinds stand in blocks of their own. -/
theorem own_apt {α β : Type} {w : World} {b1 b2 : Nat} {e1 e2 : TypeId} {s1 s2 : Nat} {enc1 : α → List Value} {enc2 : β → List Value} {a b : Option Addr} {c d : Nat} {l : List α} {m : List β} (h1 : OwnL w b1 e1 s1 enc1 a c l) (h2 : OwnL w b2 e2 s2 enc2 b d m) (hne : e1 ≠ e2) : Apt a b := by
  intro A B hA hB e
  rcases h1.2 with ⟨hv, _⟩ | ⟨g, cap, cur, hv, _, hg, _⟩
  · subst hA; simp at hv
  rcases h2.2 with ⟨hv2, _⟩ | ⟨g2, cap2, cur2, hv2, _, hg2, _⟩
  · subst hB; simp at hv2
  simp only [Value.slice.injEq] at hv hv2
  rw [hA] at hv
  rw [hB] at hv2
  have x1 : A = ⟨g, 0, none⟩ := by have := hv.1; injection this
  have x2 : B = ⟨g2, 0, none⟩ := by have := hv2.1; injection this
  subst x1; subst x2
  have e : g = g2 := e
  subst e
  rw [hg] at hg2
  injection hg2 with hg2
  injection hg2 with _ h
  exact hne h
theorem rgV {L : List Nat} {w0 w : World} {K : Nat → World → Prop} (h : Good L w0 w) (k : ∀ n w', w.heap.size ≤ n → Good (n :: L) w0 w' → Md [] w w' → K n w') : Rg w fun n => Up [n] (n :: L) w (K n) :=
  fun n hn w' hm hL => k n w' hn ⟨h.1.trans (hm.fresh (by simp; exact hn)), hL⟩ (hm.fresh (by simp; exact hn))
structure Rl where
  a : Option Addr
  c : Nat
  R : List Nat
def rlE (p : Rl) : List Value := [.slice p.a p.R.length p.c]
theorem encrl : Enc 1 rlE := ⟨fun _ => rfl, by intro x v hv; simp [rlE] at hv; subst hv; rfl⟩
theorem rowT93 : RowT Try.prog 93 84 1 24 := RowT.of (by kernel_rfl) (by kernel_rfl) (by kernel_rfl) (by omega)
theorem seg_take (t : List Nat) (i : Nat) : seg t 0 i = t.take i := by unfold seg; simp
theorem f14_ok (f : Fo) (A : Option Addr) (C : Nat) (s : List Nat) (hs : ∀ x ∈ s, x < 256) (w : World) (hr : RepF w A 0 f) (hl : f.len ≤ 2 ^ 41) :
    Ct Try.prog 14 #[.slice A f.len C, .string (bytesOf s)] w fun v w' => v = .bool true ∧ Md [] w w' := by
  apply f14_in
  have g0 : Good [] w w := ⟨Md.refl _ _, by simp⟩
  refine in83 f A C hl g0 hr fun w2 a3 n5 g2 hr2 => ?_
  have hright := f.good_right
  have hgl := f.good_len
  generalize f.good = g at *
  have h22 : Good [] w2 w2 := ⟨Md.refl _ _, by simp⟩
  have fin : ∀ {w' : World} {L : List Nat}, Good L w2 w' → (Value.bool true = .bool true ∧ Md [] w w') := fun h => ⟨rfl, g2.1.trans h.1⟩
  refine in38 g a3 n5 (by omega) h22 hr2 fun w7 b8 g7 hfew => ?_
  refine Bd_in fun b9 hb9 => Bd_e rfl <| Bd_in fun b11 hb11 => Bd_in fun b12 hb12 => If_in (fun _ => in77 g7 fun w14 g14 => fin g14) fun hb => ?_
  have h8 : b8 = true ∧ 1 ≤ g.len := by
    rw [hb12, hb9, hb11] at hb
    cases h : b8 with
    | false => rw [h] at hb; simp at hb
    | true =>
      rw [h] at hb
      refine ⟨rfl, ?_⟩
      simp at hb
      omega
  have hf := hfew h8.1
  have h1 := h8.2
  have hfl := hf.1
  have hfs := hf.2
  have hcl := g.cnt_le
  have Sg : SmallF g := ⟨h1, by omega, hright, by unfold Fo.total; omega⟩
  have hmr := (machine_right Sg.l1 Sg.l2 Sg.rt Sg.tot).1
  have hbl := bldM_len Sg.l1 Sg.rt Sg.tot
  have htot := Sg.tot
  refine in68 s 14 g7 fun w17 g17 _ => ?_
  have hs2 : ∀ x ∈ s.take 14, x < 256 := fun x hx => hs x (List.mem_of_mem_take hx)
  have hsl : (s.take 14).length ≤ 14 := by rw [List.length_take]; omega
  generalize s.take 14 = t at hs2 hsl ⊢
  have eR : runA (bldM g).2 (bldM g).1 t = (nfRun (bldM g).2 (bldM g).1 t, 0) := by unfold runA; rw [if_pos hmr]
  have hal : (nfRun (bldM g).2 (bldM g).1 t).length = t.length + 1 := by simp only [nfRun, List.length_cons, runF_len]
  have hT := fun i hi => machine_tags Sg.l1 Sg.l2 Sg.rt Sg.tot t i hi
  refine in66 g a3 n5 20000 g17 (hr2.md g17.1) (by omega) fun a24 c26 w20 g20 m20 own20 => ?_
  rw [bld_max Sg] at own20 ⊢
  simp only at own20 ⊢
  refine rgU g20 fun n28 w29 g29 m29 => ?_
  refine in69 (bldM g).2 (bldM g).1 a24 c26 t hs2 g29 ((own20.md m29).row encNs) (by omega) (by omega) fun a33 c35 w31 g31 m31 own31 => ?_
  rw [eR] at own31 ⊢
  simp only at own31 ⊢
  refine Bd_e (y := false) rfl <| Bd_e (y := false) rfl <| Bd_e (y := false) rfl <| Gd_in (fun _ => in81 (bldM g).2 (bldM g).1 a24 c26 g31 (((own20.md m29).md m31).row encNs) (by omega) fun w42 g42 m42 => ?_) (fun h => by cases h)
  rw [hmr]
  refine Bd_e (y := false) rfl <| Bd_e (y := false) rfl <| Bd_e rfl <| Bd_e (y := (t.length : Int)) (by rw [nsz_bytesOf]) <| Bd_e (y := ((t.length + 1 : Nat) : Int)) (by rw [IntKind.wrap_i64]; omega) <| Bd_e (y := false) (by rw [hal]; simp) <| Bd_e (y := false) rfl <| If_in (fun h => by cases h) fun _ => Bd_e rfl ?_
  have own42 := own31.md m42
  generalize nfRun (bldM g).2 (bldM g).1 t = tags at *
  refine LoopP_in (fun mm us vs w' => ∃ (i : Nat) (a : Option Addr) (c : Nat) (l : List Rl), us = [.slice a l.length c, .int .i64 i] ∧ mm = g.len - i ∧ i ≤ g.len ∧ l.length = i ∧ OwnL w' w42.heap.size 84 1 rlE a c l ∧ (∀ p ∈ l, OwnL w' w42.heap.size 26 1 uE p.a p.c p.R) ∧
      (∀ (m : Nat) (p : Rl), l[m]? = some p → RelIs t p.R (lg (g.drop m)).one) ∧ Good [n28] w2 w' ∧ Md [] w42 w') g.len
    ⟨0, none, 0, [], rfl, rfl, by omega, rfl, OwnL.nil .., by simp, by simp, g42, Md.refl _ _⟩ ?_
  rintro mm us vs w57 ⟨i, a58, c60, l, rfl, hmm, hi, hll, own57, hown, hrel, g57, m57⟩
  refine opL_in <| opI_in <| Bd_in fun b62 hb62 => If_in (fun hb => ?_) fun hb => ?_
  · have hi' : i < g.len := by rw [hb62] at hb; have : (i : Int) < (g.len : Int) := of_decide_eq_true hb
                               omega
    obtain ⟨k, x1, x2, x3, x4, q, he, hqs⟩ := Fo.drop_cons g i hi'
    obtain ⟨hn, hq⟩ := right_pre he hright
    refine kid_ld hr2 g57.1 he hi' fun sa' sc' hql' hr' => rgV g57 fun n77 w78 hn77 g78 m78 => ?_
    refine in74 (ofR_ok (q.size + 1) q (by omega)) g78 (by omega) hs2 (hr'.md g78.1) hql' hn hq fun R x cc w80 g80 m80 ownR hR => ?_
    refine Nw_i ?_
    have ma : Md [] w80 (w80.alloc (.cells #[.slice x R.length cc] 84)) := Md.alloc w80 _
    have ol : OwnL (w80.alloc (.cells #[.slice x R.length cc] 84)) w80.heap.size 84 1 rlE (some ⟨w80.heap.size, 0, none⟩) 1 [⟨x, cc, R⟩] := OwnL.lit (P := Try.prog) (base := w80.heap.size) encrl w80 84 [⟨x, cc, R⟩] _ (Nat.le_refl _) (by simp [maxLen]) rfl
    have m5785 := (m78.trans m80).trans ma
    have own85 := own57.md m5785
    have g85 := g80.tr ma
    have hs57 := m57.size
    have hs85 := m5785.size
    have hown85 : ∀ p ∈ l, OwnL (w80.alloc (.cells #[.slice x R.length cc] 84)) w42.heap.size 26 1 uE p.a p.c p.R := fun p hp => (hown p hp).md m5785
    have ownR85 := (ownR.down (b := w42.heap.size) (by have := m78.size; omega)).md ma
    refine app_own rowT93 encrl own85 ol (by omega) g85.2 (fun b hb A hA e => ?_) (by simp [maxLen]; omega) (by simp; omega) fun a88 c90 w87 o87 m87 hA87 => opL_in <| Bd_e (y := ((i + 1 : Nat) : Int)) (by rw [IntKind.wrap_i64]; omega) ?_
    · have hlt := (own57.lt hA)
      have h42 := g29.2 n28 (by simp)
      have := m31.size
      have := m42.size
      simp at hb
      rcases hb with rfl | rfl <;> omega
    have keep : ∀ {y : Option Addr} {cy : Nat} {Ry : List Nat}, OwnL (w80.alloc (.cells #[.slice x R.length cc] 84)) w42.heap.size 26 1 uE y cy Ry → OwnL w87 w42.heap.size 26 1 uE y cy Ry := fun h => (own_keep h m87 hA87 (own_apt own85 h (by decide))).1
    refine ⟨g.len - (i + 1), by omega, i + 1, a88, c90, l ++ [⟨x, cc, R⟩], rfl, rfl, by omega, by simp; omega, o87, fun p hp => ?_, fun m p hp => ?_, ?_, ?_⟩
    · rcases List.mem_append.1 hp with h | h
      · exact keep (hown85 p h)
      · simp at h; subst h; exact keep ownR85
    · by_cases hm : m < l.length
      · rw [List.getElem?_append_left hm] at hp
        exact hrel m p hp
      · have hml : m = l.length := by
          have := (List.getElem?_eq_some_iff.1 hp).1
          simp at this; omega
        subst hml
        rw [List.getElem?_append_right (Nat.le_refl _), Nat.sub_self] at hp
        simp at hp
        subst hp
        rw [hll, he]
        exact hR
    · exact ⟨(g42.1.trans (m57.trans m5785)).old m87 (fun d hd => by obtain ⟨B, hB, rfl⟩ := mem_blk hd; have := (own57.lt hB).1; have := g42.1.size; omega), fun b hb => Nat.lt_of_lt_of_le (g85.2 b (by simp at hb ⊢; exact .inr hb)) m87.size⟩
    · exact (m57.trans m5785).old m87 (fun d hd => by obtain ⟨B, hB, rfl⟩ := mem_blk hd; exact (own57.lt hB).1)
  have hif : i = g.len := by
    have : ¬ (i : Int) < (g.len : Int) := by rw [hb62] at hb; exact of_decide_eq_false hb
    omega
  subst hif
  refine Bd_e rfl ?_
  refine LoopP_in (fun mm us vs w' => ∃ (i : Nat) (b : Bool), us = [.bool b, .int .i64 i] ∧ mm = tags.length - i ∧ i ≤ tags.length ∧ Good [n28] w2 w' ∧ Md [] w57 w') tags.length ⟨0, _, rfl, rfl, by omega, g57, Md.refl _ _⟩ ?_
  rintro mm us vs w96 ⟨i, b97, rfl, hmm2, hi2, g96, m96⟩
  refine opB_in <| opI_in <| Bd_in fun b99 hb99 => If_in (fun hb => ?_) fun hb => in77 g96 fun w127 g127 => fin g127
  have hit : i < tags.length := by rw [hb99] at hb; have := of_decide_eq_true hb; omega
  have rtag : RowAt w96 a33 1 i1 tags := (own42.md (m57.trans m96)).row enci1
  obtain ⟨tg, hg1, hg2⟩ := hT i (by omega)
  rw [List.getElem?_eq_getElem hit] at hg1
  injection hg1 with hg1
  refine ⟨rtag.ix hit, rtag.ld1 hit rfl <| opI_in <| Bd_e rfl <| Bd_e (y := ((g.len : Nat) : Int) - 1) (by rw [IntKind.wrap_i64]; omega) ?_⟩
  rw [hg1]
  refine LoopP_in (fun mm us vs w' => ∃ (j : Nat) (want : Int), us = [.int .i64 want, .int .i64 ((j : Int) - 1)] ∧ mm = j ∧ j ≤ g.len ∧ ((want = -1 ∧ ∀ m, j ≤ m → ¬ g.has m (t.take i)) ∨ (∃ m : Nat, want = m ∧ g.has m (t.take i) ∧ ∀ m', j ≤ m' → m' < m → ¬ g.has m' (t.take i))) ∧ Good [n28] w2 w' ∧ Md [] w57 w') g.len
    ⟨g.len, -1, rfl, rfl, Nat.le_refl _, .inl ⟨rfl, fun m hm hh => by have := hh.1; omega⟩, g96, m96⟩ ?_
  rintro m3 us vs w107 ⟨j, want, rfl, hm3, hj, hw, g107, m107⟩
  refine opI_in <| opI_in <| Bd_in fun b110 hb110 => If_in (fun hb => ?_) fun hb => ?_
  · have hj1 : (j : Int) - 1 ≥ 0 := by rw [hb110] at hb; exact of_decide_eq_true hb
    obtain ⟨p, rfl⟩ : ∃ p, j = p + 1 := ⟨j - 1, by omega⟩
    have ei : (((p + 1 : Nat) : Int) - 1) = (p : Int) := by omega
    rw [ei]
    have hpl : p < l.length := by omega
    have hgp : l[p]? = some l[p] := List.getElem?_eq_getElem hpl
    have hR := hrel p _ hgp
    have hO := (hown _ (List.getElem_mem hpl)).md m107
    have r57 := (own57.md m107).row encrl
    refine Jn_in (fun us vs w' => ∃ (x : Int), us = [.int .i64 x] ∧ ((x = -1 ∧ ∀ m, p ≤ m → ¬ g.has m (t.take i)) ∨ (∃ m : Nat, x = m ∧ g.has m (t.take i) ∧ ∀ m', p ≤ m' → m' < m → ¬ g.has m' (t.take i))) ∧ Good [n28] w2 w' ∧ Md [] w57 w') ?_ ?_
    · rintro us vs w113 ⟨x, rfl, hx, g113, m113⟩
      exact opI_in <| Bd_e (y := (p : Int) - 1) (by rw [IntKind.wrap_i64]; omega) ⟨p, by omega, p, x, rfl, rfl, by omega, hx, g113, m113⟩
    refine ⟨r57.ix hpl, r57.ld1 hpl (v := .slice l[p].a l[p].R.length l[p].c) rfl <| opL_in ?_⟩
    refine (f75_ok l[p].R l[p].a l[p].c 0 i (by rw [hR.len]; omega) (by omega) w107 (hO.row encuE)).call g107.2 ?_
    rintro v w122 rfl m122
    have g122 := g107.tr m122
    have m57' := m107.trans m122
    have hbit := hR.bit 0 (by rw [hR.len]; omega) i
    rw [seg_take] at hbit
    have hhas : (l[p].R[0]'(by rw [hR.len]; omega)).testBit i = true ↔ g.has p (t.take i) := hbit.trans ⟨fun h => ⟨by omega, h.2.2⟩, fun h => ⟨by omega, by omega, h.2⟩⟩
    refine opB_in <| If_in (fun hb => ?_) fun hb => ?_
    · exact ⟨(p : Int), rfl, .inr ⟨p, rfl, hhas.1 hb, fun m' h1 h2 => by omega⟩, g122, m57'⟩
    · have hno : ¬ g.has p (t.take i) := fun h => by rw [hhas.2 h] at hb; cases hb
      refine ⟨want, rfl, ?_, g122, m57'⟩
      rcases hw with ⟨rfl, h⟩ | ⟨m, rfl, h1, h2⟩
      · refine .inl ⟨rfl, fun m hm => ?_⟩
        by_cases e : m = p
        · subst e; exact hno
        · exact h m (by omega)
      · refine .inr ⟨m, rfl, h1, fun m' h3 h4 => ?_⟩
        by_cases e : m' = p
        · subst e; exact hno
        · exact h2 m' (by omega) h4
  · have hj1 : ¬ (j : Int) - 1 ≥ 0 := by rw [hb110] at hb; exact of_decide_eq_false hb
    have hj0 : j = 0 := by omega
    subst hj0
    have hwt : TagIs g (t.take i) want := by
      rcases hw with ⟨rfl, h⟩ | ⟨m, rfl, h1, h2⟩
      · exact .inl ⟨rfl, fun m => h m (Nat.zero_le _)⟩
      · exact .inr ⟨m, rfl, h1, fun m' h => h2 m' (Nat.zero_le _) h⟩
    have he := hg2.uniq hwt
    exact Bd_e (y := false) (by rw [he]; simp) <| If_in (fun h => by cases h) fun _ => Bd_e (y := ((i + 1 : Nat) : Int)) (by rw [IntKind.wrap_i64]; omega) ⟨tags.length - (i + 1), by omega, i + 1, _, rfl, rfl, by omega, g107, m107⟩
end Fk
