/- The law 'ClassesOrder': what its code does. -/
import Derived.Test.YtpgjpgecgibklaaC13
set_option linter.unusedVariables false
set_option linter.unusedSimpArgs false
set_option maxRecDepth 100000
namespace Fk
open Go Go.Proofs Go.RowKit
/-- One tree, alone. -/
def Fo.one : Fo → Nat → Fo
  | .nil, _ => .nil
  | .cons k a b c d q r, 0 => .cons k a b c d q .nil
  | .cons k a b c d q r, n + 1 => r.one n
theorem Fo.one_right : ∀ (x : Fo) (j : Nat), x.right = true → (x.one j).right = true
  | .nil, j, _ => rfl
  | .cons k a b c d q r, 0, h => by simp only [Fo.right, Bool.and_eq_true, Fo.one] at h ⊢; exact ⟨h.1, trivial⟩
  | .cons k a b c d q r, n + 1, h => by simp only [Fo.right, Bool.and_eq_true] at h; exact r.one_right n h.2
theorem Fo.one_size : ∀ (x : Fo) (j : Nat), (x.one j).size ≤ x.size
  | .nil, j => Nat.le_refl _
  | .cons k a b c d q r, 0 => by simp only [Fo.one, Fo.size]; omega
  | .cons k a b c d q r, n + 1 => by have := r.one_size n; simp only [Fo.one, Fo.size]; omega
theorem Fo.one_len : ∀ (x : Fo) (j : Nat), j < x.len → (x.one j).len = 1
  | .nil, j, h => by simp [Fo.len] at h
  | .cons k a b c d q r, 0, h => rfl
  | .cons k a b c d q r, n + 1, h => by simp only [Fo.len] at h; exact r.one_len n (by omega)
theorem Fo.one_sub : ∀ (x : Fo) (j : Nat) (s : Q4), s ∈ (x.one j).sets → s ∈ x.sets
  | .nil, j, s, h => h
  | .cons k a b c d q r, 0, s, h => by
    simp only [Fo.one, Fo.sets, List.append_nil, List.mem_append] at h ⊢
    rcases h with h | h
    · exact .inl h
    · exact .inr (.inl h)
  | .cons k a b c d q r, n + 1, s, h => by
    simp only [Fo.sets, List.mem_append]
    exact .inr (.inr (r.one_sub n s h))
theorem Fo.one_all : ∀ (x : Fo) (s : Q4), s ∈ x.sets → ∃ j, j < x.len ∧ s ∈ (x.one j).sets
  | .nil, s, h => by simp [Fo.sets] at h
  | .cons k a b c d q r, s, h => by
    simp only [Fo.sets, List.mem_append] at h
    rcases h with h | h | h
    · exact ⟨0, by simp [Fo.len], by simp only [Fo.one, Fo.sets, List.append_nil, List.mem_append]; exact .inl h⟩
    · exact ⟨0, by simp [Fo.len], by simp only [Fo.one, Fo.sets, List.append_nil, List.mem_append]; exact .inr h⟩
    · obtain ⟨j, hj, hs⟩ := r.one_all s h
      exact ⟨j + 1, by simp [Fo.len]; exact hj, hs⟩
theorem TrF.one {w : World} : ∀ {l : List Tr} {x : Fo} {j : Nat} {t : Tr}, TrF w l x → l[j]? = some t → TrF w [t] (x.one j)
  | [], .nil, j, t, _, h => by simp at h
  | t' :: l, .cons k a b c d q r, 0, t, ⟨h1, h2⟩, h => by simp at h; subst h; exact ⟨h1, trivial⟩
  | t' :: l, .cons k a b c d q r, n + 1, t, ⟨h1, h2⟩, h => by
    have h' : l[n]? = some t := by simpa using h
    exact TrF.one (l := l) (x := r) (j := n) h2 h'
  | [], .cons .., _, _, h, _ => h.elim
  | _ :: _, .nil, _, _, h, _ => h.elim
/-- Round and round. -/
def Fo.turn (x : Fo) (from_ : Nat) : Nat → Fo
  | 0 => .nil
  | i + 1 => (x.turn from_ i).app (x.one ((i + from_) % x.len))
theorem Fo.turn_right (x : Fo) (f : Nat) (h : x.right = true) : ∀ i, (x.turn f i).right = true
  | 0 => rfl
  | i + 1 => by rw [Fo.turn, Fo.app_right, x.turn_right f h i, x.one_right _ h]; rfl
theorem Fo.turn_size (x : Fo) (f : Nat) : ∀ i, (x.turn f i).size ≤ i * x.size
  | 0 => by simp [Fo.turn, Fo.size]
  | i + 1 => by
    have h1 := x.turn_size f i
    have h2 := x.one_size ((i + f) % x.len)
    rw [Fo.turn, Fo.app_size, Nat.succ_mul]; omega
theorem Fo.turn_sub (x : Fo) (f : Nat) (s : Q4) : ∀ i, s ∈ (x.turn f i).sets → s ∈ x.sets
  | 0, h => by simp [Fo.turn, Fo.sets] at h
  | i + 1, h => by
    rw [Fo.turn, Fo.app_sets, List.mem_append] at h
    rcases h with h | h
    · exact x.turn_sub f s i h
    · exact x.one_sub _ s h
theorem Fo.turn_has (x : Fo) (f : Nat) (s : Q4) (j : Nat) (hj : s ∈ (x.one ((j + f) % x.len)).sets) : ∀ i, j < i → s ∈ (x.turn f i).sets
  | 0, h => by omega
  | i + 1, h => by
    rw [Fo.turn, Fo.app_sets, List.mem_append]
    rcases Nat.lt_or_ge j i with h1 | h1
    · exact .inl (x.turn_has f s j hj i h1)
    · have : j = i := by omega
      subst this; exact .inr hj
theorem Fo.turn_all (x : Fo) (f : Nat) (s : Q4) : s ∈ (x.turn f (2 * x.len)).sets ↔ s ∈ x.sets := by
  constructor
  · exact x.turn_sub f s _
  · intro h
    obtain ⟨j, hj, hs⟩ := x.one_all s h
    have hp : 0 < x.len := by omega
    have hm := Nat.mod_lt f hp
    refine x.turn_has f s ((j + (x.len - f % x.len)) % x.len) ?_ _ (by have := Nat.mod_lt (j + (x.len - f % x.len)) hp; omega)
    have : ((j + (x.len - f % x.len)) % x.len + f) % x.len = j := by
      rw [Nat.mod_add_mod, show j + (x.len - f % x.len) + f = j + x.len * (1 + f / x.len) by
        have := Nat.div_add_mod f x.len
        rw [Nat.mul_add]; omega]
      rw [Nat.add_mul_mod_self_left, Nat.mod_eq_of_lt hj]
    rw [this]; exact hs
theorem sets_full : ∀ (x : Fo) (s : Q4), x.right = true → s ∈ x.sets → z4 s.1 s.2.1 s.2.2.1 s.2.2.2 = false
  | .nil, s, _, h => by simp [Fo.sets] at h
  | .cons k a b c d q r, s, hr, h => by
    simp only [Fo.right, Bool.and_eq_true] at hr
    simp only [Fo.sets, List.mem_append] at h
    rcases h with h | h | h
    · unfold nodeS at h
      split at h
      · rename_i hk
        simp at h
        subst h
        subst hk
        have := hr.1.1
        simp [nodeOk] at this
        exact this.2
      · simp at h
    · exact sets_full q s hr.1.2 h
    · exact sets_full r s hr.2 h
theorem leafFo_right : ∀ l : List Q4, (∀ q ∈ l, z4 q.1 q.2.1 q.2.2.1 q.2.2.2 = false) → (leafFo l).right = true
  | [], _ => rfl
  | q :: l, h => by
    have h1 := h q (by simp)
    simp only [leafFo, Fo.right, leafFo_right l fun q hq => h q (List.mem_cons_of_mem _ hq), h1]
    rfl
/-- A tree of a row is read. -/
theorem RowAt.ld6 {w : World} {A : Option Addr} {l : List Tr} (h : RowAt w A 6 tr6 l) {i : Nat} {t : Tr} (ht : l[i]? = some t) {K : Int → Int → Int → Int → Int → Option Addr → Nat → Nat → Prop}
    (hk : K t.k t.q.1 t.q.2.1 t.q.2.2.1 t.q.2.2.2 t.sa t.sn t.sc) :
    Ld w ((adAt A (i : Int) 6).add 0) fun v1 => Ld w ((adAt A (i : Int) 6).add 1) fun v2 => Ld w ((adAt A (i : Int) 6).add 2) fun v3 => Ld w ((adAt A (i : Int) 6).add 3) fun v4 => Ld w ((adAt A (i : Int) 6).add 4) fun v5 => Ld w ((adAt A (i : Int) 6).add 5) fun v6 =>
      opI .u8 v1 fun x1 => opI .u64 v2 fun x2 => opI .u64 v3 fun x3 => opI .u64 v4 fun x4 => opI .u64 v5 fun x5 => opL v6 fun a n c => K x1 x2 x3 x4 x5 a n c := by
  obtain ⟨B, rfl, hc⟩ := h i t ht
  exact Ld_in (hc 0 _ rfl) <| Ld_in (hc 1 _ rfl) <| Ld_in (hc 2 _ rfl) <| Ld_in (hc 3 _ rfl) <| Ld_in (hc 4 _ rfl) <| Ld_in (hc 5 _ rfl) <| opI_in <| opI_in <| opI_in <| opI_in <| opI_in <| opL_in hk
theorem in48t (fo : Fo) (A : Option Addr) (C : Nat) (hl : fo.len < 2 ^ 40) {L : List Nat} {w0 w : World} {K : Option Addr → Nat → Nat → World → Prop} (h : Good L w0 w) (hr : RepF w A 0 fo)
    (kk : ∀ w' a c l, Good L w0 w' → OwnT w' w.heap.size a c l → TrF w' l fo.good → K a l.length c w') :
    CallW Try.prog L 48 #[.slice A fo.len C] (fun v w' => opL v fun a n c => K a n c w') w := by
  refine (f48_ok fo A C w hr hl).call h.2 ?_
  rintro v w' ⟨a, c, L', rfl, ho, hT⟩ h'
  exact opL_in (kk w' a c L' (h.tr h') ho hT)

theorem f6_ok (fo : Fo) (A : Option Addr) (C : Nat) (fr : Nat) (hfr : fr < 256) (w : World) (hr : RepF w A 0 fo) (hl : fo.len < 2 ^ 63) :
    Ct Try.prog 6 #[.slice A fo.len C, .int .u8 fr] w fun v w' => v = .bool true ∧ Md [] w w' := by
  apply f6_in
  have g0 : Good [] w w := ⟨Md.refl _ _, by simp⟩
  refine in38 fo A C hl g0 hr fun w2 b3 g2 hfew => ?_
  refine Bd_in fun b4 hb4 => If_in (fun _ => in39 g2 fun w9 g9 => ⟨rfl, g9.1⟩) fun hb' => ?_
  have hf : fo.few := hfew (by rw [hb4] at hb'; simpa using hb')
  have hl' : fo.len < 2 ^ 40 := by have := hf.1; omega
  refine in48t fo A C hl' g2 (hr.md g2.1) fun w9 a10 c10 L g9 ho9 hT9 => ?_
  have h09 := g9.1
  clear g9
  have g9 : Good [] w9 w9 := ⟨Md.refl _ _, by simp⟩
  have hgl := fo.good_len
  have hgs := fo.good_size
  have hf1 := hf.1
  have hf2 := hf.2
  have hgr := fo.good_right
  generalize fo.good = G at *
  have hLG := hT9.len
  have hr9 : RepF w9 a10 0 G := TrF.rep (ho9.row enc6) hT9 rfl
  have row9 := ho9.row enc6
  have hS := G.sets_le
  rw [hLG]
  refine in40 G a10 c10 (by omega) (by omega) g9 hr9 fun w14 c1 e1 g14 hc1 hy1 _ => ?_
  obtain ⟨rfl, rfl⟩ := hy1 hgr
  rw [clOf_ref] at hc1 ⊢
  refine ⟨hc1.size, fun n18 hn18 => OkC_in hc1.cells <| Bd_in fun x19 hx19 => Bd_in fun x20 hx20 => fun w21 h21 hL21 => ?_⟩
  have g21 := regUp g14 hn18 h21 hL21
  have hn21 : n18 < w21.heap.size := hL21 _ (by simp)
  have e20 : x20 = ((2 * G.len : Nat) : Int) := by rw [hx20, hx19, IntKind.wrap_i64]; omega
  subst e20
  clear hx20 hx19
  refine LoopP_in (fun m us vs w' => ∃ (i : Nat) (a : Option Addr) (c : Nat) (T : List Tr), us = [.slice a T.length c, .int .i64 i] ∧ vs = [] ∧ m = 2 * G.len - i ∧ i ≤ 2 * G.len ∧ T.length = i ∧ TrF w9 T (G.turn fr i) ∧ OwnT w' w21.heap.size a c T ∧ Md [] w9 w' ∧ w21.heap.size ≤ w'.heap.size)
    (2 * G.len) ⟨0, none, 0, [], rfl, rfl, rfl, by omega, rfl, trivial, OwnL.nil .., g21.1, Nat.le_refl _⟩ ?_
  rintro m us vs w25 ⟨i, a26, c26, T, rfl, rfl, rfl, hi, hTl, hTT, ho25, h25, hs25⟩
  have hb9 := g21.1.size
  refine opL_in <| opI_in <| Bd_in fun b30 hb30 => If_in (fun hb' => Bd_in fun x31 hx31 => Bd_in fun x32 hx32 => Bd_in fun x33 hx33 => ?_) fun hb' => ?_
  · subst hb30
    simp only [decide_eq_true_eq, Int.ofNat_lt] at hb'
    have e32 : x32 = ((i + fr : Nat) : Int) := by rw [hx32, hx31, wrap_byte hfr, IntKind.wrap_i64]; omega
    subst e32; subst hx33
    have hp : 0 < G.len := by omega
    refine ⟨by omega, Bd_in fun x34 hx34 => ?_⟩
    have e34 : x34 = (((i + fr) % G.len : Nat) : Int) := by rw [hx34, Int.tmod_eq_emod_of_nonneg (by omega)]; simp
    subst e34
    have hjl : (i + fr) % G.len < L.length := by rw [hLG]; exact Nat.mod_lt _ hp
    have hix := (row9.md h25).ix hjl
    rw [hLG] at hix
    refine ⟨hix, (row9.md h25).ld6 (List.getElem?_eq_getElem hjl) ?_⟩
    refine app_one rowT22 enc6 (L[(i + fr) % G.len]) rfl ho25 hs25 (by intro b hb; simp at hb; omega) ?_ (by simp [maxLen]; omega) (by omega) ?_
    · intro b hb B hB
      have := (ho25.lt hB).1
      simp at hb; omega
    intro a53 c53 w52 ho52 hm52 _
    refine opL_in <| Bd_in fun x56 hx56 => ?_
    rw [inc_i64 (by omega)] at hx56
    subst hx56
    refine ⟨2 * G.len - (i + 1), by omega, i + 1, a53, c53, _, rfl, rfl, rfl, by omega, by simp [hTl], TrF.app hTT (TrF.one hT9 (List.getElem?_eq_getElem hjl)), ho52, ?_, Nat.le_trans hs25 hm52.size⟩
    refine h25.old hm52 fun d hd => ?_
    cases a26 with
    | none => simp at hd
    | some B => simp at hd; rw [hd]; have := (ho25.lt rfl).1; omega
  · subst hb30
    simp only [decide_eq_false_iff_not, Int.ofNat_lt] at hb'
    have hi2 : i = 2 * G.len := by omega
    subst hi2
    refine Bd_in fun x57 hx57 => ?_
    subst hx57
    have hA26 : ∀ B, a26 = some B → w21.heap.size ≤ B.block ∧ B.block < w25.heap.size := fun B hB => ho25.lt hB
    refine LoopP_in (fun m us vs w' => ∃ (i : Nat) (r : Fo) (a : Option Addr) (c : Nat) (D : List Q4), us = [.slice a (D.map leaf).length c, .int .i64 i] ∧ vs = [] ∧ m = r.len ∧ i + r.len = G.len ∧ r.size ≤ G.size ∧ D.length + r.size ≤ G.size ∧ RepF w9 a10 i r ∧ G.sets = D ++ r.sets ∧ OwnT w' w25.heap.size a c (D.map leaf) ∧ Md [] w25 w')
      G.len ⟨0, G, none, 0, [], rfl, rfl, rfl, by omega, by omega, by simp, hr9, rfl, OwnL.nil .., Md.refl _ _⟩ ?_
    rintro m us vs w61 ⟨i, r, a62, c62, D, rfl, rfl, rfl, hi, hrs, hDs, hri, hset, ho61, h61⟩
    have h61' := h25.trans h61
    have hn61 : n18 < w61.heap.size := by have := h61.size; omega
    refine opL_in <| opI_in <| Bd_in fun b66 hb66 => If_in (fun hb' => ?_) fun hb' => ?_
    · subst hb66
      simp only [decide_eq_true_eq, Int.ofNat_lt] at hb'
      cases r with
      | nil => simp [Fo.len] at hi; omega
      | cons k' a' b' c' d' q' r' => ?_
      obtain ⟨B, sa', sc', rfl, hc', hql, hq, hr'⟩ := hri.at
      simp only [Fo.len, Fo.size, Fo.sets] at hi hrs hset hDs
      refine ⟨⟨by omega, by omega, rfl⟩, ?_⟩
      refine ReC.ld (hc'.md h61') ?_
      intro n81 hn81 w82 h82 hL82
      have h82' : Md [] w61 w82 := h82.fresh (by simpa using hn81)
      refine (f49_ok _ q' k' a' b' c' d' _ _ w82.heap.size none 0 [] w82 w82 (Nat.le_refl _) (hq.md (h61'.trans h82')) hql (by simp; omega) (Md.refl _ _) (Nat.le_refl _) (Nat.le_refl _) (OwnL.nil ..)).call hL82 ?_
      rintro v83 w84 ⟨A85, C87, rfl, ho84, _⟩ h84
      have e0 : ([] : List Q4) ++ (nodeS k' a' b' c' d' ++ q'.sets) = nodeS k' a' b' c' d' ++ q'.sets := rfl
      rw [e0] at ho84 ⊢
      have hN := nodeS_le k' a' b' c' d'
      have hQ := q'.sets_le
      have h84' : Md [] w61 w84 := h82'.trans h84
      have hL84 : ∀ b ∈ [n81, n18], b < w84.heap.size := fun b hb => Nat.lt_of_lt_of_le (hL82 b hb) h84.size
      have ho61' := ho61.md h84'
      generalize hT : nodeS k' a' b' c' d' ++ q'.sets = S at *
      have hset' : G.sets = D ++ (S ++ r'.sets) := by rw [hset, ← hT]; simp
      have hSl : S.length ≤ q'.size + 1 := by rw [← hT, List.length_append]; omega
      refine opL_in <| Bd_in fun x88 hx88 => ?_
      subst hx88
      have hAS : ∀ B, A85 = some B → w82.heap.size ≤ B.block ∧ B.block < w84.heap.size := fun B hB => ho84.lt hB
      have hA62 : ∀ B, a62 = some B → w25.heap.size ≤ B.block ∧ B.block < w61.heap.size := fun B hB => ho61.lt hB
      refine LoopP_in (fun m us vs w' => ∃ (j : Nat) (a : Option Addr) (c : Nat), us = [.slice a ((D ++ S.take j).map leaf).length c, .int .i64 j] ∧ vs = [] ∧ m = S.length - j ∧ j ≤ S.length ∧ OwnT w' w25.heap.size a c ((D ++ S.take j).map leaf) ∧ Md [] w25 w' ∧ w84.heap.size ≤ w'.heap.size ∧
          OwnS w' w82.heap.size A85 C87 S ∧ (∀ B, a = some B → (∀ B', A85 = some B' → B.block ≠ B'.block) ∧ B.block ≠ n81 ∧ B.block ≠ n18))
        S.length ⟨0, a62, c62, by simp, rfl, rfl, by omega, by simpa using ho61', h61.trans h84', Nat.le_refl _, ho84, fun B hB => ⟨fun B' hB' => ?_, ?_, ?_⟩⟩ ?_
      · have := (hA62 B hB).2; have := (hAS B' hB').1; have := h82'.size; omega
      · have := (hA62 B hB).2; omega
      · have := (hA62 B hB).1; omega
      rintro m us vs w92 ⟨j, a93, c93, rfl, rfl, rfl, hj, ho92, h92, hs92, hoS92, hA93⟩
      have hL92 : ∀ b ∈ [n81, n18], b < w92.heap.size := fun b hb => Nat.lt_of_lt_of_le (hL84 b hb) hs92
      refine opL_in <| opI_in <| Bd_in fun b97 hb97 => If_in (fun hb' => ?_) fun hb' => Bd_in fun x127 hx127 => ?_
      · subst hb97
        simp only [decide_eq_true_eq, Int.ofNat_lt] at hb'
        refine ⟨(hoS92.row enc4).ix hb', (hoS92.row enc4).ld4 hb' ?_⟩
        refine opI_in ?_
        refine opI_in ?_
        refine opI_in ?_
        refine opI_in ?_
        intro n106 hn106 w107 h107 hL107
        have h107' : Md [] w92 w107 := h107.fresh (by simpa using hn106)
        have g107 : Good [n106, n81, n18] w92 w107 := ⟨h107', hL107⟩
        refine in51 S[j] g107 fun w109 g109 => ?_
        have ho109 := ho92.md g109.1
        have hoS109 := hoS92.md g109.1
        refine app_one rowT22 enc6 (leaf S[j]) rfl ho109 (Nat.le_trans h92.size g109.1.size) g109.2 ?_ (by simp [maxLen]; omega) (by simp; omega) ?_
        · intro b hb B hB
          have h1 := hA93 B hB
          have h2 := (ho92.lt hB).2
          simp at hb
          rcases hb with rfl | rfl | rfl
          · omega
          · exact h1.2.1
          · exact h1.2.2
        intro a123 c123 w122 ho122 hm122 hA122
        have etake : (D ++ S.take j).map leaf ++ [leaf S[j]] = (D ++ S.take (j + 1)).map leaf := by
          rw [List.take_succ_eq_append_getElem hb', ← List.append_assoc, List.map_append (l₁ := D ++ S.take j)]; rfl
        rw [etake] at ho122 ⊢
        refine opL_in <| Bd_in fun x126 hx126 => ?_
        rw [inc_i64 (by omega)] at hx126
        subst hx126
        refine ⟨S.length - (j + 1), by omega, j + 1, a123, c123, rfl, rfl, rfl, by omega, ho122, ?_, ?_, ?_, fun B hB => ?_⟩
        · refine (h92.trans g109.1).old hm122 fun d hd => ?_
          cases a93 with
          | none => simp at hd
          | some B => simp at hd; rw [hd]; exact (ho92.lt rfl).1
        · have := g109.1.size; have := hm122.size; omega
        · refine hoS109.mdD hm122 fun B' hB' hd => ?_
          cases a93 with
          | none => simp at hd
          | some B => simp at hd; exact (hA93 B rfl).1 B' hB' hd.symm
        · rcases hA122 B hB with h | h
          · exact hA93 B h
          · have h1 := g109.1.size
            refine ⟨fun B' hB' => ?_, ?_, ?_⟩
            · have := (hoS92.lt hB').2; omega
            · have := hL92 n81 (by simp); omega
            · have := hL92 n18 (by simp); omega
      · subst hb97
        simp only [decide_eq_false_iff_not, Int.ofNat_lt] at hb'
        rw [inc_i64 (by omega)] at hx127
        subst hx127
        have ht : S.take j = S := List.take_of_length_le (by omega)
        rw [ht] at ho92 ⊢
        exact ⟨r'.len, by simp [Fo.len], i + 1, r', a93, c93, D ++ S, rfl, rfl, rfl, by omega, by omega, by rw [List.length_append]; omega, hr', by rw [hset']; simp, ho92, h92⟩
    · subst hb66
      simp only [decide_eq_false_iff_not, Int.ofNat_lt] at hb'
      have hD : D = G.sets := by
        cases r with
        | nil => simp only [Fo.sets, List.append_nil] at hset; exact hset.symm
        | cons => simp only [Fo.len] at hi; omega
      subst hD
      have hTlen : (G.turn fr (2 * G.len)).len = T.length := hTT.len.symm
      have hturnS := G.turn_size fr (2 * G.len)
      have hmul : 2 * G.len * G.size ≤ 12 * 1200 := Nat.mul_le_mul (by omega) (by omega)
      have g61 : Good [n18] w61 w61 := ⟨Md.refl _ _, by simpa using hn61⟩
      have hrepT : RepF w61 a26 0 (G.turn fr (2 * G.len)) := TrF.rep ((ho25.md h61).row enc6) (hTT.md h61') rfl
      refine in40n (G.turn fr (2 * G.len)) T.length hTlen a26 c26 (by omega) (by omega) g61 hrepT fun w129 c2 e2 g129 hc2 hy2 _ => ?_
      obtain ⟨rfl, rfl⟩ := hy2 (G.turn_right fr hgr _)
      rw [clOf_ref, refCl_congr _ G.sets (G.turn_all fr)] at hc2 ⊢
      refine ⟨hc2.size, fun n133 hn133 => OkC_in hc2.cells fun w134 h134 hL134 => ?_⟩
      have g134 := regUp g129 hn133 h134 hL134
      have hrepF : RepF w134 a62 0 (leafFo G.sets) := TrF.rep ((ho61.md g134.1).row enc6) (leaf_F _ G.sets) rfl
      have hll : (leafFo G.sets).len = (G.sets.map leaf).length := by rw [leafFo_len, List.length_map]
      have hls := leafFo_size G.sets
      refine in40n (leafFo G.sets) _ hll a62 c62 (by rw [leafFo_len]; omega) (by omega) g134 hrepF fun w136 c3 e3 g136 hc3 hy3 _ => ?_
      obtain ⟨rfl, rfl⟩ := hy3 (leafFo_right _ fun q hq => sets_full G q hgr hq)
      rw [clOf_ref, leafFo_sets] at hc3 ⊢
      refine ⟨hc3.size, fun n140 hn140 => OkC_in hc3.cells <| Bd_in fun b141 hb141 => Bd_in fun b142 hb142 => Bd_in fun b143 hb143 => Bd_in fun b144 hb144 => Bd_in fun b145 hb145 => ⟨fun _ => hc1.size, fun _ => hc2.size, fun w148 h148 hL148 => ?_⟩⟩
      have g148 := regUp g136 hn140 h148 hL148
      have t145 : b145 = true := by rw [hb145, hb144, hb143, hb142, hb141]; rfl
      clear hb145
      subst t145
      refine ⟨fun _ => RunW_in0 (eqS_of (by kernel_rfl) (eqCl w148 hc1 hc2) _ _).1 <| opB_in <| Bd_in fun b155 hb155 => ⟨fun _ => hc1.size, fun _ => hc3.size, ?_⟩, fun h => by cases h⟩
      have t155 : b155 = true := by rw [hb155]; simp
      clear hb155
      subst t155
      refine ⟨fun _ => RunW_in0 (eqS_of (by kernel_rfl) (eqCl w148 hc1 hc3) _ _).1 <| opB_in <| Bd_in fun b164 hb164 => ?_, fun h => by cases h⟩
      have t164 : b164 = true := by rw [hb164]; simp
      clear hb164
      subst t164
      exact ⟨fun _ => in39 g148 fun w167 g167 => Bd_in fun b171 hb171 => ⟨by rw [hb171]; rfl, h09.trans (h61'.trans g167.1)⟩, fun h => by cases h⟩
end Fk
