/- The law 'ClassesSame': what its code does. -/
import Derived.Test.YtpgjpgecgibklaaC11
set_option linter.unusedVariables false
set_option linter.unusedSimpArgs false
set_option maxRecDepth 100000
namespace Fk
open Go Go.Proofs Go.RowKit
theorem in50 (q : Q4) {i : Nat} (hi : i < 256) {L : List Nat} {w0 w : World} {K : Bool → World → Prop} (h : Good L w0 w) (k : ∀ w', Good L w0 w' → K (inQ q i) w') :
    CallW Try.prog L 50 #[.agg #[.int .u64 q.1, .int .u64 q.2.1, .int .u64 q.2.2.1, .int .u64 q.2.2.2], .int .u8 i] (fun v w' => opB v fun b => K b w') w := by
  refine (f50_ok q i hi w).call h.2 ?_
  rintro v w' rfl h'
  exact opB_in (k w' (h.tr h'))
/-- The trees that are right, of which the rest goes on. -/
theorem in48 (fo : Fo) (A : Option Addr) (C : Nat) (hl : fo.len < 2 ^ 40) {L : List Nat} {w0 w : World} {K : Option Addr → Nat → Nat → World → Prop} (h : Good L w0 w) (hr : RepF w A 0 fo)
    (kk : ∀ w' a c, Good L w0 w' → RepF w' a 0 fo.good → K a fo.good.len c w') :
    CallW Try.prog L 48 #[.slice A fo.len C] (fun v w' => opL v fun a n c => K a n c w') w := by
  refine (f48_ok fo A C w hr hl).call h.2 ?_
  rintro v w' ⟨a, c, L', rfl, ho, hT⟩ h'
  have hrep : RepF w' a 0 fo.good := TrF.rep (ho.row enc6) hT rfl
  refine opL_in ?_
  rw [hT.len]
  exact kk w' a c (h.tr h') hrep
def sameAll (l : List Q4) (a b : Nat) : Bool := l.all fun q => inQ q a == inQ q b
theorem Cl.ok.getI {c : Cl} (h : c.ok) {i : Nat} (hi : i < 256) : ∃ x : Nat, c.f[i]? = some x ∧ nthV c.v.toList (0 + (i : Int).toNat * 1) = some (.int .u8 (x : Int)) := by
  have hi' : i < c.f.length := by rw [h.len]; exact hi
  exact ⟨c.f[i], List.getElem?_eq_getElem hi', h.nth' hi'⟩
theorem ref_same (l : List Q4) {a b x y : Nat} (ha : a < 256) (hb : b < 256) (hx : (refCl l).f[a]? = some x) (hy : (refCl l).f[b]? = some y) : ((x : Int) == (y : Int)) = sameAll l a b := by
  have h := ref_lab_iff l ha hb
  rw [hx, hy] at h
  rw [Bool.eq_iff_iff]
  simp only [sameAll, beq_iff_eq, List.all_eq_true]
  constructor
  · intro e q hq
    have : x = y := by omega
    simpa using h.1 (by rw [this]) q hq
  · intro H
    have := h.2 fun q hq => by simpa using H q hq
    have := Option.some.inj this
    omega
theorem f4_ok (fo : Fo) (A : Option Addr) (C : Nat) (a b : Nat) (ha : a < 256) (hb : b < 256) (w : World) (hr : RepF w A 0 fo) (hl : fo.len < 2 ^ 63) :
    Ct Try.prog 4 #[.slice A fo.len C, .int .u8 a, .int .u8 b] w fun v w' => v = .bool true ∧ Md [] w w' := by
  apply f4_in
  have g0 : Good [] w w := ⟨Md.refl _ _, by simp⟩
  refine in38 fo A C hl g0 hr fun w2 b3 g2 hfew => ?_
  refine Bd_in fun b4 hb4 => If_in (fun _ => in39 g2 fun w9 g9 => ⟨rfl, g9.1⟩) fun hb' => ?_
  have hf : fo.few := hfew (by rw [hb4] at hb'; simpa using hb')
  have hl' : fo.len < 2 ^ 40 := by have := hf.1; omega
  refine in48 fo A C hl' g2 (hr.md g2.1) fun w9 a10 c10 g9 hr9 => ?_
  have h09 := g9.1
  clear g9
  have g9 : Good [] w9 w9 := ⟨Md.refl _ _, by simp⟩
  have hgl := fo.good_len
  have hgs := fo.good_size
  have hS := fo.good.sets_le
  have hf1 := hf.1
  have hf2 := hf.2
  refine in40 fo.good a10 c10 (by omega) (by omega) g9 hr9 fun w14 c e g14 hc hy _ => ?_
  obtain ⟨rfl, rfl⟩ := hy fo.good_right
  rw [clOf_ref] at hc ⊢
  have hc := refCl_ok fo.good.sets
  refine ⟨hc.size, fun n18 hn18 => OkC_in hc.cells <| Bd_in fun b19 hb19 => ⟨fun _ => hc.size, fun w21 h21 hL21 => ?_⟩⟩
  have t19 : b19 = false := by rw [hb19]; rfl
  clear hb19
  subst t19
  have g21 := regUp g14 hn18 h21 hL21
  refine ⟨fun _ => in44 _ hc g21 fun w27 g27 => ?_, fun h => by cases h⟩
  rw [ref_right]
  refine Bd_in fun b28 hb28 => Bd_in fun b29 hb29 => If_in (fun h => absurd h (by rw [hb29, hb28]; simp)) fun _ => Bd_in fun x30 hx30 => ?_
  subst hx30
  refine LoopP_in (fun m us vs w' => ∃ (i : Nat) (r : Fo) (D : List Q4) (o : Bool), us = [.bool (sameAll D a b), .bool o, .int .i64 i] ∧ vs = [] ∧ m = r.len ∧ i + r.len = fo.good.len ∧ r.size ≤ fo.good.size ∧ RepF w9 a10 i r ∧ fo.good.sets = D ++ r.sets ∧ Good [n18] w9 w')
    fo.good.len ⟨0, fo.good, [], false, rfl, rfl, rfl, by omega, by omega, hr9, rfl, g27⟩ ?_
  rintro m us vs w34 ⟨i, r, D, o, rfl, rfl, rfl, hi, hrs, hri, hset, g34⟩
  refine opB_in <| opB_in <| opI_in <| Bd_in fun b38 hb38 => If_in (fun hb' => ?_) fun hb' => ?_
  · subst hb38
    simp only [decide_eq_true_eq, Int.ofNat_lt] at hb'
    cases r with
    | nil => simp [Fo.len] at hi; omega
    | cons k' a' b' c' d' q' r' => ?_
    obtain ⟨B, sa', sc', rfl, hc', hql, hq, hr'⟩ := hri.at
    simp only [Fo.len, Fo.size, Fo.sets] at hi hrs hset
    refine ⟨⟨by omega, by omega, rfl⟩, ?_⟩
    refine ReC.ld (hc'.md g34.1) ?_
    intro n53 hn53 w54 h54 hL54
    have g54 := regUp g34 hn53 h54 hL54
    refine (f49_ok _ q' k' a' b' c' d' _ _ w54.heap.size none 0 [] w54 w54 (Nat.le_refl _) (hq.md g54.1) hql (by simp; omega) (Md.refl _ _) (Nat.le_refl _) (Nat.le_refl _) (OwnL.nil ..)).call g54.2 ?_
    rintro v55 w56 ⟨A57, C57, rfl, ho56, _⟩ h56
    simp only [List.nil_append] at ho56 ⊢
    have hN := nodeS_le k' a' b' c' d'
    have hQ := q'.sets_le
    have g56 := g54.tr h56
    generalize hT : nodeS k' a' b' c' d' ++ q'.sets = T at *
    have hset' : fo.good.sets = D ++ (T ++ r'.sets) := by rw [hset, ← hT]; simp
    have hTl : T.length ≤ 1201 := by rw [← hT, List.length_append]; omega
    refine opL_in <| Bd_in fun x60 hx60 => ?_
    subst hx60
    have hrow := ho56.row enc4
    refine LoopP_in (fun m us vs w' => ∃ (j : Nat) (o : Bool), us = [.bool (sameAll (D ++ T.take j) a b), .bool o, .int .i64 j] ∧ vs = [] ∧ m = T.length - j ∧ j ≤ T.length ∧ Md [] w56 w')
      T.length ⟨0, o, by simp, rfl, rfl, by omega, Md.refl _ _⟩ ?_
    rintro m us vs w64 ⟨j, o', rfl, rfl, rfl, hj, h64⟩
    have g64 := g56.tr h64
    refine opB_in <| opB_in <| opI_in <| Bd_in fun b68 hb68 => If_in (fun hb' => ?_) fun hb' => Bd_in fun x103 hx103 => ?_
    · subst hb68
      simp only [decide_eq_true_eq, Int.ofNat_lt] at hb'
      have hmem : T[j] ∈ fo.good.sets := by
        rw [hset']
        exact List.mem_append_right _ (List.mem_append_left _ (List.getElem_mem hb'))
      refine ⟨hrow.ix hb', (hrow.md h64).ld4 hb' ?_⟩
      refine opI_in ?_
      refine opI_in ?_
      refine opI_in ?_
      refine opI_in ?_
      intro n77 hn77
      refine Jn_in (fun us vs w' => us = [Value.bool (sameAll (D ++ T.take (j + 1)) a b)] ∧ Good [n77, n53, n18] w56 w') ?_ ?_
      · rintro us vs w80 ⟨rfl, g80⟩
        refine opB_in ⟨hc.size, in46 _ hc T[j] g80 fun w83 g83 => ?_⟩
        rw [ref_fits _ _ hmem]
        refine Bd_in fun b85 hb85 => If_in (fun h => absurd h (by rw [hb85]; simp)) fun _ => Bd_in fun x86 hx86 => ?_
        rw [inc_i64 (by omega)] at hx86
        subst hx86
        exact ⟨T.length - (j + 1), by omega, j + 1, o', rfl, rfl, rfl, by omega, g83.1⟩
      intro w88 h88 hL88
      have g88 : Good [n77, n53, n18] w56 w88.drew := ⟨(h64.trans (h88.fresh (by simpa using hn77))).trans (Md_drew _), hL88⟩
      have hadd : sameAll (D ++ T.take (j + 1)) a b = (sameAll (D ++ T.take j) a b && (inQ T[j] a == inQ T[j] b)) := by
        rw [List.take_succ_eq_append_getElem hb', ← List.append_assoc]
        unfold sameAll
        rw [List.all_append]
        simp
      refine Gd_to (fun y w' => (sameAll (D ++ T.take j) a b = true → y = inQ T[j] a) ∧ Good [n77, n53, n18] w56 w') ?_ (fun fin _ => in50 T[j] ha g88 fun w91 g91 => fin _ _ ⟨fun _ => rfl, g91⟩) fun h => ⟨fun h' => absurd h' (by simp [h]), g88⟩
      rintro y w94 ⟨hy, g94⟩
      refine Gd_to (fun z w' => (sameAll (D ++ T.take j) a b = true → z = inQ T[j] b) ∧ Good [n77, n53, n18] w56 w') ?_ (fun fin _ => in50 T[j] hb g94 fun w97 g97 => fin _ _ ⟨fun _ => rfl, g97⟩) fun h => ⟨fun h' => absurd h' (by simp [h]), g94⟩
      rintro z w100 ⟨hz, g100⟩
      refine Bd_in fun b101 hb101 => Bd_in fun b102 hb102 => ⟨?_, g100⟩
      rw [hadd, hb102, hb101]
      cases hsa : sameAll (D ++ T.take j) a b with
      | false => rfl
      | true => rw [hy hsa, hz hsa]; rfl
    · subst hb68
      simp only [decide_eq_false_iff_not, Int.ofNat_lt] at hb'
      rw [inc_i64 (by omega)] at hx103
      subst hx103
      refine ⟨r'.len, by simp [Fo.len], i + 1, r', D ++ T, o', ?_, trivial, rfl, by omega, by omega, hr', by rw [hset']; simp, ⟨g64.1, fun x hx => g64.2 x (List.mem_cons_of_mem _ hx)⟩⟩
      rw [List.take_of_length_le (by omega)]
  · subst hb38
    simp only [decide_eq_false_iff_not, Int.ofNat_lt] at hb'
    have hD : D = fo.good.sets := by
      cases r with
      | nil => simp only [Fo.sets, List.append_nil] at hset; exact hset.symm
      | cons => simp only [Fo.len] at hi; omega
    subst hD
    obtain ⟨x, hx, hxn⟩ := hc.getI ha
    obtain ⟨y, hy, hyn⟩ := hc.getI hb
    refine ⟨⟨by omega, by omega⟩, BdO_in hxn ?_⟩
    refine opI_in ⟨⟨by omega, by omega⟩, BdO_in hyn ?_⟩
    refine opI_in <| Bd_in fun b113 hb113 => Bd_in fun b114 hb114 => ?_
    have t114 : b114 = true := by
      rw [hb114, hb113, ref_same _ ha hb hx hy]
      simp
    clear hb114
    subst t114
    exact ⟨fun _ => in39 g34.drew fun w117 g117 => Bd_in fun b121 hb121 => ⟨by rw [hb121]; rfl, h09.trans g117.1⟩, fun h => by cases h⟩
end Fk
