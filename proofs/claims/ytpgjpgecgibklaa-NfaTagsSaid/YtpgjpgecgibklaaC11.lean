/- Contracts: the trees that are right; the law 'ClassesSame'. -/
import Derived.Test.YtpgjpgecgibklaaC10
import Derived.Test.YtpgjpgecgibklaaP1
set_option linter.unusedVariables false
set_option linter.unusedSimpArgs false
set_option maxRecDepth 100000
namespace Fk
open Go Go.Proofs Go.RowKit
def Fo.app : Fo → Fo → Fo
  | .nil, x => x
  | .cons k a b c d q r, x => .cons k a b c d q (r.app x)
theorem Fo.app_nil : ∀ x : Fo, x.app .nil = x
  | .nil => rfl
  | .cons k a b c d q r => by rw [Fo.app, r.app_nil]
theorem Fo.app_assoc : ∀ x y z : Fo, (x.app y).app z = x.app (y.app z)
  | .nil, y, z => rfl
  | .cons k a b c d q r, y, z => by simp only [Fo.app, r.app_assoc]
theorem Fo.app_sets : ∀ x y : Fo, (x.app y).sets = x.sets ++ y.sets
  | .nil, y => rfl
  | .cons k a b c d q r, y => by simp only [Fo.app, Fo.sets, r.app_sets]; simp
theorem Fo.app_right : ∀ x y : Fo, (x.app y).right = (x.right && y.right)
  | .nil, y => rfl
  | .cons k a b c d q r, y => by simp only [Fo.app, Fo.right, r.app_right]; simp [Bool.and_assoc]
theorem Fo.app_len : ∀ x y : Fo, (x.app y).len = x.len + y.len
  | .nil, y => by simp [Fo.app, Fo.len]
  | .cons k a b c d q r, y => by simp only [Fo.app, Fo.len, r.app_len]; omega
theorem Fo.app_size : ∀ x y : Fo, (x.app y).size = x.size + y.size
  | .nil, y => by simp [Fo.app, Fo.size]
  | .cons k a b c d q r, y => by simp only [Fo.app, Fo.size, r.app_size]; omega
theorem TrF.app {w : World} : ∀ {l l2 : List Tr} {f f2 : Fo}, TrF w l f → TrF w l2 f2 → TrF w (l ++ l2) (f.app f2)
  | [], l2, .nil, f2, _, h2 => h2
  | t :: l, l2, .cons k a b c d q r, f2, ⟨h, h1⟩, h2 => ⟨h, TrF.app h1 h2⟩
  | [], _, .cons .., _, h, _ => h.elim
  | _ :: _, _, .nil, _, h, _ => h.elim
/-- Those that are right. -/
def Fo.good : Fo → Fo
  | .nil => .nil
  | .cons k a b c d q r => if (nodeOk k (z4 a b c d) q.len && q.right) = true then .cons k a b c d q r.good else r.good
theorem Fo.good_right : ∀ f : Fo, f.good.right = true
  | .nil => rfl
  | .cons k a b c d q r => by
    simp only [Fo.good]
    split
    · rename_i h; simp only [Fo.right, h, r.good_right]; rfl
    · exact r.good_right
theorem Fo.good_len : ∀ f : Fo, f.good.len ≤ f.len
  | .nil => Nat.le_refl _
  | .cons k a b c d q r => by
    have := r.good_len
    simp only [Fo.good]
    split <;> simp only [Fo.len] <;> omega
theorem Fo.good_size : ∀ f : Fo, f.good.size ≤ f.size
  | .nil => Nat.le_refl _
  | .cons k a b c d q r => by
    have := r.good_size
    simp only [Fo.good]
    split <;> simp only [Fo.size] <;> omega
theorem f48_ok (fo : Fo) (sa : Option Addr) (sc : Nat) (w : World) (hr : RepF w sa 0 fo) (hl : fo.len < 2 ^ 40) :
    Ct Try.prog 48 #[.slice sa fo.len sc] w fun v w' => (∃ a c L, v = .slice a L.length c ∧ OwnT w' w.heap.size a c L ∧ TrF w' L fo.good) ∧ Md [] w w' := by
  apply f48_in
  refine Bd_in fun x1 hx1 => ?_
  subst hx1
  refine LoopP_in (fun m us vs w' => ∃ (i : Nat) (r : Fo) (a : Option Addr) (c : Nat) (L : List Tr) (f1 : Fo), us = [.slice a L.length c, .int .i64 i] ∧ vs = [] ∧ m = r.len ∧ i + r.len = fo.len ∧ L.length + r.len ≤ fo.len ∧ RepF w sa i r ∧ Md [] w w' ∧
      OwnT w' w.heap.size a c L ∧ TrF w L f1 ∧ f1.app r.good = fo.good)
    fo.len ⟨0, fo, none, 0, [], .nil, rfl, rfl, rfl, by omega, by simp, hr, Md.refl _ _, OwnL.nil .., trivial, rfl⟩ ?_
  rintro m us vs w5 ⟨i, r, a, c, L, f1, rfl, rfl, rfl, hi, hls, hri, h5, ho5, hT5, hf1⟩
  refine opL_in <| opI_in <| Bd_in fun b10 hb10 => If_in (fun hb => ?_) fun hb => ?_
  · subst hb10
    simp only [decide_eq_true_eq, Int.ofNat_lt] at hb
    cases r with
    | nil => simp [Fo.len] at hi; omega
    | cons k' a' b' c' d' q' r' => ?_
    obtain ⟨B, sa', sc', rfl, hc', hql, hq, hr'⟩ := hri.at
    simp only [Fo.len] at hi hls
    refine Jn_in (fun us vs w' => ∃ (a : Option Addr) (c : Nat) (L' : List Tr) (f2 : Fo), us = [.slice a L'.length c] ∧ L'.length ≤ L.length + 1 ∧ Md [] w w' ∧ OwnT w' w.heap.size a c L' ∧ TrF w L' f2 ∧ f2.app r'.good = fo.good) ?_ ?_
    · rintro us vs w13 ⟨a1, c1, L', f2, rfl, hL', h13, ho13, hT13, hf2⟩
      refine opL_in <| Bd_in fun x17 hx17 => ?_
      rw [inc_i64 (by omega)] at hx17
      subst hx17
      exact ⟨r'.len, by simp [Fo.len], i + 1, r', a1, c1, L', f2, rfl, rfl, rfl, by omega, by omega, hr', h13, ho13, hT13, hf2⟩
    · refine ⟨⟨by omega, by omega, rfl⟩, ?_⟩
      refine ReC.ld (hc'.md h5) ?_
      intro n33 hn33 w34 h34 hL34
      have h34' := h5.old h34 (by simpa using Nat.le_trans h5.size hn33)
      have ho34 := ho5.mdN h34 (by simpa using hn33)
      refine (f144_ok _ q' _ _ _ _ _ _ _ _ (Nat.le_refl _) (hq.md h34') hql).call hL34 ?_
      rintro v35 w36 rfl h36
      have h36' := h34'.trans h36
      have ho36 := ho34.md h36
      simp only [Fo.good] at hf1
      refine opB_in <| If_in (fun h => ?_) fun h => ?_
      · rw [if_pos h] at hf1
        refine app_one rowT22 enc6 ⟨k', (a', b', c', d'), sa', q'.len, sc'⟩ rfl ho36 h36'.size (fun b hb => Nat.lt_of_lt_of_le (hL34 b hb) h36.size) ?_ (by simp [maxLen]; omega) (by omega) ?_
        · intro b hb A hA
          have := (ho5.lt hA).2
          simp at hb; omega
        intro a42 c42 w41 ho41 hm41 _
        have h41 := h36'.own ho36 hm41
        have hTt : TrF w [⟨k', (a', b', c', d'), sa', q'.len, sc'⟩] (.cons k' a' b' c' d' q' .nil) := ⟨⟨rfl, rfl, rfl, hql, hq⟩, trivial⟩
        refine opL_in ⟨a42, c42, _, f1.app (.cons k' a' b' c' d' q' .nil), rfl, by simp, h41, ho41, TrF.app hT5 hTt, ?_⟩
        rw [← hf1, Fo.app_assoc]; rfl
      · rw [if_neg (by simp [h])] at hf1
        exact ⟨a, c, L, f1, rfl, by omega, h36', ho36, hT5, hf1⟩
  · subst hb10
    simp only [decide_eq_false_iff_not, Int.ofNat_lt] at hb
    cases r with
    | nil => simp only [Fo.good, Fo.app_nil] at hf1; rw [← hf1]; exact ⟨⟨a, c, L, rfl, ho5, hT5.md h5⟩, h5⟩
    | cons => simp only [Fo.len] at hi; omega
end Fk
