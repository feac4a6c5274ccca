/- Regular trees in memory. -/
import Derived.Test.YtpgjpgecgibklaaT0
set_option linter.unusedVariables false
namespace Fk
open Go Go.RowKit
/-- A row of trees: the first one, its kids, and the others. -/
inductive Fo where
  | nil
  | cons (k a b c d : Int) (kids rest : Fo)
def Fo.len : Fo → Nat
  | .nil => 0
  | .cons _ _ _ _ _ _ r => r.len + 1
def Fo.size : Fo → Nat
  | .nil => 0
  | .cons _ _ _ _ _ q r => q.size + r.size + 1
/-- The cells of a tree. -/
def ReC (w : World) (B : Addr) (k a b c d : Int) (sa : Option Addr) (sn sc : Nat) : Prop :=
  w.cell? (B.add 0) = some (.int .u8 k) ∧ w.cell? (B.add 1) = some (.int .u64 a) ∧ w.cell? (B.add 2) = some (.int .u64 b) ∧ w.cell? (B.add 3) = some (.int .u64 c) ∧
    w.cell? (B.add 4) = some (.int .u64 d) ∧ w.cell? (B.add 5) = some (.slice sa sn sc)
/-- A row of trees lies in memory, from the i-th place of A on. -/
def RepF (w : World) : Option Addr → Nat → Fo → Prop
  | _, _, .nil => True
  | A, i, .cons k a b c d q r => (∃ B sa sc, A = some B ∧ ReC w (B.add (i * 6)) k a b c d sa q.len sc ∧ q.len < 2 ^ 63 ∧ RepF w sa 0 q) ∧ RepF w A (i + 1) r
theorem ReC.md {w w' : World} {B : Addr} {k a b c d : Int} {sa : Option Addr} {sn sc : Nat} (h : ReC w B k a b c d sa sn sc) (hm : Md [] w w') : ReC w' B k a b c d sa sn sc :=
  ⟨hm.cell0 h.1, hm.cell0 h.2.1, hm.cell0 h.2.2.1, hm.cell0 h.2.2.2.1, hm.cell0 h.2.2.2.2.1, hm.cell0 h.2.2.2.2.2⟩
theorem RepF.md {w w' : World} (hm : Md [] w w') : ∀ {A : Option Addr} {i : Nat} {f : Fo}, RepF w A i f → RepF w' A i f
  | _, _, .nil, _ => trivial
  | A, i, .cons k a b c d q r, h => by
    simp only [RepF] at h ⊢
    obtain ⟨⟨B, sa, sc, h1, h2, h3, h4⟩, h5⟩ := h
    exact ⟨⟨B, sa, sc, h1, h2.md hm, h3, RepF.md hm h4⟩, RepF.md hm h5⟩
/-- The tree that comes next. -/
theorem RepF.at {w : World} {A : Option Addr} {i : Nat} {k a b c d : Int} {q r : Fo} (h : RepF w A i (.cons k a b c d q r)) :
    ∃ B sa sc, A = some B ∧ ReC w (B.add (i * 6)) k a b c d sa q.len sc ∧ q.len < 2 ^ 63 ∧ RepF w sa 0 q ∧ RepF w A (i + 1) r := by
  simp only [RepF] at h
  obtain ⟨⟨B, sa, sc, h1, h2, h3, h4⟩, h5⟩ := h
  exact ⟨B, sa, sc, h1, h2, h3, h4, h5⟩
/-- Six cells are read. -/
theorem ReC.ld {w : World} {B : Addr} {k a b c d : Int} {sa : Option Addr} {sn sc : Nat} (h : ReC w B k a b c d sa sn sc) {K : Int → Int → Int → Int → Int → Option Addr → Nat → Nat → Prop}
    (hk : K k a b c d sa sn sc) :
    Ld w (B.add 0) fun v14 => Ld w (B.add 1) fun v15 => Ld w (B.add 2) fun v16 => Ld w (B.add 3) fun v17 => Ld w (B.add 4) fun v18 => Ld w (B.add 5) fun v19 =>
      opI .u8 v14 fun x20 => opI .u64 v15 fun x21 => opI .u64 v16 fun x22 => opI .u64 v17 fun x23 => opI .u64 v18 fun x24 => opL v19 fun a25 n26 n27 => K x20 x21 x22 x23 x24 a25 n26 n27 :=
  Ld_in h.1 <| Ld_in h.2.1 <| Ld_in h.2.2.1 <| Ld_in h.2.2.2.1 <| Ld_in h.2.2.2.2.1 <| Ld_in h.2.2.2.2.2 <| opI_in <| opI_in <| opI_in <| opI_in <| opI_in <| opL_in hk
end Fk
