/- The law 'DiskNone': what its code does. -/
import Derived.Test.YtpgjpgecgibklaaE7
set_option linter.unusedVariables false
set_option linter.unusedSimpArgs false
set_option maxRecDepth 100000
namespace Fk
open Go Go.Proofs Go.RowKit
/-- No disk. -/
def NoD (w : World) (p : Option Addr) : Prop := p = none ∨ ∃ n, p = some ⟨n, 0, none⟩ ∧ Blk w n 155 [.slice none 0 0, .slice none 0 0, .int .i64 0]
theorem NoD.md {w w' : World} {p : Option Addr} (h : NoD w p) (hm : Md [] w w') : NoD w' p := by
  rcases h with h | ⟨n, h1, h2⟩
  · exact .inl h
  · exact .inr ⟨n, h1, h2.md hm (by simp)⟩
theorem no191 {w : World} {p : Option Addr} (h : NoD w p) : Ct Try.prog 191 #[.pointer p] w fun v w' => v = .bool true ∧ Md [] w w' := by
  rcases h with rfl | ⟨n, rfl, hb⟩
  · exact f191_nil w
  · exact f191_zero n w hb
theorem non191 {L : List Nat} {w : World} {p : Option Addr} (h : NoD w p) (hL : ∀ b ∈ L, b < w.heap.size) {K : Bool → World → Prop} (k : ∀ w', Md [] w w' → K true w') : CallW Try.prog L 191 #[.pointer p] (fun v w' => opB v fun b => K b w') w := by
  refine (no191 h).call hL ?_
  rintro v w' rfl h'
  exact opB_in (k w' h')
section
variable {w : World} {p : Option Addr}
theorem no102 (h : NoD w p) (x : Int) : Ct Try.prog 102 #[.pointer p, .int .i64 x] w fun v w' => v = .tuple #[] ∧ Md [] w w' := by
  apply f102_in
  exact non191 h (by simp) fun w2 m2 => Bd_f rfl <| If_f ⟨rfl, m2⟩
theorem no106 (h : NoD w p) (x y : Int) : Ct Try.prog 106 #[.pointer p, .int .i64 x, .int .i64 y] w fun v w' => v = .tuple #[] ∧ Md [] w w' := by
  apply f106_in
  exact non191 h (by simp) fun w2 m2 => If_t ⟨rfl, m2⟩
theorem no119 (h : NoD w p) (x : Int) : Ct Try.prog 119 #[.pointer p, .int .i64 x] w fun v w' => v = .tuple #[.slice none 0 0, .int .i64 1] ∧ Md [] w w' := by
  apply f119_in
  exact non191 h (by simp) fun w2 m2 => If_t ⟨rfl, m2⟩
theorem no114 (h : NoD w p) (x : Int) (a : Option Addr) (n c : Nat) : Ct Try.prog 114 #[.pointer p, .int .i64 x, .slice a n c] w fun v w' => v = .int .i64 1 ∧ Md [] w w' := by
  apply f114_in
  exact non191 h (by simp) fun w2 m2 => If_t ⟨rfl, m2⟩
theorem no103 (h : NoD w p) : Ct Try.prog 103 #[.pointer p] w fun v w' => v = .int .i64 1 ∧ Md [] w w' := by
  apply f103_in
  exact non191 h (by simp) fun w2 m2 => If_t ⟨rfl, m2⟩
theorem no112 (h : NoD w p) : Ct Try.prog 112 #[.pointer p] w fun v w' => v = .int .i64 0 ∧ Md [] w w' := by
  apply f112_in
  exact non191 h (by simp) fun w2 m2 => If_t ⟨rfl, m2⟩
theorem no108 (h : NoD w p) : Ct Try.prog 108 #[.pointer p] w fun v w' => v = .int .i64 0 ∧ Md [] w w' := by
  apply f108_in
  exact non191 h (by simp) fun w2 m2 => If_t ⟨rfl, m2⟩
theorem no104 (h : NoD w p) : Ct Try.prog 104 #[.pointer p] w fun v w' => v = .slice none 0 0 ∧ Md [] w w' := by
  apply f104_in
  exact non191 h (by simp) fun w2 m2 => If_t ⟨rfl, m2⟩
end
def pE (a : Option Addr) : List Value := [.pointer a]
theorem encP : Enc 1 pE := ⟨fun _ => rfl, by intro x v hv; simp [pE] at hv; subst hv; rfl⟩
theorem f28_ok (i n : Int) (A : Option Addr) (m C : Nat) (w : World) : Ct Try.prog 28 #[.int .i64 i, .int .i64 n, .slice A m C] w fun v w' => v = .bool true ∧ Md [] w w' := by
  apply f28_in
  intro n1 w2 e1 e2
  subst e1; subst e2
  have hb : Blk (w.alloc (.cells #[.slice none 0 0, .slice none 0 0, .int .i64 0] 155)) w.heap.size 155 [.slice none 0 0, .slice none 0 0, .int .i64 0] := heap_alloc_new w _
  have m1 : Md [] w (w.alloc (.cells #[.slice none 0 0, .slice none 0 0, .int .i64 0] 155)) := Md.alloc w _
  generalize w.alloc (.cells #[.slice none 0 0, .slice none 0 0, .int .i64 0] 155) = w2 at *
  intro n3 w4 e3 e4
  subst e3; subst e4
  have m2 : Md [] w2 (w2.alloc (.cells #[.pointer none, .pointer (some ⟨w.heap.size, 0, none⟩)] 119)) := Md.alloc w2 _
  have hrow : RowAt (w2.alloc (.cells #[.pointer none, .pointer (some ⟨w.heap.size, 0, none⟩)] 119)) (some ⟨w2.heap.size, 0, none⟩) 1 pE [none, some ⟨w.heap.size, 0, none⟩] :=
    (OwnL.lit (P := Try.prog) (base := w2.heap.size) encP w2 119 [none, some ⟨w.heap.size, 0, none⟩] _ (Nat.le_refl _) (by simp [maxLen]) rfl).row encP
  generalize w2.alloc (.cells #[.pointer none, .pointer (some ⟨w.heap.size, 0, none⟩)] 119) = w4 at *
  have hno : ∀ (j : Nat) (hj : j < 2), NoD w4 ([none, some ⟨w.heap.size, 0, none⟩][j]'hj) := by
    intro j hj
    match j, hj with
    | 0, _ => exact .inl rfl
    | 1, _ => exact .inr ⟨_, rfl, hb.md m2 (by simp)⟩
  refine Bd_e (y := 2) rfl ?_
  refine LoopP_in (fun k us vs w' => ∃ j : Nat, us = [.bool false, .int .i64 j] ∧ k = 2 - j ∧ j ≤ 2 ∧ Md [] w4 w') 2 ⟨0, rfl, rfl, by omega, Md.refl _ _⟩ ?_
  rintro k us vs w9 ⟨j, rfl, rfl, hj, m9⟩
  refine opB_in <| opI_in <| Bd_in fun b12 hb12 => If_in (fun h => ?_) fun h => ?_
  · have hj' : j < 2 := by rw [hb12] at h; have : (j : Int) < 2 := by simpa using h
                           omega
    have hp := (hno j hj').md m9
    generalize hP : [none, some (⟨w.heap.size, 0, none⟩ : Addr)][j]'hj' = P at *
    refine ⟨(hrow.ix (i := j) hj'), (hrow.md m9).ld1 (i := j) hj' (by rw [hP]; rfl) <| opP_in ?_⟩
    refine (no102 hp n).call (by simp) ?_
    rintro v w16 rfl m16
    refine opTu_in <| SzIs_in rfl ?_
    have hp := hp.md m16
    refine (no106 hp i n).call (by simp) ?_
    rintro v w19 rfl m19
    refine opTu_in <| SzIs_in rfl ?_
    have hp := hp.md m19
    refine (no119 hp i).call (by simp) ?_
    rintro v w22 rfl m22
    refine opTu_in <| opL_in <| opI_in <| SzIs_in rfl ?_
    have hp := hp.md m22
    refine (no114 hp i A m C).call (by simp) ?_
    rintro v w29 rfl m29
    have hp := hp.md m29
    refine opI_in <| Bd_f rfl <| Gd_t ?_
    refine (no103 hp).call (by simp) ?_
    rintro v w37 rfl m37
    have hp := hp.md m37
    refine opI_in <| Bd_f rfl <| Bd_f rfl <| Bd_f rfl <| Bd_f rfl <| Bd_e rfl <| Bd_f rfl <| Bd_f rfl <| Gd_t ?_
    refine (no112 hp).call (by simp) ?_
    rintro v w50 rfl m50
    have hp := hp.md m50
    refine opI_in <| Gd_t ?_
    refine (no108 hp).call (by simp) ?_
    rintro v w56 rfl m56
    have hp := hp.md m56
    refine opI_in <| Bd_e (y := 0) rfl <| Gd_t ?_
    refine (no104 hp).call (by simp) ?_
    rintro v w65 rfl m65
    refine opL_in <| Bd_e (y := 0) rfl <| Bd_e (y := 0) rfl <| Bd_f rfl <| Bd_f rfl <| If_f <| Bd_e (inc_i64 (by omega)) ⟨2 - (j + 1), by omega, j + 1, rfl, rfl, by omega, ?_⟩
    exact m9.trans (m16.trans (m19.trans (m22.trans (m29.trans (m37.trans (m50.trans (m56.trans m65)))))))
  · exact in107 (m1.trans (m2.trans m9)) (by simp) fun w71 m71 _ => ⟨rfl, m71⟩
end Fk
