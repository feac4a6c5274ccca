/- Contracts of functions, and plain laws: several texts, joined. -/
import Derived.Test.YtpgjpgecgibklaaGR4
import Derived.Laws.Strings2
import Derived.Test.YtpgjpgecgibklaaGR1
import Derived.Test.YtpgjpgecgibklaaGV1
import Derived.Test.YtpgjpgecgibklaaGK2
import Derived.Test.YtpgjpgecgibklaaGR3
import Derived.Lib.AppendZerosOnto
set_option linter.unusedVariables false
set_option linter.unusedSimpArgs false
set_option maxRecDepth 100000
set_option maxHeartbeats 2000000
namespace Fk
open Go Go.Proofs Go.RowKit
theorem one_min {most : Nat} {k a b c d : Int} {q : Fo} (hn : nodeOk k (z4 a b c d) q.len = true) (hq : q.right = true) (p : List Ns × Int) (h : p.1.length ≤ most + 1) : (twOne most k a b c d (tw most q) p).1.length = min (p.1.length + cntK k q.len q.cnt) (most + 1) :=
  (tw_min most (.cons k a b c d q .nil) (by simp [Fo.right, hn, hq])).2.2 p h
theorem one_agree {most M : Nat} (hM : most ≤ M) {k a b c d : Int} {q : Fo} (hn : nodeOk k (z4 a b c d) q.len = true) (hq : q.right = true) (p : List Ns × Int) (h : p.1.length + cntK k q.len q.cnt ≤ most) : twOne most k a b c d (tw most q) p = twOne M k a b c d (tw M q) p :=
  (tw_agree hM (.cons k a b c d q .nil) (by simp [Fo.right, hn, hq])).2.2 p h
theorem bldF_min (most : Nat) : ∀ (f : Fo) (i : Int) (l : List Ns) (bs : List Int), f.right = true → l.length ≤ most + 1 → (bldF most f i l bs).1.length = min (l.length + (f.cnt + f.len)) (most + 1) ∧ (bldF most f i l bs).2.length = bs.length + f.len
  | .nil, i, l, bs, _, hl => by simp only [bldF, Fo.cnt, Fo.len]; omega
  | .cons k a b c d q r, i, l, bs, hr, hl => by
    simp only [Fo.right, Bool.and_eq_true] at hr
    have h1 := mst_min most l ⟨0, 0, 0, 0, 0, 0, 0, i⟩ hl
    have h2 := one_min (most := most) hr.1.1 hr.1.2 (pst most l ⟨0, 0, 0, 0, 0, 0, 0, i⟩) (by simp only [pst]; omega)
    simp only [pst] at h2
    obtain ⟨h3, h4⟩ := bldF_min most r (i + 1) (twOne most k a b c d (tw most q) (pst most l ⟨0, 0, 0, 0, 0, 0, 0, i⟩)).1 (bs ++ [(twOne most k a b c d (tw most q) (pst most l ⟨0, 0, 0, 0, 0, 0, 0, i⟩)).2]) hr.2 (by simp only [pst]; omega)
    simp only [bldF, Fo.cnt, Fo.len]
    simp only [pst] at h3 h4 ⊢
    rw [h3, h4, h2, h1]
    simp
    omega
theorem bldF_agree {most M : Nat} (hM : most ≤ M) : ∀ (f : Fo) (i : Int) (l : List Ns) (bs : List Int), f.right = true → l.length + (f.cnt + f.len) ≤ most → bldF most f i l bs = bldF M f i l bs
  | .nil, i, l, bs, _, hl => rfl
  | .cons k a b c d q r, i, l, bs, hr, hl => by
    simp only [Fo.right, Bool.and_eq_true] at hr
    simp only [Fo.cnt, Fo.len] at hl
    have e1 : pst most l ⟨0, 0, 0, 0, 0, 0, 0, i⟩ = pst M l ⟨0, 0, 0, 0, 0, 0, 0, i⟩ := by unfold pst; rw [mst_agree _ (by omega) hM]
    have h1 := mst_min M l ⟨0, 0, 0, 0, 0, 0, 0, i⟩ (by omega)
    have e2 := one_agree hM hr.1.1 hr.1.2 (pst M l ⟨0, 0, 0, 0, 0, 0, 0, i⟩) (by simp only [pst]; omega)
    have h2 := one_min (most := M) hr.1.1 hr.1.2 (pst M l ⟨0, 0, 0, 0, 0, 0, 0, i⟩) (by simp only [pst]; omega)
    simp only [bldF]
    rw [e1, e2]
    refine bldF_agree hM r _ _ _ hr.2 ?_
    rw [h2]
    simp only [pst]
    omega
theorem joinB_min (most : Nat) : ∀ (bs : List Int) (l : List Ns), l.length ≤ most + 1 → (joinB most bs l).1.length = min (l.length + (bs.length - 1)) (most + 1)
  | [], l, h => by simp [joinB]; omega
  | [b], l, h => by simp [joinB]; omega
  | b :: b2 :: bs, l, h => by
    have h1 := joinB_min most (b2 :: bs) l h
    have h2 := mst_min most (joinB most (b2 :: bs) l).1 (spl b (joinB most (b2 :: bs) l).2) (by omega)
    show (mst most _ _).length = _
    rw [h2, h1]
    simp
    omega
theorem joinB_agree {most M : Nat} (hM : most ≤ M) : ∀ (bs : List Int) (l : List Ns), l.length + (bs.length - 1) ≤ most → joinB most bs l = joinB M bs l
  | [], l, h => rfl
  | [b], l, h => rfl
  | b :: b2 :: bs, l, h => by
    simp only [List.length_cons] at h
    have h1 := joinB_agree hM (b2 :: bs) l (by simp; omega)
    have h2 := joinB_min M (b2 :: bs) l (by omega)
    simp only [List.length_cons] at h2
    show pst most (joinB most (b2 :: bs) l).1 _ = pst M (joinB M (b2 :: bs) l).1 _
    rw [h1]
    unfold pst
    rw [mst_agree _ (by omega) hM]
def Fo.total (f : Fo) : Nat := f.cnt + (2 * f.len - 1)
/-- The machine with a cap that is not met. -/
def bldM (f : Fo) : List Ns × Int := joinB 20000 (bldF 20000 f 0 [] []).2 (bldF 20000 f 0 [] []).1
theorem bld_eq {f : Fo} {most : Int} (h1 : 1 ≤ f.len) (h2 : f.len ≤ 200) (h3 : 1 ≤ most) (h4 : most ≤ 20000) (hr : f.right = true) : bld f most = if most < f.total then ((0, []), 40) else (((bldM f).2, (bldM f).1), 0) := by
  obtain ⟨m, rfl⟩ := Int.eq_ofNat_of_zero_le (show 0 ≤ most by omega)
  unfold bld
  rw [if_pos ⟨h1, h2, h3, h4, hr⟩]
  simp only [Int.toNat_natCast]
  obtain ⟨b1, b2⟩ := bldF_min m f 0 [] [] hr (by simp)
  have b3 := joinB_min m (bldF m f 0 [] []).2 (bldF m f 0 [] []).1 (by omega)
  simp only [List.length_nil] at b1 b2
  unfold Fo.total
  by_cases hc : (m : Int) < ((f.cnt + (2 * f.len - 1) : Nat) : Int)
  · rw [if_pos hc, if_pos (by omega)]
  · rw [if_neg hc, if_neg (by omega)]
    unfold bldM
    have e1 := bldF_agree (show m ≤ 20000 by omega) f 0 [] [] hr (by simp; omega)
    rw [e1] at b1 b2 ⊢
    rw [joinB_agree (show m ≤ 20000 by omega) _ _ (by omega)]
theorem bldM_len {f : Fo} (h1 : 1 ≤ f.len) (hr : f.right = true) (h : f.total ≤ 20000) : (bldM f).1.length = f.total := by
  obtain ⟨b1, b2⟩ := bldF_min 20000 f 0 [] [] hr (by simp)
  have b3 := joinB_min 20000 (bldF 20000 f 0 [] []).2 (bldF 20000 f 0 [] []).1 (by omega)
  simp only [List.length_nil] at b1 b2
  unfold bldM
  unfold Fo.total at h ⊢
  rw [b3]
  omega
/-- States, and beginnings. -/
structure S2 (wb : World) (n1 : Nat) (w : World) (a : Option Addr) (c : Nat) (l : List Ns) (a2 : Option Addr) (c2 : Nat) (bs : List Int) : Prop where
  q : Sq wb wb none n1 w a c l
  o : OwnL w wb.heap.size 3 1 i1 a2 c2 bs
  ap : Apt a2 a
section
variable {wb w : World} {a a2 : Option Addr} {n1 c c2 : Nat} {l : List Ns} {bs : List Int}
theorem S2.st (S : S2 wb n1 w a c l a2 c2 bs) {w' : World} {a' : Option Addr} {c' : Nat} {l' : List Ns} (h : Sq wb wb none n1 w' a' c' l') (hm : Md (a.map (·.block)).toList w w') (hA : ∀ A, a' = some A → a = some A ∨ w.heap.size ≤ A.block) : S2 wb n1 w' a' c' l' a2 c2 bs :=
  ⟨h, S.o.mdD hm fun A hA' hd => by obtain ⟨B, hB, e⟩ := mem_blk hd; exact S.ap A B hA' hB e.symm, fun A B hA' hB e => by
    rcases hA B hB with h1 | h1
    · exact S.ap A B hA' h1 e
    · have := (S.o.lt hA').2; omega⟩
end
end Fk
set_option linter.unusedVariables false
set_option linter.unusedSimpArgs false
set_option maxRecDepth 100000
set_option maxHeartbeats 2000000
namespace Fk
open Go Go.Proofs Go.RowKit
theorem rgU {L : List Nat} {w0 w : World} {K : Nat → World → Prop} (h : Good L w0 w) (k : ∀ n w', Good (n :: L) w0 w' → Md [] w w' → K n w') : Rg w fun n => Up [n] (n :: L) w (K n) :=
  fun n hn w' hm hL => k n w' ⟨h.1.trans (hm.fresh (by simp; exact hn)), hL⟩ (hm.fresh (by simp; exact hn))
section
variable {L : List Nat} {w0 w : World}
theorem in66 (f : Fo) (A : Option Addr) (C : Nat) (most : Int) (h : Good L w0 w) (hr : RepF w A 0 f) (hl : f.len < 2 ^ 63) {K : Int → Option Addr → Nat → Nat → Int → World → Prop}
    (kk : ∀ a c w', Good L w0 w' → Md [] w w' → OwnL w' w.heap.size 103 8 nsE a c (bld f most).1.2 → K (bld f most).1.1 a (bld f most).1.2.length c (bld f most).2 w') :
    CallW Try.prog L 66 #[.slice A f.len C, .int .i64 most] (fun v w' => opTu v fun cs => opAg (nthD cs.toList 0) fun cs2 => opI .i64 (nthD cs2.toList 0) fun x => opL (nthD cs2.toList 1) fun a n c => SzIs cs2.size 2 (opI .i64 (nthD cs.toList 1) fun e => SzIs cs.size 2 (K x a n c e w'))) w := by
  refine (f66_ok f A C most w hr hl).call h.2 ?_
  rintro v w' ⟨a, c, rfl, own⟩ h'
  exact opTu_in <| opAg_in <| opI_in <| opL_in <| SzIs_in rfl <| opI_in <| SzIs_in rfl <| kk a c w' (h.tr h') h' own
end
theorem ReC.blk {w : World} {n : Nat} {ty : TypeId} {l : List Value} (h : Blk w n ty l) (o : Nat) {k a b c d : Int} {sa : Option Addr} {sn sc : Nat}
    (e0 : l[o]? = some (.int .u8 k)) (e1 : l[o + 1]? = some (.int .u64 a)) (e2 : l[o + 2]? = some (.int .u64 b)) (e3 : l[o + 3]? = some (.int .u64 c)) (e4 : l[o + 4]? = some (.int .u64 d)) (e5 : l[o + 5]? = some (.slice sa sn sc)) :
    ReC w ((Addr.mk n 0 none).add o) k a b c d sa sn sc := by
  have e : ∀ j, ((Addr.mk n 0 none).add o).add j = ⟨n, o + j, none⟩ := fun j => by rw [add_add, ad0']
  unfold ReC
  rw [e, e, e, e, e, e]
  exact ⟨h.cell e0, h.cell e1, h.cell e2, h.cell e3, h.cell e4, h.cell e5⟩
end Fk
set_option linter.unusedVariables false
set_option linter.unusedSimpArgs false
set_option maxRecDepth 100000
set_option maxHeartbeats 2000000
namespace Fk
open Go Go.Proofs Go.RowKit
theorem bld_len (f : Fo) (most : Int) : (bld f most).1.2.length ≤ 20000 := by
  by_cases h : 1 ≤ f.len ∧ f.len ≤ 200 ∧ 1 ≤ most ∧ most ≤ 20000 ∧ f.right = true
  · rw [bld_eq h.1 h.2.1 h.2.2.1 h.2.2.2.1 h.2.2.2.2]
    split
    · simp
    · rename_i hc
      simp only
      rw [bldM_len h.1 h.2.2.2.2 (by omega)]
      omega
  · unfold bld; rw [if_neg h]; simp
end Fk
set_option linter.unusedVariables false
set_option linter.unusedSimpArgs false
set_option linter.unusedSectionVars false
set_option maxRecDepth 100000
namespace Fk
open Go Go.Proofs Go.RowKit
theorem num_right {K : Type} [DecidableEq K] : ∀ (ks kn : List K), rightGo (numGo ks kn).1 kn.length = some (numGo ks kn).2.length
  | [], kn => rfl
  | k :: ks, kn => by
    rw [numGo]
    by_cases h : k ∈ kn
    · have := idxK_lt h
      simp only [rightGo]
      rw [if_neg (by omega), if_neg (by omega), addK_old h]
      exact num_right ks kn
    · have := idxK_new h
      simp only [rightGo]
      rw [if_neg (by omega), if_pos (by omega), addK_new h]
      have ih := num_right ks (kn ++ [k])
      simpa using ih
theorem ref_go (l : List Q4) : rightGo (refCl l).f 0 = some (numGo ((List.range 256).map (sig l)) []).2.length := num_right _ []
theorem ref_m (l : List Q4) : (refCl l).m = ((numGo ((List.range 256).map (sig l)) []).2.length : Int) := rfl
theorem ref_right (l : List Q4) : (refCl l).right = true := by
  unfold Cl.right
  rw [ref_go, ref_m]
  simp
theorem sig_iff (l : List Q4) (a b : Nat) : sig l a = sig l b ↔ ∀ q ∈ l, inQ q a = inQ q b := by
  unfold sig
  rw [List.map_inj_left]
theorem num_lab_iff {K : Type} [DecidableEq K] (σ : Nat → K) (n : Nat) {a b : Nat} (ha : a < n) (hb : b < n) : (numGo ((List.range n).map σ) []).1[a]? = (numGo ((List.range n).map σ) []).1[b]? ↔ σ a = σ b := by
  rw [num_at σ n ha, num_at σ n hb]
  constructor
  · intro h
    exact idxK_inj (num_mem σ n ha) (num_mem σ n hb) (Option.some.inj h)
  · intro h; rw [h]
theorem ref_lab_iff (l : List Q4) {a b : Nat} (ha : a < 256) (hb : b < 256) : (refCl l).f[a]? = (refCl l).f[b]? ↔ ∀ q ∈ l, inQ q a = inQ q b := by
  rw [← sig_iff]
  exact num_lab_iff (sig l) 256 ha hb
end Fk
set_option linter.unusedVariables false
set_option linter.unusedSimpArgs false
set_option maxRecDepth 100000
namespace Fk
open Go Go.Proofs Go.RowKit
def Fo.app : Fo → Fo → Fo
  | .nil, x => x
  | .cons k a b c d q r, x => .cons k a b c d q (r.app x)
theorem TrF.app {w : World} : ∀ {l l2 : List Tr} {f f2 : Fo}, TrF w l f → TrF w l2 f2 → TrF w (l ++ l2) (f.app f2)
  | [], l2, .nil, f2, _, h2 => h2
  | t :: l, l2, .cons k a b c d q r, f2, ⟨h, h1⟩, h2 => ⟨h, TrF.app h1 h2⟩
  | [], _, .cons .., _, h, _ => h.elim
  | _ :: _, _, .nil, _, h, _ => h.elim
end Fk
set_option linter.unusedVariables false
set_option linter.unusedSimpArgs false
set_option maxRecDepth 100000
set_option maxHeartbeats 4000000
namespace Fk
open Go Go.Proofs Go.RowKit
section
variable {L : List Nat} {w0 w : World}
abbrev DIn (L : List Nat) (w0 w : World) (r : Dm × Int) (K : Int → Option Addr → Nat → Nat → Option Addr → Nat → Nat → Int → World → Prop) : Prop :=
  ∀ na nc ta tc w', Good L w0 w' → Md [] w w' → OwnL w' w.heap.size 3 1 i1 na nc r.1.2.1 → OwnL w' w.heap.size 3 1 i1 ta tc r.1.2.2 → K r.1.1 na r.1.2.1.length nc ta r.1.2.2.length tc r.2 w'
theorem in67 (st : Int) (l : List Ns) (A : Option Addr) (C : Nat) (c : Cl) (hc : c.ok) (most : Int) (h : Good L w0 w) (hr : RowAt w A 8 nsE l) (hl : l.length < 2 ^ 40) {K : Int → Option Addr → Nat → Nat → Option Addr → Nat → Nat → Int → World → Prop}
    (kk : DIn L w0 w (dBld st l c most) K) :
    CallW Try.prog L 67 #[.agg #[.int .i64 st, .slice A l.length C], .agg c.v, .int .i64 most] (fun v w' => opTu v fun cs => opAg (nthD cs.toList 0) fun cs2 => opI .i64 (nthD cs2.toList 0) fun x => opL (nthD cs2.toList 1) fun a n c => opL (nthD cs2.toList 2) fun a2 n2 c2 => SzIs cs2.size 3 (opI .i64 (nthD cs.toList 1) fun e => SzIs cs.size 2 (K x a n c a2 n2 c2 e w'))) w := by
  refine (f67_ok st l A C c hc most w hr (by omega)).call h.2 ?_
  rintro v w' ⟨na, nc, ta, tc, rfl, o1, o2, _⟩ h'
  exact opTu_in <| opAg_in <| opI_in <| opL_in <| opL_in <| SzIs_in rfl <| opI_in <| SzIs_in rfl <| kk na nc ta tc w' (h.tr h') h' o1 o2
end
end Fk
set_option linter.unusedVariables false
set_option linter.unusedSimpArgs false
set_option maxRecDepth 100000
set_option maxHeartbeats 4000000
namespace Fk
open Go Go.Proofs Go.RowKit
def ofC (f : Fo) : Cl × Int := if f.right = true then (clOf f.sets, 0) else (zCl 0, 2)
theorem ofC_ok (f : Fo) : (ofC f).1.ok := by
  unfold ofC
  split
  · exact clOf_ok _ _ (zCl_ok (by omega) (by omega))
  · exact zCl_ok (by omega) (by omega)
section
variable {L : List Nat} {w0 w : World}
theorem in40c (fo : Fo) (A : Option Addr) (C : Nat) (hl : fo.len < 2 ^ 40) (hbig : fo.size ≤ 2 ^ 39) {K : Array Value → Int → World → Prop} (h : Good L w0 w) (hr : RepF w A 0 fo)
    (k : ∀ w', Good L w0 w' → Md [] w w' → K (ofC fo).1.v (ofC fo).2 w') :
    CallW Try.prog L 40 #[.slice A fo.len C] (fun v w' => opTu v fun cs => opBig (nthD cs.toList 0) fun c => c.size = 257 ∧ opI .i64 (nthD cs.toList 1) fun e => SzIs cs.size 2 (K c e w')) w := by
  refine (f40_ok fo A C w hr hl hbig).call h.2 ?_
  rintro v w' rfl h'
  have hok := ofC_ok fo
  have e : (if fo.right = true then ofV (clOf fo.sets) 0 else ofV (zCl 0) 2) = ofV (ofC fo).1 (ofC fo).2 := by unfold ofC; cases fo.right <;> rfl
  rw [e]
  exact opTu_in <| opBig_in ⟨hok.size, opI_in <| SzIs_in rfl <| k w' (h.tr h') h'⟩
end
def ofD (f : Fo) (most : Int) : Dm × Int := dBld (bld f 20000).1.1 (bld f 20000).1.2 (ofC f).1 most
def ofB (f : Fo) (most : Int) : Bool := decide ((bld f 20000).2 = 0 ∧ (ofC f).2 = 0 ∧ (ofD f most).2 = 0)
theorem f85_ok (f : Fo) (A : Option Addr) (C : Nat) (most : Int) (w : World) (hr : RepF w A 0 f) (hl : f.len < 2 ^ 40) (hbig : f.size ≤ 2 ^ 39) :
    Ct Try.prog 85 #[.slice A f.len C, .int .i64 most] w fun v w' => (∃ a c na nc ta tc, v = .tuple #[.agg #[.int .i64 (bld f 20000).1.1, .slice a (bld f 20000).1.2.length c], .agg (ofC f).1.v, dmV (ofD f most).1 na nc ta tc, .bool (ofB f most)] ∧ OwnL w' w.heap.size 103 8 nsE a c (bld f 20000).1.2 ∧ OwnL w' w.heap.size 3 1 i1 na nc (ofD f most).1.2.1 ∧ OwnL w' w.heap.size 3 1 i1 ta tc (ofD f most).1.2.2) ∧ Md [] w w' := by
  apply f85_in
  intro n1 hn1 n2 hn2 n3 hn3 w4 m4 hL4
  have g4 : Good [n3, n2, n1] w w4 := ⟨m4, hL4⟩
  have hok := ofC_ok f
  have s4 := m4.size
  refine in66 f A C 20000 g4 (hr.md m4) (by omega) fun a c w6 g6 m6 own6 => rgU g6 fun n14 w15 g15 m15 => ?_
  refine in40c f A C hl hbig g15 (hr.md g15.1) fun w17 g17 m17 => ⟨hok.size, ?_⟩
  intro n21 hn21
  refine OkC_in hok.cells ⟨hok.size, fun w22 h22 hL22 => ?_⟩
  have m22 : Md [] w17 w22 := h22.fresh (by simp; exact hn21)
  have g22 : Good [n21, n14, n3, n2, n1] w w22 := ⟨g17.1.trans m22, hL22⟩
  have own22 := ((own6.md m15).md m17).md m22
  have hbl := bld_len f 20000
  refine in67 _ _ a c _ hok most g22 (own22.row encNs) (by omega) fun na nc ta tc w24 g24 m24 o1 o2 => ?_
  intro n35 hn35
  have own24 := own22.md m24
  have e0 : ofD f most = dBld (bld f 20000).1.1 (bld f 20000).1.2 (ofC f).1 most := rfl
  rw [← e0] at o1 o2 ⊢
  refine Jn_in (fun us vs w' => us = [.bool (ofB f most)] ∧ vs = [dmV (ofD f most).1 na nc ta tc, .agg (ofC f).1.v, .agg #[.int .i64 (bld f 20000).1.1, .slice a (bld f 20000).1.2.length c]] ∧ Md [] w w' ∧ OwnL w' w.heap.size 103 8 nsE a c (bld f 20000).1.2 ∧ OwnL w' w.heap.size 3 1 i1 na nc (ofD f most).1.2.1 ∧ OwnL w' w.heap.size 3 1 i1 ta tc (ofD f most).1.2.2) ?_ ?_
  · rintro us vs w38 ⟨rfl, rfl, q1, q2, q3, q4⟩
    exact opB_in <| opAg_in <| opI_in <| opL_in <| opL_in <| SzIs_in rfl <| opBig_in <| opAg_in <| opI_in <| opL_in <| SzIs_in rfl ⟨hok.size, ⟨a, c, na, nc, ta, tc, rfl, q2, q3, q4⟩, q1⟩
  · intro w55 h55 hL55
    have m55 : Md [] w24 w55 := h55.fresh (by simp; exact hn35)
    refine ⟨hok.size, Bd_in fun b56 hb56 => Bd_in fun b57 hb57 => Bd_in fun b58 hb58 => Bd_in fun b59 hb59 => Bd_in fun b60 hb60 => ?_⟩
    intro w61 h61 _
    refine OkC_in hok.cells ?_
    intro w62 h62 _ w63 h63 _
    have keep : ∀ {α : Type} {w' w'' : World} {n e size : Nat} {enc : α → List Value} {x : Option Addr} {y : Nat} {l : List α}, n < w4.heap.size → Md [n] w' w'' → OwnL w' w4.heap.size e size enc x y l → OwnL w'' w4.heap.size e size enc x y l := fun hn hm ho => ho.mdD hm fun A hA hd => by
      have := (ho.lt hA).1
      simp at hd
      omega
    have l1 := hL4 n1 (by simp)
    have l2 := hL4 n2 (by simp)
    have l3 := hL4 n3 (by simp)
    have s22 : w4.heap.size ≤ w22.heap.size := by have := m6.size; have := m15.size; have := m17.size; have := m22.size; omega
    have md24 : Md [] w24 w55.drew := m55.trans (Md_drew w55)
    have all : ∀ {α : Type} {e size : Nat} {enc : α → List Value} {x : Option Addr} {y : Nat} {l : List α}, OwnL w24 w4.heap.size e size enc x y l → OwnL w63 w.heap.size e size enc x y l := fun ho => (keep l3 h63 (keep l2 h62 (keep l1 h61 (ho.md md24)))).down s4
    refine ⟨?_, rfl, (((g24.1.trans md24).old h61 (by simp; exact hn1)).old h62 (by simp; exact hn2)).old h63 (by simp; exact hn3), all own24, all (o1.down s22), all (o2.down s22)⟩
    congr 2
    rw [hb60, hb59, hb58, hb57, hb56]
    unfold ofB
    by_cases c1 : (bld f 20000).2 = 0 <;> by_cases c2 : (ofC f).2 = 0 <;> by_cases c3 : (ofD f most).2 = 0 <;> simp [c1, c2, c3]
section
variable {L : List Nat} {w0 w : World}
theorem in85 (f : Fo) (A : Option Addr) (C : Nat) (most : Int) (h : Good L w0 w) (hr : RepF w A 0 f) (hl : f.len < 2 ^ 40) (hbig : f.size ≤ 2 ^ 39) {K : Int → Option Addr → Nat → Nat → Array Value → Int → Option Addr → Nat → Nat → Option Addr → Nat → Nat → Bool → World → Prop}
    (kk : ∀ a c na nc ta tc w', Good L w0 w' → Md [] w w' → OwnL w' w.heap.size 103 8 nsE a c (bld f 20000).1.2 → OwnL w' w.heap.size 3 1 i1 na nc (ofD f most).1.2.1 → OwnL w' w.heap.size 3 1 i1 ta tc (ofD f most).1.2.2 → K (bld f 20000).1.1 a (bld f 20000).1.2.length c (ofC f).1.v (ofD f most).1.1 na (ofD f most).1.2.1.length nc ta (ofD f most).1.2.2.length tc (ofB f most) w') :
    CallW Try.prog L 85 #[.slice A f.len C, .int .i64 most] (fun v w' => opTu v fun cs => opAg (nthD cs.toList 0) fun cs2 => opI .i64 (nthD cs2.toList 0) fun x => opL (nthD cs2.toList 1) fun a n c => SzIs cs2.size 2 (opBig (nthD cs.toList 1) fun cs3 => cs3.size = 257 ∧ opAg (nthD cs.toList 2) fun cs4 => opI .i64 (nthD cs4.toList 0) fun x2 => opL (nthD cs4.toList 1) fun a3 n3 c3 => opL (nthD cs4.toList 2) fun a4 n4 c4 => SzIs cs4.size 3 (opB (nthD cs.toList 3) fun b => SzIs cs.size 4 (K x a n c cs3 x2 a3 n3 c3 a4 n4 c4 b w')))) w := by
  refine (f85_ok f A C most w hr hl hbig).call h.2 ?_
  rintro v w' ⟨a, c, na, nc, ta, tc, rfl, o1, o2, o3⟩ h'
  exact opTu_in <| opAg_in <| opI_in <| opL_in <| SzIs_in rfl <| opBig_in ⟨(ofC_ok f).size, opAg_in <| opI_in <| opL_in <| opL_in <| SzIs_in rfl <| opB_in <| SzIs_in rfl <| kk a c na nc ta tc w' (h.tr h') h' o1 o2 o3⟩
end
section
variable {L : List Nat} {w0 w : World}
end
end Fk
set_option linter.unusedVariables false
set_option linter.unusedSimpArgs false
set_option maxRecDepth 100000
set_option maxHeartbeats 4000000
namespace Fk
open Go Go.Proofs Go.RowKit
theorem oneB_grow (l : List Ns) (b : Nat) (N : List Bool) (p : DP) : p.1.length ≤ (oneB l b N p).1.length := by
  unfold oneB
  split
  · exact Nat.le_refl _
  · split
    · exact Nat.le_refl _
    · simp
theorem dRow_grow {l : List Ns} {M : Nat} : ∀ {F : List Nat} {N : List Bool} {p q : DP}, dRow l M F N p = some q → p.1.length ≤ q.1.length
  | [], N, p, q, h => by simp only [dRow, Option.some.injEq] at h; rw [h]; exact Nat.le_refl _
  | b :: F, N, p, q, h => by
    unfold dRow at h
    split at h
    · cases h
    · exact Nat.le_trans (oneB_grow l b N p) (dRow_grow h)
theorem dRow_le {l : List Ns} {M : Nat} : ∀ {F : List Nat} {N : List Bool} {p q : DP}, dRow l M F N p = some q → p.1.length ≤ M → q.1.length ≤ M
  | [], N, p, q, h, hp => by simp only [dRow, Option.some.injEq] at h; rw [← h]; exact hp
  | b :: F, N, p, q, h, hp => by
    unfold dRow at h
    split at h
    · cases h
    · exact dRow_le h (by omega)
theorem dRow_cap {l : List Ns} {M : Nat} (M' : Nat) : ∀ {F : List Nat} {N : List Bool} {p q : DP}, dRow l M F N p = some q → p.1.length ≤ M' → dRow l M' F N p = if q.1.length ≤ M' then some q else none
  | [], N, p, q, h, hp => by
    simp only [dRow, Option.some.injEq] at h ⊢
    rw [← h, if_pos hp]
  | b :: F, N, p, q, h, hp => by
    unfold dRow at h ⊢
    split at h
    · cases h
    · have hg := dRow_grow h
      split
      · rw [if_neg (by omega)]
      · exact dRow_cap M' h (by omega)
theorem dAll_grow {l : List Ns} {M : Nat} {F : List Nat} : ∀ {f i : Nat} {p q : DP}, dAll l M F f i p = some q → p.1.length ≤ q.1.length
  | 0, i, p, q, h => by simp only [dAll, Option.some.injEq] at h; rw [h]; exact Nat.le_refl _
  | f + 1, i, p, q, h => by
    unfold dAll at h
    split at h
    · simp only [Option.some.injEq] at h; rw [h]; exact Nat.le_refl _
    · rename_i N hN
      cases hr : dRow l M F N p with
      | none => rw [hr] at h; cases h
      | some p' =>
        rw [hr] at h
        exact Nat.le_trans (dRow_grow hr) (dAll_grow h)
theorem dAll_le {l : List Ns} {M : Nat} {F : List Nat} : ∀ {f i : Nat} {p q : DP}, dAll l M F f i p = some q → p.1.length ≤ M → q.1.length ≤ M
  | 0, i, p, q, h, hp => by simp only [dAll, Option.some.injEq] at h; rw [← h]; exact hp
  | f + 1, i, p, q, h, hp => by
    unfold dAll at h
    split at h
    · simp only [Option.some.injEq] at h; rw [← h]; exact hp
    · rename_i N hN
      cases hr : dRow l M F N p with
      | none => rw [hr] at h; cases h
      | some p' =>
        rw [hr] at h
        exact dAll_le h (dRow_le hr hp)
theorem dAll_cap {l : List Ns} {M : Nat} {F : List Nat} (M' : Nat) : ∀ {f f' i : Nat} {p q : DP}, dAll l M F f i p = some q → p.1.length ≤ M → p.1.length ≤ M' → i ≤ p.1.length → i + f = M + 1 → i + f' = M' + 1 → dAll l M' F f' i p = if q.1.length ≤ M' then some q else none
  | 0, f', i, p, q, h, h1, h2, h3, h4, h5 => by omega
  | f + 1, 0, i, p, q, h, h1, h2, h3, h4, h5 => by omega
  | f + 1, f' + 1, i, p, q, h, h1, h2, h3, h4, h5 => by
    unfold dAll at h ⊢
    cases hN : p.1[i]? with
    | none =>
      rw [hN] at h
      simp only [Option.some.injEq] at h ⊢
      rw [← h, if_pos h2]
    | some N =>
      rw [hN] at h
      simp only at h ⊢
      have hil := (List.getElem?_eq_some_iff.1 hN).1
      cases hr : dRow l M F N p with
      | none => rw [hr] at h; cases h
      | some p' =>
        rw [hr] at h
        have h : dAll l M F f (i + 1) p' = some q := h
        have hg := dRow_grow hr
        rw [dRow_cap M' hr h2]
        have hgq := dAll_grow h
        by_cases c : p'.1.length ≤ M'
        · rw [if_pos c]
          exact dAll_cap M' h (dRow_le hr h1) c (by omega) (by omega) (by omega)
        · rw [if_neg c, if_neg (by omega)]
          rfl
/-- The cap: as many states as there are is enough. -/
theorem dBld_cap {st : Int} {l : List Ns} {c : Cl} {m : Int} {d : Dm} (h : dBld st l c m = (d, 0)) (x : Int) : d.2.2.length ≤ m ∧ 1 ≤ d.2.2.length ∧
    dBld st l c x = if x < 1 ∨ x > 5000 then ((0, [], []), 2) else if x < d.2.2.length then ((0, [], []), 40) else (d, 0) := by
  unfold dBld at h
  split at h
  case isFalse => exact absurd (congrArg Prod.snd h) (by simp)
  rename_i hc
  split at h
  case h_1 => exact absurd (congrArg Prod.snd h) (by simp)
  rename_i p hp
  obtain ⟨hr, hf, hm1, hm2⟩ := hc
  have hd : d = (c.m, p.2, tagL l p.1) := by injection h with h; exact h.symm
  have hlen : d.2.2.length = p.1.length := by rw [hd]; simp [tagL]
  have hg := dAll_grow hp
  have hle := dAll_le hp (by simp; omega)
  simp only [List.length_cons, List.length_nil] at hg
  refine ⟨by omega, by omega, ?_⟩
  rw [hlen]
  unfold dBld
  by_cases hx : x < 1 ∨ x > 5000
  · rw [if_pos hx, if_neg (by omega)]
  · rw [if_neg hx, if_pos ⟨hr, hf, by omega, by omega⟩]
    have := dAll_cap (f' := x.toNat + 1) x.toNat hp (by simp; omega) (by simp; omega) (by simp) (by omega) (by omega)
    rw [this]
    by_cases hc : x < (p.1.length : Int)
    · rw [if_pos hc, if_neg (by omega)]
    · rw [if_neg hc, if_pos (by omega), hd]
end Fk
set_option linter.unusedVariables false
set_option linter.unusedSimpArgs false
set_option maxRecDepth 100000
set_option maxHeartbeats 4000000
namespace Fk
open Go Go.Proofs Go.RowKit
theorem Good.up {L D : List Nat} {w0 w w' : World} (g : Good L w0 w) (hD : ∀ d ∈ D, w.heap.size ≤ d) (hm : Md D w w') {L' : List Nat} (hL : ∀ b ∈ L', b < w'.heap.size) : Good L' w0 w' ∧ Md [] w w' :=
  ⟨⟨g.1.trans (hm.fresh hD), hL⟩, hm.fresh hD⟩
theorem dRow_nx {l : List Ns} {M : Nat} : ∀ {F : List Nat} {N : List Bool} {p q : DP}, dRow l M F N p = some q → q.2.length = p.2.length + F.length
  | [], N, p, q, h => by simp only [dRow, Option.some.injEq] at h; rw [h]; rfl
  | b :: F, N, p, q, h => by
    unfold dRow at h
    split at h
    · cases h
    · have := dRow_nx h
      have e : (oneB l b N p).2.length = p.2.length + 1 := by
        unfold oneB
        split
        · simp
        · split <;> simp
      simp; omega
theorem dAll_nx {l : List Ns} {M : Nat} {F : List Nat} : ∀ {f i : Nat} {p q : DP}, dAll l M F f i p = some q → p.1.length ≤ M → i ≤ p.1.length → i + f = M + 1 → p.2.length = i * F.length → q.2.length = q.1.length * F.length
  | 0, i, p, q, h, h1, h2, h3, h4 => by omega
  | f + 1, i, p, q, h, h1, h2, h3, h4 => by
    unfold dAll at h
    cases hN : p.1[i]? with
    | none =>
      rw [hN] at h
      simp only [Option.some.injEq] at h
      have := List.getElem?_eq_none_iff.1 hN
      have e : i = p.1.length := by omega
      rw [← h, ← e, h4]
    | some N =>
      rw [hN] at h
      have hil := (List.getElem?_eq_some_iff.1 hN).1
      simp only at h
      cases hr : dRow l M F N p with
      | none => rw [hr] at h; cases h
      | some p' =>
        rw [hr] at h
        have h : dAll l M F f (i + 1) p' = some q := h
        exact dAll_nx h (dRow_le hr h1) (by have := dRow_grow hr; omega) (by omega) (by rw [dRow_nx hr, h4, Nat.succ_mul])
theorem dBld_sz {st : Int} {l : List Ns} {c : Cl} (hc : c.ok) {m : Int} : (dBld st l c m).1.2.2.length ≤ 5000 ∧ (dBld st l c m).1.2.1.length ≤ 1280000 ∧ ((dBld st l c m).2 = 0 → ((dBld st l c m).1.2.1.length : Int) = c.m * (dBld st l c m).1.2.2.length ∧ (dBld st l c m).1.1 = c.m ∧ 1 ≤ c.m ∧ c.m ≤ 256) := by
  unfold dBld
  split
  case isFalse => simp
  rename_i hcd
  obtain ⟨hr, hf, hm1, hm2⟩ := hcd
  have hcr : c.right = true := by unfold fitsN at hf; rw [Bool.and_eq_true] at hf; exact hf.2
  obtain ⟨cm1, cm2⟩ := right_m hc hcr
  split
  case h_1 => simp
  rename_i p hp
  have hle := dAll_le hp (by simp; omega)
  have hnx := dAll_nx hp (by simp; omega) (by simp) (by omega) (by simp)
  rw [firsts_len] at hnx
  have hl : (tagL l p.1).length = p.1.length := by simp [tagL]
  have hmul : p.1.length * c.m.toNat ≤ 5000 * 256 := Nat.mul_le_mul (by omega) (by omega)
  refine ⟨by rw [hl]; omega, by simp only; omega, fun _ => ⟨?_, rfl, cm1, cm2⟩⟩
  simp only [hl]
  rw [hnx, Int.natCast_mul, Int.mul_comm]
  congr 1
  omega
end Fk
set_option linter.unusedVariables false
set_option linter.unusedSimpArgs false
namespace Fk
open Go Go.Proofs Go.RowKit
inductive StarL (La : List Nat → Prop) : List Nat → Prop
  | nil : StarL La []
  | app {u v : List Nat} : La u → StarL La v → StarL La (u ++ v)
structure Lg where
  cat : List Nat → Prop
  alt : List Nat → Prop
  one : List Nat → Prop
def lgOne (k a b c d : Int) (Q : Lg) (u : List Nat) : Prop :=
  (k = 1 ∧ ∃ x, u = [x] ∧ inQ (a, b, c, d) x = true) ∨ (k = 2 ∧ Q.cat u) ∨ (k = 3 ∧ Q.alt u) ∨ (k = 4 ∧ StarL Q.one u) ∨ (k = 0 ∧ u = [])
/-- The texts of a row of trees: one behind the other; of one of them; of the first. -/
def lg : Fo → Lg
  | .nil => ⟨fun u => u = [], fun _ => False, fun _ => False⟩
  | .cons k a b c d q r => ⟨fun u => ∃ v w, u = v ++ w ∧ lgOne k a b c d (lg q) v ∧ (lg r).cat w, fun u => lgOne k a b c d (lg q) u ∨ (lg r).alt u, lgOne k a b c d (lg q)⟩
/-- A way from a state to a state, of at most so many steps, by a text. -/
inductive Pn (L : List Ns) : Nat → Nat → List Nat → Nat → Prop
  | refl (n i : Nat) : Pn L n i [] i
  | a {n i : Nat} {x : Ns} {u : List Nat} {j : Nat} : L[i]? = some x → x.k = 2 → Pn L n x.a.toNat u j → Pn L (n + 1) i u j
  | b {n i : Nat} {x : Ns} {u : List Nat} {j : Nat} : L[i]? = some x → x.k = 2 → Pn L n x.b.toNat u j → Pn L (n + 1) i u j
  | byte {n i : Nat} {x : Ns} {c : Nat} {u : List Nat} {j : Nat} : L[i]? = some x → x.k = 1 → inQ x.q c = true → Pn L n x.a.toNat u j → Pn L (n + 1) i (c :: u) j
theorem Pn.up {L : List Ns} {n m i j : Nat} {u : List Nat} (h : Pn L n i u j) (hm : n ≤ m) : Pn L m i u j := by
  induction h generalizing m with
  | refl n i => exact .refl _ _
  | a h1 h2 _ ih => obtain ⟨m, rfl⟩ : ∃ k, m = k + 1 := ⟨m - 1, by omega⟩; exact .a h1 h2 (ih (by omega))
  | b h1 h2 _ ih => obtain ⟨m, rfl⟩ : ∃ k, m = k + 1 := ⟨m - 1, by omega⟩; exact .b h1 h2 (ih (by omega))
  | byte h1 h2 h3 _ ih => obtain ⟨m, rfl⟩ : ∃ k, m = k + 1 := ⟨m - 1, by omega⟩; exact .byte h1 h2 h3 (ih (by omega))
theorem Pn.trans {L : List Ns} {n m i j k : Nat} {u v : List Nat} (h : Pn L n i u j) (h2 : Pn L m j v k) : Pn L (n + m) i (u ++ v) k := by
  induction h with
  | refl n i => exact h2.up (by omega)
  | @a n i x u j e1 e2 _ ih => rw [show n + 1 + m = (n + m) + 1 by omega]; exact .a e1 e2 (ih h2)
  | @b n i x u j e1 e2 _ ih => rw [show n + 1 + m = (n + m) + 1 by omega]; exact .b e1 e2 (ih h2)
  | @byte n i x c u j e1 e2 e3 _ ih => rw [show n + 1 + m = (n + m) + 1 by omega]; exact .byte e1 e2 e3 (ih h2)
def FragP (L : List Ns) (lo hi : Nat) (x to : Int) (La : List Nat → Prop) : Prop :=
  (∀ u, La u → ∃ n, Pn L n x.toNat u to.toNat) ∧ (∀ n w j, (j < lo ∨ hi ≤ j) → Pn L n x.toNat w j → ∃ u v m, m ≤ n ∧ w = u ++ v ∧ La u ∧ Pn L m to.toNat v j)
def AllOk (l : List Ns) : Prop := ∀ x ∈ l, okNs l.length x
theorem okNs_mono {m m' : Int} {x : Ns} (h : okNs m x) (hm : m ≤ m') : okNs m' x := by
  rcases h with h | h | h
  · exact .inl h
  · exact .inr (.inl ⟨h.1, h.2.1, h.2.2.1, by omega, h.2.2.2.2⟩)
  · exact .inr (.inr ⟨h.1, h.2.1, h.2.2.1, by omega, h.2.2.2.2.1, by omega, h.2.2.2.2.2.2⟩)
theorem AllOk.snoc {l : List Ns} {x : Ns} (h : AllOk l) (hx : okNs (l.length + 1) x) : AllOk (l ++ [x]) := by
  intro y hy
  rw [List.length_append, List.length_singleton]
  rcases List.mem_append.1 hy with h1 | h1
  · exact okNs_mono (h y h1) (by omega)
  · simp at h1; subst h1
    rw [Int.natCast_add]
    exact hx
/-- A piece of a machine: from x on, toward 'to', it reads these texts. -/
structure Frp (l : List Ns) (to : Int) (l' : List Ns) (x : Int) (La : List Nat → Prop) : Prop where
  le : l.length ≤ l'.length
  pre : ∀ i, i < l.length → l'[i]? = l[i]?
  x0 : 0 ≤ x ∧ x < l'.length
  kk : ∀ i s, l.length ≤ i → l'[i]? = some s → s.k ≠ 0
  ok : AllOk l → AllOk l'
  fr : ∀ L : List Ns, (∀ i, l.length ≤ i → i < l'.length → L[i]? = l'[i]?) → FragP L l.length l'.length x to La
theorem Frp.congr {l : List Ns} {to : Int} {l' : List Ns} {x : Int} {La Lb : List Nat → Prop} (h : Frp l to l' x La) (hi : ∀ u, La u ↔ Lb u) : Frp l to l' x Lb := by
  have : La = Lb := funext fun u => propext (hi u)
  rw [← this]; exact h
theorem Frp.refl {l : List Ns} {to : Int} (h : 0 ≤ to ∧ to < l.length) : Frp l to l to (fun u => u = []) :=
  ⟨Nat.le_refl _, fun _ _ => rfl, h, (fun i s h1 h2 => by rw [List.getElem?_eq_none h1] at h2; cases h2), fun h => h, fun L _ => ⟨fun u hu => by subst hu; exact ⟨0, .refl _ _⟩, fun n w j _ hp => ⟨[], w, n, Nat.le_refl _, rfl, rfl, hp⟩⟩⟩
theorem Frp.cat {l l1 l2 : List Ns} {to x1 x2 : Int} {La Lb : List Nat → Prop} (h1 : Frp l to l1 x1 La) (h2 : Frp l1 x1 l2 x2 Lb) : Frp l to l2 x2 (fun u => ∃ v w, u = v ++ w ∧ Lb v ∧ La w) := by
  have e1 := h1.le
  have e2 := h2.le
  refine ⟨by omega, fun i hi => (h2.pre i (by omega)).trans (h1.pre i hi), h2.x0, fun i s hi hs => ?_, fun h => h2.ok (h1.ok h), fun L hL => ?_⟩
  · by_cases c : i < l1.length
    · exact h1.kk i s hi ((h2.pre i c).symm.trans hs)
    · exact h2.kk i s (by omega) hs
  · obtain ⟨a1, a2⟩ := h1.fr L fun i hi hi2 => (hL i hi (by omega)).trans (h2.pre i hi2)
    obtain ⟨b1, b2⟩ := h2.fr L fun i hi hi2 => hL i (by omega) hi2
    refine ⟨fun u hu => ?_, fun n w j hj hp => ?_⟩
    · obtain ⟨v, w, rfl, hv, hw⟩ := hu
      obtain ⟨n, hn⟩ := b1 v hv
      obtain ⟨m, hm⟩ := a1 w hw
      exact ⟨n + m, hn.trans hm⟩
    · obtain ⟨u, v, m, hm, rfl, hu, hp2⟩ := b2 n w j (by omega) hp
      obtain ⟨u2, v2, m2, hm2, rfl, hu2, hp3⟩ := a2 m v j (by omega) hp2
      exact ⟨u ++ u2, v2, m2, by omega, by rw [List.append_assoc], ⟨u, u2, rfl, hu, hu2⟩, hp3⟩
theorem get_last (l : List Ns) (x : Ns) : (l ++ [x])[l.length]? = some x := by simp
theorem get_pre {l : List Ns} {x : Ns} {i : Nat} (h : i < l.length) : (l ++ [x])[i]? = l[i]? := List.getElem?_append_left h
theorem Frp.set {l : List Ns} {to : Int} (h : 0 ≤ to ∧ to < l.length) {a b c d : Int} (hz : z4 a b c d = false) : Frp l to (l ++ [⟨1, a, b, c, d, to, 0, 0⟩]) (l.length : Int) (fun u => ∃ x, u = [x] ∧ inQ (a, b, c, d) x = true) := by
  refine ⟨by simp, fun i hi => get_pre hi, by simp; omega, fun i s h1 h2 => ?_, fun h' => h'.snoc ?_, fun L hL => ?_⟩
  · have hi : i = l.length := by
      have := (List.getElem?_eq_some_iff.1 h2).1
      simp at this; omega
    subst hi
    rw [get_last] at h2
    injection h2 with h2; subst h2; simp
  · unfold okNs
    refine .inr (.inl ⟨rfl, ?_, h.1, by simp only; omega, rfl, rfl⟩)
    unfold z4 at hz
    simp [Ns.zs] at hz ⊢
    omega
  · have e := hL l.length (Nat.le_refl _) (by simp)
    rw [get_last] at e
    refine ⟨fun u hu => ?_, fun n w j hj hp => ?_⟩
    · obtain ⟨x, rfl, hx⟩ := hu
      exact ⟨1, by rw [Int.toNat_natCast]; exact .byte e rfl hx (.refl 0 _)⟩
    · rw [Int.toNat_natCast] at hp
      simp only [List.length_append, List.length_singleton] at hj
      generalize hx : l.length = i at *
      cases hp with
      | refl => omega
      | a e1 e2 _ => rw [e] at e1; injection e1 with e1; subst e1; simp at e2
      | b e1 e2 _ => rw [e] at e1; injection e1 with e1; subst e1; simp at e2
      | @byte n _ x c u _ e1 e2 e3 hp =>
        rw [e] at e1; injection e1 with e1; subst e1
        exact ⟨[c], u, n, by omega, rfl, ⟨c, rfl, e3⟩, hp⟩
/-- Behind a choice. -/
theorem split_way {L : List Ns} {i : Nat} {a b : Int} (e : L[i]? = some (spl a b)) {n : Nat} {w : List Nat} {j : Nat} (hj : j ≠ i) (hp : Pn L n i w j) : ∃ m, n = m + 1 ∧ (Pn L m a.toNat w j ∨ Pn L m b.toNat w j) := by
  cases hp with
  | refl => exact absurd rfl hj
  | @a n _ x _ _ e1 e2 hp => rw [e] at e1; injection e1 with e1; subst e1; exact ⟨n, rfl, .inl hp⟩
  | @b n _ x _ _ e1 e2 hp => rw [e] at e1; injection e1 with e1; subst e1; exact ⟨n, rfl, .inr hp⟩
  | byte e1 e2 _ _ => rw [e] at e1; injection e1 with e1; subst e1; simp [spl] at e2
theorem spl_ok {m a b : Int} (ha : 0 ≤ a ∧ a < m) (hb : 0 ≤ b ∧ b < m) : okNs m (spl a b) := .inr (.inr ⟨rfl, by unfold Ns.zs spl; simp, ha.1, ha.2, hb.1, hb.2, rfl⟩)
theorem Frp.alt {l l1 l2 : List Ns} {to x1 x2 : Int} {La Lb : List Nat → Prop} (h1 : Frp l to l1 x1 La) (h2 : Frp l1 to l2 x2 Lb) : Frp l to (l2 ++ [spl x2 x1]) (l2.length : Int) (fun u => Lb u ∨ La u) := by
  have e1 := h1.le
  have e2 := h2.le
  have y1 := h1.x0
  have y2 := h2.x0
  refine ⟨by simp; omega, fun i hi => (get_pre (by omega)).trans ((h2.pre i (by omega)).trans (h1.pre i hi)), by simp; omega, fun i s hi hs => ?_, fun h => (h2.ok (h1.ok h)).snoc (spl_ok (by omega) (by omega)), fun L hL => ?_⟩
  · by_cases c2 : i < l2.length
    · rw [get_pre c2] at hs
      by_cases c : i < l1.length
      · exact h1.kk i s hi ((h2.pre i c).symm.trans hs)
      · exact h2.kk i s (by omega) hs
    · have : i = l2.length := by
        have := (List.getElem?_eq_some_iff.1 hs).1
        simp at this; omega
      subst this
      rw [get_last] at hs
      injection hs with hs; subst hs; simp [spl]
  · simp only [List.length_append, List.length_singleton] at hL ⊢
    obtain ⟨a1, a2⟩ := h1.fr L fun i hi hi2 => ((hL i hi (by omega)).trans (get_pre (by omega))).trans (h2.pre i hi2)
    obtain ⟨b1, b2⟩ := h2.fr L fun i hi hi2 => (hL i (by omega) (by omega)).trans (get_pre hi2)
    have e := hL l2.length (by omega) (by omega)
    rw [get_last] at e
    refine ⟨fun u hu => ?_, fun n w j hj hp => ?_⟩
    · rw [Int.toNat_natCast]
      rcases hu with hu | hu
      · obtain ⟨n, hn⟩ := b1 u hu
        exact ⟨n + 1, .a e rfl hn⟩
      · obtain ⟨n, hn⟩ := a1 u hu
        exact ⟨n + 1, .b e rfl hn⟩
    · rw [Int.toNat_natCast] at hp
      obtain ⟨m, rfl, hp | hp⟩ := split_way e (by omega) hp
      · obtain ⟨u, v, m2, hm2, rfl, hu, hp2⟩ := b2 m w j (by omega) hp
        exact ⟨u, v, m2, by omega, rfl, .inl hu, hp2⟩
      · obtain ⟨u, v, m2, hm2, rfl, hu, hp2⟩ := a2 m w j (by omega) hp
        exact ⟨u, v, m2, by omega, rfl, .inr hu, hp2⟩
theorem Frp.star {l l2 : List Ns} {to kid : Int} {La : List Nat → Prop} (ht : 0 ≤ to ∧ to < l.length) (h : Frp (l ++ [spl 0 to]) (l.length : Int) l2 kid La) : Frp l to (setA l2 (l.length : Int) kid) (l.length : Int) (StarL La) := by
  have e1 := h.le
  simp only [List.length_append, List.length_singleton] at e1
  have eg : l2[l.length]? = some (spl 0 to) := (h.pre l.length (by simp)).trans (get_last _ _)
  have es : setA l2 (l.length : Int) kid = l2.set l.length (spl kid to) := by
    unfold setA
    rw [Int.toNat_natCast, eg]
    rfl
  have hk := h.x0
  rw [es]
  refine ⟨by simp; omega, fun i hi => ?_, by simp; omega, fun i s hi hs => ?_, fun ha => ?_, fun L hL => ?_⟩
  · rw [List.getElem?_set_ne (by omega), h.pre i (by simp; omega), get_pre hi]
  · by_cases c : i = l.length
    · subst c
      rw [List.getElem?_set_self (by omega)] at hs
      injection hs with hs; subst hs; simp [spl]
    · rw [List.getElem?_set_ne (by omega)] at hs
      exact h.kk i s (by simp; omega) hs
  · have := h.ok (ha.snoc (spl_ok (by omega) (by omega)))
    intro y hy
    rw [List.length_set]
    rcases List.mem_or_eq_of_mem_set hy with h1 | h1
    · exact this y h1
    · subst h1; exact spl_ok (by omega) (by omega)
  · rw [List.length_set] at hL ⊢
    have e := hL l.length (Nat.le_refl _) (by omega)
    rw [List.getElem?_set_self (by omega)] at e
    obtain ⟨a1, a2⟩ := h.fr L fun i hi hi2 => by
      simp at hi
      rw [hL i (by omega) hi2, List.getElem?_set_ne (by omega)]
    rw [Int.toNat_natCast] at a1 a2
    simp only [List.length_append, List.length_singleton] at a2
    refine ⟨fun u hu => ?_, fun n => ?_⟩
    · rw [Int.toNat_natCast]
      induction hu with
      | nil => exact ⟨1, .b e rfl (.refl _ _)⟩
      | app hu _ ih =>
        obtain ⟨n, hn⟩ := a1 _ hu
        obtain ⟨m, hm⟩ := ih
        exact ⟨n + m + 1, .a e rfl (hn.trans hm)⟩
    · rw [Int.toNat_natCast]
      induction n using Nat.strongRecOn with
      | ind n ih =>
        intro w j hj hp
        obtain ⟨m, rfl, hp | hp⟩ := split_way e (by omega) hp
        · obtain ⟨u, v, m2, hm2, rfl, hu, hp2⟩ := a2 m w j (by omega) hp
          obtain ⟨u3, v3, m3, hm3, rfl, hu3, hp3⟩ := ih m2 (by omega) v j hj hp2
          exact ⟨u ++ u3, v3, m3, by omega, by rw [List.append_assoc], .app hu hu3, hp3⟩
        · exact ⟨[], w, m, by omega, rfl, .nil, hp⟩
theorem tw_fr : ∀ f : Fo, f.right = true →
    (∀ p : List Ns × Int, p.1.length + f.cnt ≤ 20000 → 0 ≤ p.2 ∧ p.2 < p.1.length → Frp p.1 p.2 ((tw 20000 f).cat p).1 ((tw 20000 f).cat p).2 (lg f).cat) ∧
    (∀ (to : Int) (l : List Ns), l.length + (f.cnt + (f.len - 1)) ≤ 20000 → 0 ≤ to ∧ to < l.length → 1 ≤ f.len → ∃ x, ((tw 20000 f).alt to l).2 = some x ∧ Frp l to ((tw 20000 f).alt to l).1 x (lg f).alt) ∧
    (∀ p : List Ns × Int, p.1.length + f.cnt1 ≤ 20000 → 0 ≤ p.2 ∧ p.2 < p.1.length → 1 ≤ f.len → Frp p.1 p.2 ((tw 20000 f).one p).1 ((tw 20000 f).one p).2 (lg f).one)
  | .nil, _ => ⟨fun p _ h => Frp.refl h, fun to l _ _ h => by simp [Fo.len] at h, fun p _ _ h => by simp [Fo.len] at h⟩
  | .cons k a b c d q r, hr => by
    have hr0 := hr
    simp only [Fo.right, Bool.and_eq_true] at hr
    obtain ⟨q1, q2, q3⟩ := tw_fr q hr.1.2
    obtain ⟨r1, r2, r3⟩ := tw_fr r hr.2
    have hn := nodeOk_inv hr.1.1
    have one : ∀ p : List Ns × Int, p.1.length + cntK k q.len q.cnt ≤ 20000 → 0 ≤ p.2 ∧ p.2 < p.1.length → Frp p.1 p.2 (twOne 20000 k a b c d (tw 20000 q) p).1 (twOne 20000 k a b c d (tw 20000 q) p).2 (lgOne k a b c d (lg q)) := by
      intro p hp ht
      unfold twOne
      rw [if_neg (show ¬ p.1.length > 20000 by omega)]
      rcases hn with ⟨rfl, h2, _⟩ | ⟨rfl, h2, hz⟩ | ⟨rfl, h2, _⟩ | ⟨rfl, h2, _⟩ | ⟨rfl, h2, _⟩
      · simp
        exact (Frp.refl ht).congr fun u => by simp [lgOne]
      · simp only [if_true]
        rw [pst_fit (by omega)]
        exact (Frp.set ht hz).congr fun u => by simp [lgOne]
      · simp [cntK] at hp ⊢
        exact (q1 p hp ht).congr fun u => by simp [lgOne]
      · simp [cntK] at hp ⊢
        obtain ⟨x, hx, hf⟩ := q2 p.2 p.1 (by omega) ht (by omega)
        rw [hx]
        exact hf.congr fun u => by simp [lgOne]
      · have hq : q.cnt1 = q.cnt := by
          cases q with
          | nil => simp [Fo.len] at h2
          | cons k' a' b' c' d' q' r' =>
            have hr' : r' = .nil := len_zero (by simp [Fo.len] at h2; omega)
            subst hr'
            simp [Fo.cnt, Fo.cnt1]
        simp [cntK] at hp ⊢
        rw [pst_fit (by omega)]
        have hf := q3 (p.1 ++ [spl 0 p.2], (p.1.length : Int)) (by simp; omega) (by simp; omega) (by omega)
        exact (Frp.star ht hf).congr fun u => by simp [lgOne]
    refine ⟨fun p hp ht => ?_, fun to l hl ht _ => ?_, fun p hp ht _ => one p hp ht⟩
    · simp only [Fo.cnt] at hp
      have f1 := r1 p (by omega) ht
      have h1 := (tw_min 20000 r hr.2).1 p (by omega)
      exact f1.cat (one _ (by omega) f1.x0)
    · simp only [Fo.cnt, Fo.len] at hl
      have h1 := (tw_min 20000 r hr.2).2.1 to l (by omega)
      show ∃ x, (twAlt 20000 _ _ to l).2 = some x ∧ Frp l to (twAlt 20000 _ _ to l).1 x _
      unfold twAlt
      simp only
      have hlen : ((tw 20000 r).alt to l).1.length = l.length + (r.cnt + (r.len - 1)) := by omega
      by_cases hrl : r.len = 0
      · have := len_zero hrl
        subst this
        have e : (tw 20000 .nil).alt to l = (l, none) := rfl
        rw [e]
        simp only
        refine ⟨_, rfl, (one (l, to) (by simp only; omega) ht).congr fun u => ?_⟩
        simp [lg]
      · obtain ⟨x, hx, hf⟩ := r2 to l (by omega) ht (by omega)
        rw [hx]
        simp only
        have f2 := one (((tw 20000 r).alt to l).1, to) (by simp only; omega) ⟨ht.1, by simp only; omega⟩
        have h3 := twOne_len_fit (a := a) (b := b) (c := c) (d := d) hr.1.1 hr.1.2 (((tw 20000 r).alt to l).1, to) (by simp only; omega)
        simp only at h3
        rw [pst_fit (by omega)]
        exact ⟨_, rfl, hf.alt f2⟩
end Fk
set_option linter.unusedVariables false
set_option linter.unusedSimpArgs false
namespace Fk
open Go Go.Proofs Go.RowKit
def EndP (L : List Ns) (b : Int) (e : Nat) (La : List Nat → Prop) : Prop :=
  (∀ u, La u → ∃ n, Pn L n b.toNat u e) ∧ (∀ n w j s, L[j]? = some s → s.k = 0 → Pn L n b.toNat w j → j = e ∧ La w)
structure BldP (f : Fo) (i : Int) (l : List Ns) (l' : List Ns) (bs : List Int) (es : List Nat) : Prop where
  le : l.length ≤ l'.length
  pre : ∀ j, j < l.length → l'[j]? = l[j]?
  ok : 0 ≤ i → i + f.len ≤ 200 → AllOk l → AllOk l'
  bl : bs.length = f.len
  el : es.length = f.len
  b0 : ∀ b ∈ bs, 0 ≤ b ∧ b < l'.length
  e0 : ∀ (m e : Nat), es[m]? = some e → l.length ≤ e ∧ e < l'.length ∧ l'[e]? = some ⟨0, 0, 0, 0, 0, 0, 0, i + m⟩
  ek : ∀ (j : Nat) (s : Ns), l.length ≤ j → l'[j]? = some s → s.k = 0 → ∃ m : Nat, es[m]? = some j
  fr : ∀ L : List Ns, (∀ j, l.length ≤ j → j < l'.length → L[j]? = l'[j]?) → ∀ (m : Nat) (b : Int) (e : Nat), bs[m]? = some b → es[m]? = some e → EndP L b e (lg (f.drop m)).one
theorem end_way {L : List Ns} {e : Nat} {s : Ns} (he : L[e]? = some s) (hk : s.k = 0) {n : Nat} {v : List Nat} {j : Nat} (hp : Pn L n e v j) : v = [] ∧ j = e := by
  cases hp with
  | refl => exact ⟨rfl, rfl⟩
  | a e1 e2 _ => rw [he] at e1; injection e1 with e1; subst e1; omega
  | b e1 e2 _ => rw [he] at e1; injection e1 with e1; subst e1; omega
  | byte e1 e2 _ _ => rw [he] at e1; injection e1 with e1; subst e1; omega
theorem bldF_fr : ∀ (f : Fo) (i : Int) (l : List Ns) (bs : List Int), f.right = true → l.length + (f.cnt + f.len) ≤ 20000 → ∃ bs2 es, (bldF 20000 f i l bs).2 = bs ++ bs2 ∧ BldP f i l (bldF 20000 f i l bs).1 bs2 es
  | .nil, i, l, bs, _, _ => ⟨[], [], by simp [bldF], ⟨Nat.le_refl _, fun _ _ => rfl, fun _ _ h => h, rfl, rfl, (fun b hb => by cases hb), (fun m e h => by simp at h), (fun j s h1 h2 => by
      rw [show (bldF 20000 .nil i l bs).1 = l from rfl, List.getElem?_eq_none h1] at h2; cases h2), fun L _ m b e h => by simp at h⟩⟩
  | .cons k a b c d q r, i, l, bs, hr, hl => by
    simp only [Fo.right, Bool.and_eq_true] at hr
    simp only [Fo.cnt, Fo.len] at hl
    have hs : pst 20000 l ⟨0, 0, 0, 0, 0, 0, 0, i⟩ = (l ++ [⟨0, 0, 0, 0, 0, 0, 0, i⟩], (l.length : Int)) := pst_fit (by omega)
    have hf := (tw_fr (.cons k a b c d q .nil) (by simp [Fo.right, hr.1])).2.2 (l ++ [⟨0, 0, 0, 0, 0, 0, 0, i⟩], (l.length : Int)) (by simp [Fo.cnt1]; omega) (by simp; omega) (by simp [Fo.len])
    have hlen := twOne_len_fit (a := a) (b := b) (c := c) (d := d) hr.1.1 hr.1.2 (l ++ [(⟨0, 0, 0, 0, 0, 0, 0, i⟩ : Ns)], (l.length : Int)) (by simp; omega)
    simp only [bldF, hs]
    change Frp (l ++ [⟨0, 0, 0, 0, 0, 0, 0, i⟩]) (l.length : Int) (twOne 20000 k a b c d (tw 20000 q) (l ++ [⟨0, 0, 0, 0, 0, 0, 0, i⟩], (l.length : Int))).1 (twOne 20000 k a b c d (tw 20000 q) (l ++ [⟨0, 0, 0, 0, 0, 0, 0, i⟩], (l.length : Int))).2 (lgOne k a b c d (lg q)) at hf
    generalize twOne 20000 k a b c d (tw 20000 q) (l ++ [⟨0, 0, 0, 0, 0, 0, 0, i⟩], (l.length : Int)) = T at *
    simp only [List.length_append, List.length_singleton] at hlen
    obtain ⟨bs2, es, h1, P⟩ := bldF_fr r (i + 1) T.1 (bs ++ [T.2]) hr.2 (by omega)
    have ple := P.le
    have eT : T.1[l.length]? = some ⟨0, 0, 0, 0, 0, 0, 0, i⟩ := (hf.pre l.length (by simp)).trans (get_last _ _)
    refine ⟨T.2 :: bs2, l.length :: es, by rw [h1]; simp, ⟨by omega, fun j hj => ?_, fun h0 h2 h3 => ?_, by simp [P.bl, Fo.len], by simp [P.el, Fo.len], fun x hx => ?_, fun m e he => ?_, fun j s hj hjs hk => ?_, fun L hL m x e hx he => ?_⟩⟩
    · rw [P.pre j (by omega), hf.pre j (by simp; omega), get_pre hj]
    · simp only [Fo.len] at h2
      refine P.ok (by omega) (by omega) (hf.ok (h3.snoc (.inl ⟨rfl, by simp [Ns.zs], rfl, rfl, h0, by simp only; omega⟩)))
    · rcases List.mem_cons.1 hx with rfl | hx
      · have := hf.x0; omega
      · exact P.b0 x hx
    · cases m with
      | zero =>
        simp at he
        subst he
        exact ⟨Nat.le_refl _, by omega, by rw [P.pre _ (by omega), eT]; simp⟩
      | succ m =>
        obtain ⟨g1, g2, g3⟩ := P.e0 m e (by simpa using he)
        refine ⟨by omega, g2, ?_⟩
        rw [g3]
        congr 2
        omega
    · by_cases cj : j < T.1.length
      · rw [P.pre j cj] at hjs
        by_cases c2 : j = l.length
        · exact ⟨0, by simp [c2]⟩
        · exact absurd hk (hf.kk j s (by simp; omega) hjs)
      · obtain ⟨m, hm⟩ := P.ek j s (by omega) hjs hk
        exact ⟨m + 1, by simpa using hm⟩
    · cases m with
      | zero =>
        simp at hx he
        subst hx; subst he
        have hT : ∀ j, l.length ≤ j → j < T.1.length → L[j]? = T.1[j]? := fun j h1 h2 => (hL j h1 (by omega)).trans (P.pre j h2)
        obtain ⟨f1, f2⟩ := hf.fr L fun j h1 h2 => hT j (by simp at h1; omega) h2
        have eL : L[l.length]? = some ⟨0, 0, 0, 0, 0, 0, 0, i⟩ := (hT _ (Nat.le_refl _) (by omega)).trans eT
        refine ⟨fun u hu => ?_, fun n w j s hj hk hp => ?_⟩
        · have := f1 u hu
          rwa [Int.toNat_natCast] at this
        · have hout : j < (l ++ [(⟨0, 0, 0, 0, 0, 0, 0, i⟩ : Ns)]).length ∨ T.1.length ≤ j := by
            by_cases c1 : j < (l ++ [(⟨0, 0, 0, 0, 0, 0, 0, i⟩ : Ns)]).length
            · exact .inl c1
            · right
              refine Nat.le_of_not_lt fun c2 => hf.kk j s (by omega) ?_ hk
              rw [← hT j (by simp at c1; omega) c2]; exact hj
          obtain ⟨u, v, m, _, rfl, hu, hp2⟩ := f2 n w j hout hp
          rw [Int.toNat_natCast] at hp2
          obtain ⟨rfl, rfl⟩ := end_way eL rfl hp2
          exact ⟨rfl, by rw [List.append_nil]; exact hu⟩
      | succ m =>
        have := P.fr L (fun j h1 h2 => hL j (by omega) h2) m x e (by simpa using hx) (by simpa using he)
        simpa [Fo.drop] using this
structure JoinP (bs : List Int) (l l' : List Ns) (x : Int) : Prop where
  le : l.length ≤ l'.length
  pre : ∀ j, j < l.length → l'[j]? = l[j]?
  ok : AllOk l → AllOk l'
  x0 : 0 ≤ x ∧ x < l'.length
  kk : ∀ j s, l.length ≤ j → l'[j]? = some s → s.k ≠ 0
  fr : ∀ L : List Ns, (∀ j, l.length ≤ j → j < l'.length → L[j]? = l'[j]?) →
    (∀ n w j s, L[j]? = some s → s.k = 0 → Pn L n x.toNat w j → ∃ b ∈ bs, ∃ m, Pn L m b.toNat w j) ∧ (∀ b ∈ bs, ∀ n w j, Pn L n b.toNat w j → ∃ m, Pn L m x.toNat w j)
theorem joinB_fr : ∀ (bs : List Int) (l : List Ns), 1 ≤ bs.length → l.length + (bs.length - 1) ≤ 20000 → (∀ b ∈ bs, 0 ≤ b ∧ b < l.length) → JoinP bs l (joinB 20000 bs l).1 (joinB 20000 bs l).2
  | [], l, h, _, _ => by simp at h
  | [b], l, _, _, hb => by
    refine ⟨Nat.le_refl _, fun _ _ => rfl, fun h => h, hb b (by simp), fun j s h1 h2 => ?_, fun L _ => ⟨fun n w j s _ _ hp => ⟨b, by simp, n, hp⟩, fun b' hb' n w j hp => ?_⟩⟩
    · rw [show (joinB 20000 [b] l).1 = l from rfl, List.getElem?_eq_none h1] at h2; cases h2
    · simp at hb'; subst hb'; exact ⟨n, hp⟩
  | b :: b2 :: bs, l, _, hl, hb => by
    simp only [List.length_cons] at hl
    have P := joinB_fr (b2 :: bs) l (by simp) (by simp; omega) (fun x hx => hb x (by simp at hx ⊢; exact .inr hx))
    have hmin := joinB_min 20000 (b2 :: bs) l (by omega)
    simp only [List.length_cons] at hmin
    have e : joinB 20000 (b :: b2 :: bs) l = ((joinB 20000 (b2 :: bs) l).1 ++ [spl b (joinB 20000 (b2 :: bs) l).2], ((joinB 20000 (b2 :: bs) l).1.length : Int)) := pst_fit (by omega)
    rw [e]
    generalize joinB 20000 (b2 :: bs) l = J at *
    have ple := P.le
    have px := P.x0
    have hb0 := hb b (by simp)
    refine ⟨by simp; omega, fun j hj => (get_pre (by omega)).trans (P.pre j hj), fun h => (P.ok h).snoc (spl_ok (by omega) (by omega)), by simp; omega, fun j s hj hs => ?_, fun L hL => ?_⟩
    · by_cases c : j < J.1.length
      · rw [get_pre c] at hs
        exact P.kk j s hj hs
      · have : j = J.1.length := by
          have := (List.getElem?_eq_some_iff.1 hs).1
          simp at this; omega
        subst this
        rw [get_last] at hs
        injection hs with hs; subst hs; simp [spl]
    · simp only [List.length_append, List.length_singleton] at hL
      have eL := hL J.1.length (by omega) (by omega)
      rw [get_last] at eL
      obtain ⟨f1, f2⟩ := P.fr L fun j h1 h2 => (hL j h1 (by omega)).trans (get_pre h2)
      refine ⟨fun n w j s hj hk hp => ?_, fun x hx n w j hp => ?_⟩
      · rw [Int.toNat_natCast] at hp
        have hne : j ≠ J.1.length := fun e => by
          rw [e, eL] at hj
          injection hj with hj; subst hj; simp [spl] at hk
        obtain ⟨m, rfl, hp | hp⟩ := split_way eL hne hp
        · exact ⟨b, by simp, m, hp⟩
        · obtain ⟨y, hy, m2, hm2⟩ := f1 m w j s hj hk hp
          exact ⟨y, by simp at hy ⊢; exact .inr hy, m2, hm2⟩
      · rw [Int.toNat_natCast]
        rcases List.mem_cons.1 hx with rfl | hx
        · exact ⟨n + 1, .a eL rfl hp⟩
        · obtain ⟨m, hm⟩ := f2 x hx n w j hp
          exact ⟨m + 1, .b eL rfl hm⟩
/-- The m-th tree has a text. -/
def Fo.has (f : Fo) (m : Nat) (u : List Nat) : Prop := m < f.len ∧ (lg (f.drop m)).one u
/-- The place of the first tree that has a text; none. -/
def TagIs (f : Fo) (u : List Nat) (t : Int) : Prop := (t = -1 ∧ ∀ m, ¬ f.has m u) ∨ (∃ m : Nat, t = m ∧ f.has m u ∧ ∀ m', m' < m → ¬ f.has m' u)
theorem machine_right {f : Fo} (h1 : 1 ≤ f.len) (h2 : f.len ≤ 200) (hr : f.right = true) (ht : f.total ≤ 20000) : nfRight (bldM f).2 (bldM f).1 = true ∧ ∃ es : List Nat, es.length = f.len ∧ (∀ (m e : Nat), es[m]? = some e → (bldM f).1[e]? = some ⟨0, 0, 0, 0, 0, 0, 0, (m : Int)⟩) ∧
    (∀ (j : Nat) (s : Ns), (bldM f).1[j]? = some s → s.k = 0 → ∃ m : Nat, es[m]? = some j ∧ s.t = (m : Int)) ∧ (∀ (m e : Nat) (u : List Nat), es[m]? = some e → ((∃ n, Pn (bldM f).1 n (bldM f).2.toNat u e) ↔ f.has m u)) := by
  unfold Fo.total at ht
  obtain ⟨bs, es, hb, P⟩ := bldF_fr f 0 [] [] hr (by simp; omega)
  rw [List.nil_append] at hb
  have hlen := (bldF_min 20000 f 0 [] [] hr (by simp)).1
  simp only [List.length_nil] at hlen
  have J := joinB_fr bs (bldF 20000 f 0 [] []).1 (by rw [P.bl]; exact h1) (by rw [P.bl]; omega) P.b0
  have hjl := joinB_min 20000 bs (bldF 20000 f 0 [] []).1 (by omega)
  have e : bldM f = joinB 20000 bs (bldF 20000 f 0 [] []).1 := by unfold bldM; rw [hb]
  rw [e]
  have pbl := P.bl
  have jle := J.le
  generalize joinB 20000 bs (bldF 20000 f 0 [] []).1 = R at *
  generalize (bldF 20000 f 0 [] []).1 = l' at *
  have hok : AllOk R.1 := J.ok (P.ok (by omega) (by omega) (by intro x hx; cases hx))
  refine ⟨?_, es, P.el, fun m x he => ?_, fun j s hj hk => ?_, fun m x u he => ?_⟩
  · unfold nfRight
    rw [Bool.and_eq_true, decide_eq_true_eq, List.all_eq_true]
    exact ⟨⟨J.x0.1, J.x0.2, by omega⟩, fun x hx => decide_eq_true (hok x hx)⟩
  · obtain ⟨g1, g2, g3⟩ := P.e0 m x he
    rw [J.pre x g2, g3]
    simp
  · have hjl' : j < l'.length := Nat.lt_of_not_le fun hc => J.kk j s hc hj hk
    rw [J.pre j hjl'] at hj
    obtain ⟨m, hm⟩ := P.ek j s (by simp) hj hk
    obtain ⟨_, _, g3⟩ := P.e0 m j hm
    rw [hj] at g3
    injection g3 with g3
    exact ⟨m, hm, by rw [g3]; simp⟩
  · have hml : m < f.len := by rw [← P.el]; exact (List.getElem?_eq_some_iff.1 he).1
    have hbm : bs[m]? = some (bs[m]'(by omega)) := List.getElem?_eq_getElem (by omega)
    have F := P.fr R.1 (fun j _ h2 => J.pre j h2) m _ x hbm he
    obtain ⟨g1, g2, g3⟩ := P.e0 m x he
    have eR : R.1[x]? = some ⟨0, 0, 0, 0, 0, 0, 0, 0 + m⟩ := (J.pre x g2).trans g3
    obtain ⟨j1, j2⟩ := J.fr R.1 fun _ _ _ => rfl
    constructor
    · rintro ⟨n, hp⟩
      obtain ⟨b, hb', m2, hm2⟩ := j1 n u x _ eR rfl hp
      obtain ⟨i, hi, rfl⟩ := List.getElem_of_mem hb'
      have hei : es[i]? = some (es[i]'(by rw [P.el]; omega)) := List.getElem?_eq_getElem _
      have Fi := P.fr R.1 (fun j _ h2 => J.pre j h2) i _ _ (List.getElem?_eq_getElem hi) hei
      obtain ⟨q1, q2⟩ := Fi.2 m2 u x _ eR rfl hm2
      obtain ⟨_, _, g4⟩ := P.e0 i _ hei
      rw [← q1, g3] at g4
      injection g4 with g4
      have : (0 : Int) + m = 0 + i := by injection g4
      have him : i = m := by omega
      subst him
      exact ⟨hml, q2⟩
    · rintro ⟨_, hu⟩
      obtain ⟨n, hn⟩ := F.1 u hu
      exact j2 _ (List.getElem_mem _) n u x hn
theorem TagIs.uniq {f : Fo} {u : List Nat} {t t' : Int} (h : TagIs f u t) (h' : TagIs f u t') : t = t' := by
  rcases h with ⟨rfl, h⟩ | ⟨m, rfl, h1, h2⟩ <;> rcases h' with ⟨rfl, h'⟩ | ⟨m', rfl, h1', h2'⟩
  · rfl
  · exact absurd h1' (h m')
  · exact absurd h1 (h' m)
  · have : m = m' := by
      rcases Nat.lt_trichotomy m m' with c | c | c
      · exact absurd h1 (h2' m c)
      · exact c
      · exact absurd h1' (h2 m' c)
    rw [this]
end Fk
set_option linter.unusedVariables false
set_option linter.unusedSimpArgs false
namespace Fk
open Go Go.Proofs Go.RowKit
structure SmallF (g : Fo) : Prop where
  l1 : 1 ≤ g.len
  l2 : g.len ≤ 200
  rt : g.right = true
  tot : g.total ≤ 20000
theorem bld_max {g : Fo} (h : SmallF g) : bld g 20000 = (((bldM g).2, (bldM g).1), 0) := by
  rw [bld_eq h.l1 h.l2 (by omega) (by omega) h.rt, if_neg (by have := h.tot; omega)]
end Fk
set_option linter.unusedVariables false
set_option linter.unusedSimpArgs false
set_option maxRecDepth 100000
set_option maxHeartbeats 4000000
namespace Fk
open Go Go.Proofs Go.RowKit
def KKS (S : List Q4) (l : List Ns) : Prop := ∀ x ∈ l, x.k = 1 → x.q ∈ S
section
variable {S : List Q4}
end
theorem idxB_lt {N : List Bool} : ∀ {l : List (List Bool)} {i k : Nat}, idxB N l i = some k → i ≤ k ∧ k < i + l.length
  | [], i, k, h => by simp [idxB] at h
  | M :: r, i, k, h => by
    simp only [idxB] at h
    split at h
    · simp at h; subst h; simp
    · have := idxB_lt h
      simp; omega
def chk : List Int → Int → Option Int
  | [], t => some t
  | x :: xs, t => if x > t + 1 then none else chk xs (if x > t then x else t)
theorem chk_app : ∀ (a b : List Int) (t : Int), chk (a ++ b) t = (chk a t).bind (chk b)
  | [], b, t => rfl
  | x :: a, b, t => by
    simp only [List.cons_append, chk]
    split
    · rfl
    · exact chk_app a b _
structure DInv (p : DP) : Prop where
  n1 : 1 ≤ p.1.length
  nx : ∀ x ∈ p.2, -1 ≤ x ∧ x < p.1.length
  ck : chk p.2 0 = some ((p.1.length : Int) - 1)
theorem oneB_inv {l : List Ns} {b : Nat} {N : List Bool} {p : DP} (h : DInv p) : DInv (oneB l b N p) ∧ ∃ e, (oneB l b N p).2 = p.2 ++ e ∧ (∃ e1, (oneB l b N p).1 = p.1 ++ e1) := by
  have h1 := h.n1
  unfold oneB
  split
  · refine ⟨⟨h1, fun x hx => ?_, ?_⟩, _, rfl, [], by simp⟩
    · rcases List.mem_append.1 hx with hx | hx
      · exact h.nx x hx
      · simp at hx; subst hx; simp only; omega
    · simp only [chk_app, h.ck]
      simp only [Option.bind_some, chk]
      rw [if_neg (by omega), if_neg (by omega)]
  · split
    · rename_i i hi
      have := idxB_lt hi
      refine ⟨⟨h1, fun x hx => ?_, ?_⟩, _, rfl, [], by simp⟩
      · rcases List.mem_append.1 hx with hx | hx
        · exact h.nx x hx
        · simp at hx; subst hx; simp only; omega
      · simp only [chk_app, h.ck]
        simp only [Option.bind_some, chk]
        rw [if_neg (by omega), if_neg (by omega)]
    · refine ⟨⟨by simp, fun x hx => ?_, ?_⟩, _, rfl, _, rfl⟩
      · rcases List.mem_append.1 hx with hx | hx
        · have := h.nx x hx
          simp only [List.length_append, List.length_cons, List.length_nil]; omega
        · simp at hx; subst hx; simp only [List.length_append, List.length_cons, List.length_nil]; omega
      · simp only [chk_app, h.ck]
        simp only [Option.bind_some, chk]
        rw [if_neg (by omega), if_pos (by omega)]
        simp
theorem dRow_inv {l : List Ns} {M : Nat} : ∀ {F : List Nat} {N : List Bool} {p q : DP}, dRow l M F N p = some q → DInv p → DInv q ∧ ∃ e, q.2 = p.2 ++ e ∧ (∃ e1, q.1 = p.1 ++ e1)
  | [], N, p, q, h, hp => by simp only [dRow, Option.some.injEq] at h; subst h; exact ⟨hp, [], by simp, [], by simp⟩
  | b :: F, N, p, q, h, hp => by
    unfold dRow at h
    split at h
    · cases h
    · obtain ⟨i1, e, he, e1, he1⟩ := oneB_inv (l := l) (b := b) (N := N) hp
      obtain ⟨i2, e', he', e1', he1'⟩ := dRow_inv h i1
      exact ⟨i2, e ++ e', by rw [he', he, List.append_assoc], e1 ++ e1', by rw [he1', he1, List.append_assoc]⟩
theorem dAll_inv {l : List Ns} {M : Nat} {F : List Nat} : ∀ {f i : Nat} {p q : DP}, dAll l M F f i p = some q → DInv p → p.1.length ≤ M → i ≤ p.1.length → i + f = M + 1 → p.2.length = i * F.length →
    DInv q ∧ (∃ e, q.2 = p.2 ++ e) ∧ (∃ e1, q.1 = p.1 ++ e1) ∧ ∀ j, i ≤ j → j < q.1.length → ∃ t, chk (q.2.take (j * F.length)) 0 = some t ∧ (j : Int) ≤ t
  | 0, i, p, q, h, hp, h1, h2, h3, h4 => by omega
  | f + 1, i, p, q, h, hp, h1, h2, h3, h4 => by
    unfold dAll at h
    cases hN : p.1[i]? with
    | none =>
      rw [hN] at h
      simp only [Option.some.injEq] at h
      subst h
      have := List.getElem?_eq_none_iff.1 hN
      exact ⟨hp, ⟨[], by simp⟩, ⟨[], by simp⟩, fun j hj1 hj2 => by omega⟩
    | some N =>
      rw [hN] at h
      have hil := (List.getElem?_eq_some_iff.1 hN).1
      simp only at h
      cases hr : dRow l M F N p with
      | none => rw [hr] at h; cases h
      | some p' =>
        rw [hr] at h
        have h : dAll l M F f (i + 1) p' = some q := h
        obtain ⟨i1, e, he, e1, he1⟩ := dRow_inv hr hp
        obtain ⟨i2, ⟨e', he'⟩, ⟨e1', he1'⟩, hj⟩ := dAll_inv h i1 (dRow_le hr h1) (by have := dRow_grow hr; omega) (by omega) (by rw [dRow_nx hr, h4, Nat.succ_mul])
        refine ⟨i2, ⟨e ++ e', by rw [he', he, List.append_assoc]⟩, ⟨e1 ++ e1', by rw [he1', he1, List.append_assoc]⟩, fun j hj1 hj2 => ?_⟩
        by_cases hji : j = i
        · subst hji
          refine ⟨(p.1.length : Int) - 1, ?_, by omega⟩
          rw [← h4, he', he, List.append_assoc, List.take_left]
          exact hp.ck
        · exact hj j (by omega) hj2
theorem tagF_b : ∀ (N : List Bool) (l : List Ns) (t : Int), (∀ x ∈ l, okNs l.length x ∨ (x.k = 0 → 0 ≤ x.t ∧ x.t < 200)) → -1 ≤ t → t < 200 → (∀ x ∈ l, x.k = 0 → 0 ≤ x.t ∧ x.t < 200) → -1 ≤ tagF N l t ∧ tagF N l t < 200
  | [], l, t, _, h1, h2, _ => by rw [show tagF [] l t = t by cases l <;> rfl]; exact ⟨h1, h2⟩
  | h :: hs, [], t, _, h1, h2, _ => ⟨h1, h2⟩
  | h :: hs, x :: xs, t, hh, h1, h2, h3 => by
    unfold tagF
    have hx := h3 x (by simp)
    split
    · rename_i c
      have := hx c.2.1
      exact tagF_b hs xs x.t (fun y hy => .inr (h3 y (by simp [hy]))) (by omega) (by omega) fun y hy => h3 y (by simp [hy])
    · exact tagF_b hs xs t (fun y hy => .inr (h3 y (by simp [hy]))) h1 h2 fun y hy => h3 y (by simp [hy])
/-- What is made, in all. -/
theorem dBld_ok {st : Int} {l : List Ns} {c : Cl} (hc : c.ok) {m : Int} {d : Dm} (h : dBld st l c m = (d, 0)) :
    dRight d.1 d.2.1 d.2.2 = true ∧ d.1 = c.m ∧ chk d.2.1 0 = some ((d.2.2.length : Int) - 1) ∧ ∀ j : Nat, j < d.2.2.length → ∃ t, chk (d.2.1.take (j * c.m.toNat)) 0 = some t ∧ (j : Int) ≤ t := by
  have hsz := dBld_sz (st := st) (l := l) (c := c) hc (m := m)
  rw [h] at hsz
  obtain ⟨z1, z2, z3⟩ := hsz
  obtain ⟨z4, z5, z6, z7⟩ := z3 rfl
  have hcap := dBld_cap h 0
  unfold dBld at h
  split at h
  case isFalse => exact absurd (congrArg Prod.snd h) (by simp)
  rename_i hcd
  split at h
  case h_1 => exact absurd (congrArg Prod.snd h) (by simp)
  rename_i p hp
  obtain ⟨hr, hf, hm1, hm2⟩ := hcd
  obtain ⟨_, _, _, _, hall⟩ := okL_of_right hr
  have hk0 : ∀ x ∈ l, x.k = 0 → 0 ≤ x.t ∧ x.t < 200 := fun x hx hk => by have := hall x hx; unfold okNs at this; omega
  have hd : d = (c.m, p.2, tagL l p.1) := by injection h with h; exact h.symm
  have I0 : DInv ([dst l [st]], []) := ⟨by simp, by simp, rfl⟩
  obtain ⟨I, _, _, hj⟩ := dAll_inv hp I0 (by simp; omega) (by simp) (by omega) (by simp)
  subst hd
  have hl : (tagL l p.1).length = p.1.length := by simp [tagL]
  refine ⟨?_, rfl, ?_, fun j hj2 => ?_⟩
  · simp only [dRight, Bool.and_eq_true, decide_eq_true_eq, List.all_eq_true]
    refine ⟨⟨⟨z6, z7, hcap.2.1, z1, z4⟩, fun x hx => ?_⟩, fun x hx => ?_⟩
    · simp only [tagL, List.mem_map] at hx
      obtain ⟨N, _, rfl⟩ := hx
      exact tagF_b N l (-1) (fun y hy => .inr (hk0 y hy)) (by omega) (by omega) hk0
    · rw [hl]; exact I.nx x hx
  · rw [hl]; exact I.ck
  · rw [hl] at hj2
    have := hj j (by omega) hj2
    rw [firsts_len] at this
    exact this
end Fk
set_option linter.unusedVariables false
set_option linter.unusedSimpArgs false
set_option maxRecDepth 100000
set_option maxHeartbeats 4000000
namespace Fk
open Go Go.Proofs Go.RowKit
theorem idxB_get {N : List Bool} : ∀ {l : List (List Bool)} {i k : Nat}, idxB N l i = some k → l[k - i]? = some N
  | [], i, k, h => by simp [idxB] at h
  | M :: r, i, k, h => by
    have hb := idxB_lt h
    simp only [idxB] at h
    split at h
    · rename_i e
      simp at h; subst h; simp [e]
    · have h1 := idxB_get h
      have h2 := idxB_lt h
      rw [show k - i = (k - (i + 1)) + 1 by omega, List.getElem?_cons_succ]
      exact h1
/-- What an entry of the table says. -/
def EntB (l : List Ns) (all : List (List Bool)) (b : Nat) (N : List Bool) (x : Int) : Prop :=
  (byL b N l = [] ∧ x = -1) ∨ (byL b N l ≠ [] ∧ ∃ j : Nat, x = (j : Int) ∧ all[j]? = some (dst l (byL b N l)))
theorem EntB.more {l : List Ns} {all e : List (List Bool)} {b : Nat} {N : List Bool} {x : Int} (h : EntB l all b N x) : EntB l (all ++ e) b N x := by
  rcases h with h | ⟨h1, j, h2, h3⟩
  · exact .inl h
  · refine .inr ⟨h1, j, h2, ?_⟩
    rw [List.getElem?_append_left (List.getElem?_eq_some_iff.1 h3).1]
    exact h3
theorem oneB_ent (l : List Ns) (b : Nat) (N : List Bool) (p : DP) : ∃ x e, (oneB l b N p).2 = p.2 ++ [x] ∧ (oneB l b N p).1 = p.1 ++ e ∧ EntB l (oneB l b N p).1 b N x := by
  unfold oneB
  split
  · rename_i h
    exact ⟨-1, [], rfl, by simp, .inl ⟨h, rfl⟩⟩
  · rename_i h
    split
    · rename_i i hi
      have := idxB_get hi
      exact ⟨i, [], rfl, by simp, .inr ⟨h, i, rfl, by simpa using this⟩⟩
    · exact ⟨p.1.length, _, rfl, rfl, .inr ⟨h, p.1.length, rfl, by simp⟩⟩
theorem dRow_ent {l : List Ns} {M : Nat} : ∀ {F : List Nat} {N : List Bool} {p q : DP}, dRow l M F N p = some q →
    ∃ row e, q.2 = p.2 ++ row ∧ q.1 = p.1 ++ e ∧ row.length = F.length ∧ ∀ (k : Nat) (b : Nat) (x : Int), F[k]? = some b → row[k]? = some x → EntB l q.1 b N x
  | [], N, p, q, h => by
    simp only [dRow, Option.some.injEq] at h; subst h
    exact ⟨[], [], by simp, by simp, rfl, fun k b x h _ => by simp at h⟩
  | b :: F, N, p, q, h => by
    unfold dRow at h
    split at h
    · cases h
    · obtain ⟨x, e, h1, h2, h3⟩ := oneB_ent l b N p
      obtain ⟨row, e', h4, h5, h6, h7⟩ := dRow_ent h
      refine ⟨x :: row, e ++ e', by rw [h4, h1]; simp, by rw [h5, h2, List.append_assoc], by simp [h6], fun k b' x' hb hx => ?_⟩
      cases k with
      | zero =>
        simp at hb hx; subst hb; subst hx
        rw [h5]; exact h3.more
      | succ k => exact h7 k b' x' (by simpa using hb) (by simpa using hx)
theorem dAll_ent {l : List Ns} {M : Nat} {F : List Nat} : ∀ {f i : Nat} {p q : DP}, dAll l M F f i p = some q → p.1.length ≤ M → i ≤ p.1.length → i + f = M + 1 → p.2.length = i * F.length →
    (∃ e, q.2 = p.2 ++ e) ∧ (∃ e, q.1 = p.1 ++ e) ∧ ∀ (j k b : Nat) (N : List Bool), i ≤ j → q.1[j]? = some N → F[k]? = some b → ∃ x, q.2[j * F.length + k]? = some x ∧ EntB l q.1 b N x
  | 0, i, p, q, h, h1, h2, h3, h4 => by omega
  | f + 1, i, p, q, h, h1, h2, h3, h4 => by
    unfold dAll at h
    cases hN : p.1[i]? with
    | none =>
      rw [hN] at h
      simp only [Option.some.injEq] at h
      subst h
      have := List.getElem?_eq_none_iff.1 hN
      refine ⟨⟨[], by simp⟩, ⟨[], by simp⟩, fun j k b N hij hj _ => ?_⟩
      have := (List.getElem?_eq_some_iff.1 hj).1
      omega
    | some N =>
      rw [hN] at h
      have hil := (List.getElem?_eq_some_iff.1 hN).1
      simp only at h
      cases hr : dRow l M F N p with
      | none => rw [hr] at h; cases h
      | some p' =>
        rw [hr] at h
        have h : dAll l M F f (i + 1) p' = some q := h
        obtain ⟨row, e, r1, r2, r3, r4⟩ := dRow_ent hr
        obtain ⟨⟨e2, he2⟩, ⟨e1, he1⟩, hj⟩ := dAll_ent h (dRow_le hr h1) (by have := dRow_grow hr; omega) (by omega) (by rw [dRow_nx hr, h4, Nat.succ_mul])
        refine ⟨⟨row ++ e2, by rw [he2, r1, List.append_assoc]⟩, ⟨e ++ e1, by rw [he1, r2, List.append_assoc]⟩, fun j k b N' hij hjq hk => ?_⟩
        by_cases hji : j = i
        · subst hji
          have hkl := (List.getElem?_eq_some_iff.1 hk).1
          have hNN : N' = N := by
            rw [he1, r2, List.append_assoc, List.getElem?_append_left hil, hN] at hjq
            injection hjq with hjq
            exact hjq.symm
          subst hNN
          have hkr : k < row.length := by omega
          refine ⟨row[k], ?_, ?_⟩
          · rw [he2, r1, List.append_assoc, List.getElem?_append_right (by omega), List.getElem?_append_left (by omega), show j * F.length + k - p.2.length = k by omega, List.getElem?_eq_getElem hkr]
          · rw [he1]
            exact (r4 k b row[k] hk (List.getElem?_eq_getElem hkr)).more
        · exact hj j k b N' (by omega) hjq hk
theorem byL_same {b b' : Nat} : ∀ (N : List Bool) (l : List Ns), (∀ x ∈ l, x.k = 1 → inQ x.q b = inQ x.q b') → byL b N l = byL b' N l
  | [], l, _ => by cases l <;> rfl
  | h :: hs, [], _ => rfl
  | h :: hs, x :: xs, hx => by
    have ih := byL_same hs xs fun y hy => hx y (by simp [hy])
    unfold byL
    by_cases hk : x.k = 1
    · rw [hx x (by simp) hk, ih]
    · rw [if_neg (fun h => hk h.2.1), if_neg (fun h => hk h.2.1), ih]
theorem ref_fst (S : List Q4) {b : Nat} (hb : b < 256) : ∃ k : Nat, (refCl S).f[b]? = some k ∧ k < (refCl S).m.toNat ∧ ∃ b', (refCl S).firsts[k]? = some b' ∧ ∀ q ∈ S, inQ q b = inQ q b' := by
  have hc : (refCl S).ok := by rw [← clOf_ref]; exact clOf_ok _ _ (zCl_ok (by omega) (by omega))
  have hr := ref_right S
  have hbl : b < (refCl S).f.length := by rw [hc.len]; exact hb
  have hcl := right_class hc hr hbl
  have hm := right_m hc hr
  refine ⟨(refCl S).f[b], List.getElem?_eq_getElem hbl, by omega, ?_⟩
  have hk : (refCl S).f[b] < (refCl S).firsts.length := by rw [firsts_len]; omega
  refine ⟨_, List.getElem?_eq_getElem hk, ?_⟩
  rw [firsts_get]
  have hla := least_at (List.getElem?_eq_getElem hbl)
  have hll : least (refCl S).f (((refCl S).f[b] : Nat) : Int) < 256 := by omega
  have hg := least_get (refCl S).f (refCl S).f[b] (by rw [hc.len]; exact hll)
  unfold Cl.first
  rw [if_pos ⟨hr, by omega, hcl⟩, if_pos hll]
  simp only [Int.toNat_natCast]
  exact (ref_lab_iff S hb hll).1 (by rw [hg, List.getElem?_eq_getElem hbl])
theorem tagF_none : ∀ (N : List Bool) (l : List Ns) (t : Int), (∀ i, ¬ On N i) → tagF N l t = t
  | [], l, t, _ => by cases l <;> rfl
  | h :: hs, [], t, _ => rfl
  | h :: hs, x :: xs, t, hn => by
    have h0 : h ≠ true := fun e => hn 0 (by simp [On, e])
    unfold tagF
    rw [if_neg (fun c => h0 c.1)]
    exact tagF_none hs xs t fun i hi => hn (i + 1) (by simpa [On] using hi)
theorem byL_none (b : Nat) : ∀ (N : List Bool) (l : List Ns), (∀ i, ¬ On N i) → byL b N l = []
  | [], l, _ => by cases l <;> rfl
  | h :: hs, [], _ => rfl
  | h :: hs, x :: xs, hn => by
    have h0 : h ≠ true := fun e => hn 0 (by simp [On, e])
    unfold byL
    rw [if_neg (fun c => h0 c.1)]
    exact byL_none b hs xs fun i hi => hn (i + 1) (by simpa [On] using hi)
/-- Where the second machine stands, and the first one. -/
def At (all : List (List Bool)) (now : List Bool) (a : Int) : Prop := (a = -1 ∧ ∀ i, ¬ On now i) ∨ ∃ j : Nat, a = (j : Int) ∧ all[j]? = some now
theorem At.tag {l : List Ns} {all : List (List Bool)} {now : List Bool} {a : Int} (h : At all now a) : dTag (tagL l all) a = tagF now l (-1) := by
  rcases h with ⟨rfl, h⟩ | ⟨j, rfl, h⟩
  · rw [tagF_none now l (-1) h]; rfl
  · unfold dTag
    rw [if_pos (by omega), Int.toNat_natCast, List.getD_eq_getElem?_getD]
    unfold tagL
    rw [List.getElem?_map, h]
    rfl
theorem At.step {l : List Ns} (hl : OkL l) {S : List Q4} (hs : KKS S l) {q : DP}
    (hent : ∀ (j k b : Nat) (N : List Bool), q.1[j]? = some N → (refCl S).firsts[k]? = some b → ∃ x, q.2[j * (refCl S).firsts.length + k]? = some x ∧ EntB l q.1 b N x)
    {now : List Bool} {a : Int} (h : At q.1 now a) {b : Nat} (hb : b < 256) : At q.1 (stepF l b now l (offs l.length)) (dNext (refCl S).m q.2 a (((refCl S).f.getD b 0 : Nat) : Int)) := by
  obtain ⟨k, hk1, hk2, b', hb', hsame⟩ := ref_fst S hb
  have hm : (refCl S).m = (((refCl S).m.toNat : Nat) : Int) := by
    have : 0 ≤ (refCl S).m := by unfold refCl; simp
    omega
  have hke : (refCl S).f.getD b 0 = k := by rw [List.getD_eq_getElem?_getD, hk1]; rfl
  rw [hke]
  rcases h with ⟨rfl, hn⟩ | ⟨j, rfl, hj⟩
  · left
    refine ⟨rfl, (byL_nil hl b now).1 (byL_none b now l hn)⟩
  · obtain ⟨x, hx, hE⟩ := hent j k b' now hj hb'
    have he : byL b now l = byL b' now l := byL_same now l fun y hy hk => hsame _ (hs y hy hk)
    have hd : dNext (refCl S).m q.2 (j : Int) (k : Int) = x := by
      unfold dNext
      rw [if_pos (by omega)]
      have : ((j : Int) * (refCl S).m + (k : Int)).toNat = j * (refCl S).firsts.length + k := by
        rw [firsts_len, hm, ← Int.natCast_mul, ← Int.natCast_add, Int.toNat_natCast, Int.toNat_natCast]
      rw [this, List.getD_eq_getElem?_getD, hx]; rfl
    rw [hd]
    rw [← dst_by hl b now, he]
    rcases hE with ⟨h1, rfl⟩ | ⟨h1, j', rfl, h3⟩
    · left
      refine ⟨rfl, ?_⟩
      have := (byL_nil hl b' now).1 h1
      rw [← dst_by hl b' now] at this
      exact this
    · exact .inr ⟨j', rfl, h3⟩
theorem dBld_split {st : Int} {l : List Ns} {c : Cl} {m : Int} {d : Dm} (h : dBld st l c m = (d, 0)) : nfRight st l = true ∧ ∃ p : DP, d = (c.m, p.2, tagL l p.1) ∧ (∃ e, p.1 = [dst l [st]] ++ e) ∧
    ∀ (j k b : Nat) (N : List Bool), p.1[j]? = some N → c.firsts[k]? = some b → ∃ x, p.2[j * c.firsts.length + k]? = some x ∧ EntB l p.1 b N x := by
  unfold dBld at h
  split at h
  case isFalse => exact absurd (congrArg Prod.snd h) (by simp)
  rename_i hcd
  split at h
  case h_1 => exact absurd (congrArg Prod.snd h) (by simp)
  rename_i p hp
  obtain ⟨hr, hf, hm1, hm2⟩ := hcd
  have hd : d = (c.m, p.2, tagL l p.1) := by injection h with h; exact h.symm
  obtain ⟨_, he, hent⟩ := dAll_ent hp (by simp; omega) (by simp) (by omega) (by simp)
  exact ⟨hr, p, hd, he, fun j k b N => hent j k b N (Nat.zero_le _)⟩
end Fk
set_option linter.unusedVariables false
set_option linter.unusedSimpArgs false
namespace Fk
open Go Go.Proofs Go.RowKit
/-- A piece of a text. -/
def seg (t : List Nat) (i j : Nat) : List Nat := (t.drop i).take (j - i)
/-- These bits are the pieces that a language has. -/
structure RelIs (t : List Nat) (R : List Nat) (La : List Nat → Prop) : Prop where
  len : R.length = t.length + 1
  lt : ∀ x ∈ R, x < 2 ^ 64
  bit : ∀ i (hi : i < R.length) j, (R[i].testBit j = true ↔ i ≤ j ∧ j ≤ t.length ∧ La (seg t i j))
theorem RelIs.congr {t R : List Nat} {La Lb : List Nat → Prop} (h : RelIs t R La) (hi : ∀ u, La u ↔ Lb u) : RelIs t R Lb := by
  have : La = Lb := funext fun u => propext (hi u)
  rw [← this]; exact h
/-- So many pieces, one behind the other. -/
def PowL (La : List Nat → Prop) : Nat → List Nat → Prop
  | 0, u => u = []
  | k + 1, u => ∃ v w, u = v ++ w ∧ PowL La k v ∧ La w
theorem StarL.snoc {La : List Nat → Prop} {u v : List Nat} (h : StarL La u) (hv : La v) : StarL La (u ++ v) := by
  induction h with
  | nil => have := StarL.app hv .nil; simpa using this
  | app h1 _ ih => rw [List.append_assoc]; exact .app h1 ih
theorem PowL.cons {La : List Nat → Prop} {v : List Nat} (hv : La v) : ∀ {k : Nat} {u : List Nat}, PowL La k u → PowL La (k + 1) (v ++ u)
  | 0, u, h => by
    have h : u = [] := h
    subst h
    exact ⟨[], v, by simp, rfl, hv⟩
  | k + 1, u, h => by
    obtain ⟨x, w, rfl, hx, hw⟩ := h
    exact ⟨v ++ x, w, by rw [List.append_assoc], PowL.cons hv hx, hw⟩
end Fk
set_option linter.unusedVariables false
set_option linter.unusedSimpArgs false
set_option maxRecDepth 100000
namespace Fk
open Go Go.Proofs Go.RowKit
theorem bytesL_lt (s : ByteArray) : ∀ x ∈ bytesL s, x < 256 := by
  intro x hx
  unfold bytesL at hx
  obtain ⟨b, _, rfl⟩ := List.mem_map.1 hx
  exact UInt8.toNat_lt b
theorem pack_lt {t : Tb} (hok : t.c.ok) (h : RtF t) : ∀ x ∈ packL t, x < 256 := by
  intro x hx
  have h1 := h.d1
  have h2 := h.d2
  have h3 := h.tg2
  have h4 := h.n2
  unfold packL at hx
  simp only [List.mem_append] at hx
  rcases hx with (((hx | hx) | hx) | hx) | hx
  · simp [hdrL] at hx; omega
  · obtain ⟨s, hs, hx⟩ := List.mem_flatMap.1 hx
    rcases List.mem_cons.1 hx with rfl | hx
    · have := h.sz s hs; omega
    · exact bytesL_lt s x hx
  · obtain ⟨i, hi, rfl⟩ := List.mem_iff_getElem.1 hx
    exact hok.lt i hi
  · obtain ⟨y, hy, rfl⟩ := List.mem_map.1 hx
    have := h.tag y hy
    unfold tagB; omega
  · obtain ⟨y, hy, hx⟩ := List.mem_flatMap.1 hx
    have := h.nxt y hy
    simp [encX] at hx; omega
theorem PS.appZ {w2 w : World} {A : Addr} {c : Nat} {acc : List Nat} {L : List Nat} (S : PS w2 w (some A) c acc) (k : Nat) (h0 : 0 < k) (hc : c < acc.length + k) (hcl : acc.length + k ≤ 2 ^ 20) (hL : ∀ b ∈ L, b < w2.heap.size) {K : Value → World → Prop}
    (kk : ∀ a' c' w', PS w2 w' a' c' (acc ++ List.replicate k 0) → K (.slice a' (acc ++ List.replicate k 0).length c') w') :
    RunW Try.prog L (Builtin.append_ #[51, 3] 51 #[.slice (some A) acc.length c, .int .i64 k]) K w := by
  have hsz := S.md.size
  have h5 : (Try.prog.info? 5).isSome = true := by kernel_rfl
  obtain ⟨i5, hi5⟩ := Option.isSome_iff_exists.1 h5
  have hz5 : (Try.prog.info? 5).bind (·.zero) = some (.int .u8 0) := by kernel_rfl
  have hs5 : (Try.prog.info? 5).map (fun i => (i.size, i.bytes)) = some (1, 1) := by kernel_rfl
  rw [hi5] at hz5 hs5
  simp only [Option.bind_some, Option.map_some, Option.some.injEq, Prod.mk.injEq] at hz5 hs5
  have hcell : ∀ j v, (acc.flatMap b1)[j]? = some v → w.drew.cell? (A.add j) = some v := by
    intro j v hv
    obtain ⟨A', hA', hc'⟩ := S.drew.own.cells j v hv
    cases hA'
    exact hc'
  have hlen : (acc.flatMap b1).length = acc.length := by rw [encb1.lenL, Nat.mul_one]
  have hold : (Builtin.firstCells i5.size acc.length (.slice (some A) acc.length c)).run Try.prog w.drew = .ok (acc.flatMap b1).toArray w.drew := by
    have := run_loadCells_list (P := Try.prog) w.drew A (acc.flatMap b1) hcell
    rw [hlen] at this
    simp [Builtin.firstCells, hs5.1, this]
  have hge := grownCap_ge w (acc.length + k) c 5
  have hcm : grownCap w (acc.length + k) c 5 ≤ maxLen := grownCap_le_maxLen w (acc.length + k) c 5 (by simp [maxLen]; omega)
  have hfit : Builtin.nextslicecap (acc.length + k) c * i5.bytes ≤ 281474976710656 := by
    rw [hs5.2, Nat.mul_one]
    have := nextslicecap_le hc
    omega
  have hr := Lib.run_append_grow_zeros (P := Try.prog) w 51 3 51 5 i5 (.int .u8 0) .i64 .i64 (by kernel_rfl) (by kernel_rfl) hi5 hz5 (some A) acc.length c (acc.flatMap b1) hold k h0 (by rw [hs5.1]; omega) hc (by omega) (by rw [hs5.2]; omega) hfit
  refine RunW_in hr ?_ ?_
  · intro b hb
    have := hL b hb
    exact (Md.alloc (M := []) w.drew _).blk b (by show b < w.heap.size; omega) (by simp)
  · have hz1 : (Value.int IntKind.u8 0).cells = #[.int .u8 0] := rfl
    have hrep : (Builtin.zeroCells (Value.int IntKind.u8 0).cells k).toList = (List.replicate k 0).flatMap b1 := by
      have hl : ∀ k : Nat, (List.replicate k (0 : Nat)).flatMap b1 = List.replicate k (Value.int .u8 0) := by
        intro k; induction k with
        | zero => rfl
        | succ k ih => rw [List.replicate_succ, List.flatMap_cons, ih]; rfl
      rw [hl, hz1]
      apply List.ext_getElem
      · simp [Builtin.zeroCells]
      · intro i h1 h2
        simp [Builtin.zeroCells, Nat.mod_one]
    have hPS : PS w2 (w.drew.alloc (.cells ((acc.flatMap b1).toArray ++ Builtin.zeroCells (Value.int .u8 0).cells k ++ Builtin.zeroCells (Value.int .u8 0).cells (grownCap w (acc.length + k) c 5 - (acc.length + k))) 5)) (some ⟨w.heap.size, 0, none⟩) (grownCap w (acc.length + k) c 5) (acc ++ List.replicate k 0) := by
      refine ⟨(S.md.trans (Md_drew w)).trans (Md.alloc _ _), ?_⟩
      unfold OwnL
      have hll : (acc ++ List.replicate k 0).length = acc.length + k := by simp
      rw [hll]
      refine ⟨by have := encb1.lenL (acc ++ List.replicate k 0); rw [this, hll], .inr ⟨w.heap.size, _, _, rfl, hsz, heap_alloc_new w.drew _, hge, hcm, ?_, ?_⟩⟩
      · simp only [Array.size_append, List.size_toArray, size_zeroCells, hz1, hlen]
        simp; omega
      · simp only [Array.toList_append, hrep]
        rw [← List.flatMap_append]
        have : ((acc ++ List.replicate k 0).flatMap b1).length = (acc.length + k) * 1 := by have := encb1.lenL (acc ++ List.replicate k 0); rw [this, hll]
        rw [← this]
        exact List.take_left
    have := kk _ _ _ hPS
    have hll2 : (acc ++ List.replicate k 0 : List Nat).length = acc.length + k := by simp
    rw [hll2] at this
    exact this
def exT : Tb := ⟨zCl 1, 1, [0], [0], [⟨#[97]⟩]⟩
def exB : List Nat := [70, 84, 1, 0, 0, 1, 1, 1, 97] ++ List.replicate 256 0 ++ [1, 0, 1]
theorem exT_right : tRight exT = true := by kernel_rfl
theorem exT_pack : packL exT = exB := by kernel_rfl
theorem exB_read : rdT exB = some exT := by kernel_rfl
theorem exB_cut : rdT (exB.take 267) = none := by kernel_rfl
theorem exT_step0 : tStep exT 0 7 = 0 := by kernel_rfl
theorem exT_step1 : tStep exT 1 7 = -1 := by kernel_rfl
theorem build57x (w : World) (n4 n6 n8 : Nat) : (Instr.build 57 #[(0, .agg (zCl 1).v), (1, .agg #[.int .i64 1, .slice (some { block := n4, off := 0 }) 1 1, .slice (some { block := n6, off := 0 }) 1 1]), (2, .slice (some { block := n8, off := 0 }) 1 1)]).run Try.prog w = .ok (.agg (exT.v ⟨some { block := n4, off := 0 }, 1, some { block := n6, off := 0 }, 1, some { block := n8, off := 0 }, 1⟩)) w := by kernel_rfl
theorem bytesOf_str {w : World} {base : Nat} {a : Option Addr} {c : Nat} {l : List Nat} (h : OwnL w base 5 1 b1 a c l) (hl : ∀ x ∈ l, x < 256) : (convert 51 9 (.slice a l.length c)).run Try.prog w = .ok (.string (bytesOf l)) w :=
  conv_row (h.row encb1) hl _ _ rfl
theorem exB_lt : ∀ x ∈ exB, x < 256 := by
  intro x hx
  rw [← exT_pack] at hx
  exact pack_lt (zCl_ok (by omega) (by omega)) (RtF.of exT_right) x hx
theorem f54_ok (w : World) : Ct Try.prog 54 #[] w fun v w' => v = .bool true ∧ Md [] w w' := by
  apply f54_in
  refine RunW_in0 (build1 w) <| opBig_in ⟨(zCl_ok (by omega) (by omega)).size, ?_⟩
  intro n4 w5 e4 e5
  subst e4; subst e5
  have o4 : OwnL (w.alloc (.cells #[.int .i64 0] 3)) w.heap.size 3 1 i1 (some ⟨w.heap.size, 0, none⟩) 1 [0] := OwnL.lit (P := Try.prog) enci1 w 3 [0] _ (Nat.le_refl _) (by simp [maxLen]) rfl
  have m4 : Md [] w (w.alloc (.cells #[.int .i64 0] 3)) := Md.alloc w _
  have s4 : (w.alloc (.cells #[.int .i64 0] 3)).heap.size = w.heap.size + 1 := by simp
  generalize hw4 : w.alloc (.cells #[.int .i64 0] 3) = w4 at *
  intro n6 w7 e6 e7
  subst e6; subst e7
  have o6 : OwnL (w4.alloc (.cells #[.int .i64 0] 3)) w4.heap.size 3 1 i1 (some ⟨w4.heap.size, 0, none⟩) 1 [0] := OwnL.lit (P := Try.prog) enci1 w4 3 [0] _ (Nat.le_refl _) (by simp [maxLen]) rfl
  have m6 : Md [] w4 (w4.alloc (.cells #[.int .i64 0] 3)) := Md.alloc w4 _
  have s6 : (w4.alloc (.cells #[.int .i64 0] 3)).heap.size = w4.heap.size + 1 := by simp
  generalize hw6 : w4.alloc (.cells #[.int .i64 0] 3) = w6 at *
  intro n8 w9 e8 e9
  subst e8; subst e9
  have o8 : OwnL (w6.alloc (.cells #[.string { data := #[(97 : UInt8)] }] 9)) w6.heap.size 9 1 s1 (some ⟨w6.heap.size, 0, none⟩) 1 [⟨#[97]⟩] := OwnL.lit (P := Try.prog) encs1 w6 9 [⟨#[97]⟩] _ (Nat.le_refl _) (by simp [maxLen]) rfl
  have m8 : Md [] w6 (w6.alloc (.cells #[.string { data := #[(97 : UInt8)] }] 9)) := Md.alloc w6 _
  generalize hw8 : w6.alloc (.cells #[.string { data := #[(97 : UInt8)] }] 9) = w8 at *
  have hok1 : (zCl 1).ok := zCl_ok (by omega) (by omega)
  have hF : TbF w.heap.size w8 exT ⟨some { block := w.heap.size, off := 0 }, 1, some { block := w4.heap.size, off := 0 }, 1, some { block := w6.heap.size, off := 0 }, 1⟩ := by
    refine ⟨hok1, o8.down (by omega), (o6.md m8).down (by omega), (o4.md (m6.trans m8)), by simp [exT], by simp [exT], by simp [exT], ?_, ?_, ?_, ?_⟩
    · intro s hs; simp [exT] at hs; subst hs; decide
    · intro A B hA hB; cases hA; cases hB; simp; omega
    · intro A B hA hB; cases hA; cases hB; simp; omega
    · intro A B hA hB; cases hA; cases hB; simp; omega
  have hm8 : Md [] w w8 := m4.trans (m6.trans m8)
  refine RunW_in0 (build57x w8 _ _ _) <| opBig_in ⟨hF.at.size, fun n13 hn13 => OkC_in hF.cells ⟨hF.at.size, fun w14 h14 hL14 => ?_⟩⟩
  generalize hp : (⟨some { block := w.heap.size, off := 0 }, 1, some { block := w4.heap.size, off := 0 }, 1, some { block := w6.heap.size, off := 0 }, 1⟩ : TbS) = p at *
  have hs8 := hm8.size
  have mm14 : Md [] w8 w14 := h14.fresh (by simpa using hn13)
  have g14 : Good [n13] w w14 := ⟨hm8.trans mm14, hL14⟩
  have hA : ∀ {w'}, Md [] w8 w' → TbAt w' exT p := fun h => hF.at.md h
  refine (f59_ok exT p w14 (hA mm14)).call hL14 ?_
  rintro v w16 ⟨u, e, rfl, hpk⟩ h16
  unfold PkOut at hpk
  rw [if_pos exT_right, exT_pack] at hpk
  obtain ⟨rfl, ap, cp, rfl, op⟩ := hpk
  refine opTu_in ?_
  refine opL_in ?_
  refine opI_in ?_
  refine SzIs_in rfl ?_
  have g16 := g14.tr h16
  intro n22 w23 e22 e23
  subst e22; subst e23
  have S23 : PS w16 (w16.alloc (.cells #[.int .u8 70, .int .u8 84, .int .u8 1, .int .u8 0, .int .u8 0, .int .u8 1, .int .u8 1, .int .u8 1, .int .u8 97] 5)) (some ⟨w16.heap.size, 0, none⟩) 9 [70, 84, 1, 0, 0, 1, 1, 1, 97] :=
    ⟨Md.alloc w16 _, OwnL.lit (P := Try.prog) encb1 w16 5 [70, 84, 1, 0, 0, 1, 1, 1, 97] _ (Nat.le_refl _) (by simp [maxLen]) rfl⟩
  refine S23.appZ 256 (by omega) (by simp) (by simp) g16.2 fun a26 c26 w25 S25 => opL_in ?_
  refine S25.appN 3 [1, 0, 1] _ rfl rfl g16.2 (by simp) fun a33 c33 w32 S32 => opL_in ?_
  have eB : ([70, 84, 1, 0, 0, 1, 1, 1, 97] ++ List.replicate 256 0 ++ [1, 0, 1] : List Nat) = exB := rfl
  rw [eB] at S32 ⊢
  have g32 : Good [n13] w w32 := g16.tr S32.md
  have hlen : exB.length = 268 := by kernel_rfl
  have hcap := S32.own.cap
  refine (f61_ok exB a33 c33 exB_lt (by omega) hcap w32 (S32.own.row encb1)).call g32.2 ?_
  rintro v w37 ⟨cs39, e40, rfl, hrd⟩ h37
  unfold RdOut at hrd
  rw [exB_read] at hrd
  obtain ⟨rfl, pr, rfl, hFr⟩ := hrd
  refine opTu_in ?_
  refine opBig_in ⟨hFr.at.size, ?_⟩
  refine opI_in ?_
  refine SzIs_in rfl ⟨hFr.at.size, fun n41 hn41 => OkC_in hFr.cells fun w42 h42 hL42 => ?_⟩
  have g37 := g32.tr h37
  have g42 := regUp g37 hn41 h42 hL42
  have m42 : Md [] w37 w42 := h42.fresh (by simpa using hn41)
  have own42 : OwnL w42 w16.heap.size 5 1 b1 a33 c33 exB := S32.own.md (h37.trans m42)
  refine RunW_in0 (slice_front (e := 5) (m := 267) (by kernel_rfl) (fun w => ⟨1, size5 w⟩) _ _ _ _ (by omega)) <| opL_in ?_
  have hl267 : (exB.take 267).length = 267 := by rw [List.length_take]; omega
  have hrow : RowAt w42 a33 1 b1 (exB.take 267) := (own42.row encb1).take 267
  have hct := f61_ok (exB.take 267) a33 c33 (fun x hx => exB_lt x (List.mem_of_mem_take hx)) (by omega) (by omega) w42 hrow
  rw [hl267] at hct
  refine hct.call g42.2 ?_
  rintro v w49 ⟨cs51, e52, rfl, hrd⟩ h49
  unfold RdOut at hrd
  rw [exB_cut] at hrd
  obtain ⟨rfl, rfl⟩ := hrd
  have hz := TbF.zero 0 w49
  refine opTu_in ?_
  refine opBig_in ⟨hz.at.size, ?_⟩
  refine opI_in ?_
  refine SzIs_in rfl ⟨hz.at.size, fun n53 hn53 => OkC_in hz.cells <| Bd_in fun x54 hx54 => Bd_in fun b55 hb55 => Bd_in fun b56 hb56 => Bd_in fun b57 hb57 w58 h58 hL58 => ?_⟩
  have t57 : b57 = true := by rw [hb57, hb56, hb55, hx54]; decide
  have g49 := g42.tr h49
  have g58 := regUp g49 hn53 h58 hL58
  have m58 : Md [] w49 w58 := h58.fresh (by simpa using hn53)
  clear hb57
  subst t57
  have op58 : OwnL w58 w14.heap.size 5 1 b1 ap cp exB := op.md (S32.md.trans (h37.trans (m42.trans (h49.trans m58))))
  refine ⟨fun _ => RunW_in0 (bytesOf_str op58 exB_lt) <| opStr_in ?_, fun h => by cases h⟩
  have oq58 : OwnL w58 w16.heap.size 5 1 b1 a33 c33 exB := own42.md (h49.trans m58)
  refine ⟨fun _ => RunW_in0 (bytesOf_str oq58 exB_lt) <| opStr_in <| Bd_in fun b71 hb71 => Bd_in fun b72 hb72 => ?_, fun h => by cases h⟩
  have t72 : b72 = true := by rw [hb72, hb71, str_eq]; simp
  clear hb72
  subst t72
  have mAll : Md [] w8 w58 := mm14.trans (h16.trans (S32.md.trans (h37.trans (m42.trans (h49.trans m58)))))
  have mR : Md [] w37 w58 := m42.trans (h49.trans m58)
  refine ⟨fun _ => hF.at.size, fun _ => hFr.at.size, fun _ => ?_, fun h => by cases h⟩
  refine (f63_ok exT exT p pr w58 (hA mAll) (hFr.at.md mR)).call g58.2 ?_
  rintro v w77 ⟨b78, rfl, hb78⟩ h77
  have t78 : b78 = true := hb78.2 rfl
  subst t78
  refine opB_in <| Bd_in fun b81 hb81 => ?_
  have t81 : b81 = true := by rw [hb81]; rfl
  clear hb81
  subst t81
  have g77 := g58.tr h77
  refine ⟨fun _ => hF.at.size, fun _ => ?_, fun h => by cases h⟩
  refine (f57_ok exT p 0 7 (by omega) w77 (hA (mAll.trans h77))).call g77.2 ?_
  rintro v w85 rfl h85
  refine opI_in <| Bd_in fun b89 hb89 => Bd_in fun b90 hb90 => ?_
  have t90 : b90 = true := by rw [hb90, hb89, exT_step0]; rfl
  clear hb90
  subst t90
  have g85 := g77.tr h85
  refine ⟨fun _ => hF.at.size, fun _ => ?_, fun h => by cases h⟩
  refine (f57_ok exT p 1 7 (by omega) w85 (hA (mAll.trans (h77.trans h85)))).call g85.2 ?_
  rintro v w94 rfl h94
  refine opI_in <| Bd_in fun b98 hb98 => Bd_in fun b99 hb99 => ⟨?_, (g85.tr h94).1⟩
  rw [hb99, hb98, exT_step1]; rfl
end Fk
set_option linter.unusedVariables false
set_option linter.unusedSimpArgs false
set_option maxRecDepth 100000
set_option maxHeartbeats 4000000
namespace Fk
open Go Go.Proofs Go.RowKit
def names8 : List ByteArray := [⟨#[97]⟩, ⟨#[98]⟩, ⟨#[99, 50]⟩, ⟨#[100, 45, 101]⟩, ⟨#[102]⟩, ⟨#[103]⟩, ⟨#[104]⟩, ⟨#[105]⟩]
theorem f86_ok (w : World) : Ct Try.prog 86 #[] w fun v w' => (∃ a, v = .slice a 8 8 ∧ OwnL w' w.heap.size 9 1 s1 a 8 names8) ∧ Md [] w w' := by
  apply f86_in
  refine Nw_i ⟨⟨_, rfl, ?_⟩, Md.alloc w _⟩
  exact OwnL.lit (P := Try.prog) (base := w.heap.size) encs1 w 9 names8 _ (Nat.le_refl _) (by simp [names8, maxLen]) rfl
theorem f87_ok (s : ByteArray) (hs : s.size < 2 ^ 60) (w : World) : Ct Try.prog 87 #[.string s] w fun v w' => v = .bool (named s) ∧ Md [] w w' := by
  apply f87_in
  refine Bd_e rfl ?_
  refine LoopP_in (fun m us vs w' => ∃ i : Nat, us = [.bool false, .int .i64 i] ∧ m = s.size - i ∧ i ≤ s.size ∧ nmFrom s 0 = nmFrom s i ∧ w' = w) s.size ⟨0, rfl, rfl, by omega, rfl, rfl⟩ ?_
  rintro m us vs w5 ⟨i, rfl, rfl, hi, hn, rfl⟩
  refine opB_in <| opI_in <| Bd_in fun b8 hb8 => If_in (fun h => ?_) fun h => ?_
  · have hlt : i < s.size := by rw [hb8] at h; have : (i : Int) < (s.size : Int) := of_decide_eq_true h; omega
    have hix : (0 : Int) ≤ (i : Int) ∧ (i : Int) < (s.size : Int) := ⟨by omega, by omega⟩
    refine Bd_in fun b9 hb9 => ⟨fun _ => hix, Bd_in fun x11 hx11 => Bd_in fun b12 hb12 => ⟨fun _ => hix, Bd_in fun x14 hx14 => Bd_in fun b15 hb15 => ⟨fun _ => hix, Bd_in fun x17 hx17 => Bd_in fun b18 hb18 => Bd_in fun b19 hb19 => Bd_in fun b20 hb20 => Bd_in fun b21 hb21 => Bd_in fun b22 hb22 => ⟨fun _ => hix, Bd_in fun x24 hx24 => Bd_in fun b25 hb25 => ⟨fun _ => hix, Bd_in fun x27 hx27 => Bd_in fun b28 hb28 => Bd_in fun b29 hb29 => Bd_in fun b30 hb30 => ?_⟩⟩⟩⟩⟩
    have e30 : b30 = !nmAt s i := by
      rw [hb30, hb29, hb28, hb25, hb22, hb21, hb20, hb19, hb18, hb15, hb12, hb9, hx27, hx24, hx17, hx14, hx11]
      unfold nmAt smB digB
      generalize byteAt s (i : Int) = x
      have e0 : decide ((i : Int) > 0) = decide (i ≠ 0) := by apply decide_eq_decide.2; omega
      rw [e0]
      by_cases hi0 : i = 0 <;> by_cases h1 : 97 ≤ x <;> by_cases h2 : x ≤ 122 <;> by_cases h3 : x = 45 <;> by_cases h4 : 48 ≤ x <;> by_cases h5 : x ≤ 57 <;> simp [hi0, h1, h2, h3, h4, h5] <;> omega
    refine If_in (fun h => ⟨?_, Md.refl _ _⟩) fun h => Bd_e (inc_len hlt (by omega)) ?_
    · rw [e30, Bool.not_eq_true'] at h
      unfold named
      rw [hn, nmFrom_step hlt, h]; simp
    · rw [e30, Bool.not_eq_false'] at h
      exact ⟨s.size - (i + 1), by omega, i + 1, rfl, rfl, by omega, by rw [hn, nmFrom_step hlt, h]; rfl, rfl⟩
  · have hge : s.size ≤ i := by rw [hb8] at h; have : ¬ (i : Int) < (s.size : Int) := of_decide_eq_false h; omega
    refine Bd_e rfl <| Bd_in fun b33 hb33 => Bd_e rfl <| Bd_in fun b35 hb35 => Bd_in fun b36 hb36 => ⟨?_, Md.refl _ _⟩
    rw [hb36, hb35, hb33]
    unfold named
    rw [hn, nmFrom_end hge]
    have e1 : ((s.size : Int) ≥ 1) = (1 ≤ s.size) := by apply propext; omega
    have e2 : ((s.size : Int) ≤ 64) = (s.size ≤ 64) := by apply propext; omega
    simp only [e1, e2]
    cases decide (1 ≤ s.size) <;> simp
theorem namesOk_iff : ∀ (l pre : List ByteArray), namesOk pre l = true ↔ (∀ s ∈ l, named s = true) ∧ (∀ s ∈ l, s ∉ pre) ∧ l.Pairwise (· ≠ ·)
  | [], pre => by simp [namesOk]
  | s :: l, pre => by
    rw [namesOk, Bool.and_eq_true, Bool.and_eq_true, namesOk_iff l (pre ++ [s])]
    have hm : (!memB s pre) = true ↔ s ∉ pre := by
      rw [← memB_iff (s := s) (l := pre)]
      cases memB s pre <;> simp
    rw [hm]
    simp only [List.mem_cons, forall_eq_or_imp, List.pairwise_cons, List.mem_append, List.not_mem_nil, or_false, not_or]
    constructor
    · rintro ⟨⟨h1, h2⟩, h3, h4, h5⟩
      exact ⟨⟨h1, h3⟩, ⟨h2, fun x hx => (h4 x hx).1⟩, fun x hx e => (h4 x hx).2 e.symm, h5⟩
    · rintro ⟨⟨h1, h3⟩, ⟨h2, h4⟩, h5, h6⟩
      exact ⟨⟨h1, h2⟩, h3, fun x hx => ⟨h4 x hx, fun e => h5 x hx e.symm⟩, h6⟩
theorem names8_ok : namesOk [] names8 = true := by kernel_rfl
theorem names8_take (n : Nat) : namesOk [] (names8.take n) = true := by
  have h := (namesOk_iff names8 []).1 names8_ok
  exact (namesOk_iff _ _).2 ⟨fun s hs => h.1 s (List.mem_of_mem_take hs), by simp, h.2.2.sublist (List.take_sublist _ _)⟩
/-- One name is another one. -/
theorem namesOk_set {l : List ByteArray} (h : namesOk [] l = true) {k : Nat} (hk : k < l.length) (x : ByteArray) :
    namesOk [] (l.set k x) = (named x && !(List.range l.length).any fun i => decide (i ≠ k) && decide (l[i]? = some x)) := by
  obtain ⟨h1, _, h3⟩ := (namesOk_iff l []).1 h
  rw [List.pairwise_iff_getElem] at h3
  rw [Bool.eq_iff_iff, namesOk_iff, Bool.and_eq_true, List.pairwise_iff_getElem]
  have hany : ((!(List.range l.length).any fun i => decide (i ≠ k) && decide (l[i]? = some x)) = true) ↔ ∀ i, i < l.length → i ≠ k → l[i]? ≠ some x := by
    simp [List.any_eq_true]
  rw [hany]
  constructor
  · rintro ⟨q1, _, q3⟩
    refine ⟨q1 x (List.mem_set hk x), fun i hi hik e => ?_⟩
    have e' : l[i] = x := by rw [List.getElem?_eq_getElem hi] at e; injection e
    rcases Nat.lt_or_ge i k with c | c
    · refine q3 i k (by simpa using hi) (by simpa using hk) c ?_
      rw [List.getElem_set_ne (by omega), List.getElem_set_self]; exact e'
    · refine q3 k i (by simpa using hk) (by simpa using hi) (by omega) ?_
      rw [List.getElem_set_self, List.getElem_set_ne (by omega)]; exact e'.symm
  · rintro ⟨q1, q2⟩
    refine ⟨fun s hs => ?_, by simp, fun i j hi hj hij e => ?_⟩
    · rcases List.mem_or_eq_of_mem_set hs with h | h
      · exact h1 s h
      · rw [h]; exact q1
    · have hi' : i < l.length := by simpa using hi
      have hj' : j < l.length := by simpa using hj
      by_cases c1 : i = k
      · subst c1
        rw [List.getElem_set_self, List.getElem_set_ne (by omega)] at e
        exact q2 j hj' (by omega) (by rw [List.getElem?_eq_getElem hj', e])
      · by_cases c2 : j = k
        · subst c2
          rw [List.getElem_set_self, List.getElem_set_ne (by omega)] at e
          exact q2 i hi' c1 (by rw [List.getElem?_eq_getElem hi', e])
        · rw [List.getElem_set_ne (by omega), List.getElem_set_ne (by omega)] at e
          exact h3 i j hi' hj' hij e
theorem tagF_lt (m : Int) : ∀ (N : List Bool) (l : List Ns) (t : Int), (∀ x ∈ l, x.k = 0 → x.t < m) → t < m → tagF N l t < m
  | [], l, t, _, h => by rw [show tagF [] l t = t by cases l <;> rfl]; exact h
  | h :: hs, [], t, _, ht => ht
  | h :: hs, x :: xs, t, hh, ht => by
    unfold tagF
    split
    · rename_i c
      exact tagF_lt m hs xs x.t (fun y hy => hh y (by simp [hy])) (hh x (by simp) c.2.1)
    · exact tagF_lt m hs xs t (fun y hy => hh y (by simp [hy])) ht
/-- All three of trees, as 'Of' made them. -/
structure OfOk (f : Fo) (d : Dm) : Prop where
  len : 1 ≤ f.len
  right : (clOf f.sets).right = true
  ok : (clOf f.sets).ok
  dr : dRight d.1 d.2.1 d.2.2 = true
  m : (clOf f.sets).m = d.1
  tag : ∀ x ∈ d.2.2, x < (f.len : Int)
theorem ofB_ok {f : Fo} {most : Int} (h : ofB f most = true) : (ofC f).1 = clOf f.sets ∧ OfOk f (ofD f most).1 := by
  unfold ofB at h
  obtain ⟨h1, h2, h3⟩ := of_decide_eq_true h
  have hok := ofC_ok f
  have hcond : 1 ≤ f.len ∧ f.len ≤ 200 ∧ (1 : Int) ≤ 20000 ∧ (20000 : Int) ≤ 20000 ∧ f.right = true := Classical.byContradiction fun hn => by
    have : bld f 20000 = ((0, []), 2) := by unfold bld; rw [if_neg hn]
    rw [this] at h1; simp at h1
  obtain ⟨c1, c2, _, _, c5⟩ := hcond
  have eC : ofC f = (clOf f.sets, 0) := by unfold ofC; rw [if_pos c5]
  have ht : f.total ≤ 20000 := Classical.byContradiction fun hn => by
    rw [bld_eq c1 c2 (by omega) (by omega) c5, if_pos (by omega)] at h1
    simp at h1
  have Sg : SmallF f := ⟨c1, c2, c5, ht⟩
  have eB := bld_max Sg
  have hD : dBld (bldM f).2 (bldM f).1 (clOf f.sets) most = ((ofD f most).1, 0) := by
    have : ofD f most = dBld (bldM f).2 (bldM f).1 (clOf f.sets) most := by unfold ofD; rw [eB, eC]
    rw [← this, ← h3]
  rw [eC] at hok
  obtain ⟨d1, d2, _, _⟩ := dBld_ok hok hD
  obtain ⟨hr, p, hd, _, _⟩ := dBld_split hD
  have hcr : (clOf f.sets).right = true := by rw [clOf_ref]; exact ref_right _
  refine ⟨by rw [eC], ⟨c1, hcr, hok, d1, d2.symm, ?_⟩⟩
  obtain ⟨_, es, hel, he, hk, _⟩ := machine_right c1 c2 c5 ht
  have hkt : ∀ x ∈ (bldM f).1, x.k = 0 → x.t < (f.len : Int) := by
    intro x hx hx0
    obtain ⟨j, hj, rfl⟩ := List.getElem_of_mem hx
    obtain ⟨m, hm, e⟩ := hk j _ (List.getElem?_eq_getElem hj) hx0
    have := (List.getElem?_eq_some_iff.1 hm).1
    omega
  rw [hd]
  intro x hx
  simp only [tagL, List.mem_map] at hx
  obtain ⟨N, _, rfl⟩ := hx
  exact tagF_lt _ N _ (-1) hkt (by omega)
def tOf (f : Fo) (d : Dm) (nm : List ByteArray) : Tb := ⟨clOf f.sets, d.1, d.2.1, d.2.2, nm⟩
theorem tOf_right {f : Fo} {d : Dm} (h : OfOk f d) (h6 : f.len ≤ 6) (nm : List ByteArray) (hn : nm.length = f.len) : tRight (tOf f d nm) = namesOk [] nm := by
  unfold tRight tHead tTags tOf
  simp only [h.right, h.dr, h.m, hn, decide_true, Bool.and_true, Bool.true_and]
  have h1 := h.len
  rw [decide_eq_true (by omega)]
  have : d.2.2.all (fun x => decide (x < (f.len : Int))) = true := by rw [List.all_eq_true]; exact fun x hx => decide_eq_true (h.tag x hx)
  rw [this]; simp
end Fk
