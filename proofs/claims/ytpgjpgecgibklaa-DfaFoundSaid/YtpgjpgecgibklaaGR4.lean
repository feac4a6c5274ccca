/- Contracts of functions, and plain laws: several texts, joined. -/
import Derived.Test.YtpgjpgecgibklaaGR1
import Derived.Test.YtpgjpgecgibklaaGR3
import Derived.Test.YtpgjpgecgibklaaGV1
import Derived.Test.YtpgjpgecgibklaaGK2
set_option linter.unusedVariables false
set_option linter.unusedSimpArgs false
set_option linter.unusedSectionVars false
set_option maxRecDepth 100000
namespace Fk
open Go Go.Proofs Go.RowKit
theorem num_right {K : Type} [DecidableEq K] : ∀ (ks kn : List K), rightGo (numGo ks kn).1 kn.length = some (numGo ks kn).2.length
  | [], kn => rfl
  | k :: ks, kn => by
    rw [numGo]
    by_cases h : k ∈ kn
    · have := idxK_lt h
      simp only [rightGo]
      rw [if_neg (by omega), if_neg (by omega), addK_old h]
      exact num_right ks kn
    · have := idxK_new h
      simp only [rightGo]
      rw [if_neg (by omega), if_pos (by omega), addK_new h]
      have ih := num_right ks (kn ++ [k])
      simpa using ih
theorem ref_go (l : List Q4) : rightGo (refCl l).f 0 = some (numGo ((List.range 256).map (sig l)) []).2.length := num_right _ []
theorem ref_m (l : List Q4) : (refCl l).m = ((numGo ((List.range 256).map (sig l)) []).2.length : Int) := rfl
theorem ref_right (l : List Q4) : (refCl l).right = true := by
  unfold Cl.right
  rw [ref_go, ref_m]
  simp
theorem sig_iff (l : List Q4) (a b : Nat) : sig l a = sig l b ↔ ∀ q ∈ l, inQ q a = inQ q b := by
  unfold sig
  rw [List.map_inj_left]
theorem num_lab_iff {K : Type} [DecidableEq K] (σ : Nat → K) (n : Nat) {a b : Nat} (ha : a < n) (hb : b < n) : (numGo ((List.range n).map σ) []).1[a]? = (numGo ((List.range n).map σ) []).1[b]? ↔ σ a = σ b := by
  rw [num_at σ n ha, num_at σ n hb]
  constructor
  · intro h
    exact idxK_inj (num_mem σ n ha) (num_mem σ n hb) (Option.some.inj h)
  · intro h; rw [h]
theorem ref_lab_iff (l : List Q4) {a b : Nat} (ha : a < 256) (hb : b < 256) : (refCl l).f[a]? = (refCl l).f[b]? ↔ ∀ q ∈ l, inQ q a = inQ q b := by
  rw [← sig_iff]
  exact num_lab_iff (sig l) 256 ha hb
theorem ref_fits (l : List Q4) (q : Q4) (hq : q ∈ l) : (refCl l).fits q = true := by
  have hok := refCl_ok l
  rw [fits_eq hok]
  unfold Cl.fitsR
  rw [← right_iff hok, ref_right, Bool.true_and, List.all_eq_true]
  rintro ⟨x, b⟩ hp
  rw [List.mem_zipIdx_iff_getElem?] at hp
  have hb : (refCl l).f[b]? = some x := hp
  have hb' := (List.getElem?_eq_some_iff.1 hb).1
  have hlb := least_at hb
  have hg := least_get _ _ (show least (refCl l).f (x : Int) < (refCl l).f.length by omega)
  rw [hok.len] at hb'
  have := (ref_lab_iff l (a := b) (b := least (refCl l).f (x : Int)) hb' (by omega)).1 (by rw [hb, hg]) q hq
  simpa using this
end Fk
set_option linter.unusedVariables false
set_option linter.unusedSimpArgs false
set_option maxRecDepth 100000
namespace Fk
open Go Go.Proofs Go.RowKit
def Fo.app : Fo → Fo → Fo
  | .nil, x => x
  | .cons k a b c d q r, x => .cons k a b c d q (r.app x)
theorem Fo.app_nil : ∀ x : Fo, x.app .nil = x
  | .nil => rfl
  | .cons k a b c d q r => by rw [Fo.app, r.app_nil]
theorem Fo.app_assoc : ∀ x y z : Fo, (x.app y).app z = x.app (y.app z)
  | .nil, y, z => rfl
  | .cons k a b c d q r, y, z => by simp only [Fo.app, r.app_assoc]
theorem TrF.app {w : World} : ∀ {l l2 : List Tr} {f f2 : Fo}, TrF w l f → TrF w l2 f2 → TrF w (l ++ l2) (f.app f2)
  | [], l2, .nil, f2, _, h2 => h2
  | t :: l, l2, .cons k a b c d q r, f2, ⟨h, h1⟩, h2 => ⟨h, TrF.app h1 h2⟩
  | [], _, .cons .., _, h, _ => h.elim
  | _ :: _, _, .nil, _, h, _ => h.elim
/-- Those that are right. -/
def Fo.good : Fo → Fo
  | .nil => .nil
  | .cons k a b c d q r => if (nodeOk k (z4 a b c d) q.len && q.right) = true then .cons k a b c d q r.good else r.good
theorem Fo.good_right : ∀ f : Fo, f.good.right = true
  | .nil => rfl
  | .cons k a b c d q r => by
    simp only [Fo.good]
    split
    · rename_i h; simp only [Fo.right, h, r.good_right]; rfl
    · exact r.good_right
theorem Fo.good_len : ∀ f : Fo, f.good.len ≤ f.len
  | .nil => Nat.le_refl _
  | .cons k a b c d q r => by
    have := r.good_len
    simp only [Fo.good]
    split <;> simp only [Fo.len] <;> omega
end Fk
set_option linter.unusedVariables false
set_option linter.unusedSimpArgs false
set_option maxRecDepth 100000
set_option maxHeartbeats 4000000
namespace Fk
open Go Go.Proofs Go.RowKit
theorem f64_ok (fo : Fo) (sa : Option Addr) (sc : Nat) (w : World) (hr : RepF w sa 0 fo) (hl : fo.len ≤ 2 ^ 41) :
    Ct Try.prog 64 #[.slice sa fo.len sc] w fun v w' => (∃ a c L, v = .slice a L.length c ∧ OwnT w' w.heap.size a c L ∧ TrF w' L fo.good) ∧ Md [] w w' := by
  apply f64_in
  refine Bd_in fun x1 hx1 => ?_
  subst hx1
  refine LoopP_in (fun m us vs w' => ∃ (i : Nat) (r : Fo) (a : Option Addr) (c : Nat) (L : List Tr) (f1 : Fo), us = [.slice a L.length c, .int .i64 i] ∧ vs = [] ∧ m = r.len ∧ i + r.len = fo.len ∧ L.length + r.len ≤ fo.len ∧ RepF w sa i r ∧ Md [] w w' ∧
      OwnT w' w.heap.size a c L ∧ TrF w L f1 ∧ f1.app r.good = fo.good)
    fo.len ⟨0, fo, none, 0, [], .nil, rfl, rfl, rfl, by omega, by simp, hr, Md.refl _ _, OwnL.nil .., trivial, rfl⟩ ?_
  rintro m us vs w5 ⟨i, r, a, c, L, f1, rfl, rfl, rfl, hi, hls, hri, h5, ho5, hT5, hf1⟩
  refine opL_in <| opI_in <| Bd_in fun b10 hb10 => If_in (fun hb => ?_) fun hb => ?_
  · subst hb10
    simp only [decide_eq_true_eq, Int.ofNat_lt] at hb
    cases r with
    | nil => simp [Fo.len] at hi; omega
    | cons k' a' b' c' d' q' r' => ?_
    obtain ⟨B, sa', sc', rfl, hc', hql, hq, hr'⟩ := hri.at
    simp only [Fo.len] at hi hls
    refine Jn_in (fun us vs w' => ∃ (a : Option Addr) (c : Nat) (L' : List Tr) (f2 : Fo), us = [.slice a L'.length c] ∧ L'.length ≤ L.length + 1 ∧ Md [] w w' ∧ OwnT w' w.heap.size a c L' ∧ TrF w L' f2 ∧ f2.app r'.good = fo.good) ?_ ?_
    · rintro us vs w13 ⟨a1, c1, L', f2, rfl, hL', h13, ho13, hT13, hf2⟩
      refine opL_in <| Bd_in fun x17 hx17 => ?_
      rw [show IntKind.wrap .i64 ((i : Int) + 1) = ((i + 1 : Nat) : Int) by rw [IntKind.wrap_i64]; omega] at hx17
      subst hx17
      exact ⟨r'.len, by simp [Fo.len], i + 1, r', a1, c1, L', f2, rfl, rfl, rfl, by omega, by omega, hr', h13, ho13, hT13, hf2⟩
    · refine ⟨⟨by omega, by omega, rfl⟩, ?_⟩
      refine ReC.ld (hc'.md h5) ?_
      intro n33 hn33 w34 h34 hL34
      have h34' := h5.old h34 (by simpa using Nat.le_trans h5.size hn33)
      have ho34 := ho5.mdN h34 (by simpa using hn33)
      refine (f144_ok _ q' _ _ _ _ _ _ _ _ (Nat.le_refl _) (hq.md h34') hql).call hL34 ?_
      rintro v35 w36 rfl h36
      have h36' := h34'.trans h36
      have ho36 := ho34.md h36
      simp only [Fo.good] at hf1
      refine opB_in <| If_in (fun h => ?_) fun h => ?_
      · rw [if_pos h] at hf1
        refine app_one rowT22 enc6 ⟨k', (a', b', c', d'), sa', q'.len, sc'⟩ rfl ho36 h36'.size (fun b hb => Nat.lt_of_lt_of_le (hL34 b hb) h36.size) ?_ (by simp [maxLen]; omega) (by omega) ?_
        · intro b hb A hA
          have := (ho5.lt hA).2
          simp at hb; omega
        intro a42 c42 w41 ho41 hm41 _
        have h41 := h36'.own ho36 hm41
        have hTt : TrF w [⟨k', (a', b', c', d'), sa', q'.len, sc'⟩] (.cons k' a' b' c' d' q' .nil) := ⟨⟨rfl, rfl, rfl, hql, hq⟩, trivial⟩
        refine opL_in ⟨a42, c42, _, f1.app (.cons k' a' b' c' d' q' .nil), rfl, by simp, h41, ho41, TrF.app hT5 hTt, ?_⟩
        rw [← hf1, Fo.app_assoc]; rfl
      · rw [if_neg (by simp [h])] at hf1
        exact ⟨a, c, L, f1, rfl, by omega, h36', ho36, hT5, hf1⟩
  · subst hb10
    simp only [decide_eq_false_iff_not, Int.ofNat_lt] at hb
    cases r with
    | nil => simp only [Fo.good, Fo.app_nil] at hf1; rw [← hf1]; exact ⟨⟨a, c, L, rfl, ho5, hT5.md h5⟩, h5⟩
    | cons => simp only [Fo.len] at hi; omega
theorem in64 (fo : Fo) (A : Option Addr) (C : Nat) (hl : fo.len ≤ 2 ^ 41) {L : List Nat} {w0 w : World} {K : Option Addr → Nat → Nat → World → Prop} (h : Good L w0 w) (hr : RepF w A 0 fo)
    (kk : ∀ w' a c, Good L w0 w' → RepF w' a 0 fo.good → K a fo.good.len c w') :
    CallW Try.prog L 64 #[.slice A fo.len C] (fun v w' => opL v fun a n c => K a n c w') w := by
  refine (f64_ok fo A C w hr hl).call h.2 ?_
  rintro v w' ⟨a, c, L', rfl, ho, hT⟩ h'
  have hrep : RepF w' a 0 fo.good := TrF.rep (ho.row enc6) hT rfl
  refine opL_in ?_
  rw [hT.len]
  exact kk w' a c (h.tr h') hrep
theorem f161_ok (b : Nat) (hb : b = 97 ∨ b = 98) (w : World) : Ct Try.prog 161 #[.int .u8 (b : Int)] w fun v w' => v = .agg #[.int .u8 1, .int .u64 0, .int .u64 (2 ^ (b - 64)), .int .u64 0, .int .u64 0, .slice none 0 0] ∧ Md [] w w' := by
  apply f161_in
  intro n1 hn1 w2 h2 hL2
  have l1 := hL2 n1 (by simp)
  refine Nw_i ?_
  have ma : Md [] w2 (w2.alloc (.cells #[.int .u8 0, .int .u64 0, .int .u64 0, .int .u64 0, .int .u64 0, .slice none 0 0] 42)) := Md.alloc w2 _
  have ol : OwnL (w2.alloc (.cells #[.int .u8 0, .int .u64 0, .int .u64 0, .int .u64 0, .int .u64 0, .slice none 0 0] 42)) w2.heap.size 42 6 reZ (some ⟨w2.heap.size, 0, none⟩) 1 [()] := OwnL.lit (P := Try.prog) (base := w2.heap.size) encZ w2 42 [()] _ (Nat.le_refl _) (by simp [maxLen]) rfl
  generalize w2.alloc (.cells #[.int .u8 0, .int .u64 0, .int .u64 0, .int .u64 0, .int .u64 0, .slice none 0 0] 42) = w4 at *
  have hN : n1 < w2.heap.size := l1
  have hsz := h2.size
  generalize w2.heap.size = n3 at *
  obtain ⟨A, hA, p1, p2, p3, p4, p5⟩ := own_put (n := 1) ol 0 [.int .u8 1, .int .u64 0, .int .u64 0, .int .u64 0, .int .u64 0, .slice none 0 0] (by simp [reZ]) (by simp)
  injection hA with hA
  subst hA
  have e0 : (Addr.mk n3 0 none).add 0 = ⟨n3, 0, none⟩ := Addr.add_lit _ _ _
  rw [e0] at p3 p4 p5
  generalize setCells w4 ⟨n3, 0, none⟩ 0 [.int .u8 1, .int .u64 0, .int .u64 0, .int .u64 0, .int .u64 0, .slice none 0 0] = w5 at *
  obtain ⟨A, hA, q1, q2, q3, q4, q5⟩ := own_put (n := 1) p4 2 [.int .u64 (2 ^ (b - 64))] (by simp [reZ, wrL]) (by simp)
  injection hA with hA
  subst hA
  have e2 : ((Addr.mk n3 0 none).add 1).add (1 * 1) = (Addr.mk n3 0 none).add 2 := by rw [add_add]
  refine ⟨by simp; omega, p3, Bd_e (y := 1) (by rcases hb with rfl | rfl <;> rfl) <| Bd_e (y := ((b - 64 : Nat) : Int)) (by rcases hb with rfl | rfl <;> rfl) ⟨by omega, Bd_e (y := 2 ^ (b - 64)) (by rcases hb with rfl | rfl <;> rfl) ⟨⟨by omega, by omega⟩, ?_⟩⟩⟩
  rw [show (Int.toNat 1 * 1) = 1 * 1 from rfl, e2]
  have cl := World.ownsRow.cells q4 rfl
  refine ⟨by rw [add_block]; simp; omega, q3, Ld_in (cl 0 _ rfl) <| Ld_in (cl 1 _ rfl) <| Ld_in (cl 2 _ rfl) <| Ld_in (cl 3 _ rfl) <| Ld_in (cl 4 _ rfl) <| Ld_in (cl 5 _ rfl) <| opI_in <| opI_in <| opI_in <| opI_in <| opI_in <| opL_in ?_⟩
  intro w22 h22 _
  exact ⟨rfl, ((((h2.trans ma).old p5 (by simp; omega)).old q5 (by simp; omega)).old h22 (by simp; omega))⟩
section
variable {L : List Nat} {w0 w : World}
theorem in161 (b : Nat) (m : Int) (hb : (b = 97 ∧ m = 8589934592) ∨ (b = 98 ∧ m = 17179869184)) (h : Good L w0 w) {K : Int → Int → Int → Int → Int → Option Addr → Nat → Nat → World → Prop} (kk : ∀ w', Good L w0 w' → Md [] w w' → K 1 0 m 0 0 none 0 0 w') :
    CallW Try.prog L 161 #[.int .u8 (b : Int)] (fun v w' => opAg v fun cs => opI .u8 (nthD cs.toList 0) fun x4 => opI .u64 (nthD cs.toList 1) fun x5 => opI .u64 (nthD cs.toList 2) fun x6 => opI .u64 (nthD cs.toList 3) fun x7 => opI .u64 (nthD cs.toList 4) fun x8 => opL (nthD cs.toList 5) fun a n c => SzIs cs.size 6 (K x4 x5 x6 x7 x8 a n c w')) w := by
  refine (f161_ok b (hb.imp And.left And.left) w).call h.2 ?_
  rintro v w' rfl h'
  have e : (2 : Int) ^ (b - 64) = m := by rcases hb with ⟨rfl, rfl⟩ | ⟨rfl, rfl⟩ <;> rfl
  rw [e]
  exact opAg_in <| opI_in <| opI_in <| opI_in <| opI_in <| opI_in <| opL_in <| SzIs_in rfl <| kk w' (h.tr h') h'
abbrev DIn (L : List Nat) (w0 w : World) (r : Dm × Int) (K : Int → Option Addr → Nat → Nat → Option Addr → Nat → Nat → Int → World → Prop) : Prop :=
  ∀ na nc ta tc w', Good L w0 w' → Md [] w w' → OwnL w' w.heap.size 3 1 i1 na nc r.1.2.1 → OwnL w' w.heap.size 3 1 i1 ta tc r.1.2.2 → K r.1.1 na r.1.2.1.length nc ta r.1.2.2.length tc r.2 w'
theorem in67 (st : Int) (l : List Ns) (A : Option Addr) (C : Nat) (c : Cl) (hc : c.ok) (most : Int) (h : Good L w0 w) (hr : RowAt w A 8 nsE l) (hl : l.length < 2 ^ 40) {K : Int → Option Addr → Nat → Nat → Option Addr → Nat → Nat → Int → World → Prop}
    (kk : DIn L w0 w (dBld st l c most) K) :
    CallW Try.prog L 67 #[.agg #[.int .i64 st, .slice A l.length C], .agg c.v, .int .i64 most] (fun v w' => opTu v fun cs => opAg (nthD cs.toList 0) fun cs2 => opI .i64 (nthD cs2.toList 0) fun x => opL (nthD cs2.toList 1) fun a n c => opL (nthD cs2.toList 2) fun a2 n2 c2 => SzIs cs2.size 3 (opI .i64 (nthD cs.toList 1) fun e => SzIs cs.size 2 (K x a n c a2 n2 c2 e w'))) w := by
  refine (f67_ok st l A C c hc most w hr (by omega)).call h.2 ?_
  rintro v w' ⟨na, nc, ta, tc, rfl, o1, o2, _⟩ h'
  exact opTu_in <| opAg_in <| opI_in <| opL_in <| opL_in <| SzIs_in rfl <| opI_in <| SzIs_in rfl <| kk na nc ta tc w' (h.tr h') h' o1 o2
theorem in70 (dm : Int) (nx tg cs : List Int) (na ta ca : Option Addr) (nc tc cc : Nat) (h : Good L w0 w) (h1 : RowAt w na 1 i1 nx) (h2 : RowAt w ta 1 i1 tg) (h3 : RowAt w ca 1 i1 cs) (hl1 : nx.length < 2 ^ 63) (hl2 : tg.length < 2 ^ 63) (hl3 : cs.length < 2 ^ 30) {K : Option Addr → Nat → Nat → Int → World → Prop}
    (kk : ∀ a c w', Good L w0 w' → Md [] w w' → OwnL w' w.heap.size 3 1 i1 a c (dRun dm nx tg cs).1 → K a (dRun dm nx tg cs).1.length c (dRun dm nx tg cs).2 w') :
    CallW Try.prog L 70 #[.agg #[.int .i64 dm, .slice na nx.length nc, .slice ta tg.length tc], .slice ca cs.length cc] (fun v w' => opTu v fun cs => opL (nthD cs.toList 0) fun a n c => opI .i64 (nthD cs.toList 1) fun e => SzIs cs.size 2 (K a n c e w')) w := by
  refine (f70_ok dm nx tg cs na ta ca nc tc cc w h1 h2 h3 hl1 hl2 hl3).call h.2 ?_
  rintro v w' ⟨a, c, rfl, own⟩ h'
  exact opTu_in <| opL_in <| opI_in <| SzIs_in rfl <| kk a c w' (h.tr h') h' own
theorem in72d (dm : Int) (nx tg : List Int) (na ta : Option Addr) (nc tc : Nat) (h : Good L w0 w) (h1 : RowAt w na 1 i1 nx) (h2 : RowAt w ta 1 i1 tg) (hl1 : nx.length < 2 ^ 63) (hl2 : tg.length < 2 ^ 63) {K : Bool → World → Prop} (kk : ∀ w', Good L w0 w' → Md [] w w' → K (dRight dm nx tg) w') :
    CallW Try.prog L 72 #[.agg #[.int .i64 dm, .slice na nx.length nc, .slice ta tg.length tc]] (fun v w' => opB v fun b => K b w') w := by
  refine (f72_ok dm nx tg na ta nc tc w h1 h2 hl1 hl2).call h.2 ?_
  rintro v w' rfl h'
  exact opB_in (kk w' (h.tr h') h')
theorem in96 (dm em : Int) (na nb ta tb : List Int) (A B D E : Option Addr) (C1 C2 C3 C4 : Nat) (h : Good L w0 w) (h1 : RowAt w A 1 i1 na) (h2 : RowAt w B 1 i1 ta) (h3 : RowAt w D 1 i1 nb) (h4 : RowAt w E 1 i1 tb) (hl1 : na.length < 2 ^ 63) (hl2 : ta.length < 2 ^ 63) {K : Bool → World → Prop} (kk : ∀ w', Good L w0 w' → Md [] w w' → K (decide (dm = em) && decide (na = nb) && decide (ta = tb)) w') :
    CallW Try.prog L 96 #[.agg #[.int .i64 dm, .slice A na.length C1, .slice B ta.length C2], .agg #[.int .i64 em, .slice D nb.length C3, .slice E tb.length C4]] (fun v w' => opB v fun b => K b w') w := by
  refine (f96_ok dm em na nb ta tb A B D E C1 C2 C3 C4 w h1 h2 h3 h4 hl1 hl2).call h.2 ?_
  rintro v w' rfl h'
  exact opB_in (kk w' (h.tr h') h')
end
theorem f162_ok (dm : Int) (nx tg cs wt : List Int) (na ta ca wa : Option Addr) (nc tc cc wc : Nat) (w : World) (h1 : RowAt w na 1 i1 nx) (h2 : RowAt w ta 1 i1 tg) (h3 : RowAt w ca 1 i1 cs) (h4 : RowAt w wa 1 i1 wt) (hl1 : nx.length < 2 ^ 63) (hl2 : tg.length < 2 ^ 63) (hl3 : cs.length < 2 ^ 30) :
    Ct Try.prog 162 #[.agg #[.int .i64 dm, .slice na nx.length nc, .slice ta tg.length tc], .slice ca cs.length cc, .slice wa wt.length wc] w fun v w' => v = .bool (decide (dRun dm nx tg cs = (wt, 0))) ∧ Md [] w w' := by
  apply f162_in
  intro n1 hn1 w2 m2 hL2
  have g2 : Good [n1] w w2 := ⟨m2, hL2⟩
  have hrl : (dRun dm nx tg cs).1.length < 2 ^ 63 := by
    unfold dRun
    split
    · have : ∀ (l : List Int) (a : Int), (dGo dm nx tg l a).length = l.length := fun l => by
        induction l with
        | nil => intro a; rfl
        | cons x l ih => intro a; simp [dGo, ih]
      simp [this]; omega
    · simp
  refine in70 dm nx tg cs na ta ca nc tc cc g2 (h1.md m2) (h2.md m2) (h3.md m2) hl1 hl2 hl3 fun a c w4 g4 m4 own => ?_
  refine Bd_in fun b10 hb10 => Gd_to (fun b w' => (b10 = true → b = decide ((dRun dm nx tg cs).1 = wt)) ∧ Md [] w w') (fun b w' hJ => ?_) (fun fin hc => ?_) (fun hc => ⟨(fun h => by rw [h] at hc; cases hc), g4.1⟩)
  · obtain ⟨hb, hm⟩ := hJ
    refine Bd_in fun b17 hb17 => ⟨?_, hm⟩
    rw [hb17]
    have e : (dRun dm nx tg cs = (wt, 0)) ↔ ((dRun dm nx tg cs).1 = wt ∧ (dRun dm nx tg cs).2 = 0) := by rw [Prod.ext_iff]
    rw [show decide (dRun dm nx tg cs = (wt, 0)) = decide ((dRun dm nx tg cs).1 = wt ∧ (dRun dm nx tg cs).2 = 0) from decide_eq_decide.2 e]
    cases h10 : b10 with
    | false =>
      have : ¬ (dRun dm nx tg cs).2 = 0 := by rw [hb10] at h10; simpa using h10
      simp [this]
    | true =>
      have : (dRun dm nx tg cs).2 = 0 := by rw [hb10] at h10; simpa using h10
      rw [hb h10]
      simp [this]
  · exact in73 _ wt a wa c wc g4 (own.row enci1) (h4.md g4.1) hrl fun w' g' m' => fin _ _ ⟨fun _ => rfl, g'.1⟩
end Fk
set_option linter.unusedVariables false
set_option linter.unusedSimpArgs false
set_option maxRecDepth 100000
set_option maxHeartbeats 4000000
namespace Fk
open Go Go.Proofs Go.RowKit
def ofC (f : Fo) : Cl × Int := if f.right = true then (clOf f.sets, 0) else (zCl 0, 2)
theorem ofC_ok (f : Fo) : (ofC f).1.ok := by
  unfold ofC
  split
  · exact clOf_ok _ _ (zCl_ok (by omega) (by omega))
  · exact zCl_ok (by omega) (by omega)
section
variable {L : List Nat} {w0 w : World}
theorem in40c (fo : Fo) (A : Option Addr) (C : Nat) (hl : fo.len < 2 ^ 40) (hbig : fo.size ≤ 2 ^ 39) {K : Array Value → Int → World → Prop} (h : Good L w0 w) (hr : RepF w A 0 fo)
    (k : ∀ w', Good L w0 w' → Md [] w w' → K (ofC fo).1.v (ofC fo).2 w') :
    CallW Try.prog L 40 #[.slice A fo.len C] (fun v w' => opTu v fun cs => opBig (nthD cs.toList 0) fun c => c.size = 257 ∧ opI .i64 (nthD cs.toList 1) fun e => SzIs cs.size 2 (K c e w')) w := by
  refine (f40_ok fo A C w hr hl hbig).call h.2 ?_
  rintro v w' rfl h'
  have hok := ofC_ok fo
  have e : (if fo.right = true then ofV (clOf fo.sets) 0 else ofV (zCl 0) 2) = ofV (ofC fo).1 (ofC fo).2 := by unfold ofC; cases fo.right <;> rfl
  rw [e]
  exact opTu_in <| opBig_in ⟨hok.size, opI_in <| SzIs_in rfl <| k w' (h.tr h') h'⟩
end
def ofD (f : Fo) (most : Int) : Dm × Int := dBld (bld f 20000).1.1 (bld f 20000).1.2 (ofC f).1 most
def ofB (f : Fo) (most : Int) : Bool := decide ((bld f 20000).2 = 0 ∧ (ofC f).2 = 0 ∧ (ofD f most).2 = 0)
theorem f85_ok (f : Fo) (A : Option Addr) (C : Nat) (most : Int) (w : World) (hr : RepF w A 0 f) (hl : f.len < 2 ^ 40) (hbig : f.size ≤ 2 ^ 39) :
    Ct Try.prog 85 #[.slice A f.len C, .int .i64 most] w fun v w' => (∃ a c na nc ta tc, v = .tuple #[.agg #[.int .i64 (bld f 20000).1.1, .slice a (bld f 20000).1.2.length c], .agg (ofC f).1.v, dmV (ofD f most).1 na nc ta tc, .bool (ofB f most)] ∧ OwnL w' w.heap.size 103 8 nsE a c (bld f 20000).1.2 ∧ OwnL w' w.heap.size 3 1 i1 na nc (ofD f most).1.2.1 ∧ OwnL w' w.heap.size 3 1 i1 ta tc (ofD f most).1.2.2) ∧ Md [] w w' := by
  apply f85_in
  intro n1 hn1 n2 hn2 n3 hn3 w4 m4 hL4
  have g4 : Good [n3, n2, n1] w w4 := ⟨m4, hL4⟩
  have hok := ofC_ok f
  have s4 := m4.size
  refine in66 f A C 20000 g4 (hr.md m4) (by omega) fun a c w6 g6 m6 own6 => rgU g6 fun n14 w15 g15 m15 => ?_
  refine in40c f A C hl hbig g15 (hr.md g15.1) fun w17 g17 m17 => ⟨hok.size, ?_⟩
  intro n21 hn21
  refine OkC_in hok.cells ⟨hok.size, fun w22 h22 hL22 => ?_⟩
  have m22 : Md [] w17 w22 := h22.fresh (by simp; exact hn21)
  have g22 : Good [n21, n14, n3, n2, n1] w w22 := ⟨g17.1.trans m22, hL22⟩
  have own22 := ((own6.md m15).md m17).md m22
  have hbl := bld_len f 20000
  refine in67 _ _ a c _ hok most g22 (own22.row encNs) (by omega) fun na nc ta tc w24 g24 m24 o1 o2 => ?_
  intro n35 hn35
  have own24 := own22.md m24
  have e0 : ofD f most = dBld (bld f 20000).1.1 (bld f 20000).1.2 (ofC f).1 most := rfl
  rw [← e0] at o1 o2 ⊢
  refine Jn_in (fun us vs w' => us = [.bool (ofB f most)] ∧ vs = [dmV (ofD f most).1 na nc ta tc, .agg (ofC f).1.v, .agg #[.int .i64 (bld f 20000).1.1, .slice a (bld f 20000).1.2.length c]] ∧ Md [] w w' ∧ OwnL w' w.heap.size 103 8 nsE a c (bld f 20000).1.2 ∧ OwnL w' w.heap.size 3 1 i1 na nc (ofD f most).1.2.1 ∧ OwnL w' w.heap.size 3 1 i1 ta tc (ofD f most).1.2.2) ?_ ?_
  · rintro us vs w38 ⟨rfl, rfl, q1, q2, q3, q4⟩
    exact opB_in <| opAg_in <| opI_in <| opL_in <| opL_in <| SzIs_in rfl <| opBig_in <| opAg_in <| opI_in <| opL_in <| SzIs_in rfl ⟨hok.size, ⟨a, c, na, nc, ta, tc, rfl, q2, q3, q4⟩, q1⟩
  · intro w55 h55 hL55
    have m55 : Md [] w24 w55 := h55.fresh (by simp; exact hn35)
    refine ⟨hok.size, Bd_in fun b56 hb56 => Bd_in fun b57 hb57 => Bd_in fun b58 hb58 => Bd_in fun b59 hb59 => Bd_in fun b60 hb60 => ?_⟩
    intro w61 h61 _
    refine OkC_in hok.cells ?_
    intro w62 h62 _ w63 h63 _
    have keep : ∀ {α : Type} {w' w'' : World} {n e size : Nat} {enc : α → List Value} {x : Option Addr} {y : Nat} {l : List α}, n < w4.heap.size → Md [n] w' w'' → OwnL w' w4.heap.size e size enc x y l → OwnL w'' w4.heap.size e size enc x y l := fun hn hm ho => ho.mdD hm fun A hA hd => by
      have := (ho.lt hA).1
      simp at hd
      omega
    have l1 := hL4 n1 (by simp)
    have l2 := hL4 n2 (by simp)
    have l3 := hL4 n3 (by simp)
    have s22 : w4.heap.size ≤ w22.heap.size := by have := m6.size; have := m15.size; have := m17.size; have := m22.size; omega
    have md24 : Md [] w24 w55.drew := m55.trans (Md_drew w55)
    have all : ∀ {α : Type} {e size : Nat} {enc : α → List Value} {x : Option Addr} {y : Nat} {l : List α}, OwnL w24 w4.heap.size e size enc x y l → OwnL w63 w.heap.size e size enc x y l := fun ho => (keep l3 h63 (keep l2 h62 (keep l1 h61 (ho.md md24)))).down s4
    refine ⟨?_, rfl, (((g24.1.trans md24).old h61 (by simp; exact hn1)).old h62 (by simp; exact hn2)).old h63 (by simp; exact hn3), all own24, all (o1.down s22), all (o2.down s22)⟩
    congr 2
    rw [hb60, hb59, hb58, hb57, hb56]
    unfold ofB
    by_cases c1 : (bld f 20000).2 = 0 <;> by_cases c2 : (ofC f).2 = 0 <;> by_cases c3 : (ofD f most).2 = 0 <;> simp [c1, c2, c3]
section
variable {L : List Nat} {w0 w : World}
theorem in85 (f : Fo) (A : Option Addr) (C : Nat) (most : Int) (h : Good L w0 w) (hr : RepF w A 0 f) (hl : f.len < 2 ^ 40) (hbig : f.size ≤ 2 ^ 39) {K : Int → Option Addr → Nat → Nat → Array Value → Int → Option Addr → Nat → Nat → Option Addr → Nat → Nat → Bool → World → Prop}
    (kk : ∀ a c na nc ta tc w', Good L w0 w' → Md [] w w' → OwnL w' w.heap.size 103 8 nsE a c (bld f 20000).1.2 → OwnL w' w.heap.size 3 1 i1 na nc (ofD f most).1.2.1 → OwnL w' w.heap.size 3 1 i1 ta tc (ofD f most).1.2.2 → K (bld f 20000).1.1 a (bld f 20000).1.2.length c (ofC f).1.v (ofD f most).1.1 na (ofD f most).1.2.1.length nc ta (ofD f most).1.2.2.length tc (ofB f most) w') :
    CallW Try.prog L 85 #[.slice A f.len C, .int .i64 most] (fun v w' => opTu v fun cs => opAg (nthD cs.toList 0) fun cs2 => opI .i64 (nthD cs2.toList 0) fun x => opL (nthD cs2.toList 1) fun a n c => SzIs cs2.size 2 (opBig (nthD cs.toList 1) fun cs3 => cs3.size = 257 ∧ opAg (nthD cs.toList 2) fun cs4 => opI .i64 (nthD cs4.toList 0) fun x2 => opL (nthD cs4.toList 1) fun a3 n3 c3 => opL (nthD cs4.toList 2) fun a4 n4 c4 => SzIs cs4.size 3 (opB (nthD cs.toList 3) fun b => SzIs cs.size 4 (K x a n c cs3 x2 a3 n3 c3 a4 n4 c4 b w')))) w := by
  refine (f85_ok f A C most w hr hl hbig).call h.2 ?_
  rintro v w' ⟨a, c, na, nc, ta, tc, rfl, o1, o2, o3⟩ h'
  exact opTu_in <| opAg_in <| opI_in <| opL_in <| SzIs_in rfl <| opBig_in ⟨(ofC_ok f).size, opAg_in <| opI_in <| opL_in <| opL_in <| SzIs_in rfl <| opB_in <| SzIs_in rfl <| kk a c na nc ta tc w' (h.tr h') h' o1 o2 o3⟩
end
def exC : Cl := ⟨List.replicate 97 0 ++ [1, 2] ++ List.replicate 157 0, 3⟩
theorem ex_C : ofC exF = (exC, 0) := by kernel_rfl
theorem ex_bld2 : bld exF 20000 = ((5, exS), 0) := by kernel_rfl
theorem ex_D3 : dBld 5 exS exC 3 = ((3, [-1, 1, 2, -1, 1, -1, -1, -1, -1], [1, 1, 0]), 0) := by kernel_rfl
theorem ex_D2 : dBld 5 exS exC 2 = ((0, [], []), 40) := by kernel_rfl
theorem ex_ofB : ofB exF 3 = true := by
  unfold ofB ofD
  rw [ex_bld2, ex_C]
  simp only
  rw [ex_D3]
  rfl
theorem ex_ofD : ofD exF 3 = ((3, [-1, 1, 2, -1, 1, -1, -1, -1, -1], [1, 1, 0]), 0) := by
  unfold ofD
  rw [ex_bld2, ex_C]
  exact ex_D3
theorem ex_runs : dRun 3 [-1, 1, 2, -1, 1, -1, -1, -1, -1] [1, 1, 0] [3] = ([], 2) := by kernel_rfl
theorem ex_runs1 : decide (dRun 3 [-1, 1, 2, -1, 1, -1, -1, -1, -1] [1, 1, 0] [1, 1] = ([1, 1, 1], 0)) = true := by kernel_rfl
theorem ex_runs2 : decide (dRun 3 [-1, 1, 2, -1, 1, -1, -1, -1, -1] [1, 1, 0] [2, 1] = ([1, 0, -1], 0)) = true := by kernel_rfl
section
variable {L : List Nat} {w0 w : World}
theorem in162 (dm : Int) (nx tg cs wt : List Int) (na ta ca wa : Option Addr) (nc tc cc wc : Nat) (h : Good L w0 w) (h1 : RowAt w na 1 i1 nx) (h2 : RowAt w ta 1 i1 tg) (h3 : RowAt w ca 1 i1 cs) (h4 : RowAt w wa 1 i1 wt) (hl1 : nx.length < 2 ^ 63) (hl2 : tg.length < 2 ^ 63) (hl3 : cs.length < 2 ^ 30) {K : Bool → World → Prop} (kk : ∀ w', Good L w0 w' → Md [] w w' → K (decide (dRun dm nx tg cs = (wt, 0))) w') :
    CallW Try.prog L 162 #[.agg #[.int .i64 dm, .slice na nx.length nc, .slice ta tg.length tc], .slice ca cs.length cc, .slice wa wt.length wc] (fun v w' => opB v fun b => K b w') w := by
  refine (f162_ok dm nx tg cs wt na ta ca wa nc tc cc wc w h1 h2 h3 h4 hl1 hl2 hl3).call h.2 ?_
  rintro v w' rfl h'
  exact opB_in (kk w' (h.tr h') h')
end
theorem ints_lit {w : World} (l : List Int) (cs : Array Value) (hc : cs.toList = l.flatMap i1) (hl : l.length ≤ 1000) : RowAt (w.alloc (.cells cs 3)) (some ⟨w.heap.size, 0, none⟩) 1 i1 l :=
  (OwnL.lit (P := Try.prog) (base := w.heap.size) enci1 w 3 l cs (Nat.le_refl _) (by simp [maxLen]; omega) hc).row enci1
theorem f65_ok (w : World) : Ct Try.prog 65 #[] w fun v w' => v = .bool true ∧ Md [] w w' := by
  apply f65_in
  have g0 : Good [] w w := ⟨Md.refl _ _, by simp⟩
  refine in161 98 17179869184 (.inr ⟨rfl, rfl⟩) g0 fun w2 g2 _ => in161 97 8589934592 (.inl ⟨rfl, rfl⟩) g2 fun w13 g13 _ => Nw_i <| Nw_i ?_
  have m26 : Md [] w13 ((w13.alloc (o42a 8589934592)).alloc (o42b 17179869184 w13.heap.size)) := (Md.alloc w13 _).trans (Md.alloc _ _)
  have r26 := exRep w13
  change CallW _ _ _ _ _ ((w13.alloc (o42a 8589934592)).alloc (o42b 17179869184 w13.heap.size))
  have hok : exC.ok := by have := ofC_ok exF; rw [ex_C] at this; exact this
  refine in85 exF _ 2 3 (g13.tr m26) r26 (by decide) (by decide) fun a c na nc ta tc w28 g28 m28 o1 o2 o3 => ?_
  rw [ex_bld2, ex_ofD] at *
  rw [ex_ofB, ex_C]
  simp only at o1 o2 o3 ⊢
  refine ⟨hok.size, fun n45 h45 n46 h46 n47 h47 => OkC_in hok.cells ⟨hok.size, fun w48 h48 hL48 => ?_⟩⟩
  have m48 : Md [] w28 w48 := h48.fresh (by simp; omega)
  have g48 : Good [n47, n46, n45] w w48 := ⟨g28.1.trans m48, hL48⟩
  have nx48 := ((o2.md m48).row enci1)
  have tg48 := ((o3.md m48).row enci1)
  refine in67 5 exS a c exC hok 2 g48 ((o1.md m48).row encNs) (by decide) fun na2 nc2 ta2 tc2 w50 g50 m50 p1 p2 => ?_
  rw [ex_D2]
  simp only
  refine rgU g50 fun n61 w62 g62 m62 => Nw_i ?_
  have m64 : Md [] w62 (w62.alloc (.cells #[.int .i64 3] 3)) := Md.alloc w62 _
  have r64 := ints_lit (w := w62) [3] #[.int .i64 3] rfl (by decide)
  have md64 := (m50.trans m62).trans m64
  refine in70 3 _ _ [3] na ta _ nc tc 1 (g62.tr m64) (nx48.md md64) (tg48.md md64) r64 (by decide) (by decide) (by decide) fun a68 c70 w66 g66 m66 _ => ?_
  rw [ex_runs]
  simp only
  have nx66 := (nx48.md md64).md m66
  have tg66 := (tg48.md md64).md m66
  refine Bd_e (y := true) rfl <| Bd_e (y := true) rfl <| Bd_e (y := true) rfl <| Bd_e (y := true) rfl ⟨fun _ => hok.manyI.1, Bd_e (y := 3) (by rw [hok.manyI.2]; rfl) <| Bd_e (y := true) rfl <| Bd_e (y := true) rfl ?_⟩
  refine Gd_t <| Nw_i <| Gd_t <| Nw_i ?_
  have ma1 : Md [] w66 (w66.alloc (.cells #[.int .i64 (-1), .int .i64 1, .int .i64 2, .int .i64 (-1), .int .i64 1, .int .i64 (-1), .int .i64 (-1), .int .i64 (-1), .int .i64 (-1)] 3)) := Md.alloc w66 _
  have q1 := ints_lit (w := w66) [-1, 1, 2, -1, 1, -1, -1, -1, -1] #[.int .i64 (-1), .int .i64 1, .int .i64 2, .int .i64 (-1), .int .i64 1, .int .i64 (-1), .int .i64 (-1), .int .i64 (-1), .int .i64 (-1)] rfl (by decide)
  have g84 := g66.tr ma1
  generalize w66.alloc (.cells #[.int .i64 (-1), .int .i64 1, .int .i64 2, .int .i64 (-1), .int .i64 1, .int .i64 (-1), .int .i64 (-1), .int .i64 (-1), .int .i64 (-1)] 3) = w84 at *
  have ma2 : Md [] w84 (w84.alloc (.cells #[.int .i64 1, .int .i64 1, .int .i64 0] 3)) := Md.alloc w84 _
  have q2 := ints_lit (w := w84) [1, 1, 0] #[.int .i64 1, .int .i64 1, .int .i64 0] rfl (by decide)
  have nx89 := (nx66.md ma1).md ma2
  have tg89 := (tg66.md ma1).md ma2
  refine Gd_t <| in96 3 3 [-1, 1, 2, -1, 1, -1, -1, -1, -1] [-1, 1, 2, -1, 1, -1, -1, -1, -1] [1, 1, 0] [1, 1, 0] na ta _ _ nc tc 9 3 (g84.tr ma2) nx89 tg89 (q1.md ma2) q2 (by decide) (by decide) fun w95 g95 m95 => ?_
  have nx95 := nx89.md m95
  have tg95 := tg89.md m95
  refine Bd_e (y := true) rfl <| Gd_t <| Nw_i <| Gd_t <| Nw_i ?_
  have ma3 : Md [] w95 (w95.alloc (.cells #[.int .i64 1, .int .i64 1] 3)) := Md.alloc w95 _
  have q3 := ints_lit (w := w95) [1, 1] #[.int .i64 1, .int .i64 1] rfl (by decide)
  have g101 := g95.tr ma3
  generalize w95.alloc (.cells #[.int .i64 1, .int .i64 1] 3) = w101 at *
  have ma4 : Md [] w101 (w101.alloc (.cells #[.int .i64 1, .int .i64 1, .int .i64 1] 3)) := Md.alloc w101 _
  have q4 := ints_lit (w := w101) [1, 1, 1] #[.int .i64 1, .int .i64 1, .int .i64 1] rfl (by decide)
  have nx106 := (nx95.md ma3).md ma4
  have tg106 := (tg95.md ma3).md ma4
  refine Gd_t <| in162 3 _ _ [1, 1] [1, 1, 1] na ta _ _ nc tc 2 3 (g101.tr ma4) nx106 tg106 (q3.md ma4) q4 (by decide) (by decide) (by decide) fun w112 g112 m112 => ?_
  rw [ex_runs1]
  have nx112 := nx106.md m112
  have tg112 := tg106.md m112
  refine Bd_e (y := true) rfl <| Gd_t <| Nw_i <| Gd_t <| Nw_i ?_
  have ma5 : Md [] w112 (w112.alloc (.cells #[.int .i64 2, .int .i64 1] 3)) := Md.alloc w112 _
  have q5 := ints_lit (w := w112) [2, 1] #[.int .i64 2, .int .i64 1] rfl (by decide)
  have g118 := g112.tr ma5
  generalize w112.alloc (.cells #[.int .i64 2, .int .i64 1] 3) = w118 at *
  have ma6 : Md [] w118 (w118.alloc (.cells #[.int .i64 1, .int .i64 0, .int .i64 (-1)] 3)) := Md.alloc w118 _
  have q6 := ints_lit (w := w118) [1, 0, -1] #[.int .i64 1, .int .i64 0, .int .i64 (-1)] rfl (by decide)
  have nx123 := (nx112.md ma5).md ma6
  have tg123 := (tg112.md ma5).md ma6
  refine Gd_t <| in162 3 _ _ [2, 1] [1, 0, -1] na ta _ _ nc tc 2 3 (g118.tr ma6) nx123 tg123 (q5.md ma6) q6 (by decide) (by decide) (by decide) fun w129 g129 m129 => ?_
  rw [ex_runs2]
  exact Bd_e (y := true) rfl ⟨rfl, g129.1⟩
theorem in65 {L : List Nat} {w0 w : World} {K : Bool → World → Prop} (h : Good L w0 w) (kk : ∀ w', Good L w0 w' → K true w') : CallW Try.prog L 65 #[] (fun v w' => opB v fun b => K b w') w := by
  refine (f65_ok w).call h.2 ?_
  rintro v w' rfl h'
  exact opB_in (kk w' (h.tr h'))
end Fk
set_option linter.unusedVariables false
set_option linter.unusedSimpArgs false
set_option maxRecDepth 100000
set_option maxHeartbeats 4000000
namespace Fk
open Go Go.Proofs Go.RowKit
theorem oneB_grow (l : List Ns) (b : Nat) (N : List Bool) (p : DP) : p.1.length ≤ (oneB l b N p).1.length := by
  unfold oneB
  split
  · exact Nat.le_refl _
  · split
    · exact Nat.le_refl _
    · simp
theorem dRow_grow {l : List Ns} {M : Nat} : ∀ {F : List Nat} {N : List Bool} {p q : DP}, dRow l M F N p = some q → p.1.length ≤ q.1.length
  | [], N, p, q, h => by simp only [dRow, Option.some.injEq] at h; rw [h]; exact Nat.le_refl _
  | b :: F, N, p, q, h => by
    unfold dRow at h
    split at h
    · cases h
    · exact Nat.le_trans (oneB_grow l b N p) (dRow_grow h)
theorem dRow_le {l : List Ns} {M : Nat} : ∀ {F : List Nat} {N : List Bool} {p q : DP}, dRow l M F N p = some q → p.1.length ≤ M → q.1.length ≤ M
  | [], N, p, q, h, hp => by simp only [dRow, Option.some.injEq] at h; rw [← h]; exact hp
  | b :: F, N, p, q, h, hp => by
    unfold dRow at h
    split at h
    · cases h
    · exact dRow_le h (by omega)
theorem dRow_cap {l : List Ns} {M : Nat} (M' : Nat) : ∀ {F : List Nat} {N : List Bool} {p q : DP}, dRow l M F N p = some q → p.1.length ≤ M' → dRow l M' F N p = if q.1.length ≤ M' then some q else none
  | [], N, p, q, h, hp => by
    simp only [dRow, Option.some.injEq] at h ⊢
    rw [← h, if_pos hp]
  | b :: F, N, p, q, h, hp => by
    unfold dRow at h ⊢
    split at h
    · cases h
    · have hg := dRow_grow h
      split
      · rw [if_neg (by omega)]
      · exact dRow_cap M' h (by omega)
theorem dAll_grow {l : List Ns} {M : Nat} {F : List Nat} : ∀ {f i : Nat} {p q : DP}, dAll l M F f i p = some q → p.1.length ≤ q.1.length
  | 0, i, p, q, h => by simp only [dAll, Option.some.injEq] at h; rw [h]; exact Nat.le_refl _
  | f + 1, i, p, q, h => by
    unfold dAll at h
    split at h
    · simp only [Option.some.injEq] at h; rw [h]; exact Nat.le_refl _
    · rename_i N hN
      cases hr : dRow l M F N p with
      | none => rw [hr] at h; cases h
      | some p' =>
        rw [hr] at h
        exact Nat.le_trans (dRow_grow hr) (dAll_grow h)
theorem dAll_le {l : List Ns} {M : Nat} {F : List Nat} : ∀ {f i : Nat} {p q : DP}, dAll l M F f i p = some q → p.1.length ≤ M → q.1.length ≤ M
  | 0, i, p, q, h, hp => by simp only [dAll, Option.some.injEq] at h; rw [← h]; exact hp
  | f + 1, i, p, q, h, hp => by
    unfold dAll at h
    split at h
    · simp only [Option.some.injEq] at h; rw [← h]; exact hp
    · rename_i N hN
      cases hr : dRow l M F N p with
      | none => rw [hr] at h; cases h
      | some p' =>
        rw [hr] at h
        exact dAll_le h (dRow_le hr hp)
theorem dAll_cap {l : List Ns} {M : Nat} {F : List Nat} (M' : Nat) : ∀ {f f' i : Nat} {p q : DP}, dAll l M F f i p = some q → p.1.length ≤ M → p.1.length ≤ M' → i ≤ p.1.length → i + f = M + 1 → i + f' = M' + 1 → dAll l M' F f' i p = if q.1.length ≤ M' then some q else none
  | 0, f', i, p, q, h, h1, h2, h3, h4, h5 => by omega
  | f + 1, 0, i, p, q, h, h1, h2, h3, h4, h5 => by omega
  | f + 1, f' + 1, i, p, q, h, h1, h2, h3, h4, h5 => by
    unfold dAll at h ⊢
    cases hN : p.1[i]? with
    | none =>
      rw [hN] at h
      simp only [Option.some.injEq] at h ⊢
      rw [← h, if_pos h2]
    | some N =>
      rw [hN] at h
      simp only at h ⊢
      have hil := (List.getElem?_eq_some_iff.1 hN).1
      cases hr : dRow l M F N p with
      | none => rw [hr] at h; cases h
      | some p' =>
        rw [hr] at h
        have h : dAll l M F f (i + 1) p' = some q := h
        have hg := dRow_grow hr
        rw [dRow_cap M' hr h2]
        have hgq := dAll_grow h
        by_cases c : p'.1.length ≤ M'
        · rw [if_pos c]
          exact dAll_cap M' h (dRow_le hr h1) c (by omega) (by omega) (by omega)
        · rw [if_neg c, if_neg (by omega)]
          rfl
/-- The cap: as many states as there are is enough. -/
theorem dBld_cap {st : Int} {l : List Ns} {c : Cl} {m : Int} {d : Dm} (h : dBld st l c m = (d, 0)) (x : Int) : d.2.2.length ≤ m ∧ 1 ≤ d.2.2.length ∧
    dBld st l c x = if x < 1 ∨ x > 5000 then ((0, [], []), 2) else if x < d.2.2.length then ((0, [], []), 40) else (d, 0) := by
  unfold dBld at h
  split at h
  case isFalse => exact absurd (congrArg Prod.snd h) (by simp)
  rename_i hc
  split at h
  case h_1 => exact absurd (congrArg Prod.snd h) (by simp)
  rename_i p hp
  obtain ⟨hr, hf, hm1, hm2⟩ := hc
  have hd : d = (c.m, p.2, tagL l p.1) := by injection h with h; exact h.symm
  have hlen : d.2.2.length = p.1.length := by rw [hd]; simp [tagL]
  have hg := dAll_grow hp
  have hle := dAll_le hp (by simp; omega)
  simp only [List.length_cons, List.length_nil] at hg
  refine ⟨by omega, by omega, ?_⟩
  rw [hlen]
  unfold dBld
  by_cases hx : x < 1 ∨ x > 5000
  · rw [if_pos hx, if_neg (by omega)]
  · rw [if_neg hx, if_pos ⟨hr, hf, by omega, by omega⟩]
    have := dAll_cap (f' := x.toNat + 1) x.toNat hp (by simp; omega) (by simp; omega) (by simp) (by omega) (by omega)
    rw [this]
    by_cases hc : x < (p.1.length : Int)
    · rw [if_pos hc, if_neg (by omega)]
    · rw [if_neg hc, if_pos (by omega), hd]
end Fk
set_option linter.unusedVariables false
set_option linter.unusedSimpArgs false
set_option maxRecDepth 100000
set_option maxHeartbeats 4000000
namespace Fk
open Go Go.Proofs Go.RowKit
theorem Good.up {L D : List Nat} {w0 w w' : World} (g : Good L w0 w) (hD : ∀ d ∈ D, w.heap.size ≤ d) (hm : Md D w w') {L' : List Nat} (hL : ∀ b ∈ L', b < w'.heap.size) : Good L' w0 w' ∧ Md [] w w' :=
  ⟨⟨g.1.trans (hm.fresh hD), hL⟩, hm.fresh hD⟩
theorem dRow_nx {l : List Ns} {M : Nat} : ∀ {F : List Nat} {N : List Bool} {p q : DP}, dRow l M F N p = some q → q.2.length = p.2.length + F.length
  | [], N, p, q, h => by simp only [dRow, Option.some.injEq] at h; rw [h]; rfl
  | b :: F, N, p, q, h => by
    unfold dRow at h
    split at h
    · cases h
    · have := dRow_nx h
      have e : (oneB l b N p).2.length = p.2.length + 1 := by
        unfold oneB
        split
        · simp
        · split <;> simp
      simp; omega
theorem dAll_nx {l : List Ns} {M : Nat} {F : List Nat} : ∀ {f i : Nat} {p q : DP}, dAll l M F f i p = some q → p.1.length ≤ M → i ≤ p.1.length → i + f = M + 1 → p.2.length = i * F.length → q.2.length = q.1.length * F.length
  | 0, i, p, q, h, h1, h2, h3, h4 => by omega
  | f + 1, i, p, q, h, h1, h2, h3, h4 => by
    unfold dAll at h
    cases hN : p.1[i]? with
    | none =>
      rw [hN] at h
      simp only [Option.some.injEq] at h
      have := List.getElem?_eq_none_iff.1 hN
      have e : i = p.1.length := by omega
      rw [← h, ← e, h4]
    | some N =>
      rw [hN] at h
      have hil := (List.getElem?_eq_some_iff.1 hN).1
      simp only at h
      cases hr : dRow l M F N p with
      | none => rw [hr] at h; cases h
      | some p' =>
        rw [hr] at h
        have h : dAll l M F f (i + 1) p' = some q := h
        exact dAll_nx h (dRow_le hr h1) (by have := dRow_grow hr; omega) (by omega) (by rw [dRow_nx hr, h4, Nat.succ_mul])
theorem dBld_sz {st : Int} {l : List Ns} {c : Cl} (hc : c.ok) {m : Int} : (dBld st l c m).1.2.2.length ≤ 5000 ∧ (dBld st l c m).1.2.1.length ≤ 1280000 ∧ ((dBld st l c m).2 = 0 → ((dBld st l c m).1.2.1.length : Int) = c.m * (dBld st l c m).1.2.2.length ∧ (dBld st l c m).1.1 = c.m ∧ 1 ≤ c.m ∧ c.m ≤ 256) := by
  unfold dBld
  split
  case isFalse => simp
  rename_i hcd
  obtain ⟨hr, hf, hm1, hm2⟩ := hcd
  have hcr : c.right = true := by unfold fitsN at hf; rw [Bool.and_eq_true] at hf; exact hf.2
  obtain ⟨cm1, cm2⟩ := right_m hc hcr
  split
  case h_1 => simp
  rename_i p hp
  have hle := dAll_le hp (by simp; omega)
  have hnx := dAll_nx hp (by simp; omega) (by simp) (by omega) (by simp)
  rw [firsts_len] at hnx
  have hl : (tagL l p.1).length = p.1.length := by simp [tagL]
  have hmul : p.1.length * c.m.toNat ≤ 5000 * 256 := Nat.mul_le_mul (by omega) (by omega)
  refine ⟨by rw [hl]; omega, by simp only; omega, fun _ => ⟨?_, rfl, cm1, cm2⟩⟩
  simp only [hl]
  rw [hnx, Int.natCast_mul, Int.mul_comm]
  congr 1
  omega
end Fk
set_option linter.unusedVariables false
set_option linter.unusedSimpArgs false
set_option maxRecDepth 100000
set_option maxHeartbeats 4000000
namespace Fk
open Go Go.Proofs Go.RowKit
def z174 : List Value := [.int .i64 0, .slice none 0 0] ++ (zCl 0).l
theorem built174 (parts : List (Nat × Value)) : Try.prog.built 174 parts = Instr.fill (#[(0, 2), (2, 257)][·]?) z174.toArray parts := by kernel_rfl
structure Pr where
  st : Int
  a : Option Addr
  c : Nat
  l : List Ns
  cl : Cl
def prE (p : Pr) : List Value := [.int .i64 p.st, .slice p.a p.l.length p.c] ++ p.cl.l
theorem prE_len (p : Pr) (h : p.cl.ok) : (prE p).length = 259 := by simp [prE, Cl.l, h.len]
theorem z174_len : z174.length = 259 := by kernel_rfl
theorem build174 (w : World) (p : Pr) (h : p.cl.ok) : (Instr.build 174 #[(0, .agg #[.int .i64 p.st, .slice p.a p.l.length p.c]), (1, .agg p.cl.v)]).run Try.prog w = .ok (.agg (prE p).toArray) w := by
  refine run_build w 174 _ _ ?_
  rw [built174]
  have hl : p.cl.l.length = 257 := by simp [Cl.l, h.len]
  have hv : p.cl.v = p.cl.l.toArray := rfl
  have hz := z174_len
  have w1 : (wrL z174 0 [Value.int .i64 p.st, .slice p.a p.l.length p.c]).length = 259 := by rw [wrL_len (by simp [hz]), hz]
  have f1 := fold_wr 0 [Value.int .i64 p.st, .slice p.a p.l.length p.c] 0 z174 (by simp [hz])
  have f2 := fold_wr 2 p.cl.l 0 (wrL z174 0 [Value.int .i64 p.st, .slice p.a p.l.length p.c]) (by rw [w1, hl]; omega)
  simp only [Nat.zero_add, Nat.add_zero] at f1 f2
  have c1 : (Value.agg #[.int .i64 p.st, .slice p.a p.l.length p.c]).cells = #[.int .i64 p.st, .slice p.a p.l.length p.c] := rfl
  have c2 : (Value.agg p.cl.v).cells = p.cl.l.toArray := rfl
  have g1 : (#[Value.int .i64 p.st, .slice p.a p.l.length p.c].zipIdx.foldl (fun cs (c, j) => cs.setIfInBounds (0 + j) c) z174.toArray) = (wrL z174 0 [Value.int .i64 p.st, .slice p.a p.l.length p.c]).toArray := by
    rw [← Array.foldl_toList, Array.toList_zipIdx]
    simpa using f1
  have g2 : (p.cl.l.toArray.zipIdx.foldl (fun cs (c, j) => cs.setIfInBounds (2 + j) c) (wrL z174 0 [Value.int .i64 p.st, .slice p.a p.l.length p.c]).toArray) = (wrL (wrL z174 0 [Value.int .i64 p.st, .slice p.a p.l.length p.c]) 2 p.cl.l).toArray := by
    rw [← Array.foldl_toList, Array.toList_zipIdx]
    simpa using f2
  have e : wrL (wrL z174 0 [Value.int .i64 p.st, .slice p.a p.l.length p.c]) 2 p.cl.l = prE p := by
    apply List.ext_getElem?
    intro j
    rw [wrL_get (by rw [w1, hl]; omega), hl]
    by_cases hj : 2 ≤ j ∧ j < 2 + 257
    · rw [if_pos hj]
      unfold prE
      rw [List.getElem?_append_right (by simp; omega)]
      simp
    · rw [if_neg hj, wrL_get (by simp [hz])]
      by_cases hj2 : j < 2
      · rw [if_pos (by simp; omega)]
        unfold prE
        rw [List.getElem?_append_left (by simp; omega)]
        simp
      · rw [if_neg (by simp; omega), List.getElem?_eq_none (by omega), List.getElem?_eq_none (by rw [prE_len p h]; omega)]
  simp only [Instr.fill, c1, c2]
  have k1 : (#[(0, 2), (2, 257)] : Array (Nat × Nat))[0]? = some (0, 2) := rfl
  have k2 : (#[(0, 2), (2, 257)] : Array (Nat × Nat))[1]? = some (2, 257) := rfl
  simp only [k1, k2]
  rw [g1, g2, e]
  rw [if_neg (by simp [hz]), if_neg (by simp [hl, w1])]
theorem prE_cells (p : Pr) (h : p.cl.ok) : okCells (List.toArray (prE p)).toList 259 = true := by
  have hl := prE_len p h
  have : allOne (prE p) = true := by
    simp [allOne, prE, Cl.l, Value.oneCell']
  unfold okCells
  rw [show (List.toArray (prE p)).toList = prE p from rfl, hl]
  exact this
theorem flat_get : ∀ (L : List Pr), (∀ p ∈ L, (prE p).length = 259) → ∀ {i : Nat} {p : Pr}, L[i]? = some p → ∀ {j : Nat} {u : Value}, (prE p)[j]? = some u → (L.flatMap prE)[i * 259 + j]? = some u
  | [], _, i, p, h, _, _, _ => by simp at h
  | q :: L, hL, 0, p, h, j, u, hu => by
    simp at h; subst h
    have hj := (List.getElem?_eq_some_iff.1 hu).1
    rw [List.flatMap_cons, List.getElem?_append_left (by omega), Nat.zero_mul, Nat.zero_add]
    exact hu
  | q :: L, hL, i + 1, p, h, j, u, hu => by
    have hq := hL q (by simp)
    rw [List.flatMap_cons, List.getElem?_append_right (by omega), hq, show (i + 1) * 259 + j - 259 = i * 259 + j by omega]
    exact flat_get L (fun x hx => hL x (by simp [hx])) (by simpa using h) hu
/-- Such a pair is read, and taken apart. -/
theorem ldPr {w w1 : World} {n : Nat} {Ps : List Pr} (hb : Blk w1 n 174 (Ps.flatMap prE)) (hm : Md [] w1 w) (hok : ∀ p ∈ Ps, p.cl.ok) {i : Nat} (hi : i < Ps.length) {K : List Value → Prop} (k : K (prE Ps[i])) : LdN w (adAt (some (Addr.mk n 0 none)) (i : Int) 259) 259 K := by
  refine LdN_in (prE_len _ (hok _ (List.getElem_mem hi))) (fun j u hu => ?_) k
  have e : (adAt (some (Addr.mk n 0 none)) (i : Int) 259).add j = ⟨n, i * 259 + j, none⟩ := by
    show ((Addr.mk n 0 none).add ((i : Int).toNat * 259)).add j = _
    rw [add_add, ad0', Int.toNat_natCast]
  rw [e]
  exact hm.cell0 (hb.cell (flat_get Ps (fun p hp => prE_len p (hok p hp)) (List.getElem?_eq_getElem hi) hu))
end Fk
set_option linter.unusedVariables false
set_option linter.unusedSimpArgs false
namespace Fk
open Go Go.Proofs Go.RowKit
inductive StarL (La : List Nat → Prop) : List Nat → Prop
  | nil : StarL La []
  | app {u v : List Nat} : La u → StarL La v → StarL La (u ++ v)
structure Lg where
  cat : List Nat → Prop
  alt : List Nat → Prop
  one : List Nat → Prop
def lgOne (k a b c d : Int) (Q : Lg) (u : List Nat) : Prop :=
  (k = 1 ∧ ∃ x, u = [x] ∧ inQ (a, b, c, d) x = true) ∨ (k = 2 ∧ Q.cat u) ∨ (k = 3 ∧ Q.alt u) ∨ (k = 4 ∧ StarL Q.one u) ∨ (k = 0 ∧ u = [])
/-- The texts of a row of trees: one behind the other; of one of them; of the first. -/
def lg : Fo → Lg
  | .nil => ⟨fun u => u = [], fun _ => False, fun _ => False⟩
  | .cons k a b c d q r => ⟨fun u => ∃ v w, u = v ++ w ∧ lgOne k a b c d (lg q) v ∧ (lg r).cat w, fun u => lgOne k a b c d (lg q) u ∨ (lg r).alt u, lgOne k a b c d (lg q)⟩
/-- A way from a state to a state, of at most so many steps, by a text. -/
inductive Pn (L : List Ns) : Nat → Nat → List Nat → Nat → Prop
  | refl (n i : Nat) : Pn L n i [] i
  | a {n i : Nat} {x : Ns} {u : List Nat} {j : Nat} : L[i]? = some x → x.k = 2 → Pn L n x.a.toNat u j → Pn L (n + 1) i u j
  | b {n i : Nat} {x : Ns} {u : List Nat} {j : Nat} : L[i]? = some x → x.k = 2 → Pn L n x.b.toNat u j → Pn L (n + 1) i u j
  | byte {n i : Nat} {x : Ns} {c : Nat} {u : List Nat} {j : Nat} : L[i]? = some x → x.k = 1 → inQ x.q c = true → Pn L n x.a.toNat u j → Pn L (n + 1) i (c :: u) j
theorem Pn.up {L : List Ns} {n m i j : Nat} {u : List Nat} (h : Pn L n i u j) (hm : n ≤ m) : Pn L m i u j := by
  induction h generalizing m with
  | refl n i => exact .refl _ _
  | a h1 h2 _ ih => obtain ⟨m, rfl⟩ : ∃ k, m = k + 1 := ⟨m - 1, by omega⟩; exact .a h1 h2 (ih (by omega))
  | b h1 h2 _ ih => obtain ⟨m, rfl⟩ : ∃ k, m = k + 1 := ⟨m - 1, by omega⟩; exact .b h1 h2 (ih (by omega))
  | byte h1 h2 h3 _ ih => obtain ⟨m, rfl⟩ : ∃ k, m = k + 1 := ⟨m - 1, by omega⟩; exact .byte h1 h2 h3 (ih (by omega))
theorem Pn.trans {L : List Ns} {n m i j k : Nat} {u v : List Nat} (h : Pn L n i u j) (h2 : Pn L m j v k) : Pn L (n + m) i (u ++ v) k := by
  induction h with
  | refl n i => exact h2.up (by omega)
  | @a n i x u j e1 e2 _ ih => rw [show n + 1 + m = (n + m) + 1 by omega]; exact .a e1 e2 (ih h2)
  | @b n i x u j e1 e2 _ ih => rw [show n + 1 + m = (n + m) + 1 by omega]; exact .b e1 e2 (ih h2)
  | @byte n i x c u j e1 e2 e3 _ ih => rw [show n + 1 + m = (n + m) + 1 by omega]; exact .byte e1 e2 e3 (ih h2)
def FragP (L : List Ns) (lo hi : Nat) (x to : Int) (La : List Nat → Prop) : Prop :=
  (∀ u, La u → ∃ n, Pn L n x.toNat u to.toNat) ∧ (∀ n w j, (j < lo ∨ hi ≤ j) → Pn L n x.toNat w j → ∃ u v m, m ≤ n ∧ w = u ++ v ∧ La u ∧ Pn L m to.toNat v j)
def AllOk (l : List Ns) : Prop := ∀ x ∈ l, okNs l.length x
theorem okNs_mono {m m' : Int} {x : Ns} (h : okNs m x) (hm : m ≤ m') : okNs m' x := by
  rcases h with h | h | h
  · exact .inl h
  · exact .inr (.inl ⟨h.1, h.2.1, h.2.2.1, by omega, h.2.2.2.2⟩)
  · exact .inr (.inr ⟨h.1, h.2.1, h.2.2.1, by omega, h.2.2.2.2.1, by omega, h.2.2.2.2.2.2⟩)
theorem AllOk.snoc {l : List Ns} {x : Ns} (h : AllOk l) (hx : okNs (l.length + 1) x) : AllOk (l ++ [x]) := by
  intro y hy
  rw [List.length_append, List.length_singleton]
  rcases List.mem_append.1 hy with h1 | h1
  · exact okNs_mono (h y h1) (by omega)
  · simp at h1; subst h1
    rw [Int.natCast_add]
    exact hx
/-- A piece of a machine: from x on, toward 'to', it reads these texts. -/
structure Frp (l : List Ns) (to : Int) (l' : List Ns) (x : Int) (La : List Nat → Prop) : Prop where
  le : l.length ≤ l'.length
  pre : ∀ i, i < l.length → l'[i]? = l[i]?
  x0 : 0 ≤ x ∧ x < l'.length
  kk : ∀ i s, l.length ≤ i → l'[i]? = some s → s.k ≠ 0
  ok : AllOk l → AllOk l'
  fr : ∀ L : List Ns, (∀ i, l.length ≤ i → i < l'.length → L[i]? = l'[i]?) → FragP L l.length l'.length x to La
theorem Frp.congr {l : List Ns} {to : Int} {l' : List Ns} {x : Int} {La Lb : List Nat → Prop} (h : Frp l to l' x La) (hi : ∀ u, La u ↔ Lb u) : Frp l to l' x Lb := by
  have : La = Lb := funext fun u => propext (hi u)
  rw [← this]; exact h
theorem Frp.refl {l : List Ns} {to : Int} (h : 0 ≤ to ∧ to < l.length) : Frp l to l to (fun u => u = []) :=
  ⟨Nat.le_refl _, fun _ _ => rfl, h, (fun i s h1 h2 => by rw [List.getElem?_eq_none h1] at h2; cases h2), fun h => h, fun L _ => ⟨fun u hu => by subst hu; exact ⟨0, .refl _ _⟩, fun n w j _ hp => ⟨[], w, n, Nat.le_refl _, rfl, rfl, hp⟩⟩⟩
theorem Frp.cat {l l1 l2 : List Ns} {to x1 x2 : Int} {La Lb : List Nat → Prop} (h1 : Frp l to l1 x1 La) (h2 : Frp l1 x1 l2 x2 Lb) : Frp l to l2 x2 (fun u => ∃ v w, u = v ++ w ∧ Lb v ∧ La w) := by
  have e1 := h1.le
  have e2 := h2.le
  refine ⟨by omega, fun i hi => (h2.pre i (by omega)).trans (h1.pre i hi), h2.x0, fun i s hi hs => ?_, fun h => h2.ok (h1.ok h), fun L hL => ?_⟩
  · by_cases c : i < l1.length
    · exact h1.kk i s hi ((h2.pre i c).symm.trans hs)
    · exact h2.kk i s (by omega) hs
  · obtain ⟨a1, a2⟩ := h1.fr L fun i hi hi2 => (hL i hi (by omega)).trans (h2.pre i hi2)
    obtain ⟨b1, b2⟩ := h2.fr L fun i hi hi2 => hL i (by omega) hi2
    refine ⟨fun u hu => ?_, fun n w j hj hp => ?_⟩
    · obtain ⟨v, w, rfl, hv, hw⟩ := hu
      obtain ⟨n, hn⟩ := b1 v hv
      obtain ⟨m, hm⟩ := a1 w hw
      exact ⟨n + m, hn.trans hm⟩
    · obtain ⟨u, v, m, hm, rfl, hu, hp2⟩ := b2 n w j (by omega) hp
      obtain ⟨u2, v2, m2, hm2, rfl, hu2, hp3⟩ := a2 m v j (by omega) hp2
      exact ⟨u ++ u2, v2, m2, by omega, by rw [List.append_assoc], ⟨u, u2, rfl, hu, hu2⟩, hp3⟩
theorem get_last (l : List Ns) (x : Ns) : (l ++ [x])[l.length]? = some x := by simp
theorem get_pre {l : List Ns} {x : Ns} {i : Nat} (h : i < l.length) : (l ++ [x])[i]? = l[i]? := List.getElem?_append_left h
theorem Frp.set {l : List Ns} {to : Int} (h : 0 ≤ to ∧ to < l.length) {a b c d : Int} (hz : z4 a b c d = false) : Frp l to (l ++ [⟨1, a, b, c, d, to, 0, 0⟩]) (l.length : Int) (fun u => ∃ x, u = [x] ∧ inQ (a, b, c, d) x = true) := by
  refine ⟨by simp, fun i hi => get_pre hi, by simp; omega, fun i s h1 h2 => ?_, fun h' => h'.snoc ?_, fun L hL => ?_⟩
  · have hi : i = l.length := by
      have := (List.getElem?_eq_some_iff.1 h2).1
      simp at this; omega
    subst hi
    rw [get_last] at h2
    injection h2 with h2; subst h2; simp
  · unfold okNs
    refine .inr (.inl ⟨rfl, ?_, h.1, by simp only; omega, rfl, rfl⟩)
    unfold z4 at hz
    simp [Ns.zs] at hz ⊢
    omega
  · have e := hL l.length (Nat.le_refl _) (by simp)
    rw [get_last] at e
    refine ⟨fun u hu => ?_, fun n w j hj hp => ?_⟩
    · obtain ⟨x, rfl, hx⟩ := hu
      exact ⟨1, by rw [Int.toNat_natCast]; exact .byte e rfl hx (.refl 0 _)⟩
    · rw [Int.toNat_natCast] at hp
      simp only [List.length_append, List.length_singleton] at hj
      generalize hx : l.length = i at *
      cases hp with
      | refl => omega
      | a e1 e2 _ => rw [e] at e1; injection e1 with e1; subst e1; simp at e2
      | b e1 e2 _ => rw [e] at e1; injection e1 with e1; subst e1; simp at e2
      | @byte n _ x c u _ e1 e2 e3 hp =>
        rw [e] at e1; injection e1 with e1; subst e1
        exact ⟨[c], u, n, by omega, rfl, ⟨c, rfl, e3⟩, hp⟩
/-- Behind a choice. -/
theorem split_way {L : List Ns} {i : Nat} {a b : Int} (e : L[i]? = some (spl a b)) {n : Nat} {w : List Nat} {j : Nat} (hj : j ≠ i) (hp : Pn L n i w j) : ∃ m, n = m + 1 ∧ (Pn L m a.toNat w j ∨ Pn L m b.toNat w j) := by
  cases hp with
  | refl => exact absurd rfl hj
  | @a n _ x _ _ e1 e2 hp => rw [e] at e1; injection e1 with e1; subst e1; exact ⟨n, rfl, .inl hp⟩
  | @b n _ x _ _ e1 e2 hp => rw [e] at e1; injection e1 with e1; subst e1; exact ⟨n, rfl, .inr hp⟩
  | byte e1 e2 _ _ => rw [e] at e1; injection e1 with e1; subst e1; simp [spl] at e2
theorem spl_ok {m a b : Int} (ha : 0 ≤ a ∧ a < m) (hb : 0 ≤ b ∧ b < m) : okNs m (spl a b) := .inr (.inr ⟨rfl, by unfold Ns.zs spl; simp, ha.1, ha.2, hb.1, hb.2, rfl⟩)
theorem Frp.alt {l l1 l2 : List Ns} {to x1 x2 : Int} {La Lb : List Nat → Prop} (h1 : Frp l to l1 x1 La) (h2 : Frp l1 to l2 x2 Lb) : Frp l to (l2 ++ [spl x2 x1]) (l2.length : Int) (fun u => Lb u ∨ La u) := by
  have e1 := h1.le
  have e2 := h2.le
  have y1 := h1.x0
  have y2 := h2.x0
  refine ⟨by simp; omega, fun i hi => (get_pre (by omega)).trans ((h2.pre i (by omega)).trans (h1.pre i hi)), by simp; omega, fun i s hi hs => ?_, fun h => (h2.ok (h1.ok h)).snoc (spl_ok (by omega) (by omega)), fun L hL => ?_⟩
  · by_cases c2 : i < l2.length
    · rw [get_pre c2] at hs
      by_cases c : i < l1.length
      · exact h1.kk i s hi ((h2.pre i c).symm.trans hs)
      · exact h2.kk i s (by omega) hs
    · have : i = l2.length := by
        have := (List.getElem?_eq_some_iff.1 hs).1
        simp at this; omega
      subst this
      rw [get_last] at hs
      injection hs with hs; subst hs; simp [spl]
  · simp only [List.length_append, List.length_singleton] at hL ⊢
    obtain ⟨a1, a2⟩ := h1.fr L fun i hi hi2 => ((hL i hi (by omega)).trans (get_pre (by omega))).trans (h2.pre i hi2)
    obtain ⟨b1, b2⟩ := h2.fr L fun i hi hi2 => (hL i (by omega) (by omega)).trans (get_pre hi2)
    have e := hL l2.length (by omega) (by omega)
    rw [get_last] at e
    refine ⟨fun u hu => ?_, fun n w j hj hp => ?_⟩
    · rw [Int.toNat_natCast]
      rcases hu with hu | hu
      · obtain ⟨n, hn⟩ := b1 u hu
        exact ⟨n + 1, .a e rfl hn⟩
      · obtain ⟨n, hn⟩ := a1 u hu
        exact ⟨n + 1, .b e rfl hn⟩
    · rw [Int.toNat_natCast] at hp
      obtain ⟨m, rfl, hp | hp⟩ := split_way e (by omega) hp
      · obtain ⟨u, v, m2, hm2, rfl, hu, hp2⟩ := b2 m w j (by omega) hp
        exact ⟨u, v, m2, by omega, rfl, .inl hu, hp2⟩
      · obtain ⟨u, v, m2, hm2, rfl, hu, hp2⟩ := a2 m w j (by omega) hp
        exact ⟨u, v, m2, by omega, rfl, .inr hu, hp2⟩
end Fk
set_option linter.unusedVariables false
set_option linter.unusedSimpArgs false
namespace Fk
open Go Go.Proofs Go.RowKit
/-- The m-th tree has a text. -/
def Fo.has (f : Fo) (m : Nat) (u : List Nat) : Prop := m < f.len ∧ (lg (f.drop m)).one u
end Fk
set_option linter.unusedVariables false
set_option linter.unusedSimpArgs false
namespace Fk
open Go Go.Proofs Go.RowKit
structure SmallF (g : Fo) : Prop where
  l1 : 1 ≤ g.len
  l2 : g.len ≤ 200
  rt : g.right = true
  tot : g.total ≤ 20000
theorem bld_max {g : Fo} (h : SmallF g) : bld g 20000 = (((bldM g).2, (bldM g).1), 0) := by
  rw [bld_eq h.l1 h.l2 (by omega) (by omega) h.rt, if_neg (by have := h.tot; omega)]
end Fk
set_option linter.unusedVariables false
set_option linter.unusedSimpArgs false
set_option maxRecDepth 100000
set_option maxHeartbeats 4000000
namespace Fk
open Go Go.Proofs Go.RowKit
def KKS (S : List Q4) (l : List Ns) : Prop := ∀ x ∈ l, x.k = 1 → x.q ∈ S
section
variable {S : List Q4}
theorem mst_s {most : Nat} {l : List Ns} {x : Ns} (h : KKS S l) (hx : x.k = 1 → x.q ∈ S) : KKS S (mst most l x) := by
  unfold mst
  split
  · intro y hy
    rcases List.mem_append.1 hy with h1 | h1
    · exact h y h1
    · simp at h1; subst h1; exact hx
  · exact h
theorem setA_s {l : List Ns} {i k : Int} (h : KKS S l) : KKS S (setA l i k) := by
  unfold setA
  split
  · rename_i x hx
    intro y hy
    rcases List.mem_or_eq_of_mem_set hy with h1 | h1
    · exact h y h1
    · subst h1; exact h x (List.mem_of_getElem? hx)
  · exact h
theorem tw_s (most : Nat) : ∀ f : Fo, (∀ q ∈ f.sets, q ∈ S) → (∀ p : List Ns × Int, KKS S p.1 → KKS S ((tw most f).cat p).1) ∧ (∀ (to : Int) (l : List Ns), KKS S l → KKS S ((tw most f).alt to l).1) ∧ (∀ p : List Ns × Int, KKS S p.1 → KKS S ((tw most f).one p).1)
  | .nil, _ => ⟨fun p h => h, fun to l h => h, fun p h => h⟩
  | .cons k a b c d q r, hs => by
    simp only [Fo.sets, List.mem_append] at hs
    obtain ⟨q1, q2, q3⟩ := tw_s most q fun x hx => hs x (.inr (.inl hx))
    obtain ⟨r1, r2, r3⟩ := tw_s most r fun x hx => hs x (.inr (.inr hx))
    have one : ∀ p : List Ns × Int, KKS S p.1 → KKS S (twOne most k a b c d (tw most q) p).1 := by
      intro p hp
      unfold twOne
      split
      · exact hp
      · split
        · rename_i hk
          exact mst_s hp fun _ => hs _ (.inl (by unfold nodeS; rw [hk]; simp [Ns.q]))
        · split
          · exact q1 p hp
          · split
            · exact q2 _ _ hp
            · split
              · exact setA_s (q3 _ (mst_s hp (by simp [spl])))
              · exact hp
    refine ⟨fun p hp => one _ (r1 p hp), fun to l hl => ?_, one⟩
    show KKS S (twAlt most _ _ to l).1
    unfold twAlt
    simp only
    split
    · exact one _ (r2 to l hl)
    · exact mst_s (one _ (r2 to l hl)) (by simp [spl])
theorem bldF_s (most : Nat) : ∀ (f : Fo) (i : Int) (l : List Ns) (bs : List Int), (∀ q ∈ f.sets, q ∈ S) → KKS S l → KKS S (bldF most f i l bs).1
  | .nil, i, l, bs, _, h => h
  | .cons k a b c d q r, i, l, bs, hs, h => by
    simp only [Fo.sets, List.mem_append] at hs
    simp only [bldF]
    refine bldF_s most r _ _ _ (fun x hx => hs x (.inr (.inr hx))) ?_
    exact (tw_s most (.cons k a b c d q .nil) (fun x hx => by
      simp only [Fo.sets, List.mem_append, List.not_mem_nil, or_false] at hx
      rcases hx with hx | hx
      · exact hs x (.inl hx)
      · exact hs x (.inr (.inl hx)))).2.2 _ (mst_s h (by simp))
theorem joinB_s (most : Nat) : ∀ (bs : List Int) (l : List Ns), KKS S l → KKS S (joinB most bs l).1
  | [], l, h => h
  | [b], l, h => h
  | b :: b2 :: bs, l, h => mst_s (joinB_s most (b2 :: bs) l h) (by simp [spl])
end
theorem bldM_sets (f : Fo) : KKS f.sets (bldM f).1 := by
  unfold bldM
  exact joinB_s _ _ _ (bldF_s _ _ _ _ _ (fun q hq => hq) (by intro x hx; cases hx))
theorem fits_of {l : List Ns} {S : List Q4} (h : KKS S l) : fitsN (clOf S) l = true := by
  rw [clOf_ref]
  unfold fitsN
  rw [ref_right, Bool.and_true, List.all_eq_true]
  intro x hx
  by_cases hk : x.k = 1
  · rw [ref_fits S x.q (h x hx hk)]; simp
  · simp [hk]
theorem idxB_lt {N : List Bool} : ∀ {l : List (List Bool)} {i k : Nat}, idxB N l i = some k → i ≤ k ∧ k < i + l.length
  | [], i, k, h => by simp [idxB] at h
  | M :: r, i, k, h => by
    simp only [idxB] at h
    split at h
    · simp at h; subst h; simp
    · have := idxB_lt h
      simp; omega
def chk : List Int → Int → Option Int
  | [], t => some t
  | x :: xs, t => if x > t + 1 then none else chk xs (if x > t then x else t)
theorem chk_app : ∀ (a b : List Int) (t : Int), chk (a ++ b) t = (chk a t).bind (chk b)
  | [], b, t => rfl
  | x :: a, b, t => by
    simp only [List.cons_append, chk]
    split
    · rfl
    · exact chk_app a b _
structure DInv (p : DP) : Prop where
  n1 : 1 ≤ p.1.length
  nx : ∀ x ∈ p.2, -1 ≤ x ∧ x < p.1.length
  ck : chk p.2 0 = some ((p.1.length : Int) - 1)
theorem oneB_inv {l : List Ns} {b : Nat} {N : List Bool} {p : DP} (h : DInv p) : DInv (oneB l b N p) ∧ ∃ e, (oneB l b N p).2 = p.2 ++ e ∧ (∃ e1, (oneB l b N p).1 = p.1 ++ e1) := by
  have h1 := h.n1
  unfold oneB
  split
  · refine ⟨⟨h1, fun x hx => ?_, ?_⟩, _, rfl, [], by simp⟩
    · rcases List.mem_append.1 hx with hx | hx
      · exact h.nx x hx
      · simp at hx; subst hx; simp only; omega
    · simp only [chk_app, h.ck]
      simp only [Option.bind_some, chk]
      rw [if_neg (by omega), if_neg (by omega)]
  · split
    · rename_i i hi
      have := idxB_lt hi
      refine ⟨⟨h1, fun x hx => ?_, ?_⟩, _, rfl, [], by simp⟩
      · rcases List.mem_append.1 hx with hx | hx
        · exact h.nx x hx
        · simp at hx; subst hx; simp only; omega
      · simp only [chk_app, h.ck]
        simp only [Option.bind_some, chk]
        rw [if_neg (by omega), if_neg (by omega)]
    · refine ⟨⟨by simp, fun x hx => ?_, ?_⟩, _, rfl, _, rfl⟩
      · rcases List.mem_append.1 hx with hx | hx
        · have := h.nx x hx
          simp only [List.length_append, List.length_cons, List.length_nil]; omega
        · simp at hx; subst hx; simp only [List.length_append, List.length_cons, List.length_nil]; omega
      · simp only [chk_app, h.ck]
        simp only [Option.bind_some, chk]
        rw [if_neg (by omega), if_pos (by omega)]
        simp
theorem dRow_inv {l : List Ns} {M : Nat} : ∀ {F : List Nat} {N : List Bool} {p q : DP}, dRow l M F N p = some q → DInv p → DInv q ∧ ∃ e, q.2 = p.2 ++ e ∧ (∃ e1, q.1 = p.1 ++ e1)
  | [], N, p, q, h, hp => by simp only [dRow, Option.some.injEq] at h; subst h; exact ⟨hp, [], by simp, [], by simp⟩
  | b :: F, N, p, q, h, hp => by
    unfold dRow at h
    split at h
    · cases h
    · obtain ⟨i1, e, he, e1, he1⟩ := oneB_inv (l := l) (b := b) (N := N) hp
      obtain ⟨i2, e', he', e1', he1'⟩ := dRow_inv h i1
      exact ⟨i2, e ++ e', by rw [he', he, List.append_assoc], e1 ++ e1', by rw [he1', he1, List.append_assoc]⟩
theorem dAll_inv {l : List Ns} {M : Nat} {F : List Nat} : ∀ {f i : Nat} {p q : DP}, dAll l M F f i p = some q → DInv p → p.1.length ≤ M → i ≤ p.1.length → i + f = M + 1 → p.2.length = i * F.length →
    DInv q ∧ (∃ e, q.2 = p.2 ++ e) ∧ (∃ e1, q.1 = p.1 ++ e1) ∧ ∀ j, i ≤ j → j < q.1.length → ∃ t, chk (q.2.take (j * F.length)) 0 = some t ∧ (j : Int) ≤ t
  | 0, i, p, q, h, hp, h1, h2, h3, h4 => by omega
  | f + 1, i, p, q, h, hp, h1, h2, h3, h4 => by
    unfold dAll at h
    cases hN : p.1[i]? with
    | none =>
      rw [hN] at h
      simp only [Option.some.injEq] at h
      subst h
      have := List.getElem?_eq_none_iff.1 hN
      exact ⟨hp, ⟨[], by simp⟩, ⟨[], by simp⟩, fun j hj1 hj2 => by omega⟩
    | some N =>
      rw [hN] at h
      have hil := (List.getElem?_eq_some_iff.1 hN).1
      simp only at h
      cases hr : dRow l M F N p with
      | none => rw [hr] at h; cases h
      | some p' =>
        rw [hr] at h
        have h : dAll l M F f (i + 1) p' = some q := h
        obtain ⟨i1, e, he, e1, he1⟩ := dRow_inv hr hp
        obtain ⟨i2, ⟨e', he'⟩, ⟨e1', he1'⟩, hj⟩ := dAll_inv h i1 (dRow_le hr h1) (by have := dRow_grow hr; omega) (by omega) (by rw [dRow_nx hr, h4, Nat.succ_mul])
        refine ⟨i2, ⟨e ++ e', by rw [he', he, List.append_assoc]⟩, ⟨e1 ++ e1', by rw [he1', he1, List.append_assoc]⟩, fun j hj1 hj2 => ?_⟩
        by_cases hji : j = i
        · subst hji
          refine ⟨(p.1.length : Int) - 1, ?_, by omega⟩
          rw [← h4, he', he, List.append_assoc, List.take_left]
          exact hp.ck
        · exact hj j (by omega) hj2
theorem tagF_b : ∀ (N : List Bool) (l : List Ns) (t : Int), (∀ x ∈ l, okNs l.length x ∨ (x.k = 0 → 0 ≤ x.t ∧ x.t < 200)) → -1 ≤ t → t < 200 → (∀ x ∈ l, x.k = 0 → 0 ≤ x.t ∧ x.t < 200) → -1 ≤ tagF N l t ∧ tagF N l t < 200
  | [], l, t, _, h1, h2, _ => by rw [show tagF [] l t = t by cases l <;> rfl]; exact ⟨h1, h2⟩
  | h :: hs, [], t, _, h1, h2, _ => ⟨h1, h2⟩
  | h :: hs, x :: xs, t, hh, h1, h2, h3 => by
    unfold tagF
    have hx := h3 x (by simp)
    split
    · rename_i c
      have := hx c.2.1
      exact tagF_b hs xs x.t (fun y hy => .inr (h3 y (by simp [hy]))) (by omega) (by omega) fun y hy => h3 y (by simp [hy])
    · exact tagF_b hs xs t (fun y hy => .inr (h3 y (by simp [hy]))) h1 h2 fun y hy => h3 y (by simp [hy])
/-- What is made, in all. -/
theorem dBld_ok {st : Int} {l : List Ns} {c : Cl} (hc : c.ok) {m : Int} {d : Dm} (h : dBld st l c m = (d, 0)) :
    dRight d.1 d.2.1 d.2.2 = true ∧ d.1 = c.m ∧ chk d.2.1 0 = some ((d.2.2.length : Int) - 1) ∧ ∀ j : Nat, j < d.2.2.length → ∃ t, chk (d.2.1.take (j * c.m.toNat)) 0 = some t ∧ (j : Int) ≤ t := by
  have hsz := dBld_sz (st := st) (l := l) (c := c) hc (m := m)
  rw [h] at hsz
  obtain ⟨z1, z2, z3⟩ := hsz
  obtain ⟨z4, z5, z6, z7⟩ := z3 rfl
  have hcap := dBld_cap h 0
  unfold dBld at h
  split at h
  case isFalse => exact absurd (congrArg Prod.snd h) (by simp)
  rename_i hcd
  split at h
  case h_1 => exact absurd (congrArg Prod.snd h) (by simp)
  rename_i p hp
  obtain ⟨hr, hf, hm1, hm2⟩ := hcd
  obtain ⟨_, _, _, _, hall⟩ := okL_of_right hr
  have hk0 : ∀ x ∈ l, x.k = 0 → 0 ≤ x.t ∧ x.t < 200 := fun x hx hk => by have := hall x hx; unfold okNs at this; omega
  have hd : d = (c.m, p.2, tagL l p.1) := by injection h with h; exact h.symm
  have I0 : DInv ([dst l [st]], []) := ⟨by simp, by simp, rfl⟩
  obtain ⟨I, _, _, hj⟩ := dAll_inv hp I0 (by simp; omega) (by simp) (by omega) (by simp)
  subst hd
  have hl : (tagL l p.1).length = p.1.length := by simp [tagL]
  refine ⟨?_, rfl, ?_, fun j hj2 => ?_⟩
  · simp only [dRight, Bool.and_eq_true, decide_eq_true_eq, List.all_eq_true]
    refine ⟨⟨⟨z6, z7, hcap.2.1, z1, z4⟩, fun x hx => ?_⟩, fun x hx => ?_⟩
    · simp only [tagL, List.mem_map] at hx
      obtain ⟨N, _, rfl⟩ := hx
      exact tagF_b N l (-1) (fun y hy => .inr (hk0 y hy)) (by omega) (by omega) hk0
    · rw [hl]; exact I.nx x hx
  · rw [hl]; exact I.ck
  · rw [hl] at hj2
    have := hj j (by omega) hj2
    rw [firsts_len] at this
    exact this
end Fk
set_option linter.unusedVariables false
set_option linter.unusedSimpArgs false
set_option maxRecDepth 100000
set_option maxHeartbeats 4000000
namespace Fk
open Go Go.Proofs Go.RowKit
theorem leafs_right : ∀ l : List Q4, (∀ q ∈ l, z4 q.1 q.2.1 q.2.2.1 q.2.2.2 = false) → (leafFo l).right = true
  | [], _ => rfl
  | q :: l, h => by
    have h1 := h q (by simp)
    simp only [leafFo, Fo.right, leafs_right l fun q hq => h q (List.mem_cons_of_mem _ hq), h1]
    rfl
def isSet (x : Ns) : Bool := x.k == 1 && !decide ([x.s1, x.s2, x.s3, x.s4] = [0, 0, 0, 0])
def setsN (l : List Ns) : List Q4 := (l.filter isSet).map (·.q)
theorem setsN_snoc (l : List Ns) (i : Nat) (hi : i < l.length) : setsN (l.take (i + 1)) = if isSet l[i] = true then setsN (l.take i) ++ [l[i].q] else setsN (l.take i) := by
  unfold setsN
  rw [List.take_succ_eq_append_getElem hi, List.filter_append, List.map_append]
  by_cases h : isSet l[i] = true
  · rw [if_pos h]; simp [h]
  · rw [if_neg h]; simp [h]
theorem setsN_len (l : List Ns) : (setsN l).length ≤ l.length := by unfold setsN; rw [List.length_map]; exact List.length_filter_le _ _
theorem setsN_right (l : List Ns) : (leafFo (setsN l)).right = true := by
  refine leafs_right _ fun q hq => ?_
  unfold setsN at hq
  rw [List.mem_map] at hq
  obtain ⟨x, hx, rfl⟩ := hq
  have := (List.mem_filter.1 hx).2
  unfold isSet at this
  unfold z4
  simp [Ns.q] at this ⊢
  omega
theorem setsN_has {st : Int} {l : List Ns} (h : nfRight st l = true) : KKS (setsN l) l := by
  obtain ⟨_, _, _, _, hall⟩ := okL_of_right h
  intro x hx hk
  have := hall x hx
  unfold okNs at this
  have hz : ¬ x.zs := by rcases this with h | h | h <;> first | exact h.2.1 | omega
  unfold setsN
  rw [List.mem_map]
  refine ⟨x, List.mem_filter.2 ⟨hx, ?_⟩, rfl⟩
  unfold isSet
  unfold Ns.zs at hz
  simp [hk]
  omega
theorem dBld_err {st : Int} {l : List Ns} {c : Cl} : (nfRight st l = false → (dBld st l c 200).2 = 2) ∧ (nfRight st l = true → fitsN c l = true → (dBld st l c 200).2 = 40 ∨ (dBld st l c 200).2 = 0) := by
  constructor
  · intro h
    unfold dBld
    rw [if_neg (by rw [h]; simp)]
  · intro h1 h2
    unfold dBld
    rw [if_pos ⟨h1, h2, by omega, by omega⟩]
    split
    · exact .inl rfl
    · exact .inr rfl
theorem chk_step {l : List Int} {t T : Int} (h : chk l 0 = some T) {j : Nat} (hj : j < l.length) (ht : chk (l.take j) 0 = some t) : l[j] ≤ t + 1 ∧ chk (l.take (j + 1)) 0 = some (if l[j] > t then l[j] else t) := by
  have e : l = l.take j ++ (l[j] :: l.drop (j + 1)) := by rw [← List.drop_eq_getElem_cons hj, List.take_append_drop]
  have h' := h
  rw [e, chk_app, ht] at h'
  simp only [Option.bind_some, chk] at h'
  have hle : l[j] ≤ t + 1 := by
    by_cases c : l[j] > t + 1
    · rw [if_pos c] at h'; cases h'
    · omega
  refine ⟨hle, ?_⟩
  rw [List.take_succ_eq_append_getElem hj, chk_app, ht]
  simp only [Option.bind_some, chk]
  rw [if_neg (by omega)]
theorem f33_ok (f : Fo) (A : Option Addr) (C : Nat) (st : Int) (l : List Ns) (B : Option Addr) (D : Nat) (w : World) (hr : RepF w A 0 f) (hl : f.len < 2 ^ 63) (hl2 : f.len ≤ 2 ^ 41) (hn : RowAt w B 8 nsE l) :
    Ct Try.prog 33 #[.slice A f.len C, .agg #[.int .i64 st, .slice B l.length D]] w fun v w' => v = .bool true ∧ Md [] w w' := by
  apply f33_in
  intro n1 hn1 wa ma hLa
  have ga : Good [n1] w wa := ⟨ma, hLa⟩
  refine in64 f A C hl2 ga (hr.md ma) fun w2 a3 n5 g2 hr2 => ?_
  have hright := f.good_right
  have hgl := f.good_len
  generalize f.good = g at *
  have hn2 := hn.md g2.1
  have mw2 := g2.1
  have hn1' : n1 < w2.heap.size := g2.2 n1 (by simp)
  have h22 : Good [n1] w2 w2 := ⟨Md.refl _ _, g2.2⟩
  have fin : ∀ {w' : World} {L : List Nat}, Good L w2 w' → (Value.bool true = .bool true ∧ Md [] w w') := fun h => ⟨rfl, mw2.trans h.1⟩
  refine in38 g a3 n5 (by omega) h22 hr2 fun w7 b8 g7 hfew => Bd_in fun b9 hb9 => Gd_to (fun b w' => (b9 = false → b = decide (l.length ≤ 300)) ∧ Good [n1] w2 w') (fun b13 w14 hJ => ?_) (fun f2 hc => in76 st B l.length D g7 fun w' g' => f2 _ _ ⟨fun _ => rfl, g'⟩) (fun hc => ⟨(fun h => by rw [h] at hc; cases hc), g7⟩)
  obtain ⟨h13, g14⟩ := hJ
  refine Bd_in fun b15 hb15 => Bd_in fun b16 hb16 => If_in (fun _ => in65 g14 fun w29 g29 => fin g29) fun hb => ?_
  have hcond : b8 = true ∧ l.length ≤ 300 := by
    rw [hb16, hb15] at hb
    cases h9 : b9 with
    | true => rw [h9] at hb; simp at hb
    | false =>
      rw [h13 h9, h9] at hb
      rw [hb9] at h9
      exact ⟨by simpa using h9, by simpa using hb⟩
  have hf := hfew hcond.1
  have hfl := hf.1
  have hfs := hf.2
  have hl300 := hcond.2
  refine Bd_e rfl ?_
  refine LoopP_in (fun mm us vs w' => ∃ (i : Nat) (a : Option Addr) (c : Nat), us = [.slice a ((setsN (l.take i)).map leaf).length c, .int .i64 i] ∧ mm = l.length - i ∧ i ≤ l.length ∧ OwnT w' w14.heap.size a c ((setsN (l.take i)).map leaf) ∧ Good [n1] w2 w' ∧ Md [] w14 w') l.length
    ⟨0, none, 0, rfl, rfl, by omega, OwnL.nil _ _ _ _ _, g14, Md.refl _ _⟩ ?_
  rintro mm us vs w27 ⟨i, a28, c30, rfl, hmm, hi, own, g27, m27⟩
  refine opL_in <| opI_in <| Bd_in fun b32 hb32 => If_in (fun hb => ?_) fun hb => ?_
  · have hil : i < l.length := by rw [hb32] at hb; have : (i : Int) < (l.length : Int) := of_decide_eq_true hb
                                  omega
    have hrow := hn2.md g27.1
    have hsn := setsN_snoc l i hil
    have hsl := setsN_len (l.take i)
    rw [List.length_take] at hsl
    refine Jn_in (fun us vs w' => ∃ (a : Option Addr) (c : Nat), us = [.slice a ((setsN (l.take (i + 1))).map leaf).length c] ∧ OwnT w' w14.heap.size a c ((setsN (l.take (i + 1))).map leaf) ∧ Good [n1] w2 w' ∧ Md [] w14 w') ?_ ?_
    · rintro us vs w35 ⟨a, c, rfl, q1, q2, q3⟩
      exact opL_in <| Bd_e (inc_i64 (by omega)) ⟨l.length - (i + 1), by omega, i + 1, a, c, rfl, rfl, by omega, q1, q2, q3⟩
    refine ⟨hrow.ix hil, hrow.ld8 hil ?_⟩
    intro n57 hn57
    refine Bd_in fun b58 hb58 => fun w59 h59 hL59 => ?_
    obtain ⟨g59, m59⟩ := g27.up (L' := [n57, n1]) (by simp; exact hn57) h59 hL59
    have own59 := own.md m59
    refine Gd_to (fun b w' => (b58 = true → b = !decide ([l[i].s1, l[i].s2, l[i].s3, l[i].s4] = [0, 0, 0, 0])) ∧ w' = w59) (fun b64 w65 hJ => ?_) (fun f2 hc => RunW_in0 (ne28 _ _ _ _ _ _ _ _ _ _ w59) <| opB_in <| f2 _ _ ⟨fun _ => rfl, rfl⟩) (fun hc => ⟨(fun h => by rw [h] at hc; cases hc), rfl⟩)
    obtain ⟨h64, rfl⟩ := hJ
    refine Bd_in fun b66 hb66 => ?_
    have h66 : b66 = isSet l[i] := by
      unfold isSet
      rw [hb66, hb58]
      cases h58 : (l[i].k == 1) with
      | false => rfl
      | true => rw [h64 (by rw [hb58]; exact h58)]; rfl
    have gdn : ∀ {w' : World}, Good [n57, n1] w2 w' → Good [n1] w2 w' := fun h => ⟨h.1, fun b hb => h.2 b (by simp at hb ⊢; exact .inr hb)⟩
    refine If_in (fun hb => ?_) fun hb => ?_
    · rw [if_pos (by rw [← h66]; exact hb)] at hsn
      have hk1 : l[i].k = 1 := by
        have := h66.symm.trans hb
        unfold isSet at this
        simp at this
        exact this.1
      refine app_one rowT22 enc6 (leaf l[i].q) rfl own59 (by have := m27.size; have := m59.size; omega) g59.2 (fun b hb A hA e => ?_) (by simp [maxLen]; omega) (by simp; try omega) fun a' c' w' o' m' hA' => opL_in ⟨a', c', ?_, ?_, ?_, ?_⟩
      · have h1 := own.lt hA
        have h14 := g14.2 n1 (by simp)
        simp at hb
        rcases hb with rfl | rfl <;> omega
      · rw [hsn]; simp
      · rw [hsn, List.map_append]; exact o'
      · have lo : ∀ d ∈ (a28.map (·.block)).toList, w14.heap.size ≤ d := fun d hd => by obtain ⟨A, hA, rfl⟩ := mem_blk hd; exact (own.lt hA).1
        have h14 := g14.1.size
        exact ⟨g59.1.old m' (fun d hd => by have := lo d hd; omega), fun b hb => Nat.lt_of_lt_of_le ((gdn g59).2 b hb) m'.size⟩
      · have lo : ∀ d ∈ (a28.map (·.block)).toList, w14.heap.size ≤ d := fun d hd => by obtain ⟨A, hA, rfl⟩ := mem_blk hd; exact (own.lt hA).1
        exact (m27.trans m59).old m' lo
    · rw [if_neg (by rw [← h66, hb]; simp)] at hsn
      rw [hsn]
      exact ⟨a28, c30, rfl, own59, gdn g59, m27.trans m59⟩
  have hil : i = l.length := by
    have : ¬ (i : Int) < (l.length : Int) := by rw [hb32] at hb; exact of_decide_eq_false hb
    omega
  subst hil
  rw [List.take_length] at own ⊢
  have hsl := setsN_len l
  have hsr := setsN_right l
  have hml : ((setsN l).map leaf).length = (leafFo (setsN l)).len := by rw [leafFo_len, List.length_map]
  have hrep : RepF w27 a28 0 (leafFo (setsN l)) := TrF.rep (own.row enc6) (leaf_F w27 _) rfl
  have hoC : ofC (leafFo (setsN l)) = (clOf (setsN l), 0) := by unfold ofC; rw [if_pos hsr, leafFo_sets]
  rw [hml]
  refine in40c (leafFo (setsN l)) a28 c30 (by rw [leafFo_len]; omega) (by rw [leafFo_size]; omega) g27 hrep fun w75 g75 m75 => ?_
  have hok1 := ofC_ok (leafFo (setsN l))
  rw [hoC] at hok1 ⊢
  simp only at hok1 ⊢
  refine ⟨hok1.size, ?_⟩
  intro n79 hn79
  refine OkC_in hok1.cells fun w80 h80 hL80 => ?_
  obtain ⟨g80, m80⟩ := g75.up (L' := [n79, n1]) (by simp; exact hn79) h80 hL80
  refine in66 g a3 n5 20000 g80 (hr2.md g80.1) (by omega) fun a86 c88 w82 g82 m82 own82 => ?_
  intro n90 hn90 w91 h91 hL91
  obtain ⟨g91, m91⟩ := g82.up (L' := [n90, n79, n1]) (by simp; exact hn90) h91 hL91
  have hok2 := ofC_ok g
  have hoC2 : ofC g = (clOf g.sets, 0) := by unfold ofC; rw [if_pos hright]
  refine in40c g a3 n5 (by omega) (by omega) g91 (hr2.md g91.1) fun w93 g93 m93 => ?_
  have hbl := bld_len g 20000
  have hfit2 : nfRight (bld g 20000).1.1 (bld g 20000).1.2 = true → fitsN (clOf g.sets) (bld g 20000).1.2 = true := by
    intro h
    by_cases h0 : g.len = 0
    · have e : g = .nil := by cases g with
        | nil => rfl
        | cons => simp [Fo.len] at h0
      subst e
      have : bld .nil 20000 = ((0, []), 2) := by unfold bld; rw [if_neg (by simp [Fo.len])]
      rw [this] at h
      exact absurd h (by simp [nfRight])
    · have hcl := g.cnt_le
      have Sg : SmallF g := ⟨by omega, by omega, hright, by unfold Fo.total; omega⟩
      rw [bld_max Sg]
      exact fits_of (bldM_sets g)
  rw [hoC2] at hok2 ⊢
  simp only at hok2 ⊢
  refine ⟨hok2.size, ?_⟩
  intro n97 hn97
  refine OkC_in hok2.cells <| Bd_e (y := false) rfl <| Bd_e (y := false) rfl <| Bd_e (y := false) rfl <| If_in (fun h => by cases h) fun _ => ⟨hok1.size, fun w102 h102 hL102 => ?_⟩
  obtain ⟨g102, m102⟩ := g93.up (L' := [n97, n90, n79, n1]) (by simp; exact hn97) h102 hL102
  have own102 := ((own82.md m91).md m93).md m102
  have b1 := build174 w102 ⟨st, B, D, l, clOf (setsN l)⟩ hok1
  have b2 := build174 w102 ⟨(bld g 20000).1.1, a86, c88, (bld g 20000).1.2, clOf g.sets⟩ hok2
  have z1 : (prE ⟨st, B, D, l, clOf (setsN l)⟩).toArray.size = 259 := by simpa using prE_len ⟨st, B, D, l, clOf (setsN l)⟩ hok1
  have z2 : (prE ⟨(bld g 20000).1.1, a86, c88, (bld g 20000).1.2, clOf g.sets⟩).toArray.size = 259 := by simpa using prE_len ⟨(bld g 20000).1.1, a86, c88, (bld g 20000).1.2, clOf g.sets⟩ hok2
  refine RunW_in0 b1 <| opBig_in ⟨z1, hok2.size, RunW_in0 b2 <| opBig_in ⟨z2, SzIs_in z1 <| SzIs_in z2 <| Nw_cs (cs := List.toArray (([⟨st, B, D, l, clOf (setsN l)⟩, ⟨(bld g 20000).1.1, a86, c88, (bld g 20000).1.2, clOf g.sets⟩] : List Pr).flatMap prE)) ?_ ?_⟩⟩
  · simp [flat, cL, Value.cells]
  generalize hPs : ([⟨st, B, D, l, clOf (setsN l)⟩, ⟨(bld g 20000).1.1, a86, c88, (bld g 20000).1.2, clOf g.sets⟩] : List Pr) = Ps
  have hP2 : Ps.length = 2 := by rw [← hPs]; rfl
  have hPok : ∀ p ∈ Ps, p.cl.ok ∧ RowAt w102 p.a 8 nsE p.l ∧ p.l.length < 2 ^ 40 ∧ (nfRight p.st p.l = true → fitsN p.cl p.l = true) := by
    intro p hp
    rw [← hPs] at hp
    simp only [List.mem_cons, List.not_mem_nil, or_false] at hp
    rcases hp with rfl | rfl
    · exact ⟨hok1, hn2.md g102.1, by simp only; omega, fun h => fits_of (setsN_has h)⟩
    · exact ⟨hok2, own102.row encNs, by simp only; omega, hfit2⟩
  clear hPs z1 z2 b1 b2
  have ma : Md [] w102 (w102.alloc (.cells (List.toArray (Ps.flatMap prE)) 174)) := Md.alloc w102 _
  have hblk : Blk (w102.alloc (.cells (List.toArray (Ps.flatMap prE)) 174)) w102.heap.size 174 (Ps.flatMap prE) := Blk.new w102 _ 174
  have g110 := g102.tr ma
  generalize w102.alloc (.cells (List.toArray (Ps.flatMap prE)) 174) = w110 at *
  refine Bd_e rfl ?_
  refine LoopP_in (fun mm us vs w' => ∃ (i : Nat) (b : Bool), us = [.bool b, .int .i64 i] ∧ mm = 2 - i ∧ i ≤ 2 ∧ Good [n97, n90, n79, n1] w2 w' ∧ Md [] w110 w') 2
    ⟨0, _, rfl, rfl, by omega, g110, Md.refl _ _⟩ ?_
  rintro mm us vs w115 ⟨i, b116, rfl, hmm, hi, g115, m115⟩
  refine opB_in <| opI_in <| Bd_in fun b118 hb118 => If_in (fun hb => ?_) fun hb => in65 g115 fun w204 g204 => fin g204
  have hi2 : i < Ps.length := by rw [hb118] at hb; have : (i : Int) < ((2 : Nat) : Int) := of_decide_eq_true hb; omega
  refine Jn_in (fun us vs w' => ∃ (b : Bool), us = [.bool b] ∧ Good [n97, n90, n79, n1] w2 w' ∧ Md [] w110 w') ?_ ?_
  · rintro us vs w121 ⟨b, rfl, g121, m121⟩
    exact opB_in <| Bd_e (inc_i64 (by omega)) ⟨2 - (i + 1), by omega, i + 1, b, rfl, rfl, by omega, g121, m121⟩
  refine ⟨⟨by omega, by omega, rfl⟩, ldPr hblk m115 (fun p hp => (hPok p hp).1) hi2 <| Bd_e rfl ?_⟩
  obtain ⟨p1, p2, p3, p4⟩ := hPok _ (List.getElem_mem hi2)
  have p2' := p2.md (ma.trans m115)
  generalize Ps[i] = p at *
  have hz : (List.toArray (prE p)).size = 259 := by simpa using prE_len p p1
  have hll : p.cl.l.length = 257 := by simp [Cl.l, p1.len]
  have e1 : List.toArray (List.take 2 (List.drop 0 (List.toArray (prE p)).toList)) = #[.int .i64 p.st, .slice p.a p.l.length p.c] := by
    simp [prE]
  have e2 : List.toArray (List.take 257 (List.drop 2 (List.toArray (prE p)).toList)) = p.cl.v := by
    simp [prE, Cl.v, List.take_of_length_le, hll]
  refine ⟨hz, ?_⟩
  intro n127 hn127
  refine OkC_in (prE_cells p p1) ⟨by omega, Bd_e e1 <| opI_in <| opL_in <| SzIs_in rfl ⟨by omega, Bd_e e2 ⟨p1.size, fun w134 h134 hL134 => ?_⟩⟩⟩
  obtain ⟨g134, m134⟩ := g115.up (L' := [n127, n97, n90, n79, n1]) (by simp; exact hn127) h134 hL134
  refine in67 p.st p.l p.a p.c p.cl p1 200 g134 (p2'.md m134) p3 fun xa xc ya yc w136 g136 m136 o1 o2 => ?_
  intro n147 hn147
  refine ⟨by omega, Bd_e e1 <| opI_in <| opL_in <| SzIs_in rfl fun w153 h153 hL153 => ?_⟩
  obtain ⟨g153, m153⟩ := g136.up (L' := [n147, n127, n97, n90, n79, n1]) (by simp; exact hn147) h153 hL153
  have md153 := (m134.trans m136).trans m153
  have down : ∀ {w' : World}, Good [n147, n127, n97, n90, n79, n1] w2 w' → Good [n97, n90, n79, n1] w2 w' := fun h => ⟨h.1, fun b hb => h.2 b (List.mem_cons_of_mem _ (List.mem_cons_of_mem _ hb))⟩
  obtain ⟨err1, err2⟩ := dBld_err (st := p.st) (l := p.l) (c := p.cl)
  have hsz := dBld_sz (st := p.st) (l := p.l) p1 (m := 200)
  refine in81 p.st p.l p.a p.c g153 (p2'.md md153) p3 fun w155 g155 m155 => Bd_in fun b157 hb157 => If_in (fun hb => ?_) fun hb => ?_
  · have hnr : nfRight p.st p.l = false := by rw [hb157] at hb; simpa using hb
    refine Bd_e (y := false) (by rw [err1 hnr]; rfl) <| If_in (fun h => by cases h) fun _ => ⟨_, rfl, down g155, (m115.trans md153).trans m155⟩
  have hnr : nfRight p.st p.l = true := by rw [hb157] at hb; simpa using hb
  refine Bd_in fun b159 hb159 => If_in (fun hb => ⟨_, rfl, down g155, (m115.trans md153).trans m155⟩) fun hb => ?_
  have he0 : (dBld p.st p.l p.cl 200).2 = 0 := by
    rcases err2 hnr (p4 hnr) with h | h
    · rw [hb159, h] at hb; simp at hb
    · exact h
  have hD' : dBld p.st p.l p.cl 200 = ((dBld p.st p.l p.cl 200).1, 0) := Prod.ext rfl he0
  obtain ⟨d1, d2, d3, d4⟩ := dBld_ok p1 hD'
  have hcapl := (dBld_cap hD' 0)
  have D0 := drOk d1
  have m_o : Md [] w136 w155 := m153.trans m155
  have nx155 := (o1.md m_o).row enci1
  have tg155 := (o2.md m_o).row enci1
  generalize (dBld p.st p.l p.cl 200).1 = d at *
  have hm1 := D0.m1
  have hm2 := D0.m2
  have ht1 := D0.t1
  have ht2 := D0.t2
  have hnl := D0.nl
  refine Bd_e (y := false) (by rw [he0]; rfl) <| Gd_t <| in72d d.1 d.2.1 d.2.2 xa ya xc yc g155 nx155 tg155 (by omega) (by omega) fun w166 g166 m166 => ?_
  rw [d1]
  have h258 : isI .i64 (List.toArray (prE p)).toList 258 ∧ rdI (List.toArray (prE p)).toList 258 = p.cl.m := by
    have : (prE p)[258]? = some (.int .i64 p.cl.m) := by
      unfold prE
      rw [List.getElem?_append_right (by simp)]
      simp [Cl.l, p1.len]
    exact ⟨⟨_, this⟩, by unfold rdI; rw [this]⟩
  refine Bd_e (y := false) rfl <| Bd_e (y := false) rfl ⟨fun _ => h258.1, Bd_e h258.2 <| Bd_e (y := false) (by rw [d2]; simp) <| Bd_e (y := false) rfl <| If_in (fun h => by cases h) fun _ => Bd_e rfl ?_⟩
  have nx166 := nx155.md m166
  have hdm : d.1 = ((p.cl.m.toNat : Nat) : Int) := by omega
  have hnln : d.2.1.length = d.2.2.length * p.cl.m.toNat := by
    have e : ((d.2.2.length * p.cl.m.toNat : Nat) : Int) = d.1 * d.2.2.length := by rw [Int.natCast_mul, hdm, Int.mul_comm]
    omega
  refine LoopP_in (fun mm us vs w' => ∃ (at' : Nat) (met : Int) (b : Bool), us = [.bool b, .int .i64 met, .int .i64 at'] ∧ mm = d.2.2.length - at' ∧ at' ≤ d.2.2.length ∧ chk (d.2.1.take (at' * p.cl.m.toNat)) 0 = some met ∧ w' = w166) d.2.2.length
    ⟨0, 0, _, rfl, rfl, by omega, by simp [chk], rfl⟩ ?_
  rintro m3 us vs w177 ⟨at', met, b178, rfl, hm3, hat, hmet, rfl⟩
  refine opB_in <| opI_in <| opI_in <| Bd_in fun b181 hb181 => If_in (fun hb => ?_) fun hb => ?_
  case refine_2 =>
    have hae : at' = d.2.2.length := by
      have : ¬ (at' : Int) < (d.2.2.length : Int) := by rw [hb181] at hb; exact of_decide_eq_false hb
      omega
    rw [hae, ← hnln, List.take_length, d3] at hmet
    injection hmet with hmet
    refine Bd_e rfl <| Bd_e (y := (d.2.2.length : Int) - 1) (by rw [IntKind.wrap_i64]; omega) <| Bd_e (y := false) (by rw [hmet]; simp) <| If_in (fun h => by cases h) fun _ => ⟨_, rfl, down g166, ((m115.trans md153).trans m155).trans m166⟩
  have hal : at' < d.2.2.length := by rw [hb181] at hb; have : (at' : Int) < (d.2.2.length : Int) := of_decide_eq_true hb
                                      omega
  obtain ⟨t, ht, hle⟩ := d4 at' hal
  rw [hmet] at ht
  injection ht with ht
  subst ht
  have hrowle : (at' + 1) * p.cl.m.toNat ≤ d.2.2.length * p.cl.m.toNat := Nat.mul_le_mul_right _ hal
  have hrow1 : (at' + 1) * p.cl.m.toNat = at' * p.cl.m.toNat + p.cl.m.toNat := Nat.succ_mul _ _
  have hrowb : at' * p.cl.m.toNat ≤ 5000 * 256 := Nat.mul_le_mul (by omega) (by omega)
  have hatc : (at' : Int) * d.1 = ((at' * p.cl.m.toNat : Nat) : Int) := by rw [hdm, Int.natCast_mul]
  refine Bd_e (y := false) (by simp; try omega) <| If_in (fun h => by cases h) fun _ => ?_
  refine LoopP_in (fun mm us vs w' => ∃ (k : Nat) (met : Int) (b : Bool), us = [.bool b, .int .i64 met, .int .i64 k] ∧ mm = p.cl.m.toNat - k ∧ k ≤ p.cl.m.toNat ∧ chk (d.2.1.take (at' * p.cl.m.toNat + k)) 0 = some met ∧ w' = w177) p.cl.m.toNat
    ⟨0, met, _, rfl, rfl, by omega, by simpa using hmet, rfl⟩ ?_
  clear hmet hle
  rintro m4 us vs w186 ⟨k, met2, b187, rfl, hm4, hk, hmet, rfl⟩
  refine opB_in <| opI_in <| opI_in <| Bd_in fun b190 hb190 => If_in (fun hb => ?_) fun hb => ?_
  · have hkl : k < p.cl.m.toNat := by rw [hb190] at hb; have : (k : Int) < d.1 := of_decide_eq_true hb; omega
    have hj : at' * p.cl.m.toNat + k < d.2.1.length := by omega
    obtain ⟨s1, s2⟩ := chk_step d3 hj hmet
    refine Bd_e (y := ((at' * p.cl.m.toNat : Nat) : Int)) (by rw [hatc, IntKind.wrap_i64]; omega) <| Bd_e (y := ((at' * p.cl.m.toNat + k : Nat) : Int)) (by rw [IntKind.wrap_i64]; omega) ⟨nx166.ix hj, nx166.ld1 hj rfl <| opI_in ?_⟩
    have hnb := D0.nxt _ (List.getElem_mem hj)
    have hmb : -9223372036854775808 ≤ met2 + 1 ∧ met2 + 1 ≤ 9223372036854775807 → IntKind.wrap .i64 (met2 + 1) = met2 + 1 := fun h => by rw [IntKind.wrap_i64]; omega
    refine Bd_e (y := met2 + 1) (hmb (by
      have : ∀ (l : List Int) (t T : Int), (∀ x ∈ l, x < 5001) → chk l t = some T → 0 ≤ t → t < 5001 → 0 ≤ T ∧ T < 5001 := by
        intro l
        induction l with
        | nil => intro t T _ h h1 h2; simp only [chk, Option.some.injEq] at h; omega
        | cons x l ih =>
          intro t T hx h h1 h2
          simp only [chk] at h
          split at h
          · cases h
          · have hx0 := hx x (by simp)
            refine ih _ _ (fun y hy => hx y (by simp [hy])) h ?_ ?_ <;> split <;> omega
      have := this _ 0 met2 (fun x hx => by have := (D0.nxt x (List.mem_of_mem_take hx)).2; omega) hmet (by omega) (by omega)
      omega)) <| Bd_e (y := false) (by simp; try omega) <| If_in (fun h => by cases h) fun _ => Bd_e rfl <| Bd_e (inc_i64 (by omega)) ⟨p.cl.m.toNat - (k + 1), by omega, k + 1, _, b187, rfl, rfl, by omega, ?_, rfl⟩
    rw [← Nat.add_assoc]
    exact s2
  · have hke : k = p.cl.m.toNat := by
      have : ¬ (k : Int) < d.1 := by rw [hb190] at hb; exact of_decide_eq_false hb
      omega
    subst hke
    exact Bd_e (inc_i64 (by omega)) ⟨d.2.2.length - (at' + 1), by omega, at' + 1, met2, b187, rfl, rfl, by omega, by rw [hrow1]; exact hmet, rfl⟩
end Fk
