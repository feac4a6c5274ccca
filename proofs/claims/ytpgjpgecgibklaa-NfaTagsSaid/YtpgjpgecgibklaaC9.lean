/- Contracts: sets of texts, trees of sets, and the chapter's examples. -/
import Derived.Test.YtpgjpgecgibklaaC8
import Derived.Test.YtpgjpgecgibklaaV1
set_option linter.unusedVariables false
set_option linter.unusedSimpArgs false
set_option maxRecDepth 100000
namespace Fk
open Go Go.Proofs Go.RowKit
abbrev qV (q : Q4) : Value := .agg #[.int .u64 q.1, .int .u64 q.2.1, .int .u64 q.2.2.1, .int .u64 q.2.2.2]
def orW (x : Int) (s : Nat) : Int := ((BitVec.ofInt 64 x ||| BitVec.ofInt 64 (2 ^ s)).toNat : Int)
/-- A byte more. -/
def orQ (q : Q4) (b : Nat) : Q4 := match b / 64 with
  | 0 => (orW q.1 (b % 64), q.2.1, q.2.2.1, q.2.2.2)
  | 1 => (q.1, orW q.2.1 (b % 64), q.2.2.1, q.2.2.2)
  | 2 => (q.1, q.2.1, orW q.2.2.1 (b % 64), q.2.2.2)
  | _ => (q.1, q.2.1, q.2.2.1, orW q.2.2.2 (b % 64))
def setQ (l : List Nat) : Q4 := l.foldl orQ (0, 0, 0, 0)
def bytesL (s : ByteArray) : List Nat := s.data.toList.map (·.toNat)
theorem wrL_or (q : Q4) (b : Nat) (hb : b < 256) : List.toArray (wrL [.int .u64 q.1, .int .u64 q.2.1, .int .u64 q.2.2.1, .int .u64 q.2.2.2] (0 + (((b / 64 : Nat) : Int)).toNat * 1) [.int .u64 (orW (word q (b / 64)) (b % 64))]) =
    #[.int .u64 (orQ q b).1, .int .u64 (orQ q b).2.1, .int .u64 (orQ q b).2.2.1, .int .u64 (orQ q b).2.2.2] := by
  simp only [Int.toNat_natCast, Nat.zero_add, Nat.mul_one]
  have : b / 64 < 4 := by omega
  unfold orQ
  generalize b / 64 = k at *
  rcases k with _ | _ | _ | _ | k <;> first | rfl | omega
theorem pow_u64 (s : Nat) (hs : s < 64) : IntKind.wrap .u64 ((1 : Int) * (2 : Int) ^ min (((s : Nat) : Int)).toNat 64) = (2 : Int) ^ s := by
  have h1 : (2 : Int) ^ s = ((2 ^ s : Nat) : Int) := by simp
  have h2 : 2 ^ s < 2 ^ 64 := Nat.pow_lt_pow_right (by decide) hs
  rw [Int.toNat_natCast, Nat.min_eq_left (by omega), Int.one_mul, h1, IntKind.wrap_u64]
  generalize 2 ^ s = m at *
  omega
theorem u64_or (a b : BitVec 64) : IntKind.wrap .u64 ((a ||| b).toNat : Int) = ((a ||| b).toNat : Int) := by
  have := (a ||| b).isLt
  rw [IntKind.wrap_u64]
  generalize (a ||| b).toNat = m at *
  omega
theorem f51_ok (q : Q4) (w : World) : Ct Try.prog 51 #[qV q] w fun v w' => v = .agg #[.int .u8 1, .int .u64 q.1, .int .u64 q.2.1, .int .u64 q.2.2.1, .int .u64 q.2.2.2, .slice none 0 0] ∧ Md [] w w' := by
  apply f51_in
  intro n1 hn1 n2 hn2 w3 h3 hL3
  exact ⟨rfl, h3.fresh (by simpa using hn2)⟩
theorem f52_ok (s : ByteArray) (hs : s.size < 2 ^ 40) (w : World) : Ct Try.prog 52 #[.string s] w fun v w' => v = qV (setQ (bytesL s)) ∧ Md [] w w' := by
  apply f52_in
  intro n1 hn1 n2 hn2
  refine Bd_in fun x3 hx3 w4 h4 hL4 => ?_
  subst hx3
  have hlen : (bytesL s).length = s.size := by rw [bytesL, List.length_map, Array.length_toList]; rfl
  refine LoopP_in (fun m us vs w' => ∃ (i : Nat) (q : Q4), us = [.int .i64 i] ∧ vs = [qV q] ∧ m = s.size - i ∧ i ≤ s.size ∧ setQ (bytesL s) = ((bytesL s).drop i).foldl orQ q ∧ Md [] w w')
    s.size ⟨0, (0, 0, 0, 0), rfl, rfl, rfl, by omega, by rw [List.drop_zero]; rfl, h4⟩ ?_
  rintro m us vs w8 ⟨i, q, rfl, rfl, rfl, hi, hq, h8⟩
  refine opI_in ?_
  refine opAg_in ?_
  refine opI_in ?_
  refine opI_in ?_
  refine opI_in ?_
  refine opI_in ?_
  refine SzIs_in rfl <| Bd_in fun b15 hb15 => If_in (fun h => ?_) fun h w26 h26 hL26 => ⟨?_, h8.old h26 (by simpa using hn1)⟩
  · subst hb15
    simp only [decide_eq_true_eq, Int.ofNat_lt] at h
    have hi' : i < (bytesL s).length := by omega
    have hby : byteAt s (i : Int) = ((bytesL s)[i] : Int) := by
      have h2 : i < s.data.size := h
      unfold byteAt
      rw [Int.toNat_natCast, Array.getElem?_eq_getElem h2]
      simp [bytesL]
    have hlt : (bytesL s)[i] < 256 := by simp only [bytesL, List.getElem_map]; exact UInt8.toNat_lt _
    generalize hB : (bytesL s)[i] = B at *
    refine ⟨⟨by omega, by omega⟩, Bd_in fun x16 hx16 => Bd_in fun x17 hx17 => ?_⟩
    rw [hby] at hx16
    subst hx16
    have e17 : x17 = ((B / 64 : Nat) : Int) := by rw [hx17, IntKind.wrap_u8, Int.tdiv_eq_ediv_of_nonneg (by omega)]; omega
    subst e17
    refine ⟨⟨by omega, by omega⟩, ⟨by omega, by omega⟩, Bd_in fun x18 hx18 => Bd_in fun x19 hx19 => ?_⟩
    rw [hby] at hx18
    subst hx18
    have e19 : x19 = ((B % 64 : Nat) : Int) := by rw [hx19, Int.tmod_eq_emod_of_nonneg (by omega)]; omega
    subst e19
    refine ⟨by omega, Bd_in fun x20 hx20 => ?_⟩
    rw [pow_u64 _ (Nat.mod_lt _ (by decide))] at hx20
    subst hx20
    refine BdO_in (v := .int .u64 (word q (B / 64))) ?_ ?_
    · simp only [Int.toNat_natCast, Nat.zero_add, Nat.mul_one]
      exact nth_word q (B / 64) (by omega)
    refine opI_in ?_
    refine Bd_in fun x23 hx23 => ⟨⟨by omega, by omega⟩, LeC_in (by simp; omega) fun w24 h24 hL24 => Bd_in fun x25 hx25 => ?_⟩
    rw [u64_or] at hx23
    have e23 : x23 = orW (word q (B / 64)) (B % 64) := hx23
    subst e23
    rw [inc_i64 (by omega)] at hx25
    subst hx25
    refine ⟨s.size - (i + 1), by omega, i + 1, orQ q B, rfl, by rw [wrL_or q B hlt], rfl, by omega, ?_, (h8.trans (Md_drew _)).old h24 (by simpa using hn2)⟩
    rw [hq, List.drop_eq_getElem_cons hi', hB]; rfl
  · subst hb15
    simp only [decide_eq_false_iff_not, Int.ofNat_lt] at h
    have : (bytesL s).drop i = [] := List.drop_of_length_le (by omega)
    rw [this] at hq
    rw [hq]; rfl

/-! ### The examples -/
def sb : Q4 := setQ [98]
def sab : Q4 := setQ [97, 98]
def sbc : Q4 := setQ [98, 99]
def se : Q4 := setQ []
def exFo : Fo := .cons 1 sb.1 sb.2.1 sb.2.2.1 sb.2.2.2 .nil (.cons 1 sab.1 sab.2.1 sab.2.2.1 sab.2.2.2 .nil .nil)
theorem ex_right : exFo.right = true := by kernel_rfl
theorem ex_empty : (Fo.cons 1 se.1 se.2.1 se.2.2.1 se.2.2.2 .nil .nil).right = false := by kernel_rfl
theorem ex_many : (clOf exFo.sets).m = 3 := by kernel_rfl
theorem ex_at : (clOf exFo.sets).f[97]? = some 1 ∧ (clOf exFo.sets).f[98]? = some 2 ∧ (clOf exFo.sets).f[99]? = some 0 ∧ (clOf exFo.sets).f[0]? = some 0 := by
  refine ⟨?_, ?_, ?_, ?_⟩ <;> kernel_rfl
theorem ex_first : (clOf exFo.sets).first 2 = (98, true) := by kernel_rfl
theorem ex_zero : (zCl 1).first 0 = (0, true) := by kernel_rfl
theorem ex_fits : (clOf exFo.sets).fits sab = true := by kernel_rfl
theorem ex_fits' : (clOf exFo.sets).fits sbc = false := by kernel_rfl

/-! ### Rows of trees of one's own -/
structure Tr where
  k : Int
  q : Q4
  sa : Option Addr
  sn : Nat
  sc : Nat
def tr6 (t : Tr) : List Value := [.int .u8 t.k, .int .u64 t.q.1, .int .u64 t.q.2.1, .int .u64 t.q.2.2.1, .int .u64 t.q.2.2.2, .slice t.sa t.sn t.sc]
theorem enc6 : Enc 6 tr6 := ⟨fun _ => rfl, by intro x v hv; simp [tr6] at hv; rcases hv with rfl | rfl | rfl | rfl | rfl | rfl <;> rfl⟩
theorem rowT22 : RowT Try.prog 22 42 6 64 := RowT.of (by kernel_rfl) (by kernel_rfl) (by kernel_rfl) (by omega)
abbrev OwnT (w : World) (base : Nat) (a : Option Addr) (c : Nat) (l : List Tr) : Prop := OwnL w base 42 6 tr6 a c l
/-- What lies in a row are these trees. -/
def TrF (w : World) : List Tr → Fo → Prop
  | [], .nil => True
  | t :: l, .cons k a b c d q r => (t.k = k ∧ t.q = (a, b, c, d) ∧ t.sn = q.len ∧ q.len < 2 ^ 63 ∧ RepF w t.sa 0 q) ∧ TrF w l r
  | _, _ => False
theorem TrF.md {w w' : World} (hm : Md [] w w') : ∀ {l : List Tr} {fo : Fo}, TrF w l fo → TrF w' l fo
  | [], .nil, _ => trivial
  | t :: l, .cons k a b c d q r, ⟨⟨h1, h2, h3, h4, h5⟩, h6⟩ => ⟨⟨h1, h2, h3, h4, h5.md hm⟩, TrF.md hm h6⟩
  | [], .cons .., h => h.elim
  | _ :: _, .nil, h => h.elim
theorem TrF.len {w : World} : ∀ {l : List Tr} {fo : Fo}, TrF w l fo → l.length = fo.len
  | [], .nil, _ => rfl
  | t :: l, .cons k a b c d q r, ⟨_, h⟩ => by simp only [List.length_cons, Fo.len, TrF.len h]
  | [], .cons .., h => h.elim
  | _ :: _, .nil, h => h.elim
theorem TrF.rep {w : World} {A : Option Addr} {L : List Tr} (hr : RowAt w A 6 tr6 L) : ∀ {l : List Tr} {fo : Fo} {i : Nat}, TrF w l fo → L.drop i = l → RepF w A i fo
  | [], .nil, i, _, _ => trivial
  | t :: l, .cons k a b c d q r, i, ⟨⟨h1, h2, h3, h4, h5⟩, h6⟩, he => by
    have hi : L[i]? = some t := by rw [← List.head?_drop, he]; rfl
    obtain ⟨B, hB, hc⟩ := hr i t hi
    have hn : L.drop (i + 1) = l := by rw [← List.tail_drop, he]; rfl
    have e1 : a = t.q.1 := by rw [h2]
    have e2 : b = t.q.2.1 := by rw [h2]
    have e3 : c = t.q.2.2.1 := by rw [h2]
    have e4 : d = t.q.2.2.2 := by rw [h2]
    subst e1; subst e2; subst e3; subst e4; subst h1
    simp only [RepF]
    refine ⟨⟨B, t.sa, t.sc, hB, ⟨hc 0 _ rfl, hc 1 _ rfl, hc 2 _ rfl, hc 3 _ rfl, hc 4 _ rfl, ?_⟩, h4, h5⟩, TrF.rep hr h6 hn⟩
    rw [← h3]; exact hc 5 _ rfl
  | [], .cons .., _, h, _ => h.elim
  | _ :: _, .nil, _, h, _ => h.elim
/-- Sets, as trees of one node each. -/
def leaf (q : Q4) : Tr := ⟨1, q, none, 0, 0⟩
def leafFo : List Q4 → Fo
  | [] => .nil
  | q :: l => .cons 1 q.1 q.2.1 q.2.2.1 q.2.2.2 .nil (leafFo l)
theorem leaf_F (w : World) : ∀ l : List Q4, TrF w (l.map leaf) (leafFo l)
  | [] => trivial
  | q :: l => ⟨⟨rfl, rfl, rfl, by simp [Fo.len], trivial⟩, leaf_F w l⟩
theorem leafFo_len : ∀ l : List Q4, (leafFo l).len = l.length
  | [] => rfl
  | q :: l => by simp [leafFo, Fo.len, leafFo_len l]
theorem leafFo_size : ∀ l : List Q4, (leafFo l).size = l.length
  | [] => rfl
  | q :: l => by simp [leafFo, Fo.size, leafFo_size l]
theorem leafFo_sets : ∀ l : List Q4, (leafFo l).sets = l
  | [] => rfl
  | q :: l => by simp [leafFo, Fo.sets, leafFo_sets l, nodeS]
/-- A set of a text, of which the rest goes on. -/
theorem in52 (s : ByteArray) (hs : s.size < 2 ^ 40) {L : List Nat} {w0 w : World} {K : Int → Int → Int → Int → World → Prop} (h : Good L w0 w) (k : ∀ w', Good L w0 w' → K (setQ (bytesL s)).1 (setQ (bytesL s)).2.1 (setQ (bytesL s)).2.2.1 (setQ (bytesL s)).2.2.2 w') :
    CallW Try.prog L 52 #[.string s] (fun v w' => opAg v fun cs => opI .u64 (nthD cs.toList 0) fun x => opI .u64 (nthD cs.toList 1) fun y => opI .u64 (nthD cs.toList 2) fun z => opI .u64 (nthD cs.toList 3) fun t => SzIs cs.size 4 (K x y z t w')) w := by
  refine (f52_ok s hs w).call h.2 ?_
  rintro v w' rfl h'
  refine opAg_in ?_
  refine opI_in ?_
  refine opI_in ?_
  refine opI_in ?_
  refine opI_in ?_
  exact SzIs_in rfl (k w' (h.tr h'))
theorem in51 (q : Q4) {L : List Nat} {w0 w : World} {K : Int → Int → Int → Int → Int → Option Addr → Nat → Nat → World → Prop} (h : Good L w0 w) (k : ∀ w', Good L w0 w' → K 1 q.1 q.2.1 q.2.2.1 q.2.2.2 none 0 0 w') :
    CallW Try.prog L 51 #[.agg #[.int .u64 q.1, .int .u64 q.2.1, .int .u64 q.2.2.1, .int .u64 q.2.2.2]] (fun v w' => opAg v fun cs => opI .u8 (nthD cs.toList 0) fun n => opI .u64 (nthD cs.toList 1) fun x => opI .u64 (nthD cs.toList 2) fun y => opI .u64 (nthD cs.toList 3) fun z => opI .u64 (nthD cs.toList 4) fun t => opL (nthD cs.toList 5) fun a n' c => SzIs cs.size 6 (K n x y z t a n' c w')) w := by
  refine (f51_ok q w).call h.2 ?_
  rintro v w' rfl h'
  refine opAg_in ?_
  refine opI_in ?_
  refine opI_in ?_
  refine opI_in ?_
  refine opI_in ?_
  refine opI_in ?_
  refine opL_in ?_
  exact SzIs_in rfl (k w' (h.tr h'))
/-- Classes of trees, of which the rest goes on. -/
theorem in40 (fo : Fo) (A : Option Addr) (C : Nat) (hl : fo.len < 2 ^ 40) (hbig : fo.size ≤ 2 ^ 39) {L : List Nat} {w0 w : World} {K : Array Value → Int → World → Prop} (h : Good L w0 w) (hr : RepF w A 0 fo)
    (k : ∀ w' c e, Good L w0 w' → Cl.ok c → (fo.right = true → c = clOf fo.sets ∧ e = 0) → (fo.right = false → c = zCl 0 ∧ e = 2) → K c.v e w') :
    CallW Try.prog L 40 #[.slice A fo.len C] (fun v w' => opTu v fun cs => opBig (nthD cs.toList 0) fun c => c.size = 257 ∧ opI .i64 (nthD cs.toList 1) fun e => SzIs cs.size 2 (K c e w')) w := by
  refine (f40_ok fo A C w hr hl hbig).call h.2 ?_
  rintro v w' rfl h'
  cases hf : fo.right with
  | true =>
    rw [if_pos rfl]
    refine opTu_in ?_
    have hok : (clOf fo.sets).ok := clOf_ok _ _ (zCl_ok (by omega) (by omega))
    refine opBig_in ⟨hok.size, ?_⟩
    refine opI_in ?_
    exact SzIs_in rfl (k w' _ 0 (h.tr h') hok (fun _ => ⟨rfl, rfl⟩) (fun h => by simp [hf] at h))
  | false =>
    rw [if_neg (by simp)]
    refine opTu_in ?_
    have hok : (zCl 0).ok := zCl_ok (by omega) (by omega)
    refine opBig_in ⟨hok.size, ?_⟩
    refine opI_in ?_
    exact SzIs_in rfl (k w' _ 2 (h.tr h') hok (fun h => by simp [hf] at h) (fun _ => ⟨rfl, rfl⟩))
theorem in42 (c : Cl) (hc : c.ok) (k : Int) {L : List Nat} {w0 w : World} {K : Int → Bool → World → Prop} (h : Good L w0 w) (kk : ∀ w', Good L w0 w' → K (c.first k).1 (c.first k).2 w') :
    CallW Try.prog L 42 #[.agg c.v, .int .i64 k] (fun v w' => opTu v fun cs => opI .u8 (nthD cs.toList 0) fun x => opB (nthD cs.toList 1) fun b => SzIs cs.size 2 (K x b w')) w := by
  refine (f42_ok c hc k w).call h.2 ?_
  rintro v w' rfl h'
  refine opTu_in ?_
  refine opI_in ?_
  refine opB_in ?_
  exact SzIs_in rfl (kk w' (h.tr h'))
theorem in46 (c : Cl) (hc : c.ok) (q : Q4) {L : List Nat} {w0 w : World} {K : Bool → World → Prop} (h : Good L w0 w) (kk : ∀ w', Good L w0 w' → K (c.fits q) w') :
    CallW Try.prog L 46 #[.agg c.v, .agg #[.int .u64 q.1, .int .u64 q.2.1, .int .u64 q.2.2.1, .int .u64 q.2.2.2]] (fun v w' => opB v fun b => K b w') w := by
  refine (f46_ok c hc q w).call h.2 ?_
  rintro v w' rfl h'
  exact opB_in (kk w' (h.tr h'))
theorem Good.alloc {L : List Nat} {w0 w : World} (h : Good L w0 w) (o : Obj) : Good L w0 (w.alloc o) := h.tr (Md.alloc _ _)
/-- Registers that are made. -/
theorem regUp {L : List Nat} {w0 w w' : World} {n : Nat} (h : Good L w0 w) (hn : w.heap.size ≤ n) (hm : Md [n] w w') (hL : ∀ b ∈ n :: L, b < w'.heap.size) : Good (n :: L) w0 w' :=
  ⟨h.1.old hm (by have := h.1.size; simp; omega), hL⟩
theorem awake_ok (w : World) : Ct Try.prog 39 #[] w fun v w' => v = .bool true ∧ Md [] w w' := by
  apply f39_in
  have g0 : Good [] w w := ⟨Md.refl _ _, by simp⟩
  refine in40 .nil none 0 (by simp [Fo.len]) (by simp [Fo.size]) g0 trivial fun w2 c0 e0 g2 hc0 hy0 _ => ?_
  obtain ⟨rfl, rfl⟩ := hy0 rfl
  refine ⟨hc0.size, fun n6 hn6 => OkC_in hc0.cells fun w7 h7 hL7 => ?_⟩
  have g7 := regUp g2 hn6 h7 hL7
  refine in52 _ (by simp [ByteArray.size]) g7 fun w9 g9 => ?_
  refine in51 (setQ (bytesL _)) g9 fun w16 g16 => ?_
  refine in52 _ (by simp [ByteArray.size]) g16 fun w27 g27 => ?_
  refine in51 (setQ (bytesL _)) g27 fun w34 g34 => ?_
  intro n44 w45 e44 e45
  subst e44; subst e45
  have hT := OwnL.lit (P := Try.prog) (base := w34.heap.size) enc6 w34 42 [leaf sb, leaf sab] _ (Nat.le_refl _) (by simp [maxLen]) rfl
  have hrep : RepF _ _ 0 exFo := TrF.rep (hT.row enc6) (leaf_F _ [sb, sab]) rfl
  refine in40 exFo _ 2 (by simp [Fo.len, exFo]) (by simp [Fo.size, exFo]) (g34.alloc _) hrep fun w47 c1 e1 g47 hc1 hy1 _ => ?_
  obtain ⟨rfl, rfl⟩ := hy1 ex_right
  refine ⟨hc1.size, fun n51 hn51 => OkC_in hc1.cells ⟨hc1.size, fun w52 h52 hL52 => ?_⟩⟩
  have g52 := regUp g47 hn51 h52 hL52
  refine in42 _ hc1 2 g52 fun w54 g54 => ?_
  refine ⟨hc0.size, ?_⟩
  refine in42 _ hc0 0 g54 fun w59 g59 => ?_
  refine in52 _ (by simp [ByteArray.size]) g59 fun w64 g64 => ?_
  refine in51 (setQ (bytesL _)) g64 fun w71 g71 => ?_
  intro n81 w82 e81 e82
  subst e81; subst e82
  have hT2 := OwnL.lit (P := Try.prog) (base := w71.heap.size) enc6 w71 42 [leaf se] _ (Nat.le_refl _) (by simp [maxLen]) rfl
  have hrep2 : RepF _ _ 0 (.cons 1 se.1 se.2.1 se.2.2.1 se.2.2.2 .nil .nil) := TrF.rep (hT2.row enc6) (leaf_F _ [se]) rfl
  refine in40 (.cons 1 se.1 se.2.1 se.2.2.1 se.2.2.2 .nil .nil) _ 1 (by simp [Fo.len]) (by simp [Fo.size]) (g71.alloc _) hrep2 fun w84 c2 e2 g84 hc2 _ hn2 => ?_
  obtain ⟨rfl, rfl⟩ := hn2 ex_empty
  refine ⟨hc2.size, fun n88 hn88 => OkC_in hc2.cells ?_⟩
  refine Jn_in (fun us vs w' => us = [.bool true] ∧ Md [] w w') ?_ ?_
  · rintro us vs w91 ⟨rfl, h91⟩
    exact opB_in ⟨rfl, h91⟩
  intro w94 h94 hL94
  have g94 := (regUp g84 hn88 h94 hL94).drew
  refine Bd_in fun x95 hx95 => Bd_in fun b96 hb96 => Bd_in fun b97 hb97 => Bd_in fun b98 hb98 => ⟨fun _ => hc0.manyI.1, Bd_in fun x100 hx100 => Bd_in fun b101 hb101 => Bd_in fun b102 hb102 => Bd_in fun b103 hb103 => Bd_in fun b104 hb104 => Bd_in fun b105 hb105 => ⟨fun _ => hc1.manyI.1, Bd_in fun x107 hx107 => Bd_in fun b108 hb108 => Bd_in fun b109 hb109 => ?_⟩⟩
  have i97 : isI .u8 (clOf exFo.sets).v.toList 97 := ⟨1, by kernel_rfl⟩
  have i98 : isI .u8 (clOf exFo.sets).v.toList 98 := ⟨2, by kernel_rfl⟩
  have i99 : isI .u8 (clOf exFo.sets).v.toList 99 := ⟨0, by kernel_rfl⟩
  have i0 : isI .u8 (clOf exFo.sets).v.toList 0 := ⟨0, by kernel_rfl⟩
  have r97 : rdI (clOf exFo.sets).v.toList 97 = 1 := by kernel_rfl
  have r98 : rdI (clOf exFo.sets).v.toList 98 = 2 := by kernel_rfl
  have r99 : rdI (clOf exFo.sets).v.toList 99 = 0 := by kernel_rfl
  have r0 : rdI (clOf exFo.sets).v.toList 0 = 0 := by kernel_rfl
  have t98 : b98 = true := by rw [hb98, hb96, hb97, hx95]; decide
  have t105 : b105 = true := by
    rw [hb105, hb104, hb103, hb102, hb101, t98, hx100, hc0.manyI.2]
    kernel_rfl
  have t109 : b109 = true := by
    rw [hb109, hb108, t105, hx107, hc1.manyI.2, ex_many]
    decide
  refine ⟨fun _ => i97, Bd_in fun x111 hx111 => Bd_in fun b112 hb112 => Bd_in fun b113 hb113 => ⟨fun _ => i98, Bd_in fun x115 hx115 => Bd_in fun b116 hb116 => Bd_in fun b117 hb117 => ⟨fun _ => i99, Bd_in fun x119 hx119 => Bd_in fun b120 hb120 => Bd_in fun b121 hb121 =>
    ⟨fun _ => i0, Bd_in fun x123 hx123 => Bd_in fun b124 hb124 => Bd_in fun b125 hb125 => Bd_in fun b126 hb126 => Bd_in fun b127 hb127 => Bd_in fun b128 hb128 => ⟨fun _ => hc1.size, ?_⟩⟩⟩⟩⟩
  have t128 : b128 = true := by
    rw [hb128, hb127, hb126, hb125, hb124, hx123, r0, hb121, hb120, hx119, r99, hb117, hb116, hx115, r98, hb113, hb112, hx111, r97, t109, ex_first]
    decide
  clear hb128
  subst t128
  refine ⟨fun _ => ?_, fun h => by cases h⟩
  refine in52 _ (by simp [ByteArray.size]) g94 fun w132 g132 => ?_
  refine opI_in ?_
  refine opI_in ?_
  refine opI_in ?_
  refine opI_in ?_
  refine SzIs_in rfl ⟨fun _ => ?_, fun h => by cases h⟩
  refine in46 _ hc1 (setQ (bytesL _)) g132 fun w146 g146 => ?_
  refine Bd_in fun b150 hb150 => ⟨fun _ => hc1.size, ?_⟩
  have t150 : b150 = true := by
    have : (clOf exFo.sets).fits (setQ (bytesL { data := #[(97 : UInt8), (98 : UInt8)] })) = true := ex_fits
    rw [hb150, this]; rfl
  clear hb150
  subst t150
  refine ⟨fun _ => ?_, fun h => by cases h⟩
  refine in52 _ (by simp [ByteArray.size]) g146 fun w154 g154 => ?_
  refine opI_in ?_
  refine opI_in ?_
  refine opI_in ?_
  refine opI_in ?_
  refine SzIs_in rfl ⟨fun _ => ?_, fun h => by cases h⟩
  refine in46 _ hc1 (setQ (bytesL _)) g154 fun w168 g168 => ?_
  refine Bd_in fun b172 hb172 => Bd_in fun b173 hb173 => ⟨?_, g168.1⟩
  have : (clOf exFo.sets).fits (setQ (bytesL { data := #[(98 : UInt8), (99 : UInt8)] })) = false := ex_fits'
  rw [hb173, hb172, this]; rfl
end Fk
