/- Contracts of functions, and plain laws: several texts, joined. -/
import Derived.Test.YtpgjpgecgibklaaGR3
import Derived.Test.YtpgjpgecgibklaaGR4
import Derived.Test.YtpgjpgecgibklaaGV2
set_option linter.unusedVariables false
set_option linter.unusedSimpArgs false
set_option maxRecDepth 100000
set_option maxHeartbeats 4000000
namespace Fk
open Go Go.Proofs Go.RowKit
def recsN (m : Int) : Nat := (max (min m 20) 0).toNat
def recK (o : Op4) (k : Nat) : List Nat := recB (((max o.n 0).toNat % 2000 + k : Nat) : Int) ((o.c + k) % 256)
def recsL (o : Op4) : List (List Nat) := (List.range (recsN o.m)).map (recK o)
theorem recsN_le (m : Int) : recsN m ≤ 20 := by unfold recsN; omega
theorem recsL_len (o : Op4) : (recsL o).length = recsN o.m := by simp [recsL]
theorem recsL_by (o : Op4) : ∀ r ∈ recsL o, ∀ x ∈ r, x < 256 := by
  intro r hr
  simp only [recsL, List.mem_map] at hr
  obtain ⟨k, _, rfl⟩ := hr
  exact recB_lt _ _
theorem RRo.down {w : World} {bx b' : Nat} {a : Option Addr} {c : Nat} {rs : List (List Nat)} (h : RRo w bx a c rs) (hb : b' ≤ bx) : RRo w b' a c rs := by
  obtain ⟨ps, h1, h2, h3⟩ := h
  exact ⟨ps, h1.down hb, h2, fun i p r hp hr => ⟨(h3 i p r hp hr).1, (h3 i p r hp hr).2.1.imp fun _ o => o.down hb, (h3 i p r hp hr).2.2⟩⟩
theorem f134_ok (o : Op4) (ho : o.ok) (w : World) : Ct Try.prog 134 #[.agg #[.int .u8 o.k, .int .i64 o.n, .int .i64 o.m, .int .u8 o.c]] w fun v w' => (∃ a c, v = .slice a (recsL o).length c ∧ RRo w' w.heap.size a c (recsL o)) ∧ Md [] w w' := by
  apply f134_in
  intro n1 hn1
  have hc := ho.c
  refine Bd_e (min_if _ _) <| Bd_e (max_if2 _) fun w4 m4 hl4 => ?_
  have hm : max (min 20 o.m) 0 = ((recsN o.m : Nat) : Int) := by unfold recsN; omega
  have hm' : max (min o.m 20) 0 = ((recsN o.m : Nat) : Int) := by unfold recsN; omega
  have hle := recsN_le o.m
  first | rw [hm] | rw [hm']
  have hl4 : n1 < w4.heap.size := hl4 n1 (by simp)
  have m4' : Md [] w w4 := m4
  refine LoopP_in (fun mm us vs w' => ∃ (i : Nat) (a : Option Addr) (c : Nat), us = [.slice a ((recsL o).take i).length c, .int .i64 i] ∧ mm = recsN o.m - i ∧ i ≤ recsN o.m ∧ Md [] w4 w' ∧ RRo w' w4.heap.size a c ((recsL o).take i)) (recsN o.m)
    ⟨0, none, 0, rfl, rfl, by omega, Md.refl _ _, RRo.nil _ _⟩ ?_
  rintro mm us vs w8 ⟨i, a, c, rfl, hmm, hi, m8, R8⟩
  refine opL_in <| opI_in <| Bd_in fun b13 hb13 => If_in (fun hb => ?_) fun hb => ?_
  · have hil : i < recsN o.m := by rw [hb13] at hb; have : (i : Int) < (recsN o.m : Int) := of_decide_eq_true hb
                                   omega
    have hn := ho.n
    have hl8 : ∀ b ∈ [n1], b < w8.heap.size := by simpa using Nat.lt_of_lt_of_le hl4 m8.size
    refine Bd_e (y := ((max o.n 0).toNat : Int)) (by omega) <| Bd_e (y := (((max o.n 0).toNat % 2000 : Nat) : Int)) (by rw [Int.tmod_eq_emod_of_nonneg (by omega)]; omega) <| Bd_e (y := (((max o.n 0).toNat % 2000 + i : Nat) : Int)) (by rw [IntKind.wrap_i64]; omega) <| Bd_e (y := (i : Int)) (by rw [IntKind.wrap_u8]; omega) <| Bd_e (y := (((o.c + i) % 256 : Nat) : Int)) (by rw [IntKind.wrap_u8]; omega) <| in123 (Md.refl _ w8) _ (Nat.mod_lt _ (by omega)) hl8 fun A C C2 w20 m20 o20 => ?_
    have hi2 : i < (recsL o).length := by rw [recsL_len]; exact hil
    have er : (recsL o)[i] = recK o i := by simp [recsL]
    have etk : (recsL o).take (i + 1) = (recsL o).take i ++ [recK o i] := by rw [List.take_succ_eq_append_getElem hi2, er]
    have hap : Apt a A := fun D E hD hE e => by
      obtain ⟨ps, o, _⟩ := R8
      have h1 := (o.lt hD).2
      have h2 := (o20.lt hE).1
      omega
    have R20 := R8.md m20
    refine R20.push (o20.down m8.size) rfl hap (m8.trans m20).size (fun b hb => Nat.lt_of_lt_of_le (hl8 b hb) m20.size) (by simpa using hl4) (by rw [List.length_take]; omega) fun a' c' w27 R27 m27 => Bd_e (inc_i64 (by omega)) ?_
    have m27' : Md [] w4 w27 := (m8.trans m20).old m27 fun d hd => by
      obtain ⟨B, hB, rfl⟩ := mem_blk hd
      obtain ⟨ps, o, _⟩ := R20
      exact (o.lt hB).1
    have e2 : (recsL o).take i ++ [recB (((max o.n 0).toNat % 2000 + i : Nat) : Int) ((o.c + i) % 256)] = (recsL o).take (i + 1) := etk.symm
    rw [e2] at R27 ⊢
    exact ⟨recsN o.m - (i + 1), by omega, i + 1, a', c', rfl, rfl, by omega, m27', R27⟩
  · have hil : i = recsN o.m := by
      have : ¬ (i : Int) < (recsN o.m : Int) := by rw [hb13] at hb; exact of_decide_eq_false hb
      omega
    subst hil
    rw [← recsL_len, List.take_length] at R8 ⊢
    exact ⟨⟨a, c, rfl, R8.down m4'.size⟩, m4'.trans m8⟩
end Fk
set_option linter.unusedVariables false
set_option linter.unusedSimpArgs false
set_option maxRecDepth 100000
set_option maxHeartbeats 4000000
namespace Fk
open Go Go.Proofs Go.RowKit
section
variable {L : List Nat} {w0 w : World} {n : Nat} {d : Dk} {F : List Nat} {ln : Nat} {g : Lg} {a : Option Addr} {c : Nat} {rs : List (List Nat)}
end
theorem jin135 {L : List Nat} {w : World} {bx : Nat} {a : Option Addr} {c m : Nat} {rs : List (List Nat)} (hr : RRo w bx a c rs) (hrs : ∀ r ∈ rs, ∀ x ∈ r, x < 256) (hl : rs.length < 2 ^ 40) (hm : m = rs.length) (hL : ∀ b ∈ L, b < w.heap.size) {K : Option Addr → Nat → Nat → World → Prop}
    (k : ∀ A C w', Md [] w w' → OwnL w' w.heap.size 9 1 tE A C rs → K A rs.length C w') : CallW Try.prog L 135 #[.slice a m c] (fun v w' => opL v fun a n c => K a n c w') w := by
  subst hm
  refine (f135_ok rs hrs hl bx a c w hr).call hL ?_
  rintro v w' ⟨A, C, rfl, o⟩ h'
  exact opL_in (k A C w' h' o)
theorem recsL_get (o : Op4) {i : Nat} (hi : i < (recsL o).length) : (recsL o)[i] = recK o i := by simp [recsL]
theorem sum8_le (l : List Nat) (m : Nat) (h : ∀ x ∈ l, x ≤ m) : sum8 l ≤ l.length * (m + 8) := by
  induction l with
  | nil => simp [sum8]
  | cons x l ih =>
    have h1 := h x (by simp)
    have h2 := ih fun y hy => h y (by simp [hy])
    rw [sum8_cons, List.length_cons, Nat.succ_mul]; omega
end Fk
set_option linter.unusedVariables false
set_option linter.unusedSimpArgs false
set_option maxRecDepth 100000
set_option maxHeartbeats 8000000
namespace Fk
open Go Go.Proofs Go.RowKit
/-- A block being made: its first byte's row, and the zeros' row, in whichever order they are made. -/
structure HSt (L : List Nat) (base : Nat) (w0 w : World) (p0 : RfS) (x : Rf) (p : RfS) (y : Nat) (b z : Option Nat) : Prop where
  rs : RS L base w0 w p0 x p
  hy : y < 256
  hb : ∀ n, b = some n → RowAt w (some ⟨n, 0, none⟩) 1 b1 [y]
  hz : ∀ n, z = some n → RowAt w (some ⟨n, 0, none⟩) 1 b1 (List.replicate 63 0)
section
variable {L : List Nat} {base : Nat} {w0 w : World} {p0 : RfS} {x : Rf} {p : RfS} {y : Nat} {b z : Option Nat}
theorem HSt.nw (h : HSt L base w0 w p0 x p y none z) {K : Nat → World → Prop} (k : ∀ n w', HSt L base w0 w' p0 x p y (some n) z → K n w') : Nw (.cells #[.int .u8 (y : Int)] 5) w K := by
  refine Nw_i ?_
  have ma := Md.alloc (M := []) w (.cells #[.int .u8 (y : Int)] 5)
  have oH := OwnL.lit (P := Try.prog) (base := 0) encb1 w 5 [y] #[.int .u8 (y : Int)] (by omega) (by simp [maxLen]) rfl
  exact k _ _ ⟨h.rs.md0 ma, h.hy, fun n hn => by cases hn; exact oH.row encb1, fun n hn => (h.hz n hn).md ma⟩
theorem HSt.mk' (h : HSt L base w0 w p0 x p y b none) {K : Option Addr → Nat → Nat → World → Prop} (k : ∀ n w', HSt L base w0 w' p0 x p y b (some n) → K (some ⟨n, 0, none⟩) 63 63 w') :
    RunW Try.prog L (Instr.makeSlice 51 (.int .i64 63) (.int .i64 63)) (fun v w => opL v fun a n c => K a n c w) w := by
  obtain ⟨w', hr, o, m⟩ := made5 63 w (by omega)
  exact RunW_in hr (Kept_md m h.rs.lt) <| opL_in <| k _ w' ⟨h.rs.md0 m, h.hy, fun n hn => (h.hb n hn).md m, fun n hn => by cases hn; exact o.row encb1⟩
theorem HSt.cb {n : Nat} (h : HSt L base w0 w p0 x p y (some n) z) {K : ByteArray → World → Prop} (k : K (bytesOf [y]) w) :
    RunW Try.prog L (convert 51 9 (.slice (some ⟨n, 0, none⟩) 1 1)) (fun v w => opStr v fun s => K s w) w :=
  RunW_in0 (conv_row (h.hb n rfl) (by simpa using h.hy) 1 1 rfl) (opStr_in k)
theorem HSt.cz {n : Nat} (h : HSt L base w0 w p0 x p y b (some n)) {K : ByteArray → World → Prop} (k : K (bytesOf (List.replicate 63 0)) w) :
    RunW Try.prog L (convert 51 9 (.slice (some ⟨n, 0, none⟩) 63 63)) (fun v w => opStr v fun s => K s w) w :=
  RunW_in0 (conv_row (h.hz n rfl) (fun x hx => by have := List.eq_of_mem_replicate hx; omega) 63 63 (by simp)) (opStr_in k)
theorem HSt.fin (h : HSt L base w0 w p0 x p y b z) {N : Nat} {d : Dk} (hd : RelD N d x) (hpl : d.pd.length < 2 ^ 28) {K : Option Addr → Nat → Nat → Option Addr → Nat → Nat → Int → Bool → World → Prop}
    (k : ∀ x' p' w', RS L base w0 w' p0 x' p' → RelD N (oneD d 0 (hdB y)).1 x' → K p'.a x'.sf.length p'.c p'.b x'.pe.length p'.e x'.rf (oneD d 0 (hdB y)).2 w') :
    CallW Try.prog L 213 #[x.v p, .int .i64 0, .string (bytesOf ([y] ++ List.replicate 63 0))] (fun v w' => opTu v fun cs => opAg (nthD (Array.toList cs) 0) fun cs1 => opL (nthD (Array.toList cs1) 0) fun a1 n1 c1 => opL (nthD (Array.toList cs1) 1) fun a2 n2 c2 => opI .i64 (nthD (Array.toList cs1) 2) fun q => SzIs (Array.size cs1) 3 (opB (nthD (Array.toList cs) 1) fun e => SzIs (Array.size cs) 2 (K a1 n1 c1 a2 n2 c2 q e w'))) w := by
  have hh : [y] ++ List.replicate 63 0 = hdB y := rfl
  rw [hh]
  refine (f213_ok x p base N d w (Nat.le_trans h.rs.bs h.rs.md.size) h.rs.r hd hpl 0 (hdB y) (fun v hv => ?_) (by rw [show (hdB y).length = 64 from rfl]; omega)).call h.rs.lt ?_
  · rcases List.mem_cons.1 hv with rfl | hv
    · exact h.hy
    · have := List.eq_of_mem_replicate hv; omega
  rintro v w' ⟨x', p', rfl, r', d', n'⟩ h'
  exact opTu_in <| opAg_in <| opL_in <| opL_in <| opI_in <| SzIs_in rfl <| opB_in <| SzIs_in rfl (k x' p' w' (h.rs.ref h' r' n') d')
end
theorem rawR_pre (xs : List (List Nat)) (h : ∀ r ∈ xs, r.length ≤ 2100) (hl : xs.length ≤ 20) (i : Nat) : (rawR (xs.take i)).length ≤ 20 * 2108 := by
  rw [rawR_len]
  have h2 := sum8_le ((xs.take i).map List.length) 2100 (fun l hl => by
    obtain ⟨r, hr, rfl⟩ := List.mem_map.1 hl
    exact h r (List.mem_of_mem_take hr))
  have h3 : ((xs.take i).map List.length).length ≤ 20 := by rw [List.length_map, List.length_take]; omega
  have h4 : ((xs.take i).map List.length).length * (2100 + 8) ≤ 20 * (2100 + 8) := Nat.mul_le_mul_right _ h3
  omega
theorem f142_ok (x : Rf) (p : RfS) (base N : Nat) (d : Dk) (g : Lg) (w : World) (hb : base ≤ w.heap.size) (h : RfAt w base x p) (hd : RelD N d x) (h1 : 3 ≤ N) (h2 : N ≤ 65536) (hpl : d.pd.length < 2 ^ 26) (ha : g.area ≤ 1) (hp : g.pos ≤ jsz d)
    (rs : List (List Nat)) (hrs : ∀ r ∈ rs, ∀ z ∈ r, z < 256) (hrl : ∀ r ∈ rs, r.length ≤ 2100) (hn : rs.length ≤ 20) (A : Option Addr) (C : Nat) (hr : RowAt w A 1 tE rs) :
    Ct Try.prog 142 #[g.rv x p, .slice A rs.length C] w fun v w' => (∃ x' p', v = .tuple #[(rwD d g rs).2.1.rv x' p', .int .i64 (rwD d g rs).2.2] ∧ RfOut N w w' base (rwD d g rs).1 p x' p') ∧ Md [] w w' := by
  have hlen := hd.fro.len
  have hhl : half d ≤ 32767 := half_le (by omega)
  have hjz : jsz d = half d * 64 := rfl
  have hd1 : 1 ≤ d.bl.length := by omega
  apply f142_in
  intro n1 hn1 n2 hn2
  refine If_in (fun ho => ?_) fun ho => ?_
  · intro w3 m3 hl3
    have S3 := RS.two h hb hn1 hn2 m3 (by simp) hl3
    have hm : mayD g (jsz d : Int) (rs.map List.length) = 200 := by unfold mayD; rw [if_pos ho]
    have e : rwD d g rs = (d, g, 200) := by unfold rwD; rw [if_pos (by rw [hm]; decide), hm]
    rw [e]
    exact ⟨⟨x, p, rfl, S3.r, hd, S3.nw⟩, S3.md⟩
  have em : ∀ ls, mayD g (jsz d : Int) ls = mayF (jsz d : Int) false ls := fun ls => by unfold mayD; rw [if_neg (by simp [ho])]
  intro w4 m4 hl4
  have S4 := RS.two h hb hn1 hn2 m4 (by simp) hl4
  refine LoopP_in (fun mm us vs w' => ∃ (i : Nat) (z : Int) (ja : Option Addr) (jb jc : Nat) (je : Option Addr) (jf jg : Nat) (ji jk jl : Int) (jm : Bool), us = [.int .i64 z, .string (bytesOf (rawR (rs.take i))), .int .i64 i] ∧ vs = [.agg #[.slice ja jb jc, .slice je jf jg, .int .i64 ji, .int .i64 jk, .int .i64 jl, .bool jm]] ∧ mm = rs.length - i ∧ i ≤ rs.length ∧ RS [n2, n1] base w w' p x p ∧ (∀ r ∈ rs.take i, ¬ (r.length < 1 ∨ r.length > 1048576))) rs.length
    ⟨0, 0, none, 0, 0, none, 0, 0, 0, 0, 0, false, rfl, rfl, rfl, by omega, S4, by simp⟩ ?_
  rintro mm us vs w8 ⟨i, z, ja, jb, jc, je, jf, jg, ji, jk, jl, jm, rfl, rfl, hmm, hi, S8, hok⟩
  have hpre := rawR_pre rs hrl hn
  refine opI_in <| opStr_in <| opI_in <| opAg_in <| opL_in <| opL_in <| opI_in <| opI_in <| opI_in <| opB_in <| SzIs_in rfl <| Bd_e rfl <| Bd_in fun b24 hb24 => If_in (fun hc => ?_) fun hc => ?_
  · have hil : i < rs.length := by rw [hb24] at hc; have : (i : Int) < (rs.length : Int) := of_decide_eq_true hc
                                   omega
    have r8 := hr.md S8.md
    have hrm := List.getElem_mem hil
    have hl1 := hrl _ hrm
    refine ⟨r8.ix hil, r8.ld1 hil rfl <| opStr_in <| Bd_e (y := (rs[i].length : Int)) (by rw [size_bytesOf]) <| Bd_in fun b28 hb28 => ⟨fun _ => r8.ix hil, ?_⟩⟩
    refine Gd_to (fun u w' => w' = w8 ∧ (b28 = false → u = bytesOf rs[i])) ?_ (fun fin hcc => r8.ld1 hil rfl <| opStr_in <| fin _ _ ⟨rfl, fun _ => rfl⟩) (fun hcc => ⟨rfl, fun h => by rw [h] at hcc; cases hcc⟩)
    rintro u w34 ⟨rfl, hu⟩
    refine Bd_in fun x35 hx35 => Bd_in fun b36 hb36 => Bd_in fun b37 hb37 => ?_
    have e37 : b37 = decide (rs[i].length < 1 ∨ rs[i].length > 1048576) := by
      have q1 : b28 = decide (rs[i].length < 1) := by rw [hb28]; apply decide_eq_decide.2; omega
      by_cases q : rs[i].length < 1
      · rw [hb37, q1, decide_eq_true q, decide_eq_true (.inl q)]; rfl
      · rw [decide_eq_false q] at q1
        rw [hb37, q1, hb36, hx35, hu q1, size_bytesOf, cond_false]
        apply decide_eq_decide.2
        omega
    by_cases hbad : rs[i].length < 1 ∨ rs[i].length > 1048576
    · rw [show b37 = true by rw [e37]; exact decide_eq_true hbad]
      refine If_t fun w38 m38 hl38 => ?_
      have S38 := S8.up m38 (by simp)
      have hm : mayD g (jsz d : Int) (rs.map List.length) = 3 := by rw [em, mayF_bad _ _ _ ⟨rs[i].length, List.mem_map.2 ⟨_, hrm, rfl⟩, hbad⟩]
      have e : rwD d g rs = (d, g, 3) := by unfold rwD; rw [if_pos (by rw [hm]; decide), hm]
      rw [e]
      exact ⟨⟨x, p, rfl, S38.r, hd, S38.nw⟩, S38.md⟩
    · rw [show b37 = false by rw [e37]; exact decide_eq_false hbad]
      have e1 : ByteArray.mk #[1] = bytesOf [1] := rfl
      rw [e1]
      have hpi := hpre i
      refine If_f <| in_cat (by omega) (by simp) ⟨r8.ix hil, r8.ld1 hil rfl <| opStr_in <| (f209_ok rs[i] (hrs _ hrm) (by omega) w34).call S8.lt ?_⟩
      rintro v w45 rfl m45
      have htl := tailF_len rs[i]
      refine opStr_in <| in_cat (by rw [List.length_append]; simp; omega) (by omega) ?_
      have etk : rawR (rs.take i) ++ [1] ++ tailF rs[i] = rawR (rs.take (i + 1)) := by rw [List.take_succ_eq_append_getElem hil, rawR_snoc, List.append_assoc]; rfl
      rw [etk]
      refine Bd_e (inc_i64 (by omega)) ⟨rs.length - (i + 1), by omega, i + 1, z, ja, jb, jc, je, jf, jg, ji, jk, jl, jm, rfl, rfl, rfl, by omega, S8.md0 m45, fun r hr => ?_⟩
      rw [List.take_succ_eq_append_getElem hil] at hr
      rcases List.mem_append.1 hr with hr | hr
      · exact hok r hr
      · simp at hr; rw [hr]; exact hbad
  · have hil : i = rs.length := by
      have : ¬ (i : Int) < (rs.length : Int) := by rw [hb24] at hc; exact of_decide_eq_false hc
      omega
    subst hil
    have hps := hpre rs.length
    rw [List.take_length] at hok hps ⊢
    have hrw := rawR_len rs
    have hm : mayD g (jsz d : Int) (rs.map List.length) = if (sum8 (rs.map List.length) : Int) > (jsz d : Int) then 4 else 0 := by
      rw [em, mayF_ok _ _ _ (fun l hl => by
        obtain ⟨r, hr, rfl⟩ := List.mem_map.1 hl
        exact hok r hr) (by omega) (fun _ => by omega)]
      simp
    have hrb : ∀ v ∈ rawR rs, v < 256 := fun v hv => by
      simp only [rawR, List.mem_flatMap] at hv
      obtain ⟨r, hr1, hr2⟩ := hv
      exact frm_lt 1 r (by omega) (hrs r hr1) v hr2
    refine Bd_e (y := ((rawR rs).length : Int)) (by rw [size_bytesOf]) <| in210 (by rw [hd.slen]; omega) (by rw [hd.slen]; exact h2) S8.lt fun w53 m53 => ?_
    have S53 := S8.md0 m53
    rw [hd.hf]
    refine Bd_in fun b55 hb55 => ?_
    by_cases hful : (rawR rs).length > jsz d
    · rw [show b55 = true by rw [hb55]; exact decide_eq_true (by omega)]
      refine If_t fun w56 m56 hl56 => ?_
      have S56 := S53.up m56 (by simp)
      rw [if_pos (by omega)] at hm
      have e : rwD d g rs = (d, g, 4) := by unfold rwD; rw [if_pos (by rw [hm]; decide), hm]
      rw [e]
      exact ⟨⟨x, p, rfl, S56.r, hd, S56.nw⟩, S56.md⟩
    rw [show b55 = false by rw [hb55]; exact decide_eq_false (by omega)]
    rw [if_neg (by omega)] at hm
    have ex : ((1 - g.area : Nat) : Int) = 1 - (g.area : Int) := by omega
    have hfit : 0 + (rawR rs).length ≤ jsz d := by omega
    have eR : rwD d g rs = if (layD d (1 - g.area) 0 (rawR rs)).2 = false then ((layD d (1 - g.area) 0 (rawR rs)).1, { g with ov := true }, 200) else
        if (oneD (layD d (1 - g.area) 0 (rawR rs)).1 0 (hdB (1 - g.area))).2 = false then ((oneD (layD d (1 - g.area) 0 (rawR rs)).1 0 (hdB (1 - g.area))).1, { g with ov := true }, 200)
        else ((oneD (layD d (1 - g.area) 0 (rawR rs)).1 0 (hdB (1 - g.area))).1, ⟨1 - g.area, (rawR rs).length, g.ov⟩, 0) := by unfold rwD; rw [if_neg (by rw [hm]; decide)]
    have hLl := layD_len (b := rawR rs) hd1 (by omega) (show 1 - g.area ≤ 1 by omega) hfit
    have c211 := f211_ok x p base N d w53 (Nat.le_trans hb S53.md.size) S53.r hd (by omega) h2 (by omega) (1 - g.area) 0 (by omega) (rawR rs) hrb hfit
    generalize hL : layD d (1 - g.area) 0 (rawR rs) = l at *
    refine If_f <| Bd_e (y := ((1 - g.area : Nat) : Int)) (by rw [ex, IntKind.wrap_i64]; omega) <| c211.call S53.lt ?_
    rintro v w59 ⟨x1, p1, rfl, r1, d1, nw1⟩ m59
    have S59 := S53.ref m59 r1 nw1
    refine opTu_in <| opAg_in <| opL_in <| opL_in <| opI_in <| SzIs_in rfl <| opB_in <| SzIs_in rfl fun n70 hn70 => ?_
    refine Jn_in (fun us vs w' => ∃ (ok : Bool) (d' : Dk) (x' : Rf) (p' : RfS), us = [.bool ok] ∧ vs = [x'.v p'] ∧ RS [n70, n2, n1] base w w' p x' p' ∧ RelD N d' x' ∧ ((ok = true ∧ rwD d g rs = (d', ⟨1 - g.area, (rawR rs).length, g.ov⟩, 0)) ∨ (ok = false ∧ rwD d g rs = (d', { g with ov := true }, 200)))) ?_ ?_
    · rintro us vs w73 ⟨ok, d', x', p', rfl, rfl, S73, D73, hc⟩
      refine opB_in <| opAg_in <| opL_in <| opL_in <| opI_in <| SzIs_in rfl <| Bd_in fun b83 hb83 => If_in (fun hx => ?_) fun hx => ?_
      · intro w84 m84 hl84
        have S84 := S73.up m84 (by simp)
        rcases hc with ⟨rfl, _⟩ | ⟨_, e⟩
        · rw [hb83] at hx; cases hx
        · rw [e]
          exact ⟨⟨x', p', rfl, S84.r, D73, S84.nw⟩, S84.md⟩
      · refine Bd_e (y := ((1 - g.area : Nat) : Int)) (by rw [ex, IntKind.wrap_i64]; omega) <| Bd_e (y := ((rawR rs).length : Int)) (by rw [size_bytesOf]) fun w87 m87 hl87 => ?_
        have S87 := S73.up m87 (by simp)
        rcases hc with ⟨_, e⟩ | ⟨rfl, _⟩
        · rw [e]
          exact ⟨⟨x', p', rfl, S87.r, D73, S87.nw⟩, S87.md⟩
        · rw [hb83] at hx; cases hx
    · refine If_in (fun hx => ?_) fun hx => ?_
      · rw [if_neg (by simp [hx])] at eR
        intro w89 m89 hl89
        have S89 := S59.rg hn70 m89 (by simp) hl89
        have S89d := S89.md0 (Md_drew w89)
        have H0 : HSt [n70, n2, n1] base w w89.drew p x1 p1 (1 - g.area) none none := ⟨S89d, by omega, (fun n hn => by cases hn), (fun n hn => by cases hn)⟩
        have J : ∀ (x2 : Rf) (p2 : RfS) (w110 w121 : World), RS [n70, n2, n1] base w w110 p x2 p2 → RelD N (oneD l.1 0 (hdB (1 - g.area))).1 x2 → Md [n70] w110 w121 → ∃ (ok : Bool) (d' : Dk) (x' : Rf) (p' : RfS), [Value.bool (oneD l.1 0 (hdB (1 - g.area))).2] = [.bool ok] ∧ [x2.v p2] = [x'.v p'] ∧ RS [n70, n2, n1] base w w121 p x' p' ∧ RelD N d' x' ∧ ((ok = true ∧ rwD d g rs = (d', ⟨1 - g.area, (rawR rs).length, g.ov⟩, 0)) ∨ (ok = false ∧ rwD d g rs = (d', { g with ov := true }, 200))) := fun x2 p2 w110 w121 S110 D110 m121 => by
          refine ⟨_, _, x2, p2, rfl, rfl, S110.up m121 (by simp), D110, ?_⟩
          by_cases c2 : (oneD l.1 0 (hdB (1 - g.area))).2 = false
          · rw [if_pos c2] at eR
            exact .inr ⟨c2, eR⟩
          · rw [if_neg c2] at eR
            exact .inl ⟨by simpa using c2, eR⟩
        refine Bd_e (y := ((1 - g.area : Nat) : Int)) (by rw [ex, IntKind.wrap_i64]; omega) <| Bd_e (y := ((1 - g.area : Nat) : Int)) (by rw [IntKind.wrap_u8]; omega) ?_
        clear eR c211 S89 S89d S59 S53 S8
        repeat' first
          | refine HSt.nw (by assumption) fun n w' hS => ?_
          | refine HSt.mk' (by assumption) fun n w' hS => ?_
          | refine HSt.cb (by assumption) ?_
          | refine HSt.cz (by assumption) ?_
          | refine ⟨_, fun w' _ => ⟨run_cat w' _ _ _ _ (by simp) (by simp)⟩, opStr_in ?_⟩
          | refine HSt.fin (by assumption) d1 (by omega) fun x2 p2 w110 S110 D110 w121 m121 _ => J x2 p2 w110 w121 S110 D110 m121
          | refine ⟨?_, ?_⟩
      · rw [if_pos hx] at eR
        intro w270 m270 hl270
        have S270 := S59.rg hn70 m270 (by simp) hl270
        exact ⟨l.2, l.1, x1, p1, rfl, rfl, S270, d1, .inr ⟨hx, eR⟩⟩
end Fk
set_option linter.unusedVariables false
set_option linter.unusedSimpArgs false
set_option maxRecDepth 100000
set_option maxHeartbeats 4000000
namespace Fk
open Go Go.Proofs Go.RowKit
theorem be3_num {l : List Nat} (h3 : l.length = 3) (hl : ∀ x ∈ l, x < 256) : be (num l) 3 = l := by
  have hn := num_lt l hl
  rw [h3] at hn
  exact num_inj (by rw [be_len, h3]) (be_lt _ _) hl (num_be _ _ hn)
/-- Whether a frame's bytes are as they are reckoned, is whether its sum is. -/
theorem ref_sum {l : List Nat} (hl : ∀ x ∈ l, x < 256) {n : Nat} (hn : num ((l.drop 1).take 3) = n) (h8 : n + 8 ≤ l.length) :
    (l.drop 1).take (7 + n) = tailF ((l.drop 4).take n) ↔ num ((l.drop (4 + n)).take 4) = sumL ((l.drop 1).take (3 + n)) := by
  have hb : ∀ (a b : Nat), ∀ x ∈ (l.drop a).take b, x < 256 := fun a b x hx => hl x (List.mem_of_mem_drop (List.mem_of_mem_take hx))
  have h3 : ((l.drop 1).take 3).length = 3 := by rw [List.length_take, List.length_drop]; omega
  have hr : ((l.drop 4).take n).length = n := by rw [List.length_take, List.length_drop]; omega
  have h4 : ((l.drop (4 + n)).take 4).length = 4 := by rw [List.length_take, List.length_drop]; omega
  have e3 : be n 3 = (l.drop 1).take 3 := by rw [← hn]; exact be3_num h3 (hb _ _)
  have eb : bodyB ((l.drop 4).take n) = (l.drop 1).take (3 + n) := by
    unfold bodyB
    rw [hr, e3, List.take_add, List.drop_drop]
  have e7 : (l.drop 1).take (7 + n) = (l.drop 1).take (3 + n) ++ (l.drop (4 + n)).take 4 := by
    rw [show 7 + n = 3 + n + 4 by omega, List.take_add, List.drop_drop, show 1 + (3 + n) = 4 + n by omega]
  unfold tailF
  rw [eb, e7]
  have hs := num_be (sumL ((l.drop 1).take (3 + n))) 4 (sumL_lt _)
  constructor
  · intro h
    have := List.append_cancel_left h
    rw [this]; exact hs
  · intro h
    congr 1
    exact num_inj (by rw [h4, be_len]) (hb _ _) (be_lt _ _) (by rw [h, hs])
def zLg : Value := .agg #[.slice none 0 0, .slice none 0 0, .int .i64 0, .int .i64 0, .int .i64 0, .bool false]
theorem f137_ok (x : Rf) (p : RfS) (base N : Nat) (d : Dk) (w : World) (hb : base ≤ w.heap.size) (h : RfAt w base x p) (hd : RelD N d x) (h1 : 1 ≤ N) (h2 : N ≤ 65536) :
    Ct Try.prog 137 #[x.v p] w fun v w' => ((N < 3 ∧ v = .tuple #[zLg, .slice none 0 0, .int .i64 2]) ∨ (3 ≤ N ∧ parseL (areaL d (openA d)) = none ∧ v = .tuple #[zLg, .slice none 0 0, .int .i64 210]) ∨
      (3 ≤ N ∧ ∃ rs q a c, parseL (areaL d (openA d)) = some (rs, q) ∧ v = .tuple #[Lg.rv x p ⟨openA d, q, false⟩, .slice a rs.length c, .int .i64 0] ∧ OwnL w' w.heap.size 9 1 tE a c rs)) ∧ Md [] w w' := by
  have hlen := hd.fro.len
  have hhl : half d ≤ 32767 := half_le (by omega)
  have hjz : jsz d = half d * 64 := rfl
  have hsl := hd.slen
  apply f137_in
  intro n1 hn1 n2 hn2
  refine Bd_e rfl <| Bd_in fun b4 hb4 => ?_
  rw [show b4 = false by rw [hb4]; exact beq_eq_false_iff_ne.2 (by omega)]
  refine If_f <| Bd_e rfl <| Bd_in fun b7 hb7 => If_in (fun hc => ?_) fun hc => ?_
  · have : N < 3 := by rw [hb7] at hc; have := of_decide_eq_true hc; omega
    intro w8 m8 hl8
    exact ⟨.inl ⟨this, rfl⟩, (RS.two h hb hn1 hn2 m8 (by simp) hl8).md⟩
  have h3 : 3 ≤ N := by rw [hb7] at hc; have := of_decide_eq_false hc; omega
  intro w9 m9 hl9
  have S9 := RS.two h hb hn1 hn2 m9 (by simp) hl9
  have hA := openA_le d
  have hal := areaL_len (d := d) (by omega) hA
  have h64 : (getB d.bl 0).1.length = 64 := (getB d.bl 0).2.1
  have h064 : 0 < (getB d.bl 0).1.length := by omega
  have hop : (getB d.bl 0).1[0] % 2 = openA d := by unfold openA; rw [headD0 _ h064]
  refine in120 (i := 0) S9.r hd (by omega) S9.lt fun w11 m11 h11 => ⟨⟨by omega, by rw [size_bytesOf, h64]; omega⟩, Bd_e (byteAt_bytesOf (i := 0) (getB d.bl 0).2.2 h064) <| Bd_e (y := (openA d : Int)) (by rw [Int.tmod_eq_emod_of_nonneg (by omega)]; omega) <| Bd_e (y := (openA d : Int)) (by rw [IntKind.wrap_i64]; omega) ?_⟩
  have S11 := S9.md0 m11
  refine (f207_ok x p base N d w11 S11.r hd h1 h2 (openA d) hA).call S11.lt ?_
  rintro v w17 rfl m17
  have S17 := S11.md0 m17
  have hsz17 : w9.heap.size ≤ w17.heap.size := (m11.trans m17).size
  have hbb := areaL_lt d (openA d)
  generalize areaL d (openA d) = b at *
  refine opStr_in ?_
  refine LoopP_in (fun mm us vs w' => ∃ (ja : Option Addr) (jb jc : Nat) (je : Int) (a : Option Addr) (c : Nat) (rs : List (List Nat)) (q : Nat) (ka : Option Addr) (kb kc : Nat) (ke : Option Addr) (kf kg : Nat) (ki kj kk : Int) (km : Bool), us = [.slice ja jb jc, .int .i64 je, .slice a rs.length c, .int .i64 q] ∧ vs = [.agg #[.slice ka kb kc, .slice ke kf kg, .int .i64 ki, .int .i64 kj, .int .i64 kk, .bool km]] ∧ mm = b.length - q ∧ q ≤ b.length ∧ rs.length ≤ q ∧ RS [n2, n1] base w w' p x p ∧ OwnL w' w9.heap.size 9 1 tE a c rs ∧
    w9.heap.size ≤ w'.heap.size ∧ parseL b = (parseL (b.drop q)).map fun z => (rs ++ z.1, q + z.2)) b.length
    ⟨none, 0, 0, 0, none, 0, [], 0, none, 0, 0, none, 0, 0, 0, 0, 0, false, rfl, rfl, rfl, by omega, by simp, S17, OwnL.nil _ _ _ _ _, hsz17, by cases hh : parseL b <;> simp [hh]⟩ ?_
  rintro mm us vs w22 ⟨ja, jb, jc, je, a, c, rs, q, ka, kb, kc, ke, kf, kg, ki, kj, kk, km, rfl, rfl, hmm, hq, hrq, S22, o22, hs22, he⟩
  have hn9 : ∀ x ∈ [n2, n1], x < w9.heap.size := hl9
  have bad : ∀ (w' : World), parseL b = none → (∀ D, Md D w22 w' → (∀ y ∈ D, y ∈ [n2, n1]) → Md [] w w') := fun w' _ D hm hD => (S22.up hm hD).md
  refine opL_in <| opI_in <| opL_in <| opI_in <| opAg_in <| opL_in <| opL_in <| opI_in <| opI_in <| opI_in <| opB_in <| SzIs_in rfl <| Bd_e (y := (b.length : Int)) (by rw [size_bytesOf]) <| Bd_in fun b43 hb43 => ?_
  by_cases hpl : q < b.length
  · have e43 : b43 = true := by rw [hb43]; simp; omega
    subst e43
    have hdl : 0 < (b.drop q).length := by simp; omega
    have hd0 : (b.drop q)[0] = b[q] := by simp
    have hstep := parseL_step (b.drop q) hdl
    rw [hd0, List.drop_drop, List.drop_drop, List.length_drop] at hstep
    have ix : (0 : Int) ≤ (q : Int) ∧ (q : Int) < ((bytesOf b).size : Int) := ⟨by omega, by rw [size_bytesOf]; omega⟩
    refine ⟨fun _ => ix, Bd_e (byteAt_bytesOf hbb hpl) <| Bd_in fun b46 hb46 => Bd_in fun b47 hb47 => If_in (fun hc1 => ?_) fun hc1 => ?_⟩
    · have hne : b[q] ≠ 0 := by rw [hb47, hb46] at hc1; simpa using hc1
      rw [if_neg hne] at hstep
      refine ⟨ix, Bd_e (byteAt_bytesOf hbb hpl) <| Bd_in fun b49 hb49 => Bd_e (y := ((q + 8 : Nat) : Int)) (by rw [IntKind.wrap_i64]; omega) <| Bd_e (y := (b.length : Int)) (by rw [size_bytesOf]) <| Bd_in fun b52 hb52 => Bd_in fun b53 hb53 => ?_⟩
      have e53 : b53 = decide (b[q] ≠ 1 ∨ q + 8 ≥ b.length) := by
        rw [hb53, hb49, hb52, Bool.eq_iff_iff]
        by_cases z : b[q] = 1
        · simp [z]; omega
        · have : ¬ ((b[q] : Nat) : Int) = 1 := by omega
          simp [z, this]
      by_cases q1 : b[q] ≠ 1 ∨ q + 8 ≥ b.length
      · rw [show b53 = true by rw [e53]; exact decide_eq_true q1]
        refine If_t fun w54 m54 hl54 => ?_
        have hnone : parseL b = none := by
          rw [he, hstep]
          by_cases z : b[q] ≠ 1 ∨ b.length - q < 4
          · rw [if_pos z]; rfl
          · rw [if_neg z]
            by_cases z2 : num ((b.drop (q + 1)).take 3) < 1 ∨ num ((b.drop (q + 1)).take 3) > 1048576 ∨ b.length - q < num ((b.drop (q + 1)).take 3) + 8
            · rw [if_pos z2]; rfl
            · omega
        exact ⟨.inr (.inl ⟨h3, hnone, rfl⟩), (S22.up m54 (by simp)).md⟩
      rw [show b53 = false by rw [e53]; exact decide_eq_false q1]
      have h8' : q + 8 < b.length := by omega
      rw [if_neg (by omega)] at hstep
      have hw3 : ((b.drop (q + 1)).take 3).length = 3 := by rw [List.length_take, List.length_drop]; omega
      have hw3b : ∀ z ∈ (b.drop (q + 1)).take 3, z < 256 := fun z hz => hbb z (List.mem_of_mem_drop (List.mem_of_mem_take hz))
      have hnl := num_lt _ hw3b
      rw [hw3] at hnl
      refine If_f <| Bd_e (y := ((q + 1 : Nat) : Int)) (by rw [IntKind.wrap_i64]; omega) <| Bd_e (y := ((q + 4 : Nat) : Int)) (by rw [IntKind.wrap_i64]; omega) <| RunW_in0 (cut_lh w22 b (q + 1) (q + 4) (by omega) (by omega)) <| opStr_in ?_
      rw [show q + 4 - (q + 1) = 3 by omega]
      refine (f208_ok _ hw3b (by omega) w22).call S22.lt ?_
      rintro v w61 rfl m61
      have href := fun n hn h8 => ref_sum (l := b.drop q) (n := n) (fun z hz => hbb z (List.mem_of_mem_drop hz)) hn h8
      rw [List.drop_drop] at href
      have hlenq : (b.drop q).length = b.length - q := List.length_drop
      rw [hlenq] at href
      generalize hNN : num ((b.drop (q + 1)).take 3) = n at *
      have hrefn := href n rfl
      clear href
      have S61 := S22.md0 m61
      have S61d := S61.md0 (Md_drew w61)
      refine opI_in <| Bd_e (y := (n : Int)) (by rw [IntKind.wrap_i64]; omega) ⟨fun _ => True, trivial, Bd_in fun b65 hb65 => Bd_in fun b66 hb66 => Bd_in fun b67 hb67 => Bd_e (y := ((q + 8 : Nat) : Int)) (by rw [IntKind.wrap_i64]; omega) <| Bd_e (y := ((q + 8 + n : Nat) : Int)) (by rw [IntKind.wrap_i64]; omega) <| Bd_e (y := (b.length : Int)) (by rw [size_bytesOf]) <| Bd_in fun b71 hb71 => Bd_in fun b72 hb72 => Bd_e (y := ((q + 1 : Nat) : Int)) (by rw [IntKind.wrap_i64]; omega) <| Bd_e (y := ((q + 8 : Nat) : Int)) (by rw [IntKind.wrap_i64]; omega) <| Bd_e (y := ((q + 8 + n : Nat) : Int)) (by rw [IntKind.wrap_i64]; omega) ?_⟩
      have e72 : b72 = decide (n < 1 ∨ n > 1048576 ∨ b.length - q < n + 8) := by
        have e65 : b65 = decide (n < 1) := by rw [hb65]; apply decide_eq_decide.2; omega
        have e66 : b66 = decide (n > 1048576) := by rw [hb66]; apply decide_eq_decide.2; omega
        have e71 : b71 = decide (b.length - q < n + 8) := by rw [hb71]; apply decide_eq_decide.2; omega
        rw [hb72, hb67, e65, e66, e71, Bool.eq_iff_iff]
        by_cases z1 : n < 1
        · simp [z1]
        · by_cases z2 : n > 1048576
          · simp [z1, z2]
          · simp [z1, z2]
      by_cases q2 : n < 1 ∨ n > 1048576 ∨ b.length - q < n + 8
      · rw [show b72 = true by rw [e72]; exact decide_eq_true q2]
        rw [if_pos q2] at hstep
        refine ⟨.string ByteArray.empty, (fun hh => by cases hh), opStr_in <| Bd_e (y := ((q + 4 : Nat) : Int)) (by rw [IntKind.wrap_i64]; omega) <| Bd_e (y := ((q + 4 : Nat) : Int)) (by rw [IntKind.wrap_i64]; omega) <| Bd_e (y := ((q + 4 + n : Nat) : Int)) (by rw [IntKind.wrap_i64]; omega) ⟨.string ByteArray.empty, (fun hh => by cases hh), opStr_in <| Gd_f ⟨trivial, Bd_in fun b95 _ => Bd_e rfl <| If_t fun w97 m97 hl97 => ?_⟩⟩⟩
        exact ⟨.inr (.inl ⟨h3, by rw [he, hstep]; rfl, rfl⟩), (S61d.up m97 (by simp)).md⟩
      rw [show b72 = false by rw [e72]; exact decide_eq_false q2]
      rw [if_neg q2] at hstep
      have h8 : q + n + 8 ≤ b.length := by omega
      have hrefn := hrefn (by omega)
      rw [List.drop_drop, List.drop_drop] at hrefn
      have hr4 : ((b.drop (q + 4)).take n).length = n := by rw [List.length_take, List.length_drop]; omega
      have hb4 : ∀ z ∈ (b.drop (q + 4)).take n, z < 256 := fun z hz => hbb z (List.mem_of_mem_drop (List.mem_of_mem_take hz))
      refine ⟨_, fun _ w' _ => ⟨cut_lh w' b (q + 1) (q + 8 + n) (by omega) (by omega)⟩, opStr_in <| Bd_e (y := ((q + 4 : Nat) : Int)) (by rw [IntKind.wrap_i64]; omega) <| Bd_e (y := ((q + 4 : Nat) : Int)) (by rw [IntKind.wrap_i64]; omega) <| Bd_e (y := ((q + 4 + n : Nat) : Int)) (by rw [IntKind.wrap_i64]; omega) ⟨_, fun _ w' _ => ⟨cut_lh w' b (q + 4) (q + 4 + n) (by omega) (by omega)⟩, opStr_in ?_⟩⟩
      rw [show q + 8 + n - (q + 1) = 7 + n by omega, show q + 4 + n - (q + 4) = n by omega]
      refine Gd_t <| (f209_ok _ hb4 (by omega) w61.drew).call S61d.lt ?_
      rintro v w94 rfl m94
      have S94 := S61d.md0 m94
      have htb : ∀ z ∈ tailF ((b.drop (q + 4)).take n), z < 256 := fun z hz => frm_lt 0 _ (by omega) hb4 z (by rw [frm_tail]; exact List.mem_cons_of_mem _ hz)
      refine opStr_in ⟨trivial, Bd_e (tstr_ne (fun z hz => hbb z (List.mem_of_mem_drop (List.mem_of_mem_take hz))) htb) <| Bd_e rfl ?_⟩
      by_cases q3 : num ((b.drop (q + (4 + n))).take 4) = sumL ((b.drop (q + 1)).take (3 + n))
      · have hq3 := hrefn.2 q3
        rw [show decide ((b.drop (q + 1)).take (7 + n) ≠ tailF ((b.drop (q + 4)).take n)) = false by simpa using hq3]
        rw [if_neg (by simpa using q3)] at hstep
        refine If_f <| Bd_e (y := ((q + 4 : Nat) : Int)) (by rw [IntKind.wrap_i64]; omega) <| Bd_e (y := ((q + 4 : Nat) : Int)) (by rw [IntKind.wrap_i64]; omega) <| Bd_e (y := ((q + 4 + n : Nat) : Int)) (by rw [IntKind.wrap_i64]; omega) <| RunW_in0 (cut_lh w94 b (q + 4) (q + 4 + n) (by omega) (by omega)) <| opStr_in ?_
        rw [show q + 4 + n - (q + 4) = n by omega]
        have m22_94 := (m61.trans (Md_drew w61)).trans m94
        have o94 := o22.md m22_94
        refine app_one rowT55 enctE ((b.drop (q + 4)).take n) rfl o94 (Nat.le_trans hs22 m22_94.size) S94.lt (fun y hy A hA e => by have := (o94.lt hA).1; have := hn9 y hy; omega) (by simp [maxLen]; omega) (by omega) fun a' c' w107 o107 m107 hA107 => opL_in <| Bd_e (y := ((q + 8 : Nat) : Int)) (by rw [IntKind.wrap_i64]; omega) <| Bd_e (y := ((q + 8 + n : Nat) : Int)) (by rw [IntKind.wrap_i64]; omega) ?_
        have S107 : RS [n2, n1] base w w107 p x p := by
          refine ⟨S94.r.mdD m107 (fun y hy B hB e => ?_) (fun y hy B hB e => ?_), S94.bs, S94.md.old m107 (fun y hy => ?_), fun y hy => Nat.lt_of_lt_of_le (S94.lt y hy) m107.size, S94.lo, S94.a, S94.b, S94.nw⟩
          · obtain ⟨E, hE, e2⟩ := mem_blk hy
            have h1 := (o94.lt hE).1
            have h2 := (S9.r.sf.lt hB).2
            omega
          · obtain ⟨E, hE, e2⟩ := mem_blk hy
            have h1 := (o94.lt hE).1
            have h2 := (S9.r.pe.lt hB).2
            omega
          · obtain ⟨E, hE, rfl⟩ := mem_blk hy
            have h1 := (o94.lt hE).1
            have := S9.md.size
            omega
        refine ⟨b.length - (q + 8 + n), by omega, ja, jb, jc, je, a', c', rs ++ [(b.drop (q + 4)).take n], q + 8 + n, ka, kb, kc, ke, kf, kg, ki, kj, kk, km, rfl, rfl, rfl, by omega, by simp; omega, S107, o107, Nat.le_trans hs22 (Nat.le_trans m22_94.size m107.size), ?_⟩
        rw [he, hstep, List.drop_drop, List.drop_drop, show q + (n + 8) = q + 8 + n by omega]
        cases parseL (b.drop (q + 8 + n)) with
        | none => rfl
        | some z => simp; omega
      · have hq3 : ¬ (b.drop (q + 1)).take (7 + n) = tailF ((b.drop (q + 4)).take n) := fun hh => q3 (hrefn.1 hh)
        rw [show decide ((b.drop (q + 1)).take (7 + n) ≠ tailF ((b.drop (q + 4)).take n)) = true by simpa using hq3]
        rw [if_pos q3] at hstep
        refine If_t fun w97 m97 hl97 => ?_
        exact ⟨.inr (.inl ⟨h3, by rw [he, hstep]; rfl, rfl⟩), (S94.up m97 (by simp)).md⟩
    · have h0 : b[q] = 0 := by rw [hb47, hb46] at hc1; simp at hc1; omega
      rw [if_pos h0] at hstep
      intro w113 m113 hl113
      have o113 := o22.mdD m113 (fun B hB hx => by
        have h1 := (o22.lt hB).1
        have h2 := hn9 n2 (by simp)
        simp at hx; omega)
      exact ⟨.inr (.inr ⟨h3, rs, q, a, c, by rw [he, hstep]; simp, rfl, o113.down S9.md.size⟩), (S22.up m113 (by simp)).md⟩
  · have e43 : b43 = false := by rw [hb43]; simp; omega
    subst e43
    have hqe : q = b.length := by omega
    refine ⟨(fun hh => by cases hh), Bd_in fun x45 _ => Bd_in fun b46 _ => Bd_e rfl <| If_f fun w113 m113 hl113 => ?_⟩
    have o113 := o22.mdD m113 (fun B hB hx => by
      have h1 := (o22.lt hB).1
      have h2 := hn9 n2 (by simp)
      simp at hx; omega)
    refine ⟨.inr (.inr ⟨h3, rs, q, a, c, ?_, rfl, o113.down S9.md.size⟩), (S22.up m113 (by simp)).md⟩
    rw [he, List.drop_of_length_le (by omega), parseL_none_end]
    simp
end Fk
set_option linter.unusedVariables false
set_option linter.unusedSimpArgs false
set_option maxRecDepth 100000
set_option maxHeartbeats 4000000
namespace Fk
open Go Go.Proofs Go.RowKit
def SS (N : Nat) (bl : List Bk) : Prop := bl.length = N ∧ ∃ a rs, Sf bl a rs ∧ OkR rs
structure JW (N : Nat) (d : Dk) (g : Lg) : Prop where
  len : d.bl.length = N
  cs : CS d (SS N)
  live : g.ov = false → ∃ rs, JG d g rs
  ha : g.area ≤ 1
  le : g.pos ≤ jsz d
theorem rwD_len {d : Dk} {g : Lg} {xs : List (List Nat)} (h1 : 1 ≤ d.bl.length) (hl : d.bl.length ≤ 65536) (ha : g.area ≤ 1) : (rwD d g xs).1.bl.length = d.bl.length ∧ (rwD d g xs).1.pd.length ≤ d.pd.length + 32768 := by
  unfold rwD
  split
  · exact ⟨rfl, by simp⟩
  · rename_i hm
    have hm0 : mayD g (jsz d : Int) (xs.map List.length) = 0 := by simpa using hm
    obtain ⟨_, _, hs⟩ := may_all (by omega) hm0
    have hL := layD_len (b := rawR xs) h1 hl (show 1 - g.area ≤ 1 by omega) (p := 0) (by rw [rawR_len]; omega)
    split
    · exact ⟨hL.1, by simp only; omega⟩
    · have h2 := oneD_len (layD d (1 - g.area) 0 (rawR xs)).1 0 (hdB (1 - g.area))
      split
      · exact ⟨by rw [h2.1, hL.1], by simp only; omega⟩
      · exact ⟨by rw [h2.1, hL.1], by simp only; omega⟩
theorem jsz_len {d e : Dk} (h : e.bl.length = d.bl.length) : jsz e = jsz d := by unfold jsz half; rw [h]
theorem JW.app {N : Nat} {d : Dk} {g : Lg} (h : JW N d g) (h3 : 3 ≤ N) (hN : N ≤ 65536) {r : List Nat} (hr : ∀ x ∈ r, x < 256) : JW N (apD d g r).1 (apD d g r).2.1 := by
  have h1 : 1 ≤ d.bl.length := by rw [h.len]; omega
  have hl := apD_len (r := r) h1 (by rw [h.len]; exact hN) h.ha h.le
  cases ho : g.ov with
  | true =>
    have e : apD d g r = (d, g, 200) := by
      have em : mayD g ((jsz d : Int) - g.pos) [r.length] = 200 := by unfold mayD; rw [if_pos ho]
      unfold apD; rw [if_pos (by rw [em]; decide), em]
    rw [e]; exact h
  | false =>
    obtain ⟨rs, G⟩ := h.live ho
    by_cases hb : r.length < 1 ∨ r.length > 1048576
    · have hm := may_cases ho r.length h.le
      rw [if_pos hb] at hm
      have e : apD d g r = (d, g, 3) := by unfold apD; rw [if_pos (by rw [hm]; decide), hm]
      rw [e]; exact h
    · have ok : OkR (rs ++ [r]) := fun x hx => by
        rcases List.mem_append.1 hx with hx | hx
        · exact G.ok x hx
        · simp at hx; subst hx; exact ⟨by omega, by omega, hr⟩
      have hg := apD_gen G (by rw [h.len]; exact hN) h.cs (fun bl hb hs => ⟨by rw [hb]; exact h.len, _, _, hs, G.ok⟩) (fun bl hb hs => ⟨by rw [hb]; exact h.len, _, _, hs, ok⟩) hr
      rcases hg with ⟨q, _⟩ | ⟨_, _, e⟩ | ⟨_, q2, q3, q4, q5, q6, q7, q8⟩ | ⟨_, _, q3, q4, q5, q6, q7⟩
      · exact absurd q hb
      · rw [e]; exact h
      · refine ⟨by rw [q6]; exact h.len, CS.flat q5 ⟨by rw [q6]; exact h.len, _, _, q4.sf, ok⟩, fun _ => ⟨_, q4⟩, q4.sf.ha, q4.le⟩
      · refine ⟨by rw [q7]; exact h.len, q6, (fun hh => by rw [q4] at hh; cases hh), by rw [q4]; exact h.ha, ?_⟩
        rw [q4, jsz_len q7]; exact h.le
theorem JW.rw {N : Nat} {d : Dk} {g : Lg} (h : JW N d g) (h3 : 3 ≤ N) (hN : N ≤ 65536) {xs : List (List Nat)} (hx : ∀ r ∈ xs, ∀ x ∈ r, x < 256) : JW N (rwD d g xs).1 (rwD d g xs).2.1 := by
  cases ho : g.ov with
  | true =>
    have e : rwD d g xs = (d, g, 200) := by
      have em : mayD g (jsz d : Int) (xs.map List.length) = 200 := by unfold mayD; rw [if_pos ho]
      unfold rwD; rw [if_pos (by rw [em]; decide), em]
    rw [e]; exact h
  | false =>
    obtain ⟨rs, G⟩ := h.live ho
    by_cases hb : ∃ r ∈ xs, r.length < 1 ∨ r.length > 1048576
    · obtain ⟨r, hr, hl⟩ := hb
      have em : mayD g (jsz d : Int) (xs.map List.length) = 3 := by
        unfold mayD; rw [if_neg (by simp [ho]), mayF_bad _ _ _ ⟨r.length, List.mem_map.2 ⟨r, hr, rfl⟩, hl⟩]
      have e : rwD d g xs = (d, g, 3) := by unfold rwD; rw [if_pos (by rw [em]; decide), em]
      rw [e]; exact h
    · have ok : OkR xs := fun r hr => by
        have : ¬ (r.length < 1 ∨ r.length > 1048576) := fun hh => hb ⟨r, hr, hh⟩
        exact ⟨by omega, by omega, hx r hr⟩
      have hg := rwD_gen G h.len hN h.cs (fun bl hb hs => ⟨hb, _, _, hs, G.ok⟩) (fun bl hb hs => ⟨hb, _, _, hs, ok⟩) ok
      rcases hg with ⟨_, e⟩ | ⟨_, _, q3, q4⟩ | ⟨_, _, q3, q4, q5⟩
      · rw [e]; exact h
      · exact ⟨q3.len, CS.flat q3.pd ⟨q3.len, _, _, q3.G.sf, ok⟩, fun _ => ⟨_, q3.G⟩, q3.G.sf.ha, q3.G.le⟩
      · refine ⟨q5, q4, (fun hh => by rw [q3] at hh; cases hh), by rw [q3]; exact h.ha, ?_⟩
        rw [q3, jsz_len (d := d) (by rw [q5, h.len])]; exact h.le
theorem JW.arm {N : Nat} {d : Dk} {g : Lg} (h : JW N d g) (x : Int) : JW N (d.arm x) g :=
  ⟨h.len, h.cs.same rfl rfl, fun ho => by
    obtain ⟨rs, G⟩ := h.live ho
    exact ⟨rs, G.sf, G.pos, G.ok, G.ov⟩, h.ha, h.le⟩
/-- A disk that may be opened. -/
theorem JW.opened {N : Nat} {d : Dk} (h : CS d (SS N)) (h3 : 3 ≤ N) : ∃ rs q, parseL (areaL d (openA d)) = some (rs, q) ∧ JW N d ⟨openA d, q, false⟩ ∧ OkR rs := by
  obtain ⟨hl, a, rs, hs, ok⟩ := h.now
  have ho : openA d = a := hs.op
  refine ⟨rs, (rawR rs).length, ?_, ⟨hl, h, fun _ => ⟨rs, ?_, rfl, ok, rfl⟩, openA_le d, ?_⟩, ok⟩
  · rw [areaL_B, openA_B]; exact sf_parse hs ok
  · show Sf d.bl (openA d) rs
    rw [ho]; exact hs
  · have := hs.fit
    rw [jsz_B]; exact this
theorem JW.crash {N : Nat} {d : Dk} {g : Lg} (h : JW N d g) (k t : Int) : CS (d.crash k t) (SS N) := CS.flat rfl (h.cs.crash k t)
theorem JW.new {N : Nat} (h3 : 3 ≤ N) : CS (newDk N) (SS N) := CS.flat rfl ⟨newDk_len N, _, _, (JG.new h3).sf, fun r hr => by simp at hr⟩
structure TJ (L : List Nat) (w0 w : World) (n : Nat) (d : Dk) (F : List Nat) (ln : Nat) (g : Lg) (x : Rf) (p : RfS) : Prop where
  js : JS w0 w n d F ln g
  r : RfAt w w0.heap.size x p
  sa : ∀ A, p.a = some A → A.block ∉ ln :: F
  sb : ∀ A, p.b = some A → A.block ∉ ln :: F
  lf : LF L w (ln :: F)
  lo : ∀ b ∈ L, w0.heap.size ≤ b
  na : ∀ b ∈ L, ∀ A, p.a = some A → A.block ≠ b
  nb : ∀ b ∈ L, ∀ A, p.b = some A → A.block ≠ b
section
variable {L : List Nat} {w0 w : World} {n : Nat} {d : Dk} {F : List Nat} {ln : Nat} {g : Lg} {x : Rf} {p : RfS}
theorem TJ.lt (T : TJ L w0 w n d F ln g x p) : ∀ b ∈ L, b < w.heap.size := fun b hb => (T.lf b hb).1
theorem TJ.fup (T : TJ L w0 w n d F ln g x p) : ∀ b ∈ ln :: F, b < w.heap.size := fun b hb => by
  rcases List.mem_cons.1 hb with rfl | hb
  · exact T.js.blk.lt
  · exact T.js.ds.dk.lt b hb
theorem TJ.md0 {w' : World} (T : TJ L w0 w n d F ln g x p) (hm : Md [] w w') : TJ L w0 w' n d F ln g x p := ⟨T.js.md0 hm, T.r.md hm, T.sa, T.sb, T.lf.md hm.size, T.lo, T.na, T.nb⟩
theorem TJ.jd {w' : World} {d' : Dk} {F' : List Nat} {g' : Lg} (T : TJ L w0 w n d F ln g x p) (S : JS w0 w' n d' F' ln g') (hm : Md (ln :: F) w w') (hf : Fr w F F') : TJ L w0 w' n d' F' ln g' x p :=
  ⟨S, T.r.mdD hm (fun b hb A hA e => T.sa A hA (by rw [e]; exact hb)) (fun b hb A hA e => T.sb A hA (by rw [e]; exact hb)), fun A hA hx => by
    rcases frc ln hf _ hx with h | h
    · exact T.sa A hA h
    · have := (T.r.sf.lt hA).2; omega, fun A hA hx => by
    rcases frc ln hf _ hx with h | h
    · exact T.sb A hA h
    · have := (T.r.pe.lt hA).2; omega, T.lf.fr (frc ln hf) hm.size, T.lo, T.na, T.nb⟩
theorem TJ.ref {w' : World} {x' : Rf} {p' : RfS} (T : TJ L w0 w n d F ln g x p) (hm : Md [] w w') (r : RfAt w' w0.heap.size x' p') (hn : NewS w p p') : TJ L w0 w' n d F ln g x' p' :=
  ⟨T.js.md0 hm, r, fun A hA hx => by
    rcases hn.1 A hA with h | h
    · exact T.sa A h hx
    · have := T.fup _ hx; omega, fun A hA hx => by
    rcases hn.2 A hA with h | h
    · exact T.sb A h hx
    · have := T.fup _ hx; omega, T.lf.md hm.size, T.lo, fun b hb A hA e => by
    rcases hn.1 A hA with h | h
    · exact T.na b hb A h e
    · have := T.lt b hb; omega, fun b hb A hA e => by
    rcases hn.2 A hA with h | h
    · exact T.nb b hb A h e
    · have := T.lt b hb; omega⟩
theorem TJ.other {w' : World} {G : List Nat} (T : TJ L w0 w n d F ln g x p) (hm : Md G w w') (h1 : ∀ b ∈ G, b ∉ ln :: F) (h2 : ∀ b ∈ G, w0.heap.size ≤ b) (h3 : ∀ b ∈ G, ∀ A, p.a = some A → A.block ≠ b) (h4 : ∀ b ∈ G, ∀ A, p.b = some A → A.block ≠ b) : TJ L w0 w' n d F ln g x p :=
  ⟨T.js.other hm (fun b hb => ⟨T.fup b hb, fun hd => h1 b hd hb⟩) h2, T.r.mdD hm h3 h4, T.sa, T.sb, T.lf.md hm.size, T.lo, T.na, T.nb⟩
theorem TJ.up {w' : World} {D : List Nat} (T : TJ L w0 w n d F ln g x p) (hm : Md D w w') (hD : ∀ b ∈ D, b ∈ L) : TJ L w0 w' n d F ln g x p :=
  T.other hm (fun b hb => (T.lf b (hD b hb)).2) (fun b hb => T.lo b (hD b hb)) (fun b hb => T.na b (hD b hb)) (fun b hb => T.nb b (hD b hb))
theorem TJ.rg {w' : World} {k : Nat} {D : List Nat} (T : TJ L w0 w n d F ln g x p) (hk : w.heap.size ≤ k) (hm : Md D w w') (hD : ∀ b ∈ D, b = k ∨ b ∈ L) (hl : ∀ b ∈ k :: L, b < w'.heap.size) : TJ (k :: L) w0 w' n d F ln g x p := by
  have h1 : k ∉ ln :: F := fun h => by have := T.fup _ h; omega
  have h2 : w0.heap.size ≤ k := Nat.le_trans T.js.ds.md.size hk
  have h3 : ∀ A, p.a = some A → A.block ≠ k := fun A hA => by have := (T.r.sf.lt hA).2; omega
  have h4 : ∀ A, p.b = some A → A.block ≠ k := fun A hA => by have := (T.r.pe.lt hA).2; omega
  have T' := T.other hm (fun b hb => by rcases hD b hb with rfl | hb; exact h1; exact (T.lf b hb).2) (fun b hb => by rcases hD b hb with rfl | hb; exact h2; exact T.lo b hb) (fun b hb => by rcases hD b hb with rfl | hb; exact h3; exact T.na b hb) (fun b hb => by rcases hD b hb with rfl | hb; exact h4; exact T.nb b hb)
  refine ⟨T'.js, T'.r, T'.sa, T'.sb, fun b hb => ⟨hl b hb, ?_⟩, fun b hb => ?_, fun b hb => ?_, fun b hb => ?_⟩
  · rcases List.mem_cons.1 hb with rfl | hb
    · exact h1
    · exact (T.lf b hb).2
  · rcases List.mem_cons.1 hb with rfl | hb
    · exact h2
    · exact T.lo b hb
  · rcases List.mem_cons.1 hb with rfl | hb
    · exact h3
    · exact T.na b hb
  · rcases List.mem_cons.1 hb with rfl | hb
    · exact h4
    · exact T.nb b hb
theorem TJ.sub {L' : List Nat} (T : TJ L w0 w n d F ln g x p) (h : ∀ b ∈ L', b ∈ L) : TJ L' w0 w n d F ln g x p := ⟨T.js, T.r, T.sa, T.sb, fun b hb => T.lf b (h b hb), fun b hb => T.lo b (h b hb), fun b hb => T.na b (h b hb), fun b hb => T.nb b (h b hb)⟩
/-- Another log upon the same disk. -/
theorem TJ.log {w' : World} {l2 : Nat} {g2 : Lg} (T : TJ L w0 w n d F ln g x p) (S : JS w0 w' n d F l2 g2) (h2 : w.heap.size ≤ l2) (hm : Md [] w w') : TJ L w0 w' n d F l2 g2 x p := by
  refine ⟨S, T.r.md hm, fun A hA hx => ?_, fun A hA hx => ?_, fun b hb => ⟨Nat.lt_of_lt_of_le (T.lt b hb) hm.size, fun hx => ?_⟩, T.lo, T.na, T.nb⟩
  · rcases List.mem_cons.1 hx with h | h
    · have := (T.r.sf.lt hA).2; omega
    · exact T.sa A hA (List.mem_cons_of_mem _ h)
  · rcases List.mem_cons.1 hx with h | h
    · have := (T.r.pe.lt hA).2; omega
    · exact T.sb A hA (List.mem_cons_of_mem _ h)
  · rcases List.mem_cons.1 hx with h | h
    · have := T.lt b hb; omega
    · exact (T.lf b hb).2 (List.mem_cons_of_mem _ h)
end
def PB (w : World) (bx tp : Nat) (a : Option Addr) (c : Nat) (ls : List Nat) : Prop :=
  ∃ ps : List SH, OwnL w bx 51 1 sE a c ps ∧ ps.length = ls.length ∧ ∀ (i : Nat) (p : SH) (l : Nat), ps[i]? = some p → ls[i]? = some l → p.2.1 = l ∧ (∃ C r, r.length = l ∧ OwnL w bx 5 1 b1 p.1 C r ∧ ∀ x ∈ r, x < 256) ∧ Apt a p.1 ∧ ∀ A, p.1 = some A → A.block < tp
theorem RRo.pb {w : World} {bx : Nat} {a : Option Addr} {c : Nat} {rs : List (List Nat)} (h : RRo w bx a c rs) (hb : ∀ r ∈ rs, ∀ x ∈ r, x < 256) : PB w bx w.heap.size a c (rs.map List.length) := by
  obtain ⟨ps, h1, h2, h3⟩ := h
  refine ⟨ps, h1, by simpa using h2, fun i p l hp hl => ?_⟩
  rw [List.getElem?_map] at hl
  cases hr : rs[i]? with
  | none => rw [hr] at hl; cases hl
  | some r =>
    rw [hr] at hl
    simp at hl
    subst hl
    obtain ⟨q1, ⟨C, q2⟩, q3⟩ := h3 i p r hp hr
    exact ⟨q1, ⟨C, r, rfl, q2, hb r (List.mem_of_getElem? hr)⟩, q3, fun A hA => (q2.lt hA).2⟩
theorem PB.md {w w' : World} {bx tp : Nat} {a : Option Addr} {c : Nat} {ls : List Nat} (h : PB w bx tp a c ls) (hm : Md [] w w') : PB w' bx tp a c ls := by
  obtain ⟨ps, h1, h2, h3⟩ := h
  exact ⟨ps, h1.md hm, h2, fun i p l hp hl => by
    obtain ⟨q1, ⟨C, r, q2, q3, q4⟩, q5⟩ := h3 i p l hp hl
    exact ⟨q1, ⟨C, r, q2, q3.md hm, q4⟩, q5⟩⟩
theorem PB.mdD {w w' : World} {D : List Nat} {bx tp : Nat} {a : Option Addr} {c : Nat} {ls : List Nat} (h : PB w bx tp a c ls) (hm : Md D w w') (hD : ∀ d ∈ D, d < bx) : PB w' bx tp a c ls := by
  obtain ⟨ps, h1, h2, h3⟩ := h
  have k : ∀ {α : Type} {e : TypeId} {size : Nat} {enc : α → List Value} {a : Option Addr} {c : Nat} {l : List α}, OwnL w bx e size enc a c l → OwnL w' bx e size enc a c l := fun o => o.mdD hm fun A hA hd => by
    have := (o.lt hA).1; have := hD _ hd; omega
  exact ⟨ps, k h1, h2, fun i p l hp hl => by
    obtain ⟨q1, ⟨C, r, q2, q3, q4⟩, q5⟩ := h3 i p l hp hl
    exact ⟨q1, ⟨C, r, q2, k q3, q4⟩, q5⟩⟩
theorem own_base {α : Type} {w : World} {base : Nat} {e : TypeId} {size : Nat} {enc : α → List Value} {a : Option Addr} {c : Nat} {l : List α} (h : OwnL w base e size enc a c l) : ∀ A, a = some A → A = ⟨A.block, 0, none⟩ := fun A hA => by
  rcases h.2 with ⟨hv, _⟩ | ⟨g, cap, cur, hv, _⟩
  · simp only [Value.slice.injEq] at hv; rw [hv.1] at hA; cases hA
  · simp only [Value.slice.injEq] at hv; rw [hv.1] at hA; cases hA; rfl
theorem PB.bump {w : World} {bx tp : Nat} {a : Option Addr} {c : Nat} {ls : List Nat} (h : PB w bx tp a c ls) {i : Nat} (hi : i < ls.length) (hall : ∀ l ∈ ls, 1 ≤ l) :
    IxOk (i : Int) ls.length a ∧ ∃ (p : SH) (v : Nat), v < 256 ∧ (∀ {K : Value → Prop}, K (.slice p.1 p.2.1 p.2.2) → Ld w (adAt a (i : Int) 1) K) ∧ IxOk (0 : Int) p.2.1 p.1 ∧ (∀ {K : Value → Prop}, K (.int .u8 (v : Int)) → Ld w (adAt p.1 (0 : Int) 1) K) ∧
      ∃ B : Nat, (adAt p.1 (0 : Int) 1).block = B ∧ bx ≤ B ∧ B < tp ∧ Wr w (adAt p.1 (0 : Int) 1) 1 ∧ ∀ z : Nat, z < 256 → PB (setCells w (adAt p.1 (0 : Int) 1) 0 [.int .u8 (z : Int)]) bx tp a c ls ∧ Md [B] w (setCells w (adAt p.1 (0 : Int) 1) 0 [.int .u8 (z : Int)]) := by
  have h1 := hall _ (List.getElem_mem hi)
  obtain ⟨ps, o, hl, hp⟩ := h
  have hip : i < ps.length := by omega
  obtain ⟨q1, ⟨C, r, q2, q3, q4⟩, q5, q6⟩ := hp i ps[i] ls[i] (List.getElem?_eq_getElem hip) (List.getElem?_eq_getElem hi)
  have hr0 : 0 < r.length := by omega
  have hix := (o.row encsE).ix hip
  rw [hl] at hix
  have hix0 := (q3.row encb1).ix hr0
  rw [q2, ← q1] at hix0
  refine ⟨hix, ps[i], r[0], q4 _ (List.getElem_mem hr0), fun k => (o.row encsE).ld1 hip rfl k, hix0, fun k => (q3.row encb1).ld1 hr0 rfl k, ?_⟩
  obtain ⟨A, hA, p1, p2, p3, p4, p5, p6⟩ := q3.put encb1 (by omega) hr0 0
  refine ⟨A.block, p3, p2, q6 A hA, p4, fun z hz => ?_⟩
  obtain ⟨A', hA', _, _, _, _, p5', p6'⟩ := q3.put encb1 (by omega) hr0 z
  rw [hA] at hA'
  cases hA'
  have p6'' : Md [A.block] w (setCells w (adAt (ps[i]).1 (0 : Int) 1) 0 [.int .u8 (z : Int)]) := p6'
  refine ⟨⟨ps, o.mdD p6'' (fun B hB hx => ?_), hl, fun j p l hj hlj => ?_⟩, p6''⟩
  · simp at hx; exact q5 B A hB hA hx
  · obtain ⟨u1, ⟨C2, r2, u2, u3, u4⟩, u5⟩ := hp j p l hj hlj
    refine ⟨u1, ?_, u5⟩
    by_cases hs : p.1 = (ps[i]).1
    · have hr2 : 0 < r2.length := by have := hall l (List.mem_of_getElem? hlj); omega
      obtain ⟨A3, _, _, _, _, _, v5, _⟩ := u3.put encb1 (by omega) hr2 z
      rw [hs] at v5 ⊢
      exact ⟨C2, _, by rw [List.length_set]; exact u2, v5, fun x hx => by
        rcases List.mem_or_eq_of_mem_set hx with h | h
        · exact u4 x h
        · omega⟩
    · refine ⟨C2, r2, u2, u3.mdD p6'' (fun B hB hx => ?_), u4⟩
      simp at hx
      have e1 := own_base q3 A hA
      have e2 := own_base u3 B hB
      exact hs (by rw [hB, hA, e1, e2, hx])
end Fk
set_option linter.unusedVariables false
set_option linter.unusedSimpArgs false
set_option maxRecDepth 100000
set_option maxHeartbeats 4000000
namespace Fk
open Go Go.Proofs Go.RowKit
abbrev KL := Option Addr → Nat → Nat → Option Addr → Nat → Nat → Int → Int → Int → Bool → Int → World → Prop
section
variable {L : List Nat} {w0 w : World} {n : Nat} {d : Dk} {F : List Nat} {ln : Nat} {g : Lg} {x : Rf} {p : RfS} {N : Nat}
theorem TJ.w141 (T : TJ L w0 w n d F ln g x p) {dR : Dk} {gR : Lg} (hd : RelD N dR x) (h1 : 3 ≤ N) (h2 : N ≤ 65536) (hpl : dR.pd.length < 2 ^ 26) (ha : gR.area ≤ 1) (hp : gR.pos ≤ jsz dR) {r : List Nat} (hr : ∀ z ∈ r, z < 256) (hrl : r.length ≤ 2 ^ 21) {K : KL}
    (k : ∀ x' p' w', TJ L w0 w' n d F ln g x' p' → RelD N (apD dR gR r).1 x' → K p'.a x'.sf.length p'.c p'.b x'.pe.length p'.e x'.rf (apD dR gR r).2.1.area (apD dR gR r).2.1.pos (apD dR gR r).2.1.ov (apD dR gR r).2.2 w') :
    CallW Try.prog L 141 #[gR.rv x p, .string (bytesOf r)] (fun v w' => opTu v fun cs => opAg (nthD (Array.toList cs) 0) fun cs1 => opL (nthD (Array.toList cs1) 0) fun a1 n1 c1 => opL (nthD (Array.toList cs1) 1) fun a2 n2 c2 => opI .i64 (nthD (Array.toList cs1) 2) fun y => opI .i64 (nthD (Array.toList cs1) 3) fun y1 => opI .i64 (nthD (Array.toList cs1) 4) fun y2 => opB (nthD (Array.toList cs1) 5) fun b => SzIs (Array.size cs1) 6 (opI .i64 (nthD (Array.toList cs) 1) fun e => SzIs (Array.size cs) 2 (K a1 n1 c1 a2 n2 c2 y y1 y2 b e w'))) w := by
  refine (f141_ok x p w0.heap.size N dR gR w T.js.ds.md.size T.r hd h1 h2 hpl ha hp r hr hrl).call T.lt ?_
  rintro v w' ⟨x', p', rfl, r', d', n'⟩ h'
  exact opTu_in <| opAg_in <| opL_in <| opL_in <| opI_in <| opI_in <| opI_in <| opB_in <| SzIs_in rfl <| opI_in <| SzIs_in rfl (k x' p' w' (T.ref h' r' n') d')
theorem TJ.w142 (T : TJ L w0 w n d F ln g x p) {dR : Dk} {gR : Lg} (hd : RelD N dR x) (h1 : 3 ≤ N) (h2 : N ≤ 65536) (hpl : dR.pd.length < 2 ^ 26) (ha : gR.area ≤ 1) (hp : gR.pos ≤ jsz dR) {rs : List (List Nat)} (hrs : ∀ r ∈ rs, ∀ z ∈ r, z < 256) (hrl : ∀ r ∈ rs, r.length ≤ 2100) (hn : rs.length ≤ 20) {A : Option Addr} {C m : Nat} (hm : m = rs.length) (hr : RowAt w A 1 tE rs) {K : KL}
    (k : ∀ x' p' w', TJ L w0 w' n d F ln g x' p' → RelD N (rwD dR gR rs).1 x' → K p'.a x'.sf.length p'.c p'.b x'.pe.length p'.e x'.rf (rwD dR gR rs).2.1.area (rwD dR gR rs).2.1.pos (rwD dR gR rs).2.1.ov (rwD dR gR rs).2.2 w') :
    CallW Try.prog L 142 #[gR.rv x p, .slice A m C] (fun v w' => opTu v fun cs => opAg (nthD (Array.toList cs) 0) fun cs1 => opL (nthD (Array.toList cs1) 0) fun a1 n1 c1 => opL (nthD (Array.toList cs1) 1) fun a2 n2 c2 => opI .i64 (nthD (Array.toList cs1) 2) fun y => opI .i64 (nthD (Array.toList cs1) 3) fun y1 => opI .i64 (nthD (Array.toList cs1) 4) fun y2 => opB (nthD (Array.toList cs1) 5) fun b => SzIs (Array.size cs1) 6 (opI .i64 (nthD (Array.toList cs) 1) fun e => SzIs (Array.size cs) 2 (K a1 n1 c1 a2 n2 c2 y y1 y2 b e w'))) w := by
  subst hm
  refine (f142_ok x p w0.heap.size N dR gR w T.js.ds.md.size T.r hd h1 h2 hpl ha hp rs hrs hrl hn A C hr).call T.lt ?_
  rintro v w' ⟨x', p', rfl, r', d', n'⟩ h'
  exact opTu_in <| opAg_in <| opL_in <| opL_in <| opI_in <| opI_in <| opI_in <| opB_in <| SzIs_in rfl <| opI_in <| SzIs_in rfl (k x' p' w' (T.ref h' r' n') d')
theorem in143 (hd : RelD N d x) (h1 : 1 ≤ N) (h2 : N ≤ 65536) (hp : g.pos ≤ jsz d) (hL : ∀ b ∈ L, b < w.heap.size) {K : Int → World → Prop} (k : ∀ w', Md [] w w' → K (roomD d g) w') :
    CallW Try.prog L 143 #[g.rv x p] (fun v w' => opI .i64 v fun y => K y w') w := by
  refine (f143_ok x p g N d hd h1 h2 hp w).call hL ?_
  rintro v w' rfl h'
  exact opI_in (k w' h')
theorem TJ.w117 (T : TJ L w0 w n d F ln g x p) {dR : Dk} (hd : RelD N dR x) (i : Int) {K : Option Addr → Nat → Nat → Option Addr → Nat → Nat → Int → World → Prop}
    (k : ∀ x' p' w', TJ L w0 w' n d F ln g x' p' → RelD N (dR.arm i) x' → K p'.a x'.sf.length p'.c p'.b x'.pe.length p'.e x'.rf w') (hi : i ≤ 9223372036854775807) :
    CallW Try.prog L 117 #[x.v p, .int .i64 i] (fun v w' => opAg v fun cs1 => opL (nthD (Array.toList cs1) 0) fun a1 n1 c1 => opL (nthD (Array.toList cs1) 1) fun a2 n2 c2 => opI .i64 (nthD (Array.toList cs1) 2) fun y => SzIs (Array.size cs1) 3 (K a1 n1 c1 a2 n2 c2 y w')) w := by
  refine (f117_ok x p i w).call T.lt ?_
  rintro v w' rfl h'
  have r' : RfAt w' w0.heap.size (x.arm i) p := ⟨(T.r.md h').sf, (T.r.md h').pe, by unfold Rf.arm; simp only; split <;> omega, T.r.sl, T.r.pl⟩
  exact opAg_in <| opL_in <| opL_in <| opI_in <| SzIs_in rfl (k (x.arm i) p w' (T.ref h' r' (NewS.refl _ _)) (hd.arm i))
theorem TJ.w118 (T : TJ L w0 w n d F ln g x p) {dR : Dk} (hd : RelD N dR x) (i j : Int) {K : Option Addr → Nat → Nat → Option Addr → Nat → Nat → Int → World → Prop}
    (k : ∀ x' p' w', TJ L w0 w' n d F ln g x' p' → RelD N (dR.crash i j) x' → K p'.a x'.sf.length p'.c p'.b x'.pe.length p'.e x'.rf w') :
    CallW Try.prog L 118 #[x.v p, .int .i64 i, .int .i64 j] (fun v w' => opAg v fun cs1 => opL (nthD (Array.toList cs1) 0) fun a1 n1 c1 => opL (nthD (Array.toList cs1) 1) fun a2 n2 c2 => opI .i64 (nthD (Array.toList cs1) 2) fun y => SzIs (Array.size cs1) 3 (K a1 n1 c1 a2 n2 c2 y w')) w := by
  refine (f118_ok x p w0.heap.size w T.r T.js.ds.md.size hd.hin hd.q64 hd.s64 i j).call T.lt ?_
  rintro v w' ⟨p', rfl, r', n'⟩ h'
  exact opAg_in <| opL_in <| opL_in <| opI_in <| SzIs_in rfl (k _ p' w' (T.ref h' r' n') (hd.crash i j))
/-- Both logs opened. -/
theorem in137 {base : Nat} (hb : base ≤ w.heap.size) (r : RfAt w base x p) (hd : RelD N d x) (h3 : 3 ≤ N) (h2 : N ≤ 65536) {rs : List (List Nat)} {q : Nat} (hs : parseL (areaL d (openA d)) = some (rs, q)) (hL : ∀ b ∈ L, b < w.heap.size) {K : Option Addr → Nat → Nat → Option Addr → Nat → Nat → Int → Int → Int → Bool → Option Addr → Nat → Nat → Int → World → Prop}
    (k : ∀ a c w', Md [] w w' → OwnL w' w.heap.size 9 1 tE a c rs → K p.a x.sf.length p.c p.b x.pe.length p.e x.rf (openA d) q false a rs.length c 0 w') :
    CallW Try.prog L 137 #[x.v p] (fun v w' => opTu v fun cs => opAg (nthD (Array.toList cs) 0) fun cs1 => opL (nthD (Array.toList cs1) 0) fun a1 n1 c1 => opL (nthD (Array.toList cs1) 1) fun a2 n2 c2 => opI .i64 (nthD (Array.toList cs1) 2) fun y => opI .i64 (nthD (Array.toList cs1) 3) fun y1 => opI .i64 (nthD (Array.toList cs1) 4) fun y2 => opB (nthD (Array.toList cs1) 5) fun b => SzIs (Array.size cs1) 6 (opL (nthD (Array.toList cs) 1) fun a m c => opI .i64 (nthD (Array.toList cs) 2) fun e => SzIs (Array.size cs) 3 (K a1 n1 c1 a2 n2 c2 y y1 y2 b a m c e w'))) w := by
  refine (f137_ok x p base N d w hb r hd (by omega) h2).call hL ?_
  rintro v w' h h'
  rcases h with ⟨h, _⟩ | ⟨_, h, _⟩ | ⟨_, rs', q', a, c, h, rfl, o⟩
  · omega
  · rw [hs] at h; cases h
  · rw [hs] at h
    simp only [Option.some.injEq, Prod.mk.injEq] at h
    obtain ⟨rfl, rfl⟩ := h
    exact opTu_in <| opAg_in <| opL_in <| opL_in <| opI_in <| opI_in <| opI_in <| opB_in <| SzIs_in rfl <| opL_in <| opI_in <| SzIs_in rfl (k a c w' h' o)
theorem in137s {base : Nat} (hb : base ≤ w.heap.size) (r : RfAt w base x p) (hd : RelD N d x) (h1 : 1 ≤ N) (h3 : N < 3) (hL : ∀ b ∈ L, b < w.heap.size) {K : Option Addr → Nat → Nat → Option Addr → Nat → Nat → Int → Int → Int → Bool → Option Addr → Nat → Nat → Int → World → Prop}
    (k : ∀ w', Md [] w w' → K none 0 0 none 0 0 0 0 0 false none 0 0 2 w') :
    CallW Try.prog L 137 #[x.v p] (fun v w' => opTu v fun cs => opAg (nthD (Array.toList cs) 0) fun cs1 => opL (nthD (Array.toList cs1) 0) fun a1 n1 c1 => opL (nthD (Array.toList cs1) 1) fun a2 n2 c2 => opI .i64 (nthD (Array.toList cs1) 2) fun y => opI .i64 (nthD (Array.toList cs1) 3) fun y1 => opI .i64 (nthD (Array.toList cs1) 4) fun y2 => opB (nthD (Array.toList cs1) 5) fun b => SzIs (Array.size cs1) 6 (opL (nthD (Array.toList cs) 1) fun a m c => opI .i64 (nthD (Array.toList cs) 2) fun e => SzIs (Array.size cs) 3 (K a1 n1 c1 a2 n2 c2 y y1 y2 b a m c e w'))) w := by
  refine (f137_ok x p base N d w hb r hd h1 (by omega)).call hL ?_
  rintro v w' h h'
  rcases h with ⟨_, rfl⟩ | ⟨h, _⟩ | ⟨h, _⟩
  · exact opTu_in <| opAg_in <| opL_in <| opL_in <| opI_in <| opI_in <| opI_in <| opB_in <| SzIs_in rfl <| opL_in <| opI_in <| SzIs_in rfl (k w' h')
  · omega
  · omega
theorem in113j (hN1 : 1 ≤ N) (hN2 : N ≤ 65536) (hL : ∀ b ∈ L, b < w.heap.size) {K : Option Addr → Nat → Nat → Option Addr → Nat → Nat → Int → Bool → World → Prop}
    (k : ∀ p w', Md [] w w' → RfAt w' w.heap.size (zRf N) p → K p.a (zRf N).sf.length p.c p.b (zRf N).pe.length p.e (zRf N).rf true w') :
    CallW Try.prog L 113 #[.int .i64 N] (fun v w' => opTu v fun cs => opAg (nthD (Array.toList cs) 0) fun cs1 => opL (nthD (Array.toList cs1) 0) fun a1 n1 c1 => opL (nthD (Array.toList cs1) 1) fun a2 n2 c2 => opI .i64 (nthD (Array.toList cs1) 2) fun y => SzIs (Array.size cs1) 3 (opB (nthD (Array.toList cs) 1) fun e => SzIs (Array.size cs) 2 (K a1 n1 c1 a2 n2 c2 y e w'))) w := by
  refine (f113_ok N hN1 hN2 w).call hL ?_
  rintro v w' ⟨p, rfl, r⟩ h'
  exact opTu_in <| opAg_in <| opL_in <| opL_in <| opI_in <| SzIs_in rfl <| opB_in <| SzIs_in rfl (k p w' h' r)
theorem jin140 (xs ys : List (List Nat)) (has : ∀ r ∈ xs, ∀ z ∈ r, z < 256) (hbs : ∀ r ∈ ys, ∀ z ∈ r, z < 256) (hl : xs.length < 2 ^ 40) {bx : Nat} {a : Option Addr} {c : Nat} {b : Option Addr} {cb : Nat} {m m2 : Nat} (hm : m = xs.length) (hm2 : m2 = ys.length) (hr : RRo w bx a c xs) (hr2 : RowAt w b 1 tE ys) (hL : ∀ b ∈ L, b < w.heap.size) {K : Bool → World → Prop}
    (k : ∀ w', Md [] w w' → K (decide (xs = ys)) w') : CallW Try.prog L 140 #[.slice a m c, .slice b m2 cb] (fun v w' => opB v fun z => K z w') w := by
  subst hm; subst hm2
  refine (f140_ok xs ys has hbs hl bx a c b cb w hr hr2).call hL ?_
  rintro v w' rfl h'
  exact opB_in (k w' h')
theorem jin134 (o : Op4) (ho : o.ok) (hL : ∀ b ∈ L, b < w.heap.size) {K : Option Addr → Nat → Nat → World → Prop} (k : ∀ a c w', Md [] w w' → RRo w' w.heap.size a c (recsL o) → K a (recsL o).length c w') :
    CallW Try.prog L 134 #[.agg #[.int .u8 o.k, .int .i64 o.n, .int .i64 o.m, .int .u8 o.c]] (fun v w' => opL v fun a m c => K a m c w') w := by
  refine (f134_ok o ho w).call hL ?_
  rintro v w' ⟨a, c, rfl, R⟩ h'
  exact opL_in (k a c w' h' R)
theorem jin138 {l : List Nat} (hl : ∀ z ∈ l, z < 256) (hn : l.length < 2 ^ 40) {a : Option Addr} {c m : Nat} (hm : m = l.length) (hr : RowAt w a 1 b1 l) (hL : ∀ b ∈ L, b < w.heap.size) {K : Int → World → Prop} (k : ∀ w', Md [] w w' → K (sumL l) w') :
    CallW Try.prog L 138 #[.slice a m c] (fun v w' => opI .u32 v fun z => K z w') w := by
  subst hm
  refine (f138_ok l hl hn a c w hr).call hL ?_
  rintro v w' rfl h'
  exact opI_in (k w' h')
theorem jin139 {l : List Nat} (hl : ∀ z ∈ l, z < 256) (hn : l.length < 2 ^ 40) (hL : ∀ b ∈ L, b < w.heap.size) {K : Int → World → Prop} (k : ∀ w', Md [] w w' → K (sumL l) w') :
    CallW Try.prog L 139 #[.string (bytesOf l)] (fun v w' => opI .u64 v fun z => K z w') w := by
  refine (f139_ok l hl hn w).call hL ?_
  rintro v w' rfl h'
  exact opI_in (k w' h')
theorem TJ.app (T : TJ L w0 w n d F ln g x p) (h1 : 1 ≤ d.bl.length) (hpd : d.pd.length < 2 ^ 28) (ha : g.area ≤ 1) (hp : g.pos ≤ jsz d) (r : List Nat) (hr : ∀ x ∈ r, x < 256) {A : Option Addr} {C m : Nat} (hm : m = r.length) (ho : RowAt w A 1 b1 r) {K : Int → World → Prop}
    (k : ∀ F' w', TJ L w0 w' n (apD d g r).1 F' ln (apD d g r).2.1 x p → K (apD d g r).2.2 w') :
    CallW Try.prog L 124 #[.pointer (some ⟨ln, 0, none⟩), .slice A m C] (fun v w' => opI .i64 v fun x => K x w') w :=
  in124 T.js h1 hpd ha hp r hr hm ho T.lf fun F' w' S' m' f' _ => k F' w' (T.jd S' m' f')
theorem TJ.rw (T : TJ L w0 w n d F ln g x p) (h1 : 1 ≤ d.bl.length) (hpd : d.pd.length < 2 ^ 28) (ha : g.area ≤ 1) (xs : List (List Nat)) (hrs : ∀ r ∈ xs, ∀ x ∈ r, x < 256) (hrl : xs.length < 2 ^ 30) {A : Option Addr} {C m : Nat} (hm : m = xs.length) (hr : RRr w A xs) {K : Int → World → Prop}
    (k : ∀ F' w', TJ L w0 w' n (rwD d g xs).1 F' ln (rwD d g xs).2.1 x p → K (rwD d g xs).2.2 w') :
    CallW Try.prog L 130 #[.pointer (some ⟨ln, 0, none⟩), .slice A m C] (fun v w' => opI .i64 v fun x => K x w') w := by
  subst hm
  refine (f130_ok T.js h1 hpd ha xs hrs hrl A C hr).callD T.lt (fun b hb => (T.lf b hb).2) ?_
  rintro v w' ⟨rfl, F', J, hf⟩ h'
  exact opI_in (k F' w' (T.jd J h' hf))
theorem TJ.crash (T : TJ L w0 w n d F ln g x p) (keep torn : Int) (hpd : d.pd.length < 2 ^ 30) {K : World → Prop} (k : ∀ F' w', TJ L w0 w' n (d.crash keep torn) F' ln g x p → K w') :
    CallW Try.prog L 106 #[.pointer (some ⟨n, 0, none⟩), .int .i64 keep, .int .i64 torn] (fun v w' => opTu v fun cs => SzIs (Array.size cs) 0 (K w')) w :=
  in106 T.js.ds (fun b hb => ⟨(T.lf b hb).1, fun h => (T.lf b hb).2 (List.mem_cons_of_mem _ h)⟩) keep torn hpd fun F' w' S' m' f' _ => k F' w' (T.jd (T.js.step S' m' f') (m'.mono fun y hy => List.mem_cons_of_mem _ hy) f')
theorem TJ.arm (T : TJ L w0 w n d F ln g x p) (y : Int) (hx : y ≤ 9223372036854775807) {K : World → Prop} (k : ∀ w', TJ L w0 w' n (d.arm y) F ln g x p → K w') :
    CallW Try.prog L 102 #[.pointer (some ⟨n, 0, none⟩), .int .i64 y] (fun v w' => opTu v fun cs => SzIs (Array.size cs) 0 (K w')) w :=
  in102 T.js.ds (fun b hb => ⟨(T.lf b hb).1, fun h => (T.lf b hb).2 (List.mem_cons_of_mem _ h)⟩) y hx fun w' S' m' _ => k w' (T.jd (T.js.step S' m' (Fr.refl _ _)) (m'.mono fun y hy => List.mem_cons_of_mem _ hy) (Fr.refl _ _))
end
end Fk
set_option linter.unusedVariables false
set_option linter.unusedSimpArgs false
set_option maxRecDepth 100000
set_option maxHeartbeats 8000000
namespace Fk
open Go Go.Proofs Go.RowKit
theorem recsL_2100 (o : Op4) : ∀ r ∈ recsL o, r.length ≤ 2100 := by
  intro r hr
  obtain ⟨k, hk, rfl⟩ := List.getElem_of_mem hr
  rw [recsL_get o hk]; unfold recK; rw [recB_len]
  have := recN_le (((max o.n 0).toNat % 2000 + k : Nat) : Int)
  omega
theorem recsL_20 (o : Op4) : (recsL o).length ≤ 20 := by rw [recsL_len]; exact recsN_le _
theorem wrap_bump (v : Nat) (hv : v < 256) : IntKind.wrap .u8 ((v : Int) + 1) = (((v + 1) % 256 : Nat) : Int) := by rw [IntKind.wrap_u8]; omega
theorem f37_ok (ops : List Op4) (A1 : Option Addr) (C1 : Nat) (hok : ∀ o ∈ ops, o.ok) (bs : List Nat) (A2 : Option Addr) (C2 : Nat) (hbs : ∀ x ∈ bs, x < 256) (b : Nat) (hb : b < 256) (w0 : World) (hro : RowAt w0 A1 4 op4E ops) (hr : RowAt w0 A2 1 b1 bs) :
    Ct Try.prog 37 #[.int .u8 b, .slice A1 ops.length C1, .slice A2 bs.length C2] w0 fun v w' => v = .bool true ∧ Md [] w0 w' := by
  apply f37_in
  refine Bd_e rfl <| Bd_in fun b2 hb2 => Bd_e rfl <| Bd_in fun b4 hb4 => Bd_in fun b5 hb5 => If_in (fun hc => ?_) fun hc => ?_
  · exact in125 (Md.refl _ w0) (by simp) fun w7 m7 _ => ⟨rfl, m7⟩
  have h25 : ops.length ≤ 25 ∧ bs.length ≤ 500 := by
    rw [hb5] at hc
    cases h2 : b2 with
    | true => rw [h2] at hc; cases hc
    | false =>
      rw [h2, cond_false] at hc
      rw [hb2] at h2; rw [hb4] at hc
      have := of_decide_eq_false h2; have := of_decide_eq_false hc
      omega
  clear hb2 hb4 hb5 hc
  refine Bd_e (y := ((b % 20 : Nat) : Int)) (by rw [Int.tmod_eq_emod_of_nonneg (by omega)]; omega) <| Bd_e (y := ((b % 20 : Nat) : Int)) (by rw [IntKind.wrap_i64]; omega) <| Bd_e (y := ((1 + b % 20 : Nat) : Int)) (by rw [IntKind.wrap_i64]; omega) ?_
  generalize hN : 1 + b % 20 = N at *
  have hN1 : 1 ≤ N := by omega
  have hN20 : N ≤ 20 := by omega
  refine in109 (L := []) (Md.refl _ w0) N hN1 (by omega) (by simp) fun n F w13 S13 m13 hF => ?_
  refine in113j hN1 (by omega) (by simp) fun p w18 m18 r18 n29 hn29 w30 m30 hl30 => ?_
  have S18 := S13.md0 m18
  have m30' : Md [] w18 w30 := mdUp hn29 m30
  have S30 := S18.md0 m30'
  have r30 := (r18.md m30').down (b := w0.heap.size) m13.size
  have hl29 : n29 < w30.heap.size := hl30 n29 (by simp)
  have D0 := rel_new N
  have hsep13 : ∀ A, p.a = some A ∨ p.b = some A → w13.heap.size ≤ A.block ∧ A.block < w18.heap.size := fun A hA => by
    rcases hA with hA | hA
    · exact r18.sf.lt hA
    · exact r18.pe.lt hA
  -- what is compared ahead of the calls
  have chk : ∀ (L : List Nat) (w453 : World) (xs ys : List (List Nat)) (bx : Nat) (a : Option Addr) (c : Nat) (a2 : Option Addr) (c2 : Nat) (x38 : Int), Md [] w0 w453 → (∀ b ∈ L, b < w453.heap.size) → xs = ys → (∀ r ∈ xs, ∀ z ∈ r, z < 256) → xs.length < 2 ^ 40 → RRo w453 bx a c xs → RowAt w453 a2 1 tE ys → ∀ (J452 : List Value → List Value → World → Prop), (∀ w', Md [] w453 w' → J452 [.bool false] [] w') →
      Dr (World.drew w453) fun J454 => ∃ v455, (∀ (w456 : World), J454 w456 → RunV Try.prog (convert 51 9 (.slice A2 bs.length C2)) v455 w456) ∧ opStr v455 fun s458 => CallW Try.prog L 138 #[.slice A2 bs.length C2] (fun v459 w460 => opI .u32 v459 fun x461 => J454 w460 ∧ Bd (IntKind.wrap .u64 x461) fun x462 => CallW Try.prog L 139 #[.string s458] (fun v463 w464 => opI .u64 v463 fun x465 => J454 w464 ∧ Bd (x462 != x465) fun b466 => Bd ((0 : Int) != 0) fun b467 => Bd (bif b466 then true else b467) fun b468 => Bd (x38 != x38) fun b469 => Bd (bif b468 then true else b469) fun b470 => Gd (!b470) false (fun J471 => CallW Try.prog L 140 #[.slice a xs.length c, .slice a2 ys.length c2] (fun v472 w473 => opB v472 fun b474 => J471 b474 w473) w464) (fun b475 w476 => J454 w476 ∧ Bd (!b475) fun b477 => Bd (bif b470 then true else b477) fun b478 => J452 [.bool b478] [] w476) w464) w460) (World.drew w453) := by
    rintro L w453 xs ys bx a c a2 c2 x38 m453 hL rfl hxb hxl R r2 J hJ
    have mm : Md [] w453 w453.drew := Md_drew w453
    refine ⟨fun w' => Md [] w453 w', mm, .string (bytesOf bs), fun w' hm => ⟨conv_row (hr.md (m453.trans hm)) hbs _ _ rfl⟩, opStr_in <| jin138 hbs (by omega) rfl (hr.md (m453.trans mm)) (fun b hb => Nat.lt_of_lt_of_le (hL b hb) mm.size) fun w460 m460 => ⟨mm.trans m460, ?_⟩⟩
    have hs := sumL_lt bs
    refine Bd_e (y := (sumL bs : Int)) (by rw [IntKind.wrap_u64]; omega) <| jin139 hbs (by omega) (fun b hb => Nat.lt_of_lt_of_le (hL b hb) (mm.trans m460).size) fun w464 m464 => ⟨(mm.trans m460).trans m464, ?_⟩
    have m4 := (mm.trans m460).trans m464
    refine Bd_f (by simp) <| Bd_e rfl <| Bd_e rfl <| Bd_f (by simp) <| Bd_e rfl <| Gd_t <| jin140 xs xs hxb hxb hxl rfl rfl (R.md m4) (r2.md m4) (fun b hb => Nat.lt_of_lt_of_le (hL b hb) m4.size) fun w473 m473 => ⟨m4.trans m473, Bd_e (y := false) (by simp) <| Bd_e rfl <| hJ w473 (m4.trans m473)⟩
  by_cases h3 : N < 3
  · refine in136s S30 (by rw [newDk_len]; exact hN1) (by rw [newDk_len]; exact h3) (by simpa using hl29) fun w32 S32 m32 => ?_
    have hl32 : n29 < w32.heap.size := Nat.lt_of_lt_of_le hl29 m32.size
    refine in137s (base := w0.heap.size) S32.md.size (r30.md m32) D0 hN1 h3 (by simpa using hl32) fun w40 m40 n57 hn57 => ?_
    have S40 := S32.md0 m40
    refine Jn_in (fun us vs w' => us = [.bool false] ∧ Md [] w0 w' ∧ ∀ b ∈ [n57, n29], b < w'.heap.size) ?_ ?_
    · rintro us vs w60 ⟨rfl, m60, hl60⟩
      refine opB_in <| If_f <| Bd_t rfl <| If_t <| RunW_in0 (eqNilP (e := 260) none w60 _ _ 158 (by kernel_rfl) (by kernel_rfl)).1 <| opB_in <| Gd_t <| in125 m60 hl60 fun w68 m68 _ => Bd_t rfl ⟨rfl, m68⟩
    · intro w453 m453 hl453
      have m453' : Md [] w40 w453 := m453.fresh (by simpa using hn57)
      have m0 : Md [] w0 w453 := S40.md.trans m453'
      exact chk [n57, n29] w453 [] [] 0 none 0 none 0 2 m0 hl453 rfl (by simp) (by simp) (RRo.nil _ _) (fun i x hx => by simp at hx) (fun us vs w' => us = [.bool false] ∧ Md [] w0 w' ∧ ∀ b ∈ [n57, n29], b < w'.heap.size) fun w' m' => ⟨rfl, m0.trans m', fun b hb => Nat.lt_of_lt_of_le (hl453 b hb) m'.size⟩
  have h3 : 3 ≤ N := by omega
  have hA0 : openA (newDk N) = 0 := openA_new hN1
  refine in136 S30 (by rw [newDk_len]; exact h3) (by simpa using hl29) (fun w' hn _ _ => by rw [parse_new] at hn; cases hn) fun rs0 q0 ln a35 c37 bx w32 hs J32 hlo hbx R32 m32 => ?_
  have hs' := hs
  rw [parse_new] at hs
  simp only [Option.some.injEq, Prod.mk.injEq] at hs
  obtain ⟨rfl, rfl⟩ := hs
  have hl32 : n29 < w32.heap.size := Nat.lt_of_lt_of_le hl29 m32.size
  refine in137 (base := w0.heap.size) J32.ds.md.size (r30.md m32) D0 h3 (by omega) hs' (by simpa using hl32) fun a53 c55 w40 m40 o40 n57 hn57 => ?_
  have J40 := J32.md0 m40
  have T40 : TJ [n29] w0 w40 n (newDk N) F ln ⟨openA (newDk N), 0, false⟩ (zRf N) p := by
    refine ⟨J40, (r30.md m32).md m40, fun A hA hx => ?_, fun A hA hx => ?_, fun b hb => ⟨?_, fun hx => ?_⟩, fun b hb => ?_, fun b hb A hA e => ?_, fun b hb A hA e => ?_⟩
    · have h1 := hsep13 A (.inl hA)
      have h2 := m30'.size
      rcases List.mem_cons.1 hx with h | h
      · omega
      · have := S13.dk.lt _ h; omega
    · have h1 := hsep13 A (.inr hA)
      have h2 := m30'.size
      rcases List.mem_cons.1 hx with h | h
      · omega
      · have := S13.dk.lt _ h; omega
    · simp at hb; subst hb; exact Nat.lt_of_lt_of_le hl32 m40.size
    · simp at hb; subst hb
      rcases List.mem_cons.1 hx with h | h
      · omega
      · have := S18.dk.lt _ h; omega
    · simp at hb; subst hb; have := S18.md.size; omega
    · simp at hb; subst hb; have h1 := hsep13 A (.inl hA); omega
    · simp at hb; subst hb; have h1 := hsep13 A (.inr hA); omega
  have W0 : JW N (newDk N) ⟨openA (newDk N), 0, false⟩ := by
    obtain ⟨rs, q, h1, h2, _⟩ := JW.opened (JW.new h3) h3
    rw [hs'] at h1
    simp only [Option.some.injEq, Prod.mk.injEq] at h1
    obtain ⟨_, rfl⟩ := h1
    exact h2
  refine Jn_in (fun us vs w' => us = [.bool false] ∧ TJ [n57, n29] w0 w' n (newDk N) F ln ⟨openA (newDk N), 0, false⟩ (zRf N) p) ?_ ?_
  case refine_2 =>
    intro w453 m453 hl453
    have T453 := T40.rg hn57 m453 (by simp) hl453
    have m453' : Md [] w40 w453 := m453.fresh (by simpa using hn57)
    exact chk [n57, n29] w453 [] [] bx a35 c37 a53 c55 0 T453.js.ds.md hl453 rfl (by simp) (by simp) ((R32.md m40).md m453') ((o40.md m453').row enctE) (fun us vs w' => us = [.bool false] ∧ TJ [n57, n29] w0 w' n (newDk N) F ln ⟨openA (newDk N), 0, false⟩ (zRf N) p) fun w' m' => ⟨rfl, T453.md0 m'⟩
  rintro us vs w60 ⟨rfl, T60⟩
  refine opB_in <| If_f <| Bd_f rfl <| If_f <| Bd_e rfl ?_
  refine LoopP_in (fun mm us vs w' => ∃ (i : Nat) (d : Dk) (F : List Nat) (ln : Nat) (g : Lg) (x : Rf) (p : RfS) (z : Bool), us = [.pointer (some ⟨ln, 0, none⟩), .bool z, .int .i64 i] ∧ vs = [g.rv x p] ∧ mm = ops.length - i ∧ i ≤ ops.length ∧ TJ [n57, n29] w0 w' n d F ln g x p ∧ RelD N d x ∧ JW N d g ∧ d.pd.length ≤ i * 32768) ops.length
    ⟨0, newDk N, F, ln, ⟨openA (newDk N), 0, false⟩, zRf N, p, false, rfl, rfl, rfl, by omega, T60, D0, W0, by simp [newDk]⟩ ?_
  rintro mm us vs w77 ⟨i, d, F, ln, g, x, p, z, rfl, rfl, hmm, hi, T, D, W, hpd⟩
  have h1d : 1 ≤ d.bl.length := by rw [W.len]; omega
  refine opP_in <| opB_in <| opI_in <| opAg_in <| opL_in <| opL_in <| opI_in <| opI_in <| opI_in <| opB_in <| SzIs_in rfl <| Bd_in fun b92 hb92 => If_in (fun hcc => ?_) fun hcc => ?_
  case refine_2 => exact in125 T.js.ds.md T.lt fun w450 m450 _ => ⟨rfl, m450⟩
  have hil : i < ops.length := by rw [hb92] at hcc; have : (i : Int) < (ops.length : Int) := of_decide_eq_true hcc
                                  omega
  have ho := hok _ (List.getElem_mem hil)
  have r77 := hro.md T.js.ds.md
  have hix := r77.ix hil
  generalize ho' : ops[i] = o at *
  have ld : ∀ (j : Nat) (v : Value), (op4E o)[j]? = some v → ∀ {K : Value → Prop}, K v → Ld w77 ((adAt A1 (i : Int) 4).add j) K := fun j v hv K k => r77.ldj hil (by rw [ho']; exact hv) k
  have hi25 : d.pd.length ≤ 25 * 32768 := by
    have : i * 32768 ≤ 25 * 32768 := Nat.mul_le_mul_right _ (by omega)
    omega
  have hi1 : (i + 1) * 32768 = i * 32768 + 32768 := Nat.succ_mul _ _
  have hp1 : d.pd.length ≤ (i + 1) * 32768 := by rw [hi1]; exact Nat.le_trans hpd (Nat.le_add_right _ _)
  have hpx : ∀ m : Nat, m ≤ d.pd.length + 32768 → m ≤ (i + 1) * 32768 := fun m hm => by rw [hi1]; exact Nat.le_trans hm (Nat.add_le_add_right hpd _)
  have hp28 : d.pd.length < 2 ^ 28 := Nat.lt_of_le_of_lt hi25 (by decide)
  have hp26 : d.pd.length < 2 ^ 26 := Nat.lt_of_le_of_lt hi25 (by decide)
  have hp30 : d.pd.length < 2 ^ 30 := Nat.lt_of_le_of_lt hi25 (by decide)
  have hN65 : N ≤ 65536 := Nat.le_trans hN20 (by decide)
  have hdN : d.bl.length ≤ 65536 := by rw [W.len]; exact hN65
  refine ⟨hix, ld 0 _ rfl <| ld 1 _ rfl <| ld 2 _ rfl <| ld 3 _ rfl <| opI_in <| opI_in <| opI_in <| opI_in fun n101 hn101 => ?_⟩
  have hoc := ho.c
  have hon := ho.n
  refine Jn_in (fun us vs w' => ∃ (d : Dk) (F : List Nat) (ln : Nat) (g : Lg) (x : Rf) (p : RfS) (e : Int) (z1 z2 : Bool), us = [.pointer (some ⟨ln, 0, none⟩), .int .i64 e, .int .i64 e, .bool z1, .bool z2] ∧ vs = [g.rv x p] ∧ TJ [n101, n57, n29] w0 w' n d F ln g x p ∧ RelD N d x ∧ JW N d g ∧ d.pd.length ≤ (i + 1) * 32768) ?_ ?_
  · rintro us vs w104 ⟨d, F, ln, g, x, p, e, z1, z2, rfl, rfl, T, D, W, hpd⟩
    have h1d : 1 ≤ d.bl.length := by rw [W.len]; omega
    refine opP_in <| opI_in <| opI_in <| opB_in <| opB_in <| opAg_in <| opL_in <| opL_in <| opI_in <| opI_in <| opI_in <| opB_in <| SzIs_in rfl ?_
    refine Jn_in (fun us vs w' => us = [.bool false] ∧ TJ [n101, n57, n29] w0 w' n d F ln g x p) ?_ ?_
    · rintro us vs w123 ⟨rfl, T123⟩
      exact opB_in <| If_f <| Bd_e (inc_i64 (by omega)) ⟨ops.length - (i + 1), by omega, i + 1, d, F, ln, g, x, p, z1, rfl, rfl, rfl, by omega, T123.sub (by simp), D, W, hpd⟩
    · have T0 := T.md0 (Md_drew w104)
      have h64 : ∀ i, i < x.sf.length → (x.has i).size = 64 := fun i hi => by
        rw [D.has (by rw [← D.slen]; exact hi), stB_size]
      have hall : ∀ y ∈ d.all, y < 256 := bytesB_lt _
      refine Bd_f (by simp) <| Gd_t <| in128 T0.js h1d W.le T0.lt fun w130 J130 m130 => ?_
      have T1 := T0.md0 m130
      refine Gd_t <| in143 D hN1 (by omega) W.le T1.lt fun w136 m136 => ?_
      have T2 := T1.md0 m136
      refine Bd_f (by simp) <| Bd_e rfl <| Gd_t <| in129 T2.js T2.lt fun w144 J144 m144 => ?_
      have T3 := T2.md0 m144
      refine Bd_f (by cases g.ov <;> rfl) <| Bd_e rfl <| Gd_t <| in104' T3.js.ds T3.lt fun a153 c155 w152 S152 m152 o152 => ?_
      have T4 := T3.md0 m152
      refine ⟨Gd_t <| RunW_in0 (str_own o152 hall _) <| opStr_in <| Gd_t <| in121 T4.r h64 (by rw [D.slen]; exact hN20) T4.lt fun w166 m166 => ?_, Gd_t <| in121 T4.r h64 (by rw [D.slen]; exact hN20) T4.lt fun w183 m183 => Gd_t <| RunW_in0 (str_own (o152.md m183) hall _) <| opStr_in ?_⟩
      · rw [D.all]
        refine Bd_f (by simp) <| Bd_e rfl <| Bd_e rfl <| Gd_t <| in108 (T4.md0 m166).js.ds (T4.md0 m166).lt fun w175 S175 m175 => Bd_f (by rw [D.plen]; simp) <| Bd_e rfl ⟨rfl, (T4.md0 m166).md0 m175⟩
      · rw [D.all]
        refine Bd_f (by simp) <| Bd_e rfl <| Bd_e rfl <| Gd_t <| in108 (T4.md0 m183).js.ds (T4.md0 m183).lt fun w175 S175 m175 => Bd_f (by rw [D.plen]; simp) <| Bd_e rfl ⟨rfl, (T4.md0 m183).md0 m175⟩
  · refine Bd_in fun b182 hb182 => If_in (fun hk => ?_) fun hk => ?_
    · intro w183 m183 hl183
      have T1 := T.rg hn101 m183 (by simp) hl183
      refine in123 (Md.refl _ w183) o.n hoc T1.lt fun a186 C1' C2' w185 m185 o185 => ?_
      have T2 := T1.md0 m185
      have hrb := recB_lt o.n o.c
      have hrl : (recB o.n o.c).length ≤ 2000 := by rw [recB_len]; exact recN_le _
      refine T2.app h1d hp28 W.ha W.le _ hrb rfl (o185.row encb1) fun F3 w190 T3 => ?_
      have T3d := T3.md0 (Md_drew w190)
      have hlen := apD_len (r := recB o.n o.c) h1d hdN W.ha W.le
      have W' := W.app h3 hN65 hrb
      have hp' := hpx _ hlen.2
      have hrl2 : (recB o.n o.c).length ≤ 2 ^ 21 := Nat.le_trans hrl (by decide)
      have fin : ∀ (w193 : World) (a : Option Addr) (C C3 : Nat) (bx : Nat), TJ [n101, n57, n29] w0 w193 n (apD d g (recB o.n o.c)).1 F3 ln (apD d g (recB o.n o.c)).2.1 x p → OwnL w193 bx 5 1 b1 a C (recB o.n o.c) → (convert 51 9 (.slice a (recB o.n o.c).length C3)).run Try.prog w193 = .ok (.string (bytesOf (recB o.n o.c))) w193 := fun w193 a C C3 bx _ o => str_own o hrb _
      refine ⟨in123 (Md.refl _ _) o.n hoc T3d.lt fun a C C3 w193 m193 o193 => ?_, in123 (Md.refl _ _) o.n hoc T3d.lt fun a C C3 w193 m193 o193 => ⟨?_, ?_⟩⟩
      all_goals
        have T4 := T3d.md0 m193
        refine RunW_in0 (fin w193 a C C3 _ T4 o193) <| opStr_in <| T4.w141 D h3 hN65 hp26 W.ha W.le hrb hrl2 fun x' p' w201 T5 D5 w215 m215 hl215 => ?_
        exact ⟨_, F3, ln, _, x', p', _, z, b182, rfl, rfl, T5.up m215 (by simp), D5, W', hp'⟩
    refine Bd_in fun b259 hb259 => If_in (fun hk2 => ?_) fun hk2 => ?_
    · intro w260 m260 hl260
      have T1 := T.rg hn101 m260 (by simp) hl260
      refine jin134 o ho T1.lt fun a263 c265 w262 m262 R262 => ?_
      have T2 := T1.md0 m262
      have hrb := recsL_by o
      have hrl := recsL_2100 o
      have hr20 := recsL_20 o
      have hr30 : (recsL o).length < 2 ^ 30 := Nat.lt_of_le_of_lt hr20 (by decide)
      have hr40 : (recsL o).length < 2 ^ 40 := Nat.lt_of_le_of_lt hr20 (by decide)
      refine T2.rw h1d hp28 W.ha _ hrb hr30 rfl R262.r fun F3 w267 T3 => ?_
      have T3d := T3.md0 (Md_drew w267)
      have hlen := rwD_len (xs := recsL o) h1d hdN W.ha
      have W' := W.rw h3 hN65 hrb
      have hp' := hpx _ hlen.2
      refine ⟨jin134 o ho T3d.lt fun a c w270 m270 R270 => ?_, jin134 o ho T3d.lt fun a c w270 m270 R270 => ⟨?_, ?_⟩⟩
      all_goals
        have T4 := T3d.md0 m270
        refine jin135 R270 hrb hr40 rfl T4.lt fun a2 c2 w275 m275 o275 => ?_
        have T5 := T4.md0 m275
        refine T5.w142 D h3 hN65 hp26 W.ha W.le hrb hrl hr20 rfl (o275.row enctE) fun x' p' w280 T6 D6 w294 m294 hl294 => ?_
        exact ⟨_, F3, ln, _, x', p', _, z, b182, rfl, rfl, T6.up m294 (by simp), D6, W', hp'⟩
    refine Bd_in fun b342 hb342 => If_in (fun hk3 => ?_) fun hk3 => ?_
    · intro w343 m343 hl343
      have T1 := T.rg hn101 m343 (by simp) hl343
      refine T1.arm o.n hon.2 fun w345 T2 => T2.w117 D o.n (fun x' p' w348 T3 D3 w357 m357 hl357 => ?_) hon.2
      have T4 := T3.up m357 (by simp)
      have W4 := W.arm o.n
      have hp3 : (d.arm o.n).pd.length ≤ (i + 1) * 32768 := by
        have e : (d.arm o.n).pd = d.pd := rfl
        rw [e]; exact hp1
      generalize d.arm o.n = d1 at *
      exact ⟨d1, F, ln, g, x', p', 0, z, b182, rfl, rfl, T4, D3, W4, hp3⟩
    refine Jn_in (fun us vs w' => ∃ bb : Bool, us = [.bool bb] ∧ TJ [n101, n57, n29] w0 w' n d F ln g x p) ?_ ?_
    case refine_2 =>
      refine Bd_in fun b445 hb445 => If_in (fun hk4 => ?_) fun hk4 => ?_
      · exact fun w446 m446 hl446 => ⟨_, rfl, T.rg hn101 m446 (by simp) hl446⟩
      · exact Bd_in fun b447 hb447 w448 m448 hl448 => ⟨_, rfl, T.rg hn101 m448 (by simp) hl448⟩
    rintro us vs w360 ⟨bb, rfl, T1⟩
    refine opB_in <| If_in (fun hbb => ?_) fun hbb => ?_
    case refine_2 => exact ⟨d, F, ln, g, x, p, 0, z, b182, rfl, rfl, T1, D, W, hp1⟩
    refine Jn_in (fun us vs w' => ∃ (d : Dk) (F : List Nat) (g' : Lg) (x : Rf) (p : RfS), vs = [g'.rv x p] ∧ TJ [n101, n57, n29] w0 w' n d F ln g x p ∧ RelD N d x ∧ CS d (SS N) ∧ d.pd.length ≤ (i + 1) * 32768) ?_ ?_
    case refine_2 =>
      refine Bd_in fun b429 hb429 => If_in (fun hk4 => ?_) fun hk4 => ?_
      · refine T1.crash o.n o.m hp30 fun F3 w431 T2 => T2.w118 D o.n o.m fun x' p' w434 T3 D3 w443 m443 hl443 => ?_
        exact ⟨_, F3, g, x', p', rfl, T3.up m443 (by simp), D3, W.crash o.n o.m, Nat.zero_le _⟩
      · exact ⟨d, F, g, x, p, rfl, T1, D, W.cs, hp1⟩
    rintro us vs w364 ⟨d, F, g', x, p, rfl, T2, D, hCS, hpd2⟩
    obtain ⟨rs, q, hpar, W2, okr⟩ := JW.opened hCS h3
    have hdl : d.bl.length = N := hCS.now.1
    refine opAg_in <| opL_in <| opL_in <| opI_in <| opI_in <| opI_in <| opB_in <| SzIs_in rfl <| in136 T2.js.ds (by rw [hdl]; exact h3) T2.lt (fun w' hn _ _ => by rw [hpar] at hn; cases hn) fun rs' q' l2 a380 c382 bx w377 hs J377 hlo hbx R377 m377 n384 hn384 w385 m385 hl385 => ?_
    rw [hpar] at hs
    simp only [Option.some.injEq, Prod.mk.injEq] at hs
    obtain ⟨rfl, rfl⟩ := hs
    have T3 := T2.log J377 hlo m377
    have T4 := T3.rg hn384 m385 (by simp) hl385
    have m385' : Md [] w377 w385 := mdUp hn384 m385
    refine in137 (base := w0.heap.size) T4.js.ds.md.size T4.r D h3 hN65 hpar T4.lt fun a400 c402 w387 m387 o387 w404 m404 hl404 => ?_
    have T5 := T4.md0 m387
    have T6 := T5.up m404 (by simp)
    have h57 : n57 < w364.heap.size := T2.lt n57 (by simp)
    have R404 := ((R377.md m385').md m387).mdD m404 (by simp; omega)
    have o404 := o387.mdD m404 (fun B hB hx => by
      have h1 := (o387.lt hB).1
      have h2 := T4.lt n57 (by simp)
      simp at hx; omega)
    have hrl : rs.length < 2 ^ 40 := by
      obtain ⟨_, _, u3⟩ := parseL_bd (areaL_lt d _) hpar
      have := W2.le
      have hh := half_le (d := d) (by omega)
      have hj : jsz d = half d * 64 := rfl
      simp only at this
      omega
    refine jin140 rs rs okr.by okr.by hrl rfl rfl R404 (o404.row enctE) T6.lt fun w406 m406 => ?_
    have T7 := T6.md0 m406
    have hall : ∀ l ∈ rs.map List.length, 1 ≤ l := fun l hl => by
      obtain ⟨r, hr, rfl⟩ := List.mem_map.1 hl
      exact (okr r hr).1
    have hbx57 : n57 < bx := by omega
    have P0 := ((((R377.pb okr.by).md m385').md m387).mdD m404 (by simp; exact hbx57)).md m406
    have htop : w406.heap.size ≥ w377.heap.size := by
      have h1 := m385'.size; have h2 := m387.size; have h3 := m404.size; have h4 := m406.size; omega
    refine Bd_f (by simp) <| Bd_f (by simp) <| Bd_e rfl <| Bd_f (by simp) <| Bd_e rfl <| If_f <| Bd_e rfl ?_
    refine LoopP_in (fun mm us vs w' => ∃ j : Nat, us = [.int .i64 j] ∧ mm = rs.length - j ∧ j ≤ rs.length ∧ TJ [n384, n101, n57, n29] w0 w' n d F l2 ⟨openA d, q, false⟩ x p ∧ PB w' bx w377.heap.size a380 c382 (rs.map List.length)) rs.length
      ⟨0, rfl, rfl, Nat.zero_le _, T7, P0⟩ ?_
    rintro mm us vs w417 ⟨j, rfl, hmm2, hj, T8, P8⟩
    have hF2 := T2.fup
    have hL2 := T2.lt
    have hra := fun A hA => (T2.r.sf.lt (A := A) hA).2
    have hrb := fun A hA => (T2.r.pe.lt (A := A) hA).2
    have hw0 := T2.js.ds.md.size
    clear T1 T3 T4 T5 T6 T7 P0 R404 R377 o387 o404 hix r77 chk hsep13
    refine opI_in <| Bd_in fun b419 hb419 => If_in (fun hc2 => ?_) fun hc2 => ?_
    · have hjl : j < rs.length := by rw [hb419] at hc2; exact Int.ofNat_lt.1 (of_decide_eq_true hc2)
      obtain ⟨u1, pp, v, hv, u2, u3, u4, B, u5, u6, u7, u8, u9⟩ := P8.bump (i := j) (by simpa using hjl) hall
      obtain ⟨P9, m9⟩ := u9 ((v + 1) % 256) (Nat.mod_lt _ (by decide))
      rw [List.length_map] at u1
      have hB1 : l2 < B := Nat.lt_of_lt_of_le hbx u6
      have hB2 : w364.heap.size ≤ B := Nat.le_trans hlo (Nat.le_of_lt hB1)
      have T9 := T8.other m9 (fun y hy hx => by
          rw [List.mem_singleton.1 hy] at hx
          rcases List.mem_cons.1 hx with h | h
          · exact Nat.ne_of_gt hB1 h
          · exact Nat.lt_irrefl _ (Nat.lt_of_lt_of_le (hF2 B (List.mem_cons_of_mem _ h)) hB2)) (fun y hy => by rw [List.mem_singleton.1 hy]; exact Nat.le_trans hw0 hB2)
        (fun y hy A hA e => by rw [List.mem_singleton.1 hy] at e; have := hra A hA; rw [e] at this; exact Nat.lt_irrefl _ (Nat.lt_of_lt_of_le this hB2)) (fun y hy A hA e => by rw [List.mem_singleton.1 hy] at e; have := hrb A hA; rw [e] at this; exact Nat.lt_irrefl _ (Nat.lt_of_lt_of_le this hB2))
      have hnin : (adAt pp.1 (0 : Int) 1).block ∉ [n384, n101, n57, n29] := by
        rw [u5]
        intro hx
        rcases List.mem_cons.1 hx with h | h
        · rw [h] at u7; exact Nat.lt_irrefl _ (Nat.lt_of_lt_of_le u7 hn384)
        · exact Nat.lt_irrefl _ (Nat.lt_of_lt_of_le (hL2 B h) hB2)
      refine ⟨u1, u2 <| opL_in ⟨u3, u4 <| opI_in <| Bd_e (y := (((v + 1) % 256 : Nat) : Int)) (wrap_bump v hv) ⟨u3, hnin, u8, Bd_e (inc_i64 (Nat.lt_trans hjl hrl)) ⟨rs.length - (j + 1), by rw [hmm2]; exact Nat.sub_lt_sub_left hjl (Nat.lt_succ_self j), j + 1, rfl, rfl, hjl, T9, P9⟩⟩⟩⟩
    · exact ⟨d, F, l2, ⟨openA d, q, false⟩, x, p, 0, z, b182, rfl, rfl, T8.sub (by simp), D, W2, hpd2⟩
end Fk
