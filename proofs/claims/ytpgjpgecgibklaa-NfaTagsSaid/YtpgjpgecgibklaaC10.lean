/- The law 'ClassesTells': what its code does. -/
import Derived.Test.YtpgjpgecgibklaaC9
import Derived.Test.YtpgjpgecgibklaaP0
set_option linter.unusedVariables false
set_option linter.unusedSimpArgs false
set_option maxRecDepth 100000
namespace Fk
open Go Go.Proofs Go.RowKit
theorem size23 (w : World) : (Go.sizeOf 23).run Try.prog w = .ok 256 w := by
  have h : (Try.prog.info? 23).map (·.size) = some 256 := by kernel_rfl
  cases hi : Try.prog.info? 23 with
  | none => simp [hi] at h
  | some i => simp [hi] at h; simp [Go.sizeOf, typeInfo, hi, h]
theorem eqCl (w : World) {c d : Cl} (hc : c.ok) (hd : d.ok) : (Op.equalIn 10000 25 (.agg c.v) (.agg d.v)).run Try.prog w = .ok (decide (c.f = d.f) && decide (c.m = d.m)) w := by
  have u23 : Try.prog.underlying 23 = some (.array 256 5) := by kernel_rfl
  have u3 : Try.prog.underlying 3 = some (.int .i64) := by kernel_rfl
  have ex : ∀ {c : Cl}, c.ok → c.v.extract 0 (0 + 256) = (ints .u8 (c.f.map fun x : Nat => (x : Int))).toArray := by
    intro c hc
    apply Array.ext'
    simp [Cl.v, Cl.l, ints, hc.len, List.take_append]
  have many : ∀ {c : Cl}, c.ok → c.v[256]? = some (.int .i64 c.m) := by
    intro c hc
    have := hc.many
    simpa [nthV] using this
  have h5 : (Try.prog.info? 5).isSome = true := by kernel_rfl
  obtain ⟨i5, hi5⟩ := Option.isSome_iff_exists.1 h5
  have h1 := run_equal_ints (P := Try.prog) (w := w) (t := 23) (e := 5) (q := .u8) (n := 256) u23 hi5 (by kernel_rfl) (by kernel_rfl) .u8 (c.f.map fun x : Nat => (x : Int)) (d.f.map fun x : Nat => (x : Int)) (by simp [hc.len]) (by simp [hd.len]) 9997
  have h2 := EqT.int (P := Try.prog) (t := 3) (q := .i64) u3 .i64 9999 w c.m d.m (by omega)
  have a23 : isAggT Try.prog 23 = true := by kernel_rfl
  have a3 : isAggT Try.prog 3 = false := by kernel_rfl
  have p1 := part_agg (P := Try.prog) (w := w) u23 a23 (size23 w) (xs := c.v) (o := 0)
  have p2 := part_agg (P := Try.prog) (w := w) u23 a23 (size23 w) (xs := d.v) (o := 0)
  rw [ex hc] at p1
  rw [ex hd] at p2
  have h := run_struct2 (P := Try.prog) (w := w) (t := 25) (t1 := 23) (t2 := 3) (o1 := 0) (o2 := 256) (d := 9999) (xs := c.v) (ys := d.v) (by kernel_rfl) (by kernel_rfl) (by kernel_rfl) p1 p2 h1
    (part_cell u3 a3 (many hc)) (part_cell u3 a3 (many hd)) h2
  refine h.trans ?_
  congr 1
  rw [Bool.eq_iff_iff]
  have inj : c.f.map (fun x : Nat => (x : Int)) = d.f.map (fun x : Nat => (x : Int)) ↔ c.f = d.f := by
    constructor
    · exact fun h => (List.map_inj_right (fun x y h => by omega)).1 h
    · exact fun h => by rw [h]
  simp only [Bool.and_eq_true, decide_eq_true_eq, inj]
theorem LdN_in {w : World} {A : Addr} {n : Nat} {l : List Value} {K : List Value → Prop} (hl : l.length = n) (h : ∀ j u, l[j]? = some u → w.cell? (A.add j) = some u) (k : K l) : LdN w A n K := by
  have : ∀ (m : Nat) (r : List Value) (i : Nat), l.drop i = r → r.length = m → cellsAt w A i m = some r := by
    intro m
    induction m with
    | zero => intro r i _ hr; have := List.eq_nil_of_length_eq_zero hr; subst this; rfl
    | succ m ih =>
      intro r i he hr
      cases r with
      | nil => simp at hr
      | cons v r =>
        have hv : l[i]? = some v := by rw [← List.head?_drop, he]; rfl
        have ht : l.drop (i + 1) = r := by rw [← List.tail_drop, he]; rfl
        simp only [cellsAt, h i v hv, ih r (i + 1) ht (by simpa using hr)]
  unfold LdN
  rw [this n l 0 (by simp) hl]
  exact k
theorem alloc_at (w : World) (cs : Array Value) (e : TypeId) (o j : Nat) {u : Value} (h : cs[o + j]? = some u) : (w.alloc (.cells cs e)).cell? ((⟨w.heap.size, o, none⟩ : Addr).add j) = some u := by
  rw [Addr.add_lit, cell_of_row _ w.heap.size (o + j) cs e (0, 0) (heap_alloc_new w _)]
  exact h

theorem in41 (fo : Fo) (A : Option Addr) (C : Nat) (hl : fo.len < 2 ^ 40) (hbig : fo.size ≤ 2 ^ 39) {L : List Nat} {w0 w : World} {K : Array Value → Int → World → Prop} (h : Good L w0 w) (hr : RepF w A 0 fo)
    (k : ∀ w' c e, Good L w0 w' → Cl.ok c → (fo.right = true → c = refCl fo.sets ∧ e = 0) → (fo.right = false → c = zCl 0 ∧ e = 2) → K c.v e w') :
    CallW Try.prog L 41 #[.slice A fo.len C] (fun v w' => opTu v fun cs => opBig (nthD cs.toList 0) fun c => c.size = 257 ∧ opI .i64 (nthD cs.toList 1) fun e => SzIs cs.size 2 (K c e w')) w := by
  refine (f41_ok fo A C w hr hl hbig).call h.2 ?_
  rintro v w' rfl h'
  cases hf : fo.right with
  | true =>
    rw [if_pos rfl]
    refine opTu_in ?_
    have hok := refCl_ok fo.sets
    refine opBig_in ⟨hok.size, ?_⟩
    refine opI_in ?_
    exact SzIs_in rfl (k w' _ 0 (h.tr h') hok (fun _ => ⟨rfl, rfl⟩) (fun h => by simp [hf] at h))
  | false =>
    rw [if_neg (by simp)]
    refine opTu_in ?_
    have hok : (zCl 0).ok := zCl_ok (by omega) (by omega)
    refine opBig_in ⟨hok.size, ?_⟩
    refine opI_in ?_
    exact SzIs_in rfl (k w' _ 2 (h.tr h') hok (fun h => by simp [hf] at h) (fun _ => ⟨rfl, rfl⟩))
theorem in43 (c : Cl) (hc : c.ok) (k : Int) {L : List Nat} {w0 w : World} {K : Int → Bool → World → Prop} (h : Good L w0 w) (kk : ∀ w', Good L w0 w' → K (c.firstR k).1 (c.firstR k).2 w') :
    CallW Try.prog L 43 #[.agg c.v, .int .i64 k] (fun v w' => opTu v fun cs => opI .u8 (nthD cs.toList 0) fun x => opB (nthD cs.toList 1) fun b => SzIs cs.size 2 (K x b w')) w := by
  refine (f43_ok c hc k w).call h.2 ?_
  rintro v w' rfl h'
  refine opTu_in ?_
  refine opI_in ?_
  refine opB_in ?_
  exact SzIs_in rfl (kk w' (h.tr h'))
theorem in44 (c : Cl) (hc : c.ok) {L : List Nat} {w0 w : World} {K : Bool → World → Prop} (h : Good L w0 w) (kk : ∀ w', Good L w0 w' → K c.right w') : CallW Try.prog L 44 #[.agg c.v] (fun v w' => opB v fun b => K b w') w := by
  refine (f44_ok c hc w).call h.2 ?_
  rintro v w' rfl h'
  exact opB_in (kk w' (h.tr h'))
theorem in45 (c : Cl) (hc : c.ok) {L : List Nat} {w0 w : World} {K : Bool → World → Prop} (h : Good L w0 w) (kk : ∀ w', Good L w0 w' → K c.rightR w') : CallW Try.prog L 45 #[.agg c.v] (fun v w' => opB v fun b => K b w') w := by
  refine (f45_ok c hc w).call h.2 ?_
  rintro v w' rfl h'
  exact opB_in (kk w' (h.tr h'))
theorem in47 (c : Cl) (hc : c.ok) (q : Q4) {L : List Nat} {w0 w : World} {K : Bool → World → Prop} (h : Good L w0 w) (kk : ∀ w', Good L w0 w' → K (c.fitsR q) w') :
    CallW Try.prog L 47 #[.agg c.v, .agg #[.int .u64 q.1, .int .u64 q.2.1, .int .u64 q.2.2.1, .int .u64 q.2.2.2]] (fun v w' => opB v fun b => K b w') w := by
  refine (f47_ok c hc q w).call h.2 ?_
  rintro v w' rfl h'
  exact opB_in (kk w' (h.tr h'))
theorem in38 (fo : Fo) (A : Option Addr) (C : Nat) (hl : fo.len < 2 ^ 63) {L : List Nat} {w0 w : World} {K : Bool → World → Prop} (h : Good L w0 w) (hr : RepF w A 0 fo) (kk : ∀ w' b, Good L w0 w' → (b = true → fo.few) → K b w') :
    CallW Try.prog L 38 #[.slice A fo.len C] (fun v w' => opB v fun b => K b w') w := by
  refine (f38_ok fo A C w hr hl).call h.2 ?_
  rintro v w' ⟨b, rfl, hb⟩ h'
  exact opB_in (kk w' b (h.tr h') hb)
theorem in39 {L : List Nat} {w0 w : World} {K : Bool → World → Prop} (h : Good L w0 w) (kk : ∀ w', Good L w0 w' → K true w') : CallW Try.prog L 39 #[] (fun v w' => opB v fun b => K b w') w := by
  refine (awake_ok w).call h.2 ?_
  rintro v w' rfl h'
  exact opB_in (kk w' (h.tr h'))
theorem f3_ok (fo : Fo) (A : Option Addr) (C : Nat) (c : Cl) (hc : c.ok) (k : Int) (q : Q4) (w : World) (hr : RepF w A 0 fo) (hl : fo.len < 2 ^ 63) :
    Ct Try.prog 3 #[.slice A fo.len C, .agg c.v, .int .i64 k, .agg #[.int .u64 q.1, .int .u64 q.2.1, .int .u64 q.2.2.1, .int .u64 q.2.2.2]] w fun v w' => v = .bool true ∧ Md [] w w' := by
  apply f3_in
  intro n1 hn1 n2 hn2 w3 h3 hL3
  have g3 : Good [n2, n1] w w3 := ⟨h3, hL3⟩
  refine in38 fo A C hl g3 (hr.md h3) fun w5 b6 g5 hfew => ?_
  refine Bd_in fun b7 hb7 => If_in (fun _ => in39 g5 fun w9 g9 => ⟨rfl, g9.1⟩) fun hb => ?_
  have hf : fo.few := hfew (by rw [hb7] at hb; simpa using hb)
  have hl' : fo.len < 2 ^ 40 := by have := hf.1; omega
  have hs' : fo.size ≤ 2 ^ 39 := by have := hf.2; omega
  refine in40 fo A C hl' hs' g5 (hr.md g5.1) fun w12 c1 e1 g12 hc1 hy1 hn1' => ?_
  refine ⟨hc1.size, fun n16 hn16 => OkC_in hc1.cells fun w17 h17 hL17 => ?_⟩
  have g17 := regUp g12 hn16 h17 hL17
  refine in41 fo A C hl' hs' g17 (hr.md g17.1) fun w19 c2 e2 g19 hc2 hy2 hn2' => ?_
  have he : c1 = c2 ∧ e1 = e2 := by
    cases hf : fo.right with
    | true => rw [(hy1 hf).1, (hy1 hf).2, (hy2 hf).1, (hy2 hf).2, clOf_ref]; exact ⟨rfl, rfl⟩
    | false => rw [(hn1' hf).1, (hn1' hf).2, (hn2' hf).1, (hn2' hf).2]; exact ⟨rfl, rfl⟩
  obtain ⟨rfl, rfl⟩ := he
  refine ⟨hc1.size, fun n23 hn23 => OkC_in hc1.cells ⟨hc1.size, hc1.size, fun w24 h24 hL24 => ?_⟩⟩
  have g24 := regUp g19 hn23 h24 hL24
  refine RunW_in0 (eqS_of (by kernel_rfl) (eqCl w24 hc1 hc1) _ _).2 ?_
  refine opB_in <| Bd_in fun b28 hb28 => Bd_in fun b29 hb29 => If_in (fun h => absurd h (by rw [hb29, hb28]; simp)) fun _ => ⟨hc.size, hc1.size, SzIs_in hc.size <| SzIs_in hc1.size ?_⟩
  intro n30 w31 e30 e31
  subst e30; subst e31
  have g31 := g24.alloc (.cells (List.toArray (flat [(0, .agg c.v), (1, .agg c1.v)])) 25)
  have hcells : ∀ (i : Nat) (x : Cl), [c, c1][i]? = some x → ∀ j u, x.l[j]? = some u → (List.toArray (flat [(0, .agg c.v), (1, .agg c1.v)]))[i * 257 + j]? = some u := by
    intro i x hx j u hu
    have h1 : c.l.length = 257 := by simp [Cl.l, hc.len]
    have h2 : c1.l.length = 257 := by simp [Cl.l, hc1.len]
    have h3 : (List.toArray (flat [(0, .agg c.v), (1, .agg c1.v)]))[i * 257 + j]? = (c.l ++ c1.l)[i * 257 + j]? := by simp [flat, cL, Cl.v, Value.cells]
    rw [h3]
    have hj := (List.getElem?_eq_some_iff.1 hu).1
    match i, hx with
    | 0, hx =>
      simp at hx; subst hx
      rw [List.getElem?_append_left (by omega), Nat.zero_mul, Nat.zero_add]; exact hu
    | 1, hx =>
      simp at hx; subst hx
      rw [List.getElem?_append_right (by omega), h1, show 1 * 257 + j - 257 = j by omega]; exact hu
    | i + 2, hx => simp at hx
  have hboth : ∀ x ∈ [c, c1], Cl.ok x := by
    intro x hx
    simp at hx
    rcases hx with rfl | rfl <;> assumption
  refine Bd_in fun x32 hx32 => ?_
  subst hx32
  generalize e30 : w24.heap.size = n30 at *
  refine LoopP_in (fun m us vs w' => ∃ i : Nat, us = [.bool false, .int .i64 i] ∧ vs = [] ∧ m = 2 - i ∧ i ≤ 2 ∧ Good [n23, n16, n2, n1] w w' ∧ Md [] (w24.alloc (.cells (List.toArray (flat [(0, .agg c.v), (1, .agg c1.v)])) 25)) w') 2 ⟨0, rfl, rfl, rfl, by omega, g31, Md.refl _ _⟩ ?_
  rintro m us vs w36 ⟨i, rfl, rfl, rfl, hi, g36, h36⟩
  refine opB_in <| opI_in <| Bd_in fun b39 hb39 => If_in (fun h => ?_) fun h => in39 g36 fun w88 g88 => ⟨rfl, g88.1⟩
  subst hb39
  simp only [decide_eq_true_eq] at h
  have hi2 : i < 2 := by omega
  obtain ⟨x, hx⟩ : ∃ x, [c, c1][i]? = some x := by
    match i, hi2 with
    | 0, _ => exact ⟨c, rfl⟩
    | 1, _ => exact ⟨c1, rfl⟩
  have hxo : x.ok := hboth x (List.mem_of_getElem? hx)
  have hlen : x.l.length = 257 := by simp [Cl.l, hxo.len]
  refine ⟨⟨by omega, by omega, rfl⟩, LdN_in (l := x.l) hlen ?_ <| Bd_in fun cs41 hcs => ?_⟩
  · intro j u hu
    refine h36.cell0 ?_
    subst e30
    show World.cell? _ (((⟨w24.heap.size, 0, none⟩ : Addr).add ((i : Int).toNat * 257)).add j) = some u
    rw [Int.toNat_natCast, show (⟨w24.heap.size, 0, none⟩ : Addr).add (i * 257) = ⟨w24.heap.size, i * 257, none⟩ by rw [Addr.add_lit, Nat.zero_add]]
    exact alloc_at w24 _ 25 (i * 257) j (hcells i x hx j u hu)
  have e41 : cs41 = x.v := hcs
  subst e41
  refine ⟨hxo.size, fun n42 hn42 => OkC_in hxo.cells ⟨hxo.size, fun w43 h43 hL43 => ?_⟩⟩
  have g43 := regUp g36 hn42 h43 hL43
  have hm43 : Md [] (w24.alloc (.cells (List.toArray (flat [(0, .agg c.v), (1, .agg c1.v)])) 25)) w43 := h36.trans (h43.fresh (by simpa using hn42))
  have base : Good [n42, n23, n16, n2, n1] (w24.alloc (.cells (List.toArray (flat [(0, .agg c.v), (1, .agg c1.v)])) 25)) w43 := ⟨hm43, hL43⟩
  refine in42 x hxo k base fun w45 g45 => ⟨hxo.size, ?_⟩
  refine in43 x hxo k g45 fun w50 g50 => ?_
  refine Jn_in (fun us vs w' => us = [.bool false] ∧ Good [n42, n23, n16, n2, n1] (w24.alloc (.cells (List.toArray (flat [(0, .agg c.v), (1, .agg c1.v)])) 25)) w') ?_ ?_
  · rintro us vs w56 ⟨rfl, g56⟩
    refine opB_in <| If_in (fun h => by cases h) fun _ => Bd_in fun x58 hx58 => ?_
    rw [inc_i64 (by omega)] at hx58
    subst hx58
    exact ⟨2 - (i + 1), by omega, i + 1, rfl, rfl, rfl, by omega, ⟨g31.1.trans g56.1, fun b hb => g56.2 b (List.mem_cons_of_mem _ hb)⟩, g56.1⟩
  refine ⟨hxo.size, hxo.size, in44 x hxo g50.drew fun w61 g61 => in45 x hxo g61 fun w64 g64 => ?_⟩
  refine Bd_in fun b66 hb66 => Bd_in fun b67 hb67 => Bd_in fun b68 hb68 => Bd_in fun b69 hb69 => Bd_in fun b70 hb70 => ⟨fun _ => hxo.size, fun _ => hxo.size, ?_⟩
  have t70 : b70 = false := by
    rw [hb70, hb69, hb68, hb67, hb66, right_iff hxo, first_eq hxo]
    cases x.rightR <;> cases (x.firstR k).2 <;> simp
  clear hb70
  subst t70
  refine ⟨fun _ => in46 x hxo q g64 fun w75 g75 => ⟨fun _ => in47 x hxo q g75 fun w81 g81 => Bd_in fun b85 hb85 => Bd_in fun b86 hb86 => ⟨?_, g81⟩, fun h => by cases h⟩, fun h => by cases h⟩
  rw [hb86, hb85, fits_eq hxo]
  cases x.fitsR q <;> rfl
end Fk
