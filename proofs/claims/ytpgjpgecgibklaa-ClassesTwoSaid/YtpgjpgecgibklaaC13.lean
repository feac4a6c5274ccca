/- The law 'ClassesMore': what its code does. -/
import Derived.Test.YtpgjpgecgibklaaC12
import Derived.Laws.Slices
set_option linter.unusedVariables false
set_option linter.unusedSimpArgs false
set_option maxRecDepth 100000
namespace Fk
open Go Go.Proofs Go.RowKit
theorem addr_add0 (A : Addr) : A.add 0 = A := by unfold Addr.add; simp
/-- The first ones of a slice. -/
theorem slice_front {P : Program} {t e : TypeId} (ht : P.underlying t = some (.slice e)) (hs : ∀ w, ∃ s, (Go.sizeOf e).run P w = .ok s w) (w : World) (a : Option Addr) (n c m : Nat) (h : m ≤ c) :
    (Instr.sliceAt t (.slice a n c) none (some (.int .i64 (m : Int))) none).run P w = .ok (.slice a m c) w := by
  have he : P.elem t = e := by simp [Program.elem, ht]
  have ht' : P.underlying t = some (.slice (P.elem t)) := by rw [he]; exact ht
  rw [run_sliceAt_slice w t _ _ _ _ ht', run_slice_h w t a n c ht' .i64 m (by omega) (by omega), he]
  obtain ⟨s, hs⟩ := hs w
  rw [hs]
  simp only [Result.andThen, sliced, Int.toNat_natCast, Nat.sub_zero, Nat.zero_mul]
  congr 2
  split
  · rfl
  · cases a with
    | none => rfl
    | some A => simp [addr_add0]
theorem size42 (w : World) : ∃ s, (Go.sizeOf 42).run Try.prog w = .ok s w := by
  have h : (Try.prog.info? 42).map (·.size) = some 6 := by kernel_rfl
  cases hi : Try.prog.info? 42 with
  | none => simp [hi] at h
  | some i => exact ⟨i.size, by simp [Go.sizeOf, typeInfo, hi]⟩
def Fo.take : Nat → Fo → Fo
  | 0, _ => .nil
  | _, .nil => .nil
  | n + 1, .cons k a b c d q r => .cons k a b c d q (r.take n)
def Fo.drop : Nat → Fo → Fo
  | 0, x => x
  | _, .nil => .nil
  | n + 1, .cons k a b c d q r => r.drop n
theorem Fo.take_len : ∀ (n : Nat) (x : Fo), n ≤ x.len → (x.take n).len = n
  | 0, x, _ => by cases x <;> rfl
  | n + 1, .nil, h => by simp [Fo.len] at h
  | n + 1, .cons k a b c d q r, h => by simp only [Fo.len, Fo.take] at h ⊢; rw [Fo.take_len n r (by omega)]
theorem Fo.take_size : ∀ (n : Nat) (x : Fo), (x.take n).size ≤ x.size
  | 0, x => by cases x <;> simp [Fo.take, Fo.size]
  | n + 1, .nil => by simp [Fo.take]
  | n + 1, .cons k a b c d q r => by have := Fo.take_size n r; simp only [Fo.size, Fo.take]; omega
theorem Fo.take_right : ∀ (n : Nat) (x : Fo), x.right = true → (x.take n).right = true
  | 0, x, _ => by cases x <;> rfl
  | n + 1, .nil, h => rfl
  | n + 1, .cons k a b c d q r, h => by
    simp only [Fo.right, Bool.and_eq_true, Fo.take] at h ⊢
    exact ⟨h.1, Fo.take_right n r h.2⟩
theorem Fo.take_sets : ∀ (n : Nat) (x : Fo), x.sets = (x.take n).sets ++ (x.drop n).sets
  | 0, x => by cases x <;> rfl
  | n + 1, .nil => rfl
  | n + 1, .cons k a b c d q r => by simp only [Fo.sets, Fo.take, Fo.drop]; rw [Fo.take_sets n r]; simp
theorem RepF.take {w : World} : ∀ (n : Nat) {A : Option Addr} {i : Nat} {x : Fo}, RepF w A i x → RepF w A i (x.take n)
  | 0, A, i, x, _ => by cases x <;> trivial
  | n + 1, A, i, .nil, h => trivial
  | n + 1, A, i, .cons k a b c d q r, h => by
    simp only [RepF, Fo.take] at h ⊢
    exact ⟨h.1, RepF.take n h.2⟩
/-- .. with what is known of the row's capacity. -/
theorem in48c (fo : Fo) (A : Option Addr) (C : Nat) (hl : fo.len < 2 ^ 40) {L : List Nat} {w0 w : World} {K : Option Addr → Nat → Nat → World → Prop} (h : Good L w0 w) (hr : RepF w A 0 fo)
    (kk : ∀ w' a c, Good L w0 w' → RepF w' a 0 fo.good → fo.good.len ≤ c → K a fo.good.len c w') :
    CallW Try.prog L 48 #[.slice A fo.len C] (fun v w' => opL v fun a n c => K a n c w') w := by
  refine (f48_ok fo A C w hr hl).call h.2 ?_
  rintro v w' ⟨a, c, L', rfl, ho, hT⟩ h'
  have hrep : RepF w' a 0 fo.good := TrF.rep (ho.row enc6) hT rfl
  refine opL_in ?_
  have hcap : L'.length ≤ c := by
    rcases ho.2 with ⟨hv, hn⟩ | ⟨g, cap, cur, hv, _, _, hnc, _⟩
    · rw [hn]; exact Nat.zero_le _
    · simp only [Value.slice.injEq] at hv; rw [hv.2.2]; exact hnc
  rw [hT.len] at hcap ⊢
  exact kk w' a c (h.tr h') hrep hcap
theorem in40n (fo : Fo) (n : Nat) (hn : fo.len = n) (A : Option Addr) (C : Nat) (hl : fo.len < 2 ^ 40) (hbig : fo.size ≤ 2 ^ 39) {L : List Nat} {w0 w : World} {K : Array Value → Int → World → Prop} (h : Good L w0 w) (hr : RepF w A 0 fo)
    (k : ∀ w' c e, Good L w0 w' → Cl.ok c → (fo.right = true → c = clOf fo.sets ∧ e = 0) → (fo.right = false → c = zCl 0 ∧ e = 2) → K c.v e w') :
    CallW Try.prog L 40 #[.slice A n C] (fun v w' => opTu v fun cs => opBig (nthD cs.toList 0) fun c => c.size = 257 ∧ opI .i64 (nthD cs.toList 1) fun e => SzIs cs.size 2 (K c e w')) w := by
  subst hn
  exact in40 fo A C hl hbig h hr k
theorem Cl.ok.byteI {c : Cl} (h : c.ok) {i : Nat} (hi : i < 256) : ∃ x : Nat, x < 256 ∧ c.f[i]? = some x ∧ isI .u8 c.v.toList (0 + (i : Int).toNat * 1) ∧ rdI c.v.toList (0 + (i : Int).toNat * 1) = (x : Int) := by
  have hi' : i < c.f.length := by rw [h.len]; exact hi
  exact ⟨c.f[i], h.lt i hi', List.getElem?_eq_getElem hi', h.nthI hi'⟩
theorem f5_ok (fo : Fo) (A : Option Addr) (C : Nat) (few a b : Nat) (hfw : few < 256) (ha : a < 256) (hb : b < 256) (w : World) (hr : RepF w A 0 fo) (hl : fo.len < 2 ^ 63) :
    Ct Try.prog 5 #[.slice A fo.len C, .int .u8 few, .int .u8 a, .int .u8 b] w fun v w' => v = .bool true ∧ Md [] w w' := by
  apply f5_in
  have g0 : Good [] w w := ⟨Md.refl _ _, by simp⟩
  refine in38 fo A C hl g0 hr fun w2 b3 g2 hfew => ?_
  refine Bd_in fun b4 hb4 => If_in (fun _ => in39 g2 fun w9 g9 => ⟨rfl, g9.1⟩) fun hb' => ?_
  have hf : fo.few := hfew (by rw [hb4] at hb'; simpa using hb')
  have hl' : fo.len < 2 ^ 40 := by have := hf.1; omega
  refine in48c fo A C hl' g2 (hr.md g2.1) fun w9 a10 c10 g9 hr9 hcap => ?_
  have h09 := g9.1
  clear g9
  have g9 : Good [] w9 w9 := ⟨Md.refl _ _, by simp⟩
  have hgl := fo.good_len
  have hgs := fo.good_size
  have hf1 := hf.1
  have hf2 := hf.2
  have hgr := fo.good_right
  generalize fo.good = G at *
  refine Jn_in (fun us vs w' => ∃ n : Nat, n ≤ G.len ∧ us = [.int .i64 n] ∧ w' = w9) ?_ ?_
  rotate_left
  · refine Bd_in fun x114 hx114 => Bd_in fun b115 hb115 => If_in (fun h => Bd_in fun x116 hx116 => Bd_in fun x117 hx117 => Bd_in fun x118 hx118 => ?_) fun h => ⟨0, by omega, rfl, rfl⟩
    have e116 : x116 = (few : Int) := by rw [hx116, wrap_byte hfw]
    have e118 : x118 = ((G.len + 1 : Nat) : Int) := by rw [hx118, hx117, inc_i64 (by omega)]
    subst e116; subst e118
    refine ⟨by omega, Bd_in fun x119 hx119 => ⟨few % (G.len + 1), by have := Nat.mod_lt few (show 0 < G.len + 1 by omega); omega, ?_, rfl⟩⟩
    rw [hx119, Int.tmod_eq_emod_of_nonneg (by omega)]
    simp
  rintro us vs w15 ⟨n, hn, rfl, rfl⟩
  refine opI_in ?_
  refine RunW_in0 (slice_front (e := 42) (by kernel_rfl) size42 _ _ _ _ _ (by omega)) ?_
  refine opL_in ?_
  have htl := Fo.take_len n G hn
  have hts := Fo.take_size n G
  have hsets := Fo.take_sets n G
  refine in40n (G.take n) n htl a10 c10 (by omega) (by omega) g9 (hr9.take n) fun w23 c1 e1 g23 hc1 hy1 _ => ?_
  obtain ⟨rfl, rfl⟩ := hy1 (Fo.take_right n G hgr)
  rw [clOf_ref] at hc1 ⊢
  refine ⟨hc1.size, fun n27 hn27 => OkC_in hc1.cells fun w28 h28 hL28 => ?_⟩
  have g28 := regUp g23 hn27 h28 hL28
  refine in40 G a10 c10 (by omega) (by omega) g28 (hr9.md g28.1) fun w30 c2 e2 g30 hc2 hy2 _ => ?_
  obtain ⟨rfl, rfl⟩ := hy2 hgr
  rw [clOf_ref, hsets] at hc2 ⊢
  generalize (G.take n).sets = S1 at *
  generalize (G.drop n).sets = S2 at *
  refine ⟨hc2.size, fun n34 hn34 => OkC_in hc2.cells fun w35 h35 hL35 => ?_⟩
  have g35 := (regUp g30 hn34 h35 hL35).drew
  have hpos := ref_many_pos (S1 ++ S2)
  have hmono := ref_many_mono S1 S2
  obtain ⟨xa, hxa, hca, hia, hra⟩ := hc1.byteI ha
  obtain ⟨xb, hxb, hcb, hib, hrb⟩ := hc1.byteI hb
  obtain ⟨ya, hya, hda, hja, hsa⟩ := hc2.byteI ha
  obtain ⟨yb, hyb, hdb, hjb, hsb⟩ := hc2.byteI hb
  refine Bd_in fun b36 hb36 => Bd_in fun b37 hb37 => Bd_in fun b38 hb38 => ⟨fun _ => hc2.manyI.1, Bd_in fun x40 hx40 => Bd_in fun b41 hb41 => Bd_in fun b42 hb42 => ⟨fun _ => hc2.manyI.1, Bd_in fun x44 hx44 => ⟨fun _ => hc1.manyI.1, Bd_in fun x46 hx46 => Bd_in fun b47 hb47 => Bd_in fun b48 hb48 => ?_⟩⟩⟩
  have t48 : b48 = false := by
    rw [hb48, hb47, hb42, hb41, hb38, hb37, hb36, hx46, hx44, hx40, hc1.manyI.2, hc2.manyI.2]
    simp; omega
  clear hb48
  subst t48
  refine ⟨fun _ => ⟨by omega, by omega⟩, fun _ => hia, Bd_in fun x51 hx51 => ⟨fun _ => ⟨by omega, by omega⟩, fun _ => hib, Bd_in fun x54 hx54 => Bd_in fun b55 hb55 => ⟨fun _ => ⟨by omega, by omega⟩, fun _ => hja, Bd_in fun x58 hx58 => ⟨fun _ => ⟨by omega, by omega⟩, fun _ => hjb, Bd_in fun x61 hx61 => Bd_in fun b62 hb62 => Bd_in fun b63 hb63 => Bd_in fun b64 hb64 => ?_⟩⟩⟩⟩
  have t64 : b64 = false := by
    rw [hb64, hb63, hb62, hb55, hx61, hx58, hx54, hx51, hra, hrb, hsa, hsb]
    by_cases he : xa = xb
    · simp [he]
    · have h1 : ¬ ya = yb := by
        intro e
        have h2 := (ref_lab_iff (S1 ++ S2) ha hb).1 (by rw [hda, hdb, e])
        have h3 := (ref_lab_iff S1 ha hb).2 fun q hq => h2 q (List.mem_append_left _ hq)
        rw [hca, hcb] at h3
        exact he (Option.some.inj h3)
      have h1' : ¬ (ya : Int) = (yb : Int) := by omega
      simp [h1']
  clear hb64
  refine If_in (fun h => absurd h (by simp [t64])) fun _ => Bd_in fun x65 hx65 => BdO_in hc2.many ?_
  rw [wrap_byte ha] at hx65
  subst hx65
  refine opI_in ⟨by omega, Bd_in fun x68 hx68 => ?_⟩
  have hk : ∃ k : Nat, x68 = (k : Int) ∧ (k : Int) < (refCl (S1 ++ S2)).m := by
    rw [hx68, Int.tmod_eq_emod_of_nonneg (by omega)]
    have h1 := Int.emod_nonneg (a : Int) (show (refCl (S1 ++ S2)).m ≠ 0 by omega)
    have h2 := Int.emod_lt_of_pos (a : Int) (show 0 < (refCl (S1 ++ S2)).m by omega)
    exact ⟨((a : Int) % (refCl (S1 ++ S2)).m).toNat, by omega, by omega⟩
  obtain ⟨k, rfl, hkm⟩ := hk
  obtain ⟨fb, hfb, hfirst, hfk, hbelow⟩ := ref_first (S1 ++ S2) k hkm
  obtain ⟨z, hz, hdz, hjz, hsz⟩ := hc2.byteI hfb
  have ez : z = k := by rw [hfk] at hdz; exact (Option.some.inj hdz).symm
  subst ez
  refine ⟨hc2.size, in42 _ hc2 _ g35 fun w70 g70 => ?_⟩
  rw [hfirst]
  refine Bd_in fun b74 hb74 => ⟨fun _ => ⟨by omega, by omega⟩, fun _ => hjz, Bd_in fun x77 hx77 => Bd_in fun x78 hx78 => Bd_in fun b79 hb79 => Bd_in fun b80 hb80 => Bd_in fun x81 hx81 => Bd_in fun x82 hx82 => Bd_in fun b83 hb83 =>
    ⟨fun _ => ⟨by omega, by omega⟩, fun _ => hjb, Bd_in fun x86 hx86 => Bd_in fun x87 hx87 => Bd_in fun b88 hb88 => Bd_in fun b89 hb89 => Bd_in fun b90 hb90 => ?_⟩⟩
  have t90 : b90 = false := by
    rw [hb90, hb89, hb88, hb83, hb80, hb79, hb74, hx87, hx86, hx82, hx81, hx78, hx77, hsb, hsz, wrap_byte hyb, wrap_byte hz, wrap_byte hb, wrap_byte hfb]
    by_cases hlt : b < fb
    · have := hbelow b yb hlt hdb
      simp; omega
    · simp; omega
  clear hb90
  refine If_in (fun h => absurd h (by simp [t90])) fun _ => ⟨hc2.size, BdO_in hc2.many ?_⟩
  refine opI_in ?_
  have hno : ∀ x : Int, ¬ (0 ≤ x ∧ x < (refCl (S1 ++ S2)).m) → (refCl (S1 ++ S2)).first x = (0, false) := by
    intro x hx
    unfold Cl.first
    rw [if_neg fun h => hx h.2]
  refine in42 _ hc2 _ g70 fun w94 g94 => ⟨hc2.size, in42 _ hc2 _ g94 fun w99 g99 => ?_⟩
  rw [hno _ (by omega), hno _ (by omega)]
  refine Bd_in fun b103 hb103 => Bd_in fun b104 hb104 => Bd_in fun b105 hb105 => ?_
  have t105 : b105 = true := by rw [hb105, hb104, hb103]; rfl
  clear hb105
  subst t105
  exact ⟨fun _ => in39 g99 fun w108 g108 => Bd_in fun b112 hb112 => ⟨by rw [hb112]; rfl, h09.trans g108.1⟩, fun h => by cases h⟩
end Fk
