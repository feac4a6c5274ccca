/- First machines: trees in another order (NfaOrder), the walk. -/
import Derived.Test.YtpgjpgecgibklaaN27
set_option linter.unusedVariables false
set_option linter.unusedSimpArgs false
set_option maxRecDepth 100000
set_option maxHeartbeats 2000000
namespace Fk
open Go Go.Proofs Go.RowKit
def zTr : Tr := ⟨0, (0, 0, 0, 0), none, 0, 0⟩
def zF : Nat → Fo
  | 0 => .nil
  | n + 1 => .cons 0 0 0 0 0 .nil (zF n)
theorem zF_len : ∀ n, (zF n).len = n
  | 0 => rfl
  | n + 1 => by simp [zF, Fo.len, zF_len n]
theorem zF_tr (w : World) : ∀ n, TrF w (List.replicate n zTr) (zF n)
  | 0 => trivial
  | n + 1 => ⟨⟨rfl, rfl, rfl, by simp [Fo.len], trivial⟩, zF_tr w n⟩
theorem made22c (n : Nat) : (madeCells (Value.agg #[.int .u8 0, .int .u64 0, .int .u64 0, .int .u64 0, .int .u64 0, .slice none 0 0]).cells (n * 6)).toList = (List.replicate n zTr).flatMap tr6 := by
  have hsz : (Value.agg #[.int .u8 0, .int .u64 0, .int .u64 0, .int .u64 0, .int .u64 0, .slice none 0 0]).cells = #[.int .u8 0, .int .u64 0, .int .u64 0, .int .u64 0, .int .u64 0, .slice none 0 0] := rfl
  rw [hsz]
  have hlen := enc6.lenL (List.replicate n zTr)
  rw [List.length_replicate] at hlen
  apply List.ext_getElem?
  intro i
  by_cases h : i < n * 6
  · have hm : i % 6 < 6 := Nat.mod_lt _ (by omega)
    have he := enc6.at (List.replicate n zTr) (i / 6) (i % 6) zTr (by rw [List.getElem?_replicate, if_pos (by omega)]) hm
    rw [show i / 6 * 6 + i % 6 = i by omega] at he
    rw [he, Array.getElem?_toList]
    simp only [madeCells, Array.getElem?_map, Array.getElem?_range, h, if_true, Option.map_some]
    have e6 : (#[Value.int .u8 0, .int .u64 0, .int .u64 0, .int .u64 0, .int .u64 0, .slice none 0 0] : Array Value).size = 6 := rfl
    rw [e6]
    generalize i % 6 = r at hm
    rcases (by omega : r = 0 ∨ r = 1 ∨ r = 2 ∨ r = 3 ∨ r = 4 ∨ r = 5) with rfl | rfl | rfl | rfl | rfl | rfl <;> rfl
  · rw [List.getElem?_eq_none (by simp [madeCells]; omega), List.getElem?_eq_none (by omega)]
theorem made22 (w : World) : ∃ w', (Instr.makeSlice 22 (.int .i64 201) (.int .i64 201)).run Try.prog w = .ok (.slice (some ⟨w.heap.size, 0, none⟩) 201 201) w' ∧ OwnL w' w.heap.size 42 6 tr6 (some ⟨w.heap.size, 0, none⟩) 201 (List.replicate 201 zTr) ∧ Md [] w w' := by
  have h4 : (Try.prog.info? 42).isSome = true := by kernel_rfl
  obtain ⟨i4, hi4⟩ := Option.isSome_iff_exists.1 h4
  have hz4 : (Try.prog.info? 42).bind (·.zero) = some (.agg #[.int .u8 0, .int .u64 0, .int .u64 0, .int .u64 0, .int .u64 0, .slice none 0 0]) := by kernel_rfl
  have hs4 : (Try.prog.info? 42).map (fun i => (i.size, i.bytes)) = some (6, 64) := by kernel_rfl
  rw [hi4] at hz4 hs4
  simp only [Option.bind_some, Option.map_some, Option.some.injEq, Prod.mk.injEq] at hz4 hs4
  obtain ⟨w3, hrun, hown, hgr⟩ := run_makeSlice_full (P := Try.prog) w w.heap.size 22 42 i4 _ 6 (by kernel_rfl) hi4 hz4 hs4.1 .i64 .i64 201 (by omega) (by rw [hs4.2]; omega) (by simp [maxLen]) (Nat.le_refl _)
  refine ⟨w3, hrun, ?_, Md_of_grown hgr⟩
  rw [made22c] at hown
  unfold OwnL
  rw [List.length_replicate]; exact hown
theorem bld_nil (m : Int) : bld .nil m = ((0, []), 2) := by unfold bld; rw [if_neg (by simp [Fo.len])]
theorem bld_many (m : Int) : bld (zF 201) m = ((0, []), 2) := by unfold bld; rw [if_neg (by rw [zF_len]; omega)]
theorem bld_over (g : Fo) : bld g 20001 = ((0, []), 2) := by unfold bld; rw [if_neg (by omega)]
theorem f18_ok (f : Fo) (A : Option Addr) (C : Nat) (s : List Nat) (hs : ∀ x ∈ s, x < 256) (w : World) (hr : RepF w A 0 f) (hl : f.len ≤ 2 ^ 41) :
    Ct Try.prog 18 #[.slice A f.len C, .string (bytesOf s)] w fun v w' => v = .bool true ∧ Md [] w w' := by
  apply f18_in
  refine Nw_i ?_
  have m2 : Md [] w (w.alloc (.cells #[.string (bytesOf s)] 9)) := Md.alloc w _
  have b2 : Blk (w.alloc (.cells #[.string (bytesOf s)] 9)) w.heap.size 9 [.string (bytesOf s)] := Blk.new w _ 9
  have hn2 : w.heap.size < (w.alloc (.cells #[.string (bytesOf s)] 9)).heap.size := b2.lt
  generalize w.alloc (.cells #[.string (bytesOf s)] 9) = w2 at *
  have hn1 : w.heap.size ≤ w.heap.size := Nat.le_refl _
  generalize hn1e : w.heap.size = n1 at *
  refine (f83b_ok f A C w w2 hr m2 hl).call (by simp) ?_
  rintro v w4 ⟨a5, c7, L, rfl, own4, hT⟩ m4
  have hright := f.good_right
  have hgl := f.good_len
  generalize f.good = g at *
  have hLl := hT.len
  have m04 := m2.trans m4
  have hr4 : RepF w4 a5 0 g := TrF.rep (own4.row enc6) (hT.md m04) rfl
  rw [hLl]
  have g44 : Good [] w4 w4 := ⟨Md.refl _ _, by simp⟩
  refine opL_in <| in38 g a5 c7 (by omega) g44 hr4 fun w9 b10 g9 hfew => ?_
  refine Bd_in fun b11 hb11 => Bd_e rfl <| Bd_in fun b13 hb13 => Bd_in fun b14 hb14 => If_in (fun _ => in77 g9 fun w16 g16 => ⟨rfl, m04.trans g16.1⟩) fun hb => ?_
  have h10 : b10 = true ∧ 1 ≤ g.len := by
    rw [hb14, hb11, hb13] at hb
    cases h : b10 with
    | false => rw [h] at hb; simp at hb
    | true =>
      rw [h] at hb
      refine ⟨rfl, ?_⟩
      simp at hb
      omega
  have hf := hfew h10.1
  have h1 := h10.2
  have hfl := hf.1
  have hfs := hf.2
  have b9 := (b2.md m4 (by simp)).md g9.1 (by simp)
  refine Ld_in (b9.cell rfl) <| opStr_in <| in68 s 20 g9 fun w21 g21 m21 => ?_
  have hs2 : ∀ x ∈ s.take 20, x < 256 := fun x hx => hs x (List.mem_of_mem_take hx)
  have hsl : (s.take 20).length ≤ 20 := by rw [List.length_take]; omega
  generalize s.take 20 = t at hs2 hsl ⊢
  have b21 := b9.md m21 (by simp)
  have mB := Md_setCells (w := w21) n1 0 [.string (bytesOf t)]
  have bB : Blk (setCells w21 ⟨n1, 0, none⟩ 0 [.string (bytesOf t)]) n1 9 [.string (bytesOf t)] := b21.set (j := 0) (by simp) (.string (bytesOf t))
  have m0B : Md [] w (setCells w21 ⟨n1, 0, none⟩ 0 [.string (bytesOf t)]) := (m04.trans g21.1).old mB (by simp; omega)
  have ownB : OwnL (setCells w21 ⟨n1, 0, none⟩ 0 [.string (bytesOf t)]) w2.heap.size 42 6 tr6 a5 c7 L := (own4.md g21.1).mdD mB fun A hA => by have := (own4.lt hA).1; simp; omega
  refine ⟨by simp, b21.wr (by simp), Bd_e rfl ?_⟩
  generalize setCells w21 ⟨n1, 0, none⟩ 0 [.string (bytesOf t)] = wB at *
  have hTB := hT.md m0B
  have hrB : RepF wB a5 0 g := TrF.rep (ownB.row enc6) hTB rfl
  have hq : ∀ {w' : World}, Md [] wB w' → w'.cell? ⟨n1, 0, none⟩ = some (.string (bytesOf t)) := fun hm => (bB.md hm (by simp)).cell rfl
  have fin : ∀ {w' : World}, Md [] wB w' → (Value.bool true = .bool true ∧ Md [] w w') := fun h => ⟨rfl, m0B.trans h⟩
  refine LoopP_in (fun mm us vs w' => ∃ (i : Nat) (a : Option Addr) (c : Nat) (Lb : List Tr), us = [.slice a Lb.length c, .int .i64 i] ∧ mm = g.len - i ∧ i ≤ g.len ∧ Lb.length = i ∧ OwnL w' wB.heap.size 42 6 tr6 a c Lb ∧ TrF wB Lb (bk g i) ∧ Md [] wB w') g.len
    ⟨0, none, 0, [], rfl, rfl, by omega, rfl, OwnL.nil .., trivial, Md.refl _ _⟩ ?_
  rintro mm us vs w27 ⟨i, a28, c30, Lb, rfl, hmm, hi, hLb, own27, hTb, m27⟩
  refine opL_in <| opI_in <| Bd_in fun b32 hb32 => If_in (fun hb => ?_) fun hb => ?_
  · have hi' : i < g.len := by rw [hb32] at hb; have : (i : Int) < (g.len : Int) := of_decide_eq_true hb
                               omega
    obtain ⟨k, x1, x2, x3, x4, q, he, hqs⟩ := Fo.drop_cons g (g.len - 1 - i) (by omega)
    refine Bd_e rfl <| Bd_e (y := ((g.len - 1 : Nat) : Int)) (by rw [IntKind.wrap_i64]; omega) <| Bd_e (y := ((g.len - 1 - i : Nat) : Int)) (by rw [IntKind.wrap_i64]; omega) <| kid_ld hrB m27 he (by omega) fun sa' sc' hql' hr' => ?_
    refine app_one rowT22 enc6 ⟨k, (x1, x2, x3, x4), sa', q.len, sc'⟩ rfl own27 m27.size (by simp) (by simp) (by simp [maxLen]; omega) (by omega) fun a54 c56 w53 o53 m53 hA => opL_in <| Bd_e (inc_i64 (by omega)) ⟨g.len - (i + 1), by omega, i + 1, a54, c56, _, rfl, rfl, by omega, by simp; omega, o53, ?_, m27.own own27 m53⟩
    have hTt : TrF wB [⟨k, (x1, x2, x3, x4), sa', q.len, sc'⟩] (g.at1 (g.len - 1 - i)) := by
      rw [at1_of he]
      exact ⟨⟨rfl, rfl, rfl, hql', hr'⟩, trivial⟩
    exact TrF.app hTb hTt
  have hif : i = g.len := by
    have : ¬ (i : Int) < (g.len : Int) := by rw [hb32] at hb; exact of_decide_eq_false hb
    omega
  subst hif
  have hcl := g.cnt_le
  have Sg : SmallF g := ⟨h1, by omega, hright, by unfold Fo.total; omega⟩
  obtain ⟨k1, k2, k3, k4⟩ := bk_ok g g.len (Nat.le_refl _)
  have hbsz : (bk g g.len).size ≤ 6 * 1200 := Nat.le_trans k3 (Nat.mul_le_mul hfl hfs)
  have hbcl := (bk g g.len).cnt_le
  have Sb : SmallF (bk g g.len) := ⟨by omega, by omega, k2 hright, by unfold Fo.total; omega⟩
  have hdcl := (g.app g).cnt_le
  have hds := Fo.app_size g g
  have hdl := Fo.app_len g g
  have Sd : SmallF (g.app g) := ⟨by omega, by omega, by rw [Fo.app_right, hright]; rfl, by unfold Fo.total; omega⟩
  refine (f89_ok g Sg a5 c7 ⟨n1, 0, none⟩ t hs2 (by omega) w27 (hrB.md m27) (hq m27)).call (by simp) ?_
  rintro v w59 ⟨a60, c62, rfl, own59⟩ m59
  have m059 := m27.trans m59
  have hrb : RepF w59 a28 0 (bk g g.len) := TrF.rep ((own27.md m59).row enc6) (hTb.md m059) rfl
  have hlb : Lb.length = (bk g g.len).len := by omega
  rw [hlb]
  refine opL_in ?_
  refine (f89_ok (bk g g.len) Sb a28 c30 ⟨n1, 0, none⟩ t hs2 (by omega) w59 hrb (hq m059)).call (by simp) ?_
  rintro v w64 ⟨a65, c67, rfl, own65⟩ m64
  have m064 := m059.trans m64
  refine opL_in <| Nw_i ?_
  have mc : Md [] w64 (w64.alloc (.cells #[] 42)) := Md.alloc w64 _
  have olc : OwnL (w64.alloc (.cells #[] 42)) w64.heap.size 42 6 tr6 (some ⟨w64.heap.size, 0, none⟩) 0 [] := OwnL.lit (P := Try.prog) (base := w64.heap.size) enc6 w64 42 [] #[] (Nat.le_refl _) (by simp) rfl
  have ownc := (ownB.md m064).md mc
  have m069 := m064.trans mc
  have hs64 := m064.size
  have hsc := mc.size
  have ha5 : ∀ A, a5 = some A → A.block < wB.heap.size := fun A hA => (ownB.lt hA).2
  have eS : Value.slice a5 g.len c7 = .slice a5 L.length c7 := by rw [hLl]
  rw [eS]
  have own59' := (own59.md m64).md mc
  have own65' := own65.md mc
  generalize hw69 : w64.alloc (.cells #[] 42) = w69 at *
  generalize hb64 : w64.heap.size = B64 at *
  refine app_own rowT22 enc6 olc ownc (by omega) (by simp) (by simp) (by simp [maxLen]; omega) (by simp; omega) fun a72 c74 w71 o71 m71 hA71 => opL_in ?_
  simp only [List.nil_append] at o71 ⊢
  have m071 : Md [] wB w71 := m069.old m71 (fun d hd => by simp at hd; omega)
  have own71 := ownc.mdD m71 (fun A hA => by simp; have := ha5 A hA; omega)
  have o59' := own59'.mdD m71 (fun A hA => by simp; have := (own59.lt hA).2; have := m64.size; omega)
  have o65' := own65'.mdD m71 (fun A hA => by simp; have := (own65.lt hA).2; omega)
  have hs71 := m71.size
  refine app_own rowT22 enc6 o71 own71 (by omega) (by simp) (by simp) (by simp [maxLen]; omega) (by omega) fun a77 c79 w76 o76 m76 hA76 => opL_in ?_
  have m076 : Md [] wB w76 := m071.old m76 (fun d hd => by obtain ⟨A, hA, rfl⟩ := mem_blk hd; have := (o71.lt hA).1; omega)
  have o59 := o59'.mdD m76 (fun A hA hd => by obtain ⟨A', hA', e⟩ := mem_blk hd; have := (own59.lt hA).2; have := m64.size; have := (o71.lt hA').1; omega)
  have o65 := o65'.mdD m76 (fun A hA hd => by obtain ⟨A', hA', e⟩ := mem_blk hd; have := (own65.lt hA).2; have := (o71.lt hA').1; omega)
  rw [← eS]
  have hdd : (L ++ L).length = (g.app g).len := by rw [List.length_append]; omega
  rw [hdd]
  have hrd : RepF w76 a77 0 (g.app g) := TrF.rep (o76.row enc6) (TrF.app (hTB.md m076) (hTB.md m076)) rfl
  refine (f89_ok (g.app g) Sd a77 c79 ⟨n1, 0, none⟩ t hs2 (by omega) w76 hrd (hq m076)).call (by simp) ?_
  rintro v w81 ⟨a82, c84, rfl, own82⟩ m81
  have m081 := m076.trans m81
  have p59 := (o59.md m81).row enci1
  have p65 := (o65.md m81).row enci1
  have p82 := own82.row enci1
  have l59 : (nfRun (bldM g).2 (bldM g).1 t).length = t.length + 1 := by simp only [nfRun, List.length_cons, runF_len]
  have l65 : (nfRun (bldM (bk g g.len)).2 (bldM (bk g g.len)).1 t).length = t.length + 1 := by simp only [nfRun, List.length_cons, runF_len]
  have l82 : (nfRun (bldM (g.app g)).2 (bldM (g.app g)).1 t).length = t.length + 1 := by simp only [nfRun, List.length_cons, runF_len]
  have T59 := fun i hi => machine_tags Sg.l1 Sg.l2 Sg.rt Sg.tot t i hi
  have T65 := fun i hi => machine_tags Sb.l1 Sb.l2 Sb.rt Sb.tot t i hi
  have T82 := fun i hi => machine_tags Sd.l1 Sd.l2 Sd.rt Sd.tot t i hi
  generalize nfRun (bldM g).2 (bldM g).1 t = ra at *
  generalize nfRun (bldM (bk g g.len)).2 (bldM (bk g g.len)).1 t = rb at *
  generalize nfRun (bldM (g.app g)).2 (bldM (g.app g)).1 t = rc at *
  refine opL_in <| Bd_e rfl ?_
  refine LoopP_in (fun mm us vs w' => ∃ (i : Nat) (b : Bool), us = [.bool b, .int .i64 i] ∧ mm = ra.length - i ∧ i ≤ ra.length ∧ Md [] w81 w') ra.length ⟨0, _, rfl, rfl, by omega, Md.refl _ _⟩ ?_
  rintro mm us vs w89 ⟨i, b90, rfl, hmm2, hi2, m89⟩
  have m089 := m081.trans m89
  refine opB_in <| opI_in <| Bd_in fun b92 hb92 => If_in (fun hb => ?_) fun hb => ?_
  · have hia : i < ra.length := by rw [hb92] at hb; have : (i : Int) < (ra.length : Int) := of_decide_eq_true hb
                                   omega
    have hib : i < rb.length := by omega
    have hic : i < rc.length := by omega
    obtain ⟨ta, ea, hta⟩ := T59 i (by omega)
    obtain ⟨tb, eb, htb⟩ := T65 i (by omega)
    obtain ⟨tc, ec, htc⟩ := T82 i (by omega)
    rw [List.getElem?_eq_getElem hia] at ea
    rw [List.getElem?_eq_getElem hib] at eb
    rw [List.getElem?_eq_getElem hic] at ec
    injection ea with ea
    injection eb with eb
    injection ec with ec
    have hac : tc = ta := htc.uniq (tag_twice hta)
    obtain ⟨c1, c2, c3⟩ := tag_back hta htb
    have hbr : -1 ≤ tb ∧ tb < 200 := by
      rcases htb with ⟨rfl, _⟩ | ⟨m, rfl, hm, _⟩
      · omega
      · have := hm.1; omega
    have hix59 := p59.ix hia
    have hix65 := p65.ix hib
    have hix82 := p82.ix hic
    have hmd : ∀ {w' : World}, Md [] w89.drew w' → Md [] w81 w' := fun h => m89.trans ((Md_drew w89).trans h)
    refine Bd_e rfl <| Bd_e (y := ((g.len - 1 : Nat) : Int)) (by rw [IntKind.wrap_i64]; omega) ⟨hix65, (p65.md m89).ld1 hib rfl <| opI_in <| Bd_e (y := ((g.len - 1 : Nat) : Int) - tb) (by rw [eb, IntKind.wrap_i64]; omega) ?_⟩
    refine ⟨fun w' => Md [] w89.drew w', Md.refl _ _, hix59, ?_⟩
    show ∃ v3, _ ∧ _
    refine ⟨_, fun w' hm => (p59.md (hmd hm)).ld1 hia rfl rfl, opI_in ⟨hix82, ?_⟩⟩
    show ∃ v3, _ ∧ _
    refine ⟨_, fun w' hm => (p82.md (hmd hm)).ld1 hic rfl rfl, opI_in ?_⟩
    have ldA : ∀ w', Md [] w89.drew w' → Ld w' (adAt a60 (i : Int) 1) fun v => v = .int .i64 ta := fun w' hm => (p59.md (hmd hm)).ld1 hia rfl (by rw [ea])
    have ldB : ∀ w', Md [] w89.drew w' → Ld w' (adAt a65 (i : Int) 1) fun v => v = .int .i64 tb := fun w' hm => (p65.md (hmd hm)).ld1 hib rfl (by rw [eb])
    refine Bd_e (y := false) (by rw [ea, ec, hac]; simp) ⟨fun _ => hix59, ta, fun _ => ldA, Bd_e rfl ⟨fun _ => hix65, tb, fun _ => ldB, Bd_e rfl <| Bd_e (y := false) ?_ <| Bd_e (y := false) rfl ⟨fun _ => hix59, ta, fun _ => ldA, Bd_e rfl ⟨fun _ => hix59, ta, fun _ => ldA, Bd_e rfl <| Bd_e (y := false) ?_ <| Bd_e (y := false) rfl <| Bd_e rfl <| Bd_e rfl ⟨fun _ => hix59, ta, fun _ => ldA, fun _ => hix65, tb, fun _ => ldB, Bd_e rfl <| Bd_e (y := false) ?_ <| Bd_e (y := false) rfl <| If_in (fun h => by cases h) fun _ => Bd_e (y := ((i + 1 : Nat) : Int)) (by rw [IntKind.wrap_i64]; omega) ⟨ra.length - (i + 1), by omega, i + 1, _, rfl, rfl, by omega, m89.trans (Md_drew w89)⟩⟩⟩⟩⟩⟩
    · by_cases hA : ta < 0
      · simp [hA, c1.1 hA]
      · have : ¬ tb < 0 := fun h => hA (c1.2 h)
        simp [hA, this]
    · by_cases hA : ta ≥ 0
      · have := c2 hA
        have h3 : ¬ (((g.len - 1 : Nat) : Int) - tb < ta) := by omega
        simp [hA, h3]
      · simp [hA]
    · by_cases hA : g.len = 1
      · simp [hA, c3 hA]
      · have : ¬ ((g.len : Int) == 1) = true := by simp; omega
        simp [this]
  · have g89 : Good [] wB w89 := ⟨m089, by simp⟩
    refine in66 .nil none 0 5 g89 trivial (by simp [Fo.len]) fun a165 c167 w161 g161 m161 own161 => ?_
    rw [bld_nil]
    refine rgU g161 fun n169 w170 g170 m170 => ?_
    obtain ⟨w172, r172, o172, m172⟩ := made22 w170
    refine RunW_in r172 (fun b hb => m172.blk b (g170.2 b hb) (by simp)) <| opL_in ?_
    have hrz : RepF w172 (some ⟨w170.heap.size, 0, none⟩) 0 (zF 201) := TrF.rep (o172.row enc6) (zF_tr _ 201) rfl
    have g172 := g170.tr m172
    have c66 := @in66 [n169] wB w172 (zF 201) (some ⟨w170.heap.size, 0, none⟩) 201 20000 g172 hrz (by rw [zF_len]; omega)
    rw [zF_len, bld_many] at c66
    refine c66 fun a181 c183 w177 g177 m177 own177 => ?_
    refine rgU g177 fun n185 w186 g186 m186 => ?_
    refine in66 g a5 c7 20001 g186 (hrB.md g186.1) (by omega) fun a192 c194 w188 g188 m188 own188 => ?_
    rw [bld_over]
    intro n196 h196
    refine Bd_e (y := true) rfl <| Bd_e (y := true) rfl <| Bd_e (y := true) rfl <| Bd_e (y := true) rfl <| Bd_e (y := true) rfl fun w202 h202 hL202 => ?_
    have g202 : Good [n196, n185, n169] wB w202 := ⟨g188.1.trans (h202.fresh (by simp; exact h196)), hL202⟩
    refine Gd_in (fun _ => in77 g202 fun w205 g205 => ?_) (fun h => by cases h)
    exact Bd_e (y := true) rfl (fin g205.1)
end Fk
