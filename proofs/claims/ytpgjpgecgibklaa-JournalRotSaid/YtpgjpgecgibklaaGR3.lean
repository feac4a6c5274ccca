/- Contracts of functions, and plain laws: several texts, joined. -/
import Derived.Test.YtpgjpgecgibklaaGR2
import Derived.Test.YtpgjpgecgibklaaGV0
set_option linter.unusedVariables false
set_option linter.unusedSimpArgs false
set_option maxRecDepth 100000
set_option maxHeartbeats 2000000
namespace Fk
open Go Go.Proofs Go.RowKit
def sum8 : List Nat → Nat
  | [] => 0
  | l :: ls => l + 8 + sum8 ls
theorem sum8_cons (l : Nat) (ls : List Nat) : sum8 (l :: ls) = l + 8 + sum8 ls := rfl
theorem rawR_cons (r : List Nat) (rs : List (List Nat)) : rawR (r :: rs) = frm 1 r ++ rawR rs := rfl
theorem rawR_len : ∀ rs : List (List Nat), (rawR rs).length = sum8 (rs.map List.length)
  | [] => rfl
  | r :: rs => by rw [rawR_cons, List.length_append, frm_len, rawR_len rs]; rfl
theorem mayF_ok : ∀ (ls : List Nat) (room : Int) (full : Bool), (∀ l ∈ ls, ¬ (l < 1 ∨ l > 1048576)) → -1 ≤ room → (full = false → 0 ≤ room) → mayF room full ls = if full = true ∨ (sum8 ls : Int) > room then 4 else 0
  | [], room, full, h, h1, h2 => by
    unfold mayF sum8
    cases full
    · have := h2 rfl
      rw [if_neg (by simp), if_neg (by simp; omega)]
    · rw [if_pos rfl, if_pos (.inl rfl)]
  | l :: ls, room, full, h, h1, h2 => by
    have hl := h l (by simp)
    rw [mayF_cons, if_neg hl, mayF_ok ls _ _ (fun x hx => h x (by simp [hx])) (by omega) (fun hf => by simp at hf; omega)]
    cases full
    · have := h2 rfl
      rw [sum8_cons]
      by_cases q : (l : Int) + 8 ≤ room
      · have e : min ((l : Int) + 8) (room + 1) = (l : Int) + 8 := by omega
        rw [e]
        by_cases q2 : ((l + 8 + sum8 ls : Nat) : Int) > room
        · rw [if_pos (.inr (by omega)), if_pos (.inr q2)]
        · rw [if_neg, if_neg]
          · simp; omega
          · simp; omega
      · have e : min ((l : Int) + 8) (room + 1) = room + 1 := by omega
        rw [e, if_pos (.inl (by simp; omega)), if_pos (.inr (by omega))]
    · rw [if_pos (.inl (by simp)), if_pos (.inl rfl)]
theorem mayF_bad : ∀ (ls : List Nat) (room : Int) (full : Bool), (∃ l ∈ ls, l < 1 ∨ l > 1048576) → mayF room full ls = 3
  | [], room, full, h => by simp at h
  | l :: ls, room, full, h => by
    rw [mayF_cons]
    split
    · rfl
    · rename_i hl
      refine mayF_bad ls _ _ ?_
      obtain ⟨x, hx, hx2⟩ := h
      rcases List.mem_cons.1 hx with rfl | hx
      · exact absurd hx2 hl
      · exact ⟨x, hx, hx2⟩
theorem may_all {g : Lg} {room : Int} {ls : List Nat} (h1 : 0 ≤ room) (h : mayD g room ls = 0) : g.ov = false ∧ (∀ l ∈ ls, ¬ (l < 1 ∨ l > 1048576)) ∧ (sum8 ls : Int) ≤ room := by
  unfold mayD at h
  split at h
  · cases h
  · rename_i ho
    have ha : ∀ l ∈ ls, ¬ (l < 1 ∨ l > 1048576) := fun l hl hb => by rw [mayF_bad ls _ _ ⟨l, hl, hb⟩] at h; cases h
    rw [mayF_ok ls _ _ ha (by omega) (fun _ => h1)] at h
    refine ⟨by simpa using ho, ha, ?_⟩
    split at h
    · cases h
    · rename_i hn; simp at hn; omega
def hdB (a : Nat) : List Nat := a :: List.replicate 63 0
def rwD (d : Dk) (g : Lg) (rs : List (List Nat)) : Dk × Lg × Int :=
  if mayD g (jsz d : Int) (rs.map List.length) ≠ 0 then (d, g, mayD g (jsz d : Int) (rs.map List.length)) else
  if (layD d (1 - g.area) 0 (rawR rs)).2 = false then ((layD d (1 - g.area) 0 (rawR rs)).1, { g with ov := true }, 200) else
  if (oneD (layD d (1 - g.area) 0 (rawR rs)).1 0 (hdB (1 - g.area))).2 = false then ((oneD (layD d (1 - g.area) 0 (rawR rs)).1 0 (hdB (1 - g.area))).1, { g with ov := true }, 200)
    else ((oneD (layD d (1 - g.area) 0 (rawR rs)).1 0 (hdB (1 - g.area))).1, ⟨1 - g.area, (rawR rs).length, g.ov⟩, 0)
/-- Records as they are read. -/
def RRr (w : World) (a : Option Addr) (rs : List (List Nat)) : Prop :=
  ∃ ps : List SH, RowAt w a 1 sE ps ∧ ps.length = rs.length ∧ ∀ (i : Nat) (p : SH) (r : List Nat), ps[i]? = some p → rs[i]? = some r → p.2.1 = r.length ∧ RowAt w p.1 1 b1 r
theorem RRr.md {w w' : World} {a : Option Addr} {rs : List (List Nat)} (h : RRr w a rs) (hm : Md [] w w') : RRr w' a rs := by
  obtain ⟨ps, h1, h2, h3⟩ := h
  exact ⟨ps, h1.md hm, h2, fun i p r hp hr => ⟨(h3 i p r hp hr).1, (h3 i p r hp hr).2.md hm⟩⟩
theorem RRo.r {w : World} {bx : Nat} {a : Option Addr} {c : Nat} {rs : List (List Nat)} (h : RRo w bx a c rs) : RRr w a rs := by
  obtain ⟨ps, h1, h2, h3⟩ := h
  exact ⟨ps, h1.row encsE, h2, fun i p r hp hr => ⟨(h3 i p r hp hr).1, (h3 i p r hp hr).2.1.choose_spec.row encb1⟩⟩
theorem RRr_lens {w : World} {rs : List (List Nat)} {ps : List SH} (h2 : ps.length = rs.length) (h3 : ∀ (i : Nat) (p : SH) (r : List Nat), ps[i]? = some p → rs[i]? = some r → p.2.1 = r.length ∧ RowAt w p.1 1 b1 r) : ps.map (·.2.1) = rs.map List.length := by
  apply List.ext_getElem?
  intro i
  rw [List.getElem?_map, List.getElem?_map]
  by_cases hi : i < ps.length
  · rw [List.getElem?_eq_getElem hi, List.getElem?_eq_getElem (by omega)]
    simp only [Option.map_some]
    rw [(h3 i ps[i] (rs[i]'(by omega)) (List.getElem?_eq_getElem hi) (List.getElem?_eq_getElem _)).1]
  · rw [List.getElem?_eq_none (by omega), List.getElem?_eq_none (by omega)]; rfl
section
variable {w0 w : World} {n : Nat} {d : Dk} {F : List Nat} {ln : Nat} {g : Lg}
theorem f130_ok (S : JS w0 w n d F ln g) (h1 : 1 ≤ d.bl.length) (hpd : d.pd.length < 2 ^ 28) (ha : g.area ≤ 1) (rs : List (List Nat)) (hrs : ∀ r ∈ rs, ∀ x ∈ r, x < 256) (hrl : rs.length < 2 ^ 30) (A : Option Addr) (C : Nat) (hr : RRr w A rs) :
    Ct Try.prog 130 #[.pointer (some ⟨ln, 0, none⟩), .slice A rs.length C] w fun v w' =>
      (v = .int .i64 (rwD d g rs).2.2 ∧ ∃ F', JS w0 w' n (rwD d g rs).1 F' ln (rwD d g rs).2.1 ∧ Fr w F F') ∧ Md (ln :: F) w w' := by
  have hlen := S.len
  have hhl := half_le hlen
  have hjz : jsz d = half d * 64 := rfl
  apply f130_in
  refine Jn_in (fun us vs w' => us = [.int .i64 (jsz d : Int)] ∧ JS w0 w' n d F ln g ∧ Md [] w w') ?_ ?_
  case refine_2 =>
    exact in196 S (by simp) fun w84 S84 m84 => Bd_e rfl <| If_t <| in197 S84 h1 (by simp) fun w95 S95 m95 => ⟨rfl, S95, m84.trans m95⟩
  rintro us vs w3 ⟨rfl, S3, m3⟩
  obtain ⟨ps, p1, p2, p3⟩ := hr.md m3
  have hls := RRr_lens p2 p3
  have c198 := f198_ok S3 ps (by omega) A C p1 (jsz d : Int) (by omega) (by omega)
  rw [hls, p2] at c198
  refine opI_in <| c198.call (by simp) ?_
  rintro v w6 rfl m6
  have S6 := S3.md0 m6
  have mm6 : Md [] w w6 := m3.trans m6
  refine opI_in <| Bd_in fun b10 hb10 => If_in (fun hb => ?_) fun hb => ?_
  · have hne : mayD g (jsz d : Int) (rs.map List.length) ≠ 0 := by rw [hb10] at hb; simpa using hb
    have e : rwD d g rs = (d, g, mayD g (jsz d : Int) (rs.map List.length)) := by unfold rwD; rw [if_pos hne]
    rw [e]
    exact ⟨⟨rfl, F, S6, Fr.refl _ _⟩, mm6.mono (by simp)⟩
  have he0 : mayD g (jsz d : Int) (rs.map List.length) = 0 := by rw [hb10] at hb; simpa using hb
  obtain ⟨hov, hok, hsum⟩ := may_all (by omega) he0
  have hrl2 := rawR_len rs
  have hfit : 0 + (rawR rs).length ≤ jsz d := by omega
  have hrb : ∀ x ∈ rawR rs, x < 256 := fun x hx => by
    simp only [rawR, List.mem_flatMap] at hx
    obtain ⟨r, hr1, hr2⟩ := hx
    exact frm_lt 1 r (by omega) (hrs r hr1) x hr2
  have e : rwD d g rs = if (layD d (1 - g.area) 0 (rawR rs)).2 = false then ((layD d (1 - g.area) 0 (rawR rs)).1, { g with ov := true }, 200) else
      if (oneD (layD d (1 - g.area) 0 (rawR rs)).1 0 (hdB (1 - g.area))).2 = false then ((oneD (layD d (1 - g.area) 0 (rawR rs)).1 0 (hdB (1 - g.area))).1, { g with ov := true }, 200)
      else ((oneD (layD d (1 - g.area) 0 (rawR rs)).1 0 (hdB (1 - g.area))).1, ⟨1 - g.area, (rawR rs).length, g.ov⟩, 0) := by unfold rwD; rw [if_neg (by simp [he0])]
  have hLl := layD_len (b := rawR rs) h1 hlen (show 1 - g.area ≤ 1 by omega) hfit
  generalize hL : layD d (1 - g.area) 0 (rawR rs) = l at *
  refine Bd_e rfl ?_
  refine LoopP_in (fun mm us vs w' => ∃ (i : Nat) (a : Option Addr) (c : Nat), us = [.slice a (rawR (rs.take i)).length c, .int .i64 i] ∧ mm = rs.length - i ∧ i ≤ rs.length ∧ OwnL w' w6.heap.size 5 1 b1 a c (rawR (rs.take i)) ∧ Md [] w6 w') rs.length
    ⟨0, none, 0, rfl, rfl, by omega, OwnL.nil _ _ _ _ _, Md.refl _ _⟩ ?_
  rintro mm us vs w13 ⟨i, a, c, rfl, hmm, hi, o13, m13⟩
  have S13 := S6.md0 m13
  refine opL_in <| opI_in <| Bd_in fun b18 hb18 => If_in (fun hbb => ?_) fun hbb => ?_
  · have hil : i < rs.length := by rw [hb18] at hbb; have : (i : Int) < (rs.length : Int) := of_decide_eq_true hbb
                                   omega
    have hip : i < ps.length := by omega
    have p13 := (p1.md m6).md m13
    obtain ⟨r1, r2⟩ := p3 i ps[i] rs[i] (List.getElem?_eq_getElem hip) (List.getElem?_eq_getElem hil)
    have r13 := (r2.md m6).md m13
    have hix := p13.ix hip
    rw [p2] at hix
    have hl1 := hok rs[i].length (List.mem_map.2 ⟨_, List.getElem_mem hil, rfl⟩)
    have hAs : (ps[i]).1.isSome = true := by
      obtain ⟨B, hB, _⟩ := r13 0 (rs[i][0]'(by omega)) (List.getElem?_eq_getElem (by omega)); rw [hB]; rfl
    refine ⟨hix, p13.ld1 hip rfl <| opL_in ?_⟩
    rw [r1]
    refine (f199_ok rs[i] (hrs _ (List.getElem_mem hil)) (by omega) 1 (by omega) (ps[i]).1 (ps[i]).2.2 w13 r13 hAs).call (by simp) ?_
    rintro v w24 ⟨a25, c27, rfl, o24⟩ m24
    have etk : rawR (rs.take (i + 1)) = rawR (rs.take i) ++ frm 1 rs[i] := by rw [List.take_succ_eq_append_getElem hil, rawR_snoc]
    have hlt : (rawR (rs.take i)).length + (frm 1 rs[i]).length ≤ (rawR rs).length := by
      rw [← List.length_append, ← etk]
      have : rawR rs = rawR (rs.take (i + 1)) ++ rawR (rs.drop (i + 1)) := by rw [rawR, rawR, rawR, ← List.flatMap_append, List.take_append_drop]
      rw [this, List.length_append]; omega
    refine opL_in <| app_own rowT51 encb1 (o13.md m24) o24 (by have := m13.size; have := m24.size; omega) (by simp) (by simp) (by simp [maxLen]; omega) (by omega) fun a' c' w29 o29 m29 hA => opL_in <| Bd_e (inc_i64 (by omega)) ?_
    rw [← etk] at o29 ⊢
    exact ⟨rs.length - (i + 1), by omega, i + 1, a', c', rfl, rfl, by omega, o29, (m13.trans m24).old m29 fun q hq => by obtain ⟨B, hB, rfl⟩ := mem_blk hq; exact (o13.lt hB).1⟩
  · have hil : i = rs.length := by
      have : ¬ (i : Int) < (rs.length : Int) := by rw [hb18] at hbb; exact of_decide_eq_false hbb
      omega
    subst hil
    rw [List.take_length] at o13 ⊢
    obtain ⟨w35, hr35, o35, m35⟩ := made5 64 w13 (by omega)
    refine RunW_in hr35 (fun b hb => by cases hb) <| opL_in ?_
    have S35 := S13.md0 m35
    have hix35 := (o35.row encb1).ix (i := 0) (by simp)
    rw [List.length_replicate] at hix35
    have ex : ((1 - g.area : Nat) : Int) = 1 - (g.area : Int) := by omega
    obtain ⟨B, hB, t1, t2, t3, t4, t5, t6⟩ := o35.put encb1 (by omega) (i := 0) (by simp) (1 - g.area)
    cases hB
    refine NN_in <| S35.blk.ld (j := 1) rfl <| opI_in <| Bd_e (y := ((1 - g.area : Nat) : Int)) (by rw [ex, IntKind.wrap_i64]; omega) <| Bd_e (y := ((1 - g.area : Nat) : Int)) (by rw [IntKind.wrap_u8]; omega) ⟨hix35, by simp, t4, NN_in ?_⟩
    have m36 : Md [] w13 (setCells w35 (adAt (some ⟨w13.heap.size, 0, none⟩) ((0 : Nat) : Int) 1) 0 (b1 (1 - g.area))) := m35.old t6 (by simp)
    have S36 := S13.md0 m36
    have ehd : (List.replicate 64 0).set 0 (1 - g.area) = hdB (1 - g.area) := rfl
    rw [ehd] at t5
    have o36 := o13.md m36
    refine S36.blk.ld (j := 1) rfl <| opI_in <| Bd_e (y := ((1 - g.area : Nat) : Int)) (by rw [ex, IntKind.wrap_i64]; omega) ?_
    have hsepH : ∀ D, a = some D → D.block ≠ w13.heap.size := fun D hD => by have := (o13.lt hD).2; omega
    have c200 := f200_ok S36 h1 (by omega) (1 - g.area) 0 (by omega) (rawR rs) hrb hfit w6.heap.size a c o36 fun D hD => by
      have := (o36.lt hD).1
      refine ⟨fun h => ?_, fun h => ?_, ?_⟩
      · have := S6.blk.lt; omega
      · have := S6.ds.dk.lt _ h; omega
      · have := S6.ds.md.size; omega
    rw [hL] at c200
    generalize hw36 : (setCells w35 (adAt (some ⟨w13.heap.size, 0, none⟩) ((0 : Nat) : Int) 1) 0 (b1 (1 - g.area))) = w36 at *
    have hw36' : setCells w35 (adAt (some ⟨w13.heap.size, 0, none⟩) 0 1) 0 [Value.int IntKind.u8 ((1 - g.area : Nat) : Int)] = w36 := hw36
    rw [hw36']
    refine c200.callD (by simp) (by simp) ?_
    rintro v w49 ⟨rfl, F2, S49, f49⟩ m49
    have mm36 : Md [] w w36 := (mm6.trans m13).trans m36
    have mm49 : Md F w w49 := (mm36.mono (by simp)).fr m49 fun b hb => by
      rcases List.mem_append.1 hb with h | h
      · obtain ⟨D, hD, rfl⟩ := mem_blk h
        have := (o13.lt hD).1
        exact .inr (by have := mm6.size; omega)
      · exact .inl h
    have f2 : Fr w F F2 := fun b hb => (f49 b hb).imp id (fun h => by have := mm36.size; omega)
    have o49 := t5.mdD m49 (fun D hD => by
      cases hD
      intro hx
      rcases List.mem_append.1 hx with h | h
      · obtain ⟨D, hD, e⟩ := mem_blk h; exact hsepH D hD e
      · have := S13.ds.dk.lt _ h; simp at this)
    have hHF2 : w13.heap.size ∉ F2 := fun h => by
      rcases f49 _ h with h | h
      · have := S13.ds.dk.lt _ h; omega
      · have := (t5.lt rfl).2; simp at this; omega
    have mF : ∀ {w'' : World}, Md F w w'' → Md (ln :: F) w w'' := fun h => h.mono fun y hy => List.mem_cons_of_mem _ hy
    refine opB_in <| Bd_e rfl ?_
    have fin200 : ∀ (w79 : World) (d' : Dk) (F' : List Nat), JS w0 w79 n d' F' ln g → Fr w F F' → Md F w w79 → rwD d g rs = (d', { g with ov := true }, 200) →
        NN (some (Addr.mk ln 0 none)) fun A82 => ¬Addr.block A82 ∈ [] ∧ Wr w79 (Addr.add A82 3) 1 ∧ ((Value.int IntKind.i64 200 = .int .i64 (rwD d g rs).2.2 ∧ ∃ F', JS w0 (setCells w79 (Addr.add A82 3) 0 [Value.bool true]) n (rwD d g rs).1 F' ln (rwD d g rs).2.1 ∧ Fr w F F') ∧ Md (ln :: F) w (setCells w79 (Addr.add A82 3) 0 [Value.bool true])) := fun w79 d' F' S79 f79 m79 hx => by
      rw [hx]
      obtain ⟨u1, u2, u3⟩ := S79.set (j := 3) (v := .bool true) (g' := { g with ov := true }) (by omega) rfl
      exact NN_in ⟨by simp, u3, ⟨rfl, F', u1, f79⟩, (mF m79).trans (u2.mono (by simp))⟩
    by_cases c1 : l.2 = false
    · rw [if_pos c1] at e
      rw [c1]
      refine ⟨fun h => by simp at h, Bd_e rfl <| Gd_f <| Gd_f <| Bd_e rfl <| Bd_e rfl ⟨fun h => by simp at h, Bd_e rfl <| Gd_f <| Gd_f <| Bd_e rfl <| Bd_e rfl <| If_t ?_⟩⟩
      exact fin200 _ _ _ S49 f2 mm49 e
    have c1' : l.2 = true := by simpa using c1
    rw [if_neg c1] at e
    rw [c1']
    have hh64 : (hdB (1 - g.area)).length = 64 := rfl
    have hhb : ∀ x ∈ hdB (1 - g.area), x < 256 := fun x hx => by
      rcases List.mem_cons.1 hx with rfl | hx
      · omega
      · have := List.eq_of_mem_replicate hx; omega
    refine ⟨fun _ => rfl, Bd_e rfl <| Gd_t <| S49.blk.ld (j := 0) rfl <| opP_in <| Gd_t ?_⟩
    refine in114 (L := []) S49.ds (LF.nil _ _) ((0 : Nat) : Int) (b := hdB (1 - g.area)) hh64.symm hhb (by rw [hh64]; omega) (by omega) (o49.row encb1) (fun D hD => by cases hD; exact hHF2) fun F3 w61 S61 m61 f61 _ => ?_
    have S61' := S49.step S61 m61 f61
    have mm61 := mm49.fr m61 f2
    have f3 : Fr w F F3 := f2.trans f61 mm49.size
    refine Bd_in fun b65 hb65 => ?_
    by_cases c2 : (l.1.write ((0 : Nat) : Int) (hdB (1 - g.area))).2 = 0
    · have e65 : b65 = false := by rw [hb65, c2]; rfl
      subst e65
      refine Bd_e rfl ⟨fun _ => rfl, Bd_e rfl <| Gd_t <| S61'.blk.ld (j := 0) rfl <| opP_in <| Gd_t <| in103 (L := []) S61'.ds (LF.nil _ _) fun F4 w76 S76 m76 f76 _ => ?_⟩
      have S76' := S61'.step S76 m76 f76
      have mm76 := mm61.fr m76 f3
      have f4 : Fr w F F4 := f3.trans f76 mm61.size
      have eo : oneD l.1 0 (hdB (1 - g.area)) = ((l.1.write ((0 : Nat) : Int) (hdB (1 - g.area))).1.flush.1, (l.1.write ((0 : Nat) : Int) (hdB (1 - g.area))).1.flush.2 == 0) := by unfold oneD; rw [if_pos c2]
      rw [eo] at e
      refine Bd_in fun b80 hb80 => ?_
      by_cases c3 : (l.1.write ((0 : Nat) : Int) (hdB (1 - g.area))).1.flush.2 = 0
      · have e80 : b80 = false := by rw [hb80, c3]; rfl
        subst e80
        rw [if_neg (by rw [c3]; simp)] at e
        refine Bd_e rfl <| If_f <| NN_in <| S76'.blk.ld (j := 1) rfl <| opI_in <| Bd_e (y := ((1 - g.area : Nat) : Int)) (by rw [ex, IntKind.wrap_i64]; omega) <| Bd_e rfl ?_
        obtain ⟨u1, u2, u3⟩ := S76'.set (j := 1) (v := .int .i64 ((1 - g.area : Nat) : Int)) (g' := ⟨1 - g.area, g.pos, g.ov⟩) (by omega) rfl
        obtain ⟨x1, x2, x3⟩ := u1.set (j := 2) (v := .int .i64 (((rawR rs).length : Nat) : Int)) (g' := ⟨1 - g.area, (rawR rs).length, g.ov⟩) (by omega) rfl
        rw [e]
        exact NN_in ⟨by simp, u3, NN_in ⟨by simp, x3, ⟨rfl, F4, x1, f4⟩, ((mF mm76).trans (u2.mono (by simp))).trans (x2.mono (by simp))⟩⟩
      · have e80 : b80 = true := by rw [hb80]; simpa using c3
        subst e80
        rw [if_pos (by simpa using c3)] at e
        exact Bd_e rfl <| If_t (fin200 _ _ _ S76' f4 mm76 e)
    · have e65 : b65 = true := by rw [hb65]; simpa using c2
      subst e65
      have eo : oneD l.1 0 (hdB (1 - g.area)) = ((l.1.write ((0 : Nat) : Int) (hdB (1 - g.area))).1, false) := by unfold oneD; rw [if_neg c2]
      rw [eo, if_pos rfl] at e
      refine Bd_e rfl ⟨fun h => by simp at h, Bd_e rfl <| Gd_f <| Gd_f <| Bd_e rfl <| Bd_e rfl <| If_t ?_⟩
      exact fin200 _ _ _ S61' f3 mm61 e
end
end Fk
set_option linter.unusedVariables false
set_option linter.unusedSimpArgs false
set_option maxRecDepth 100000
set_option maxHeartbeats 2000000
namespace Fk
open Go Go.Proofs Go.RowKit
structure JT (L : List Nat) (w0 w : World) (n : Nat) (d : Dk) (F : List Nat) (ln : Nat) (g : Lg) (a : Option Addr) (c : Nat) (rs : List (List Nat)) : Prop where
  js : JS w0 w n d F ln g
  ow : OwnL w w0.heap.size 9 1 tE a c rs
  sep : ∀ A, a = some A → A.block ∉ ln :: F
  lf : LF L w (ln :: F)
  la : ∀ b ∈ L, ∀ A, a = some A → A.block ≠ b
section
variable {L : List Nat} {w0 w : World} {n : Nat} {d : Dk} {F : List Nat} {ln : Nat} {g : Lg} {a : Option Addr} {c : Nat} {rs : List (List Nat)}
theorem JT.lt (T : JT L w0 w n d F ln g a c rs) : ∀ b ∈ L, b < w.heap.size := fun b hb => (T.lf b hb).1
theorem JT.md0 {w' : World} (T : JT L w0 w n d F ln g a c rs) (hm : Md [] w w') : JT L w0 w' n d F ln g a c rs :=
  ⟨T.js.md0 hm, T.ow.md hm, T.sep, T.lf.md hm.size, T.la⟩
theorem frc {w : World} {F F' : List Nat} (ln : Nat) (h : Fr w F F') : Fr w (ln :: F) (ln :: F') := fun x hx => by
  rcases List.mem_cons.1 hx with rfl | hx
  · exact .inl (by simp)
  · exact (h x hx).imp (fun h => List.mem_cons_of_mem _ h) id
theorem JT.jd {w' : World} {d' : Dk} {F' : List Nat} {g' : Lg} (T : JT L w0 w n d F ln g a c rs) (S : JS w0 w' n d' F' ln g') (hm : Md (ln :: F) w w') (hf : Fr w F F') : JT L w0 w' n d' F' ln g' a c rs :=
  ⟨S, T.ow.mdD hm T.sep, fun A hA hx => by
    rcases frc ln hf _ hx with h | h
    · exact T.sep A hA h
    · have := (T.ow.lt hA).2; omega, T.lf.fr (frc ln hf) hm.size, T.la⟩
theorem JT.lo (T : JT L w0 w n d F ln g a c rs) : ∀ b ∈ ln :: F, w0.heap.size ≤ b := fun b hb => by
  rcases List.mem_cons.1 hb with rfl | hb
  · exact T.js.lo
  · exact T.js.ds.lo b hb
theorem JT.up (T : JT L w0 w n d F ln g a c rs) : ∀ b ∈ ln :: F, b < w.heap.size := fun b hb => by
  rcases List.mem_cons.1 hb with rfl | hb
  · exact T.js.blk.lt
  · exact T.js.ds.dk.lt b hb
theorem JT.app (T : JT L w0 w n d F ln g a c rs) (h1 : 1 ≤ d.bl.length) (hpd : d.pd.length < 2 ^ 28) (ha : g.area ≤ 1) (hp : g.pos ≤ jsz d) (r : List Nat) (hr : ∀ x ∈ r, x < 256) {A : Option Addr} {C m : Nat} (hm : m = r.length) (ho : RowAt w A 1 b1 r) {K : Int → World → Prop}
    (k : ∀ F' w', JT L w0 w' n (apD d g r).1 F' ln (apD d g r).2.1 a c rs → Md (ln :: F) w w' → Fr w F F' → K (apD d g r).2.2 w') :
    CallW Try.prog L 124 #[.pointer (some ⟨ln, 0, none⟩), .slice A m C] (fun v w' => opI .i64 v fun x => K x w') w :=
  in124 T.js h1 hpd ha hp r hr hm ho T.lf fun F' w' S' m' f' _ => k F' w' (T.jd S' m' f') m' f'
theorem JT.rw (T : JT L w0 w n d F ln g a c rs) (h1 : 1 ≤ d.bl.length) (hpd : d.pd.length < 2 ^ 28) (ha : g.area ≤ 1) (xs : List (List Nat)) (hrs : ∀ r ∈ xs, ∀ x ∈ r, x < 256) (hrl : xs.length < 2 ^ 30) {A : Option Addr} {C m : Nat} (hm : m = xs.length) (hr : RRr w A xs) {K : Int → World → Prop}
    (k : ∀ F' w', JT L w0 w' n (rwD d g xs).1 F' ln (rwD d g xs).2.1 a c rs → Md (ln :: F) w w' → Fr w F F' → K (rwD d g xs).2.2 w') :
    CallW Try.prog L 130 #[.pointer (some ⟨ln, 0, none⟩), .slice A m C] (fun v w' => opI .i64 v fun x => K x w') w := by
  subst hm
  refine (f130_ok T.js h1 hpd ha xs hrs hrl A C hr).callD T.lt (fun b hb => (T.lf b hb).2) ?_
  rintro v w' ⟨rfl, F', J, hf⟩ h'
  exact opI_in (k F' w' (T.jd J h' hf) h' hf)
theorem JT.push (T : JT L w0 w n d F ln g a c rs) (r : List Nat) (hl : rs.length < 2 ^ 40) {K : Option Addr → Nat → Nat → World → Prop}
    (k : ∀ a' c' w', JT L w0 w' n d F ln g a' c' (rs ++ [r]) → (∀ A, a' = some A → a = some A ∨ w.heap.size ≤ A.block) → Md (a.map (·.block)).toList w w' → K a' (rs ++ [r]).length c' w') :
    Nw (.cells #[.string (bytesOf r)] 9) w fun b w' => RunW Try.prog L (Builtin.append_ #[55, 55] 55 #[.slice a rs.length c, .slice (some { block := b, off := 0 }) 1 1]) (fun v w' => opL v fun a n c => K a n c w') w' :=
  app_one rowT55 enctE r rfl T.ow T.js.ds.md.size T.lt T.la (by simp [maxLen]; omega) (by omega) fun a' c' w' o' m' hA => opL_in <| k a' c' w'
    ⟨T.js.other m' (fun b hb => ⟨T.up b hb, fun hd => by obtain ⟨B, hB, e⟩ := mem_blk hd; exact T.sep B hB (by rw [e]; exact hb)⟩) (fun b hb => by obtain ⟨B, hB, rfl⟩ := mem_blk hb; exact (T.ow.lt hB).1), o', fun A hA' hx => by
      rcases hA A hA' with h | h
      · exact T.sep A h hx
      · have := T.up _ hx; omega, T.lf.md m'.size, fun b hb A hA' e => by
      rcases hA A hA' with h | h
      · exact T.la b hb A h e
      · have := T.lt b hb; omega⟩ hA m'
theorem JT.r123 (T : JT L w0 w n d F ln g a c rs) (x : Int) {e : Nat} (he : e < 256) {K : Option Addr → Nat → Nat → World → Prop}
    (k : ∀ A C C2 w', JT L w0 w' n d F ln g a c rs → Md [] w w' → OwnL w' w.heap.size 5 1 b1 A C (recB x e) → K A (recB x e).length C2 w') :
    CallW Try.prog L 123 #[.int .i64 x, .int .u8 e] (fun v w' => opL v fun a m C => K a m C w') w :=
  in123 (Md.refl _ w) x he T.lt fun A C C2 w' m' o' => k A C C2 w' (T.md0 m') m' o'
theorem JT.room (T : JT L w0 w n d F ln g a c rs) (h1 : 1 ≤ d.bl.length) (hp : g.pos ≤ jsz d) {K : Int → World → Prop} (k : ∀ w', JT L w0 w' n d F ln g a c rs → Md [] w w' → K (roomD d g) w') :
    CallW Try.prog L 128 #[.pointer (some ⟨ln, 0, none⟩)] (fun v w' => opI .i64 v fun x => K x w') w :=
  in128 T.js h1 hp T.lt fun w' _ m' => k w' (T.md0 m') m'
theorem JT.nil (S : JS w0 w n d F ln g) (lf : LF L w (ln :: F)) : JT L w0 w n d F ln g none 0 [] :=
  ⟨S, OwnL.nil _ _ _ _ _, (fun A hA => by cases hA), lf, (fun b hb A hA => by cases hA)⟩
end
theorem jin127 {L : List Nat} {w : World} (xs ys : List (List Nat)) (has : ∀ r ∈ xs, ∀ x ∈ r, x < 256) (hbs : ∀ r ∈ ys, ∀ x ∈ r, x < 256) (hl : xs.length < 2 ^ 40) {a : Option Addr} {c : Nat} {b : Option Addr} {cb : Nat} {m m2 : Nat} (hm : m = xs.length) (hm2 : m2 = ys.length) (hr : RowAt w a 1 tE xs) (hr2 : RowAt w b 1 tE ys) (hL : ∀ b ∈ L, b < w.heap.size) {K : Bool → World → Prop}
    (k : ∀ w', Md [] w w' → K (decide (xs = ys)) w') : CallW Try.prog L 127 #[.slice a m c, .slice b m2 cb] (fun v w' => opB v fun x => K x w') w := by
  subst hm; subst hm2
  refine (f127_ok xs ys has hbs hl a c b cb w hr hr2).call hL ?_
  rintro v w' rfl h'
  exact opB_in (k w' h')
theorem OkR.by {rs : List (List Nat)} (h : OkR rs) : ∀ r ∈ rs, ∀ x ∈ r, x < 256 := fun r hr => (h r hr).2.2
end Fk
set_option linter.unusedVariables false
set_option linter.unusedSimpArgs false
set_option maxRecDepth 100000
set_option maxHeartbeats 4000000
namespace Fk
open Go Go.Proofs Go.RowKit
theorem JG.new {x : Nat} (h3 : 3 ≤ x) : JG (newDk x) ⟨0, 0, false⟩ [] := by
  have hl := newDk_len x
  refine ⟨⟨openA_new (by omega), by rw [hl]; exact h3, by simp [rawR], ?_⟩, rfl, fun r hr => by simp at hr, rfl⟩
  obtain ⟨k, hk⟩ := areaL_new x 0
  have hal := areaB_len (bl := (newDk x).bl) (a := 0) (by omega) (by omega)
  have hk' : areaB (newDk x).bl 0 = List.replicate k 0 := hk
  rw [hk', List.length_replicate] at hal
  have he : zE (halfB (newDk x).bl * 64) (rawR []) = [0] := by
    unfold zE rawR; rw [if_pos (by unfold halfB; rw [hl]; simp; omega)]; rfl
  rw [hk', he]
  intro j hj
  have : j = 0 := by simpa using hj
  subst this
  rw [List.getElem?_replicate, if_pos (by unfold halfB at hal; rw [hl] at hal; omega)]
  rfl
/-- A disk at rest, with its log. -/
structure JQ (N : Nat) (d : Dk) (g : Lg) (rs : List (List Nat)) : Prop where
  G : JG d g rs
  len : d.bl.length = N
  pd : d.pd = []
theorem JQ.h1 {N : Nat} {d : Dk} {g : Lg} {rs : List (List Nat)} (h : JQ N d g rs) (hN : 3 ≤ N) : 1 ≤ d.bl.length := by have := h.len; omega
theorem JQ.p28 {N : Nat} {d : Dk} {g : Lg} {rs : List (List Nat)} (h : JQ N d g rs) : d.pd.length < 2 ^ 28 := by rw [h.pd]; simp
theorem JQ.jsz {N : Nat} {d : Dk} {g : Lg} {rs : List (List Nat)} (h : JQ N d g rs) : jsz d = (N - 1) / 2 * 64 := by unfold Fk.jsz half; rw [h.len]
theorem JQ.room {N : Nat} {d : Dk} {g : Lg} {rs : List (List Nat)} (h : JQ N d g rs) (hN : N ≤ 22) : roomD d g = max ((((N - 1) / 2 * 64 : Nat) : Int) - g.pos - 8) 0 := by
  unfold roomD; rw [if_neg (by simp [h.G.ov]), h.jsz]; omega
theorem JQ.rs_len {N : Nat} {d : Dk} {g : Lg} {rs : List (List Nat)} (h : JQ N d g rs) : rs.length ≤ g.pos := by
  rw [h.G.pos, rawR_len]
  clear h
  induction rs with
  | nil => simp
  | cons r rs ih => rw [List.map_cons, sum8_cons]; simp; omega
theorem JQ.app {N : Nat} {d : Dk} {g : Lg} {rs : List (List Nat)} (h : JQ N d g rs) (hN : N ≤ 65536) {r : List Nat} (hr : ∀ x ∈ r, x < 256) :
    ((r.length < 1 ∨ r.length > 1048576) ∧ apD d g r = (d, g, 3)) ∨ (¬ (r.length < 1 ∨ r.length > 1048576) ∧ ¬ g.pos + r.length + 8 ≤ (N - 1) / 2 * 64 ∧ apD d g r = (d, g, 4)) ∨
    (¬ (r.length < 1 ∨ r.length > 1048576) ∧ g.pos + r.length + 8 ≤ (N - 1) / 2 * 64 ∧ (apD d g r).2.2 = 0 ∧ JQ N (apD d g r).1 (apD d g r).2.1 (rs ++ [r]) ∧ (apD d g r).2.1 = { g with pos := g.pos + (r.length + 8) } ∧ (d.rf = 0 → (apD d g r).1.rf = 0)) ∨
    (¬ (r.length < 1 ∨ r.length > 1048576) ∧ g.pos + r.length + 8 ≤ (N - 1) / 2 * 64 ∧ (apD d g r).2.2 = 200 ∧ (apD d g r).2.1 = { g with ov := true } ∧ d.rf ≠ 0 ∧ CS (apD d g r).1 (fun bl => bl.length = N ∧ (Sf bl g.area rs ∨ Sf bl g.area (rs ++ [r])))) := by
  have hl := apD_law (r := r) h.G (by rw [h.len]; exact hN) h.pd hr
  rw [h.jsz, h.len] at hl
  rcases hl with q | q | ⟨q1, q2, q3, q4, q5, q6, q7, q8⟩ | q
  · exact .inl q
  · exact .inr (.inl q)
  · exact .inr (.inr (.inl ⟨q1, q2, q3, ⟨q4, q6, q5⟩, q7, q8⟩))
  · exact .inr (.inr (.inr q))
theorem min15 (n : Nat) : (if (15 : Int) < (n : Int) then (15 : Int) else n) = ((min n 15 : Nat) : Int) := by omega
end Fk
set_option linter.unusedVariables false
set_option linter.unusedSimpArgs false
set_option maxRecDepth 100000
set_option maxHeartbeats 2000000
namespace Fk
open Go Go.Proofs Go.RowKit
theorem mulP_inj {x y : Nat} (hx : x < 4294967296) (hy : y < 4294967296) (h : x * 16777619 % 4294967296 = y * 16777619 % 4294967296) : x = y := by
  have key : ∀ z : Nat, z < 4294967296 → z * 16777619 % 4294967296 * 899433627 % 4294967296 = z := fun z hz => by
    have e : z * 16777619 * 899433627 = 4294967296 * (3513497 * z) + z := by
      rw [Nat.mul_assoc, ← Nat.mul_assoc 4294967296]
      have e2 : 16777619 * 899433627 = 4294967296 * 3513497 + 1 := by decide
      rw [e2, Nat.mul_add, Nat.mul_one, Nat.mul_comm z]
    rw [Nat.mul_mod, Nat.mod_mod, ← Nat.mul_mod, e, Nat.mul_add_mod, Nat.mod_eq_of_lt hz]
  rw [← key x hx, ← key y hy, h]
theorem xor_lt32 {s c : Nat} (hs : s < 4294967296) (hc : c < 256) : s ^^^ c < 4294967296 := Nat.xor_lt_two_pow (n := 32) hs (by omega)
theorem xor_cancel_r {a b c : Nat} (h : a ^^^ c = b ^^^ c) : a = b := by
  have := congrArg (· ^^^ c) h
  simpa [Nat.xor_assoc] using this
theorem xor_cancel_l {a b c : Nat} (h : c ^^^ a = c ^^^ b) : a = b := by
  have := congrArg (c ^^^ ·) h
  simpa [← Nat.xor_assoc] using this
theorem sumF_inj : ∀ (l : List Nat) (s t : Nat), (∀ x ∈ l, x < 256) → s < 4294967296 → t < 4294967296 → sumF s l = sumF t l → s = t
  | [], s, t, _, _, _, h => h
  | x :: l, s, t, hl, hs, ht, h => by
    have hx := hl x (by simp)
    have h2 := sumF_inj l _ _ (fun y hy => hl y (by simp [hy])) (Nat.mod_lt _ (by omega)) (Nat.mod_lt _ (by omega)) h
    exact xor_cancel_r (mulP_inj (xor_lt32 hs hx) (xor_lt32 ht hx) h2)
theorem sumF_set : ∀ (l : List Nat) (s p c : Nat), (∀ x ∈ l, x < 256) → s < 4294967296 → c < 256 → ∀ (hp : p < l.length), l[p] ≠ c → sumF s (l.set p c) ≠ sumF s l
  | [], s, p, c, _, _, _, hp, _ => by simp at hp
  | x :: l, s, 0, c, hl, hs, hc, hp, hne => fun h => by
    have hx := hl x (by simp)
    have h2 := sumF_inj l _ _ (fun y hy => hl y (by simp [hy])) (Nat.mod_lt _ (by omega)) (Nat.mod_lt _ (by omega)) h
    exact hne (xor_cancel_l (mulP_inj (xor_lt32 hs hc) (xor_lt32 hs hx) h2)).symm
  | x :: l, s, p + 1, c, hl, hs, hc, hp, hne => sumF_set l _ p c (fun y hy => hl y (by simp [hy])) (Nat.mod_lt _ (by omega)) hc (by simpa using hp) (by simpa using hne)
theorem numF_inj : ∀ (l m : List Nat) (a b : Nat), l.length = m.length → (∀ x ∈ l, x < 256) → (∀ x ∈ m, x < 256) → numF a l = numF b m → a = b ∧ l = m
  | [], [], a, b, _, _, _, h => ⟨h, rfl⟩
  | [], y :: m, _, _, h, _, _, _ => by simp at h
  | x :: l, [], _, _, h, _, _, _ => by simp at h
  | x :: l, y :: m, a, b, hl, h1, h2, h => by
    obtain ⟨e1, e2⟩ := numF_inj l m _ _ (by simpa using hl) (fun z hz => h1 z (by simp [hz])) (fun z hz => h2 z (by simp [hz])) h
    have hx := h1 x (by simp)
    have hy := h2 y (by simp)
    have e1 : a * 256 + x = b * 256 + y := e1
    exact ⟨by omega, by rw [e2]; congr 1; omega⟩
theorem num_inj {l m : List Nat} (hl : l.length = m.length) (h1 : ∀ x ∈ l, x < 256) (h2 : ∀ x ∈ m, x < 256) (h : num l = num m) : l = m := (numF_inj l m 0 0 hl h1 h2 h).2
/-- A frame with one byte changed. -/
theorem rot_frame {r rest : List Nat} (h1 : 1 ≤ r.length) (h2 : r.length ≤ 1048576) (hr : ∀ x ∈ r, x < 256) {p c : Nat} (hc : c < 256) (hp : p = 0 ∨ 4 ≤ p) (hpl : p < r.length + 8) (hne : (frm 1 r)[p]? ≠ some c) :
    parseL ((frm 1 r).set p c ++ rest) = if p = 0 ∧ c = 0 then some ([], 0) else none := by
  have hfl := frm_len 1 r
  have hl0 : 0 < ((frm 1 r).set p c ++ rest).length := by rw [List.length_append, List.length_set, hfl]; omega
  rw [parseL_step _ hl0]
  by_cases hp0 : p = 0
  · subst hp0
    have e0 : ((frm 1 r).set 0 c ++ rest)[0] = c := rfl
    have hc1 : c ≠ 1 := fun h => hne (by rw [h]; rfl)
    rw [e0]
    by_cases hc0 : c = 0
    · rw [if_pos hc0, if_pos ⟨rfl, hc0⟩]
    · rw [if_neg hc0, if_pos (.inl hc1), if_neg (fun h => hc0 h.2)]
  · have hp4 : 4 ≤ p := by omega
    obtain ⟨q, rfl⟩ : ∃ q, p = q + 4 := ⟨p - 4, by omega⟩
    have hR : (if q + 4 = 0 ∧ c = 0 then some (([] : List (List Nat)), 0) else none) = none := if_neg fun h => hp0 h.1
    rw [hR]
    have hb3 : be r.length 3 = [r.length / 256 ^ 2 % 256, r.length / 256 ^ 1 % 256, r.length / 256 ^ 0 % 256] := rfl
    have ef : (frm 1 r).set (q + 4) c = 1 :: (be r.length 3 ++ (r ++ be (sumL (bodyB r)) 4).set q c) := by
      show (1 :: (bodyB r ++ be (sumL (bodyB r)) 4)).set (q + 4) c = _
      rw [List.set_cons_succ, bodyB, List.append_assoc, hb3]
      rfl
    have e0 : ((frm 1 r).set (q + 4) c ++ rest)[0] = 1 := by simp [ef]
    have en : num ((((frm 1 r).set (q + 4) c ++ rest).drop 1).take 3) = r.length := by
      rw [ef]
      show num (List.take 3 ((be r.length 3 ++ (r ++ be (sumL (bodyB r)) 4).set q c) ++ rest)) = _
      rw [List.append_assoc, List.take_left' (be_len _ _), num_be _ _ (by omega)]
    have hlen : ((frm 1 r).set (q + 4) c ++ rest).length = r.length + 8 + rest.length := by rw [List.length_append, List.length_set, hfl]
    rw [e0, en, if_neg (by omega), if_neg (by omega), if_neg (by omega), if_pos]
    have hsl := be_len (sumL (bodyB r)) 4
    have d4 : ((frm 1 r).set (q + 4) c ++ rest).drop (4 + r.length) = (((r ++ be (sumL (bodyB r)) 4).set q c) ++ rest).drop r.length := by
      rw [ef]
      show (1 :: (be r.length 3 ++ (r ++ be (sumL (bodyB r)) 4).set q c) ++ rest).drop (4 + r.length) = _
      rw [hb3, show 4 + r.length = r.length + 1 + 1 + 1 + 1 by omega]
      rfl
    have d1 : ((frm 1 r).set (q + 4) c ++ rest).drop 1 = be r.length 3 ++ (((r ++ be (sumL (bodyB r)) 4).set q c) ++ rest) := by
      rw [ef]
      show (be r.length 3 ++ (r ++ be (sumL (bodyB r)) 4).set q c) ++ rest = _
      rw [List.append_assoc]
    rw [d4, d1]
    by_cases hq : q < r.length
    · rw [List.set_append_left _ _ hq]
      have hrl : (r.set q c).length = r.length := List.length_set
      rw [show (r.set q c ++ be (sumL (bodyB r)) 4 ++ rest).drop r.length = be (sumL (bodyB r)) 4 ++ rest by rw [List.append_assoc, List.drop_left' hrl], List.take_left' hsl, num_be _ _ (sumL_lt _)]
      have et : (be r.length 3 ++ (r.set q c ++ be (sumL (bodyB r)) 4 ++ rest)).take (3 + r.length) = (bodyB r).set (3 + q) c := by
        rw [List.append_assoc, ← List.append_assoc, List.take_left' (by rw [List.length_append, be_len, hrl])]
        unfold bodyB
        rw [List.set_append_right _ _ (by rw [be_len]; omega), be_len]
        congr 2; omega
      rw [et]
      have hbl : (bodyB r).length = 3 + r.length := by unfold bodyB; rw [List.length_append, be_len]
      have hbb : ∀ x ∈ bodyB r, x < 256 := fun x hx => by
        rcases List.mem_append.1 hx with h | h
        · exact be_lt _ _ x h
        · exact hr x h
      refine fun h => sumF_set (bodyB r) 2166136261 (3 + q) c hbb (by omega) hc (by omega) (fun h2 => hne ?_) h.symm
      rw [← h2]
      show (1 :: (bodyB r ++ be (sumL (bodyB r)) 4))[q + 4]? = _
      rw [show q + 4 = (3 + q) + 1 by omega, List.getElem?_cons_succ, List.getElem?_append_left (by omega), List.getElem?_eq_getElem (by omega)]
    · rw [List.set_append_right _ _ (by omega)]
      have hsl2 : ((be (sumL (bodyB r)) 4).set (q - r.length) c).length = 4 := by rw [List.length_set, hsl]
      rw [show (r ++ (be (sumL (bodyB r)) 4).set (q - r.length) c ++ rest).drop r.length = (be (sumL (bodyB r)) 4).set (q - r.length) c ++ rest by rw [List.append_assoc, List.drop_left], List.take_left' hsl2]
      have et : (be r.length 3 ++ (r ++ (be (sumL (bodyB r)) 4).set (q - r.length) c ++ rest)).take (3 + r.length) = bodyB r := by
        rw [List.append_assoc, ← List.append_assoc, List.take_left' (by rw [List.length_append, be_len])]; rfl
      rw [et]
      intro h
      have h3 := num_be (sumL (bodyB r)) 4 (sumL_lt _)
      have h := h.trans h3.symm
      have h4 := num_inj (by rw [hsl2, hsl]) (fun x hx => by
        rcases List.mem_or_eq_of_mem_set hx with h | h
        · exact be_lt _ _ x h
        · omega) (be_lt _ _) h
      refine hne ?_
      have hq4 : q - r.length < 4 := by omega
      have h5 : ((be (sumL (bodyB r)) 4).set (q - r.length) c)[q - r.length]? = some c := List.getElem?_set_self (by rw [hsl]; exact hq4)
      rw [h4] at h5
      show (1 :: (bodyB r ++ be (sumL (bodyB r)) 4))[q + 4]? = _
      have hbl : (bodyB r).length = 3 + r.length := by unfold bodyB; rw [List.length_append, be_len]
      rw [show q + 4 = (3 + q) + 1 by omega, List.getElem?_cons_succ, List.getElem?_append_right (by omega), hbl, show 3 + q - (3 + r.length) = q - r.length by omega]
      exact h5
/-- An area with one byte changed. -/
theorem rot_area {rs : List (List Nat)} (ok : OkR rs) {tl : List Nat} {k p c : Nat} (hk : k < rs.length) (hc : c < 256) (hp : p = 0 ∨ 4 ≤ p) (hpl : p < rs[k].length + 8) (hne : (rawR rs ++ tl)[(rawR (rs.take k)).length + p]? ≠ some c) :
    parseL ((rawR rs ++ tl).set ((rawR (rs.take k)).length + p) c) = if p = 0 ∧ c = 0 then some (rs.take k, (rawR (rs.take k)).length) else none := by
  have hrk := ok _ (List.getElem_mem hk)
  have e : rawR rs ++ tl = rawR (rs.take k) ++ (frm 1 rs[k] ++ (rawR (rs.drop (k + 1)) ++ tl)) := by
    have h1 : rawR rs = rawR (rs.take k) ++ rawR (rs.drop k) := by rw [rawR, rawR, rawR, ← List.flatMap_append, List.take_append_drop]
    rw [h1, List.drop_eq_getElem_cons hk]
    show rawR (rs.take k) ++ (frm 1 rs[k] ++ rawR (rs.drop (k + 1))) ++ tl = _
    rw [List.append_assoc, List.append_assoc]
  rw [e] at hne ⊢
  rw [List.getElem?_append_right (by omega), Nat.add_sub_cancel_left, List.getElem?_append_left (by rw [frm_len]; exact hpl)] at hne
  rw [List.set_append_right _ _ (by omega), Nat.add_sub_cancel_left, List.set_append_left _ _ (by rw [frm_len]; exact hpl), parse_raw _ _ (fun r hr => ⟨(ok r (List.mem_of_mem_take hr)).1, (ok r (List.mem_of_mem_take hr)).2.1⟩), rot_frame hrk.1 hrk.2.1 hrk.2.2 hc hp hpl hne]
  split <;> simp
end Fk
set_option linter.unusedVariables false
set_option linter.unusedSimpArgs false
set_option maxRecDepth 100000
set_option maxHeartbeats 4000000
namespace Fk
open Go Go.Proofs Go.RowKit
structure Op4 where
  k : Nat
  n : Int
  m : Int
  c : Nat
structure Op4.ok (o : Op4) : Prop where
  c : o.c < 256
  n : -9223372036854775808 ≤ o.n ∧ o.n ≤ 9223372036854775807
  m : -9223372036854775808 ≤ o.m ∧ o.m ≤ 9223372036854775807
section
variable {L : List Nat} {w0 w : World} {n : Nat} {d : Dk} {F : List Nat} {ln : Nat} {g : Lg} {a : Option Addr} {c : Nat} {rs : List (List Nat)}
theorem JT.drop (T : JT L w0 w n d F ln g a c rs) : JT [] w0 w n d F ln g a c rs := ⟨T.js, T.ow, T.sep, LF.nil _ _, fun b hb => by cases hb⟩
theorem JT.reg {w' : World} {n0 : Nat} (T : JT [] w0 w n d F ln g a c rs) (h0 : w.heap.size ≤ n0) (hm : Md [n0] w w') (hl : n0 < w'.heap.size) : JT [n0] w0 w' n d F ln g a c rs := by
  have T' := T.md0 (mdUp h0 hm)
  refine ⟨T'.js, T'.ow, T'.sep, fun b hb => ?_, fun b hb A hA e => ?_⟩
  · simp only [List.mem_singleton] at hb; subst hb
    exact ⟨hl, fun hx => by have := T.up _ hx; omega⟩
  · simp only [List.mem_singleton] at hb; subst hb
    have := (T.ow.lt hA).2; omega
theorem JT.open' (T : JT L w0 w n d F ln g a c rs) (h3 : 3 ≤ d.bl.length) {K : Option Addr → Option Addr → Nat → Nat → Bool → World → Prop}
    (k1 : ∀ A C w', parseL (areaB d.bl (openB d.bl)) = none → JT L w0 w' n d F ln g a c rs → Md [] w w' → K none A 0 C false w')
    (k2 : ∀ xs p l2 A C w', parseL (areaB d.bl (openB d.bl)) = some (xs, p) → JT L w0 w' n d F l2 ⟨openB d.bl, p, false⟩ a c rs → OwnL w' w.heap.size 9 1 tE A C xs → Md [] w w' → K (some ⟨l2, 0, none⟩) A xs.length C true w') :
    CallW Try.prog L 126 #[.pointer (some ⟨n, 0, none⟩)] (fun v w' => opTu v fun cs => opP (nthD (Array.toList cs) 0) fun l => opL (nthD (Array.toList cs) 1) fun a m c => opB (nthD (Array.toList cs) 2) fun e => SzIs (Array.size cs) 3 (K l a m c e w')) w :=
  in126 T.js.ds h3 T.lt (fun A C w' hn S' m' => k1 A C w' hn (T.md0 m') m') fun xs p l2 A C w' hs J' hlo o' m' => k2 xs p l2 A C w' hs
    ⟨J', T.ow.md m', fun B hB hx => by
      rcases List.mem_cons.1 hx with h | h
      · have := (T.ow.lt hB).2; omega
      · exact T.sep B hB (List.mem_cons_of_mem _ h), fun b hb => ⟨Nat.lt_of_lt_of_le (T.lf b hb).1 m'.size, fun hx => by
      rcases List.mem_cons.1 hx with h | h
      · have := (T.lf b hb).1; omega
      · exact (T.lf b hb).2 (List.mem_cons_of_mem _ h)⟩, T.la⟩ o' m'
end
/-- What was under way when a step was refused. -/
structure JU (N : Nat) (d : Dk) (g : Lg) (rs : List (List Nat)) (r : List Nat) : Prop where
  cs : CS d (fun bl => bl.length = N ∧ (Sf bl g.area rs ∨ Sf bl g.area (rs ++ [r])))
  ov : g.ov = true
  le : g.pos ≤ jsz d
  pd : d.pd.length < 2 ^ 28
  ok : OkR (rs ++ [r])
theorem JQ.refuse {N : Nat} {d : Dk} {g : Lg} {rs : List (List Nat)} {r : List Nat} (h : JQ N d g rs) (hN : 1 ≤ N) (hN2 : N ≤ 65536) (hr : ∀ x ∈ r, x < 256) (hl : ¬ (r.length < 1 ∨ r.length > 1048576)) (hg : (apD d g r).2.1 = { g with ov := true })
    (hc : CS (apD d g r).1 (fun bl => bl.length = N ∧ (Sf bl g.area rs ∨ Sf bl g.area (rs ++ [r])))) : JU N (apD d g r).1 (apD d g r).2.1 rs r := by
  have hlen := apD_len (d := d) (g := g) (r := r) (by rw [h.len]; exact hN) (by rw [h.len]; exact hN2) h.G.sf.ha h.G.le
  refine ⟨by rw [hg]; exact hc, by rw [hg], ?_, by rw [h.pd] at hlen; simp at hlen; omega, fun x hx => ?_⟩
  · rw [hg]
    have hle := h.G.le
    have e : Fk.jsz (apD d g r).1 = Fk.jsz d := by unfold Fk.jsz half; rw [hlen.1]
    rw [e]; exact hle
  · rcases List.mem_append.1 hx with h' | h'
    · exact h.G.ok x h'
    · simp at h'; subst h'; exact ⟨by omega, by omega, hr⟩
theorem JU.ha {N : Nat} {d : Dk} {g : Lg} {rs : List (List Nat)} {r : List Nat} (h : JU N d g rs r) : g.area ≤ 1 := by
  rcases h.cs.now.2 with h | h <;> exact h.ha
theorem tmodr (x : Int) (m : Int) (hm : 0 < m) (h1 : 0 ≤ x) : 0 ≤ Int.tmod x m ∧ Int.tmod x m < m := by
  rw [Int.tmod_eq_emod_of_nonneg h1]; exact ⟨Int.emod_nonneg _ (by omega), Int.emod_lt_of_pos _ hm⟩
end Fk
set_option linter.unusedVariables false
set_option linter.unusedSimpArgs false
set_option maxRecDepth 100000
set_option maxHeartbeats 2000000
namespace Fk
open Go Go.Proofs Go.RowKit
theorem area_set_ne {bl : List Bk} {a i : Nat} {b : Bk} (h1 : 1 ≤ bl.length) (ha : a ≤ 1) (hi : i < bl.length) (hn : ∀ k, k < halfB bl → i ≠ jbB bl a k) : areaB (bl.set i b) a = areaB bl a := by
  have hh : halfB (bl.set i b) = halfB bl := by unfold halfB; simp
  apply List.ext_getElem?
  intro j
  by_cases hj : j / 64 < halfB bl
  · have ej : j = j / 64 * 64 + j % 64 := by omega
    rw [ej, areaB_get (by simpa using h1) ha (by rw [hh]; exact hj) (Nat.mod_lt _ (by omega)), jbB_set, getB_set hi, if_neg (fun e => hn _ hj e.symm), areaB_get h1 ha hj (Nat.mod_lt _ (by omega))]
  · rw [List.getElem?_eq_none (by rw [areaB_len (by simpa using h1) ha, hh]; omega), List.getElem?_eq_none (by rw [areaB_len h1 ha]; omega)]
theorem Sf.other {bl : List Bk} {a i : Nat} {b : Bk} {rs : List (List Nat)} (h : Sf bl a rs) (hi : i < bl.length) (h0 : i ≠ 0) (hn : ∀ k, k < halfB bl → i ≠ jbB bl a k) : Sf (bl.set i b) a rs := by
  have hh : halfB (bl.set i b) = halfB bl := by unfold halfB; simp
  refine ⟨by rw [openB_set hi h0]; exact h.op, by simpa using h.h3, by rw [hh]; exact h.fit, ?_⟩
  rw [hh, area_set_ne (by have := h.h3; omega) h.ha hi hn]; exact h.pre
end Fk
set_option linter.unusedVariables false
set_option linter.unusedSimpArgs false
set_option maxRecDepth 100000
set_option maxHeartbeats 4000000
namespace Fk
open Go Go.Proofs Go.RowKit
def frs (rs : List (List Nat)) : List Int := (List.range rs.length).map fun k => ((rawR (rs.take k)).length : Int)
theorem frs_len (rs : List (List Nat)) : (frs rs).length = rs.length := by simp [frs]
theorem frs_get (rs : List (List Nat)) {k : Nat} (h : k < (frs rs).length) : (frs rs)[k] = ((rawR (rs.take k)).length : Int) := by simp [frs]
theorem frs_snoc (rs : List (List Nat)) (r : List Nat) : frs (rs ++ [r]) = frs rs ++ [((rawR rs).length : Int)] := by
  unfold frs
  rw [List.length_append, List.length_singleton, List.range_succ, List.map_append]
  congr 1
  · apply List.map_congr_left
    intro k hk
    have : k < rs.length := by simpa using hk
    rw [List.take_append_of_le_length (by omega)]
  · simp
theorem area_set_one {bl : List Bk} {a k j c : Nat} (h1 : 1 ≤ bl.length) (ha : a ≤ 1) (hk : k < halfB bl) (hj : j < 64) (hc : c < 256) : areaB (bl.set (jbB bl a k) (mkBk ((getB bl (jbB bl a k)).1.set j c))) a = (areaB bl a).set (k * 64 + j) c := by
  have hlt := jbB_lt h1 ha hk
  have hv : (mkBk ((getB bl (jbB bl a k)).1.set j c)).1 = (getB bl (jbB bl a k)).1.set j c := mkBk_val (by rw [List.length_set]; exact (getB bl (jbB bl a k)).2.1) (fun y hy => by
    rcases List.mem_or_eq_of_mem_set hy with h | h
    · exact (getB bl (jbB bl a k)).2.2 y h
    · omega)
  have hh : ∀ b, halfB (bl.set (jbB bl a k) b) = halfB bl := fun b => by unfold halfB; simp
  have hal := areaB_len h1 ha
  apply List.ext_getElem?
  intro i
  by_cases hi : i / 64 < halfB bl
  · have ei : i = i / 64 * 64 + i % 64 := by omega
    have e1 : (areaB (bl.set (jbB bl a k) (mkBk ((getB bl (jbB bl a k)).1.set j c))) a)[i]? = (getB (bl.set (jbB bl a k) (mkBk ((getB bl (jbB bl a k)).1.set j c))) (jbB bl a (i / 64))).1[i % 64]? := by
      conv => lhs; rw [ei]
      rw [areaB_get (by simpa using h1) ha (by rw [hh]; exact hi) (Nat.mod_lt _ (by omega)), jbB_set]
    have e2 : (areaB bl a)[i]? = (getB bl (jbB bl a (i / 64))).1[i % 64]? := by
      conv => lhs; rw [ei]
      rw [areaB_get h1 ha hi (Nat.mod_lt _ (by omega))]
    rw [e1, getB_set hlt]
    by_cases hik : i = k * 64 + j
    · subst hik
      have e3 : (k * 64 + j) / 64 = k := by omega
      have e4 : (k * 64 + j) % 64 = j := by omega
      rw [e3, e4, if_pos rfl, hv, List.getElem?_set_self (by rw [(getB bl (jbB bl a k)).2.1]; exact hj), List.getElem?_set_self (by omega)]
    · rw [List.getElem?_set_ne (by omega), e2]
      split
      · rename_i he
        have := (jbB_inj ha ha hi hk he).2
        rw [hv, this, List.getElem?_set_ne (by omega)]
      · rfl
  · rw [List.getElem?_eq_none (by rw [areaB_len (by simpa using h1) ha, hh]; omega), List.getElem?_eq_none (by rw [List.length_set]; omega)]
theorem xor8 (v t : Nat) (hv : v < 256) (ht : t < 256) : IntKind.wrap .u8 ((BitVec.toNat (BitVec.ofInt 8 (v : Int) ^^^ BitVec.ofInt 8 (t : Int)) : Nat) : Int) = ((v ^^^ t : Nat) : Int) := by
  have h : v ^^^ t < 2 ^ 8 := Nat.xor_lt_two_pow hv ht
  have e : BitVec.toNat (BitVec.ofInt 8 (v : Int) ^^^ BitVec.ofInt 8 (t : Int)) = v ^^^ t := by
    rw [BitVec.toNat_xor, BitVec.ofInt_natCast, BitVec.ofInt_natCast, BitVec.toNat_ofNat, BitVec.toNat_ofNat, Nat.mod_eq_of_lt (by omega), Nat.mod_eq_of_lt (by omega)]
  rw [e, IntKind.wrap_u8]
  generalize v ^^^ t = m at *
  omega
theorem rawR_take_le (rs : List (List Nat)) {k : Nat} (hk : k < rs.length) : (rawR (rs.take k)).length + rs[k].length + 8 ≤ (rawR rs).length := by
  have h1 : rawR rs = rawR (rs.take k) ++ rawR (rs.drop k) := by rw [rawR, rawR, rawR, ← List.flatMap_append, List.take_append_drop]
  rw [h1, List.drop_eq_getElem_cons hk, rawR_cons, List.length_append, List.length_append, frm_len]; omega
theorem rot_sf {bl : List Bk} {rs : List (List Nat)} (h : Sf bl 0 rs) (ok : OkR rs) {k p c : Nat} (hk : k < rs.length) (hc : c < 256) (hp : p = 0 ∨ 4 ≤ p) (hpl : p < rs[k].length + 8)
    {q : Nat} (hq : q = (rawR (rs.take k)).length + p) (hne : (getB bl (jbB bl 0 (q / 64))).1[q % 64]? ≠ some c) :
    let bl' := bl.set (jbB bl 0 (q / 64)) (mkBk ((getB bl (jbB bl 0 (q / 64))).1.set (q % 64) c))
    parseL (areaB bl' (openB bl')) = if p = 0 ∧ c = 0 then some (rs.take k, (rawR (rs.take k)).length) else none := by
  have h1 : 1 ≤ bl.length := by have := h.h3; omega
  have hle := rawR_take_le rs hk
  have hqf : q < halfB bl * 64 := by have := h.fit; omega
  have hq64 : q / 64 < halfB bl := by omega
  have hlt := jbB_lt (a := 0) h1 (by omega) hq64
  intro bl'
  have eo : openB bl' = 0 := by
    show openB (bl.set _ _) = 0
    rw [openB_set hlt (jbB_pos _ _ _)]; exact h.op
  rw [eo]
  show parseL (areaB (bl.set _ _) 0) = _
  rw [area_set_one h1 (by omega) hq64 (Nat.mod_lt _ (by omega)) hc, show q / 64 * 64 + q % 64 = q by omega]
  obtain ⟨t, ht⟩ : ∃ t, areaB bl 0 = rawR rs ++ t := by
    obtain ⟨t, ht⟩ := h.pre.split
    unfold zE at ht
    split at ht
    · exact ⟨[0] ++ t, by rw [ht, List.append_assoc]⟩
    · exact ⟨t, ht⟩
  rw [← areaB_get h1 (by omega) hq64 (Nat.mod_lt _ (by omega)), show q / 64 * 64 + q % 64 = q by omega, ht, hq] at hne
  rw [ht, hq]
  exact rot_area ok hk hc hp hpl hne
theorem slice55 (w : World) (a : Option Addr) (n c m : Nat) (h : m ≤ c) : (Instr.sliceAt 55 (.slice a n c) none (some (.int .i64 (m : Int))) none).run Try.prog w = .ok (.slice a m c) w := by
  refine slice_front (e := 9) (by kernel_rfl) (fun w => ?_) w a n c m h
  have h : (Try.prog.info? 9).map (·.size) = some 1 := by kernel_rfl
  cases hi : Try.prog.info? 9 with
  | none => rw [hi] at h; cases h
  | some i => rw [hi] at h; simp [Go.sizeOf, typeInfo, hi]
theorem f29_ok (lens : List Nat) (A : Option Addr) (C : Nat) (hC : lens.length ≤ C) (hlb : ∀ x ∈ lens, x < 256) (b : Nat) (hb : b < 256) (wh : Nat) (hwh : wh < 256) (at' : Int) (hat : 0 ≤ at' ∧ at' < 65536) (tn : Nat) (htn : tn < 256) (w0 : World) (hr : RowAt w0 A 1 b1 lens) :
    Ct Try.prog 29 #[.int .u8 b, .slice A lens.length C, .int .u8 wh, .int .u16 at', .int .u8 tn] w0 fun v w' => v = .bool true ∧ Md [] w0 w' := by
  apply f29_in
  refine in122 (Md.refl _ w0) b (by simp) (fun n F ln w2 S2 hF2 hln m2 => ?_) hb
  refine Bd_e rfl <| If_f <| Bd_e rfl <| Bd_e (min15 _) <| RunW_in0 (slice_front (e := 5) (by kernel_rfl) (fun w => ⟨1, size5b w⟩) w2 _ _ _ (min lens.length 15) (by omega)) <| opL_in <| Bd_e rfl ?_
  generalize hN : 3 + b % 20 = N at *
  have hN3 : 3 ≤ N := by omega
  have hN22 : N ≤ 22 := by omega
  have Q2 : JQ N (newDk N) ⟨0, 0, false⟩ [] := ⟨JG.new hN3, newDk_len N, rfl⟩
  refine LoopP_in (fun mm us vs w' => ∃ (i : Nat) (d : Dk) (F : List Nat) (g : Lg) (a : Option Addr) (c : Nat) (fa : Option Addr) (fc : Nat) (rs : List (List Nat)), us = [.slice a rs.length c, .slice fa (frs rs).length fc, .int .i64 ((rawR rs).length : Nat), .int .i64 i] ∧ mm = min lens.length 15 - i ∧ i ≤ min lens.length 15 ∧ JT [] w0 w' n d F ln g a c rs ∧ JQ N d g rs ∧ d.rf = 0 ∧ g.area = 0 ∧
      OwnL w' w0.heap.size 3 1 i1 fa fc (frs rs) ∧ (∀ A, fa = some A → A.block ∉ ln :: F) ∧ Apt a fa) (min lens.length 15)
    ⟨0, newDk N, F, ⟨0, 0, false⟩, none, 0, none, 0, [], rfl, rfl, by omega, JT.nil S2 (LF.nil _ _), Q2, rfl, rfl, OwnL.nil _ _ _ _ _, (fun A hA => by cases hA), (fun A B hA => by cases hA)⟩ ?_
  rintro mm us vs w19 ⟨i, d, F, g, a, c, fa, fc, rs, rfl, hmm, hi, T, Q, hrf, hg0, of, sf, af⟩
  have hA := Q.G.sf.ha
  have h1 := Q.h1 hN3
  have hjz := Q.jsz
  have hle := Q.G.le
  have hrl := Q.rs_len
  refine opL_in <| opL_in <| opI_in <| opI_in <| Bd_in fun b28 hb28 => If_in (fun hbb => ?_) fun hbb => ?_
  · have hil : i < min lens.length 15 := by rw [hb28] at hbb; have := of_decide_eq_true hbb; omega
    have hil2 : i < lens.length := by omega
    have r19 := hr.md T.js.ds.md
    have hix := (r19.take (min lens.length 15)).ix (i := i) (by rw [List.length_take]; omega)
    rw [List.length_take, Nat.min_eq_left (by omega)] at hix
    have hx := hlb _ (List.getElem_mem hil2)
    refine Jn_in (fun us vs w' => ∃ (x y : Int) (B : Option Addr) (m C : Nat) (d : Dk) (F : List Nat) (g : Lg) (a : Option Addr) (c : Nat) (fa : Option Addr) (fc : Nat) (rs : List (List Nat)), us = [.slice a rs.length c, .slice fa (frs rs).length fc, .int .i64 ((rawR rs).length : Nat), .int .i64 x, .int .u8 y, .slice B m C] ∧ JT [] w0 w' n d F ln g a c rs ∧ JQ N d g rs ∧ d.rf = 0 ∧ g.area = 0 ∧
      OwnL w' w0.heap.size 3 1 i1 fa fc (frs rs) ∧ (∀ A, fa = some A → A.block ∉ ln :: F) ∧ Apt a fa) ?_ ?_
    · rintro us vs w31 ⟨x, y, B, m, C, d, F, g, a, c, fa, fc, rs, rfl, T', Q', hrf', hg', of', sf', af'⟩
      exact opL_in <| opL_in <| opI_in <| opI_in <| opI_in <| opL_in <| Bd_e (inc_i64 (by omega)) ⟨min lens.length 15 - (i + 1), by omega, i + 1, d, F, g, a, c, fa, fc, rs, rfl, rfl, by omega, T', Q', hrf', hg', of', sf', af'⟩
    · refine ⟨hix, r19.ld1 hil2 rfl <| opI_in <| Bd_e (y := ((lens[i] : Nat) : Int)) (by rw [IntKind.wrap_i64]; omega) <| Bd_e (y := ((lens[i] % 100 : Nat) : Int)) (by rw [Int.tmod_eq_emod_of_nonneg (by omega)]; omega) <| Bd_e (y := ((1 + lens[i] % 100 : Nat) : Int)) (by rw [IntKind.wrap_i64]; omega) <| Bd_e (y := (i : Int)) (by rw [IntKind.wrap_u8]; omega) <| T.r123 _ (by omega) fun B C C4 w53 T53 m53 o53 => ?_⟩
      have hrecl : (recB ((1 + lens[i] % 100 : Nat) : Int) i).length = 1 + lens[i] % 100 := by rw [recB_len]; unfold recN; omega
      have hrb := recB_lt ((1 + lens[i] % 100 : Nat) : Int) i
      generalize recB ((1 + lens[i] % 100 : Nat) : Int) i = rec at *
      refine T53.app h1 Q.p28 hA hle rec hrb rfl (o53.row encb1) fun F' w58 T58 m58 f58 => ?_
      have o58 := o53.mdD m58 fun D hD hx => by have := (o53.lt hD).1; have := T.up _ hx; omega
      have of53 := of.md m53
      have of58 := of53.mdD m58 sf
      have sf58 : ∀ A, fa = some A → A.block ∉ ln :: F' := fun A hA hx => by
        rcases frc ln f58 _ hx with h | h
        · exact sf A hA h
        · have := (of53.lt hA).2; omega
      rcases Q.app (by omega) hrb with ⟨q1, _⟩ | ⟨q1, q2, q3⟩ | ⟨q1, q2, q3, q4, q5, q6⟩ | ⟨q1, q2, q3, q4, q6, q5⟩
      · omega
      · rw [q3] at T58 ⊢
        exact Bd_e rfl <| If_f ⟨_, _, _, _, _, d, F', g, a, c, fa, fc, rs, rfl, T58, Q, hrf, hg0, of58, sf58, af⟩
      · rw [q3]
        refine Bd_e rfl <| If_t <| RunW_in0 (str_own o58 hrb _) <| opStr_in <| T58.push rec (by omega) fun a' c' w67 T67 hA67 m67 => ?_
        have of67 := of58.mdD m67 fun D hD hx => by obtain ⟨E, hE, e⟩ := mem_blk hx; exact af E D hE hD e
        have ap67 : Apt a' fa := fun D E hD hE e => by
          rcases hA67 D hD with h | h
          · exact af D E h hE e
          · have := (of58.lt hE).2; omega
        have hfl := frs_len rs
        refine app_one rowT52 enci1 ((rawR rs).length : Int) rfl of67 T67.js.ds.md.size (by simp) (by simp) (by rw [hfl]; simp [maxLen]; omega) (by rw [hfl]; omega) fun fa' fc' w74 o74 m74 hA74 => opL_in ?_
        rw [← frs_snoc rs rec] at o74 ⊢
        have T74 : JT [] w0 w74 n (apD d g rec).1 F' ln (apD d g rec).2.1 a' c' (rs ++ [rec]) :=
          ⟨T67.js.other m74 (fun x hx => ⟨T67.up x hx, fun hd => by obtain ⟨E, hE, e⟩ := mem_blk hd; exact sf58 E hE (by rw [e]; exact hx)⟩) (fun x hx => by obtain ⟨E, hE, rfl⟩ := mem_blk hx; exact (of67.lt hE).1), T67.ow.mdD m74 (fun D hD hx => by obtain ⟨E, hE, e⟩ := mem_blk hx; exact ap67 D E hD hE e.symm), T67.sep, LF.nil _ _, fun x hx => by cases hx⟩
        have hG4 := q4.G.pos
        have hrs' : (rawR (rs ++ [rec])).length = (rawR rs).length + (rec.length + 8) := by rw [rawR_snoc, List.length_append, frm_len]
        have hle4 := Q.G.pos
        refine Bd_e rfl <| Bd_e (y := ((rec.length + 8 : Nat) : Int)) (by rw [IntKind.wrap_i64]; omega) <| Bd_e (y := ((rawR (rs ++ [rec])).length : Int)) (by rw [hrs', IntKind.wrap_i64]; omega) ⟨_, _, _, _, _, _, F', _, a', c', fa', fc', rs ++ [rec], rfl, T74, q4, q6 hrf, by rw [q5]; exact hg0, o74, fun D hD hx => ?_, fun D E hD hE e => ?_⟩
        · rcases hA74 D hD with h | h
          · exact sf58 D h hx
          · have := T67.up _ hx; omega
        · rcases hA74 E hE with h | h
          · exact ap67 D E hD h e
          · have := (T67.ow.lt hD).2; omega
      · exact absurd hrf q6
  · refine Bd_e rfl <| Bd_in fun b82 hb82 => Bd_in fun b83 hb83 => Bd_in fun b84 hb84 => If_in (fun hz => ?_) fun hz => ?_
    · exact in125 T.js.ds.md (by simp) fun w86 m86 _ => ⟨rfl, m86⟩
    have hz2 : b82 = false ∧ b83 = false := by rw [hb84] at hz; cases b82 <;> simp_all
    have hrs0 : 0 < rs.length := by
      have := hz2.1; rw [hb82] at this; have := beq_eq_false_iff_ne.1 this; omega
    have htn0 : tn ≠ 0 := by
      have := hz2.2; rw [hb83] at this; have := beq_eq_false_iff_ne.1 this; omega
    clear hz hz2 hb82 hb83 hb84
    have hkk : wh % rs.length < rs.length := Nat.mod_lt _ hrs0
    refine Bd_e (y := (wh : Int)) (by rw [IntKind.wrap_i64]; omega) <| Bd_e rfl ⟨by omega, Bd_e (y := ((wh % rs.length : Nat) : Int)) (by rw [Int.tmod_eq_emod_of_nonneg (by omega)]; omega) <| Bd_e (y := at') (by rw [IntKind.wrap_i64]; omega) ?_⟩
    generalize wh % rs.length = k at *
    have hrk := Q.G.ok _ (List.getElem_mem hkk)
    refine ⟨(T.ow.row enctE).ix hkk, (T.ow.row enctE).ld1 hkk rfl <| opStr_in <| Bd_e (y := (rs[k].length : Int)) (by rw [size_bytesOf]) <| Bd_e (y := ((rs[k].length + 5 : Nat) : Int)) (by rw [IntKind.wrap_i64]; omega) ⟨by omega, ?_⟩⟩
    have h96 := tmodr at' ((rs[k].length + 5 : Nat) : Int) (by omega) hat.1
    refine Bd_in fun x96 hx96 => ?_
    rw [← hx96] at h96
    clear hx96
    refine Jn_in (fun us vs w' => w' = w19 ∧ ∃ p : Nat, us = [.int .i64 (p : Int)] ∧ (p = 0 ∨ 4 ≤ p) ∧ p < rs[k].length + 8) ?_ ?_
    case refine_2 =>
      refine Bd_in fun b181 hb181 => If_in (fun hp => ?_) fun hp => ?_
      · have hpos : x96 > 0 := by rw [hb181] at hp; exact of_decide_eq_true hp
        exact Bd_e (y := (((x96 + 3).toNat : Nat) : Int)) (by rw [IntKind.wrap_i64]; omega) ⟨rfl, _, rfl, by omega, by omega⟩
      · have hpos : ¬ x96 > 0 := by rw [hb181] at hp; exact of_decide_eq_false hp
        have : x96 = 0 := by omega
        subst this
        exact ⟨rfl, 0, rfl, by omega, by omega⟩
    rintro us vs w99 ⟨rfl, p, rfl, hp, hpl⟩
    have hfl := frs_len rs
    have hkf : k < (frs rs).length := by omega
    have htl := rawR_take_le rs hkk
    have hfit : (rawR rs).length ≤ 640 := by have := Q.G.sf.fit; unfold halfB at this; rw [Q.len] at this; omega
    generalize hq : (rawR (rs.take k)).length + p = q at *
    have hql : q < (rawR rs).length := by omega
    refine opI_in ⟨(of.row enci1).ix hkf, (of.row enci1).ld1 hkf rfl <| by
      rw [frs_get]
      refine opI_in <| Bd_e (y := ((64 + (rawR (rs.take k)).length : Nat) : Int)) (by rw [IntKind.wrap_i64]; omega) <| Bd_e (y := ((64 + q : Nat) : Int)) (by rw [IntKind.wrap_i64]; omega) <| Bd_e (y := ((1 + q / 64 : Nat) : Int)) (by rw [Int.tdiv_eq_ediv_of_nonneg (by omega), IntKind.wrap_i64]; omega) ?_
      have hq64 : q / 64 < halfB d.bl := by have := Q.G.sf.fit; omega
      have hib : jbB d.bl 0 (q / 64) < d.bl.length := jbB_lt h1 (by omega) hq64
      have eib : jbB d.bl 0 (q / 64) = 1 + q / 64 := by unfold jbB; omega
      rw [eib] at hib
      refine in119 T.js.ds (by simp) hib fun A9 w107 S107 m107 o107 => ?_
      have T107 := T.md0 m107
      have h64 : (getB d.bl (1 + q / 64)).1.length = 64 := (getB d.bl (1 + q / 64)).2.1
      have hqm : q % 64 < (getB d.bl (1 + q / 64)).1.length := by rw [h64]; exact Nat.mod_lt _ (by omega)
      have hix := (o107.row encb1).ix hqm
      rw [h64] at hix
      have hvb : (getB d.bl (1 + q / 64)).1[q % 64] < 256 := (getB d.bl (1 + q / 64)).2.2 _ (List.getElem_mem hqm)
      have hcb : (getB d.bl (1 + q / 64)).1[q % 64] ^^^ tn < 256 := Nat.xor_lt_two_pow (n := 8) hvb htn
      obtain ⟨B, rfl, p1, p2, p3, p4, o108, m108⟩ := o107.put encb1 (by omega) hqm ((getB d.bl (1 + q / 64)).1[q % 64] ^^^ tn)
      have hmod : Int.tmod ((64 + q : Nat) : Int) 64 = ((q % 64 : Nat) : Int) := by rw [Int.tmod_eq_emod_of_nonneg (by omega)]; omega
      refine Bd_e rfl <| Bd_e rfl <| Bd_e rfl <| Bd_e rfl <| If_f <| Bd_e hmod ⟨hix, (o107.row encb1).ld1 hqm rfl <| opI_in <| Bd_e (xor8 _ _ hvb htn) ⟨hix, by simp, p4, Bd_e hmod ⟨hix, ?_⟩⟩⟩
      have hne : (getB d.bl (1 + q / 64)).1[q % 64]? ≠ some ((getB d.bl (1 + q / 64)).1[q % 64] ^^^ tn) := by
        rw [List.getElem?_eq_getElem hqm]
        intro h
        have h := Option.some.inj h
        have h0 : (getB d.bl (1 + q / 64)).1[q % 64] ^^^ 0 = (getB d.bl (1 + q / 64)).1[q % 64] ^^^ tn := by rw [Nat.xor_zero]; exact h
        exact htn0 (xor_cancel_l h0).symm
      generalize hcc : (getB d.bl (1 + q / 64)).1[q % 64] ^^^ tn = cc at *
      have hl6 : ((getB d.bl (1 + q / 64)).1.set (q % 64) cc).length = 64 := by rw [List.length_set, h64]
      have hqm6 : q % 64 < ((getB d.bl (1 + q / 64)).1.set (q % 64) cc).length := by rw [hl6]; exact Nat.mod_lt _ (by omega)
      refine (o108.row encb1).ld1 hqm6 (v := .int .u8 (cc : Int)) (by rw [List.getElem_set_self]; rfl) <| opI_in <| Bd_e (y := ((1 + q / 64 : Nat) : Int)) (by rw [Int.tdiv_eq_ediv_of_nonneg (by omega), IntKind.wrap_i64]; omega) ?_
      have m19_108 : Md [] w99 _ := m107.old m108 (by simpa using p2)
      have T108 := T.md0 m19_108
      have hb6 : ∀ x ∈ (getB d.bl (1 + q / 64)).1.set (q % 64) cc, x < 256 := fun x hx => by
        rcases List.mem_or_eq_of_mem_set hx with h | h
        · exact (getB d.bl (1 + q / 64)).2.2 x h
        · omega
      refine in114 (L := []) T108.js.ds (LF.nil _ _) ((1 + q / 64 : Nat) : Int) (b := (getB d.bl (1 + q / 64)).1.set (q % 64) cc) hl6.symm hb6 (by rw [hl6]; omega) (by rw [Q.pd]; simp) (o108.row encb1) (fun D hD hx => by cases hD; have := T.js.ds.dk.lt _ hx; omega) fun F6 w126 S126 m126 f126 _ => ?_
      have T126 := T108.jd (T108.js.step S126 m126 f126) (m126.mono fun y hy => List.mem_cons_of_mem _ hy) f126
      have hw0 := write_free (b := (getB d.bl (1 + q / 64)).1.set (q % 64) cc) hib hl6 hrf
      have hwo := write_ok hw0.1
      have hsf : Sf d.bl 0 rs := by have := Q.G.sf; rwa [hg0] at this
      have hrot := rot_sf hsf Q.G.ok hkk hcb hp hpl hq.symm (by rw [eib]; exact hne)
      simp only [eib] at hrot
      rw [← hwo.1] at hrot
      have hlen' : (d.write ((1 + q / 64 : Nat) : Int) ((getB d.bl (1 + q / 64)).1.set (q % 64) cc)).1.bl.length = N := by rw [hwo.1, List.length_set]; exact Q.len
      rw [hw0.1]
      generalize (d.write ((1 + q / 64 : Nat) : Int) ((getB d.bl (1 + q / 64)).1.set (q % 64) cc)).1 = d' at *
      refine Bd_e rfl <| If_f <| T126.open' (by rw [hlen']; exact hN3) (fun A1 C1 w130 hn T130 m130 => ?_) fun zs pz l2 A1 C1 w130 hs T130 o130 m130 => ?_
      · have hpc : ¬ (p = 0 ∧ cc = 0) := fun h => by rw [hn, if_pos h] at hrot; cases hrot
        refine Bd_in fun b137 h137 => Bd_in fun b138 h138 => Bd_in fun b139 h139 => ?_
        have e139 : b139 = false := by
          rw [h139, h137, h138, Bool.eq_false_iff]
          intro h
          simp at h
          exact hpc ⟨h.1, h.2⟩
        subst e139
        refine If_f <| Bd_e rfl <| Gd_t <| RunW_in0 (eqNilP (e := 260) none w130 _ _ 158 (by kernel_rfl) (by kernel_rfl)).1 <| opB_in <| Bd_t rfl <| Bd_e rfl <| Bd_t rfl <| Bd_t rfl <| Gd_t <| in125 T130.js.ds.md (by simp) fun w175 m175 _ => Bd_t rfl ⟨rfl, m175⟩
      · have hpc : p = 0 ∧ cc = 0 := Decidable.byContradiction fun h => by rw [hs, if_neg h] at hrot; cases hrot
        rw [hs, if_pos hpc] at hrot
        simp only [Option.some.injEq, Prod.mk.injEq] at hrot
        obtain ⟨rfl, rfl⟩ := hrot
        obtain ⟨hp0, hc0⟩ := hpc
        have htk : (rs.take k).length = k := by rw [List.length_take]; omega
        have hcap := T130.ow.cap
        refine Bd_t (by rw [hp0]; rfl) <| Bd_t (by rw [hc0]; rfl) <| Bd_t rfl <| If_t <| Gd_t <| RunW_in0 (slice55 w130 _ _ _ k (by omega)) <| opL_in <| Gd_t <| jin127 (rs.take k) (rs.take k) (fun r hr => Q.G.ok.by r (List.mem_of_mem_take hr)) (fun r hr => Q.G.ok.by r (List.mem_of_mem_take hr)) (by omega) rfl htk.symm (o130.row enctE) ((T130.ow.row enctE).take k) (by simp) fun w150 m150 => Bd_t (by simp) <| Gd_t <| in125 (T130.md0 m150).js.ds.md (by simp) fun w157 m157 _ => Bd_t rfl ⟨rfl, m157⟩⟩
end Fk
