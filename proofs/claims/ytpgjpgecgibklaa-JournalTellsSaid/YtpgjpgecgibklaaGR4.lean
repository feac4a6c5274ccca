/- Contracts of functions, and plain laws: several texts, joined. -/
import Derived.Test.YtpgjpgecgibklaaGR3
import Derived.Test.YtpgjpgecgibklaaGK2
import Derived.Test.YtpgjpgecgibklaaGR1
import Derived.Lib.SliceRun
import Derived.Test.YtpgjpgecgibklaaGV0
import Derived.Test.YtpgjpgecgibklaaGV1
import Derived.Lib.ConvBytes
import Derived.Test.YtpgjpgecgibklaaGV2
set_option linter.unusedVariables false
set_option linter.unusedSimpArgs false
set_option maxRecDepth 100000
namespace Fk
open Go Go.Proofs Go.RowKit
theorem Nw_e {o : Obj} {w : World} {K : Nat → World → Prop} (k : K w.heap.size (w.alloc o)) : Nw o w K := fun _ _ e1 e2 => by subst e1; subst e2; exact k
theorem in_made64 {L : List Nat} {w : World} (hL : ∀ b ∈ L, b < w.heap.size) {K : Value → World → Prop} (k : ∀ a w', OwnL w' w.heap.size 5 1 b1 a 64 (List.replicate 64 0) → Md [] w w' → K (.slice a 64 64) w') :
    RunW Try.prog L (Instr.makeSlice 51 (.int .i64 64) (.int .i64 64)) K w := by
  obtain ⟨w', h, o, m⟩ := made5 64 w (by omega)
  exact RunW_in h (Kept_md m hL) (k _ w' o m)
theorem in195 {L : List Nat} {x : Rf} {p : RfS} {base : Nat} {w : World} (h : RfAt w base x p) {l : List (Int × ByteArray)} {B : Option Addr} {C m : Nat} (hm : m = l.length) (hr : RowAt w B 2 wr2 l) (hin : ∀ q ∈ l, 0 ≤ q.1 ∧ q.1 < x.sf.length) (hl : l.length < 2 ^ 30) (hL : ∀ b ∈ L, b < w.heap.size)
    {K : Option Addr → Nat → Nat → Option Addr → Nat → Nat → Int → World → Prop} (k : ∀ a' c' w', OwnL w' w.heap.size 9 1 s1 a' c' (keptL x.sf l) → Md [] w w' → K a' x.sf.length c' none 0 0 x.rf w') :
    CallW Try.prog L 195 #[.agg #[.slice p.a x.sf.length p.c, .slice p.b x.pe.length p.e, .int .i64 x.rf], .slice B m C] (fun v w' => opAg v fun cs => opL (nthD cs.toList 0) fun a n c => opL (nthD cs.toList 1) fun a2 n2 c2 => opI .i64 (nthD cs.toList 2) fun x' => SzIs cs.size 3 (K a n c a2 n2 c2 x' w')) w := by
  subst hm
  refine (f195_ok x p base w h l B C hr hin hl).call hL ?_
  rintro v w' ⟨a', c', rfl, ho⟩ m
  exact opAg_in <| opL_in <| opL_in <| opI_in <| SzIs_in rfl <| k a' c' w' ho m
theorem in194 {L : List Nat} {x : Rf} {p : RfS} {w : World} (hx : 0 ≤ x.rf ∧ x.rf ≤ 9223372036854775807) (hL : ∀ b ∈ L, b < w.heap.size)
    {K : Option Addr → Nat → Nat → Option Addr → Nat → Nat → Int → Bool → World → Prop} (k : ∀ w', Md [] w w' → K p.a x.step.1.sf.length p.c p.b x.step.1.pe.length p.e x.step.1.rf x.step.2 w') :
    CallW Try.prog L 194 #[.agg #[.slice p.a x.sf.length p.c, .slice p.b x.pe.length p.e, .int .i64 x.rf]] (fun v w' => opTu v fun cs14 => opAg (nthD cs14.toList 0) fun cs => opL (nthD cs.toList 0) fun a n c => opL (nthD cs.toList 1) fun a2 n2 c2 => opI .i64 (nthD cs.toList 2) fun x' => SzIs cs.size 3 (opB (nthD cs14.toList 1) fun b => SzIs cs14.size 2 (K a n c a2 n2 c2 x' b w'))) w := by
  refine (f194_ok x p hx w).call hL ?_
  rintro v w' rfl m
  exact opTu_in <| opAg_in <| opL_in <| opL_in <| opI_in <| SzIs_in rfl <| opB_in <| SzIs_in rfl <| k w' m
def zStr : ByteArray := bytesOf (List.replicate 64 0)
def zRf (n : Nat) : Rf := ⟨List.replicate n zStr, [], 0⟩
theorem f113_ok (n : Nat) (h1 : 1 ≤ n) (h2 : n ≤ 65536) (w : World) : Ct Try.prog 113 #[.int .i64 n] w fun v w' => (∃ p, v = .tuple #[(zRf n).v p, .bool true] ∧ RfAt w' w.heap.size (zRf n) p) ∧ Md [] w w' := by
  apply f113_in
  intro n1 hn1
  refine Bd_f (by simp; omega) <| Bd_f (by simp; omega) <| Bd_f rfl <| If_f fun n6 hn6 w7 h7 hL7 => ?_
  have l1 := hL7 n1 (by simp)
  have l6 := hL7 n6 (by simp)
  have hs7 := h7.size
  refine LoopP_in (fun mm us vs w' => ∃ (i : Nat) (a : Option Addr) (c : Nat), us = [.int .i64 i] ∧ vs = [.agg #[.slice a (List.replicate i zStr).length c, .slice none 0 0, .int .i64 0]] ∧ mm = n - i ∧ i ≤ n ∧ Md [] w w' ∧ OwnL w' w7.heap.size 9 1 s1 a c (List.replicate i zStr) ∧ w7.heap.size ≤ w'.heap.size) n
    ⟨0, none, 0, rfl, rfl, rfl, by omega, h7, OwnL.nil _ _ _ _ _, Nat.le_refl _⟩ ?_
  rintro mm us vs w11 ⟨i, a, c, rfl, rfl, rfl, hi, hmd, ho, hsz⟩
  refine opI_in <| opAg_in <| opL_in <| opL_in <| opI_in <| SzIs_in rfl <| Bd_in fun b21 hb21 => If_in (fun hb => ?_) fun hb w77 h77 hL77 => ?_
  · have hi' : i < n := by rw [hb21] at hb; simpa using hb
    have hL : ∀ {w' : World}, Md [] w11.drew w' → ∀ b ∈ [n6, n1], b < w'.heap.size := fun hm b hb => by
      have h1 := hm.size
      have h2 : w11.heap.size ≤ _ := h1
      have := hL7 b hb
      omega
    have cv : ∀ {w' : World} {a' : Option Addr} {base : Nat}, OwnL w' base 5 1 b1 a' 64 (List.replicate 64 0) → (convert 51 9 (.slice a' 64 64)).run Try.prog w' = .ok (.string zStr) w' := fun o => conv_row (o.row encb1) (fun x hx => by have := List.eq_of_mem_replicate hx; omega) 64 64 (by simp)
    have fin : ∀ w' : World, Md [] w11.drew w' → Nw (.cells #[.string zStr] 9) w' fun b w2 => RunW Try.prog [n6, n1] (Builtin.append_ #[55, 55] 55 #[.slice a (List.replicate i zStr).length c, .slice (some { block := b, off := 0 }) 1 1]) (fun v32 w33 => opL v32 fun a34 n35 n36 => Up [n6] [n6, n1] w33 fun w37 => Bd (IntKind.wrap IntKind.i64 ((i : Int) + (1 : Int))) fun x38 =>
        ∃ m', m' < n - i ∧ ∃ (i' : Nat) (a' : Option Addr) (c' : Nat), [Value.int .i64 x38] = [.int .i64 i'] ∧ [Value.agg #[.slice a34 n35 n36, .slice none 0 0, .int .i64 0]] = [.agg #[.slice a' (List.replicate i' zStr).length c', .slice none 0 0, .int .i64 0]] ∧ m' = n - i' ∧ i' ≤ n ∧ Md [] w w37 ∧ OwnL w37 w7.heap.size 9 1 s1 a' c' (List.replicate i' zStr) ∧ w7.heap.size ≤ w37.heap.size) w2 := by
      intro w' hm
      have hmw := hmd.trans ((Md_drew w11).trans hm)
      have ho' := ho.md ((Md_drew w11).trans hm)
      have hs' : w11.heap.size ≤ w'.heap.size := hm.size
      refine app_one rowT55 encs1 zStr rfl ho' (by omega) (hL hm) (fun b hb A hA e => by have := (ho'.lt hA).1; have := hL7 b hb; omega) (by simp [maxLen]; omega) (by simp; omega) fun a' c' w33 o33 m33 _ => opL_in fun w37 h37 hL37 => Bd_e (inc_i64 (by omega)) ?_
      rw [← List.replicate_succ'] at o33 ⊢
      refine ⟨n - (i + 1), by omega, i + 1, a', c', rfl, rfl, rfl, by omega, (md_app ho' m33 hs7 hmw).old h37 (by simp; exact hn6), o33.mdD h37 (fun A hA => by have := (o33.lt hA).1; simp; omega), ?_⟩
      have := m33.size
      have := h37.size
      omega
    refine ⟨in_made64 (hL (Md.refl _ _)) fun a24 w23 o23 m23 => opL_in <| RunW_in0 (cv o23) <| opStr_in <| fin w23 m23, in_made64 (hL (Md.refl _ _)) fun a24 w23 o23 m23 => opL_in ⟨RunW_in0 (cv o23) <| opStr_in <| fin w23 m23, RunW_in0 (cv o23) <| opStr_in ⟨fin w23 m23, fin w23 m23⟩⟩⟩
  · have hi' : i = n := by rw [hb21] at hb; have : ¬ (i : Int) < (n : Int) := by simpa using hb
                           omega
    subst hi'
    exact ⟨⟨⟨a, c, none, 0⟩, rfl, ⟨(ho.mdD h77 (fun A hA => by have := (ho.lt hA).1; simp; omega)).down hs7, OwnL.nil _ _ _ _ _, ⟨by simp [zRf], by simp [zRf]⟩, by simp [zRf]; omega, by simp [zRf]⟩⟩, hmd.old h77 (by simp; exact hn1)⟩
def Rf.write (x : Rf) (i : Int) (b : List Nat) : Rf × Int := if ¬ (0 ≤ i ∧ i < x.sf.length ∧ b.length = 64) then (x, 2) else if x.step.2 = true then (⟨x.step.1.sf, x.pe ++ [(i, bytesOf b)], x.step.1.rf⟩, 0) else (x.step.1, 200)
theorem f115_ok (x : Rf) (p : RfS) (base : Nat) (w : World) (h : RfAt w base x p) (hb : base ≤ w.heap.size) (i : Int) (A : Option Addr) (C : Nat) (b : List Nat) (hr : RowAt w A 1 b1 b) (hbl : ∀ z ∈ b, z < 256) (hb2 : b.length < 2 ^ 30) (hpl : x.pe.length < 2 ^ 28) :
    Ct Try.prog 115 #[x.v p, .int .i64 i, .slice A b.length C] w fun v w' => (∃ p', v = .tuple #[(x.write i b).1.v p', .int .i64 (x.write i b).2] ∧ RfAt w' base (x.write i b).1 p' ∧ NewS w p p') ∧ Md [] w w' := by
  unfold Rf.v
  apply f115_in
  intro n1 hn1 n2 hn2
  have hsl := h.sl
  refine Bd_in fun b3 hb3 => Bd_e rfl <| Bd_in fun b5 hb5 => Bd_in fun b6 hb6 => Bd_e rfl <| Bd_in fun b8 hb8 => Bd_in fun b9 hb9 => ?_
  have e9 : b9 = !decide (0 ≤ i ∧ i < x.sf.length ∧ b.length = 64) := by
    rw [hb9, hb6, hb3, hb5, hb8, Bool.eq_iff_iff]
    by_cases c1 : i < 0
    · simp [c1]; try omega
    · by_cases c2 : (x.sf.length : Int) ≤ i
      · simp [c2]; try omega
      · simp [c1, c2]; try omega
  refine If_in (fun hv w10 h10 hL10 => ?_) fun hv w11 h11 hL11 => ?_
  · have : ¬ (0 ≤ i ∧ i < x.sf.length ∧ b.length = 64) := by
      intro hh
      rw [e9, decide_eq_true hh] at hv
      cases hv
    have e : x.write i b = (x, 2) := by unfold Rf.write; rw [if_pos this]
    rw [e]
    have m10 : Md [] w w10 := h10.fresh (by simp; exact hn2)
    exact ⟨⟨p, rfl, h.md m10, NewS.refl _ _⟩, m10⟩
  have hval : 0 ≤ i ∧ i < x.sf.length ∧ b.length = 64 := by rw [e9] at hv; simpa using hv
  refine in194 h.rf hL11 fun w13 m13 n24 hn24 => Bd_in fun b25 hb25 => If_in (fun hs w26 h26 hL26 => ?_) fun hs => ?_
  · have hs' : ¬ x.step.2 = true := by rw [hb25] at hs; simpa using hs
    have e : x.write i b = (x.step.1, 200) := by unfold Rf.write; rw [if_neg (fun hh => hh hval), if_neg hs']
    rw [e]
    have m26 : Md [] w w26 := (h11.trans m13).old h26 (by simp; exact ⟨hn2, by have := h11.size; have := m13.size; omega⟩)
    exact ⟨⟨p, rfl, h.step.md m26, NewS.refl _ _⟩, m26⟩
  have hs' : x.step.2 = true := by rw [hb25] at hs; simpa using hs
  have e : x.write i b = (⟨x.step.1.sf, x.pe ++ [(i, bytesOf b)], x.step.1.rf⟩, 0) := by unfold Rf.write; rw [if_neg (fun hh => hh hval), if_pos hs']
  rw [e]
  have hpe := x.step_sf.2
  have hst := h.step
  rw [hpe] at *
  refine Jn_in (fun us vs w' => ∃ (a : Option Addr) (c : Nat), vs = [.agg #[.slice p.a x.step.1.sf.length p.c, .slice a (x.pe ++ [(i, bytesOf b)]).length c, .int .i64 x.step.1.rf]] ∧ OwnL w' w.heap.size 257 2 wr2 a c (x.pe ++ [(i, bytesOf b)]) ∧ Md [] w w' ∧ n2 < w'.heap.size ∧ ∀ A, a = some A → A.block ≠ n2) ?_ ?_
  · rintro us vs w29 ⟨a, c, rfl, ho, hm, hn2', hne⟩
    refine opAg_in <| opL_in <| opL_in <| opI_in <| SzIs_in rfl fun w38 h38 hL38 => ?_
    have m38 : Md [] w w38 := hm.old h38 (by simp; exact hn2)
    have m38' : Md [] w w38 := m38
    refine ⟨⟨⟨p.a, p.c, a, c⟩, rfl, ⟨hst.sf.md m38, (ho.mdD h38 (fun A hA => by simp; exact hne A hA)).down hb, hst.rf, hst.sl, by simp; omega⟩, ⟨fun A hA => .inl hA, fun A hA => .inr (ho.lt hA).1⟩⟩, m38⟩
  intro w40 h40 hL40
  have m40 : Md [] w w40 := (h11.trans m13).old h40 (by simp; have := h11.size; have := m13.size; omega)
  have l24 := hL40 n24 (by simp)
  have l2 := hL40 n2 (by simp)
  have l1 := hL40 n1 (by simp)
  have hLL : ∀ {w' : World}, Md [] w40.drew w' → ∀ b ∈ [n24, n2, n1], b < w'.heap.size := fun hm b hb => by
    have h1 := hm.size
    have h2 : w40.heap.size ≤ _ := h1
    have := hL40 b hb
    omega
  have hsz : ∀ {w' : World}, Md [] w40.drew w' → w40.heap.size ≤ w'.heap.size := fun hm => hm.size
  have up : ∀ {w' : World}, Md [] w40.drew w' → Md [] w w' := fun hm => m40.trans ((Md_drew w40).trans hm)
  refine ⟨fun w' => Md [] w w', up (Md.refl _ _), _, fun w' hm => ⟨conv_row (hr.md hm) hbl _ _ rfl⟩, opStr_in ?_⟩
  have hs40 := m40.size
  have oE : ∀ w' : World, Md [] w40.drew w' → OwnL (w'.alloc (.cells #[] 257)) w40.heap.size 257 2 wr2 (some ⟨w'.heap.size, 0, none⟩) 0 [] := fun w' hm => OwnL.lit (P := Try.prog) encw2 w' 257 [] #[] (hsz hm) (by simp [maxLen]) rfl
  have oP : ∀ w' : World, Md [] w40.drew w' → OwnL (w'.alloc (.cells #[.int .i64 i, .string (bytesOf b)] 257)) w40.heap.size 257 2 wr2 (some ⟨w'.heap.size, 0, none⟩) 1 [(i, bytesOf b)] := fun w' hm => OwnL.lit (P := Try.prog) encw2 w' 257 [(i, bytesOf b)] _ (hsz hm) (by simp [maxLen]) rfl
  have al : ∀ {w' : World} (o : Obj), Md [] w40.drew w' → Md [] w40.drew (w'.alloc o) := fun {w'} o hm => hm.trans (Md.alloc w' o)
  have fin : ∀ (wX : World) (a : Option Addr) (c N : Nat), OwnL wX w40.heap.size 257 2 wr2 a c x.pe → OwnL wX w40.heap.size 257 2 wr2 (some ⟨N, 0, none⟩) 1 [(i, bytesOf b)] → Md [] w40.drew wX →
      RunW Try.prog [n24, n2, n1] (Builtin.append_ #[137, 137] 137 #[.slice a x.pe.length c, .slice (some (Addr.mk N 0 none)) 1 1]) (fun v55 w56 => opL v55 fun a57 n58 n59 => Md [] w w56 ∧ Up [n24] [n24, n2, n1] w56 fun w60 => Md [] w w60 ∧
        ∃ (a' : Option Addr) (c' : Nat), [Value.agg #[.slice p.a x.step.1.sf.length p.c, .slice a57 n58 n59, .int .i64 x.step.1.rf]] = [.agg #[.slice p.a x.step.1.sf.length p.c, .slice a' (x.pe ++ [(i, bytesOf b)]).length c', .int .i64 x.step.1.rf]] ∧ OwnL w60 w.heap.size 257 2 wr2 a' c' (x.pe ++ [(i, bytesOf b)]) ∧ Md [] w w60 ∧ n2 < w60.heap.size ∧ ∀ A, a' = some A → A.block ≠ n2) wX := by
    intro wX a c N oa ob hm
    refine app_own rowT137 encw2 oa ob (hsz hm) (hLL hm) (fun b hb A hA e => by have := (oa.lt hA).1; have := hL40 b hb; omega) (by simp [maxLen]; omega) (by simp; omega) fun a' c' w56 o56 m56 _ => opL_in ?_
    have m56' : Md [] w40.drew w56 := md_app oa m56 (by show w40.heap.size ≤ _; exact Nat.le_refl _) hm
    refine ⟨up m56', fun w60 h60 hL60 => ?_⟩
    have hs56 := hsz m56'
    have m60 : Md [] w w60 := (up m56').old h60 (by simp; have := h11.size; have := m13.size; omega)
    refine ⟨m60, a', c', rfl, (o56.mdD h60 (fun A hA => by have := (o56.lt hA).1; simp; omega)).down hs40, m60, hL60 n2 (by simp), fun A hA => by have := (o56.lt hA).1; omega⟩
  have first : ∀ (wX : World) (N : Nat), OwnL wX w40.heap.size 257 2 wr2 (some ⟨N, 0, none⟩) 0 [] → Md [] w40.drew wX → ∀ K : Value → World → Prop, (∀ a c w', OwnL w' w40.heap.size 257 2 wr2 a c x.pe → Md [] w40.drew w' → (∀ M, M < wX.heap.size → M ≠ N → OwnL wX w40.heap.size 257 2 wr2 (some ⟨M, 0, none⟩) 1 [(i, bytesOf b)] → OwnL w' w40.heap.size 257 2 wr2 (some ⟨M, 0, none⟩) 1 [(i, bytesOf b)]) → K (.slice a x.pe.length c) w') →
      RunW Try.prog [n24, n2, n1] (Builtin.append_ #[137, 137] 137 #[.slice (some (Addr.mk N 0 none)) 0 0, .slice p.b x.pe.length p.e]) K wX := by
    intro wX N oe hm K k
    refine app_own rowT137 encw2 oe (h.pe.md (up hm)) (hsz hm) (hLL hm) (fun b hb A hA e => by have := (oe.lt hA).1; have := hL40 b hb; omega) (by simp [maxLen]; omega) (by simp; omega) fun a' c' w56 o56 m56 _ => ?_
    rw [List.nil_append] at *
    exact k a' c' w56 o56 (md_app oe m56 (by show w40.heap.size ≤ _; exact Nat.le_refl _) hm) fun M hM hne o => o.mdD m56 (fun A hA => by cases hA; simpa using hne)
  have m0 : Md [] w40.drew w40.drew := Md.refl _ _
  refine ⟨Nw_e ⟨up (al _ m0), first _ _ (oE _ m0) (al _ m0) _ fun a c w49 o49 m49 _ => opL_in ⟨up m49, Nw_e ⟨up (al _ m49), fin _ a c _ (o49.md (Md.alloc _ _)) (oP _ m49) (al _ m49)⟩⟩,
    Nw_e ⟨up (al _ (al _ m0)), first _ _ ((oE _ m0).md (Md.alloc _ _)) (al _ (al _ m0)) _ fun a c w49 o49 m49 hk => opL_in ⟨up m49, fin _ a c _ o49 (hk _ (by simp) (by simp) (oP _ (al _ m0))) m49⟩⟩⟩,
    Nw_e ⟨up (al _ m0), Nw_e ⟨up (al _ (al _ m0)), first _ _ (oE _ (al _ m0)) (al _ (al _ m0)) _ fun a c w49 o49 m49 hk => opL_in ⟨up m49, fin _ a c _ o49 (hk _ (by simp; omega) (by simp) ((oP _ m0).md (Md.alloc _ _))) m49⟩⟩⟩⟩
def Rf.flush (x : Rf) : Rf × Int := if x.step.2 = true then (⟨keptL x.sf x.pe, [], x.step.1.rf⟩, 0) else (x.step.1, 200)
theorem f116_ok (x : Rf) (p : RfS) (base : Nat) (w : World) (h : RfAt w base x p) (hb : base ≤ w.heap.size) (hin : ∀ q ∈ x.pe, 0 ≤ q.1 ∧ q.1 < x.sf.length) :
    Ct Try.prog 116 #[x.v p] w fun v w' => (∃ p', v = .tuple #[x.flush.1.v p', .int .i64 x.flush.2] ∧ RfAt w' base x.flush.1 p' ∧ NewS w p p') ∧ Md [] w w' := by
  unfold Rf.v
  apply f116_in
  intro n1 hn1 n2 hn2 w3 h3 hL3
  refine in194 h.rf hL3 fun w5 m5 n16 hn16 => Bd_in fun b17 hb17 => If_in (fun hs w18 h18 hL18 => ?_) fun hs w19 h19 hL19 => ?_
  · have hs' : ¬ x.step.2 = true := by rw [hb17] at hs; simpa using hs
    have e : x.flush = (x.step.1, 200) := by unfold Rf.flush; rw [if_neg hs']
    rw [e]
    have m : Md [] w w18 := (h3.trans m5).old h18 (by simp; exact ⟨hn2, by have := h3.size; have := m5.size; omega⟩)
    exact ⟨⟨p, rfl, h.step.md m, NewS.refl _ _⟩, m⟩
  have hs' : x.step.2 = true := by rw [hb17] at hs; simpa using hs
  have e : x.flush = (⟨keptL x.sf x.pe, [], x.step.1.rf⟩, 0) := by unfold Rf.flush; rw [if_pos hs']
  rw [e]
  obtain ⟨hsf, hpe⟩ := x.step_sf
  have m19 : Md [] w w19 := (h3.trans m5).old h19 (by simp; have := h3.size; have := m5.size; omega)
  have hst := h.step.md m19
  have hpl := h.pl
  refine in195 hst rfl (hst.pe.row encw2) (by rw [hpe, hsf]; exact hin) (by rw [hpe]; omega) hL19 fun a c w21 o21 m21 w30 h30 hL30 => ?_
  have hs19 := m19.size
  rw [hsf, hpe] at o21
  have l2 := hL19 n2 (by simp)
  have m30 : Md [] w w30 := (m19.trans m21).old h30 (by simp; exact hn2)
  refine ⟨⟨⟨a, c, none, 0⟩, ?_, ⟨(o21.mdD h30 (fun A hA => by have := (o21.lt hA).1; simp; omega)).down (by omega), OwnL.nil _ _ _ _ _, h.step.rf, by simp [keptL_len]; exact h.sl, by simp⟩, ⟨fun A hA => .inr (by have := (o21.lt hA).1; omega), fun A hA => by cases hA⟩⟩, m30⟩
  simp only [Rf.v, keptL_len, hsf]
  rfl
def Rf.arm (x : Rf) (n : Int) : Rf := { x with rf := if n < 1 then 0 else n }
theorem f117_ok (x : Rf) (p : RfS) (n : Int) (w : World) : Ct Try.prog 117 #[x.v p, .int .i64 n] w fun v w' => v = (x.arm n).v p ∧ Md [] w w' := by
  unfold Rf.v
  apply f117_in
  intro n1 hn1 n2 hn2
  refine Jn_in (fun us vs w' => us = [.int .i64 (x.arm n).rf] ∧ Md [] w w') ?_ (Bd_in fun b9 hb9 => If_in (fun hb w10 h10 _ => ⟨?_, h10⟩) fun hb w10 h10 _ => ⟨?_, h10⟩)
  · rintro us vs w5 ⟨rfl, hm⟩
    exact opI_in fun w7 h7 hL7 => ⟨rfl, hm.old h7 (by simp; exact ⟨hn2, hn1⟩)⟩
  · have : n < 1 := by rw [hb9] at hb; simpa using hb
    unfold Rf.arm; simp [this]
  · have : ¬ n < 1 := by rw [hb9] at hb; simpa using hb
    unfold Rf.arm; simp [this]
end Fk
set_option linter.unusedVariables false
set_option linter.unusedSimpArgs false
set_option maxRecDepth 100000
namespace Fk
open Go Go.Proofs Go.RowKit
theorem cutB_h (w : World) (s : ByteArray) (y : Nat) (h2 : y ≤ s.size) :
    (Instr.sliceAt 9 (.string s) none (some (.int .i64 (y : Int))) none).run Try.prog w = .ok (.string (s.extract 0 y)) w := by
  rw [run_sliceAt_string (h := und9), run_slice_string_h w 9 s und9 .i64 (y : Int) (by omega) (by omega)]
  simp
theorem cutB_l (w : World) (s : ByteArray) (x : Nat) (h2 : x ≤ s.size) :
    (Instr.sliceAt 9 (.string s) (some (.int .i64 (x : Int))) none none).run Try.prog w = .ok (.string (s.extract x s.size)) w := by
  rw [run_sliceAt_string (h := und9), run_slice_string_l w 9 s und9 .i64 (x : Int) (by omega) (by omega)]
  simp
theorem slice_restS {P : Program} {t e : TypeId} {sz : Nat} (ht : P.underlying t = some (.slice e)) (hs : ∀ w, (Go.sizeOf e).run P w = .ok sz w) (w : World) (a : Option Addr) (n c m : Nat) (h : m ≤ n) :
    (Instr.sliceAt t (.slice a n c) (some (.int .i64 (m : Int))) none none).run P w = .ok (.slice (if c = m then a else a.map (·.add (m * sz))) (n - m) (c - m)) w := by
  have he : P.elem t = e := by simp [Program.elem, ht]
  have ht' : P.underlying t = some (.slice (P.elem t)) := by rw [he]; exact ht
  rw [run_sliceAt_slice w t _ _ _ _ ht', run_slice_l w t a n c ht' .i64 m (by omega) (by omega), he, hs w]
  simp [Result.andThen, sliced]
theorem size257 (w : World) : (Go.sizeOf 257).run Try.prog w = .ok 2 w := by
  have h : (Try.prog.info? 257).map (·.size) = some 2 := by kernel_rfl
  cases hi : Try.prog.info? 257 with
  | none => rw [hi] at h; cases h
  | some i => rw [hi] at h; simp [Go.sizeOf, typeInfo, hi]; simpa using h
theorem in195' {L : List Nat} {w : World} {base n m c C : Nat} {a B : Option Addr} {sf : List ByteArray} {rf : Int} (ho : OwnL w base 9 1 s1 a c sf) (hn : n = sf.length) (hrf : 0 ≤ rf ∧ rf ≤ 9223372036854775807) (hsl : sf.length < 2 ^ 30) {l : List (Int × ByteArray)} (hm : m = l.length) (hr : RowAt w B 2 wr2 l) (hin : ∀ q ∈ l, 0 ≤ q.1 ∧ q.1 < sf.length) (hl : l.length < 2 ^ 30) (hL : ∀ b ∈ L, b < w.heap.size)
    {K : Option Addr → Nat → Nat → Option Addr → Nat → Nat → Int → World → Prop} (k : ∀ a' c' w', OwnL w' w.heap.size 9 1 s1 a' c' (keptL sf l) → Md [] w w' → K a' n c' none 0 0 rf w') :
    CallW Try.prog L 195 #[.agg #[.slice a n c, .slice none 0 0, .int .i64 rf], .slice B m C] (fun v w' => opAg v fun cs => opL (nthD cs.toList 0) fun a n c => opL (nthD cs.toList 1) fun a2 n2 c2 => opI .i64 (nthD cs.toList 2) fun x' => SzIs cs.size 3 (K a n c a2 n2 c2 x' w')) w := by
  subst hn
  exact in195 (x := ⟨sf, [], rf⟩) (p := ⟨a, c, none, 0⟩) ⟨ho, OwnL.nil _ _ _ _ _, hrf, hsl, by simp⟩ hm hr hin hl hL k
def mixS (q s : ByteArray) (t : Nat) : ByteArray := q.extract 0 t ++ s.extract t s.size
def Rf.crash (x : Rf) (keep torn : Int) : Rf := match x.pe.drop (min keep.toNat x.pe.length) with
  | [] => ⟨keptL x.sf (x.pe.take (min keep.toNat x.pe.length)), [], 0⟩
  | q :: _ => ⟨(keptL x.sf (x.pe.take (min keep.toNat x.pe.length))).set q.1.toNat (mixS q.2 ((keptL x.sf (x.pe.take (min keep.toNat x.pe.length))).getD q.1.toNat ByteArray.empty) (min torn.toNat 64)), [], 0⟩
theorem keptL_all {l : List (Int × ByteArray)} (hl : ∀ q ∈ l, q.2.size = 64) : ∀ {sf : List ByteArray}, (∀ s ∈ sf, s.size = 64) → ∀ s ∈ keptL sf l, s.size = 64 := by
  induction l with
  | nil => intro sf h; exact h
  | cons q l ih =>
    intro sf h
    unfold keptL at ih ⊢
    rw [List.foldl_cons]
    refine ih (fun q hq => hl q (by simp [hq])) fun s hs => ?_
    rcases List.mem_or_eq_of_mem_set hs with h1 | h1
    · exact h s h1
    · rw [h1]; exact hl q (by simp)
theorem f118_ok (x : Rf) (p : RfS) (base : Nat) (w : World) (h : RfAt w base x p) (hb : base ≤ w.heap.size) (hin : ∀ q ∈ x.pe, 0 ≤ q.1 ∧ q.1 < x.sf.length) (hq64 : ∀ q ∈ x.pe, q.2.size = 64) (hs64 : ∀ s ∈ x.sf, s.size = 64) (keep torn : Int) :
    Ct Try.prog 118 #[x.v p, .int .i64 keep, .int .i64 torn] w fun v w' => (∃ p', v = (x.crash keep torn).v p' ∧ RfAt w' base (x.crash keep torn) p' ∧ NewS w p p') ∧ Md [] w w' := by
  unfold Rf.v
  apply f118_in
  intro n1 hn1 n2 hn2
  have hsl := h.sl
  have hpl := h.pl
  have hpc := h.pe.cap
  refine Jn_in (fun us vs w' => us = [.int .i64 (keep.toNat : Int)] ∧ Md [] w w' ∧ ∀ b ∈ [n2, n1], b < w'.heap.size) ?_ (Bd_in fun b9 hb9 => If_in (fun hb w10 h10 hL10 => ⟨?_, h10, hL10⟩) fun hb w10 h10 hL10 => ⟨?_, h10, hL10⟩)
  case refine_2 => have : keep < 0 := by rw [hb9] at hb; simpa using hb
                   rw [Int.toNat_of_nonpos (by omega)]; rfl
  case refine_3 => have : 0 ≤ keep := by rw [hb9] at hb; simpa using hb
                   rw [Int.toNat_of_nonneg this]
  rintro us vs w5 ⟨rfl, m5, hL5⟩
  generalize hkk : min keep.toNat x.pe.length = k
  generalize htt : min torn.toNat 64 = t
  refine opI_in <| Jn_in (fun us vs w' => us = [.int .i64 (k : Int)] ∧ w' = w5) ?_ (Bd_e rfl <| Bd_in fun b9 hb9 => If_in (fun hb => Bd_e rfl ⟨?_, rfl⟩) fun hb => ⟨?_, rfl⟩)
  case refine_2 => have : (keep.toNat : Int) > x.pe.length := by rw [hb9] at hb; simpa using hb
                   rw [show k = x.pe.length by omega]
  case refine_3 => have : ¬ (keep.toNat : Int) > x.pe.length := by rw [hb9] at hb; simpa using hb
                   rw [show k = keep.toNat by omega]
  rintro us vs w9 ⟨rfl, rfl⟩
  refine opI_in <| Jn_in (fun us vs w' => us = [.int .i64 (torn.toNat : Int)] ∧ w' = w9) ?_ (Bd_in fun b9 hb9 => If_in (fun hb => ⟨?_, rfl⟩) fun hb => ⟨?_, rfl⟩)
  case refine_2 => have : torn < 0 := by rw [hb9] at hb; simpa using hb
                   rw [Int.toNat_of_nonpos (by omega)]; rfl
  case refine_3 => have : 0 ≤ torn := by rw [hb9] at hb; simpa using hb
                   rw [Int.toNat_of_nonneg this]
  rintro us vs w13 ⟨rfl, rfl⟩
  refine opI_in <| Jn_in (fun us vs w' => us = [.int .i64 (t : Int)] ∧ w' = w13) ?_ (Bd_in fun b9 hb9 => If_in (fun hb => ⟨?_, rfl⟩) fun hb => ⟨?_, rfl⟩)
  case refine_2 => have : (torn.toNat : Int) > 64 := by rw [hb9] at hb; simpa using hb
                   rw [show t = 64 by omega]; rfl
  case refine_3 => have : ¬ (torn.toNat : Int) > 64 := by rw [hb9] at hb; simpa using hb
                   rw [show t = torn.toNat by omega]
  rintro us vs w17 ⟨rfl, rfl⟩
  have hkl : k ≤ x.pe.length := by omega
  have ht64 : t ≤ 64 := by omega
  have ecr : x.crash keep torn = (match x.pe.drop k with
    | [] => ⟨keptL x.sf (x.pe.take k), [], 0⟩
    | q :: _ => ⟨(keptL x.sf (x.pe.take k)).set q.1.toNat (mixS q.2 ((keptL x.sf (x.pe.take k)).getD q.1.toNat ByteArray.empty) t), [], 0⟩) := by unfold Rf.crash; rw [hkk, htt]
  have hsl2 := keptL_len (x.pe.take k) x.sf
  have hS64 : ∀ s ∈ keptL x.sf (x.pe.take k), s.size = 64 := keptL_all (fun q hq => hq64 q (List.mem_of_mem_take hq)) hs64
  generalize hS : keptL x.sf (x.pe.take k) = S at *
  have hcl : (x.crash keep torn).sf.length = x.sf.length := by
    rw [ecr]
    split
    · exact hsl2
    · simp only [List.length_set]; exact hsl2
  have hcp : (x.crash keep torn).pe = [] ∧ (x.crash keep torn).rf = 0 := by rw [ecr]; split <;> exact ⟨rfl, rfl⟩
  refine opI_in <| RunW_in0 (slice_restS (e := 257) (by kernel_rfl) size257 w17 _ _ _ k hkl) <| opL_in ⟨_, fun w' _ => ⟨slice_front (e := 257) (by kernel_rfl) (fun w => ⟨2, size257 w⟩) w' _ _ _ k (by omega)⟩, opL_in ?_⟩
  generalize hA21 : (if p.e = k then p.b else p.b.map (·.add (k * 2))) = a21
  have r21 : RowAt w a21 2 wr2 (x.pe.drop k) := by
    rw [← hA21]
    split
    · rw [List.drop_of_length_le (by omega)]
      intro i y hy; simp at hy
    · exact (h.pe.row encw2).drop k
  have r27 : RowAt w p.b 2 wr2 (x.pe.take k) := (h.pe.row encw2).take k
  have hin' : ∀ q ∈ x.pe.take k, 0 ≤ q.1 ∧ q.1 < x.sf.length := fun q hq => hin q (List.mem_of_mem_take hq)
  have hktl : k = (x.pe.take k).length := by rw [List.length_take]; omega
  have m17 : Md [] w w17.drew := m5.trans (Md_drew w17)
  have hs17 := m17.size
  have hz : w17.drew.heap.size = w17.heap.size := rfl
  have l1 := hL5 n1 (by simp)
  have l2 := hL5 n2 (by simp)
  refine ⟨in195 (h.md m17) hktl (r27.md m17) hin' (by omega) hL5 fun a33 c33 w31 o31 m31 n40 hn40 w41 h41 hL41 w42 h42 hL42 => ?ga, fun n40 hn40 w31 h31 hL31 => in195 (h.md (m17.trans h31)) hktl (r27.md (m17.trans h31)) hin' (by omega) hL31 fun a33 c33 w41 o41 m41 w42 h42 hL42 => ?gb⟩
  case' ga =>
    have m42 : Md [] w w42 := ((m17.trans m31).trans h41).old h42 (by simp; have := m31.size; omega)
    have hne : ∀ A, a33 = some A → A.block ≠ n40 ∧ A.block ≠ n2 ∧ w.heap.size ≤ A.block := fun A hA => by have := o31.lt hA; omega
    have o42 : OwnL w42 w.heap.size 9 1 s1 a33 c33 S := by
      rw [hS] at o31
      exact ((o31.md h41).mdD h42 (fun A hA => by simp; exact (hne A hA).1)).down hs17
    have hnw : w.heap.size ≤ n40 := by have := m31.size; omega
    clear hL41 h41 h42 hn40 o31 m31
  case' gb =>
    have l40 := hL31 n40 (by simp)
    have hs31 := h31.size
    have m42 : Md [] w w42 := ((m17.trans h31).trans m41).old h42 (by simp; omega)
    have hne : ∀ A, a33 = some A → A.block ≠ n40 ∧ A.block ≠ n2 ∧ w.heap.size ≤ A.block := fun A hA => by have := o41.lt hA; omega
    have o42 : OwnL w42 w.heap.size 9 1 s1 a33 c33 S := by
      rw [hS] at o41
      exact (o41.mdD h42 (fun A hA => by simp; exact (hne A hA).1)).down (by omega)
    have hnw : w.heap.size ≤ n40 := by omega
    clear l40 h42 hn40 o41 m41 hL31 hs31
  all_goals
    refine Jn_in (fun us vs w' => ∃ (a : Option Addr) (c : Nat), vs = [.agg #[.slice a x.sf.length c, .slice none 0 0, .int .i64 x.rf]] ∧ OwnL w' w.heap.size 9 1 s1 a c (x.crash keep torn).sf ∧ Md [] w w' ∧ (∀ A, a = some A → A.block ≠ n40 ∧ A.block ≠ n2)) ?_ ?_
    · rintro us vs w45 ⟨a, c, rfl, ho, hm, hne'⟩
      refine opAg_in <| opL_in <| opL_in <| opI_in <| SzIs_in rfl fun w54 h54 hL54 => ?_
      have m54 : Md [] w w54 := hm.old h54 (by simp; exact ⟨hn2, hnw⟩)
      refine ⟨⟨⟨a, c, none, 0⟩, ?_, ⟨(ho.mdD h54 (fun A hA => by have := hne' A hA; simp; omega)).down hb, ?_, ?_, ?_, ?_⟩, ⟨fun A hA => .inr (ho.lt hA).1, fun A hA => by cases hA⟩⟩, m54⟩
      · simp only [Rf.v, hcl, hcp.1, hcp.2]; rfl
      · rw [hcp.1]; exact OwnL.nil _ _ _ _ _
      · rw [hcp.2]; omega
      · rw [hcl]; exact hsl
      · rw [hcp.1]; simp
    refine Bd_e rfl <| Bd_in fun b57 hb57 => If_in (fun hbb => ?_) fun hbb => ?_
    · have hkp : k < x.pe.length := by rw [hb57] at hbb; have : ((x.pe.length - k : Nat) : Int) > 0 := by simpa using hbb
                                       omega
      have hdl : (x.pe.drop k).length = x.pe.length - k := List.length_drop ..
      have hd0 : 0 < (x.pe.drop k).length := by omega
      have hg0 : (x.pe.drop k)[0] = x.pe[k] := by simp
      obtain ⟨q1, q2⟩ := hin _ (List.getElem_mem hkp)
      have q64 := hq64 _ (List.getElem_mem hkp)
      rw [List.drop_eq_getElem_cons hkp] at ecr
      simp only at ecr
      generalize hq : x.pe[k] = q at *
      obtain ⟨j, hj⟩ := Int.eq_ofNat_of_zero_le q1
      have hjS : j < S.length := by omega
      have hSj := hS64 _ (List.getElem_mem hjS)
      have ecs : (x.crash keep torn).sf = keptL S [(q.1, mixS q.2 S[j] t)] := by
        rw [ecr]
        show S.set _ _ = S.set _ _
        rw [hj]; simp [hjS]
      have hix : IxOk 0 (x.pe.length - k) a21 := by have := r21.ix hd0; rw [hdl] at this; exact this
      have hixj : IxOk q.1 x.sf.length a33 := by have := (o42.row encs1).ix hjS; rw [hsl2] at this; rw [hj]; exact this
      have mS : ∀ {w' : World}, Md [n40] w42.drew w' → Md [] w w' := fun hm => (m42.trans (Md_drew w42)).old hm (by simp; exact hnw)
      have oS : ∀ {w' : World}, Md [n40] w42.drew w' → OwnL w' w.heap.size 9 1 s1 a33 c33 S := fun hm => (o42.md (Md_drew w42)).mdD hm (fun A hA => by simp; exact (hne A hA).1)
      have s0 : Md [n40] w42.drew w42.drew := (Md.refl [] _).mono (by simp)
      have lS : ∀ {w' : World}, Md [n40] w42.drew w' → ∀ b ∈ [n40, n2, n1], b < w'.heap.size := fun hm b hb => by
        have h1 := hm.size
        have h2 : w42.heap.size ≤ _ := h1
        have := hL42 b hb
        omega
      have fin : ∀ w' : World, Md [n40] w42.drew w' → Md [n40] w42.drew (w'.alloc (.cells #[.int .i64 q.1, .string (mixS q.2 S[j] t)] 257)) ∧ CallW Try.prog [n40, n2, n1] 195 #[.agg #[.slice a33 x.sf.length c33, .slice none 0 0, .int .i64 x.rf], .slice (some (Addr.mk w'.heap.size 0 none)) 1 1] (fun v85 w86 => opAg v85 fun cs87 => opL (nthD cs87.toList 0) fun a88 n89 n90 => opL (nthD cs87.toList 1) fun a91 n92 n93 => opI .i64 (nthD cs87.toList 2) fun x94 => SzIs cs87.size 3
          (Md [n40] w42.drew w86 ∧ Up [n40] [n40, n2, n1] w86 fun w95 => Md [n40] w42.drew w95 ∧ ∃ (a : Option Addr) (c : Nat), [Value.agg #[.slice a88 n89 n90, .slice a91 n92 n93, .int .i64 x94]] = [.agg #[.slice a x.sf.length c, .slice none 0 0, .int .i64 x.rf]] ∧ OwnL w95 w.heap.size 9 1 s1 a c (x.crash keep torn).sf ∧ Md [] w w95 ∧ (∀ A, a = some A → A.block ≠ n40 ∧ A.block ≠ n2))) (w'.alloc (.cells #[.int .i64 q.1, .string (mixS q.2 S[j] t)] 257)) := by
        intro w' hm
        have hma : Md [n40] w42.drew (w'.alloc (.cells #[.int .i64 q.1, .string (mixS q.2 S[j] t)] 257)) := hm.old' (D := []) (Md.alloc w' _) (by simp)
        refine ⟨hma, ?_⟩
        have ol := OwnL.lit (P := Try.prog) (base := w'.heap.size) encw2 w' 257 [(q.1, mixS q.2 S[j] t)] #[.int .i64 q.1, .string (mixS q.2 S[j] t)] (Nat.le_refl _) (by simp [maxLen]) rfl
        refine in195' (oS hma) (by omega) h.rf (by omega) (l := [(q.1, mixS q.2 S[j] t)]) rfl (ol.row encw2) (by simp; omega) (by simp) (lS hma) fun a' c' w86 o86 m86 => ?_
        have h86 : Md [n40] w42.drew w86 := hma.old' m86 (by simp)
        refine ⟨h86, fun w95 h95 hL95 => ⟨h86.fr h95 (Fr.refl _ _), a', c', rfl, ?_, mS (h86.fr h95 (Fr.refl _ _)), ?_⟩⟩
        · rw [ecs]
          have hw := (mS hma).size
          exact (o86.mdD h95 (fun A hA => by have := (o86.lt hA).1; have := lS hma n40 (by simp); simp; omega)).down hw
        · intro A hA
          have := (o86.lt hA).1
          have := lS hma n40 (by simp)
          have := lS hma n2 (by simp)
          omega
      have mx : q.2.extract 0 t ++ S[j].extract t S[j].size = mixS q.2 S[j] t := rfl
      have add : ∀ w' : World, RunV Try.prog (eqS BinOp.add 9 (Operand.tmp 48) (Operand.tmp 55) (.string (q.2.extract 0 t)) (.string (S[j].extract t S[j].size))) (.string (mixS q.2 S[j] t)) w' := fun w' => ⟨run_addS w' _ _ _ _ (by simp; omega) (by simp; omega)⟩
      have ldq0 : ∀ {K : Value → Prop} {w' : World}, Md [] w w' → K (.int .i64 q.1) → Ld w' ((adAt a21 0 2).add 0) K := fun {K w'} hm k => (r21.md hm).ldj (i := 0) (j := 0) hd0 (by rw [hg0]; rfl) k
      have ldq1 : ∀ {K : Value → Prop} {w' : World}, Md [] w w' → K (.string q.2) → Ld w' ((adAt a21 0 2).add 1) K := fun {K w'} hm k => (r21.md hm).ldj (i := 0) (j := 1) hd0 (by rw [hg0]; rfl) k
      have ldS : ∀ {K : Value → Prop} {w' : World}, Md [n40] w42.drew w' → K (.string S[j]) → Ld w' (adAt a33 q.1 1) K := fun {K w'} hm k => by rw [hj]; exact ((oS hm).row encs1).ld1 hjS rfl k
      refine ⟨hix, ldq0 m42 <| opI_in ⟨fun w' => Md [n40] w42.drew w', s0, hix, _, fun w' hm => ldq1 (mS hm) rfl, opStr_in ⟨_, fun w' hm => ⟨cutB_h w' q.2 t (by omega)⟩, opStr_in ⟨⟨s0, s0, hixj, _, fun w' hm => ldS hm rfl, opStr_in ⟨_, fun w' hm => ⟨cutB_l w' S[j] t (by omega)⟩, opStr_in ⟨_, fun w' hm => add w', opStr_in <| Nw_e (fin _ s0)⟩⟩⟩,
        s0, hixj, _, fun w' hm => ldS hm rfl, opStr_in ⟨_, fun w' hm => ⟨cutB_l w' S[j] t (by omega)⟩, opStr_in ⟨_, fun w' hm => add w', opStr_in ⟨⟨s0, Nw_e (fin _ s0)⟩, Nw_e ⟨(fin _ s0).1, fin _ s0⟩⟩⟩⟩⟩⟩⟩⟩
    · have hkp : k = x.pe.length := by rw [hb57] at hbb; have : ¬ ((x.pe.length - k : Nat) : Int) > 0 := by simpa using hbb
                                       omega
      have e : (x.crash keep torn).sf = S := by rw [ecr, List.drop_of_length_le (by omega)]
      refine ⟨a33, c33, rfl, by rw [e]; exact o42, m42, fun A hA => ⟨(hne A hA).1, (hne A hA).2.1⟩⟩
end Fk
set_option linter.unusedVariables false
set_option linter.unusedSimpArgs false
set_option maxRecDepth 100000
namespace Fk
open Go Go.Proofs Go.RowKit
structure FroN (n : Nat) (d : Dk) : Prop where
  len : d.bl.length = n
  ok : ∀ k (h : k < d.pd.length), d.pd[k].i < n ∧ getB (front d (k + 1)) d.pd[k].i = d.pd[k].now
theorem FroN.put {n : Nat} {d : Dk} (h : FroN n d) {i : Nat} (hi : i < n) (b : Bk) : FroN n (d.put i b) := by
  have hl := h.len
  refine ⟨by simp [Dk.put, hl], fun k hk => ?_⟩
  have hpl : (d.put i b).pd.length = d.pd.length + 1 := by simp [Dk.put]
  rcases Nat.lt_or_ge k d.pd.length with h1 | h1
  · have e : (d.put i b).pd[k] = d.pd[k] := by simp [Dk.put, List.getElem_append_left h1]
    rw [e, front_put b (by omega) (by omega)]
    exact h.ok k h1
  · have hk' : k = d.pd.length := by omega
    subst hk'
    have e : (d.put i b).pd[d.pd.length] = ⟨i, b, getB d.bl i⟩ := by simp [Dk.put]
    rw [e, ← hpl, front_last]
    refine ⟨hi, ?_⟩
    show getB (d.bl.set i b) i = b
    rw [getB_set _ _ _ _ (by omega), if_pos rfl]
def stB (b : Bk) : ByteArray := bytesOf b.1
def wq (x : Wt) : Int × ByteArray := ((x.i : Int), stB x.now)
def setW (bl : List Bk) (q : Wt) : List Bk := bl.set q.i q.now
theorem keptL_map (l : List Wt) : ∀ bl : List Bk, keptL (bl.map stB) (l.map wq) = (l.foldl setW bl).map stB := by
  induction l with
  | nil => intro bl; rfl
  | cons q l ih =>
    intro bl
    rw [List.foldl_cons, ← ih]
    show (List.map wq l).foldl _ ((bl.map stB).set _ _) = _
    unfold keptL setW
    rw [List.map_set]; rfl
theorem fwd {n : Nat} {d : Dk} (h : FroN n d) : ∀ k, k ≤ d.pd.length → (d.pd.take k).foldl setW (front d 0) = front d k
  | 0, _ => rfl
  | k + 1, hk => by
    have hk' : k < d.pd.length := hk
    obtain ⟨h1, h2⟩ := h.ok k hk'
    have hfl := front_len d (k + 1)
    have hlen := h.len
    rw [List.take_succ_eq_append_getElem hk', List.foldl_append, fwd h k (by omega)]
    show (front d k).set _ _ = _
    rw [front_step hk', List.set_set, ← h2, getB_eq (by omega), List.set_getElem_self]
structure RelD (n : Nat) (d : Dk) (x : Rf) : Prop where
  fro : FroN n d
  rf : x.rf = d.rf
  rg : 0 ≤ d.rf
  pe : x.pe = d.pd.map wq
  sf : x.sf = (front d 0).map stB
section
variable {n : Nat} {d : Dk} {x : Rf}
theorem RelD.slen (h : RelD n d x) : x.sf.length = n := by rw [h.sf, List.length_map, front_len, h.fro.len]
theorem RelD.plen (h : RelD n d x) : x.pe.length = d.pd.length := by rw [h.pe, List.length_map]
theorem RelD.kept (h : RelD n d x) {k : Nat} (hk : k ≤ d.pd.length) : keptL x.sf (x.pe.take k) = (front d k).map stB := by
  rw [h.sf, h.pe, ← List.map_take, keptL_map, fwd h.fro k hk]
theorem RelD.keptA (h : RelD n d x) : keptL x.sf x.pe = d.bl.map stB := by
  have := h.kept (Nat.le_refl d.pd.length)
  rw [List.take_of_length_le (by rw [h.plen]; exact Nat.le_refl _), front_last] at this
  exact this
theorem RelD.hin (h : RelD n d x) : ∀ q ∈ x.pe, 0 ≤ q.1 ∧ q.1 < x.sf.length := by
  intro q hq
  rw [h.pe] at hq
  obtain ⟨y, hy, rfl⟩ := List.mem_map.1 hq
  obtain ⟨k, hk, rfl⟩ := List.getElem_of_mem hy
  have := (h.fro.ok k hk).1
  rw [h.slen]
  simp only [wq]
  omega
theorem stB_size (b : Bk) : (stB b).size = 64 := by unfold stB; rw [size_bytesOf, b.2.1]
theorem RelD.q64 (h : RelD n d x) : ∀ q ∈ x.pe, q.2.size = 64 := by
  intro q hq
  rw [h.pe] at hq
  obtain ⟨y, hy, rfl⟩ := List.mem_map.1 hq
  exact stB_size _
theorem RelD.s64 (h : RelD n d x) : ∀ s ∈ x.sf, s.size = 64 := by
  intro q hq
  rw [h.sf] at hq
  obtain ⟨y, hy, rfl⟩ := List.mem_map.1 hq
  exact stB_size _
theorem has_kept (i : Nat) : ∀ (l : List (Int × ByteArray)) (sf : List ByteArray), (∀ q ∈ l, 0 ≤ q.1 ∧ q.1 < sf.length) → l.foldl (fun s q => if q.1 = (i : Int) then q.2 else s) (sf.getD i ByteArray.empty) = (keptL sf l).getD i ByteArray.empty
  | [], sf, _ => rfl
  | q :: l, sf, h => by
    obtain ⟨h1, h2⟩ := h q (by simp)
    obtain ⟨j, hj⟩ := Int.eq_ofNat_of_zero_le h1
    have := has_kept i l (sf.set q.1.toNat q.2) (fun q hq => by rw [List.length_set]; exact h q (by simp [hq]))
    rw [List.foldl_cons]
    show _ = (keptL (sf.set q.1.toNat q.2) l).getD i ByteArray.empty
    rw [← this]
    congr 1
    rw [hj]
    simp only [Int.toNat_natCast, List.getD_eq_getElem?_getD, List.getElem?_set]
    by_cases hij : j = i
    · subst hij
      have : j < sf.length := by omega
      simp [this]
    · have : ¬ ((j : Int) = (i : Int)) := by omega
      simp [hij, this]
theorem RelD.has (h : RelD n d x) {i : Nat} (hi : i < n) : x.has i = stB (getB d.bl i) := by
  have hl := h.fro.len
  unfold Rf.has
  rw [has_kept i x.pe x.sf h.hin, h.keptA, getB_eq (by omega)]
  simp [hl, hi]
theorem bytesOf_app (a b : List Nat) : bytesOf (a ++ b) = bytesOf a ++ bytesOf b := by
  apply ByteArray.ext
  apply Array.toList_inj.1
  simp [bytesOf]
theorem RelD.all (h : RelD n d x) : x.all x.sf.length = bytesOf d.all := by
  have hl := h.fro.len
  have : ∀ k, k ≤ n → x.all k = bytesOf (bytesB (d.bl.take k)) := by
    intro k
    induction k with
    | zero => intro _; rfl
    | succ k ih =>
      intro hk
      have hk' : k < d.bl.length := by omega
      have e : x.all (k + 1) = x.all k ++ x.has k := by unfold Rf.all; rw [List.range_succ, List.foldl_append]; rfl
      rw [e, ih (by omega), h.has (by omega), bytesB_take hk', bytesOf_app, getB_eq hk']; rfl
  rw [h.slen, this n (Nat.le_refl n), List.take_of_length_le (by omega)]; rfl
theorem RelD.with (h : RelD n d x) {e : Dk} {y : Rf} (h1 : e.bl = d.bl) (h2 : e.pd = d.pd) (h3 : y.sf = x.sf) (h4 : y.pe = x.pe) (h5 : y.rf = e.rf) (h6 : 0 ≤ e.rf) : RelD n e y := by
  obtain ⟨⟨l, o⟩, _, _, p, s⟩ := h
  cases d; cases e
  simp only at h1 h2
  subst h1; subst h2
  exact ⟨⟨l, o⟩, h5, h6, h4.trans p, h3.trans s⟩
theorem RelD.step (h : RelD n d x) : RelD n d.stepD.1 x.step.1 ∧ d.stepD.2 = x.step.2 := by
  obtain ⟨b1, b2⟩ := stepD_bl d
  obtain ⟨c1, c2⟩ := x.step_sf
  have hr := h.rf
  have hg := h.rg
  have e : x.step.1.rf = d.stepD.1.rf ∧ 0 ≤ d.stepD.1.rf ∧ d.stepD.2 = x.step.2 := by
    unfold Rf.step Dk.stepD
    by_cases h0 : d.rf > 0
    · rw [if_pos h0, if_neg (by omega)]
      refine ⟨by simp only; omega, by simp only; omega, ?_⟩
      rw [Bool.eq_iff_iff]; simp; omega
    · rw [if_neg h0, if_pos (by omega)]
      exact ⟨hr, hg, rfl⟩
  exact ⟨h.with b1 b2 c1 c2 e.1 e.2.1, e.2.2⟩
theorem RelD.write (h : RelD n d x) (i : Int) (b : List Nat) (hb : ∀ z ∈ b, z < 256) : RelD n (d.write i b).1 (x.write i b).1 ∧ (d.write i b).2 = (x.write i b).2 := by
  obtain ⟨hs, he⟩ := h.step
  have hl := h.fro.len
  have hsl := h.slen
  unfold Dk.write Rf.write
  by_cases hv : 0 ≤ i ∧ i < (n : Int) ∧ b.length = 64
  · rw [if_neg (show ¬ ¬ (0 ≤ i ∧ i < (d.bl.length : Int) ∧ b.length = 64) by rw [hl]; exact fun hh => hh hv), if_neg (show ¬ ¬ (0 ≤ i ∧ i < (x.sf.length : Int) ∧ b.length = 64) by rw [hsl]; exact fun hh => hh hv)]
    rw [← he]
    by_cases h2 : d.stepD.2 = true
    · rw [if_pos h2, if_pos h2]
      refine ⟨?_, rfl⟩
      generalize hd : d.stepD.1 = e at *
      have hel := hs.fro.len
      have hi : i.toNat < n := by omega
      refine ⟨hs.fro.put hi _, hs.rf, hs.rg, ?_, ?_⟩
      · have e1 : x.step.1.pe = x.pe := x.step_sf.2
        show x.pe ++ _ = List.map wq (e.pd ++ [(⟨i.toNat, mkBk b, getB e.bl i.toNat⟩ : Wt)])
        rw [List.map_append, ← hs.pe, e1]
        simp only [List.map_cons, List.map_nil, wq, stB, mkBk_val hv.2.2 hb]
        rw [Int.toNat_of_nonneg hv.1]
      · rw [front_put _ (by omega) (by omega)]; exact hs.sf
    · rw [if_neg h2, if_neg h2]
      exact ⟨hs, rfl⟩
  · rw [if_pos (show ¬ (0 ≤ i ∧ i < (d.bl.length : Int) ∧ b.length = 64) by rw [hl]; exact hv), if_pos (show ¬ (0 ≤ i ∧ i < (x.sf.length : Int) ∧ b.length = 64) by rw [hsl]; exact hv)]
    exact ⟨h, rfl⟩
theorem RelD.clr (h : RelD n d x) {bl : List Bk} (hb : bl.length = n) (r : Int) (hr : 0 ≤ r) {sf : List ByteArray} (hs : sf = bl.map stB) : RelD n ⟨bl, [], r⟩ ⟨sf, [], r⟩ := ⟨⟨hb, fun k hk => by simp at hk⟩, rfl, hr, rfl, hs⟩
theorem RelD.flush (h : RelD n d x) : RelD n d.flush.1 x.flush.1 ∧ d.flush.2 = x.flush.2 := by
  obtain ⟨hs, he⟩ := h.step
  obtain ⟨b1, b2⟩ := stepD_bl d
  unfold Dk.flush Rf.flush
  rw [← he]
  by_cases h2 : d.stepD.2 = true
  · rw [if_pos h2, if_pos h2]
    refine ⟨?_, rfl⟩
    have := h.clr (bl := d.stepD.1.bl) (by rw [b1]; exact h.fro.len) d.stepD.1.rf hs.rg (sf := keptL x.sf x.pe) (by rw [b1]; exact h.keptA)
    rw [hs.rf]
    exact this
  · rw [if_neg h2, if_neg h2]
    exact ⟨hs, rfl⟩
theorem RelD.arm (h : RelD n d x) (m : Int) : RelD n (d.arm m) (x.arm m) := h.with rfl rfl rfl rfl (by simp only [Rf.arm, Dk.arm]; split <;> omega) (by simp only [Dk.arm]; omega)
theorem st_mix {t : Nat} (ht : t ≤ 64) (a b : Bk) : stB (mixB t a b) = mixS (stB a) (stB b) t := by
  have ha := a.2.1
  have hb := b.2.1
  unfold stB mixS
  rw [size_bytesOf, bytesOf_ext, bytesOf_ext, ← bytesOf_app]
  show bytesOf (a.1.take t ++ b.1.drop t) = _
  rw [List.drop_zero, Nat.sub_zero, List.take_of_length_le (l := b.1.drop t) (by rw [List.length_drop]; exact Nat.le_refl _)]
theorem RelD.crash (h : RelD n d x) (keep torn : Int) : RelD n (d.crash keep torn) (x.crash keep torn) := by
  have hl := h.fro.len
  have hpl := h.plen
  generalize htt : min torn.toNat 64 = t
  have ht : t ≤ 64 := by omega
  unfold Dk.crash Rf.crash
  rw [htt, hpl]
  rcases Nat.lt_or_ge keep.toNat d.pd.length with hk | hk
  · generalize hkk : keep.toNat = k at *
    rw [show min k d.pd.length = k by omega]
    obtain ⟨o1, o2⟩ := h.fro.ok k hk
    have hfl := front_len d k
    have hfl1 := front_len d (k + 1)
    have ecr : d.crB k t k = (front d k).set d.pd[k].i (mixB t d.pd[k].now d.pd[k].was) := by
      unfold Dk.crB front
      rw [List.drop_eq_getElem_cons hk]
      simp
    have hxk : k < x.pe.length := by omega
    have exk : x.pe[k] = wq d.pd[k] := by simp [h.pe]
    rw [List.drop_eq_getElem_cons hxk, h.kept (by omega), ecr, exk]
    refine h.clr (by rw [List.length_set]; omega) 0 (by omega) ?_
    have ew : getB (front d k) d.pd[k].i = d.pd[k].was := by rw [front_step hk, getB_set _ _ _ _ (by omega), if_pos rfl]
    have hlt : d.pd[k].i < (front d k).length := by omega
    rw [getB_eq hlt] at ew
    rw [List.map_set, st_mix ht]
    simp only [wq, Int.toNat_natCast]
    simp only [List.getD_eq_getElem?_getD, List.getElem?_map, List.getElem?_eq_getElem hlt, Option.map_some, Option.getD_some, ew]
  · rw [Nat.min_eq_right hk]
    have ecr : d.crB keep.toNat t keep.toNat = d.bl := by
      unfold Dk.crB
      rw [List.drop_of_length_le hk]
    rw [ecr, List.drop_of_length_le (by omega), h.kept (Nat.le_refl _), front_last]
    exact h.clr hl 0 (by omega) rfl
end
theorem rel_new (n : Nat) : RelD n (newDk n) (zRf n) := by
  refine ⟨⟨by simp [newDk], fun k hk => by simp [newDk] at hk⟩, rfl, by simp [newDk], rfl, ?_⟩
  show List.replicate n zStr = (List.replicate n zBk).map stB
  rw [List.map_replicate]; rfl
end Fk
set_option linter.unusedVariables false
set_option linter.unusedSimpArgs false
set_option maxRecDepth 100000
namespace Fk
open Go Go.Proofs Go.RowKit
structure TS (w0 w : World) (n : Nat) (d : Dk) (F : List Nat) (x : Rf) (p : RfS) (s : Nat) : Prop where
  ds : DS w0 w n d F
  r : RfAt w w0.heap.size x p
  sa : Sep p.a w F
  sb : Sep p.b w F
  n1 : s < w.heap.size
  n2 : w0.heap.size ≤ s
  nF : s ∉ F
  na : ∀ A, p.a = some A → A.block ≠ s
  nb : ∀ A, p.b = some A → A.block ≠ s
section
variable {w0 w w' : World} {n : Nat} {d d' : Dk} {F F' L : List Nat} {x x' : Rf} {p p' : RfS} {s : Nat}
theorem TS.md0 (S : TS w0 w n d F x p s) (hm : Md [] w w') : TS w0 w' n d F x p s := by
  have := hm.size
  exact ⟨S.ds.md0 hm, S.r.md hm, S.sa.md this, S.sb.md this, by have := S.n1; omega, S.n2, S.nF, S.na, S.nb⟩
theorem TS.ref (S : TS w0 w n d F x p s) (hm : Md [] w w') (r : RfAt w' w0.heap.size x' p') (hn : NewS w p p') : TS w0 w' n d F x' p' s := by
  have hs := hm.size
  have hn1 := S.n1
  refine ⟨S.ds.md0 hm, r, fun A hA => ⟨(r.sf.lt hA).2, fun hF => ?_⟩, fun A hA => ⟨(r.pe.lt hA).2, fun hF => ?_⟩, by omega, S.n2, S.nF, fun A hA => ?_, fun A hA => ?_⟩
  · rcases hn.1 A hA with h | h
    · exact (S.sa A h).2 hF
    · have := S.ds.dk.lt _ hF; omega
  · rcases hn.2 A hA with h | h
    · exact (S.sb A h).2 hF
    · have := S.ds.dk.lt _ hF; omega
  · rcases hn.1 A hA with h | h
    · exact S.na A h
    · omega
  · rcases hn.2 A hA with h | h
    · exact S.nb A h
    · omega
theorem TS.other (S : TS w0 w n d F x p s) {G : List Nat} (hm : Md G w w') (hG : ∀ b ∈ G, w0.heap.size ≤ b ∧ b ∉ F ∧ (∀ A, p.a = some A → A.block ≠ b) ∧ (∀ A, p.b = some A → A.block ≠ b)) : TS w0 w' n d F x p s := by
  have hs := hm.size
  refine ⟨S.ds.other hm (fun b hb => ⟨S.ds.dk.lt b hb, fun hb' => (hG b hb').2.1 hb⟩) (fun b hb => (hG b hb).1), ⟨S.r.sf.mdD hm (fun A hA hb => (hG _ hb).2.2.1 A hA rfl), S.r.pe.mdD hm (fun A hA hb => (hG _ hb).2.2.2 A hA rfl), S.r.rf, S.r.sl, S.r.pl⟩, S.sa.md hs, S.sb.md hs, by have := S.n1; omega, S.n2, S.nF, S.na, S.nb⟩
theorem TS.up (S : TS w0 w n d F x p s) (hm : Md [s] w w') : TS w0 w' n d F x p s := S.other hm fun b hb => by
  simp at hb; subst hb
  exact ⟨S.n2, S.nF, S.na, S.nb⟩
end
theorem in121 {L : List Nat} {x : Rf} {p : RfS} {base : Nat} {w : World} (h : RfAt w base x p) (hs : ∀ i, i < x.sf.length → (x.has i).size = 64) (h20 : x.sf.length ≤ 20) (hL : ∀ b ∈ L, b < w.heap.size) {K : ByteArray → World → Prop} (k : ∀ w', Md [] w w' → K (x.all x.sf.length) w') :
    CallW Try.prog L 121 #[.agg #[.slice p.a x.sf.length p.c, .slice p.b x.pe.length p.e, .int .i64 x.rf]] (fun v w' => opStr v fun s => K s w') w := by
  refine (f121_ok x p base w h hs h20).call hL ?_
  rintro v w' rfl m
  exact opStr_in (k w' m)
/-- Each byte of a row of one's own is raised by one: the row stays one's own. -/
theorem bump {w0 w : World} {n : Nat} {d : Dk} {F : List Nat} {x : Rf} {p : RfS} {s n83 : Nat} {e : TypeId} {A : Option Addr} {C len base : Nat} {l : List Nat} (S : TS w0 w n d F x p s) (ho : OwnL w base e 1 b1 A C l) (hlen : l.length = len) (h83 : n83 < w.heap.size) (hb0 : w0.heap.size ≤ base)
    (hA : ∀ B, A = some B → B.block ∉ F ∧ (∀ Q, p.a = some Q → Q.block ≠ B.block) ∧ (∀ Q, p.b = some Q → Q.block ≠ B.block) ∧ B.block ≠ s ∧ B.block ≠ n83) (hl : len < 2 ^ 40) {K : World → Prop} (k : ∀ w', TS w0 w' n d F x p s → n83 < w'.heap.size → K w') :
    LoopP (fun l172 l173 J174 w175 => opI .i64 (nthD l172 0) fun x176 => Bd (decide (x176 < (len : Int))) fun b177 => If b177 (IxOk x176 len A ∧ Ld w175 (adAt A x176 1) fun v178 => opI .u8 v178 fun x179 => Bd (IntKind.wrap .u8 (x179 + 1)) fun x180 => IxOk x176 len A ∧ ¬ Addr.block (adAt A x176 1) ∈ [n83, s] ∧ Wr w175 (adAt A x176 1) 1 ∧ Bd (IntKind.wrap .i64 (x176 + 1)) fun x181 => J174 [.int .i64 x181] [] (setCells w175 (adAt A x176 1) 0 [.int .u8 x180])) (K w175)) [.int .i64 0] [] w := by
  refine LoopP_in (fun mm us vs w' => ∃ (j : Nat) (l : List Nat), us = [.int .i64 j] ∧ mm = len - j ∧ j ≤ len ∧ l.length = len ∧ OwnL w' base e 1 b1 A C l ∧ TS w0 w' n d F x p s ∧ n83 < w'.heap.size) len ⟨0, l, rfl, rfl, by omega, hlen, ho, S, h83⟩ ?_
  rintro mm us vs w175 ⟨j, l, rfl, rfl, hj, hlen, ho, S, h83⟩
  refine opI_in <| Bd_in fun b hb => If_in (fun h => ?_) fun h => k w175 S h83
  have hj' : j < l.length := by rw [hb] at h; have : (j : Int) < (len : Int) := by simpa using h
                                omega
  have hix := (ho.row encb1).ix hj'
  rw [hlen] at hix
  refine ⟨hix, (ho.row encb1).ld1 hj' rfl <| opI_in <| Bd_in fun x180 hx180 => ⟨hix, ?_⟩⟩
  have hx : ∃ y : Nat, x180 = (y : Int) := by
    have : 0 ≤ x180 := by rw [hx180, IntKind.wrap_u8]; omega
    exact Int.eq_ofNat_of_zero_le this
  obtain ⟨y, rfl⟩ := hx
  obtain ⟨B, hB, p1, p2, p3, p4, p5, p6⟩ := ho.put encb1 (by omega) hj' y
  obtain ⟨q1, q2, q3, q4, q5⟩ := hA B hB
  refine ⟨by rw [p3]; simp; exact ⟨q5, q4⟩, p4, Bd_e (inc_i64 (by omega)) ⟨len - (j + 1), by omega, j + 1, l.set j y, rfl, rfl, by omega, by rw [List.length_set]; exact hlen, p5, S.other p6 (fun b hb => ?_), ?_⟩⟩
  · simp at hb; subst hb
    exact ⟨by omega, q1, q2, q3⟩
  · have := p6.size
    exact Nat.lt_of_lt_of_le h83 this
end Fk
set_option linter.unusedVariables false
set_option linter.unusedSimpArgs false
set_option maxRecDepth 100000
set_option maxHeartbeats 4000000
namespace Fk
open Go Go.Proofs Go.RowKit
theorem RfAt.down {w : World} {b base : Nat} {x : Rf} {p : RfS} (h : RfAt w base x p) (hb : b ≤ base) : RfAt w b x p := ⟨h.sf.down hb, h.pe.down hb, h.rf, h.sl, h.pl⟩
end Fk
set_option linter.unusedVariables false
set_option linter.unusedSimpArgs false
set_option maxRecDepth 100000
set_option maxHeartbeats 2000000
namespace Fk
open Go Go.Proofs Go.RowKit
theorem byteAt_bytesOf {s : List Nat} (hs : ∀ x ∈ s, x < 256) {i : Nat} (hi : i < s.length) : byteAt (bytesOf s) (i : Int) = ((s[i] : Nat) : Int) := by
  unfold byteAt bytesOf
  simp [hi]
  exact_mod_cast Nat.mod_eq_of_lt (hs _ (List.getElem_mem hi))
end Fk
set_option linter.unusedVariables false
set_option linter.unusedSimpArgs false
set_option maxRecDepth 100000
set_option maxHeartbeats 2000000
namespace Fk
open Go Go.Proofs Go.RowKit
theorem run_cat (w : World) (o1 o2 : Operand) (a b : List Nat) (ha : a.length ≤ 8388608) (hb : b.length ≤ 8388608) : (eqS .add 9 o1 o2 (.string (bytesOf a)) (.string (bytesOf b))).run Try.prog w = .ok (.string (bytesOf (a ++ b))) w := by
  rw [run_addS w o1 o2 _ _ (by rw [size_bytesOf]; exact ha) (by rw [size_bytesOf]; exact hb), bytesOf_app]
theorem in_cat {L : List Nat} {w : World} {o1 o2 : Operand} {a b : List Nat} (ha : a.length ≤ 8388608) (hb : b.length ≤ 8388608) {K : ByteArray → World → Prop} (k : K (bytesOf (a ++ b)) w) :
    RunW Try.prog L (eqS .add 9 o1 o2 (.string (bytesOf a)) (.string (bytesOf b))) (fun v w => opStr v fun s => K s w) w := RunW_in0 (run_cat w o1 o2 a b ha hb) (opStr_in k)
theorem xor_low (n c : Nat) (hc : c < 256) : n - n % 256 + (n % 256 ^^^ c) = n ^^^ c := by
  have h1 : n = 2 ^ 8 * (n / 256) + n % 256 := by omega
  have h2 : n % 256 ^^^ c < 2 ^ 8 := Nat.xor_lt_two_pow (by omega) (by omega)
  have h3 : n ^^^ c = 2 ^ 8 * (n / 256) + (n % 256 ^^^ c) := by
    have e1 : 2 ^ 8 * (n / 256) + n % 256 = 2 ^ 8 * (n / 256) ||| n % 256 := Nat.two_pow_add_eq_or_of_lt (i := 8) (by omega) _
    have e2 : 2 ^ 8 * (n / 256) + (n % 256 ^^^ c) = 2 ^ 8 * (n / 256) ||| (n % 256 ^^^ c) := Nat.two_pow_add_eq_or_of_lt (i := 8) h2 _
    conv => lhs; rw [h1]
    rw [e1, e2]
    apply Nat.eq_of_testBit_eq
    intro i
    simp only [Nat.testBit_xor, Nat.testBit_or, Nat.testBit_two_pow_mul]
    by_cases hi : 8 ≤ i
    · have z1 : (n % 256).testBit i = false := Nat.testBit_lt_two_pow (Nat.lt_of_lt_of_le (show n % 256 < 2 ^ 8 by omega) (Nat.pow_le_pow_right (by omega) hi))
      have z2 : c.testBit i = false := Nat.testBit_lt_two_pow (Nat.lt_of_lt_of_le (show c < 2 ^ 8 by omega) (Nat.pow_le_pow_right (by omega) hi))
      rw [z1, z2]; simp
    · simp [hi]
  omega
theorem xor64 (a c : Nat) (ha : a < 256) (hc : c < 256) : IntKind.wrap .u64 ((BitVec.toNat (BitVec.ofInt 64 (a : Int) ^^^ BitVec.ofInt 64 (c : Int)) : Nat) : Int) = ((a ^^^ c : Nat) : Int) := by
  have h : a ^^^ c < 2 ^ 8 := Nat.xor_lt_two_pow ha hc
  have e : BitVec.toNat (BitVec.ofInt 64 (a : Int) ^^^ BitVec.ofInt 64 (c : Int)) = a ^^^ c := by
    rw [BitVec.toNat_xor, BitVec.ofInt_natCast, BitVec.ofInt_natCast, BitVec.toNat_ofNat, BitVec.toNat_ofNat, Nat.mod_eq_of_lt (by omega), Nat.mod_eq_of_lt (by omega)]
  rw [e, IntKind.wrap_u64]
  generalize a ^^^ c = m at *
  omega
theorem f139_ok (l : List Nat) (hl : ∀ x ∈ l, x < 256) (hn : l.length < 2 ^ 40) (w : World) : Ct Try.prog 139 #[.string (bytesOf l)] w fun v w' => v = .int .u64 (sumL l) ∧ Md [] w w' := by
  apply f139_in
  refine LoopP_in (fun mm us vs w' => ∃ (i s : Nat), us = [.int .u64 s, .int .i64 i] ∧ mm = l.length - i ∧ i ≤ l.length ∧ s < 4294967296 ∧ sumF s (l.drop i) = sumL l ∧ w' = w) l.length
    ⟨0, 2166136261, rfl, rfl, by omega, by omega, rfl, rfl⟩ ?_
  rintro mm us vs w5 ⟨i, s, rfl, hmm, hi, hs, he, rfl⟩
  refine opI_in <| opI_in <| Bd_e (y := (l.length : Int)) (by rw [size_bytesOf]) <| Bd_in fun b8 hb8 => If_in (fun hb => ?_) fun hb => ?_
  · have hil : i < l.length := by rw [hb8] at hb; have : (i : Int) < (l.length : Int) := of_decide_eq_true hb
                                  omega
    have hx := hl _ (List.getElem_mem hil)
    rw [List.drop_eq_getElem_cons hil] at he
    have hxl := xor_low s l[i] hx
    have hx2 : s % 256 ^^^ l[i] < 2 ^ 8 := Nat.xor_lt_two_pow (by omega) (by omega)
    have hx3 := xor_lt32 hs hx
    refine Bd_e (y := ((s % 256 : Nat) : Int)) (by rw [Int.tmod_eq_emod_of_nonneg (by omega)]; omega) <| Bd_e (y := ((s - s % 256 : Nat) : Int)) (by rw [IntKind.wrap_u64]; omega) ⟨⟨by omega, by rw [size_bytesOf]; omega⟩, Bd_e (byteAt_bytesOf hl hil) <| Bd_e (y := ((l[i] : Nat) : Int)) (by rw [IntKind.wrap_u64]; omega) <| Bd_e (xor64 _ _ (Nat.mod_lt _ (by omega)) hx) <| Bd_e (y := ((s ^^^ l[i] : Nat) : Int)) ?_ ?_⟩
    · rw [← hxl]
      generalize s % 256 ^^^ l[i] = m at *
      rw [IntKind.wrap_u64]; omega
    · clear hxl hx2
      have hF : sumF s (l[i] :: l.drop (i + 1)) = sumF ((s ^^^ l[i]) * 16777619 % 4294967296) (l.drop (i + 1)) := rfl
      rw [hF] at he
      generalize s ^^^ l[i] = m at *
      exact Bd_e (y := ((m * 16777619 : Nat) : Int)) (by rw [IntKind.wrap_u64]; omega) <| Bd_e (y := ((m * 16777619 % 4294967296 : Nat) : Int)) (by rw [Int.tmod_eq_emod_of_nonneg (by omega)]; omega) <| Bd_e (inc_i64 (by omega)) ⟨l.length - (i + 1), by omega, i + 1, _, rfl, rfl, by omega, Nat.mod_lt _ (by omega), he, rfl⟩
  · have hil : i = l.length := by
      have : ¬ (i : Int) < (l.length : Int) := by rw [hb8] at hb; exact of_decide_eq_false hb
      omega
    subst hil
    rw [List.drop_of_length_le (Nat.le_refl _)] at he
    rw [← he]
    exact ⟨rfl, Md.refl _ _⟩
theorem f228_ok (n k : Nat) (hn : n < 4294967296) (hk : k ≤ 4) (w : World) : Ct Try.prog 228 #[.int .u64 n, .int .i64 k] w fun v w' => v = .string (bytesOf (be n k)) ∧ Md [] w w' := by
  apply f228_in
  refine LoopP_in (fun mm us vs w' => ∃ (j : Nat), us = [.string (bytesOf (be n j)), .int .u64 (n / 256 ^ j : Nat), .int .i64 j] ∧ mm = k - j ∧ j ≤ k ∧ Md [] w w') k
    ⟨0, by simp [be]; rfl, rfl, by omega, Md.refl _ _⟩ ?_
  rintro mm us vs w4 ⟨j, rfl, hmm, hj, m4⟩
  refine opStr_in <| opI_in <| opI_in <| Bd_in fun b8 hb8 => If_in (fun hb => ?_) fun hb => ?_
  · have hjk : j < k := by rw [hb8] at hb; have := of_decide_eq_true hb; omega
    have hq : n / 256 ^ j < 4294967296 := Nat.lt_of_le_of_lt (Nat.div_le_self _ _) hn
    have e2 : n / 256 ^ (j + 1) = n / 256 ^ j / 256 := by rw [Nat.pow_succ, Nat.div_div_eq_div_mul]
    have e1 : be n (j + 1) = [n / 256 ^ j % 256] ++ be n j := rfl
    generalize n / 256 ^ j = m at *
    refine Bd_e (y := ((m % 256 : Nat) : Int)) (by rw [Int.tmod_eq_emod_of_nonneg (by omega)]; omega) <| Bd_e (y := ((m % 256 : Nat) : Int)) (by rw [IntKind.wrap_u8]; omega) <| Nw_i ?_
    have ma := Md.alloc (M := []) w4 (.cells #[Value.int .u8 ((m % 256 : Nat) : Int)] 5)
    have oH := OwnL.lit (P := Try.prog) (base := 0) encb1 w4 5 [m % 256] #[Value.int .u8 ((m % 256 : Nat) : Int)] (by omega) (by simp [maxLen]) rfl
    refine RunW_in0 (str_own oH (by simp; omega) _) <| opStr_in <| in_cat (by simp) (by rw [be_len]; omega) ?_
    rw [← e1]
    exact Bd_e (y := ((n / 256 ^ (j + 1) : Nat) : Int)) (by rw [e2, Int.tdiv_eq_ediv_of_nonneg (by omega), IntKind.wrap_u64]; omega) <| Bd_e (inc_i64 (by omega)) ⟨k - (j + 1), by omega, j + 1, rfl, rfl, by omega, m4.trans ma⟩
  · have hjk : j = k := by
      have : ¬ (j : Int) < (k : Int) := by rw [hb8] at hb; exact of_decide_eq_false hb
      omega
    subst hjk
    exact ⟨rfl, m4⟩
theorem f208_ok (l : List Nat) (hl : ∀ x ∈ l, x < 256) (hn : l.length ≤ 4) (w : World) : Ct Try.prog 208 #[.string (bytesOf l)] w fun v w' => v = .int .u64 (num l) ∧ Md [] w w' := by
  apply f208_in
  refine LoopP_in (fun mm us vs w' => ∃ (i s : Nat), us = [.int .u64 s, .int .i64 i] ∧ mm = l.length - i ∧ i ≤ l.length ∧ s < 256 ^ i ∧ numF s (l.drop i) = num l ∧ w' = w) l.length
    ⟨0, 0, rfl, rfl, by omega, by omega, rfl, rfl⟩ ?_
  rintro mm us vs w5 ⟨i, s, rfl, hmm, hi, hs, he, rfl⟩
  refine opI_in <| opI_in <| Bd_e (y := (l.length : Int)) (by rw [size_bytesOf]) <| Bd_in fun b8 hb8 => If_in (fun hb => ?_) fun hb => ?_
  · have hil : i < l.length := by rw [hb8] at hb; have : (i : Int) < (l.length : Int) := of_decide_eq_true hb
                                  omega
    have hx := hl _ (List.getElem_mem hil)
    have hs2 : s < 2 ^ 24 := by
      have : 256 ^ i ≤ 256 ^ 3 := Nat.pow_le_pow_right (by omega) (by omega)
      omega
    rw [List.drop_eq_getElem_cons hil] at he
    refine Bd_e (y := ((256 * s : Nat) : Int)) (by rw [IntKind.wrap_u64]; omega) ⟨⟨by omega, by rw [size_bytesOf]; omega⟩, Bd_e (byteAt_bytesOf hl hil) <| Bd_e (y := ((l[i] : Nat) : Int)) (by rw [IntKind.wrap_u64]; omega) <| Bd_e (y := ((s * 256 + l[i] : Nat) : Int)) (by rw [IntKind.wrap_u64]; omega) <| Bd_e (inc_i64 (by omega)) ⟨l.length - (i + 1), by omega, i + 1, _, rfl, rfl, by omega, ?_, he, rfl⟩⟩
    rw [Nat.pow_succ]
    have : (s + 1) * 256 ≤ 256 ^ i * 256 := Nat.mul_le_mul_right _ hs
    omega
  · have hil : i = l.length := by
      have : ¬ (i : Int) < (l.length : Int) := by rw [hb8] at hb; exact of_decide_eq_false hb
      omega
    subst hil
    rw [List.drop_of_length_le (Nat.le_refl _)] at he
    rw [← he]
    exact ⟨rfl, Md.refl _ _⟩
/-- A record's bytes, without its mark. -/
def tailF (r : List Nat) : List Nat := bodyB r ++ be (sumL (bodyB r)) 4
theorem frm_tail (m : Nat) (r : List Nat) : frm m r = m :: tailF r := rfl
theorem tailF_len (r : List Nat) : (tailF r).length = r.length + 7 := by have := frm_len 0 r; rw [frm_tail] at this; simp at this; omega
theorem bodyB_len (r : List Nat) : (bodyB r).length = r.length + 3 := by unfold bodyB; rw [List.length_append, be_len]; omega
theorem bodyB_lt (r : List Nat) (hr : ∀ x ∈ r, x < 256) : ∀ x ∈ bodyB r, x < 256 := fun x hx => by
  rcases List.mem_append.1 hx with h | h
  · exact be_lt _ _ x h
  · exact hr x h
theorem f209_ok (r : List Nat) (hr : ∀ x ∈ r, x < 256) (hl : r.length ≤ 2 ^ 21) (w : World) : Ct Try.prog 209 #[.string (bytesOf r)] w fun v w' => v = .string (bytesOf (tailF r)) ∧ Md [] w w' := by
  apply f209_in
  refine Bd_e (y := (r.length : Int)) (by rw [size_bytesOf]) <| Bd_e (y := (r.length : Int)) (by rw [IntKind.wrap_u64]; omega) <| (f228_ok r.length 3 (by omega) (by omega) w).call (by simp) ?_
  rintro v w4 rfl m4
  refine opStr_in <| in_cat (by rw [be_len]; omega) (by omega) ?_
  have hb := bodyB_len r
  refine (f139_ok (bodyB r) (bodyB_lt r hr) (by omega) w4).call (by simp) ?_
  rintro v w10 rfl m10
  refine opI_in <| (f228_ok (sumL (bodyB r)) 4 (sumL_lt _) (by omega) w10).call (by simp) ?_
  rintro v w13 rfl m13
  exact opStr_in <| in_cat (a := bodyB r) (by omega) (by rw [be_len]; omega) ⟨rfl, (m4.trans m10).trans m13⟩
theorem f212_ok (x : Rf) (p : RfS) (h1 : 1 ≤ x.sf.length) (h2 : x.sf.length ≤ 65536) (w : World) : Ct Try.prog 212 #[x.v p] w fun v w' => v = .int .i64 ((x.sf.length - 1) / 2 : Nat) ∧ Md [] w w' := by
  apply f212_in
  intro n1 hn1
  exact Bd_e rfl <| Bd_e (y := ((x.sf.length - 1 : Nat) : Int)) (by rw [IntKind.wrap_i64]; omega) <| Bd_e (y := (((x.sf.length - 1) / 2 : Nat) : Int)) (by rw [Int.tdiv_eq_ediv_of_nonneg (by omega), IntKind.wrap_i64]; omega) fun w5 m5 _ => ⟨rfl, m5⟩
theorem in212 {L : List Nat} {x : Rf} {p : RfS} (h1 : 1 ≤ x.sf.length) (h2 : x.sf.length ≤ 65536) {w : World} (hL : ∀ b ∈ L, b < w.heap.size) {K : Int → World → Prop} (k : ∀ w', Md [] w w' → K ((x.sf.length - 1) / 2 : Nat) w') :
    CallW Try.prog L 212 #[x.v p] (fun v w' => opI .i64 v fun y => K y w') w := by
  refine (f212_ok x p h1 h2 w).call hL ?_
  rintro v w' rfl h'
  exact opI_in (k w' h')
theorem f210_ok (x : Rf) (p : RfS) (h1 : 1 ≤ x.sf.length) (h2 : x.sf.length ≤ 65536) (w : World) : Ct Try.prog 210 #[x.v p] w fun v w' => v = .int .i64 (((x.sf.length - 1) / 2 * 64 : Nat) : Int) ∧ Md [] w w' := by
  apply f210_in
  intro n1 hn1 w2 m2 hl2
  exact in212 h1 h2 hl2 fun w4 m4 => Bd_e (y := (((x.sf.length - 1) / 2 * 64 : Nat) : Int)) (by rw [IntKind.wrap_i64]; omega) ⟨rfl, m2.trans m4⟩
theorem in210 {L : List Nat} {x : Rf} {p : RfS} (h1 : 1 ≤ x.sf.length) (h2 : x.sf.length ≤ 65536) {w : World} (hL : ∀ b ∈ L, b < w.heap.size) {K : Int → World → Prop} (k : ∀ w', Md [] w w' → K (((x.sf.length - 1) / 2 * 64 : Nat) : Int) w') :
    CallW Try.prog L 210 #[x.v p] (fun v w' => opI .i64 v fun y => K y w') w := by
  refine (f210_ok x p h1 h2 w).call hL ?_
  rintro v w' rfl h'
  exact opI_in (k w' h')
theorem in120 {L : List Nat} {x : Rf} {p : RfS} {base N : Nat} {d : Dk} {w : World} (h : RfAt w base x p) (hd : RelD N d x) {i : Nat} (hi : i < N) (hL : ∀ b ∈ L, b < w.heap.size) {K : ByteArray → World → Prop} (k : ∀ w', Md [] w w' → RfAt w' base x p → K (bytesOf (getB d.bl i).1) w') :
    CallW Try.prog L 120 #[x.v p, .int .i64 i] (fun v w' => opStr v fun y => K y w') w := by
  refine (f120_ok x p base w h i (by rw [hd.slen]; exact hi)).call hL ?_
  rintro v w' rfl h'
  rw [hd.has hi]
  exact opStr_in (k w' h' (h.md h'))
theorem RelD.hf {N : Nat} {d : Dk} {x : Rf} (h : RelD N d x) : (x.sf.length - 1) / 2 = half d := by unfold half; rw [h.slen, h.fro.len]
theorem f207_ok (x : Rf) (p : RfS) (base N : Nat) (d : Dk) (w : World) (h : RfAt w base x p) (hd : RelD N d x) (h1 : 1 ≤ N) (h2 : N ≤ 65536) (a : Nat) (ha : a ≤ 1) : Ct Try.prog 207 #[x.v p, .int .i64 a] w fun v w' => v = .string (bytesOf (areaL d a)) ∧ Md [] w w' := by
  have hs := hd.slen
  have hl := hd.fro.len
  have hh := hd.hf
  have hhl : half d ≤ 32767 := half_le (by omega)
  have hh2 := half2 d (by omega)
  have hm1 : a * half d ≤ 1 * half d := Nat.mul_le_mul_right _ ha
  apply f207_in
  intro n1 hn1 w2 m2 hl2
  refine LoopP_in (fun mm us vs w' => ∃ k : Nat, us = [.string (bytesOf (bytesB ((d.bl.drop (1 + a * half d)).take k))), .int .i64 k] ∧ mm = half d - k ∧ k ≤ half d ∧ Md [] w w' ∧ n1 < w'.heap.size) (half d)
    ⟨0, rfl, rfl, by omega, m2, hl2 n1 (by simp)⟩ ?_
  rintro mm us vs w6 ⟨k, rfl, hmm, hk, m6, hl6⟩
  refine opStr_in <| opI_in <| in212 (by omega) (by omega) (by simpa using hl6) fun w10 m10 => Bd_in fun b12 hb12 => If_in (fun hb => ?_) fun hb => ?_
  · have hkh : k < half d := by rw [hb12, hh] at hb; have := of_decide_eq_true hb; omega
    have hl10 : n1 < w10.heap.size := Nat.lt_of_lt_of_le hl6 m10.size
    have hbk := jbk_lt (d := d) (k := k) (by omega) ha hkh
    have m10d := (m6.trans m10).trans (Md_drew w10)
    refine ⟨fun _ => True, trivial, in212 (by omega) (by omega) (by simpa using hl10) fun w15 m15 => ⟨trivial, ?_⟩⟩
    rw [hh]
    have m15' := m10d.trans m15
    refine Bd_e (y := ((a * half d : Nat) : Int)) (by rw [IntKind.wrap_i64, ← Int.natCast_mul]; generalize a * half d = m at *; omega) <| Bd_e (y := ((1 + a * half d : Nat) : Int)) (by rw [IntKind.wrap_i64]; generalize a * half d = m at *; omega) <| Bd_e (y := (jbk d a k : Int)) (by rw [IntKind.wrap_i64]; unfold jbk; generalize a * half d = m at *; omega) <| in120 (h.md m15') hd (by omega) (by simpa using Nat.lt_of_lt_of_le hl10 m15.size) fun w21 m21 h21 => ⟨trivial, ?_⟩
    have hkl : k < (d.bl.drop (1 + a * half d)).length := by
      rw [List.length_drop]; generalize a * half d = m at *; omega
    have hlen : (bytesB ((d.bl.drop (1 + a * half d)).take k)).length = k * 64 := by rw [bytesB_len, List.length_take, Nat.min_eq_left (by omega)]
    have hg : (getB d.bl (jbk d a k)).1 = ((d.bl.drop (1 + a * half d))[k]).1 := by
      rw [getB_eq hbk]; simp only [List.getElem_drop]; rfl
    refine ⟨.string (bytesOf (bytesB ((d.bl.drop (1 + a * half d)).take k) ++ (getB d.bl (jbk d a k)).1)), fun w' _ => ⟨run_cat w' _ _ _ _ (by rw [hlen]; omega) (by rw [(getB d.bl (jbk d a k)).2.1]; omega)⟩, opStr_in ?_⟩
    rw [hg, ← bytesB_take hkl]
    exact Bd_e (inc_i64 (by omega)) ⟨half d - (k + 1), by omega, k + 1, rfl, rfl, by omega, m15'.trans m21, Nat.lt_of_lt_of_le hl10 (Nat.le_trans m15.size m21.size)⟩
  · have hkh : k = half d := by
      have : ¬ (k : Int) < (((x.sf.length - 1) / 2 : Nat) : Int) := by rw [hb12] at hb; exact of_decide_eq_false hb
      omega
    subst hkh
    exact ⟨rfl, m6.trans m10⟩
def Lg.rv (x : Rf) (p : RfS) (g : Lg) : Value := .agg #[.slice p.a x.sf.length p.c, .slice p.b x.pe.length p.e, .int .i64 x.rf, .int .i64 g.area, .int .i64 g.pos, .bool g.ov]
theorem f143_ok (x : Rf) (p : RfS) (g : Lg) (N : Nat) (d : Dk) (hd : RelD N d x) (h1 : 1 ≤ N) (h2 : N ≤ 65536) (hp : g.pos ≤ jsz d) (w : World) : Ct Try.prog 143 #[g.rv x p] w fun v w' => v = .int .i64 (roomD d g) ∧ Md [] w w' := by
  have hs := hd.slen
  have hh := hd.hf
  have hhl : half d ≤ 32767 := half_le (by rw [hd.fro.len]; exact h2)
  have hj : jsz d = half d * 64 := rfl
  apply f143_in
  intro n1 hn1 w2 m2 hl2
  refine ⟨fun _ => True, trivial, in210 (by omega) (by omega) (by simpa using hl2) fun w5 m5 => ⟨trivial, ?_⟩⟩
  rw [hh]
  have mm : Md [] w w5 := (m2.trans (Md_drew w2)).trans m5
  refine Bd_e (y := (jsz d : Int) - g.pos) (by rw [IntKind.wrap_i64]; omega) <| Bd_e (y := (jsz d : Int) - g.pos - 8) (by rw [IntKind.wrap_i64]; omega) <| Bd_in fun b9 hb9 => Bd_in fun b10 hb10 => If_in (fun hb => ?_) fun hb => ?_
  · refine ⟨?_, mm⟩
    unfold roomD
    by_cases ho : g.ov = true
    · rw [if_pos ho]
    · rw [if_neg ho]
      have : (jsz d : Int) - g.pos - 8 < 0 := by
        rw [hb10, hb9] at hb
        simp [ho] at hb
        omega
      congr 1; omega
  · have hno : g.ov = false ∧ ¬ (jsz d : Int) - g.pos - 8 < 0 := by
      rw [hb10, hb9] at hb
      cases ho : g.ov
      · rw [ho] at hb; exact ⟨rfl, of_decide_eq_false hb⟩
      · rw [ho] at hb; cases hb
    have er : roomD d g = min ((jsz d : Int) - g.pos - 8) 1048576 := by unfold roomD; rw [if_neg (by simp [hno.1])]; omega
    rw [er]
    refine Bd_in fun b11 hb11 => If_in (fun hb2 => ?_) fun hb2 => ?_
    · have : (jsz d : Int) - g.pos - 8 > 1048576 := by rw [hb11] at hb2; exact of_decide_eq_true hb2
      exact ⟨by congr 1; omega, mm⟩
    · have : ¬ (jsz d : Int) - g.pos - 8 > 1048576 := by rw [hb11] at hb2; exact of_decide_eq_false hb2
      exact ⟨by congr 1; omega, mm⟩
end Fk
set_option linter.unusedVariables false
set_option linter.unusedSimpArgs false
set_option maxRecDepth 100000
set_option maxHeartbeats 4000000
namespace Fk
open Go Go.Proofs Go.RowKit
theorem conv_str51 (w : World) (l : List Nat) (hl : ∀ x ∈ l, x < 256) : ∃ c w', (convert 9 51 (.string (bytesOf l))).run Try.prog w = .ok (.slice (some ⟨w.heap.size, 0, none⟩) l.length c) w' ∧ RowAt w' (some ⟨w.heap.size, 0, none⟩) 1 b1 l ∧ Md [] w w' := by
  have hr := Go.Lib.run_convert_string_bytes (P := Try.prog) w 9 51 5 (bytesOf l) (u := .string) (by kernel_rfl) (by kernel_rfl) (by kernel_rfl)
  rw [size_bytesOf] at hr
  refine ⟨_, _, hr, fun i x hx => ⟨_, rfl, fun j u hu => ?_⟩, ⟨rfl, rfl, rfl, by rw [Go.Lib.bytesWorld_size]; omega, fun k hk _ => Go.Lib.bytesWorld_at_old w 5 _ k hk⟩⟩
  have hil := (List.getElem?_eq_some_iff.1 hx).1
  have hj : j < 1 := by have := (List.getElem?_eq_some_iff.1 hu).1; rwa [encb1.len x] at this
  have hj0 : j = 0 := by omega
  subst hj0
  rw [addr_add0, ad0, Nat.mul_one, Go.Lib.bytesWorld_cell w 5 _ i (by rw [size_bytesOf]; exact hil)]
  have hx256 := hl x (List.mem_of_getElem? hx)
  have hu' : u = .int .u8 (x : Int) := by simpa [b1] using hu.symm
  rw [hu']
  congr 2
  simp only [bytesOf, List.getD_eq_getElem?_getD, List.getElem?_map, hx, Option.map_some, Option.getD_some]
  rw [UInt8.toNat_ofNat']
  omega
theorem NewS.tr {w w' : World} {p p1 p2 : RfS} (h1 : NewS w p p1) (h2 : NewS w' p1 p2) (hs : w.heap.size ≤ w'.heap.size) : NewS w p p2 :=
  ⟨fun A hA => by
    rcases h2.1 A hA with h | h
    · exact h1.1 A h
    · exact .inr (Nat.le_trans hs h), fun A hA => by
    rcases h2.2 A hA with h | h
    · exact h1.2 A h
    · exact .inr (Nat.le_trans hs h)⟩
/-- A disk of the reference, apart from the registers. -/
structure RS (L : List Nat) (base : Nat) (w0 w : World) (p0 : RfS) (x : Rf) (p : RfS) : Prop where
  r : RfAt w base x p
  bs : base ≤ w0.heap.size
  md : Md [] w0 w
  lt : ∀ b ∈ L, b < w.heap.size
  lo : ∀ b ∈ L, w0.heap.size ≤ b
  a : ∀ b ∈ L, ∀ A, p.a = some A → A.block ≠ b
  b : ∀ b ∈ L, ∀ A, p.b = some A → A.block ≠ b
  nw : NewS w0 p0 p
section
variable {L : List Nat} {base : Nat} {w0 w : World} {p0 : RfS} {x : Rf} {p : RfS}
theorem RS.start (h : RfAt w base x p) (hb : base ≤ w.heap.size) : RS [] base w w p x p := ⟨h, hb, Md.refl _ _, by simp, by simp, by simp, by simp, NewS.refl _ _⟩
theorem RS.md0 {w' : World} (h : RS L base w0 w p0 x p) (hm : Md [] w w') : RS L base w0 w' p0 x p := ⟨h.r.md hm, h.bs, h.md.trans hm, fun b hb => Nat.lt_of_lt_of_le (h.lt b hb) hm.size, h.lo, h.a, h.b, h.nw⟩
theorem RfAt.mdD {w' : World} {D : List Nat} (h : RfAt w base x p) (hm : Md D w w') (ha : ∀ b ∈ D, ∀ A, p.a = some A → A.block ≠ b) (hb : ∀ b ∈ D, ∀ A, p.b = some A → A.block ≠ b) : RfAt w' base x p :=
  ⟨h.sf.mdD hm fun A hA hd => ha _ hd A hA rfl, h.pe.mdD hm fun A hA hd => hb _ hd A hA rfl, h.rf, h.sl, h.pl⟩
theorem RS.up {w' : World} {D : List Nat} (h : RS L base w0 w p0 x p) (hm : Md D w w') (hD : ∀ b ∈ D, b ∈ L) : RS L base w0 w' p0 x p :=
  ⟨h.r.mdD hm (fun b hb => h.a b (hD b hb)) (fun b hb => h.b b (hD b hb)), h.bs, h.md.old hm (fun b hb => h.lo b (hD b hb)), fun b hb => Nat.lt_of_lt_of_le (h.lt b hb) hm.size, h.lo, h.a, h.b, h.nw⟩
theorem RS.rg {w' : World} {n : Nat} {D : List Nat} (h : RS L base w0 w p0 x p) (hn : w.heap.size ≤ n) (hm : Md D w w') (hD : ∀ b ∈ D, b = n ∨ b ∈ L) (hl : ∀ b ∈ n :: L, b < w'.heap.size) : RS (n :: L) base w0 w' p0 x p := by
  have h1 : ∀ A, p.a = some A → A.block ≠ n := fun A hA => by have := (h.r.sf.lt hA).2; omega
  have h2 : ∀ A, p.b = some A → A.block ≠ n := fun A hA => by have := (h.r.pe.lt hA).2; omega
  have h3 : w0.heap.size ≤ n := Nat.le_trans h.md.size hn
  refine ⟨h.r.mdD hm (fun b hb A hA => ?_) (fun b hb A hA => ?_), h.bs, h.md.old hm (fun b hb => ?_), hl, fun b hb => ?_, fun b hb A hA => ?_, fun b hb A hA => ?_, h.nw⟩
  · rcases hD b hb with rfl | hb
    · exact h1 A hA
    · exact h.a b hb A hA
  · rcases hD b hb with rfl | hb
    · exact h2 A hA
    · exact h.b b hb A hA
  · rcases hD b hb with rfl | hb
    · exact h3
    · exact h.lo b hb
  · rcases List.mem_cons.1 hb with rfl | hb
    · exact h3
    · exact h.lo b hb
  · rcases List.mem_cons.1 hb with rfl | hb
    · exact h1 A hA
    · exact h.a b hb A hA
  · rcases List.mem_cons.1 hb with rfl | hb
    · exact h2 A hA
    · exact h.b b hb A hA
theorem RS.ref {w' : World} {x' : Rf} {p' : RfS} (h : RS L base w0 w p0 x p) (hm : Md [] w w') (r : RfAt w' base x' p') (hn : NewS w p p') : RS L base w0 w' p0 x' p' :=
  ⟨r, h.bs, h.md.trans hm, fun b hb => Nat.lt_of_lt_of_le (h.lt b hb) hm.size, h.lo, fun b hb A hA e => by
    rcases hn.1 A hA with h1 | h1
    · exact h.a b hb A h1 e
    · have := h.lt b hb; omega, fun b hb A hA e => by
    rcases hn.2 A hA with h1 | h1
    · exact h.b b hb A h1 e
    · have := h.lt b hb; omega, h.nw.tr hn h.md.size⟩
theorem RS.sub {L' : List Nat} (h : RS L base w0 w p0 x p) (hL : ∀ b ∈ L', b ∈ L) : RS L' base w0 w p0 x p := ⟨h.r, h.bs, h.md, fun b hb => h.lt b (hL b hb), fun b hb => h.lo b (hL b hb), fun b hb => h.a b (hL b hb), fun b hb => h.b b (hL b hb), h.nw⟩
theorem RS.w115 (h : RS L base w0 w p0 x p) {N : Nat} {d : Dk} (hd : RelD N d x) (hpl : d.pd.length < 2 ^ 28) (i : Nat) {b : List Nat} {A : Option Addr} {C m : Nat} (hm : m = b.length) (hr : RowAt w A 1 b1 b) (hbl : ∀ z ∈ b, z < 256) (hb2 : b.length < 2 ^ 30) {K : Option Addr → Nat → Nat → Option Addr → Nat → Nat → Int → Int → World → Prop}
    (k : ∀ x' p' w', RS L base w0 w' p0 x' p' → RelD N (d.write i b).1 x' → Md [] w w' → K p'.a x'.sf.length p'.c p'.b x'.pe.length p'.e x'.rf (d.write i b).2 w') :
    CallW Try.prog L 115 #[x.v p, .int .i64 i, .slice A m C] (fun v w' => opTu v fun cs => opAg (nthD (Array.toList cs) 0) fun cs1 => opL (nthD (Array.toList cs1) 0) fun a1 n1 c1 => opL (nthD (Array.toList cs1) 1) fun a2 n2 c2 => opI .i64 (nthD (Array.toList cs1) 2) fun y => SzIs (Array.size cs1) 3 (opI .i64 (nthD (Array.toList cs) 1) fun e => SzIs (Array.size cs) 2 (K a1 n1 c1 a2 n2 c2 y e w'))) w := by
  subst hm
  obtain ⟨q1, q2⟩ := hd.write i b hbl
  refine (f115_ok x p base w h.r (Nat.le_trans h.bs h.md.size) i A C b hr hbl hb2 (by rw [hd.plen]; exact hpl)).call h.lt ?_
  rintro v w' ⟨p', rfl, r', hn⟩ h'
  rw [q2] at k
  exact opTu_in <| opAg_in <| opL_in <| opL_in <| opI_in <| SzIs_in rfl <| opI_in <| SzIs_in rfl (k _ p' w' (h.ref h' r' hn) q1 h')
theorem RS.w116 (h : RS L base w0 w p0 x p) {N : Nat} {d : Dk} (hd : RelD N d x) {K : Option Addr → Nat → Nat → Option Addr → Nat → Nat → Int → Int → World → Prop}
    (k : ∀ x' p' w', RS L base w0 w' p0 x' p' → RelD N d.flush.1 x' → Md [] w w' → K p'.a x'.sf.length p'.c p'.b x'.pe.length p'.e x'.rf d.flush.2 w') :
    CallW Try.prog L 116 #[x.v p] (fun v w' => opTu v fun cs => opAg (nthD (Array.toList cs) 0) fun cs1 => opL (nthD (Array.toList cs1) 0) fun a1 n1 c1 => opL (nthD (Array.toList cs1) 1) fun a2 n2 c2 => opI .i64 (nthD (Array.toList cs1) 2) fun y => SzIs (Array.size cs1) 3 (opI .i64 (nthD (Array.toList cs) 1) fun e => SzIs (Array.size cs) 2 (K a1 n1 c1 a2 n2 c2 y e w'))) w := by
  obtain ⟨q1, q2⟩ := hd.flush
  refine (f116_ok x p base w h.r (Nat.le_trans h.bs h.md.size) hd.hin).call h.lt ?_
  rintro v w' ⟨p', rfl, r', hn⟩ h'
  rw [q2] at k
  exact opTu_in <| opAg_in <| opL_in <| opL_in <| opI_in <| SzIs_in rfl <| opI_in <| SzIs_in rfl (k _ p' w' (h.ref h' r' hn) q1 h')
end
/-- What a call of the reference leaves of its disk. -/
def RfOut (N : Nat) (w w' : World) (base : Nat) (d' : Dk) (p : RfS) (x' : Rf) (p' : RfS) : Prop := RfAt w' base x' p' ∧ RelD N d' x' ∧ NewS w p p'
theorem f213_ok (x : Rf) (p : RfS) (base N : Nat) (d : Dk) (w : World) (hb : base ≤ w.heap.size) (h : RfAt w base x p) (hd : RelD N d x) (hpl : d.pd.length < 2 ^ 28) (i : Nat) (b : List Nat) (hbl : ∀ z ∈ b, z < 256) (hb2 : b.length < 2 ^ 30) :
    Ct Try.prog 213 #[x.v p, .int .i64 i, .string (bytesOf b)] w fun v w' => (∃ x' p', v = .tuple #[x'.v p', .bool (oneD d i b).2] ∧ RfOut N w w' base (oneD d i b).1 p x' p') ∧ Md [] w w' := by
  apply f213_in
  intro n1 hn1 n2 hn2 w3 m3 hl3
  have S0 : RS [n2, n1] base w w3 p x p := ⟨h.md m3, hb, m3, hl3, by simp; exact ⟨hn2, hn1⟩, fun b hb A hA => by
    have := (h.sf.lt hA).2; simp at hb; rcases hb with rfl | rfl <;> omega, fun b hb A hA => by
    have := (h.pe.lt hA).2; simp at hb; rcases hb with rfl | rfl <;> omega, NewS.refl _ _⟩
  obtain ⟨cc, w5, hr5, r5, m5⟩ := conv_str51 w3 b hbl
  refine RunW_in hr5 (Kept_md m5 S0.lt) <| opL_in <| (S0.md0 m5).w115 hd hpl i rfl r5 hbl hb2 fun x1 p1 w10 S10 d10 m10 n21 hn21 => Bd_in fun b22 hb22 => If_in (fun hc => ?_) fun hc => ?_
  · have hne : ¬ (d.write i b).2 = 0 := by rw [hb22] at hc; simpa using hc
    intro w23 m23 hl23
    have S23 := S10.rg hn21 m23 (by simp) hl23
    have e : oneD d i b = ((d.write i b).1, false) := by unfold oneD; rw [if_neg hne]
    rw [e]
    exact ⟨⟨x1, p1, rfl, S23.r, d10, S23.nw⟩, S23.md⟩
  · have heq : (d.write i b).2 = 0 := by rw [hb22] at hc; simpa using hc
    intro w24 m24 hl24
    have S24 := S10.rg hn21 m24 (by simp) hl24
    have e : oneD d i b = ((d.write i b).1.flush.1, (d.write i b).1.flush.2 == 0) := by unfold oneD; rw [if_pos heq]
    rw [e]
    refine S24.w116 d10 fun x2 p2 w26 S26 d26 m26 => Bd_e rfl fun w38 m38 hl38 => ?_
    have S38 := S26.up m38 (by simp)
    exact ⟨⟨x2, p2, rfl, S38.r, d26, S38.nw⟩, S38.md⟩
end Fk
set_option linter.unusedVariables false
set_option linter.unusedSimpArgs false
set_option maxRecDepth 100000
set_option maxHeartbeats 8000000
namespace Fk
open Go Go.Proofs Go.RowKit
theorem bytesOf_take (l : List Nat) (n : Nat) : (bytesOf l).extract 0 n = bytesOf (l.take n) := by rw [bytesOf_ext]; simp
theorem zeros_str {w : World} {base m c : Nat} {a : Option Addr} (h : OwnL w base 5 1 b1 a c (List.replicate m 0)) (c' : Nat) : (convert 51 9 (.slice a m c')).run Try.prog w = .ok (.string (bytesOf (List.replicate m 0))) w := by
  have := str_own h (fun x hx => by have := List.eq_of_mem_replicate hx; omega) c'
  rwa [List.length_replicate] at this
theorem f211_ok (x : Rf) (p : RfS) (base N : Nat) (d : Dk) (w : World) (hb : base ≤ w.heap.size) (h : RfAt w base x p) (hd : RelD N d x) (h1 : 1 ≤ N) (h2 : N ≤ 65536) (hpl : d.pd.length < 2 ^ 27) (a pos : Nat) (ha : a ≤ 1) (b : List Nat) (hbl : ∀ z ∈ b, z < 256) (hp : pos + b.length ≤ jsz d) :
    Ct Try.prog 211 #[x.v p, .int .i64 a, .int .i64 pos, .string (bytesOf b)] w fun v w' => (∃ x' p', v = .tuple #[x'.v p', .bool (layD d a pos b).2] ∧ RfOut N w w' base (layD d a pos b).1 p x' p') ∧ Md [] w w' := by
  have hlen := hd.fro.len
  have hhl : half d ≤ 32767 := half_le (by omega)
  have hjz : jsz d = half d * 64 := rfl
  have hd1 : 1 ≤ d.bl.length := by omega
  have hh2 := half2 d hd1
  have hm1 : a * half d ≤ 1 * half d := Nat.mul_le_mul_right _ ha
  obtain ⟨K, hSl, hKh, hpK, hKi⟩ := layS_len (d := d) hd1 ha hp
  have hal := areaL_len hd1 ha
  have hSb := layS_lt (d := d) (area := a) (p := pos) hbl
  have hLd : layD d a pos b = layL a (layS d a pos b) (K - pos / 64) (pos / 64) d := by unfold layD; rw [hSl, Nat.mul_div_cancel _ (by omega)]
  have htk : ((areaL d a).take pos).length = pos := by rw [List.length_take, hal]; omega
  apply f211_in
  intro n1 hn1 n2 hn2 w3 m3 hl3
  have S3 : RS [n2, n1] base w w3 p x p := ⟨h.md m3, hb, m3, hl3, by simp; exact ⟨hn2, hn1⟩, fun b hb A hA => by
    have := (h.sf.lt hA).2; simp at hb; rcases hb with rfl | rfl <;> omega, fun b hb A hA => by
    have := (h.pe.lt hA).2; simp at hb; rcases hb with rfl | rfl <;> omega, NewS.refl _ _⟩
  refine (f207_ok x p base N d w3 S3.r hd h1 h2 a ha).call S3.lt ?_
  rintro v w5 rfl m5
  refine opStr_in <| RunW_in0 (cutB_h w5 _ pos (by rw [size_bytesOf, hal]; omega)) <| opStr_in ?_
  rw [bytesOf_take]
  refine in_cat (by rw [htk]; omega) (by omega) ?_
  refine Jn_in (fun us vs w' => us = [.string (bytesOf ((areaL d a).take pos ++ zEnd d pos b))] ∧ Md [] w5 w') ?_ ?_
  case refine_2 =>
    refine Bd_e (y := ((pos + b.length : Nat) : Int)) (by rw [size_bytesOf, List.length_append, htk]) <| in210 (by rw [hd.slen]; exact h1) (by rw [hd.slen]; exact h2) (S3.md0 m5).lt fun w288 m288 => ?_
    rw [hd.hf]
    refine Bd_in fun b290 hb290 => If_in (fun hc => ?_) fun hc => ?_
    · have hlt : pos + b.length < jsz d := by rw [hb290] at hc; have := of_decide_eq_true hc; omega
      have e : zEnd d pos b = b ++ [0] := by unfold zEnd; rw [if_pos hlt]
      have e0 : ByteArray.mk #[0] = bytesOf [0] := rfl
      rw [e0]
      refine in_cat (by rw [List.length_append, htk]; omega) (by simp) ⟨?_, m288⟩
      rw [e, List.append_assoc]
    · have hge : ¬ pos + b.length < jsz d := by rw [hb290] at hc; have := of_decide_eq_false hc; omega
      have e : zEnd d pos b = b := by unfold zEnd; rw [if_neg hge]
      rw [e]
      exact ⟨rfl, m288⟩
  rintro us vs w15 ⟨rfl, m15⟩
  have hzl := zEnd_len hp
  have S15 := (S3.md0 m5).md0 m15
  have hs0 : ((areaL d a).take pos ++ zEnd d pos b).length = pos + (zEnd d pos b).length := by rw [List.length_append, htk]
  generalize hq0 : (areaL d a).take pos ++ zEnd d pos b = q0 at *
  have eS : layS d a pos b = q0 ++ List.replicate ((64 - q0.length % 64) % 64) 0 := by unfold layS padZ; rw [hq0]
  have hml : (64 - q0.length % 64) % 64 < 64 := Nat.mod_lt _ (by omega)
  refine opStr_in <| Bd_e (y := (q0.length : Int)) (by rw [size_bytesOf]) <| Bd_e (y := ((q0.length % 64 : Nat) : Int)) (by rw [Int.tmod_eq_emod_of_nonneg (by omega)]; omega) <| Bd_e (y := ((64 - q0.length % 64 : Nat) : Int)) (by rw [IntKind.wrap_i64]; omega) <| Bd_e (y := (((64 - q0.length % 64) % 64 : Nat) : Int)) (by rw [Int.tmod_eq_emod_of_nonneg (by omega)]; omega) ?_
  generalize hmm0 : (64 - q0.length % 64) % 64 = m0 at *
  obtain ⟨w22, hr22, o22, m22⟩ := made5 m0 w15 (by omega)
  have S22 := S15.md0 m22
  refine RunW_in hr22 (Kept_md m22 S15.lt) <| opL_in <| RunW_in0 (zeros_str o22 _) <| opStr_in <| in_cat (by omega) (by simp; omega) ?_
  rw [← eS]
  generalize hs : layS d a pos b = s at *
  refine Bd_e (y := ((pos / 64 : Nat) : Int)) (by rw [Int.tdiv_eq_ediv_of_nonneg (by omega), IntKind.wrap_i64]; omega) ?_
  refine LoopP_in (fun mm us vs w' => ∃ (bb : Bool) (k : Nat) (d' : Dk) (x' : Rf) (p' : RfS) (ja : Option Addr) (jb jc : Nat) (je : Option Addr) (jf jg : Nat) (ji : Int), us = [.bool bb, .int .i64 k] ∧ vs = [.agg #[.slice ja jb jc, .slice je jf jg, .int .i64 ji], x'.v p'] ∧ mm = K - k ∧ pos / 64 ≤ k ∧ k ≤ K ∧ RS [n2, n1] base w w' p x' p' ∧ RelD N d' x' ∧ d'.bl.length = d.bl.length ∧ d'.pd.length ≤ d.pd.length + (k - pos / 64) ∧ layL a s (K - k) k d' = layD d a pos b) (K - pos / 64)
    ⟨false, pos / 64, d, x, p, none, 0, 0, none, 0, 0, 0, rfl, rfl, rfl, Nat.le_refl _, hpK, S22, hd, rfl, by omega, hLd.symm⟩ ?_
  rintro mm us vs w36 ⟨bb, k, d', x1, p1, ja, jb, jc, je, jf, jg, ji, rfl, rfl, hmm, hk1, hk2, S11, D11, e11, q11, L11⟩
  have hh' : (x1.sf.length - 1) / 2 = half d := by rw [D11.hf]; unfold half; rw [e11]
  have hj' : jbk d' a k = jbk d a k := by unfold jbk half; rw [e11]
  have hsl1 := D11.slen
  refine opB_in <| opI_in <| opAg_in <| opL_in <| opL_in <| opI_in <| SzIs_in rfl <| opAg_in <| opL_in <| opL_in <| opI_in <| SzIs_in rfl <| Bd_e (y := ((K * 64 : Nat) : Int)) (by rw [size_bytesOf, hSl]) <| Bd_e (y := (K : Int)) (by rw [Int.tdiv_eq_ediv_of_nonneg (by omega), IntKind.wrap_i64]; omega) <| Bd_in fun b57 hb57 => If_in (fun hcc => ?_) fun hcc => ?_
  · have hkK : k < K := by rw [hb57] at hcc; have := of_decide_eq_true hcc; omega
    have hck : (chunk s k).length = 64 := chunk_len hSl hkK
    have hcb : ∀ z ∈ chunk s k, z < 256 := chunk_lt hSb
    have hwl := write_len d' (jbk d a k) (chunk s k)
    have hKk : K - k = (K - (k + 1)) + 1 := by omega
    rw [hKk] at L11
    have ix1 : IntKind.wrap .i64 ((a : Int) * (half d : Nat)) = ((a * half d : Nat) : Int) := by rw [IntKind.wrap_i64, ← Int.natCast_mul]; generalize a * half d = m at *; omega
    have ix2 : IntKind.wrap .i64 ((1 : Int) + ((a * half d : Nat) : Int)) = ((1 + a * half d : Nat) : Int) := by rw [IntKind.wrap_i64]; generalize a * half d = m at *; omega
    have ix3 : IntKind.wrap .i64 (((1 + a * half d : Nat) : Int) + (k : Int)) = (jbk d a k : Int) := by rw [IntKind.wrap_i64]; unfold jbk; generalize a * half d = m at *; omega
    have S11d := S11.md0 (Md_drew w36)
    have ecut : (s.drop (64 * k)).take (64 * k + 64 - 64 * k) = chunk s k := by
      unfold chunk; rw [Nat.mul_comm 64 k, Nat.add_sub_cancel_left]
    refine Bd_e (y := ((64 * k : Nat) : Int)) (by rw [IntKind.wrap_i64]; omega) <| Bd_e (y := ((64 * k : Nat) : Int)) (by rw [IntKind.wrap_i64]; omega) <| Bd_e (y := ((64 * k + 64 : Nat) : Int)) (by rw [IntKind.wrap_i64]; omega) ⟨_, fun w' _ => ⟨cut_lh w' _ (64 * k) (64 * k + 64) (by omega) (by rw [hSl]; omega)⟩, opStr_in ?_⟩
    rw [ecut]
    refine ⟨?_, ?_, ?_⟩
    · refine in212 (by omega) (by omega) S11d.lt fun w1 m1 => ?_
      have S1 := S11d.md0 m1
      rw [hh']
      refine Bd_e (y := ((a * half d : Nat) : Int)) ix1 <| Bd_e (y := ((1 + a * half d : Nat) : Int)) ix2 <| Bd_e (y := (jbk d a k : Int)) ix3 ?_
      refine ⟨?_, ?_⟩
      · obtain ⟨cc2, w2, hr2, r2, m2⟩ := conv_str51 _ (chunk s k) hcb
        rw [hck] at hr2
        have hr2' := hr2
        refine RunW_in hr2 (Kept_md m2 S1.lt) <| opL_in ?_
        have S2 := S1.md0 m2
        refine ⟨?_, ?_⟩
        · refine S2.w115 D11 (by omega) (jbk d a k) hck.symm (r2) hcb (by rw [hck]; omega) fun x3 p3 w3 S3 D3 m3 => ?_
          intro nn3 hnn3 wp3 mp3 hlp3 wq3 mq3 hlq3
          have T3 := (S3.rg hnn3 mp3 (by simp) hlp3).up mq3 (by simp)
          refine Bd_in fun b4 hb4 => If_in (fun hc => ?_) fun hc => ?_
          · have hne : ¬ (d'.write (jbk d a k) (chunk s k)).2 = 0 := by rw [hb4] at hc; simpa using hc
            intro wa4 ma4 hla4
            have Sa := T3.up ma4 (by simp)
            unfold layL at L11
            rw [hj', if_neg hne] at L11
            rw [← L11]
            exact ⟨⟨x3, p3, rfl, Sa.r, D3, Sa.nw⟩, Sa.md⟩
          · have heq : (d'.write (jbk d a k) (chunk s k)).2 = 0 := by rw [hb4] at hc; simpa using hc
            unfold layL at L11
            rw [hj', if_pos heq] at L11
            refine Bd_e (inc_i64 (by omega)) fun wb4 mb4 hlb4 => ?_
            have Sb := T3.up mb4 (by simp)
            exact ⟨K - (k + 1), by omega, bb, k + 1, _, x3, p3, ja, jb, jc, je, jf, jg, ji, rfl, rfl, by omega, by omega, by omega, Sb.sub (by simp), D3, by rw [hwl.1, e11], by have := hwl.2; omega, L11⟩
        · intro nn5 hnn5 wp5 mp5 hlp5
          have S5 := S2.rg hnn5 mp5 (by simp) hlp5
          refine S5.w115 D11 (by omega) (jbk d a k) hck.symm ((r2).md mp5) hcb (by rw [hck]; omega) fun x6 p6 w6 S6 D6 m6 => ?_
          intro wq6 mq6 hlq6
          have T6 := S6.up mq6 (by simp)
          refine Bd_in fun b7 hb7 => If_in (fun hc => ?_) fun hc => ?_
          · have hne : ¬ (d'.write (jbk d a k) (chunk s k)).2 = 0 := by rw [hb7] at hc; simpa using hc
            intro wa7 ma7 hla7
            have Sa := T6.up ma7 (by simp)
            unfold layL at L11
            rw [hj', if_neg hne] at L11
            rw [← L11]
            exact ⟨⟨x6, p6, rfl, Sa.r, D6, Sa.nw⟩, Sa.md⟩
          · have heq : (d'.write (jbk d a k) (chunk s k)).2 = 0 := by rw [hb7] at hc; simpa using hc
            unfold layL at L11
            rw [hj', if_pos heq] at L11
            refine Bd_e (inc_i64 (by omega)) fun wb7 mb7 hlb7 => ?_
            have Sb := T6.up mb7 (by simp)
            exact ⟨K - (k + 1), by omega, bb, k + 1, _, x6, p6, ja, jb, jc, je, jf, jg, ji, rfl, rfl, by omega, by omega, by omega, Sb.sub (by simp), D6, by rw [hwl.1, e11], by have := hwl.2; omega, L11⟩
      · intro nn8 hnn8 wp8 mp8 hlp8
        have S8 := S1.rg hnn8 mp8 (by simp) hlp8
        obtain ⟨cc9, w9, hr9, r9, m9⟩ := conv_str51 _ (chunk s k) hcb
        rw [hck] at hr9
        have hr9' := hr9
        refine RunW_in hr9 (Kept_md m9 S8.lt) <| opL_in ?_
        have S9 := S8.md0 m9
        refine S9.w115 D11 (by omega) (jbk d a k) hck.symm (r9) hcb (by rw [hck]; omega) fun x10 p10 w10 S10 D10 m10 => ?_
        intro wq10 mq10 hlq10
        have T10 := S10.up mq10 (by simp)
        refine Bd_in fun b11 hb11 => If_in (fun hc => ?_) fun hc => ?_
        · have hne : ¬ (d'.write (jbk d a k) (chunk s k)).2 = 0 := by rw [hb11] at hc; simpa using hc
          intro wa11 ma11 hla11
          have Sa := T10.up ma11 (by simp)
          unfold layL at L11
          rw [hj', if_neg hne] at L11
          rw [← L11]
          exact ⟨⟨x10, p10, rfl, Sa.r, D10, Sa.nw⟩, Sa.md⟩
        · have heq : (d'.write (jbk d a k) (chunk s k)).2 = 0 := by rw [hb11] at hc; simpa using hc
          unfold layL at L11
          rw [hj', if_pos heq] at L11
          refine Bd_e (inc_i64 (by omega)) fun wb11 mb11 hlb11 => ?_
          have Sb := T10.up mb11 (by simp)
          exact ⟨K - (k + 1), by omega, bb, k + 1, _, x10, p10, ja, jb, jc, je, jf, jg, ji, rfl, rfl, by omega, by omega, by omega, Sb.sub (by simp), D10, by rw [hwl.1, e11], by have := hwl.2; omega, L11⟩
    · obtain ⟨cc12, w12, hr12, r12, m12⟩ := conv_str51 _ (chunk s k) hcb
      rw [hck] at hr12
      have hr12' := hr12
      refine RunW_in hr12 (Kept_md m12 S11d.lt) <| opL_in ?_
      have S12 := S11d.md0 m12
      refine ⟨?_, ?_⟩
      · refine in212 (by omega) (by omega) S12.lt fun w13 m13 => ?_
        have S13 := S12.md0 m13
        rw [hh']
        refine Bd_e (y := ((a * half d : Nat) : Int)) ix1 <| Bd_e (y := ((1 + a * half d : Nat) : Int)) ix2 <| Bd_e (y := (jbk d a k : Int)) ix3 ?_
        refine ⟨?_, ?_⟩
        · refine S13.w115 D11 (by omega) (jbk d a k) hck.symm ((r12).md m13) hcb (by rw [hck]; omega) fun x14 p14 w14 S14 D14 m14 => ?_
          intro nn14 hnn14 wp14 mp14 hlp14 wq14 mq14 hlq14
          have T14 := (S14.rg hnn14 mp14 (by simp) hlp14).up mq14 (by simp)
          refine Bd_in fun b15 hb15 => If_in (fun hc => ?_) fun hc => ?_
          · have hne : ¬ (d'.write (jbk d a k) (chunk s k)).2 = 0 := by rw [hb15] at hc; simpa using hc
            intro wa15 ma15 hla15
            have Sa := T14.up ma15 (by simp)
            unfold layL at L11
            rw [hj', if_neg hne] at L11
            rw [← L11]
            exact ⟨⟨x14, p14, rfl, Sa.r, D14, Sa.nw⟩, Sa.md⟩
          · have heq : (d'.write (jbk d a k) (chunk s k)).2 = 0 := by rw [hb15] at hc; simpa using hc
            unfold layL at L11
            rw [hj', if_pos heq] at L11
            refine Bd_e (inc_i64 (by omega)) fun wb15 mb15 hlb15 => ?_
            have Sb := T14.up mb15 (by simp)
            exact ⟨K - (k + 1), by omega, bb, k + 1, _, x14, p14, ja, jb, jc, je, jf, jg, ji, rfl, rfl, by omega, by omega, by omega, Sb.sub (by simp), D14, by rw [hwl.1, e11], by have := hwl.2; omega, L11⟩
        · intro nn16 hnn16 wp16 mp16 hlp16
          have S16 := S13.rg hnn16 mp16 (by simp) hlp16
          refine S16.w115 D11 (by omega) (jbk d a k) hck.symm (((r12).md m13).md mp16) hcb (by rw [hck]; omega) fun x17 p17 w17 S17 D17 m17 => ?_
          intro wq17 mq17 hlq17
          have T17 := S17.up mq17 (by simp)
          refine Bd_in fun b18 hb18 => If_in (fun hc => ?_) fun hc => ?_
          · have hne : ¬ (d'.write (jbk d a k) (chunk s k)).2 = 0 := by rw [hb18] at hc; simpa using hc
            intro wa18 ma18 hla18
            have Sa := T17.up ma18 (by simp)
            unfold layL at L11
            rw [hj', if_neg hne] at L11
            rw [← L11]
            exact ⟨⟨x17, p17, rfl, Sa.r, D17, Sa.nw⟩, Sa.md⟩
          · have heq : (d'.write (jbk d a k) (chunk s k)).2 = 0 := by rw [hb18] at hc; simpa using hc
            unfold layL at L11
            rw [hj', if_pos heq] at L11
            refine Bd_e (inc_i64 (by omega)) fun wb18 mb18 hlb18 => ?_
            have Sb := T17.up mb18 (by simp)
            exact ⟨K - (k + 1), by omega, bb, k + 1, _, x17, p17, ja, jb, jc, je, jf, jg, ji, rfl, rfl, by omega, by omega, by omega, Sb.sub (by simp), D17, by rw [hwl.1, e11], by have := hwl.2; omega, L11⟩
      · intro nn19 hnn19 wp19 mp19 hlp19
        have S19 := S12.rg hnn19 mp19 (by simp) hlp19
        refine in212 (by omega) (by omega) S19.lt fun w20 m20 => ?_
        have S20 := S19.md0 m20
        rw [hh']
        refine Bd_e (y := ((a * half d : Nat) : Int)) ix1 <| Bd_e (y := ((1 + a * half d : Nat) : Int)) ix2 <| Bd_e (y := (jbk d a k : Int)) ix3 ?_
        refine S20.w115 D11 (by omega) (jbk d a k) hck.symm (((r12).md mp19).md m20) hcb (by rw [hck]; omega) fun x21 p21 w21 S21 D21 m21 => ?_
        intro wq21 mq21 hlq21
        have T21 := S21.up mq21 (by simp)
        refine Bd_in fun b22 hb22 => If_in (fun hc => ?_) fun hc => ?_
        · have hne : ¬ (d'.write (jbk d a k) (chunk s k)).2 = 0 := by rw [hb22] at hc; simpa using hc
          intro wa22 ma22 hla22
          have Sa := T21.up ma22 (by simp)
          unfold layL at L11
          rw [hj', if_neg hne] at L11
          rw [← L11]
          exact ⟨⟨x21, p21, rfl, Sa.r, D21, Sa.nw⟩, Sa.md⟩
        · have heq : (d'.write (jbk d a k) (chunk s k)).2 = 0 := by rw [hb22] at hc; simpa using hc
          unfold layL at L11
          rw [hj', if_pos heq] at L11
          refine Bd_e (inc_i64 (by omega)) fun wb22 mb22 hlb22 => ?_
          have Sb := T21.up mb22 (by simp)
          exact ⟨K - (k + 1), by omega, bb, k + 1, _, x21, p21, ja, jb, jc, je, jf, jg, ji, rfl, rfl, by omega, by omega, by omega, Sb.sub (by simp), D21, by rw [hwl.1, e11], by have := hwl.2; omega, L11⟩
    · intro nn23 hnn23 wp23 mp23 hlp23
      have S23 := S11d.rg hnn23 mp23 (by simp) hlp23
      refine ⟨?_, ?_⟩
      · refine in212 (by omega) (by omega) S23.lt fun w24 m24 => ?_
        have S24 := S23.md0 m24
        rw [hh']
        refine Bd_e (y := ((a * half d : Nat) : Int)) ix1 <| Bd_e (y := ((1 + a * half d : Nat) : Int)) ix2 <| Bd_e (y := (jbk d a k : Int)) ix3 ?_
        obtain ⟨cc25, w25, hr25, r25, m25⟩ := conv_str51 _ (chunk s k) hcb
        rw [hck] at hr25
        have hr25' := hr25
        refine RunW_in hr25 (Kept_md m25 S24.lt) <| opL_in ?_
        have S25 := S24.md0 m25
        refine S25.w115 D11 (by omega) (jbk d a k) hck.symm (r25) hcb (by rw [hck]; omega) fun x26 p26 w26 S26 D26 m26 => ?_
        intro wq26 mq26 hlq26
        have T26 := S26.up mq26 (by simp)
        refine Bd_in fun b27 hb27 => If_in (fun hc => ?_) fun hc => ?_
        · have hne : ¬ (d'.write (jbk d a k) (chunk s k)).2 = 0 := by rw [hb27] at hc; simpa using hc
          intro wa27 ma27 hla27
          have Sa := T26.up ma27 (by simp)
          unfold layL at L11
          rw [hj', if_neg hne] at L11
          rw [← L11]
          exact ⟨⟨x26, p26, rfl, Sa.r, D26, Sa.nw⟩, Sa.md⟩
        · have heq : (d'.write (jbk d a k) (chunk s k)).2 = 0 := by rw [hb27] at hc; simpa using hc
          unfold layL at L11
          rw [hj', if_pos heq] at L11
          refine Bd_e (inc_i64 (by omega)) fun wb27 mb27 hlb27 => ?_
          have Sb := T26.up mb27 (by simp)
          exact ⟨K - (k + 1), by omega, bb, k + 1, _, x26, p26, ja, jb, jc, je, jf, jg, ji, rfl, rfl, by omega, by omega, by omega, Sb.sub (by simp), D26, by rw [hwl.1, e11], by have := hwl.2; omega, L11⟩
      · obtain ⟨cc28, w28, hr28, r28, m28⟩ := conv_str51 _ (chunk s k) hcb
        rw [hck] at hr28
        have hr28' := hr28
        refine RunW_in hr28 (Kept_md m28 S23.lt) <| opL_in ?_
        have S28 := S23.md0 m28
        refine in212 (by omega) (by omega) S28.lt fun w29 m29 => ?_
        have S29 := S28.md0 m29
        rw [hh']
        refine Bd_e (y := ((a * half d : Nat) : Int)) ix1 <| Bd_e (y := ((1 + a * half d : Nat) : Int)) ix2 <| Bd_e (y := (jbk d a k : Int)) ix3 ?_
        refine S29.w115 D11 (by omega) (jbk d a k) hck.symm ((r28).md m29) hcb (by rw [hck]; omega) fun x30 p30 w30 S30 D30 m30 => ?_
        intro wq30 mq30 hlq30
        have T30 := S30.up mq30 (by simp)
        refine Bd_in fun b31 hb31 => If_in (fun hc => ?_) fun hc => ?_
        · have hne : ¬ (d'.write (jbk d a k) (chunk s k)).2 = 0 := by rw [hb31] at hc; simpa using hc
          intro wa31 ma31 hla31
          have Sa := T30.up ma31 (by simp)
          unfold layL at L11
          rw [hj', if_neg hne] at L11
          rw [← L11]
          exact ⟨⟨x30, p30, rfl, Sa.r, D30, Sa.nw⟩, Sa.md⟩
        · have heq : (d'.write (jbk d a k) (chunk s k)).2 = 0 := by rw [hb31] at hc; simpa using hc
          unfold layL at L11
          rw [hj', if_pos heq] at L11
          refine Bd_e (inc_i64 (by omega)) fun wb31 mb31 hlb31 => ?_
          have Sb := T30.up mb31 (by simp)
          exact ⟨K - (k + 1), by omega, bb, k + 1, _, x30, p30, ja, jb, jc, je, jf, jg, ji, rfl, rfl, by omega, by omega, by omega, Sb.sub (by simp), D30, by rw [hwl.1, e11], by have := hwl.2; omega, L11⟩
  · have hkK : ¬ k < K := fun hlt => by
      rw [hb57] at hcc; have := of_decide_eq_false hcc; omega
    have hK0 : K - k = 0 := by omega
    rw [hK0] at L11
    unfold layL at L11
    refine S11.w116 D11 fun x2 p2 w271 S271 D271 m271 n282 hn282 => Bd_e rfl fun w284 m284 hl284 => ?_
    have S284 := S271.rg hn282 m284 (by simp) hl284
    rw [← L11]
    exact ⟨⟨x2, p2, rfl, S284.r, D271, S284.nw⟩, S284.md⟩
end Fk
set_option linter.unusedVariables false
set_option linter.unusedSimpArgs false
set_option maxRecDepth 100000
set_option maxHeartbeats 4000000
namespace Fk
open Go Go.Proofs Go.RowKit
theorem RS.two {base : Nat} {w w' : World} {x : Rf} {p : RfS} {n1 n2 : Nat} {D : List Nat} (h : RfAt w base x p) (hb : base ≤ w.heap.size) (h1 : w.heap.size ≤ n1) (h2 : w.heap.size ≤ n2) (hm : Md D w w') (hD : ∀ b ∈ D, b ∈ [n2, n1]) (hl : ∀ b ∈ [n2, n1], b < w'.heap.size) : RS [n2, n1] base w w' p x p := by
  have hm' : Md [] w w' := hm.fresh fun b hb => by have := hD b hb; simp at this; rcases this with rfl | rfl <;> assumption
  exact ⟨h.md hm', hb, hm', hl, by simp; exact ⟨h2, h1⟩, fun b hb A hA => by
    have := (h.sf.lt hA).2; simp at hb; rcases hb with rfl | rfl <;> omega, fun b hb A hA => by
    have := (h.pe.lt hA).2; simp at hb; rcases hb with rfl | rfl <;> omega, NewS.refl _ _⟩
theorem set_cut (l : List Nat) (i c : Nat) (h : i < l.length) : l.set i c = l.take i ++ [c] ++ l.drop (i + 1) := by
  rw [List.set_eq_take_append_cons_drop, if_pos h, List.append_assoc]; rfl
theorem cut_hB (w : World) (l : List Nat) (y : Nat) (h2 : y ≤ l.length) : (Instr.sliceAt 9 (.string (bytesOf l)) none (some (.int .i64 (y : Int))) none).run Try.prog w = .ok (.string (bytesOf (l.take y))) w := by
  rw [cutB_h w _ y (by rw [size_bytesOf]; exact h2), bytesOf_take]
theorem cut_lB (w : World) (l : List Nat) (y : Nat) (h2 : y ≤ l.length) : (Instr.sliceAt 9 (.string (bytesOf l)) (some (.int .i64 (y : Int))) none none).run Try.prog w = .ok (.string (bytesOf (l.drop y))) w := by
  rw [cutB_l w _ y (by rw [size_bytesOf]; exact h2), bytesOf_ext, size_bytesOf, List.take_of_length_le (by simp)]
theorem f141_ok (x : Rf) (p : RfS) (base N : Nat) (d : Dk) (g : Lg) (w : World) (hb : base ≤ w.heap.size) (h : RfAt w base x p) (hd : RelD N d x) (h1 : 3 ≤ N) (h2 : N ≤ 65536) (hpl : d.pd.length < 2 ^ 26) (ha : g.area ≤ 1) (hp : g.pos ≤ jsz d) (r : List Nat) (hr : ∀ z ∈ r, z < 256) (hrl : r.length ≤ 2 ^ 21) :
    Ct Try.prog 141 #[g.rv x p, .string (bytesOf r)] w fun v w' => (∃ x' p', v = .tuple #[(apD d g r).2.1.rv x' p', .int .i64 (apD d g r).2.2] ∧ RfOut N w w' base (apD d g r).1 p x' p') ∧ Md [] w w' := by
  have hlen := hd.fro.len
  have hhl : half d ≤ 32767 := half_le (by omega)
  have hjz : jsz d = half d * 64 := rfl
  have hd1 : 1 ≤ d.bl.length := by omega
  have hm1 : g.area * half d ≤ 1 * half d := Nat.mul_le_mul_right _ ha
  apply f141_in
  intro n1 hn1 n2 hn2
  refine If_in (fun ho => ?_) fun ho => ?_
  · intro w3 m3 hl3
    have S3 := RS.two h hb hn1 hn2 m3 (by simp) hl3
    have hm : mayD g ((jsz d : Int) - g.pos) [r.length] = 200 := by unfold mayD; rw [if_pos ho]
    have e : apD d g r = (d, g, 200) := by unfold apD; rw [if_pos (by rw [hm]; decide), hm]
    rw [e]
    exact ⟨⟨x, p, rfl, S3.r, hd, S3.nw⟩, S3.md⟩
  have hm := may_cases ho r.length hp
  refine Bd_e (y := (r.length : Int)) (by rw [size_bytesOf]) <| Bd_in fun b5 hb5 => Bd_e (y := (r.length : Int)) (by rw [size_bytesOf]) <| Bd_in fun b7 hb7 => Bd_in fun b8 hb8 => ?_
  have e8 : b8 = decide (r.length < 1 ∨ r.length > 1048576) := by
    have q1 : b5 = decide (r.length < 1) := by rw [hb5]; apply decide_eq_decide.2; omega
    have q2 : b7 = decide (r.length > 1048576) := by rw [hb7]; apply decide_eq_decide.2; omega
    rw [hb8, q1, q2, Bool.eq_iff_iff]
    by_cases q : r.length < 1 <;> simp [q]
  by_cases q1 : r.length < 1 ∨ r.length > 1048576
  · rw [show b8 = true by rw [e8]; exact decide_eq_true q1]
    rw [if_pos q1] at hm
    refine If_t fun w9 m9 hl9 => ?_
    have S9 := RS.two h hb hn1 hn2 m9 (by simp) hl9
    have e : apD d g r = (d, g, 3) := by unfold apD; rw [if_pos (by rw [hm]; decide), hm]
    rw [e]
    exact ⟨⟨x, p, rfl, S9.r, hd, S9.nw⟩, S9.md⟩
  rw [show b8 = false by rw [e8]; exact decide_eq_false q1]
  rw [if_neg q1] at hm
  refine If_f fun w10 m10 hl10 => ?_
  have S10 := RS.two h hb hn1 hn2 m10 (by simp) hl10
  have htl := tailF_len r
  refine (f209_ok r hr hrl w10).call S10.lt ?_
  rintro v w12 rfl m12
  have S12 := (S10.md0 m12).md0 (Md_drew w12)
  refine opStr_in ⟨fun _ => True, trivial, Bd_e (y := ((g.pos + 1 : Nat) : Int)) (by rw [IntKind.wrap_i64]; omega) <| Bd_e (y := ((r.length + 7 : Nat) : Int)) (by rw [size_bytesOf, htl]) <| Bd_e (y := ((g.pos + r.length + 8 : Nat) : Int)) (by rw [IntKind.wrap_i64]; omega) <| in210 (by rw [hd.slen]; omega) (by rw [hd.slen]; exact h2) S12.lt fun w19 m19 => ⟨trivial, ?_⟩⟩
  have S19 := S12.md0 m19
  rw [hd.hf]
  refine Bd_in fun b21 hb21 => ?_
  by_cases q2 : ¬ g.pos + r.length + 8 ≤ jsz d
  · rw [if_neg q2] at hm
    rw [show b21 = true by rw [hb21]; exact decide_eq_true (by omega)]
    refine If_t fun w22 m22 hl22 => ?_
    have S22 := S19.up m22 (by simp)
    have e : apD d g r = (d, g, 4) := by unfold apD; rw [if_pos (by rw [hm]; decide), hm]
    rw [e]
    exact ⟨⟨x, p, rfl, S22.r, hd, S22.nw⟩, S22.md⟩
  have q2 : g.pos + r.length + 8 ≤ jsz d := Decidable.byContradiction q2
  rw [if_pos q2] at hm
  rw [show b21 = false by rw [hb21]; exact decide_eq_false (by omega)]
  have e0 : ByteArray.mk #[0] = bytesOf [0] := rfl
  have efl : (frm 0 r).length = r.length + 8 := frm_len 0 r
  rw [e0]
  refine If_f <| in_cat (a := [0]) (by simp) (by omega) ?_
  have ef : [0] ++ tailF r = frm 0 r := rfl
  rw [ef]
  have eA : apD d g r = if (layD d g.area g.pos (frm 0 r)).2 = false then ((layD d g.area g.pos (frm 0 r)).1, { g with ov := true }, 200) else
      if (oneD (layD d g.area g.pos (frm 0 r)).1 (jbk d g.area (g.pos / 64)) ((getB (layD d g.area g.pos (frm 0 r)).1.bl (jbk d g.area (g.pos / 64))).1.set (g.pos % 64) 1)).2 = false
      then ((oneD (layD d g.area g.pos (frm 0 r)).1 (jbk d g.area (g.pos / 64)) ((getB (layD d g.area g.pos (frm 0 r)).1.bl (jbk d g.area (g.pos / 64))).1.set (g.pos % 64) 1)).1, { g with ov := true }, 200)
      else ((oneD (layD d g.area g.pos (frm 0 r)).1 (jbk d g.area (g.pos / 64)) ((getB (layD d g.area g.pos (frm 0 r)).1.bl (jbk d g.area (g.pos / 64))).1.set (g.pos % 64) 1)).1, { g with pos := g.pos + (r.length + 8) }, 0) := by unfold apD; rw [if_neg (by rw [hm]; decide)]
  have hLl := layD_len (b := frm 0 r) hd1 (by omega) ha (p := g.pos) (by omega)
  have c211 := f211_ok x p base N d w19 (Nat.le_trans hb S19.md.size) S19.r hd (by omega) h2 (by omega) g.area g.pos ha (frm 0 r) (frm_lt 0 r (by omega) hr) (by omega)
  generalize hL : layD d g.area g.pos (frm 0 r) = l at *
  refine c211.call S19.lt ?_
  rintro v w27 ⟨x1, p1, rfl, r1, d1, nw1⟩ m27
  have S27 := S19.ref m27 r1 nw1
  have hk64 : g.pos / 64 < half d := by omega
  have hbk := jbk_lt (d := d) hd1 ha hk64
  have hll : l.1.bl.length = N := by rw [hLl.1]; exact hlen
  refine opTu_in <| opAg_in <| opL_in <| opL_in <| opI_in <| SzIs_in rfl <| opB_in <| SzIs_in rfl fun n38 hn38 => ?_
  generalize hO : oneD l.1 (jbk d g.area (g.pos / 64)) ((getB l.1.bl (jbk d g.area (g.pos / 64))).1.set (g.pos % 64) 1) = o at *
  refine Jn_in (fun us vs w' => ∃ (ok : Bool) (d' : Dk) (x' : Rf) (p' : RfS), us = [.bool ok] ∧ vs = [x'.v p'] ∧ RS [n38, n2, n1] base w w' p x' p' ∧ RelD N d' x' ∧ ((ok = true ∧ apD d g r = (d', { g with pos := g.pos + (r.length + 8) }, 0)) ∨ (ok = false ∧ apD d g r = (d', { g with ov := true }, 200)))) ?_ ?_
  · rintro us vs w41 ⟨ok, d', x', p', rfl, rfl, S41, D41, hc⟩
    refine opB_in <| opAg_in <| opL_in <| opL_in <| opI_in <| SzIs_in rfl <| Bd_in fun b51 hb51 => If_in (fun hx => ?_) fun hx => ?_
    · intro w52 m52 hl52
      have S52 := S41.up m52 (by simp)
      rcases hc with ⟨rfl, _⟩ | ⟨_, e⟩
      · rw [hb51] at hx; cases hx
      · rw [e]
        exact ⟨⟨x', p', rfl, S52.r, D41, S52.nw⟩, S52.md⟩
    · refine Bd_e (y := ((g.pos + 1 : Nat) : Int)) (by rw [IntKind.wrap_i64]; omega) <| Bd_e (y := ((r.length + 7 : Nat) : Int)) (by rw [size_bytesOf, htl]) <| Bd_e (y := ((g.pos + (r.length + 8) : Nat) : Int)) (by rw [IntKind.wrap_i64]; omega) fun w56 m56 hl56 => ?_
      have S56 := S41.up m56 (by simp)
      rcases hc with ⟨_, e⟩ | ⟨rfl, _⟩
      · rw [e]
        exact ⟨⟨x', p', rfl, S56.r, D41, S56.nw⟩, S56.md⟩
      · rw [hb51] at hx; cases hx
  · refine If_in (fun hx => ?_) fun hx => ?_
    · rw [if_neg (by simp [hx])] at eA
      intro w58 m58 hl58
      have S58 := S27.rg hn38 m58 (by simp) hl58
      have S58d := S58.md0 (Md_drew w58)
      have hh1 : half l.1 = half d := by unfold half; rw [hLl.1]
      refine ⟨fun _ => True, trivial, Bd_e (y := ((g.pos / 64 : Nat) : Int)) (by rw [Int.tdiv_eq_ediv_of_nonneg (by omega), IntKind.wrap_i64]; omega) <| in212 (by rw [d1.slen]; omega) (by rw [d1.slen]; exact h2) S58d.lt fun w62 m62 => ⟨trivial, ?_⟩⟩
      have S62 := S58d.md0 m62
      rw [d1.hf, hh1]
      refine Bd_e (y := ((g.area * half d : Nat) : Int)) (by rw [IntKind.wrap_i64, ← Int.natCast_mul]; generalize g.area * half d = m at *; omega) <| Bd_e (y := ((1 + g.area * half d : Nat) : Int)) (by rw [IntKind.wrap_i64]; generalize g.area * half d = m at *; omega) <| Bd_e (y := (jbk d g.area (g.pos / 64) : Int)) (by rw [IntKind.wrap_i64]; unfold jbk; generalize g.area * half d = m at *; omega) <| in120 S62.r d1 (by omega) S62.lt fun w68 m68 h68 => ?_
      have S68 := (S62.md0 m68).md0 (Md_drew w68)
      have h64 : (getB l.1.bl (jbk d g.area (g.pos / 64))).1.length = 64 := (getB l.1.bl (jbk d g.area (g.pos / 64))).2.1
      have hmod : Int.tmod ((g.pos : Nat) : Int) 64 = ((g.pos % 64 : Nat) : Int) := by rw [Int.tmod_eq_emod_of_nonneg (by omega)]; omega
      have e1 : ByteArray.mk #[1] = bytesOf [1] := rfl
      rw [e1]
      refine Bd_e hmod ⟨_, fun w' _ => ⟨cut_hB w' _ (g.pos % 64) (by rw [h64]; omega)⟩, opStr_in ⟨_, fun w' _ => ⟨run_cat w' _ _ _ [1] (by rw [List.length_take, h64]; omega) (by simp)⟩, opStr_in <| Bd_e hmod <| Bd_e (y := ((g.pos % 64 + 1 : Nat) : Int)) (by rw [IntKind.wrap_i64]; omega) ⟨_, fun w' _ => ⟨cut_lB w' _ (g.pos % 64 + 1) (by rw [h64]; omega)⟩, opStr_in ⟨_, fun w' _ => ⟨run_cat w' _ _ _ _ (by simp; omega) (by simp; omega)⟩, opStr_in ?_⟩⟩⟩⟩
      rw [← set_cut _ _ _ (by rw [h64]; omega)]
      have c213 := f213_ok x1 p1 base N l.1 w68.drew (Nat.le_trans hb S68.md.size) S68.r d1 (by omega) (jbk d g.area (g.pos / 64)) ((getB l.1.bl (jbk d g.area (g.pos / 64))).1.set (g.pos % 64) 1) (fun z hz => by
        rcases List.mem_or_eq_of_mem_set hz with h | h
        · exact (getB l.1.bl (jbk d g.area (g.pos / 64))).2.2 z h
        · omega) (by rw [List.length_set, h64]; omega)
      rw [hO] at c213
      refine c213.call S68.lt ?_
      rintro v w90 ⟨x2, p2, rfl, r2, d2, nw2⟩ m90
      have S90 := S68.ref m90 r2 nw2
      refine opTu_in <| opAg_in <| opL_in <| opL_in <| opI_in <| SzIs_in rfl <| opB_in <| SzIs_in rfl fun w101 m101 hl101 => ?_
      have S101 := S90.up m101 (by simp)
      refine ⟨o.2, o.1, x2, p2, rfl, rfl, S101, d2, ?_⟩
      by_cases c2 : o.2 = false
      · rw [if_pos c2] at eA
        exact .inr ⟨c2, eA⟩
      · rw [if_neg c2] at eA
        exact .inl ⟨by simpa using c2, eA⟩
    · rw [if_pos hx] at eA
      intro w102 m102 hl102
      have S102 := S27.rg hn38 m102 (by simp) hl102
      exact ⟨l.2, l.1, x1, p1, rfl, rfl, S102, d1, .inr ⟨hx, eA⟩⟩
end Fk
