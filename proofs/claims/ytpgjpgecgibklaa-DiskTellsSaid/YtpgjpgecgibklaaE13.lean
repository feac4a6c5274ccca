/- The reference's disk: New, Write, Flush, Arm. -/
import Derived.Test.YtpgjpgecgibklaaE12
set_option linter.unusedVariables false
set_option linter.unusedSimpArgs false
set_option maxRecDepth 100000
namespace Fk
open Go Go.Proofs Go.RowKit
theorem Nw_e {o : Obj} {w : World} {K : Nat → World → Prop} (k : K w.heap.size (w.alloc o)) : Nw o w K := fun _ _ e1 e2 => by subst e1; subst e2; exact k
theorem in_made64 {L : List Nat} {w : World} (hL : ∀ b ∈ L, b < w.heap.size) {K : Value → World → Prop} (k : ∀ a w', OwnL w' w.heap.size 5 1 b1 a 64 (List.replicate 64 0) → Md [] w w' → K (.slice a 64 64) w') :
    RunW Try.prog L (Instr.makeSlice 51 (.int .i64 64) (.int .i64 64)) K w := by
  obtain ⟨w', h, o, m⟩ := made5 64 w (by omega)
  exact RunW_in h (Kept_md m hL) (k _ w' o m)
theorem in195 {L : List Nat} {x : Rf} {p : RfS} {base : Nat} {w : World} (h : RfAt w base x p) {l : List (Int × ByteArray)} {B : Option Addr} {C m : Nat} (hm : m = l.length) (hr : RowAt w B 2 wr2 l) (hin : ∀ q ∈ l, 0 ≤ q.1 ∧ q.1 < x.sf.length) (hl : l.length < 2 ^ 30) (hL : ∀ b ∈ L, b < w.heap.size)
    {K : Option Addr → Nat → Nat → Option Addr → Nat → Nat → Int → World → Prop} (k : ∀ a' c' w', OwnL w' w.heap.size 9 1 s1 a' c' (keptL x.sf l) → Md [] w w' → K a' x.sf.length c' none 0 0 x.rf w') :
    CallW Try.prog L 195 #[.agg #[.slice p.a x.sf.length p.c, .slice p.b x.pe.length p.e, .int .i64 x.rf], .slice B m C] (fun v w' => opAg v fun cs => opL (nthD cs.toList 0) fun a n c => opL (nthD cs.toList 1) fun a2 n2 c2 => opI .i64 (nthD cs.toList 2) fun x' => SzIs cs.size 3 (K a n c a2 n2 c2 x' w')) w := by
  subst hm
  refine (f195_ok x p base w h l B C hr hin hl).call hL ?_
  rintro v w' ⟨a', c', rfl, ho⟩ m
  exact opAg_in <| opL_in <| opL_in <| opI_in <| SzIs_in rfl <| k a' c' w' ho m
theorem in194 {L : List Nat} {x : Rf} {p : RfS} {w : World} (hx : 0 ≤ x.rf ∧ x.rf ≤ 9223372036854775807) (hL : ∀ b ∈ L, b < w.heap.size)
    {K : Option Addr → Nat → Nat → Option Addr → Nat → Nat → Int → Bool → World → Prop} (k : ∀ w', Md [] w w' → K p.a x.step.1.sf.length p.c p.b x.step.1.pe.length p.e x.step.1.rf x.step.2 w') :
    CallW Try.prog L 194 #[.agg #[.slice p.a x.sf.length p.c, .slice p.b x.pe.length p.e, .int .i64 x.rf]] (fun v w' => opTu v fun cs14 => opAg (nthD cs14.toList 0) fun cs => opL (nthD cs.toList 0) fun a n c => opL (nthD cs.toList 1) fun a2 n2 c2 => opI .i64 (nthD cs.toList 2) fun x' => SzIs cs.size 3 (opB (nthD cs14.toList 1) fun b => SzIs cs14.size 2 (K a n c a2 n2 c2 x' b w'))) w := by
  refine (f194_ok x p hx w).call hL ?_
  rintro v w' rfl m
  exact opTu_in <| opAg_in <| opL_in <| opL_in <| opI_in <| SzIs_in rfl <| opB_in <| SzIs_in rfl <| k w' m
/-! ### New -/
def zStr : ByteArray := bytesOf (List.replicate 64 0)
def zRf (n : Nat) : Rf := ⟨List.replicate n zStr, [], 0⟩
theorem f113_ok (n : Nat) (h1 : 1 ≤ n) (h2 : n ≤ 65536) (w : World) : Ct Try.prog 113 #[.int .i64 n] w fun v w' => (∃ p, v = .tuple #[(zRf n).v p, .bool true] ∧ RfAt w' w.heap.size (zRf n) p) ∧ Md [] w w' := by
  apply f113_in
  intro n1 hn1
  refine Bd_f (by simp; omega) <| Bd_f (by simp; omega) <| Bd_f rfl <| If_f fun n6 hn6 w7 h7 hL7 => ?_
  have l1 := hL7 n1 (by simp)
  have l6 := hL7 n6 (by simp)
  have hs7 := h7.size
  refine LoopP_in (fun mm us vs w' => ∃ (i : Nat) (a : Option Addr) (c : Nat), us = [.int .i64 i] ∧ vs = [.agg #[.slice a (List.replicate i zStr).length c, .slice none 0 0, .int .i64 0]] ∧ mm = n - i ∧ i ≤ n ∧ Md [] w w' ∧ OwnL w' w7.heap.size 9 1 s1 a c (List.replicate i zStr) ∧ w7.heap.size ≤ w'.heap.size) n
    ⟨0, none, 0, rfl, rfl, rfl, by omega, h7, OwnL.nil _ _ _ _ _, Nat.le_refl _⟩ ?_
  rintro mm us vs w11 ⟨i, a, c, rfl, rfl, rfl, hi, hmd, ho, hsz⟩
  refine opI_in <| opAg_in <| opL_in <| opL_in <| opI_in <| SzIs_in rfl <| Bd_in fun b21 hb21 => If_in (fun hb => ?_) fun hb w77 h77 hL77 => ?_
  · have hi' : i < n := by rw [hb21] at hb; simpa using hb
    have hL : ∀ {w' : World}, Md [] w11.drew w' → ∀ b ∈ [n6, n1], b < w'.heap.size := fun hm b hb => by
      have h1 := hm.size
      have h2 : w11.heap.size ≤ _ := h1
      have := hL7 b hb
      omega
    have cv : ∀ {w' : World} {a' : Option Addr} {base : Nat}, OwnL w' base 5 1 b1 a' 64 (List.replicate 64 0) → (convert 51 9 (.slice a' 64 64)).run Try.prog w' = .ok (.string zStr) w' := fun o => conv_row (o.row encb1) (fun x hx => by have := List.eq_of_mem_replicate hx; omega) 64 64 (by simp)
    have fin : ∀ w' : World, Md [] w11.drew w' → Nw (.cells #[.string zStr] 9) w' fun b w2 => RunW Try.prog [n6, n1] (Builtin.append_ #[55, 55] 55 #[.slice a (List.replicate i zStr).length c, .slice (some { block := b, off := 0 }) 1 1]) (fun v32 w33 => opL v32 fun a34 n35 n36 => Up [n6] [n6, n1] w33 fun w37 => Bd (IntKind.wrap IntKind.i64 ((i : Int) + (1 : Int))) fun x38 =>
        ∃ m', m' < n - i ∧ ∃ (i' : Nat) (a' : Option Addr) (c' : Nat), [Value.int .i64 x38] = [.int .i64 i'] ∧ [Value.agg #[.slice a34 n35 n36, .slice none 0 0, .int .i64 0]] = [.agg #[.slice a' (List.replicate i' zStr).length c', .slice none 0 0, .int .i64 0]] ∧ m' = n - i' ∧ i' ≤ n ∧ Md [] w w37 ∧ OwnL w37 w7.heap.size 9 1 s1 a' c' (List.replicate i' zStr) ∧ w7.heap.size ≤ w37.heap.size) w2 := by
      intro w' hm
      have hmw := hmd.trans ((Md_drew w11).trans hm)
      have ho' := ho.md ((Md_drew w11).trans hm)
      have hs' : w11.heap.size ≤ w'.heap.size := hm.size
      refine app_one rowT55 encs1 zStr rfl ho' (by omega) (hL hm) (fun b hb A hA e => by have := (ho'.lt hA).1; have := hL7 b hb; omega) (by simp [maxLen]; omega) (by simp; omega) fun a' c' w33 o33 m33 _ => opL_in fun w37 h37 hL37 => Bd_e (inc_i64 (by omega)) ?_
      rw [← List.replicate_succ'] at o33 ⊢
      refine ⟨n - (i + 1), by omega, i + 1, a', c', rfl, rfl, rfl, by omega, (md_app ho' m33 hs7 hmw).old h37 (by simp; exact hn6), o33.mdD h37 (fun A hA => by have := (o33.lt hA).1; simp; omega), ?_⟩
      have := m33.size
      have := h37.size
      omega
    refine ⟨in_made64 (hL (Md.refl _ _)) fun a24 w23 o23 m23 => opL_in <| RunW_in0 (cv o23) <| opStr_in <| fin w23 m23, in_made64 (hL (Md.refl _ _)) fun a24 w23 o23 m23 => opL_in ⟨RunW_in0 (cv o23) <| opStr_in <| fin w23 m23, RunW_in0 (cv o23) <| opStr_in ⟨fin w23 m23, fin w23 m23⟩⟩⟩
  · have hi' : i = n := by rw [hb21] at hb; have : ¬ (i : Int) < (n : Int) := by simpa using hb
                           omega
    subst hi'
    exact ⟨⟨⟨a, c, none, 0⟩, rfl, ⟨(ho.mdD h77 (fun A hA => by have := (ho.lt hA).1; simp; omega)).down hs7, OwnL.nil _ _ _ _ _, ⟨by simp [zRf], by simp [zRf]⟩, by simp [zRf]; omega, by simp [zRf]⟩⟩, hmd.old h77 (by simp; exact hn1)⟩
/-! ### Write -/
def Rf.write (x : Rf) (i : Int) (b : List Nat) : Rf × Int := if ¬ (0 ≤ i ∧ i < x.sf.length ∧ b.length = 64) then (x, 2) else if x.step.2 = true then (⟨x.step.1.sf, x.pe ++ [(i, bytesOf b)], x.step.1.rf⟩, 0) else (x.step.1, 200)
theorem f115_ok (x : Rf) (p : RfS) (base : Nat) (w : World) (h : RfAt w base x p) (hb : base ≤ w.heap.size) (i : Int) (A : Option Addr) (C : Nat) (b : List Nat) (hr : RowAt w A 1 b1 b) (hbl : ∀ z ∈ b, z < 256) (hb2 : b.length < 2 ^ 30) (hpl : x.pe.length < 2 ^ 28) :
    Ct Try.prog 115 #[x.v p, .int .i64 i, .slice A b.length C] w fun v w' => (∃ p', v = .tuple #[(x.write i b).1.v p', .int .i64 (x.write i b).2] ∧ RfAt w' base (x.write i b).1 p' ∧ NewS w p p') ∧ Md [] w w' := by
  unfold Rf.v
  apply f115_in
  intro n1 hn1 n2 hn2
  have hsl := h.sl
  refine Bd_in fun b3 hb3 => Bd_e rfl <| Bd_in fun b5 hb5 => Bd_in fun b6 hb6 => Bd_e rfl <| Bd_in fun b8 hb8 => Bd_in fun b9 hb9 => ?_
  have e9 : b9 = !decide (0 ≤ i ∧ i < x.sf.length ∧ b.length = 64) := by
    rw [hb9, hb6, hb3, hb5, hb8, Bool.eq_iff_iff]
    by_cases c1 : i < 0
    · simp [c1]; try omega
    · by_cases c2 : (x.sf.length : Int) ≤ i
      · simp [c2]; try omega
      · simp [c1, c2]; try omega
  refine If_in (fun hv w10 h10 hL10 => ?_) fun hv w11 h11 hL11 => ?_
  · have : ¬ (0 ≤ i ∧ i < x.sf.length ∧ b.length = 64) := by
      intro hh
      rw [e9, decide_eq_true hh] at hv
      cases hv
    have e : x.write i b = (x, 2) := by unfold Rf.write; rw [if_pos this]
    rw [e]
    have m10 : Md [] w w10 := h10.fresh (by simp; exact hn2)
    exact ⟨⟨p, rfl, h.md m10, NewS.refl _ _⟩, m10⟩
  have hval : 0 ≤ i ∧ i < x.sf.length ∧ b.length = 64 := by rw [e9] at hv; simpa using hv
  refine in194 h.rf hL11 fun w13 m13 n24 hn24 => Bd_in fun b25 hb25 => If_in (fun hs w26 h26 hL26 => ?_) fun hs => ?_
  · have hs' : ¬ x.step.2 = true := by rw [hb25] at hs; simpa using hs
    have e : x.write i b = (x.step.1, 200) := by unfold Rf.write; rw [if_neg (fun hh => hh hval), if_neg hs']
    rw [e]
    have m26 : Md [] w w26 := (h11.trans m13).old h26 (by simp; exact ⟨hn2, by have := h11.size; have := m13.size; omega⟩)
    exact ⟨⟨p, rfl, h.step.md m26, NewS.refl _ _⟩, m26⟩
  have hs' : x.step.2 = true := by rw [hb25] at hs; simpa using hs
  have e : x.write i b = (⟨x.step.1.sf, x.pe ++ [(i, bytesOf b)], x.step.1.rf⟩, 0) := by unfold Rf.write; rw [if_neg (fun hh => hh hval), if_pos hs']
  rw [e]
  have hpe := x.step_sf.2
  have hst := h.step
  rw [hpe] at *
  refine Jn_in (fun us vs w' => ∃ (a : Option Addr) (c : Nat), vs = [.agg #[.slice p.a x.step.1.sf.length p.c, .slice a (x.pe ++ [(i, bytesOf b)]).length c, .int .i64 x.step.1.rf]] ∧ OwnL w' w.heap.size 257 2 wr2 a c (x.pe ++ [(i, bytesOf b)]) ∧ Md [] w w' ∧ n2 < w'.heap.size ∧ ∀ A, a = some A → A.block ≠ n2) ?_ ?_
  · rintro us vs w29 ⟨a, c, rfl, ho, hm, hn2', hne⟩
    refine opAg_in <| opL_in <| opL_in <| opI_in <| SzIs_in rfl fun w38 h38 hL38 => ?_
    have m38 : Md [] w w38 := hm.old h38 (by simp; exact hn2)
    have m38' : Md [] w w38 := m38
    refine ⟨⟨⟨p.a, p.c, a, c⟩, rfl, ⟨hst.sf.md m38, (ho.mdD h38 (fun A hA => by simp; exact hne A hA)).down hb, hst.rf, hst.sl, by simp; omega⟩, ⟨fun A hA => .inl hA, fun A hA => .inr (ho.lt hA).1⟩⟩, m38⟩
  intro w40 h40 hL40
  have m40 : Md [] w w40 := (h11.trans m13).old h40 (by simp; have := h11.size; have := m13.size; omega)
  have l24 := hL40 n24 (by simp)
  have l2 := hL40 n2 (by simp)
  have l1 := hL40 n1 (by simp)
  have hLL : ∀ {w' : World}, Md [] w40.drew w' → ∀ b ∈ [n24, n2, n1], b < w'.heap.size := fun hm b hb => by
    have h1 := hm.size
    have h2 : w40.heap.size ≤ _ := h1
    have := hL40 b hb
    omega
  have hsz : ∀ {w' : World}, Md [] w40.drew w' → w40.heap.size ≤ w'.heap.size := fun hm => hm.size
  have up : ∀ {w' : World}, Md [] w40.drew w' → Md [] w w' := fun hm => m40.trans ((Md_drew w40).trans hm)
  refine ⟨fun w' => Md [] w w', up (Md.refl _ _), _, fun w' hm => ⟨conv_row (hr.md hm) hbl _ _ rfl⟩, opStr_in ?_⟩
  have hs40 := m40.size
  have oE : ∀ w' : World, Md [] w40.drew w' → OwnL (w'.alloc (.cells #[] 257)) w40.heap.size 257 2 wr2 (some ⟨w'.heap.size, 0, none⟩) 0 [] := fun w' hm => OwnL.lit (P := Try.prog) encw2 w' 257 [] #[] (hsz hm) (by simp [maxLen]) rfl
  have oP : ∀ w' : World, Md [] w40.drew w' → OwnL (w'.alloc (.cells #[.int .i64 i, .string (bytesOf b)] 257)) w40.heap.size 257 2 wr2 (some ⟨w'.heap.size, 0, none⟩) 1 [(i, bytesOf b)] := fun w' hm => OwnL.lit (P := Try.prog) encw2 w' 257 [(i, bytesOf b)] _ (hsz hm) (by simp [maxLen]) rfl
  have al : ∀ {w' : World} (o : Obj), Md [] w40.drew w' → Md [] w40.drew (w'.alloc o) := fun {w'} o hm => hm.trans (Md.alloc w' o)
  have fin : ∀ (wX : World) (a : Option Addr) (c N : Nat), OwnL wX w40.heap.size 257 2 wr2 a c x.pe → OwnL wX w40.heap.size 257 2 wr2 (some ⟨N, 0, none⟩) 1 [(i, bytesOf b)] → Md [] w40.drew wX →
      RunW Try.prog [n24, n2, n1] (Builtin.append_ #[137, 137] 137 #[.slice a x.pe.length c, .slice (some (Addr.mk N 0 none)) 1 1]) (fun v55 w56 => opL v55 fun a57 n58 n59 => Md [] w w56 ∧ Up [n24] [n24, n2, n1] w56 fun w60 => Md [] w w60 ∧
        ∃ (a' : Option Addr) (c' : Nat), [Value.agg #[.slice p.a x.step.1.sf.length p.c, .slice a57 n58 n59, .int .i64 x.step.1.rf]] = [.agg #[.slice p.a x.step.1.sf.length p.c, .slice a' (x.pe ++ [(i, bytesOf b)]).length c', .int .i64 x.step.1.rf]] ∧ OwnL w60 w.heap.size 257 2 wr2 a' c' (x.pe ++ [(i, bytesOf b)]) ∧ Md [] w w60 ∧ n2 < w60.heap.size ∧ ∀ A, a' = some A → A.block ≠ n2) wX := by
    intro wX a c N oa ob hm
    refine app_own rowT137 encw2 oa ob (hsz hm) (hLL hm) (fun b hb A hA e => by have := (oa.lt hA).1; have := hL40 b hb; omega) (by simp [maxLen]; omega) (by simp; omega) fun a' c' w56 o56 m56 _ => opL_in ?_
    have m56' : Md [] w40.drew w56 := md_app oa m56 (by show w40.heap.size ≤ _; exact Nat.le_refl _) hm
    refine ⟨up m56', fun w60 h60 hL60 => ?_⟩
    have hs56 := hsz m56'
    have m60 : Md [] w w60 := (up m56').old h60 (by simp; have := h11.size; have := m13.size; omega)
    refine ⟨m60, a', c', rfl, (o56.mdD h60 (fun A hA => by have := (o56.lt hA).1; simp; omega)).down hs40, m60, hL60 n2 (by simp), fun A hA => by have := (o56.lt hA).1; omega⟩
  have first : ∀ (wX : World) (N : Nat), OwnL wX w40.heap.size 257 2 wr2 (some ⟨N, 0, none⟩) 0 [] → Md [] w40.drew wX → ∀ K : Value → World → Prop, (∀ a c w', OwnL w' w40.heap.size 257 2 wr2 a c x.pe → Md [] w40.drew w' → (∀ M, M < wX.heap.size → M ≠ N → OwnL wX w40.heap.size 257 2 wr2 (some ⟨M, 0, none⟩) 1 [(i, bytesOf b)] → OwnL w' w40.heap.size 257 2 wr2 (some ⟨M, 0, none⟩) 1 [(i, bytesOf b)]) → K (.slice a x.pe.length c) w') →
      RunW Try.prog [n24, n2, n1] (Builtin.append_ #[137, 137] 137 #[.slice (some (Addr.mk N 0 none)) 0 0, .slice p.b x.pe.length p.e]) K wX := by
    intro wX N oe hm K k
    refine app_own rowT137 encw2 oe (h.pe.md (up hm)) (hsz hm) (hLL hm) (fun b hb A hA e => by have := (oe.lt hA).1; have := hL40 b hb; omega) (by simp [maxLen]; omega) (by simp; omega) fun a' c' w56 o56 m56 _ => ?_
    rw [List.nil_append] at *
    exact k a' c' w56 o56 (md_app oe m56 (by show w40.heap.size ≤ _; exact Nat.le_refl _) hm) fun M hM hne o => o.mdD m56 (fun A hA => by cases hA; simpa using hne)
  have m0 : Md [] w40.drew w40.drew := Md.refl _ _
  refine ⟨Nw_e ⟨up (al _ m0), first _ _ (oE _ m0) (al _ m0) _ fun a c w49 o49 m49 _ => opL_in ⟨up m49, Nw_e ⟨up (al _ m49), fin _ a c _ (o49.md (Md.alloc _ _)) (oP _ m49) (al _ m49)⟩⟩,
    Nw_e ⟨up (al _ (al _ m0)), first _ _ ((oE _ m0).md (Md.alloc _ _)) (al _ (al _ m0)) _ fun a c w49 o49 m49 hk => opL_in ⟨up m49, fin _ a c _ o49 (hk _ (by simp) (by simp) (oP _ (al _ m0))) m49⟩⟩⟩,
    Nw_e ⟨up (al _ m0), Nw_e ⟨up (al _ (al _ m0)), first _ _ (oE _ (al _ m0)) (al _ (al _ m0)) _ fun a c w49 o49 m49 hk => opL_in ⟨up m49, fin _ a c _ o49 (hk _ (by simp; omega) (by simp) ((oP _ m0).md (Md.alloc _ _))) m49⟩⟩⟩⟩
/-! ### Flush, Arm -/
def Rf.flush (x : Rf) : Rf × Int := if x.step.2 = true then (⟨keptL x.sf x.pe, [], x.step.1.rf⟩, 0) else (x.step.1, 200)
theorem f116_ok (x : Rf) (p : RfS) (base : Nat) (w : World) (h : RfAt w base x p) (hb : base ≤ w.heap.size) (hin : ∀ q ∈ x.pe, 0 ≤ q.1 ∧ q.1 < x.sf.length) :
    Ct Try.prog 116 #[x.v p] w fun v w' => (∃ p', v = .tuple #[x.flush.1.v p', .int .i64 x.flush.2] ∧ RfAt w' base x.flush.1 p' ∧ NewS w p p') ∧ Md [] w w' := by
  unfold Rf.v
  apply f116_in
  intro n1 hn1 n2 hn2 w3 h3 hL3
  refine in194 h.rf hL3 fun w5 m5 n16 hn16 => Bd_in fun b17 hb17 => If_in (fun hs w18 h18 hL18 => ?_) fun hs w19 h19 hL19 => ?_
  · have hs' : ¬ x.step.2 = true := by rw [hb17] at hs; simpa using hs
    have e : x.flush = (x.step.1, 200) := by unfold Rf.flush; rw [if_neg hs']
    rw [e]
    have m : Md [] w w18 := (h3.trans m5).old h18 (by simp; exact ⟨hn2, by have := h3.size; have := m5.size; omega⟩)
    exact ⟨⟨p, rfl, h.step.md m, NewS.refl _ _⟩, m⟩
  have hs' : x.step.2 = true := by rw [hb17] at hs; simpa using hs
  have e : x.flush = (⟨keptL x.sf x.pe, [], x.step.1.rf⟩, 0) := by unfold Rf.flush; rw [if_pos hs']
  rw [e]
  obtain ⟨hsf, hpe⟩ := x.step_sf
  have m19 : Md [] w w19 := (h3.trans m5).old h19 (by simp; have := h3.size; have := m5.size; omega)
  have hst := h.step.md m19
  have hpl := h.pl
  refine in195 hst rfl (hst.pe.row encw2) (by rw [hpe, hsf]; exact hin) (by rw [hpe]; omega) hL19 fun a c w21 o21 m21 w30 h30 hL30 => ?_
  have hs19 := m19.size
  rw [hsf, hpe] at o21
  have l2 := hL19 n2 (by simp)
  have m30 : Md [] w w30 := (m19.trans m21).old h30 (by simp; exact hn2)
  refine ⟨⟨⟨a, c, none, 0⟩, ?_, ⟨(o21.mdD h30 (fun A hA => by have := (o21.lt hA).1; simp; omega)).down (by omega), OwnL.nil _ _ _ _ _, h.step.rf, by simp [keptL_len]; exact h.sl, by simp⟩, ⟨fun A hA => .inr (by have := (o21.lt hA).1; omega), fun A hA => by cases hA⟩⟩, m30⟩
  simp only [Rf.v, keptL_len, hsf]
  rfl
def Rf.arm (x : Rf) (n : Int) : Rf := { x with rf := if n < 1 then 0 else n }
theorem f117_ok (x : Rf) (p : RfS) (n : Int) (w : World) : Ct Try.prog 117 #[x.v p, .int .i64 n] w fun v w' => v = (x.arm n).v p ∧ Md [] w w' := by
  unfold Rf.v
  apply f117_in
  intro n1 hn1 n2 hn2
  refine Jn_in (fun us vs w' => us = [.int .i64 (x.arm n).rf] ∧ Md [] w w') ?_ (Bd_in fun b9 hb9 => If_in (fun hb w10 h10 _ => ⟨?_, h10⟩) fun hb w10 h10 _ => ⟨?_, h10⟩)
  · rintro us vs w5 ⟨rfl, hm⟩
    exact opI_in fun w7 h7 hL7 => ⟨rfl, hm.old h7 (by simp; exact ⟨hn2, hn1⟩)⟩
  · have : n < 1 := by rw [hb9] at hb; simpa using hb
    unfold Rf.arm; simp [this]
  · have : ¬ n < 1 := by rw [hb9] at hb; simpa using hb
    unfold Rf.arm; simp [this]
end Fk
