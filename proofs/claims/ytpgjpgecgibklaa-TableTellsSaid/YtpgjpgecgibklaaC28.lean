/- The law 'TableStep': what its code does. -/
import Derived.Test.YtpgjpgecgibklaaC27
set_option linter.unusedVariables false
set_option linter.unusedSimpArgs false
set_option maxRecDepth 100000
namespace Fk
open Go Go.Proofs Go.RowKit
section
variable {L : List Nat} {w0 w : World}
theorem in54 {K : Bool → World → Prop} (h : Good L w0 w) (k : ∀ w', Good L w0 w' → K true w') : CallW Try.prog L 54 #[] (fun v w' => opB v fun b => K b w') w := by
  refine (f54_ok w).call h.2 ?_
  rintro v w' rfl h'
  exact opB_in (k w' (h.tr h'))
theorem in53 {t : Tb} {p : TbS} {K : Bool → World → Prop} (ht : TbAt w0 t p) (h : Good L w0 w) (k : ∀ w' b, Good L w0 w' → (b = true → t.few) → K b w') : CallW Try.prog L 53 #[.agg (t.v p)] (fun v w' => opB v fun b => K b w') w := by
  refine (f53_ok t p w (ht.md h.1)).call h.2 ?_
  rintro v w' ⟨b, rfl, hb⟩ h'
  exact opB_in (k w' b (h.tr h') hb)
theorem in57 {t : Tb} {p : TbS} {K : Int → World → Prop} (ht : TbAt w0 t p) (st : Int) (b : Nat) (hb : b < 256) (h : Good L w0 w) (k : ∀ w', Good L w0 w' → K (tStep t st b) w') :
    CallW Try.prog L 57 #[.agg (t.v p), .int .i64 st, .int .u8 b] (fun v w' => opI .i64 v fun x => K x w') w := by
  refine (f57_ok t p st b hb w (ht.md h.1)).call h.2 ?_
  rintro v w' rfl h'
  exact opI_in (k w' (h.tr h'))
theorem in63 {t u : Tb} {p q : TbS} {K : Bool → World → Prop} (ht : TbAt w t p) (hu : TbAt w u q) (h : Good L w0 w) (k : ∀ w' b, Good L w0 w' → (b = true ↔ t = u) → K b w') :
    CallW Try.prog L 63 #[.agg (t.v p), .agg (u.v q)] (fun v w' => opB v fun b => K b w') w := by
  refine (f63_ok t u p q w ht hu).call h.2 ?_
  rintro v w' ⟨b, rfl, hb⟩ h'
  exact opB_in (k w' b (h.tr h') hb)
end
theorem TbAt.byteI {w : World} {t : Tb} {p : TbS} (h : TbAt w t p) {b : Nat} (hb : b < 256) : isI .u8 (Array.toList (t.v p)) (0 + (b : Int).toNat * 1) ∧ rdI (Array.toList (t.v p)) (0 + (b : Int).toNat * 1) = ((t.c.f[b]'(by rw [h.ok.len]; exact hb) : Nat) : Int) := by
  have := h.byte hb
  unfold nthV at this
  exact ⟨⟨_, this⟩, by unfold rdI; rw [this]⟩
theorem f12_ok (t : Tb) (p : TbS) (st : Int) (a b : Nat) (ha : a < 256) (hb : b < 256) (w : World) (ht : TbAt w t p) :
    Ct Try.prog 12 #[.agg (t.v p), .int .i64 st, .int .u8 a, .int .u8 b] w fun v w' => v = .bool true ∧ Md [] w w' := by
  apply f12_in
  intro n1 hn1
  refine ⟨ht.size, fun w2 h2 hL2 => ?_⟩
  have g2 : Good [n1] w w2 := ⟨h2, hL2⟩
  refine in53 ht g2 fun w4 b5 g4 hfew => ?_
  refine Bd_in fun b6 hb6 => If_in (fun _ => in54 g4 fun w8 g8 => ⟨rfl, g8.1⟩) fun h => ?_
  refine Jn_in (fun us vs w' => us = [.int .i64 (tStep t st a), .int .i64 (tStep t st b)] ∧ Good [n1] w w') ?_ ?_
  · rintro us vs w12 ⟨rfl, g12⟩
    refine opI_in <| opI_in ⟨ht.size, in55 ht g12 fun w16 g16 => ?_⟩
    refine Bd_in fun b18 hb18 => Bd_in fun b19 hb19 => Bd_in fun b20 hb20 => ⟨p.ta, t.tg.length, p.tc, fun _ => ht.n259, Bd_in fun x25 hx25 => Bd_in fun b26 hb26 => Bd_in fun b27 hb27 => ?_⟩
    have e27 : b27 = !decide (tRight t = true ∧ 0 ≤ st ∧ st < t.tg.length) := by
      rw [hb27, hb26, hb20, hb19, hb18, hx25]
      cases tRight t <;> by_cases h1 : st < 0 <;> by_cases h2 : st ≥ t.tg.length <;> simp [h1, h2] <;> omega
    refine If_in (fun h => ?_) fun h => ?_
    · have hno := (not_eq_of e27).1 h
      rw [decide_eq_false_iff_not] at hno
      have ea : ∀ c, tStep t st c = -1 := fun c => by unfold tStep; rw [if_neg hno]
      refine Bd_in fun b28 hb28 => Bd_in fun b29 hb29 => Bd_in fun b30 hb30 => ?_
      have t30 : b30 = true := by rw [hb30, hb29, hb28, ea, ea]; rfl
      clear hb30
      subst t30
      exact ⟨fun _ => in54 g16 fun w33 g33 => Bd_in fun b37 hb37 => ⟨by rw [hb37]; rfl, g33.1⟩, fun h => by cases h⟩
    · have hyes := (not_eq_of e27).2 h
      rw [decide_eq_true_eq] at hyes
      obtain ⟨hr, h0, h1⟩ := hyes
      have hR := RtF.of hr
      obtain ⟨xa, hxa, hfa, hwr, hxa2, hpb, hsa⟩ := step_in ht.ok ha hr h0 h1
      obtain ⟨xb, hxb, hfb, _, hxb2, _, hsb⟩ := step_in ht.ok hb hr h0 h1
      have hna : -1 ≤ tStep t st a ∧ tStep t st a < t.tg.length := by
        rw [hsa]
        have h2 := hr
        unfold tRight tHead at h2
        simp only [Bool.and_eq_true] at h2
        have hd := h2.1.1.1.1.2
        unfold dRight at hd
        simp only [Bool.and_eq_true, List.all_eq_true, decide_eq_true_eq] at hd
        exact hd.2 _ (List.getElem_mem hxa)
      have ia := ht.byteI ha
      have ib := ht.byteI hb
      have fa : t.c.f[a]'(by rw [ht.ok.len]; exact ha) = xa := by
        have := List.getElem?_eq_getElem (l := t.c.f) (i := a) (by rw [ht.ok.len]; exact ha)
        rw [this] at hfa; exact Option.some.inj hfa
      have fb : t.c.f[b]'(by rw [ht.ok.len]; exact hb) = xb := by
        have := List.getElem?_eq_getElem (l := t.c.f) (i := b) (by rw [ht.ok.len]; exact hb)
        rw [this] at hfb; exact Option.some.inj hfb
      refine Bd_in fun b38 hb38 => ⟨p.ta, t.tg.length, p.tc, fun _ => ht.n259, Bd_in fun x43 hx43 => Bd_in fun b44 hb44 => Bd_in fun b45 hb45 => ⟨fun _ => ⟨by omega, by omega⟩, fun _ => ia.1, Bd_in fun x48 hx48 => ⟨fun _ => ⟨by omega, by omega⟩, fun _ => ib.1, Bd_in fun x51 hx51 => Bd_in fun b52 hb52 => Bd_in fun b53 hb53 => Bd_in fun b54 hb54 => Bd_in fun b55 hb55 => ?_⟩⟩⟩
      have e55 : b55 = false := by
        rw [hb55, hb54, hb53, hb52, hb45, hb44, hb38, hx51, hx48, hx43, ia.2, ib.2, fa, fb]
        have c1 : decide (tStep t st a < -1) = false := by rw [decide_eq_false_iff_not]; omega
        have c2 : decide (tStep t st a ≥ (t.tg.length : Int)) = false := by rw [decide_eq_false_iff_not]; omega
        rw [c1, c2]
        by_cases hx : xa = xb
        · subst hx
          rw [hsa, hsb]; simp
        · have : ((xa : Int) == (xb : Int)) = false := by rw [beq_eq_false_iff_ne]; omega
          rw [this]; rfl
      have g16d := g16.drew.drew
      refine If_in (fun h => absurd h (by rw [e55]; simp)) fun _ => ⟨fun w' => Md [] w w', g16d.1, BdO_in ht.n258 <| opL_in <| BdO_in ht.n257 <| opI_in <| Bd_in fun x63 hx63 => ⟨⟨by omega, by omega⟩, BdO_in (ht.byte ha) <| opI_in <| Bd_in fun x66 hx66 => Bd_in fun x67 hx67 => ?_⟩⟩
      have e67 : x67 = (((st * t.dm).toNat + xa : Nat) : Int) := by
        rw [hx67, hx66, hx63, hwr, fa, wrap_byte hxa2, IntKind.wrap_i64]; omega
      subst e67
      refine ⟨ht.nx.ix hxa, .int .i64 t.nx[(st * t.dm).toNat + xa], fun w' hw' => (ht.nx.md hw').ld1 hxa rfl rfl, opI_in <| Bd_in fun b73 hb73 => ?_⟩
      have t73 : b73 = true := by rw [hb73, hsa]; simp
      clear hb73
      subst t73
      exact ⟨fun _ => in54 g16d fun w33 g33 => ⟨g33.1, Bd_in fun b37 hb37 => ⟨by rw [hb37]; rfl, g33.1⟩⟩, fun h => by cases h⟩
  · refine ⟨ht.size, ht.size, in57 ht st a ha g4.drew fun w83 g83 => in57 ht st b hb g83 fun w86 g86 => ⟨rfl, g86⟩⟩
end Fk
