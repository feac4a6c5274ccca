/- The law 'TableCut': what its code does. -/
import Derived.Test.YtpgjpgecgibklaaC29
import Derived.Test.YtpgjpgecgibklaaT7
set_option linter.unusedVariables false
set_option linter.unusedSimpArgs false
set_option maxRecDepth 100000
namespace Fk
open Go Go.Proofs Go.RowKit
theorem PS.nil (w : World) : PS w (w.alloc (.cells #[] 5)) (some ⟨w.heap.size, 0, none⟩) 0 [] :=
  ⟨Md.alloc w _, OwnL.lit (P := Try.prog) encb1 w 5 [] #[] (Nat.le_refl _) (by simp [maxLen]) rfl⟩
/-- Another row is appended. -/
theorem PS.appR {w2 w : World} {a : Option Addr} {c : Nat} {acc : List Nat} {L : List Nat} (S : PS w2 w a c acc) (A2 : Option Addr) (c2 n : Nat) (xs : List Nat) (hn : n = xs.length) (hr : RowAt w A2 1 b1 xs) (hne : A2 ≠ none) (hL : ∀ b ∈ L, b < w2.heap.size) (hl : acc.length + xs.length ≤ 2 ^ 40) {K : Value → World → Prop}
    (k : ∀ a' c' w', PS w2 w' a' c' (acc ++ xs) → K (.slice a' (acc ++ xs).length c') w') :
    RunW Try.prog L (Builtin.append_ #[51, 51] 51 #[.slice a acc.length c, .slice A2 n c2]) K w := by
  subst hn
  cases A2 with
  | none => exact absurd rfl hne
  | some A =>
    refine S.appC A xs.length c2 xs rfl ?_ hL hl fun a' c' w' S' _ => k a' c' w' S'
    intro j x hx
    obtain ⟨B, hB, hc⟩ := hr j x hx
    cases hB
    have := hc 0 (.int .u8 (x : Int)) rfl
    rw [Nat.mul_one, addr_add0] at this
    exact this
theorem some_of_row {α : Type} {w : World} {A : Option Addr} {s : Nat} {en : α → List Value} {l : List α} (h : RowAt w A s en l) (hl : 0 < l.length) : A ≠ none := by
  obtain ⟨B, hB, _⟩ := h 0 l[0] (List.getElem?_eq_getElem hl)
  rw [hB]; simp
theorem Good.tl {L : List Nat} {n : Nat} {w0 w : World} (g : Good (n :: L) w0 w) : Good L w0 w := ⟨g.1, fun x hx => g.2 x (List.mem_cons_of_mem _ hx)⟩
theorem tmod_nat {c : Int} {n : Nat} (h0 : 0 ≤ c) : Int.tmod c (n : Int) = ((c.toNat % n : Nat) : Int) := by
  obtain ⟨k, rfl⟩ := Int.eq_ofNat_of_zero_le h0
  rw [Int.tmod_eq_emod_of_nonneg h0]; rfl
theorem wrap_small {c : Int} (h0 : 0 ≤ c) (h1 : c < 2 ^ 62) : IntKind.wrap .i64 c = c := by rw [IntKind.wrap_i64]; omega
theorem f10_ok (t : Tb) (p : TbS) (cut at' : Int) (hc0 : 0 ≤ cut) (hc1 : cut < 65536) (ha0 : 0 ≤ at') (ha1 : at' < 65536) (x : Nat) (hx : x < 256) (more : List Nat) (A : Option Addr) (C : Nat) (hm : ∀ z ∈ more, z < 256)
    (hml : more.length < 2 ^ 63) (w : World) (ht : TbAt w t p) (hr : RowAt w A 1 b1 more) :
    Ct Try.prog 10 #[.agg (t.v p), .int .u16 cut, .int .u16 at', .int .u8 x, .slice A more.length C] w fun v w' => v = .bool true ∧ Md [] w w' := by
  apply f10_in
  intro n1 hn1
  refine ⟨ht.size, fun w2 h2 hL2 => ?_⟩
  have g2 : Good [n1] w w2 := ⟨h2, hL2⟩
  refine in53 ht g2 fun w4 b5 g4 hfew => ?_
  cases b5 with
  | false => exact Bd_t rfl ⟨fun h => (by cases h), Gd_f <| Bd_t rfl <| Bd_t rfl <| If_t <| in54 g4 fun w17 g17 => ⟨rfl, g17.1⟩⟩
  | true =>
  refine Bd_f rfl ⟨fun _ => ht.size, Gd_t <| in55 ht g4 fun w13 g13 => ?_⟩
  cases htr : tRight t with
  | false => exact Bd_t rfl <| Bd_t rfl <| If_t <| in54 g13 fun w17 g17 => ⟨rfl, g17.1⟩
  | true =>
  refine Bd_f rfl <| Bd_f rfl <| If_f ⟨ht.size, inPk (f59_ok t p w13 (ht.md g13.1)) g13 fun a n c e w20 g20 m20 hpk => ?_⟩
  rcases hpk with ⟨_, rfl, rfl, ho⟩ | ⟨hno, _⟩
  case inr => rw [htr] at hno; cases hno
  have hR := RtF.of htr
  have hpl := pack_len ht.ok hR
  have hpb := pack_lt ht.ok hR
  have hrd := rd_pack ht.ok htr
  have hp0 : 0 < (packL t).length := by simp only [packL, hdrL, List.length_append, List.length_cons]; omega
  have hcap := ho.cap
  have hrow : RowAt w20 a 1 b1 (packL t) := ho.row encb1
  have han := some_of_row hrow hp0
  generalize hP : packL t = P at *
  refine Bd_f rfl <| Bd_e rfl <| Bd_f (by rw [beq_eq_false_iff_ne]; omega) <| Bd_f rfl <| If_f <| Bd_e (wrap_small hc0 (by omega)) <| Bd_e rfl ⟨by omega, Bd_e (tmod_nat hc0) ?_⟩
  have hk : cut.toNat % P.length < P.length := Nat.mod_lt _ hp0
  refine RunW_in0 (slice_front (e := 5) (by kernel_rfl) (fun w => ⟨1, size5 w⟩) _ _ _ _ _ (by omega)) <| opL_in ?_
  refine in61' (b := P.take (cut.toNat % P.length)) (fun z hz => hpb z (List.mem_of_mem_take hz)) (by rw [List.length_take]; omega) (by rw [List.length_take]; omega) (by rw [List.length_take]; omega) (hrow.take _) g20 fun u q e w39 g39 m39 hF hrd39 => ?_
  rw [rdT_less hpb hrd hk] at hrd39
  rcases hrd39 with ⟨h, _⟩ | ⟨_, rfl, rfl⟩
  case inl => cases h
  intro n43 hn43
  refine OkC_in hF.cells fun w44 h44 hL44 => ?_
  have g44 := regUp g39 hn43 h44 hL44
  have m44 := m39.trans (mdUp hn43 h44)
  intro n45 w46 e45 e46
  subst e45; subst e46
  refine (PS.nil w44).appR a c _ P rfl (hrow.md (m44.trans (PS.nil w44).md)) han g44.2 (by simp; omega) fun a49 c49 w48 S48 => opL_in ?_
  refine S48.appN 1 [0] _ rfl rfl g44.2 (by simp; omega) fun a56 c56 w55 S55 => opL_in ?_
  rw [List.nil_append] at S55 ⊢
  have g55 : Good [n43, n1] w w55 := g44.tr S55.md
  have hb0 : ∀ z ∈ P ++ [0], z < 256 := by
    intro z hz
    rcases List.mem_append.1 hz with h | h
    · exact hpb z h
    · simp at h; omega
  refine in61' hb0 rfl (by simp; omega) S55.own.cap (S55.own.row encb1) g55 fun u q e w60 g60 m60 hF60 hrd60 => ?_
  rw [rdT_more hpb hrd (by simp)] at hrd60
  rcases hrd60 with ⟨h, _⟩ | ⟨_, rfl, rfl⟩
  case inl => cases h
  intro n64 hn64
  have m60' : Md [] w20 w60 := m44.trans (S55.md.trans m60)
  refine OkC_in hF60.cells <| Bd_f rfl <| Bd_f rfl <| Bd_f rfl <| If_f ?_
  refine Jn_in (fun us vs w' => us = [.bool false] ∧ Md [] w20 w' ∧ Good [n64, n43, n1] w w') ?_ ?_
  · rintro us vs w71 ⟨rfl, m71, g71⟩
    refine opB_in fun n73 w74 e73 e74 => ?_
    subst e73; subst e74
    refine (PS.nil w71).appR a c _ P rfl (hrow.md (m71.trans (PS.nil w71).md)) han g71.2 (by simp; omega) fun a77 c77 w76 S76 => opL_in ?_
    rw [List.nil_append] at S76 ⊢
    have hk2 : at'.toNat % P.length < P.length := Nat.mod_lt _ hp0
    refine Bd_e (wrap_small ha0 (by omega)) <| Bd_e rfl ⟨by omega, Bd_e (tmod_nat ha0) ?_⟩
    obtain ⟨B, rfl, hBlt, hBb, hBk, hWr, hown, hMd⟩ := S76.own.put encb1 (by omega) hk2 x
    have hBL : (adAt (some B) ((at'.toNat % P.length : Nat) : Int) 1).block ∉ [n64, n43, n1] := by
      rw [hBk]
      intro h
      have := g71.2 _ h
      omega
    have hMd' : Md [] w71 (setCells w76 (adAt (some B) ((at'.toNat % P.length : Nat) : Int) 1) 0 [.int .u8 (x : Int)]) := S76.md.old hMd (by simpa using hBb)
    refine ⟨⟨by omega, by omega, rfl⟩, hBL, hWr, ?_⟩
    have hbx : ∀ z ∈ P.set (at'.toNat % P.length) x, z < 256 := by
      intro z hz
      rcases List.mem_or_eq_of_mem_set hz with h | rfl
      · exact hpb z h
      · exact hx
    have hsl : (P.set (at'.toNat % P.length) x).length = P.length := List.length_set
    have hown' : OwnL (setCells w76 (adAt (some B) ((at'.toNat % P.length : Nat) : Int) 1) 0 [.int .u8 (x : Int)]) w71.heap.size 5 1 b1 (some B) c77 (P.set (at'.toNat % P.length) x) := hown
    have hcap' := hown'.cap
    generalize hw84 : setCells w76 (adAt (some B) ((at'.toNat % P.length : Nat) : Int) 1) 0 [.int .u8 (x : Int)] = w84 at *
    generalize hQ : P.set (at'.toNat % P.length) x = Q at *
    have g84 : Good [n64, n43, n1] w w84 := g71.tr hMd'
    refine in61' hbx hsl.symm (by omega) hcap' (hown'.row encb1) g84 fun u q e w85 g85 m85 hF85 hrd85 => ?_
    intro n88 hn88
    refine OkC_in hF85.cells fun w89 h89 hL89 => ?_
    have g89 := regUp g85 hn88 h89 hL89
    have m89 := m85.trans (mdUp hn88 h89)
    have s1 := str_of_row (c := c77) ((hown'.row encb1).md m89) hbx
    rw [hsl] at s1
    refine RunW_in0 s1 <| opStr_in <| RunW_in0 (str_of_row (hrow.md (m71.trans (hMd'.trans m89))) hpb) <| opStr_in ?_
    rw [str_eqL hbx hpb]
    have hF89 : TbAt w89 u q := hF85.at.md (mdUp hn88 h89)
    by_cases hQP : Q = P
    · refine Bd_t (by simpa using hQP) <| If_t ?_
      rw [hQP, hrd] at hrd85
      rcases hrd85 with ⟨h, rfl⟩ | ⟨h, _⟩
      case inr => cases h
      cases h
      refine Bd_t rfl ⟨fun _ => hF89.size, fun _ => ht.size, Gd_t <| in63 hF89 (ht.md g89.1) g89 fun w102 b g102 hb => ?_⟩
      cases hb.2 rfl
      exact Bd_t rfl <| Gd_t <| in54 g102 fun w109 g109 => Bd_t rfl ⟨rfl, g109.1⟩
    · refine Bd_f (by simpa using hQP) <| If_f ?_
      rcases hrd85 with ⟨h, rfl⟩ | ⟨h, rfl, rfl⟩
      · obtain ⟨hru, hpu, _⟩ := pack_rd hbx h
        have hne : u ≠ t := by
          rintro rfl
          rw [hP] at hpu
          exact hQP hpu.symm
        have q89 : Good [n88, n64, n43, n1] w89 w89 := ⟨Md.refl _ _, g89.2⟩
        refine Bd_f rfl <| Bd_t rfl ⟨fun _ => hF89.size, fun _ => ht.size, Gd_t <| in63 hF89 (ht.md g89.1) q89 fun w120 b q120 hb => ?_⟩
        have hbf : b = false := by cases b with | false => rfl | true => exact absurd (hb.1 rfl) hne
        subst hbf
        refine Bd_t rfl <| Bd_t rfl ⟨fun _ => hF89.size, Gd_t <| in55 hF89 q120 fun w129 q129 => ?_⟩
        rw [hru]
        exact Bd_t rfl <| Bd_t rfl <| Gd_t <| in54 (g89.tr q129.1) fun w137 g137 => Bd_t rfl ⟨rfl, g137.1⟩
      · refine Bd_t rfl <| Bd_f rfl ⟨fun h => by (cases h), fun h => by (cases h), Gd_f <| Bd_t rfl <| Bd_f rfl ⟨fun h => by (cases h), Gd_f <| Bd_f rfl <| Bd_t rfl <| Gd_t <| in54 g89 fun w137 g137 => Bd_t rfl ⟨rfl, g137.1⟩⟩⟩
  · by_cases hmo : 0 < more.length ∧ more.length ≤ 20
    · refine Bd_e rfl <| Bd_t (by simp; omega) <| Bd_e rfl <| Bd_t (by simp; omega) <| Bd_t rfl <| If_t fun w148 h148 hL148 => ?_
      have g148 := regUp g60 hn64 h148 hL148
      have m148 := mdUp hn64 h148
      intro n149 w150 e149 e150
      subst e149; subst e150
      refine (PS.nil w148).appR a c _ P rfl (hrow.md ((m60'.trans m148).trans (PS.nil w148).md)) han g148.2 (by simp; omega) fun a153 c153 w152 S152 => opL_in ?_
      refine S152.appR A C _ more rfl (hr.md (g148.1.trans S152.md)) (some_of_row hr hmo.1) g148.2 (by simp; omega) fun a158 c158 w157 S157 => opL_in ?_
      rw [List.nil_append] at S157 ⊢
      have hbm : ∀ z ∈ P ++ more, z < 256 := by
        intro z hz
        rcases List.mem_append.1 hz with h | h
        · exact hpb z h
        · exact hm z h
      refine in61' hbm rfl (by simp; omega) S157.own.cap (S157.own.row encb1) (g148.tr S157.md) fun u q e w162 g162 m162 hF162 hrd162 => ?_
      rw [rdT_more hpb hrd (by intro h; rw [h] at hmo; simp at hmo)] at hrd162
      rcases hrd162 with ⟨h, _⟩ | ⟨_, rfl, rfl⟩
      case inl => cases h
      intro n166 hn166
      refine OkC_in hF162.cells <| Bd_f rfl <| If_f fun w169 h169 hL169 => ?_
      have g169 := regUp g162 hn166 h169 hL169
      exact ⟨rfl, (m60'.trans m148).trans (S157.md.trans (m162.trans (mdUp hn166 h169))), g169.tl⟩
    · refine Bd_e rfl <| Bd_in fun b144 hb144 => Bd_e rfl <| Bd_in fun b146 hb146 => Bd_f ?_ <| If_f fun w170 h170 hL170 => ⟨rfl, m60'.trans (mdUp hn64 h170), regUp g60 hn64 h170 hL170⟩
      rw [hb144, hb146]
      by_cases h1 : 0 < more.length
      · have : ¬ more.length ≤ 20 := fun h => hmo ⟨h1, h⟩
        simp [h1]; omega
      · simp at h1; simp [h1]
end Fk
