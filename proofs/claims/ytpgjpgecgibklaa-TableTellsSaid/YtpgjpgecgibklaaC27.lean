/- Contracts: the chapter's examples of tables. -/
import Derived.Test.YtpgjpgecgibklaaC26
import Derived.Lib.AppendZerosOnto
set_option linter.unusedVariables false
set_option linter.unusedSimpArgs false
set_option maxRecDepth 100000
namespace Fk
open Go Go.Proofs Go.RowKit
theorem bytesL_lt (s : ByteArray) : ∀ x ∈ bytesL s, x < 256 := by
  intro x hx
  unfold bytesL at hx
  obtain ⟨b, _, rfl⟩ := List.mem_map.1 hx
  exact UInt8.toNat_lt b
theorem pack_lt {t : Tb} (hok : t.c.ok) (h : RtF t) : ∀ x ∈ packL t, x < 256 := by
  intro x hx
  have h1 := h.d1
  have h2 := h.d2
  have h3 := h.tg2
  have h4 := h.n2
  unfold packL at hx
  simp only [List.mem_append] at hx
  rcases hx with (((hx | hx) | hx) | hx) | hx
  · simp [hdrL] at hx; omega
  · obtain ⟨s, hs, hx⟩ := List.mem_flatMap.1 hx
    rcases List.mem_cons.1 hx with rfl | hx
    · have := h.sz s hs; omega
    · exact bytesL_lt s x hx
  · obtain ⟨i, hi, rfl⟩ := List.mem_iff_getElem.1 hx
    exact hok.lt i hi
  · obtain ⟨y, hy, rfl⟩ := List.mem_map.1 hx
    have := h.tag y hy
    unfold tagB; omega
  · obtain ⟨y, hy, hx⟩ := List.mem_flatMap.1 hx
    have := h.nxt y hy
    simp [encX] at hx; omega
theorem pack_len {t : Tb} (hok : t.c.ok) (h : RtF t) : (packL t).length ≤ 2600000 := by
  have h1 := h.names t.nm.length
  have h2 := h.nexts t.nx.length
  have h3 := h.tg2
  rw [List.take_length] at h1 h2
  have h4 : (hdrL t).length = 7 := rfl
  have h5 := hok.len
  unfold packL
  simp only [List.length_append, List.length_map]
  omega
theorem PS.appZ {w2 w : World} {A : Addr} {c : Nat} {acc : List Nat} {L : List Nat} (S : PS w2 w (some A) c acc) (k : Nat) (h0 : 0 < k) (hc : c < acc.length + k) (hcl : acc.length + k ≤ 2 ^ 20) (hL : ∀ b ∈ L, b < w2.heap.size) {K : Value → World → Prop}
    (kk : ∀ a' c' w', PS w2 w' a' c' (acc ++ List.replicate k 0) → K (.slice a' (acc ++ List.replicate k 0).length c') w') :
    RunW Try.prog L (Builtin.append_ #[51, 3] 51 #[.slice (some A) acc.length c, .int .i64 k]) K w := by
  have hsz := S.md.size
  have h5 : (Try.prog.info? 5).isSome = true := by kernel_rfl
  obtain ⟨i5, hi5⟩ := Option.isSome_iff_exists.1 h5
  have hz5 : (Try.prog.info? 5).bind (·.zero) = some (.int .u8 0) := by kernel_rfl
  have hs5 : (Try.prog.info? 5).map (fun i => (i.size, i.bytes)) = some (1, 1) := by kernel_rfl
  rw [hi5] at hz5 hs5
  simp only [Option.bind_some, Option.map_some, Option.some.injEq, Prod.mk.injEq] at hz5 hs5
  have hcell : ∀ j v, (acc.flatMap b1)[j]? = some v → w.drew.cell? (A.add j) = some v := by
    intro j v hv
    obtain ⟨A', hA', hc'⟩ := S.drew.own.cells j v hv
    cases hA'
    exact hc'
  have hlen : (acc.flatMap b1).length = acc.length := by rw [encb1.lenL, Nat.mul_one]
  have hold : (Builtin.firstCells i5.size acc.length (.slice (some A) acc.length c)).run Try.prog w.drew = .ok (acc.flatMap b1).toArray w.drew := by
    have := run_loadCells_list (P := Try.prog) w.drew A (acc.flatMap b1) hcell
    rw [hlen] at this
    simp [Builtin.firstCells, hs5.1, this]
  have hge := grownCap_ge w (acc.length + k) c 5
  have hcm : grownCap w (acc.length + k) c 5 ≤ maxLen := grownCap_le_maxLen w (acc.length + k) c 5 (by simp [maxLen]; omega)
  have hfit : Builtin.nextslicecap (acc.length + k) c * i5.bytes ≤ 281474976710656 := by
    rw [hs5.2, Nat.mul_one]
    have := nextslicecap_le hc
    omega
  have hr := Lib.run_append_grow_zeros (P := Try.prog) w 51 3 51 5 i5 (.int .u8 0) .i64 .i64 (by kernel_rfl) (by kernel_rfl) hi5 hz5 (some A) acc.length c (acc.flatMap b1) hold k h0 (by rw [hs5.1]; omega) hc (by omega) (by rw [hs5.2]; omega) hfit
  refine RunW_in hr ?_ ?_
  · intro b hb
    have := hL b hb
    exact heap_alloc_old w.drew _ b (by show b < w.heap.size; omega)
  · have hz1 : (Value.int IntKind.u8 0).cells = #[.int .u8 0] := rfl
    have hrep : (Builtin.zeroCells (Value.int IntKind.u8 0).cells k).toList = (List.replicate k 0).flatMap b1 := by
      have hl : ∀ k : Nat, (List.replicate k (0 : Nat)).flatMap b1 = List.replicate k (Value.int .u8 0) := by
        intro k; induction k with
        | zero => rfl
        | succ k ih => rw [List.replicate_succ, List.flatMap_cons, ih]; rfl
      rw [hl, hz1]
      apply List.ext_getElem
      · simp [Builtin.zeroCells]
      · intro i h1 h2
        simp [Builtin.zeroCells, Nat.mod_one]
    have hPS : PS w2 (w.drew.alloc (.cells ((acc.flatMap b1).toArray ++ Builtin.zeroCells (Value.int .u8 0).cells k ++ Builtin.zeroCells (Value.int .u8 0).cells (grownCap w (acc.length + k) c 5 - (acc.length + k))) 5)) (some ⟨w.heap.size, 0, none⟩) (grownCap w (acc.length + k) c 5) (acc ++ List.replicate k 0) := by
      refine ⟨(S.md.trans (Md_drew w)).trans (Md.alloc _ _), ?_⟩
      unfold OwnL
      have hll : (acc ++ List.replicate k 0).length = acc.length + k := by simp
      rw [hll]
      refine ⟨by have := encb1.lenL (acc ++ List.replicate k 0); rw [this, hll], .inr ⟨w.heap.size, _, _, rfl, hsz, heap_alloc_new w.drew _, hge, hcm, ?_, ?_⟩⟩
      · simp only [Array.size_append, List.size_toArray, size_zeroCells, hz1, hlen]
        simp; omega
      · simp only [Array.toList_append, hrep]
        rw [← List.flatMap_append]
        have : ((acc ++ List.replicate k 0).flatMap b1).length = (acc.length + k) * 1 := by have := encb1.lenL (acc ++ List.replicate k 0); rw [this, hll]
        rw [← this]
        exact List.take_left
    have := kk _ _ _ hPS
    have hll2 : (acc ++ List.replicate k 0 : List Nat).length = acc.length + k := by simp
    rw [hll2] at this
    exact this
def exT : Tb := ⟨zCl 1, 1, [0], [0], [⟨#[97]⟩]⟩
def exB : List Nat := [70, 84, 1, 0, 0, 1, 1, 1, 97] ++ List.replicate 256 0 ++ [1, 0, 1]
theorem exT_right : tRight exT = true := by kernel_rfl
theorem exT_pack : packL exT = exB := by kernel_rfl
theorem exB_read : rdT exB = some exT := by kernel_rfl
theorem exB_cut : rdT (exB.take 267) = none := by kernel_rfl
theorem exT_step0 : tStep exT 0 7 = 0 := by kernel_rfl
theorem exT_step1 : tStep exT 1 7 = -1 := by kernel_rfl
theorem build57x (w : World) (n4 n6 n8 : Nat) : (Instr.build 57 #[(0, .agg (zCl 1).v), (1, .agg #[.int .i64 1, .slice (some { block := n4, off := 0 }) 1 1, .slice (some { block := n6, off := 0 }) 1 1]), (2, .slice (some { block := n8, off := 0 }) 1 1)]).run Try.prog w = .ok (.agg (exT.v ⟨some { block := n4, off := 0 }, 1, some { block := n6, off := 0 }, 1, some { block := n8, off := 0 }, 1⟩)) w := by kernel_rfl
theorem bytesOf_str {w : World} {base : Nat} {a : Option Addr} {c : Nat} {l : List Nat} (h : OwnL w base 5 1 b1 a c l) (hl : ∀ x ∈ l, x < 256) : (convert 51 9 (.slice a l.length c)).run Try.prog w = .ok (.string (bytesOf l)) w :=
  conv_row (h.row encb1) hl _ _ rfl
theorem exB_lt : ∀ x ∈ exB, x < 256 := by
  intro x hx
  rw [← exT_pack] at hx
  exact pack_lt (zCl_ok (by omega) (by omega)) (RtF.of exT_right) x hx
theorem f54_ok (w : World) : Ct Try.prog 54 #[] w fun v w' => v = .bool true ∧ Md [] w w' := by
  apply f54_in
  refine RunW_in0 (build1 w) <| opBig_in ⟨(zCl_ok (by omega) (by omega)).size, ?_⟩
  intro n4 w5 e4 e5
  subst e4; subst e5
  have o4 : OwnL (w.alloc (.cells #[.int .i64 0] 3)) w.heap.size 3 1 i1 (some ⟨w.heap.size, 0, none⟩) 1 [0] := OwnL.lit (P := Try.prog) enci1 w 3 [0] _ (Nat.le_refl _) (by simp [maxLen]) rfl
  have m4 : Md [] w (w.alloc (.cells #[.int .i64 0] 3)) := Md.alloc w _
  have s4 : (w.alloc (.cells #[.int .i64 0] 3)).heap.size = w.heap.size + 1 := by simp
  generalize hw4 : w.alloc (.cells #[.int .i64 0] 3) = w4 at *
  intro n6 w7 e6 e7
  subst e6; subst e7
  have o6 : OwnL (w4.alloc (.cells #[.int .i64 0] 3)) w4.heap.size 3 1 i1 (some ⟨w4.heap.size, 0, none⟩) 1 [0] := OwnL.lit (P := Try.prog) enci1 w4 3 [0] _ (Nat.le_refl _) (by simp [maxLen]) rfl
  have m6 : Md [] w4 (w4.alloc (.cells #[.int .i64 0] 3)) := Md.alloc w4 _
  have s6 : (w4.alloc (.cells #[.int .i64 0] 3)).heap.size = w4.heap.size + 1 := by simp
  generalize hw6 : w4.alloc (.cells #[.int .i64 0] 3) = w6 at *
  intro n8 w9 e8 e9
  subst e8; subst e9
  have o8 : OwnL (w6.alloc (.cells #[.string { data := #[(97 : UInt8)] }] 9)) w6.heap.size 9 1 s1 (some ⟨w6.heap.size, 0, none⟩) 1 [⟨#[97]⟩] := OwnL.lit (P := Try.prog) encs1 w6 9 [⟨#[97]⟩] _ (Nat.le_refl _) (by simp [maxLen]) rfl
  have m8 : Md [] w6 (w6.alloc (.cells #[.string { data := #[(97 : UInt8)] }] 9)) := Md.alloc w6 _
  generalize hw8 : w6.alloc (.cells #[.string { data := #[(97 : UInt8)] }] 9) = w8 at *
  have hok1 : (zCl 1).ok := zCl_ok (by omega) (by omega)
  have hF : TbF w.heap.size w8 exT ⟨some { block := w.heap.size, off := 0 }, 1, some { block := w4.heap.size, off := 0 }, 1, some { block := w6.heap.size, off := 0 }, 1⟩ := by
    refine ⟨hok1, o8.down (by omega), (o6.md m8).down (by omega), (o4.md (m6.trans m8)), by simp [exT], by simp [exT], by simp [exT], ?_, ?_, ?_, ?_⟩
    · intro s hs; simp [exT] at hs; subst hs; decide
    · intro A B hA hB; cases hA; cases hB; simp; omega
    · intro A B hA hB; cases hA; cases hB; simp; omega
    · intro A B hA hB; cases hA; cases hB; simp; omega
  have hm8 : Md [] w w8 := m4.trans (m6.trans m8)
  refine RunW_in0 (build57x w8 _ _ _) <| opBig_in ⟨hF.at.size, fun n13 hn13 => OkC_in hF.cells ⟨hF.at.size, fun w14 h14 hL14 => ?_⟩⟩
  generalize hp : (⟨some { block := w.heap.size, off := 0 }, 1, some { block := w4.heap.size, off := 0 }, 1, some { block := w6.heap.size, off := 0 }, 1⟩ : TbS) = p at *
  have hs8 := hm8.size
  have mm14 : Md [] w8 w14 := h14.fresh (by simpa using hn13)
  have g14 : Good [n13] w w14 := ⟨hm8.trans mm14, hL14⟩
  have hA : ∀ {w'}, Md [] w8 w' → TbAt w' exT p := fun h => hF.at.md h
  refine (f59_ok exT p w14 (hA mm14)).call hL14 ?_
  rintro v w16 ⟨u, e, rfl, hpk⟩ h16
  unfold PkOut at hpk
  rw [if_pos exT_right, exT_pack] at hpk
  obtain ⟨rfl, ap, cp, rfl, op⟩ := hpk
  refine opTu_in ?_
  refine opL_in ?_
  refine opI_in ?_
  refine SzIs_in rfl ?_
  have g16 := g14.tr h16
  intro n22 w23 e22 e23
  subst e22; subst e23
  have S23 : PS w16 (w16.alloc (.cells #[.int .u8 70, .int .u8 84, .int .u8 1, .int .u8 0, .int .u8 0, .int .u8 1, .int .u8 1, .int .u8 1, .int .u8 97] 5)) (some ⟨w16.heap.size, 0, none⟩) 9 [70, 84, 1, 0, 0, 1, 1, 1, 97] :=
    ⟨Md.alloc w16 _, OwnL.lit (P := Try.prog) encb1 w16 5 [70, 84, 1, 0, 0, 1, 1, 1, 97] _ (Nat.le_refl _) (by simp [maxLen]) rfl⟩
  refine S23.appZ 256 (by omega) (by simp) (by simp) g16.2 fun a26 c26 w25 S25 => opL_in ?_
  refine S25.appN 3 [1, 0, 1] _ rfl rfl g16.2 (by simp) fun a33 c33 w32 S32 => opL_in ?_
  have eB : ([70, 84, 1, 0, 0, 1, 1, 1, 97] ++ List.replicate 256 0 ++ [1, 0, 1] : List Nat) = exB := rfl
  rw [eB] at S32 ⊢
  have g32 : Good [n13] w w32 := g16.tr S32.md
  have hlen : exB.length = 268 := by kernel_rfl
  have hcap := S32.own.cap
  refine (f61_ok exB a33 c33 exB_lt (by omega) hcap w32 (S32.own.row encb1)).call g32.2 ?_
  rintro v w37 ⟨cs39, e40, rfl, hrd⟩ h37
  unfold RdOut at hrd
  rw [exB_read] at hrd
  obtain ⟨rfl, pr, rfl, hFr⟩ := hrd
  refine opTu_in ?_
  refine opBig_in ⟨hFr.at.size, ?_⟩
  refine opI_in ?_
  refine SzIs_in rfl ⟨hFr.at.size, fun n41 hn41 => OkC_in hFr.cells fun w42 h42 hL42 => ?_⟩
  have g37 := g32.tr h37
  have g42 := regUp g37 hn41 h42 hL42
  have m42 : Md [] w37 w42 := h42.fresh (by simpa using hn41)
  have own42 : OwnL w42 w16.heap.size 5 1 b1 a33 c33 exB := S32.own.md (h37.trans m42)
  refine RunW_in0 (slice_front (e := 5) (m := 267) (by kernel_rfl) (fun w => ⟨1, size5 w⟩) _ _ _ _ (by omega)) <| opL_in ?_
  have hl267 : (exB.take 267).length = 267 := by rw [List.length_take]; omega
  have hrow : RowAt w42 a33 1 b1 (exB.take 267) := (own42.row encb1).take 267
  have hct := f61_ok (exB.take 267) a33 c33 (fun x hx => exB_lt x (List.mem_of_mem_take hx)) (by omega) (by omega) w42 hrow
  rw [hl267] at hct
  refine hct.call g42.2 ?_
  rintro v w49 ⟨cs51, e52, rfl, hrd⟩ h49
  unfold RdOut at hrd
  rw [exB_cut] at hrd
  obtain ⟨rfl, rfl⟩ := hrd
  have hz := TbF.zero 0 w49
  refine opTu_in ?_
  refine opBig_in ⟨hz.at.size, ?_⟩
  refine opI_in ?_
  refine SzIs_in rfl ⟨hz.at.size, fun n53 hn53 => OkC_in hz.cells <| Bd_in fun x54 hx54 => Bd_in fun b55 hb55 => Bd_in fun b56 hb56 => Bd_in fun b57 hb57 w58 h58 hL58 => ?_⟩
  have t57 : b57 = true := by rw [hb57, hb56, hb55, hx54]; decide
  have g49 := g42.tr h49
  have g58 := regUp g49 hn53 h58 hL58
  have m58 : Md [] w49 w58 := h58.fresh (by simpa using hn53)
  clear hb57
  subst t57
  have op58 : OwnL w58 w14.heap.size 5 1 b1 ap cp exB := op.md (S32.md.trans (h37.trans (m42.trans (h49.trans m58))))
  refine ⟨fun _ => RunW_in0 (bytesOf_str op58 exB_lt) <| opStr_in ?_, fun h => by cases h⟩
  have oq58 : OwnL w58 w16.heap.size 5 1 b1 a33 c33 exB := own42.md (h49.trans m58)
  refine ⟨fun _ => RunW_in0 (bytesOf_str oq58 exB_lt) <| opStr_in <| Bd_in fun b71 hb71 => Bd_in fun b72 hb72 => ?_, fun h => by cases h⟩
  have t72 : b72 = true := by rw [hb72, hb71, str_eq]; simp
  clear hb72
  subst t72
  have mAll : Md [] w8 w58 := mm14.trans (h16.trans (S32.md.trans (h37.trans (m42.trans (h49.trans m58)))))
  have mR : Md [] w37 w58 := m42.trans (h49.trans m58)
  refine ⟨fun _ => hF.at.size, fun _ => hFr.at.size, fun _ => ?_, fun h => by cases h⟩
  refine (f63_ok exT exT p pr w58 (hA mAll) (hFr.at.md mR)).call g58.2 ?_
  rintro v w77 ⟨b78, rfl, hb78⟩ h77
  have t78 : b78 = true := hb78.2 rfl
  subst t78
  refine opB_in <| Bd_in fun b81 hb81 => ?_
  have t81 : b81 = true := by rw [hb81]; rfl
  clear hb81
  subst t81
  have g77 := g58.tr h77
  refine ⟨fun _ => hF.at.size, fun _ => ?_, fun h => by cases h⟩
  refine (f57_ok exT p 0 7 (by omega) w77 (hA (mAll.trans h77))).call g77.2 ?_
  rintro v w85 rfl h85
  refine opI_in <| Bd_in fun b89 hb89 => Bd_in fun b90 hb90 => ?_
  have t90 : b90 = true := by rw [hb90, hb89, exT_step0]; rfl
  clear hb90
  subst t90
  have g85 := g77.tr h85
  refine ⟨fun _ => hF.at.size, fun _ => ?_, fun h => by cases h⟩
  refine (f57_ok exT p 1 7 (by omega) w85 (hA (mAll.trans (h77.trans h85)))).call g85.2 ?_
  rintro v w94 rfl h94
  refine opI_in <| Bd_in fun b98 hb98 => Bd_in fun b99 hb99 => ⟨?_, (g85.tr h94).1⟩
  rw [hb99, hb98, exT_step1]; rfl
end Fk
