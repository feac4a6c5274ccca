/- Contracts of functions, and plain laws: several texts, joined. -/
import Derived.Test.YtpgjpgecgibklaaGR1
import Derived.Test.YtpgjpgecgibklaaGV0
import Derived.Lib.SlBytesConst
set_option linter.unusedVariables false
set_option linter.unusedSimpArgs false
set_option maxRecDepth 100000
set_option maxHeartbeats 2000000
namespace Fk
open Go Go.Proofs Go.RowKit
abbrev SH := Option Addr × Nat × Nat
def sE (p : SH) : List Value := [.slice p.1 p.2.1 p.2.2]
theorem encsE : Enc 1 sE := ⟨fun _ => rfl, by intro x v hv; simp [sE] at hv; rw [hv]; rfl⟩
theorem rowT172 : RowT Try.prog 172 51 1 24 := RowT.of (by kernel_rfl) (by kernel_rfl) (by kernel_rfl) (by omega)
def RRo (w : World) (bx : Nat) (a : Option Addr) (c : Nat) (rs : List (List Nat)) : Prop :=
  ∃ ps : List SH, OwnL w bx 51 1 sE a c ps ∧ ps.length = rs.length ∧ ∀ (i : Nat) (p : SH) (r : List Nat), ps[i]? = some p → rs[i]? = some r → p.2.1 = r.length ∧ (∃ C, OwnL w bx 5 1 b1 p.1 C r) ∧ Apt a p.1
theorem RRo.nil (w : World) (bx : Nat) : RRo w bx none 0 [] := ⟨[], OwnL.nil _ _ _ _ _, rfl, fun i p r h => by simp at h⟩
theorem RRo.md {w w' : World} {bx : Nat} {a : Option Addr} {c : Nat} {rs : List (List Nat)} (h : RRo w bx a c rs) (hm : Md [] w w') : RRo w' bx a c rs := by
  obtain ⟨ps, h1, h2, h3⟩ := h
  exact ⟨ps, h1.md hm, h2, fun i p r hp hr => ⟨(h3 i p r hp hr).1, (h3 i p r hp hr).2.1.imp fun _ o => o.md hm, (h3 i p r hp hr).2.2⟩⟩
theorem RRo.mdD {w w' : World} {D : List Nat} {bx : Nat} {a : Option Addr} {c : Nat} {rs : List (List Nat)} (h : RRo w bx a c rs) (hm : Md D w w') (hD : ∀ d ∈ D, d < bx) : RRo w' bx a c rs := by
  obtain ⟨ps, h1, h2, h3⟩ := h
  have k : ∀ {α : Type} {e : TypeId} {size : Nat} {enc : α → List Value} {a : Option Addr} {c : Nat} {l : List α}, OwnL w bx e size enc a c l → OwnL w' bx e size enc a c l := fun o => o.mdD hm fun A hA hd => by
    have := (o.lt hA).1; have := hD _ hd; omega
  exact ⟨ps, k h1, h2, fun i p r hp hr => ⟨(h3 i p r hp hr).1, (h3 i p r hp hr).2.1.imp fun _ o => k o, (h3 i p r hp hr).2.2⟩⟩
theorem RRo.push {w : World} {bx : Nat} {a : Option Addr} {c : Nat} {rs : List (List Nat)} {L : List Nat} (h : RRo w bx a c rs) {r : List Nat} {A : Option Addr} {C C2 m : Nat} (o : OwnL w bx 5 1 b1 A C r) (hm : m = r.length) (ha : Apt a A) (hb : bx ≤ w.heap.size) (hL : ∀ b ∈ L, b < w.heap.size) (hLa : ∀ b ∈ L, b < bx)
    (hn : rs.length < 2 ^ 40) {K : Option Addr → Nat → Nat → World → Prop} (k : ∀ a' c' w', RRo w' bx a' c' (rs ++ [r]) → Md (a.map (·.block)).toList w w' → K a' (rs ++ [r]).length c' w') :
    Nw (.cells #[.slice A m C2] 51) w fun b w' => RunW Try.prog L (Builtin.append_ #[172, 172] 172 #[.slice a rs.length c, .slice (some { block := b, off := 0 }) 1 1]) (fun v w' => opL v fun a n c => K a n c w') w' := by
  subst hm
  obtain ⟨ps, h1, h2, h3⟩ := h
  rw [← h2] at hn ⊢
  refine app_one rowT172 encsE (A, r.length, C2) rfl h1 hb hL (fun b hbL A hA e => ?_) (by simp [maxLen]; omega) (by omega) fun a' c' w' o' m' hA => opL_in ?_
  · have := (h1.lt hA).1; have := hLa b hbL; omega
  have e : (ps ++ [(A, r.length, C2)]).length = (rs ++ [r]).length := by simp [h2]
  rw [e]
  have kp : ∀ {B : Option Addr} {C : Nat} {x : List Nat}, OwnL w bx 5 1 b1 B C x → Apt a B → OwnL w' bx 5 1 b1 B C x ∧ Apt a' B := fun {B C x} ob ap => by
    refine ⟨ob.mdD m' fun D hD hd => ?_, fun D E hD hE e => ?_⟩
    · obtain ⟨G, hG, e⟩ := mem_blk hd
      exact ap G D hG hD e
    · rcases hA D hD with h | h
      · exact ap D E h hE e
      · have := (ob.lt hE).2; omega
  refine k a' c' w' ⟨ps ++ [(A, r.length, C2)], o', e, fun i p x hp hx => ?_⟩ m'
  by_cases hi : i < ps.length
  · rw [List.getElem?_append_left hi] at hp
    rw [List.getElem?_append_left (by omega)] at hx
    obtain ⟨q1, q2, q3⟩ := h3 i p x hp hx
    obtain ⟨C', q2⟩ := q2
    obtain ⟨q4, q5⟩ := kp q2 q3
    exact ⟨q1, ⟨C', q4⟩, q5⟩
  · have hi2 : i = ps.length := by have := (List.getElem?_eq_some_iff.1 hp).1; simp at this; omega
    subst hi2
    rw [List.getElem?_append_right (Nat.le_refl _)] at hp
    rw [List.getElem?_append_right (by omega)] at hx
    simp at hp
    rw [h2] at hx
    simp at hx
    subst hp; subst hx
    obtain ⟨q4, q5⟩ := kp o ha
    exact ⟨rfl, ⟨C, q4⟩, q5⟩
theorem f227_ok (l : List Nat) (hl : l.length < 2 ^ 40) (A : Option Addr) (C : Nat) (hA : A.isSome = true) (w : World) (hr : RowAt w A 1 b1 l) : Ct Try.prog 227 #[.slice A l.length C] w fun v w' => (∃ a c, v = .slice a l.length c ∧ OwnL w' w.heap.size 5 1 b1 a c l) ∧ Md [] w w' := by
  apply f227_in
  have hn : A.isNone = false := by cases A <;> simp_all
  refine RunW_in0 (eqNilS (e := 5) A _ _ w _ _ 51 (by kernel_rfl) (by kernel_rfl)) <| opB_in ?_
  rw [hn]
  refine If_f <| Nw_i ?_
  have oE := OwnL.lit (P := Try.prog) (base := w.heap.size) encb1 w 5 [] #[] (Nat.le_refl _) (by simp [maxLen]) rfl
  have ma : Md [] w (w.alloc (.cells #[] 5)) := Md.alloc w _
  refine japp_row rowT51 encb1 rfl oE (hr.md ma) hA ma.size (by simp) (by simp) (by simp [maxLen]; omega) (by simp; omega) fun a' c' w' o' m' hA' => opL_in ⟨⟨a', c', by simp, by simpa using o'⟩, ma.old m' fun d hd => by
    obtain ⟨B, hB, rfl⟩ := mem_blk hd; exact (oE.lt hB).1⟩
theorem parseL_step (l : List Nat) (h : 0 < l.length) : parseL l = if l[0] = 0 then some ([], 0) else if l[0] ≠ 1 ∨ l.length < 4 then none else
    if num ((l.drop 1).take 3) < 1 ∨ num ((l.drop 1).take 3) > 1048576 ∨ l.length < num ((l.drop 1).take 3) + 8 then none else
    if num ((l.drop (4 + num ((l.drop 1).take 3))).take 4) ≠ sumL ((l.drop 1).take (3 + num ((l.drop 1).take 3))) then none else
    (parseL (l.drop (num ((l.drop 1).take 3) + 8))).map fun p => ((l.drop 4).take (num ((l.drop 1).take 3)) :: p.1, num ((l.drop 1).take 3) + 8 + p.2) := by
  cases l with
  | nil => simp at h
  | cons m t =>
    have ed : ∀ k, (m :: t).drop (1 + k) = t.drop k := fun k => by rw [Nat.add_comm]; rfl
    have e1 : (m :: t).drop 1 = t := rfl
    have e2 : ∀ n, (m :: t).drop (4 + n) = t.drop (3 + n) := fun n => by rw [← ed]; congr 1; omega
    have e3 : (m :: t).drop 4 = t.drop 3 := rfl
    rw [e1, e2, e3]
    generalize hn : num (t.take 3) = n
    conv => lhs; unfold parseL jprs
    simp only [hn, List.getElem_cons_zero]
    split
    · rfl
    · split
      · rfl
      · split
        · rfl
        · rename_i h3 h4
          split
          · rfl
          · unfold parseL
            rw [← jprs_more (((m :: t).drop (n + 8)).length + 1) _ (by omega) _ (by simp <;> omega)]
theorem parseL_none_end : parseL [] = some ([], 0) := rfl
theorem f206_ok (b : List Nat) (hb : ∀ x ∈ b, x < 256) (hl : b.length < 2 ^ 30) (A : Option Addr) (C : Nat) (hC : b.length ≤ C) (w : World) (hr : RowAt w A 1 b1 b) : Ct Try.prog 206 #[.slice A b.length C] w fun v w' =>
    ((parseL b = none ∧ v = .tuple #[.slice none 0 0, .int .i64 0, .bool false]) ∨ ∃ rs p a c, parseL b = some (rs, p) ∧ v = .tuple #[.slice a rs.length c, .int .i64 (p : Nat), .bool true] ∧ RRo w' w.heap.size a c rs) ∧ Md [] w w' := by
  apply f206_in
  refine LoopP_in (fun mm us vs w' => ∃ (s1 s2 s3 : Value) (a : Option Addr) (c : Nat) (rs : List (List Nat)) (p : Nat), us = [.slice none 0 0, .int .i64 0, .bool false, .slice a rs.length c, .int .i64 p] ∧ mm = b.length - p ∧ p ≤ b.length ∧ rs.length ≤ p ∧ Md [] w w' ∧ RRo w' w.heap.size a c rs ∧
    parseL b = (parseL (b.drop p)).map fun q => (rs ++ q.1, p + q.2)) b.length
    ⟨.bool false, .bool false, .bool false, none, 0, [], 0, rfl, rfl, by omega, by simp, Md.refl _ _, RRo.nil _ _, by cases h : parseL b <;> simp [h]⟩ ?_
  rintro mm us vs w4 ⟨_, _, _, a, c, rs, p, rfl, hmm, hp, hrp, m4, R4, he⟩
  refine opL_in <| opI_in <| opB_in <| opL_in <| opI_in <| Bd_e rfl <| Bd_in fun b15 hb15 => ?_
  by_cases hpl : p < b.length
  · have e15 : b15 = true := by rw [hb15]; simp; omega
    subst e15
    have r4 := hr.md m4
    have hx := hb _ (List.getElem_mem hpl)
    have hdl : 0 < (b.drop p).length := by simp; omega
    have hd0 : (b.drop p)[0] = b[p] := by simp
    have hstep := parseL_step (b.drop p) hdl
    rw [hd0, List.drop_drop, List.drop_drop, List.length_drop] at hstep
    refine ⟨fun _ => r4.ix hpl, Gd_t <| r4.ld1 hpl rfl <| opI_in <| Bd_in fun b22 hb22 => Bd_in fun b23 hb23 => If_in (fun hbb => ?_) fun hbb => ?_⟩
    · have hne : b[p] ≠ 0 := by rw [hb23, hb22] at hbb; simpa using hbb
      rw [if_neg hne] at hstep
      refine ⟨r4.ix hpl, r4.ld1 hpl rfl <| opI_in <| Bd_in fun b26 hb26 => Bd_e rfl <| Bd_e (y := ((b.length - p : Nat) : Int)) (by rw [IntKind.wrap_i64]; omega) <| Bd_in fun b29 hb29 => Bd_in fun b30 hb30 => ?_⟩
      have e30 : b30 = decide (b[p] ≠ 1 ∨ b.length - p < 4) := by
        rw [hb30, hb26, hb29, Bool.eq_iff_iff]
        by_cases q : b[p] = 1
        · simp [q]; omega
        · have : ¬ ((b[p] : Nat) : Int) = 1 := by omega
          simp [q, this]
      by_cases q1 : b[p] ≠ 1 ∨ b.length - p < 4
      · rw [show b30 = true by rw [e30]; exact decide_eq_true q1]
        rw [if_pos q1] at hstep
        exact If_t ⟨.inl ⟨by rw [he, hstep]; rfl, rfl⟩, m4⟩
      rw [show b30 = false by rw [e30]; exact decide_eq_false q1]
      rw [if_neg q1] at hstep
      have h4 : p + 4 ≤ b.length := by omega
      have hw3 : ((b.drop (p + 1)).take 3).length = 3 := by simp; omega
      have hw3b : ∀ x ∈ (b.drop (p + 1)).take 3, x < 256 := fun x hx => hb x (List.mem_of_mem_drop (List.mem_of_mem_take hx))
      have hnl := num_lt _ hw3b
      rw [hw3] at hnl
      obtain ⟨r34, l34⟩ := r4.mid (c := C) (lo := p + 1) (hi := p + 4) (by omega) (by omega) hC
      have e3 : p + 4 - (p + 1) = 3 := by omega
      rw [e3] at r34 l34
      refine If_f <| Bd_e (y := ((p + 1 : Nat) : Int)) (by rw [IntKind.wrap_i64]; omega) <| Bd_e (y := ((p + 4 : Nat) : Int)) (by rw [IntKind.wrap_i64]; omega) <| RunW_in0 (slice_mid (e := 5) (by kernel_rfl) size5b w4 _ _ _ (p + 1) (p + 4) (by omega) (by omega)) <| opL_in ?_
      rw [e3]
      have c226 := f226_ok ((b.drop (p + 1)).take 3) hw3b (by omega) (if C = p + 1 then A else A.map (·.add ((p + 1) * 1))) (C - (p + 1)) w4 r34
      rw [l34] at c226
      refine c226.call (by simp) ?_
      rintro v w39 rfl m39
      generalize hN : num ((b.drop (p + 1)).take 3) = N at *
      refine opI_in <| Bd_in fun b41 hb41 => Bd_in fun b42 hb42 => Bd_in fun b43 hb43 => Bd_e rfl <| Bd_e (y := ((b.length - p : Nat) : Int)) (by rw [IntKind.wrap_i64]; omega) <| Bd_e (y := ((b.length - p : Nat) : Int) - 4) (by rw [IntKind.wrap_i64]; omega) <| Bd_e (y := ((b.length - p : Nat) : Int) - 8) (by rw [IntKind.wrap_i64]; omega) <| Bd_in fun b48 hb48 => Bd_in fun b49 hb49 => ?_
      have e49 : b49 = decide (N < 1 ∨ N > 1048576 ∨ b.length - p < N + 8) := by
        have e41 : b41 = decide (N < 1) := by rw [hb41]; apply decide_eq_decide.2; omega
        have e42 : b42 = decide (N > 1048576) := by rw [hb42]; apply decide_eq_decide.2; omega
        have e48 : b48 = decide (b.length - p < N + 8) := by rw [hb48]; apply decide_eq_decide.2; omega
        rw [hb49, hb43, e41, e42, e48, Bool.eq_iff_iff]
        by_cases q2 : N < 1
        · simp [q2]
        · by_cases q3 : N > 1048576
          · simp [q2, q3]
          · simp [q2, q3]
      by_cases q2 : N < 1 ∨ N > 1048576 ∨ b.length - p < N + 8
      · rw [show b49 = true by rw [e49]; exact decide_eq_true q2]
        rw [if_pos q2] at hstep
        exact If_t ⟨.inl ⟨by rw [he, hstep]; rfl, rfl⟩, m4.trans m39⟩
      rw [show b49 = false by rw [e49]; exact decide_eq_false q2]
      rw [if_neg q2] at hstep
      have h8 : p + N + 8 ≤ b.length := by omega
      refine If_f <| Bd_e (y := ((p + 4 : Nat) : Int)) (by rw [IntKind.wrap_i64]; omega) <| Bd_e (y := ((p + 4 + N : Nat) : Int)) (by rw [IntKind.wrap_i64]; omega) ?_
      have r39 := (hr.md m4).md m39
      refine Jn_in (fun us vs w' => us = [.bool (num ((b.drop (p + (4 + N))).take 4) != sumL ((b.drop (p + 1)).take (3 + N)))] ∧ Md [] w39 w') ?_ ?_
      · rintro us vs w54 ⟨rfl, m54⟩
        have r54 := r39.md m54
        refine opB_in <| If_in (fun hbb => ?_) fun hbb => ?_
        · have hne : num ((b.drop (p + (4 + N))).take 4) ≠ sumL ((b.drop (p + 1)).take (3 + N)) := by simpa using hbb
          rw [if_pos hne] at hstep
          exact ⟨.inl ⟨by rw [he, hstep]; rfl, rfl⟩, (m4.trans m39).trans m54⟩
        · have hne : ¬ num ((b.drop (p + (4 + N))).take 4) ≠ sumL ((b.drop (p + 1)).take (3 + N)) := by simpa using hbb
          rw [if_neg hne] at hstep
          obtain ⟨rm, lm⟩ := r54.mid (c := C) (lo := p + 4) (hi := p + 4 + N) (by omega) (by omega) hC
          have e4 : p + 4 + N - (p + 4) = N := by omega
          rw [e4] at rm lm
          refine Bd_e (y := ((p + 4 : Nat) : Int)) (by rw [IntKind.wrap_i64]; omega) <| RunW_in0 (slice_mid (e := 5) (by kernel_rfl) size5b w54 _ _ _ (p + 4) (p + 4 + N) (by omega) (by omega)) <| opL_in ?_
          rw [e4]
          have hsome : (if C = p + 4 then A else A.map (·.add ((p + 4) * 1))).isSome = true := by
            obtain ⟨B, rfl, _⟩ := hr p b[p] (List.getElem?_eq_getElem hpl)
            split <;> rfl
          have c227 := f227_ok ((b.drop (p + 4)).take N) (by rw [lm]; omega) (if C = p + 4 then A else A.map (·.add ((p + 4) * 1))) (C - (p + 4)) hsome w54 rm
          rw [lm] at c227
          refine c227.call (by simp) ?_
          rintro v w63 ⟨a64, c66, rfl, o64⟩ m63
          have mm63 := ((m4.trans m39).trans m54).trans m63
          have R63 := ((R4.md m39).md m54).md m63
          have hsz : w.heap.size ≤ w54.heap.size := ((m4.trans m39).trans m54).size
          have hap : Apt a a64 := fun D E hD hE e => by
            obtain ⟨ps, o, _⟩ := R4
            have h1 := (o.lt hD).2
            have h2 := (o64.lt hE).1
            have h3 := (m39.trans m54).size
            omega
          have h1N : 1 ≤ N := by omega
          refine opL_in <| R63.push (o64.down hsz) lm.symm hap mm63.size (by simp) (by simp) (by omega) fun a71 c73 w70 R70 m70 => Bd_e (y := ((p + N + 8 : Nat) : Int)) (by rw [IntKind.wrap_i64]; omega) ⟨b.length - (p + N + 8), by omega, .bool false, .bool false, .bool false, a71, c73, _, p + N + 8, rfl, rfl, by omega, by simp; omega, ?_, R70, ?_⟩
          · obtain ⟨ps, o, _⟩ := R63
            exact mm63.old m70 fun d hd => by obtain ⟨B, hB, rfl⟩ := mem_blk hd; exact (o.lt hB).1
          · rw [he, hstep, List.drop_drop, List.drop_drop, show p + (N + 8) = p + N + 8 by omega]
            cases parseL (b.drop (p + N + 8)) with
            | none => rfl
            | some q => simp; omega
      · refine ⟨fun _ => True, trivial, Bd_e (y := ((p + 8 + N : Nat) : Int)) (by rw [IntKind.wrap_i64]; omega) ?_⟩
        refine ⟨_, fun w' _ => ⟨slice_mid (e := 5) (by kernel_rfl) size5b w' _ _ _ (p + 4 + N) (p + 8 + N) (by omega) (by omega)⟩, opL_in <| Bd_e (y := ((p + 1 : Nat) : Int)) (by rw [IntKind.wrap_i64]; omega) ?_⟩
        refine ⟨_, fun w' _ => ⟨slice_mid (e := 5) (by kernel_rfl) size5b w' _ _ _ (p + 1) (p + 4 + N) (by omega) (by omega)⟩, opL_in ?_⟩
        have r39d := r39.md (Md_drew w39)
        obtain ⟨ra, la⟩ := r39d.mid (c := C) (lo := p + 4 + N) (hi := p + 8 + N) (by omega) (by omega) hC
        obtain ⟨rb, lb⟩ := r39d.mid (c := C) (lo := p + 1) (hi := p + 4 + N) (by omega) (by omega) hC
        have e5 : p + 8 + N - (p + 4 + N) = 4 := by omega
        have e6 : p + 4 + N - (p + 1) = 3 + N := by omega
        rw [e5] at ra la ⊢
        rw [e6] at rb lb ⊢
        have hb4 : ∀ x ∈ (b.drop (p + 4 + N)).take 4, x < 256 := fun x hx => hb x (List.mem_of_mem_drop (List.mem_of_mem_take hx))
        have hb3 : ∀ x ∈ (b.drop (p + 1)).take (3 + N), x < 256 := fun x hx => hb x (List.mem_of_mem_drop (List.mem_of_mem_take hx))
        have hn4 := num_lt _ hb4
        rw [la] at hn4
        have ca := f226_ok ((b.drop (p + 4 + N)).take 4) hb4 (by omega) (if C = p + 4 + N then A else A.map (·.add ((p + 4 + N) * 1))) (C - (p + 4 + N)) w39.drew ra
        rw [la] at ca
        refine ca.call (by simp) ?_
        rintro v w92 rfl m92
        have cb := f138_ok ((b.drop (p + 1)).take (3 + N)) hb3 (by rw [lb]; omega) (if C = p + 1 then A else A.map (·.add ((p + 1) * 1))) (C - (p + 1)) w92 (rb.md m92)
        rw [lb] at cb
        refine opI_in ⟨trivial, Bd_e (y := ((num ((b.drop (p + 4 + N)).take 4) : Nat) : Int)) (by rw [IntKind.wrap_u32]; omega) <| cb.call (by simp) ?_⟩
        rintro v w96 rfl m96
        refine opI_in ⟨trivial, Bd_e rfl ⟨?_, ((Md_drew w39).trans m92).trans m96⟩⟩
        rw [show p + (4 + N) = p + 4 + N by omega]
        congr 2
        rw [Bool.eq_iff_iff]
        simp
        omega
    · have h0 : b[p] = 0 := by rw [hb23, hb22] at hbb; simp at hbb; omega
      rw [if_pos h0] at hstep
      refine ⟨.inr ⟨rs, p, a, c, by rw [he, hstep]; simp, rfl, R4⟩, m4⟩
  · have e15 : b15 = false := by rw [hb15]; simp; omega
    subst e15
    have hpe : p = b.length := by omega
    refine ⟨(fun h => by cases h), Gd_f <| Bd_in fun b22 hb22 => Bd_in fun b23 hb23 => ?_⟩
    have e23 : b23 = false := by rw [hb23]; rfl
    subst e23
    refine If_f ⟨.inr ⟨rs, p, a, c, ?_, rfl, R4⟩, m4⟩
    rw [he, List.drop_of_length_le (by omega), parseL_none_end]
    simp
end Fk
set_option linter.unusedVariables false
set_option linter.unusedSimpArgs false
set_option maxRecDepth 100000
set_option maxHeartbeats 2000000
namespace Fk
open Go Go.Proofs Go.RowKit
def mayF (room : Int) (full : Bool) : List Nat → Int
  | [] => if full = true then 4 else 0
  | l :: ls => if l < 1 ∨ l > 1048576 then 3 else mayF (room - min ((l : Int) + 8) (room + 1)) (full || decide (room - min ((l : Int) + 8) (room + 1) < 0)) ls
theorem mayF_cons (r : Int) (f : Bool) (l : Nat) (ls : List Nat) : mayF r f (l :: ls) = if l < 1 ∨ l > 1048576 then 3 else mayF (r - min ((l : Int) + 8) (r + 1)) (f || decide (r - min ((l : Int) + 8) (r + 1) < 0)) ls := rfl
def mayD (g : Lg) (room : Int) (ls : List Nat) : Int := if g.ov = true then 200 else mayF room false ls
theorem max_if (x : Int) : (if (0 : Int) > x then 0 else x) = max x 0 := by omega
theorem headD0 : ∀ (l : List Nat) (h : 0 < l.length), l[0] = l.headD 0
  | [], h => by simp at h
  | x :: t, h => rfl
theorem min_if (x y : Int) : (if y < x then y else x) = min x y := by omega
section
variable {w0 w : World} {n : Nat} {d : Dk} {F : List Nat} {ln : Nat} {g : Lg}
theorem f196_ok (S : JS w0 w n d F ln g) : Ct Try.prog 196 #[.pointer (some ⟨ln, 0, none⟩)] w fun v w' => v = .bool false ∧ Md [] w w' := by
  apply f196_in
  refine RunW_in0 (eqNilP (e := 260) _ w _ _ 158 (by kernel_rfl) (by kernel_rfl)).1 <| opB_in ⟨fun _ => rfl, Bd_e rfl <| Gd_t <| S.blk.ld (j := 0) rfl <| opP_in <| Gd_t <| RunW_in0 (eqNilP (e := 155) _ w _ _ 119 (by kernel_rfl) (by kernel_rfl)).1 <| opB_in <| Bd_e rfl ⟨rfl, Md.refl _ _⟩⟩
theorem in196 {L : List Nat} (S : JS w0 w n d F ln g) (hL : ∀ b ∈ L, b < w.heap.size) {K : Bool → World → Prop} (k : ∀ w', JS w0 w' n d F ln g → Md [] w w' → K false w') :
    CallW Try.prog L 196 #[.pointer (some ⟨ln, 0, none⟩)] (fun v w' => opB v fun x => K x w') w := by
  refine (f196_ok S).call hL ?_
  rintro v w' rfl h'
  exact opB_in (k w' (S.md0 h') h')
theorem f198_ok (S : JS w0 w n d F ln g) (ps : List SH) (hl : ps.length < 2 ^ 40) (a : Option Addr) (c : Nat) (hr : RowAt w a 1 sE ps) (room : Int) (h1 : -1 ≤ room) (h2 : room < 2 ^ 40) :
    Ct Try.prog 198 #[.pointer (some ⟨ln, 0, none⟩), .slice a ps.length c, .int .i64 room] w fun v w' => v = .int .i64 (mayD g room (ps.map (·.2.1))) ∧ Md [] w w' := by
  apply f198_in
  refine in196 S (by simp) fun w2 S2 m2 => If_f <| NN_in <| S2.blk.ld (j := 3) rfl <| opB_in <| If_in (fun hb => ?_) fun hb => ?_
  · unfold mayD; rw [if_pos hb]; exact ⟨rfl, m2⟩
  have em : ∀ r ls, mayD g r ls = mayF r false ls := fun r ls => by unfold mayD; rw [if_neg (by simp [hb])]
  rw [em]
  refine Bd_e rfl ?_
  refine LoopP_in (fun mm us vs w' => ∃ (i : Nat) (r : Int) (f : Bool) (z : Int), us = [.int .i64 z, .int .i64 r, .bool f, .int .i64 i] ∧ mm = ps.length - i ∧ i ≤ ps.length ∧ -1 ≤ r ∧ r < 2 ^ 40 ∧ w' = w2 ∧ mayF r f ((ps.drop i).map (·.2.1)) = mayF room false (ps.map (·.2.1))) ps.length
    ⟨0, room, false, 0, rfl, rfl, by omega, h1, h2, rfl, rfl⟩ ?_
  rintro mm us vs w11 ⟨i, r, f, z, rfl, hmm, hi, hr1, hr2, rfl, he⟩
  refine opI_in <| opI_in <| opB_in <| opI_in <| Bd_in fun b16 hb16 => If_in (fun hbb => ?_) fun hbb => ?_
  · have hil : i < ps.length := by rw [hb16] at hbb; have : (i : Int) < (ps.length : Int) := of_decide_eq_true hbb
                                   omega
    rw [List.drop_eq_getElem_cons hil, List.map_cons] at he
    have r11 := hr.md m2
    refine ⟨r11.ix hil, r11.ld1 hil rfl <| opL_in <| Bd_e rfl <| Bd_in fun b22 hb22 => Bd_e rfl <| Bd_in fun b24 hb24 => Bd_in fun b25 hb25 => ?_⟩
    generalize hm : (ps[i]).2.1 = m at *
    have e25 : b25 = decide (m < 1 ∨ m > 1048576) := by
      have e1 : b22 = decide (m < 1) := by rw [hb22]; apply decide_eq_decide.2; omega
      have e2 : b24 = decide (m > 1048576) := by rw [hb24]; apply decide_eq_decide.2; omega
      rw [hb25, e1, e2, Bool.eq_iff_iff]
      by_cases q : m < 1 <;> simp [q]
    rw [mayF_cons] at he
    by_cases q : m < 1 ∨ m > 1048576
    · rw [show b25 = true by rw [e25]; exact decide_eq_true q]
      rw [if_pos q] at he
      rw [← he]
      exact If_t ⟨rfl, m2⟩
    · rw [show b25 = false by rw [e25]; exact decide_eq_false q]
      rw [if_neg q] at he
      refine If_f <| Bd_e rfl <| Bd_e (y := ((m : Int) + 4)) (by rw [IntKind.wrap_i64]; omega) <| Bd_e (y := ((m : Int) + 8)) (by rw [IntKind.wrap_i64]; omega) <| Bd_e (y := r + 1) (by rw [IntKind.wrap_i64]; omega) <| Bd_e (min_if _ _) <| Bd_e (y := r - min ((m : Int) + 8) (r + 1)) (by rw [IntKind.wrap_i64]; omega) <| Bd_in fun b32 hb32 => Bd_in fun b33 hb33 => Bd_e (inc_i64 (by omega)) ⟨ps.length - (i + 1), by omega, i + 1, _, b33, z, rfl, rfl, by omega, by omega, by omega, rfl, ?_⟩
      rw [← he, hb33, hb32]
      cases f <;> rfl
  · have hil : i = ps.length := by
      have : ¬ (i : Int) < (ps.length : Int) := by rw [hb16] at hbb; exact of_decide_eq_false hbb
      omega
    subst hil
    rw [List.drop_of_length_le (Nat.le_refl _)] at he
    simp only [List.map_nil, mayF] at he
    rw [← he]
    refine If_in (fun hf => ?_) fun hf => ?_
    · rw [if_pos hf]; exact ⟨rfl, m2⟩
    · rw [if_neg (by simp [hf])]; exact ⟨rfl, m2⟩
def roomD (d : Dk) (g : Lg) : Int := if g.ov = true then 0 else min (max ((jsz d : Int) - g.pos - 8) 0) 1048576
theorem f128_ok (S : JS w0 w n d F ln g) (h1 : 1 ≤ d.bl.length) (hp : g.pos ≤ jsz d) : Ct Try.prog 128 #[.pointer (some ⟨ln, 0, none⟩)] w fun v w' => v = .int .i64 (roomD d g) ∧ Md [] w w' := by
  have hh := half_le S.len
  have hj : jsz d = half d * 64 := rfl
  apply f128_in
  refine in196 S (by simp) fun w2 S2 m2 => ⟨fun _ => rfl, Bd_e rfl <| Gd_t <| S2.blk.ld (j := 3) rfl <| opB_in <| Bd_e (y := g.ov) rfl <| If_in (fun hb => ?_) fun hb => ?_⟩
  · unfold roomD; rw [if_pos hb]; exact ⟨rfl, m2⟩
  · have S2d := S2.md0 (Md_drew w2)
    refine ⟨fun w' => Blk w' ln 260 (g.c n), S2d.blk, NN_in ?_⟩
    show ∃ v, _ ∧ _
    refine ⟨.int .i64 g.pos, fun w' hw => hw.ld (j := 2) rfl rfl, opI_in <| in197 S2d h1 (by simp) fun w20 S20 m20 => ⟨S20.blk, Bd_e (y := (jsz d : Int) - g.pos) (by rw [IntKind.wrap_i64]; omega) <| Bd_e (y := (jsz d : Int) - g.pos - 4) (by rw [IntKind.wrap_i64]; omega) <| Bd_e (y := (jsz d : Int) - g.pos - 8) (by rw [IntKind.wrap_i64]; omega) <| Bd_e (max_if _) <| Bd_e (y := roomD d g) ?_ ⟨rfl, (m2.trans (Md_drew w2)).trans m20⟩⟩⟩
    unfold roomD
    rw [min_if, if_neg (by simp [hb])]
theorem in128 {L : List Nat} (S : JS w0 w n d F ln g) (h1 : 1 ≤ d.bl.length) (hp : g.pos ≤ jsz d) (hL : ∀ b ∈ L, b < w.heap.size) {K : Int → World → Prop} (k : ∀ w', JS w0 w' n d F ln g → Md [] w w' → K (roomD d g) w') :
    CallW Try.prog L 128 #[.pointer (some ⟨ln, 0, none⟩)] (fun v w' => opI .i64 v fun x => K x w') w := by
  refine (f128_ok S h1 hp).call hL ?_
  rintro v w' rfl h'
  exact opI_in (k w' (S.md0 h') h')
def openA (d : Dk) : Nat := (getB d.bl 0).1.headD 0 % 2
theorem openA_le (d : Dk) : openA d ≤ 1 := by unfold openA; omega
theorem and_one (x : Nat) (h : x < 256) : IntKind.wrap .u8 ((BitVec.toNat (BitVec.ofInt 8 (x : Int) &&& BitVec.ofInt 8 (1 : Int)) : Nat) : Int) = ((x % 2 : Nat) : Int) := by
  have e : BitVec.toNat (BitVec.ofInt 8 (x : Int) &&& BitVec.ofInt 8 (1 : Int)) = x % 2 := by
    rw [BitVec.toNat_and, BitVec.ofInt_natCast, show BitVec.ofInt 8 (1 : Int) = 1#8 from rfl, BitVec.toNat_ofNat, Nat.mod_eq_of_lt (by omega), show BitVec.toNat (1#8) = 1 from rfl, Nat.and_one_is_mod]
  rw [e, IntKind.wrap_u8]; omega
theorem f136_ok (S : DS w0 w n d F) (h1 : 1 ≤ d.bl.length) : Ct Try.prog 136 #[.pointer (some ⟨n, 0, none⟩)] w fun v w' =>
    ((d.bl.length < 3 ∧ v = .tuple #[.pointer none, .slice none 0 0, .int .i64 2]) ∨ (3 ≤ d.bl.length ∧ parseL (areaL d (openA d)) = none ∧ v = .tuple #[.pointer none, .slice none 0 0, .int .i64 210]) ∨
      (3 ≤ d.bl.length ∧ ∃ rs p ln a c bx, parseL (areaL d (openA d)) = some (rs, p) ∧ v = .tuple #[.pointer (some ⟨ln, 0, none⟩), .slice a rs.length c, .int .i64 0] ∧ Blk w' ln 260 (Lg.c n ⟨openA d, p, false⟩) ∧ w.heap.size ≤ ln ∧ ln < bx ∧ RRo w' bx a c rs)) ∧ Md [] w w' := by
  apply f136_in
  refine in112 S (L := []) (by simp) fun w2 S2 m2 => Bd_in fun b4 hb4 => ?_
  rw [show b4 = false by rw [hb4]; exact beq_eq_false_iff_ne.2 (by omega)]
  refine If_f <| Bd_in fun b5 hb5 => If_in (fun hb => ?_) fun hb => ?_
  · have : d.bl.length < 3 := by rw [hb5] at hb; have := of_decide_eq_true hb; omega
    exact ⟨.inl ⟨this, rfl⟩, m2⟩
  have h3 : 3 ≤ d.bl.length := by rw [hb5] at hb; have := of_decide_eq_false hb; omega
  refine Nw_i ?_
  have ma := Md.alloc (M := []) w2 (.cells #[Value.pointer (some ⟨n, 0, none⟩), Value.int IntKind.i64 (0 : Int), Value.int IntKind.i64 (0 : Int), Value.bool false] 260)
  have hB := Blk.new w2 #[Value.pointer (some ⟨n, 0, none⟩), Value.int IntKind.i64 (0 : Int), Value.int IntKind.i64 (0 : Int), Value.bool false] 260
  have hsz7 : (w2.alloc (.cells #[Value.pointer (some ⟨n, 0, none⟩), Value.int IntKind.i64 (0 : Int), Value.int IntKind.i64 (0 : Int), Value.bool false] 260)).heap.size = w2.heap.size + 1 := by simp
  generalize (w2.alloc (.cells #[Value.pointer (some ⟨n, 0, none⟩), Value.int IntKind.i64 (0 : Int), Value.int IntKind.i64 (0 : Int), Value.bool false] 260)) = w7 at *
  generalize hln : w2.heap.size = ln at *
  have S7 := S2.md0 ma
  have hlo : w0.heap.size ≤ ln := by have := S2.md.size; omega
  have J7 : JS w0 w7 n d F ln ⟨0, 0, false⟩ := ⟨S7, hB, fun h => by have := S2.dk.lt _ h; omega, hlo⟩
  have h0 : 0 < d.bl.length := by omega
  refine in119 S7 (L := []) (by simp) (i := 0) h0 fun a w9 S9 m9 o9 => ?_
  have hl64 : (getB d.bl 0).1.length = 64 := (getB d.bl 0).2.1
  have h064 : 0 < (getB d.bl 0).1.length := by omega
  have hx0 : (getB d.bl 0).1[0] < 256 := (getB d.bl 0).2.2 _ (List.getElem_mem _)
  have hop : (getB d.bl 0).1[0] % 2 = openA d := by
    unfold openA
    rw [headD0 _ h064]
  have hix := (o9.row encb1).ix (i := 0) h064
  rw [hl64] at hix
  have J9 := J7.md0 m9
  have hA := openA_le d
  refine ⟨hix, (o9.row encb1).ld1 (i := 0) h064 rfl <| opI_in <| Bd_e (and_one _ hx0) <| Bd_e (y := (openA d : Int)) (by rw [hop, IntKind.wrap_i64]; omega) <| NN_in ?_⟩
  obtain ⟨J10, m10, wr10⟩ := J9.set (j := 1) (v := .int .i64 (openA d)) (g' := ⟨openA d, 0, false⟩) (by omega) rfl
  refine ⟨by simp, wr10, in205 J10 h1 (by simp) fun w21 J21 m21 => ?_⟩
  have mA : Md [] w w21 := by
    have q1 : Md [] w w9 := (m2.trans ma).trans m9
    have q2 := q1.old m10 (by simp; have := m2.size; omega)
    exact q2.trans m21
  have hh2 := half2 d h1
  have hm1 : openA d * half d ≤ 1 * half d := Nat.mul_le_mul_right _ hA
  have hhl := half_le S.dk.choose_spec.1.len
  have hbxs : ln + 1 ≤ w21.heap.size := by have := m9.size; have := m10.size; have := m21.size; omega
  refine LoopP_in (fun mm us vs w' => ∃ (k : Nat) (a : Option Addr) (c : Nat), us = [.slice a (bytesB ((d.bl.drop (1 + openA d * half d)).take k)).length c, .int .i64 k] ∧ mm = half d - k ∧ k ≤ half d ∧ Md [] w21 w' ∧ OwnL w' w21.heap.size 5 1 b1 a c (bytesB ((d.bl.drop (1 + openA d * half d)).take k))) (half d)
    ⟨0, none, 0, rfl, rfl, by omega, Md.refl _ _, OwnL.nil _ _ _ _ _⟩ ?_
  rintro mm us vs w26 ⟨k, a, c, rfl, hmm, hk, m26, o26⟩
  have J26 := J21.md0 m26
  refine opL_in <| opI_in <| Bd_in fun b31 hb31 => If_in (fun hb => ?_) fun hb => ?_
  · have hkh : k < half d := by rw [hb31] at hb; have := of_decide_eq_true hb; omega
    have hbk := jbk_lt (k := k) h1 hA hkh
    refine NN_in <| J26.blk.ld (j := 1) rfl <| opI_in <| in202 J26 h1 hA (by omega) (by simp) fun w36 J36 m36 => in119 J36.ds (by simp) hbk fun a41 w39 S39 m39 o39 => ?_
    have mm39 : Md [] w26 w39 := m36.trans m39
    have h64 : (getB d.bl (jbk d (openA d) k)).1.length = 64 := (getB d.bl (jbk d (openA d) k)).2.1
    have hs : a41.isSome = true := by
      obtain ⟨B, hB, _⟩ := (o39.row encb1) 0 ((getB d.bl (jbk d (openA d) k)).1[0]'(by omega)) (List.getElem?_eq_getElem _)
      rw [hB]; rfl
    have hkl : k < (d.bl.drop (1 + openA d * half d)).length := by
      rw [List.length_drop]; generalize openA d * half d = m at *; omega
    have hlen26 : (bytesB ((d.bl.drop (1 + openA d * half d)).take k)).length = k * 64 := by
      rw [bytesB_len, List.length_take, Nat.min_eq_left (by omega)]
    have hg : (getB d.bl (jbk d (openA d) k)).1 = ((d.bl.drop (1 + openA d * half d))[k]).1 := by
      rw [getB_eq hbk]; simp only [List.getElem_drop]; rfl
    refine japp_row (L := []) rowT51 encb1 h64.symm (o26.md mm39) (o39.row encb1) hs (by have := m26.size; have := mm39.size; omega) (by simp) (by simp) (by rw [hlen26, h64]; simp [maxLen]; omega) (by rw [hlen26, h64]; omega) fun a' c' w46 o46 m46 hA46 => opL_in <| Bd_e (inc_i64 (by omega)) ?_
    rw [hg, ← bytesB_take hkl] at o46 ⊢
    refine ⟨half d - (k + 1), by omega, k + 1, a', c', rfl, rfl, by omega, (m26.trans mm39).old m46 fun d hd => by obtain ⟨B, hB, rfl⟩ := mem_blk hd; exact (o26.lt hB).1, o46⟩
  · have hkh : k = half d := by
      have : ¬ (k : Int) < (half d : Int) := by rw [hb31] at hb; exact of_decide_eq_false hb
      omega
    subst hkh
    have ear : bytesB ((d.bl.drop (1 + openA d * half d)).take (half d)) = areaL d (openA d) := rfl
    rw [ear] at o26 ⊢
    have hal := areaL_len h1 hA
    have hjz : jsz d = half d * 64 := rfl
    refine (f206_ok (areaL d (openA d)) (areaL_lt d _) (by omega) a c o26.cap w26 (o26.row encb1)).call (by simp) ?_
    rintro v w52 h m52
    have J52 := J26.md0 m52
    have mB : Md [] w w52 := (mA.trans m26).trans m52
    rcases h with ⟨hn, rfl⟩ | ⟨rs, p, a54, c54, hs, rfl, R52⟩
    · exact opTu_in <| opL_in <| opI_in <| opB_in <| SzIs_in rfl <| Bd_e rfl <| If_t ⟨.inr (.inl ⟨h3, hn, rfl⟩), mB⟩
    · obtain ⟨J53, m53, wr53⟩ := J52.set (j := 2) (v := .int .i64 p) (g' := ⟨openA d, p, false⟩) (by omega) rfl
      refine opTu_in <| opL_in <| opI_in <| opB_in <| SzIs_in rfl <| Bd_e rfl <| If_f <| NN_in ⟨by simp, wr53, .inr (.inr ⟨h3, rs, p, ln, a54, c54, w26.heap.size, hs, rfl, J53.blk, by have := m2.size; omega, by have := m26.size; omega, R52.mdD m53 (by simp; have := m26.size; omega)⟩), mB.old m53 (by simp; have := m2.size; omega)⟩
end
end Fk
set_option linter.unusedVariables false
set_option linter.unusedSimpArgs false
set_option maxRecDepth 100000
set_option maxHeartbeats 2000000
namespace Fk
open Go Go.Proofs Go.RowKit
def apD (d : Dk) (g : Lg) (r : List Nat) : Dk × Lg × Int :=
  if mayD g ((jsz d : Int) - g.pos) [r.length] ≠ 0 then (d, g, mayD g ((jsz d : Int) - g.pos) [r.length]) else
  if (layD d g.area g.pos (frm 0 r)).2 = false then ((layD d g.area g.pos (frm 0 r)).1, { g with ov := true }, 200) else
  if (oneD (layD d g.area g.pos (frm 0 r)).1 (jbk d g.area (g.pos / 64)) ((getB (layD d g.area g.pos (frm 0 r)).1.bl (jbk d g.area (g.pos / 64))).1.set (g.pos % 64) 1)).2 = false
    then ((oneD (layD d g.area g.pos (frm 0 r)).1 (jbk d g.area (g.pos / 64)) ((getB (layD d g.area g.pos (frm 0 r)).1.bl (jbk d g.area (g.pos / 64))).1.set (g.pos % 64) 1)).1, { g with ov := true }, 200)
    else ((oneD (layD d g.area g.pos (frm 0 r)).1 (jbk d g.area (g.pos / 64)) ((getB (layD d g.area g.pos (frm 0 r)).1.bl (jbk d g.area (g.pos / 64))).1.set (g.pos % 64) 1)).1, { g with pos := g.pos + (r.length + 8) }, 0)
theorem layL_len (area : Nat) (s : List Nat) : ∀ (m k : Nat) (d : Dk), (layL area s m k d).1.bl.length = d.bl.length ∧ (layL area s m k d).1.pd.length ≤ d.pd.length + m
  | 0, k, d => by
    have := flush_len d
    unfold layL
    exact ⟨by rw [this.1], this.2⟩
  | m + 1, k, d => by
    have h := write_len d (jbk d area k) (chunk s k)
    unfold layL
    split
    · have ih := layL_len area s m (k + 1) (d.write (jbk d area k) (chunk s k)).1
      exact ⟨by rw [ih.1, h.1], by omega⟩
    · exact ⟨h.1, by have := h.2; simp only; omega⟩
theorem oneD_len (d : Dk) (i : Nat) (b : List Nat) : (oneD d i b).1.bl.length = d.bl.length ∧ (oneD d i b).1.pd.length ≤ d.pd.length + 1 := by
  have h := write_len d i b
  have h2 := flush_len (d.write i b).1
  unfold oneD
  split
  · exact ⟨by rw [h2.1, h.1], by simp only; omega⟩
  · exact h
theorem may_one {g : Lg} {room : Int} {l : Nat} (h1 : 0 ≤ room) (h : mayD g room [l] = 0) : g.ov = false ∧ 1 ≤ l ∧ l ≤ 1048576 ∧ (l : Int) + 8 ≤ room := by
  unfold mayD at h
  split at h
  · cases h
  · rename_i ho
    rw [mayF_cons] at h
    split at h
    · cases h
    · unfold mayF at h
      split at h
      · cases h
      · rename_i hh hn
        simp at hn
        exact ⟨by simpa using ho, by omega, by omega, by omega⟩
theorem layD_len {d : Dk} {area p : Nat} {b : List Nat} (h1 : 1 ≤ d.bl.length) (hl : d.bl.length ≤ 65536) (ha : area ≤ 1) (hp : p + b.length ≤ jsz d) : (layD d area p b).1.bl.length = d.bl.length ∧ (layD d area p b).1.pd.length ≤ d.pd.length + 32767 := by
  obtain ⟨K, hS, hK, _, _⟩ := layS_len h1 ha hp
  have h := layL_len area (layS d area p b) ((layS d area p b).length / 64 - p / 64) (p / 64) d
  have := half_le hl
  rw [hS, Nat.mul_div_cancel _ (by omega)] at h
  unfold layD
  rw [hS, Nat.mul_div_cancel _ (by omega)]
  exact ⟨h.1, by omega⟩
theorem apD_len {d : Dk} {g : Lg} {r : List Nat} (h1 : 1 ≤ d.bl.length) (hl : d.bl.length ≤ 65536) (ha : g.area ≤ 1) (hp : g.pos ≤ jsz d) : (apD d g r).1.bl.length = d.bl.length ∧ (apD d g r).1.pd.length ≤ d.pd.length + 32768 := by
  unfold apD
  split
  · exact ⟨rfl, by simp⟩
  · rename_i hm
    have hm0 : mayD g ((jsz d : Int) - g.pos) [r.length] = 0 := by simpa using hm
    have hm := may_one (by omega) hm0
    have e : (frm 0 r).length = r.length + 8 := frm_len 0 r
    have hL := layD_len (b := frm 0 r) h1 hl ha (p := g.pos) (by rw [e]; omega)
    split
    · exact ⟨hL.1, by simp only; omega⟩
    · have h2 := oneD_len (layD d g.area g.pos (frm 0 r)).1 (jbk d g.area (g.pos / 64)) ((getB (layD d g.area g.pos (frm 0 r)).1.bl (jbk d g.area (g.pos / 64))).1.set (g.pos % 64) 1)
      split
      · exact ⟨by rw [h2.1, hL.1], by simp only; omega⟩
      · exact ⟨by rw [h2.1, hL.1], by simp only; omega⟩
section
variable {w0 w : World} {n : Nat} {d : Dk} {F : List Nat} {ln : Nat} {g : Lg}
theorem f124_ok (S : JS w0 w n d F ln g) (h1 : 1 ≤ d.bl.length) (hpd : d.pd.length < 2 ^ 28) (ha : g.area ≤ 1) (hp : g.pos ≤ jsz d) (r : List Nat) (hr : ∀ x ∈ r, x < 256) (A : Option Addr) (C : Nat) (ho : RowAt w A 1 b1 r) :
    Ct Try.prog 124 #[.pointer (some ⟨ln, 0, none⟩), .slice A r.length C] w fun v w' =>
      (v = .int .i64 (apD d g r).2.2 ∧ ∃ F', JS w0 w' n (apD d g r).1 F' ln (apD d g r).2.1 ∧ Fr w F F') ∧ Md (ln :: F) w w' := by
  have hlen := S.len
  have hhl := half_le hlen
  have hjz : jsz d = half d * 64 := rfl
  apply f124_in
  refine Jn_in (fun us vs w' => us = [.int .i64 ((jsz d : Int) - g.pos)] ∧ JS w0 w' n d F ln g ∧ Md [] w w') ?_ ?_
  · rintro us vs w3 ⟨rfl, S3, m3⟩
    refine opI_in <| Nw_i ?_
    have ma := Md.alloc (M := []) w3 (.cells #[.slice A r.length C] 51)
    have oH := OwnL.lit (P := Try.prog) (base := 0) encsE w3 51 [(A, r.length, C)] #[.slice A r.length C] (by omega) (by simp [maxLen]) rfl
    have S6 := S3.md0 ma
    refine (f198_ok S6 [(A, r.length, C)] (by simp) (some ⟨w3.heap.size, 0, none⟩) 1 (oH.row encsE) ((jsz d : Int) - g.pos) (by omega) (by omega)).call (by simp) ?_
    rintro v w8 rfl m8
    have S8 := S6.md0 m8
    have mm8 : Md [] w w8 := (m3.trans ma).trans m8
    show opI IntKind.i64 (.int .i64 (mayD g ((jsz d : Int) - g.pos) [r.length])) _
    refine opI_in <| Bd_in fun b10 hb10 => If_in (fun hb => ?_) fun hb => ?_
    · have hne : mayD g ((jsz d : Int) - g.pos) [r.length] ≠ 0 := by rw [hb10] at hb; simpa using hb
      have e : apD d g r = (d, g, mayD g ((jsz d : Int) - g.pos) [r.length]) := by unfold apD; rw [if_pos hne]
      rw [e]
      exact ⟨⟨rfl, F, S8, Fr.refl _ _⟩, mm8.mono (by simp)⟩
    have he0 : mayD g ((jsz d : Int) - g.pos) [r.length] = 0 := by rw [hb10] at hb; simpa using hb
    obtain ⟨hov, hr1, hr2, hr3⟩ := may_one (by omega) he0
    have efl : (frm 0 r).length = r.length + 8 := frm_len 0 r
    have hfit : g.pos + (frm 0 r).length ≤ jsz d := by omega
    have e : apD d g r = if (layD d g.area g.pos (frm 0 r)).2 = false then ((layD d g.area g.pos (frm 0 r)).1, { g with ov := true }, 200) else
        if (oneD (layD d g.area g.pos (frm 0 r)).1 (jbk d g.area (g.pos / 64)) ((getB (layD d g.area g.pos (frm 0 r)).1.bl (jbk d g.area (g.pos / 64))).1.set (g.pos % 64) 1)).2 = false
        then ((oneD (layD d g.area g.pos (frm 0 r)).1 (jbk d g.area (g.pos / 64)) ((getB (layD d g.area g.pos (frm 0 r)).1.bl (jbk d g.area (g.pos / 64))).1.set (g.pos % 64) 1)).1, { g with ov := true }, 200)
        else ((oneD (layD d g.area g.pos (frm 0 r)).1 (jbk d g.area (g.pos / 64)) ((getB (layD d g.area g.pos (frm 0 r)).1.bl (jbk d g.area (g.pos / 64))).1.set (g.pos % 64) 1)).1, { g with pos := g.pos + (r.length + 8) }, 0) := by unfold apD; rw [if_neg (by simp [he0])]
    have hLl := layD_len (b := frm 0 r) h1 hlen ha hfit
    generalize hL : layD d g.area g.pos (frm 0 r) = l at *
    generalize hO : oneD l.1 (jbk d g.area (g.pos / 64)) ((getB l.1.bl (jbk d g.area (g.pos / 64))).1.set (g.pos % 64) 1) = o at *
    have hAs : A.isSome = true := by obtain ⟨B, hB, _⟩ := ho 0 r[0] (List.getElem?_eq_getElem (by omega)); rw [hB]; rfl
    refine (f199_ok r hr hr2 0 (by omega) A C w8 (ho.md mm8) hAs).call (by simp) ?_
    rintro v w12 ⟨a13, c15, rfl, o12⟩ m12
    have S12 := S8.md0 m12
    have mm12 := mm8.trans m12
    rw [efl]
    refine opL_in ?_
    refine Jn_in (fun us vs w' => ∃ (x : Bool) (d' : Dk) (F' : List Nat), us = [.bool x] ∧ JS w0 w' n d' F' ln g ∧ Fr w F F' ∧ Md F w w' ∧ ((x = true ∧ apD d g r = (d', { g with ov := true }, 200)) ∨ (x = false ∧ apD d g r = (d', { g with pos := g.pos + (r.length + 8) }, 0)))) ?_ ?_
    · rintro us vs w18 ⟨x, d', F', rfl, S18, f18, m18, hx⟩
      refine opB_in <| If_in (fun hb => ?_) fun hb => ?_
      · rcases hx with ⟨_, hx⟩ | ⟨hx, _⟩
        · rw [hx]
          obtain ⟨q1, q2, q3⟩ := S18.set (j := 3) (v := .bool true) (g' := { g with ov := true }) (by omega) rfl
          exact NN_in ⟨by simp, q3, ⟨rfl, F', q1, f18⟩, (m18.mono fun y hy => List.mem_cons_of_mem _ hy).trans (q2.mono (by simp))⟩
        · rw [hb] at hx; cases hx
      · rcases hx with ⟨hx, _⟩ | ⟨_, hx⟩
        · rw [hb] at hx; cases hx
        · rw [hx]
          obtain ⟨q1, q2, q3⟩ := S18.set (j := 2) (v := .int .i64 ((g.pos + (r.length + 8) : Nat) : Int)) (g' := { g with pos := g.pos + (r.length + 8) }) (by omega) rfl
          exact NN_in <| S18.blk.ld (j := 2) rfl <| opI_in <| Bd_e rfl <| Bd_e (y := ((g.pos + (r.length + 8) : Nat) : Int)) (by rw [IntKind.wrap_i64]; omega) <| NN_in ⟨by simp, q3, ⟨rfl, F', q1, f18⟩, (m18.mono fun y hy => List.mem_cons_of_mem _ hy).trans (q2.mono (by simp))⟩
    · have S12d := S12.md0 (Md_drew w12)
      refine ⟨fun w' => Blk w' ln 260 (g.c n), S12d.blk, NN_in ?_⟩
      show ∃ v, _ ∧ _
      refine ⟨.int .i64 g.area, fun w' hw => hw.ld (j := 1) rfl rfl, opI_in <| NN_in ?_⟩
      show ∃ v, _ ∧ _
      refine ⟨.int .i64 g.pos, fun w' hw => hw.ld (j := 2) rfl rfl, opI_in ?_⟩
      have o12d := o12.md (Md_drew w12)
      have c200 := f200_ok S12d h1 (by omega) g.area g.pos ha (frm 0 r) (frm_lt 0 r (by omega) hr) hfit w8.heap.size a13 c15 o12d fun B hB => by
        have := (o12d.lt hB).1
        refine ⟨fun h => ?_, fun h => ?_, ?_⟩
        · have := S8.blk.lt; omega
        · have := S8.ds.dk.lt _ h; omega
        · have := S8.ds.md.size; omega
      rw [efl, hL] at c200
      refine c200.callD (by simp) (by simp) ?_
      rintro v w42 ⟨rfl, F2, S42, f42⟩ m42
      have mm42 : Md F w w42 := ((mm12.mono (by simp)).trans ((Md_drew w12).mono (by simp))).fr m42 fun b hb => by
        rcases List.mem_append.1 hb with h | h
        · obtain ⟨B, hB, rfl⟩ := mem_blk h
          have := (o12d.lt hB).1
          exact .inr (by have := mm8.size; omega)
        · exact .inl h
      have f2 : Fr w F F2 := fun b hb => (f42 b hb).imp id (fun h => by have := mm12.size; have := (Md_drew w12).size; omega)
      refine opB_in ⟨S42.blk, Bd_e rfl ⟨fun _ => rfl, Bd_e rfl ?_⟩⟩
      by_cases hl2 : l.2 = false
      · rw [hl2]
        rw [if_pos hl2] at e
        show ∃ v, _ ∧ _
        refine ⟨0, (fun h => by cases h), (fun h => by cases h), Bd_e rfl ?_⟩
        show ∃ v, _ ∧ _
        refine ⟨0, (fun h => by cases h), Bd_e rfl ⟨(fun h => by cases h), Bd_e rfl ?_⟩⟩
        show ∃ v, _ ∧ _
        exact ⟨0, (fun h => by cases h), Bd_e rfl <| Gd_f ⟨S42.blk, Gd_f ⟨S42.blk, Bd_e rfl <| Bd_e rfl ⟨true, l.1, F2, rfl, S42, f2, mm42, .inl ⟨rfl, e⟩⟩⟩⟩⟩
      · have hl2' : l.2 = true := by simpa using hl2
        rw [hl2']
        rw [if_neg hl2] at e
        show ∃ v, _ ∧ _
        refine ⟨g.area, fun _ w' hw => hw.ld (j := 1) rfl rfl, fun _ => rfl, Bd_e rfl ?_⟩
        show ∃ v, _ ∧ _
        refine ⟨g.pos, fun _ w' hw => hw.ld (j := 2) rfl rfl, Bd_e (y := ((g.pos / 64 : Nat) : Int)) (by rw [Int.tdiv_eq_ediv_of_nonneg (by omega), IntKind.wrap_i64]; omega) ⟨fun _ => rfl, Bd_e rfl ?_⟩⟩
        show ∃ v, _ ∧ _
        have hh' : half l.1 = half d := by unfold half; rw [hLl.1]
        have hj' : ∀ a k, jbk l.1 a k = jbk d a k := fun a k => by unfold jbk; rw [hh']
        have hbk := jbk_lt (d := d) (k := g.pos / 64) h1 ha (by omega)
        refine ⟨g.pos, fun _ w' hw => hw.ld (j := 2) rfl rfl, Bd_e (y := ((g.pos % 64 : Nat) : Int)) (by rw [Int.tmod_eq_emod_of_nonneg (by omega)]; omega) <| Gd_t <| in202 S42 (by rw [hLl.1]; exact h1) ha (by omega) (by simp) fun w70 S70 m70 => ⟨S70.blk, Gd_t ?_⟩⟩
        rw [hj']
        refine (f201_ok S70 (by omega) (jbk d g.area (g.pos / 64)) (by rw [hLl.1]; exact hbk) (g.pos % 64) (Nat.mod_lt _ (by omega)) 1 (by omega)).callD (by simp) (by simp) ?_
        rw [hO]
        rintro v w76 ⟨rfl, F3, S76, f76⟩ m76
        have mm70 : Md F w w70 := mm42.trans (m70.mono (by simp))
        have mm76 : Md F w w76 := mm70.fr m76 f2
        have f3 : Fr w F F3 := f2.trans f76 mm70.size
        refine opB_in ⟨S76.blk, Bd_e rfl <| Bd_e rfl ⟨!o.2, o.1, F3, rfl, S76, f3, mm76, ?_⟩⟩
        by_cases ho2 : o.2 = false
        · rw [if_pos ho2] at e
          exact .inl ⟨by rw [ho2]; rfl, e⟩
        · rw [if_neg ho2] at e
          exact .inr ⟨by rw [show o.2 = true by simpa using ho2]; rfl, e⟩
  · refine in196 S (by simp) fun w84 S84 m84 => Bd_e rfl <| If_t ?_
    have S84d := S84.md0 (Md_drew w84)
    refine ⟨fun w' => Blk w' ln 260 (g.c n), S84d.blk, NN_in ?_⟩
    show ∃ v, _ ∧ _
    exact ⟨.int .i64 g.pos, fun w' hw => hw.ld (j := 2) rfl rfl, opI_in <| in197 S84d h1 (by simp) fun w95 S95 m95 => ⟨S95.blk, Bd_e (y := (jsz d : Int) - g.pos) (by rw [IntKind.wrap_i64]; omega) ⟨rfl, S95, (m84.trans (Md_drew w84)).trans m95⟩⟩⟩
end
end Fk
set_option linter.unusedVariables false
set_option linter.unusedSimpArgs false
set_option maxRecDepth 100000
namespace Fk
open Go Go.Proofs Go.RowKit
theorem size_bytesOf (l : List Nat) : (bytesOf l).size = l.length := by simp [bytesOf, ByteArray.size]
theorem str_own {w : World} {base : Nat} {a : Option Addr} {c : Nat} {l : List Nat} (h : OwnL w base 5 1 b1 a c l) (hl : ∀ x ∈ l, x < 256) (c' : Nat) : (convert 51 9 (.slice a l.length c')).run Try.prog w = .ok (.string (bytesOf l)) w := conv_row (h.row encb1) hl _ _ rfl
/-- Two disks, apart. -/
structure DS2 (w0 w : World) (n1 : Nat) (d1 : Dk) (F1 : List Nat) (n2 : Nat) (d2 : Dk) (F2 : List Nat) : Prop where
  a : DS w0 w n1 d1 F1
  b : DS w0 w n2 d2 F2
  x : ∀ b ∈ F2, b ∉ F1
section
variable {w0 w w' : World} {n1 : Nat} {d1 d1' : Dk} {F1 F1' : List Nat} {n2 : Nat} {d2 d2' : Dk} {F2 F2' : List Nat}
theorem DS2.md0 (S : DS2 w0 w n1 d1 F1 n2 d2 F2) (hm : Md [] w w') : DS2 w0 w' n1 d1 F1 n2 d2 F2 := ⟨S.a.md0 hm, S.b.md0 hm, S.x⟩
end
end Fk
set_option linter.unusedVariables false
set_option linter.unusedSimpArgs false
set_option maxRecDepth 100000
set_option maxHeartbeats 2000000
namespace Fk
open Go Go.Proofs Go.RowKit
def recN (n : Int) : Nat := (max (min n 2000) 0).toNat
def recB (n : Int) (c : Nat) : List Nat := (List.range (recN n)).map fun i => (c + 3 * i) % 256
theorem recN_le (n : Int) : recN n ≤ 2000 := by unfold recN; omega
theorem recB_len (n : Int) (c : Nat) : (recB n c).length = recN n := by simp [recB]
theorem recB_lt (n : Int) (c : Nat) : ∀ x ∈ recB n c, x < 256 := by
  intro x hx
  simp only [recB, List.mem_map] at hx
  obtain ⟨i, _, rfl⟩ := hx
  exact Nat.mod_lt _ (by omega)
theorem max_if2 (x : Int) : (if x > (0 : Int) then x else 0) = max x 0 := by omega
theorem f123_ok (n : Int) (c : Nat) (hc : c < 256) (w : World) : Ct Try.prog 123 #[.int .i64 n, .int .u8 c] w fun v w' => (∃ a C C2, v = .slice a (recB n c).length C2 ∧ OwnL w' w.heap.size 5 1 b1 a C (recB n c)) ∧ Md [] w w' := by
  apply f123_in
  refine Nw_i ?_
  have ma := Md.alloc (M := []) w (.cells #[Value.int .u8 (c : Int)] 5)
  have oH := OwnL.lit (P := Try.prog) (base := 0) encb1 w 5 [c] #[Value.int .u8 (c : Int)] (by omega) (by simp [maxLen]) rfl
  refine Bd_e (min_if _ _) <| Bd_e (max_if2 _) ?_
  have hm : max (min 2000 n) 0 = ((recN n : Nat) : Int) := by unfold recN; omega
  have hm' : max (min n 2000) 0 = ((recN n : Nat) : Int) := by unfold recN; omega
  have hle := recN_le n
  first | rw [hm] | rw [hm']
  refine (f193_ok c hc (some ⟨w.heap.size, 0, none⟩) 1 (recN n) (by omega) _ (oH.row encb1)).call (by simp) ?_
  rintro v w6 ⟨a, cc, C, rfl, _, o6⟩ m6
  refine opL_in <| Bd_e rfl ?_
  have o6' := o6.down ma.size
  refine LoopP_in (fun mm us vs w' => ∃ (i : Nat) (l : List Nat), us = [.int .i64 i] ∧ mm = recN n - i ∧ i ≤ recN n ∧ OwnL w' w.heap.size 5 1 b1 a C l ∧ l.length = recN n ∧ Md [] w w' ∧ (∀ j, j < i → l[j]? = some ((c + 3 * j) % 256)) ∧ (∀ j, i ≤ j → j < recN n → l[j]? = some c)) (recN n)
    ⟨0, _, rfl, rfl, by omega, o6', by simp, ma.trans m6, fun j hj => by omega, fun j _ hj => by rw [List.getElem?_replicate, if_pos hj]⟩ ?_
  rintro mm us vs w14 ⟨i, l, rfl, hmm, hi, o14, hll, m14, h1, h2⟩
  refine opI_in <| Bd_in fun b16 hb16 => If_in (fun hb => ?_) fun hb => ?_
  · have hil : i < recN n := by rw [hb16] at hb; have : (i : Int) < (recN n : Int) := of_decide_eq_true hb
                                omega
    have hil' : i < l.length := by omega
    have hx : l[i] = c := by
      have := h2 i (Nat.le_refl _) hil
      rw [List.getElem?_eq_getElem hil'] at this
      exact Option.some.inj this
    have hix := (o14.row encb1).ix hil'
    rw [hll] at hix
    obtain ⟨A, hA, p1, p2, p3, p4, p5, p6⟩ := o14.put encb1 (by omega) hil' ((c + 3 * i) % 256)
    refine ⟨hix, (o14.row encb1).ld1 hil' rfl <| opI_in <| Bd_e (y := ((3 * i : Nat) : Int)) (by rw [IntKind.wrap_i64]; omega) <| Bd_e (y := ((3 * i % 256 : Nat) : Int)) (by rw [IntKind.wrap_u8]; omega) <| Bd_e (y := (((c + 3 * i) % 256 : Nat) : Int)) (by rw [hx, IntKind.wrap_u8]; omega) ⟨hix, by simp, p4, Bd_e (inc_i64 (by omega)) ⟨recN n - (i + 1), by omega, i + 1, _, rfl, rfl, by omega, p5, by simpa using hll, m14.old p6 (by simp; exact p2), fun j hj => ?_, fun j hj hj2 => ?_⟩⟩⟩
    · by_cases hji : j = i
      · subst hji; rw [List.getElem?_set_self (by omega)]
      · rw [List.getElem?_set_ne (by omega)]; exact h1 j (by omega)
    · rw [List.getElem?_set_ne (by omega)]; exact h2 j (by omega) hj2
  · have hil : i = recN n := by
      have : ¬ (i : Int) < (recN n : Int) := by rw [hb16] at hb; exact of_decide_eq_false hb
      omega
    subst hil
    have e : l = recB n c := by
      apply List.ext_getElem?
      intro j
      by_cases hj : j < recN n
      · rw [h1 j hj, recB, List.getElem?_map, List.getElem?_range hj]; rfl
      · rw [List.getElem?_eq_none (by omega), List.getElem?_eq_none (by rw [recB_len]; omega)]
    subst e
    refine ⟨⟨a, C, cc, ?_, o14⟩, m14⟩
    rw [recB_len]
theorem in123 {L : List Nat} {w0 w : World} (hm : Md [] w0 w) (n : Int) {c : Nat} (hc : c < 256) (hL : ∀ b ∈ L, b < w.heap.size) {K : Option Addr → Nat → Nat → World → Prop}
    (k : ∀ a C C2 w', Md [] w w' → OwnL w' w.heap.size 5 1 b1 a C (recB n c) → K a (recB n c).length C2 w') :
    CallW Try.prog L 123 #[.int .i64 n, .int .u8 c] (fun v w' => opL v fun a m C => K a m C w') w := by
  refine (f123_ok n c hc w).call hL ?_
  rintro v w' ⟨a, C, C2, rfl, o⟩ h'
  exact opL_in (k a C C2 w' h' o)
def tE (r : List Nat) : List Value := [.string (bytesOf r)]
theorem enctE : Enc 1 tE := ⟨fun _ => rfl, by intro x v hv; simp [tE] at hv; subst hv; rfl⟩
theorem f135_ok (rs : List (List Nat)) (hrs : ∀ r ∈ rs, ∀ x ∈ r, x < 256) (hl : rs.length < 2 ^ 40) (bx : Nat) (a : Option Addr) (c : Nat) (w : World) (hr : RRo w bx a c rs) : Ct Try.prog 135 #[.slice a rs.length c] w fun v w' => (∃ A C, v = .slice A rs.length C ∧ OwnL w' w.heap.size 9 1 tE A C rs) ∧ Md [] w w' := by
  apply f135_in
  obtain ⟨ps, h1, h2, h3⟩ := hr
  refine Bd_e rfl ?_
  refine LoopP_in (fun mm us vs w' => ∃ (i : Nat) (A : Option Addr) (C : Nat), us = [.slice A (rs.take i).length C, .int .i64 i] ∧ mm = rs.length - i ∧ i ≤ rs.length ∧ OwnL w' w.heap.size 9 1 tE A C (rs.take i) ∧ Md [] w w') rs.length
    ⟨0, none, 0, rfl, rfl, by omega, OwnL.nil _ _ _ _ _, Md.refl _ _⟩ ?_
  rintro mm us vs w5 ⟨i, A, C, rfl, hmm, hi, o5, m5⟩
  refine opL_in <| opI_in <| Bd_in fun b10 hb10 => If_in (fun hb => ?_) fun hb => ?_
  · have hil : i < rs.length := by rw [hb10] at hb; have : (i : Int) < (rs.length : Int) := of_decide_eq_true hb
                                   omega
    have hip : i < ps.length := by omega
    obtain ⟨q1, ⟨_, q2⟩, q3⟩ := h3 i ps[i] rs[i] (List.getElem?_eq_getElem hip) (List.getElem?_eq_getElem hil)
    have hix := ((h1.md m5).row encsE).ix hip
    rw [h2] at hix
    refine ⟨hix, ((h1.md m5).row encsE).ld1 hip rfl <| opL_in ?_⟩
    rw [q1]
    refine RunW_in0 (str_own (q2.md m5) (hrs _ (List.getElem_mem hil)) _) <| opStr_in ?_
    have htl : (rs.take i).length = i := by rw [List.length_take]; omega
    refine app_one rowT55 enctE rs[i] rfl o5 m5.size (by simp) (by simp) (by rw [htl]; simp [maxLen]; omega) (by rw [htl]; omega) fun a' c' w' o' m' hA => opL_in <| Bd_e (inc_i64 (by omega)) ?_
    rw [← List.take_succ_eq_append_getElem hil] at o' ⊢
    exact ⟨rs.length - (i + 1), by omega, i + 1, a', c', rfl, rfl, by omega, o', m5.old m' fun d hd => by obtain ⟨B, hB, rfl⟩ := mem_blk hd; exact (o5.lt hB).1⟩
  · have hil : i = rs.length := by
      have : ¬ (i : Int) < (rs.length : Int) := by rw [hb10] at hb; exact of_decide_eq_false hb
      omega
    subst hil
    rw [List.take_length] at o5 ⊢
    exact ⟨⟨A, C, rfl, o5⟩, m5⟩
theorem tstr_ne {a b : List Nat} (ha : ∀ x ∈ a, x < 256) (hb : ∀ x ∈ b, x < 256) : (!(bytesOf a).toList == (bytesOf b).toList) = decide (a ≠ b) := by
  rw [str_eqL ha hb]; by_cases h : a = b <;> simp [h]
theorem take_eq_succ {xs ys : List (List Nat)} {i : Nat} (h : xs.take i = ys.take i) (ha : i < xs.length) (hb : i < ys.length) (e : xs[i] = ys[i]) : xs.take (i + 1) = ys.take (i + 1) := by
  rw [List.take_succ_eq_append_getElem ha, List.take_succ_eq_append_getElem hb, h, e]
theorem f127_ok (xs ys : List (List Nat)) (has : ∀ r ∈ xs, ∀ x ∈ r, x < 256) (hbs : ∀ r ∈ ys, ∀ x ∈ r, x < 256) (hl : xs.length < 2 ^ 40) (a : Option Addr) (c : Nat) (b : Option Addr) (cb : Nat) (w : World) (hr : RowAt w a 1 tE xs) (hr2 : RowAt w b 1 tE ys) :
    Ct Try.prog 127 #[.slice a xs.length c, .slice b ys.length cb] w fun v w' => v = .bool (decide (xs = ys)) ∧ Md [] w w' := by
  apply f127_in
  refine Bd_e rfl <| Bd_e rfl <| Bd_in fun b3 hb3 => If_in (fun hb => ?_) fun hb => ?_
  · have hne : xs.length ≠ ys.length := by rw [hb3] at hb; simp at hb; omega
    exact ⟨by rw [decide_eq_false (fun h => hne (by rw [h]))], Md.refl _ _⟩
  have hel : xs.length = ys.length := by rw [hb3] at hb; simp at hb; omega
  refine Bd_e rfl ?_
  refine LoopP_in (fun mm us vs w' => ∃ (i : Nat) (z : Bool), us = [.bool z, .int .i64 i] ∧ mm = xs.length - i ∧ i ≤ xs.length ∧ Md [] w w' ∧ xs.take i = ys.take i) xs.length
    ⟨0, false, rfl, rfl, by omega, Md.refl _ _, rfl⟩ ?_
  rintro mm us vs w8 ⟨i, z, rfl, hmm, hi, m8, he⟩
  refine opB_in <| opI_in <| Bd_in fun b11 hb11 => If_in (fun hbb => ?_) fun hbb => ?_
  · have hil : i < xs.length := by rw [hb11] at hbb; have : (i : Int) < (xs.length : Int) := of_decide_eq_true hbb
                                   omega
    have hil2 : i < ys.length := by omega
    refine ⟨fun w' => Md [] w w', m8.trans (Md_drew w8), hr.ix hil, ?_⟩
    show ∃ v, _ ∧ _
    refine ⟨.string (bytesOf xs[i]), fun w' hm => (hr.md hm).ld1 hil rfl rfl, opStr_in ⟨hr2.ix hil2, ?_⟩⟩
    show ∃ v, _ ∧ _
    refine ⟨.string (bytesOf ys[i]), fun w' hm => (hr2.md hm).ld1 hil2 rfl rfl, opStr_in <| Bd_e (tstr_ne (has _ (List.getElem_mem hil)) (hbs _ (List.getElem_mem hil2))) <| If_in (fun h => ?_) fun h => ?_⟩
    · have hne : xs[i] ≠ ys[i] := of_decide_eq_true h
      refine ⟨?_, m8.trans (Md_drew w8)⟩
      rw [decide_eq_false]
      rintro rfl
      exact hne rfl
    · have heq : xs[i] = ys[i] := by simpa using h
      exact Bd_e (inc_i64 (by omega)) ⟨xs.length - (i + 1), by omega, i + 1, z, rfl, rfl, by omega, m8.trans (Md_drew w8), take_eq_succ he hil hil2 heq⟩
  · have hil : i = xs.length := by
      have : ¬ (i : Int) < (xs.length : Int) := by rw [hb11] at hbb; exact of_decide_eq_false hbb
      omega
    subst hil
    rw [List.take_length, hel, List.take_length] at he
    exact ⟨by rw [decide_eq_true he], m8⟩
theorem f140_ok (xs ys : List (List Nat)) (has : ∀ r ∈ xs, ∀ x ∈ r, x < 256) (hbs : ∀ r ∈ ys, ∀ x ∈ r, x < 256) (hl : xs.length < 2 ^ 40) (bx : Nat) (a : Option Addr) (c : Nat) (b : Option Addr) (cb : Nat) (w : World) (hr : RRo w bx a c xs) (hr2 : RowAt w b 1 tE ys) :
    Ct Try.prog 140 #[.slice a xs.length c, .slice b ys.length cb] w fun v w' => v = .bool (decide (xs = ys)) ∧ Md [] w w' := by
  apply f140_in
  obtain ⟨ps, h1, h2, h3⟩ := hr
  refine Bd_e rfl <| Bd_e rfl <| Bd_in fun b3 hb3 => If_in (fun hb => ?_) fun hb => ?_
  · have hne : xs.length ≠ ys.length := by rw [hb3] at hb; simp at hb; omega
    exact ⟨by rw [decide_eq_false (fun h => hne (by rw [h]))], Md.refl _ _⟩
  have hel : xs.length = ys.length := by rw [hb3] at hb; simp at hb; omega
  refine Bd_e rfl ?_
  refine LoopP_in (fun mm us vs w' => ∃ (i : Nat) (z : Bool), us = [.bool z, .int .i64 i] ∧ mm = xs.length - i ∧ i ≤ xs.length ∧ Md [] w w' ∧ xs.take i = ys.take i) xs.length
    ⟨0, false, rfl, rfl, by omega, Md.refl _ _, rfl⟩ ?_
  rintro mm us vs w8 ⟨i, z, rfl, hmm, hi, m8, he⟩
  refine opB_in <| opI_in <| Bd_in fun b11 hb11 => If_in (fun hbb => ?_) fun hbb => ?_
  · have hil : i < xs.length := by rw [hb11] at hbb; have : (i : Int) < (xs.length : Int) := of_decide_eq_true hbb
                                   omega
    have hil2 : i < ys.length := by omega
    have hip : i < ps.length := by omega
    obtain ⟨q1, ⟨_, q2⟩, q3⟩ := h3 i ps[i] xs[i] (List.getElem?_eq_getElem hip) (List.getElem?_eq_getElem hil)
    have hix := (h1.row encsE).ix hip
    rw [h2] at hix
    refine ⟨fun w' => Md [] w w', m8.trans (Md_drew w8), hix, ?_⟩
    show ∃ v, _ ∧ _
    refine ⟨.slice (ps[i]).1 (ps[i]).2.1 (ps[i]).2.2, fun w' hm => ((h1.md hm).row encsE).ld1 hip rfl rfl, opL_in ?_⟩
    show ∃ v, _ ∧ _
    refine ⟨.string (bytesOf xs[i]), fun w' hm => ⟨?_⟩, opStr_in ⟨hr2.ix hil2, ?_⟩⟩
    · rw [q1]; exact str_own (q2.md hm) (has _ (List.getElem_mem hil)) _
    show ∃ v, _ ∧ _
    refine ⟨.string (bytesOf ys[i]), fun w' hm => (hr2.md hm).ld1 hil2 rfl rfl, opStr_in <| Bd_e (tstr_ne (has _ (List.getElem_mem hil)) (hbs _ (List.getElem_mem hil2))) <| If_in (fun h => ?_) fun h => ?_⟩
    · have hne : xs[i] ≠ ys[i] := of_decide_eq_true h
      refine ⟨?_, m8.trans (Md_drew w8)⟩
      rw [decide_eq_false]
      rintro rfl
      exact hne rfl
    · have heq : xs[i] = ys[i] := by simpa using h
      exact Bd_e (inc_i64 (by omega)) ⟨xs.length - (i + 1), by omega, i + 1, z, rfl, rfl, by omega, m8.trans (Md_drew w8), take_eq_succ he hil hil2 heq⟩
  · have hil : i = xs.length := by
      have : ¬ (i : Int) < (xs.length : Int) := by rw [hb11] at hbb; exact of_decide_eq_false hbb
      omega
    subst hil
    rw [List.take_length, hel, List.take_length] at he
    exact ⟨by rw [decide_eq_true he], m8⟩
end Fk
set_option linter.unusedVariables false
set_option linter.unusedSimpArgs false
set_option maxRecDepth 100000
set_option maxHeartbeats 2000000
namespace Fk
open Go Go.Proofs Go.RowKit
theorem parse_bd : ∀ (f : Nat) (l : List Nat) (rs : List (List Nat)) (p : Nat), (∀ x ∈ l, x < 256) → jprs f l = some (rs, p) → (∀ r ∈ rs, 1 ≤ r.length ∧ r.length ≤ 1048576 ∧ ∀ x ∈ r, x < 256) ∧ p ≤ l.length ∧ rs.length ≤ p
  | 0, l, rs, p, hl, h => by cases h
  | f + 1, l, rs, p, hl, h => by
    cases l with
    | nil => simp [jprs] at h; obtain ⟨rfl, rfl⟩ := h; simp
    | cons m t =>
      unfold jprs at h
      simp only at h
      split at h
      · simp at h; obtain ⟨rfl, rfl⟩ := h; simp
      · split at h
        · cases h
        · split at h
          · cases h
          · split at h
            · cases h
            · rename_i h1 h2 h3 h4
              generalize hN : num (t.take 3) = N at *
              cases hj : jprs f ((m :: t).drop (N + 8)) with
              | none => rw [hj] at h; cases h
              | some q =>
                rw [hj] at h
                obtain ⟨q1, q2⟩ := q
                simp at h
                obtain ⟨rfl, rfl⟩ := h
                obtain ⟨a, b, c⟩ := parse_bd f _ q1 q2 (fun x hx => hl x (List.mem_of_mem_drop hx)) hj
                have hlen : (m :: t).length = t.length + 1 := rfl
                rw [hlen] at h2 h3
                have htk : ((t.drop 3).take N).length = N := by rw [List.length_take, List.length_drop]; omega
                rw [List.length_drop, hlen] at b
                refine ⟨fun r hr => ?_, by rw [hlen]; omega, by simp; omega⟩
                rcases List.mem_cons.1 hr with rfl | hr
                · exact ⟨by omega, by omega, fun x hx => hl x (List.mem_cons_of_mem _ (List.mem_of_mem_drop (List.mem_of_mem_take hx)))⟩
                · exact a r hr
theorem parseL_bd {l : List Nat} {rs : List (List Nat)} {p : Nat} (hl : ∀ x ∈ l, x < 256) (h : parseL l = some (rs, p)) : (∀ r ∈ rs, 1 ≤ r.length ∧ r.length ≤ 1048576 ∧ ∀ x ∈ r, x < 256) ∧ p ≤ l.length ∧ rs.length ≤ p := parse_bd _ l rs p hl h
section
variable {w0 w : World} {n : Nat} {d : Dk} {F L : List Nat}
/-- Open, where there is a log. -/
theorem in136 (S : DS w0 w n d F) (h3 : 3 ≤ d.bl.length) (hL : ∀ b ∈ L, b < w.heap.size) {K : Option Addr → Option Addr → Nat → Nat → Int → World → Prop}
    (k1 : ∀ w', parseL (areaL d (openA d)) = none → DS w0 w' n d F → Md [] w w' → K none none 0 0 210 w')
    (k2 : ∀ rs p ln a c bx w', parseL (areaL d (openA d)) = some (rs, p) → JS w0 w' n d F ln ⟨openA d, p, false⟩ → w.heap.size ≤ ln → ln < bx → RRo w' bx a c rs → Md [] w w' → K (some ⟨ln, 0, none⟩) a rs.length c 0 w') :
    CallW Try.prog L 136 #[.pointer (some ⟨n, 0, none⟩)] (fun v w' => opTu v fun cs => opP (nthD (Array.toList cs) 0) fun l => opL (nthD (Array.toList cs) 1) fun a m c => opI .i64 (nthD (Array.toList cs) 2) fun e => SzIs (Array.size cs) 3 (K l a m c e w')) w := by
  refine (f136_ok S (by omega)).call hL ?_
  rintro v w' h h'
  rcases h with ⟨hlt, _⟩ | ⟨_, hn, rfl⟩ | ⟨_, rs, p, ln, a, c, bx, hs, rfl, hb, hlo, hbx, hR⟩
  · omega
  · exact opTu_in <| opP_in <| opL_in <| opI_in <| SzIs_in rfl (k1 w' hn (S.md0 h') h')
  · exact opTu_in <| opP_in <| opL_in <| opI_in <| SzIs_in rfl (k2 rs p ln a c bx w' hs ⟨S.md0 h', hb, fun hx => by have := S.dk.lt _ hx; omega, by have := S.md.size; omega⟩ hlo hbx hR h')
theorem in136s (S : DS w0 w n d F) (h1 : 1 ≤ d.bl.length) (h3 : d.bl.length < 3) (hL : ∀ b ∈ L, b < w.heap.size) {K : Option Addr → Option Addr → Nat → Nat → Int → World → Prop}
    (k : ∀ w', DS w0 w' n d F → Md [] w w' → K none none 0 0 2 w') :
    CallW Try.prog L 136 #[.pointer (some ⟨n, 0, none⟩)] (fun v w' => opTu v fun cs => opP (nthD (Array.toList cs) 0) fun l => opL (nthD (Array.toList cs) 1) fun a m c => opI .i64 (nthD (Array.toList cs) 2) fun e => SzIs (Array.size cs) 3 (K l a m c e w')) w := by
  refine (f136_ok S h1).call hL ?_
  rintro v w' h h'
  rcases h with ⟨hlt, rfl⟩ | ⟨h, _⟩ | ⟨h, _⟩
  · exact opTu_in <| opP_in <| opL_in <| opI_in <| SzIs_in rfl (k w' (S.md0 h') h')
  · omega
  · omega
theorem f126_ok (S : DS w0 w n d F) (h3 : 3 ≤ d.bl.length) : Ct Try.prog 126 #[.pointer (some ⟨n, 0, none⟩)] w fun v w' =>
    ((parseL (areaL d (openA d)) = none ∧ ∃ A c, v = .tuple #[.pointer none, .slice A 0 c, .bool false]) ∨
      (∃ rs p ln a c, parseL (areaL d (openA d)) = some (rs, p) ∧ v = .tuple #[.pointer (some ⟨ln, 0, none⟩), .slice a rs.length c, .bool true] ∧ JS w0 w' n d F ln ⟨openA d, p, false⟩ ∧ w.heap.size ≤ ln ∧ OwnL w' w.heap.size 9 1 tE a c rs)) ∧ Md [] w w' := by
  apply f126_in
  refine in136 S h3 (by simp) (fun w2 hn S2 m2 => ?_) fun rs p ln a c bx w2 hs J2 hlo hbx R2 m2 => ?_
  · refine (f135_ok [] (by simp) (by simp) 0 none 0 w2 (RRo.nil _ _)).call (by simp) ?_
    rintro v w10 ⟨A, C, rfl, o⟩ m10
    exact opL_in <| Bd_e rfl ⟨.inl ⟨hn, A, C, rfl⟩, m2.trans m10⟩
  · obtain ⟨q1, q2, q3⟩ := parseL_bd (areaL_lt d _) hs
    have hal := areaL_len (d := d) (by omega) (openA_le d)
    have hh := half_le J2.len
    have hj : jsz d = half d * 64 := rfl
    refine (f135_ok rs (fun r hr => (q1 r hr).2.2) (by omega) bx a c w2 R2).call (by simp) ?_
    rintro v w10 ⟨A, C, rfl, o⟩ m10
    exact opL_in <| Bd_e rfl ⟨.inr ⟨rs, p, ln, A, C, hs, rfl, J2.md0 m10, hlo, o.down m2.size⟩, m2.trans m10⟩
theorem in126 (S : DS w0 w n d F) (h3 : 3 ≤ d.bl.length) (hL : ∀ b ∈ L, b < w.heap.size) {K : Option Addr → Option Addr → Nat → Nat → Bool → World → Prop}
    (k1 : ∀ A c w', parseL (areaL d (openA d)) = none → DS w0 w' n d F → Md [] w w' → K none A 0 c false w')
    (k2 : ∀ rs p ln a c w', parseL (areaL d (openA d)) = some (rs, p) → JS w0 w' n d F ln ⟨openA d, p, false⟩ → w.heap.size ≤ ln → OwnL w' w.heap.size 9 1 tE a c rs → Md [] w w' → K (some ⟨ln, 0, none⟩) a rs.length c true w') :
    CallW Try.prog L 126 #[.pointer (some ⟨n, 0, none⟩)] (fun v w' => opTu v fun cs => opP (nthD (Array.toList cs) 0) fun l => opL (nthD (Array.toList cs) 1) fun a m c => opB (nthD (Array.toList cs) 2) fun e => SzIs (Array.size cs) 3 (K l a m c e w')) w := by
  refine (f126_ok S h3).call hL ?_
  rintro v w' h h'
  rcases h with ⟨hn, A, c, rfl⟩ | ⟨rs, p, ln, a, c, hs, rfl, J, hlo, o⟩
  · exact opTu_in <| opP_in <| opL_in <| opB_in <| SzIs_in rfl (k1 A c w' hn (S.md0 h') h')
  · exact opTu_in <| opP_in <| opL_in <| opB_in <| SzIs_in rfl (k2 rs p ln a c w' hs J hlo o h')
theorem flat_zBk : ∀ m : Nat, bytesB (List.replicate m zBk) = List.replicate (m * 64) 0
  | 0 => rfl
  | m + 1 => by
    have e : bytesB (List.replicate (m + 1) zBk) = List.replicate 64 0 ++ bytesB (List.replicate m zBk) := rfl
    rw [e, flat_zBk m, List.replicate_append_replicate]
    congr 1; omega
theorem areaL_new (x a : Nat) : ∃ k, areaL (newDk x) a = List.replicate k 0 := by
  unfold areaL newDk
  rw [List.drop_replicate, List.take_replicate]
  exact ⟨_, flat_zBk _⟩
theorem openA_new {x : Nat} (hx : 1 ≤ x) : openA (newDk x) = 0 := by
  obtain ⟨y, rfl⟩ : ∃ y, x = y + 1 := ⟨x - 1, by omega⟩
  rfl
theorem parse_zeros (k : Nat) : parseL (List.replicate k 0) = some ([], 0) := by
  cases k with
  | zero => rfl
  | succ k => rw [List.replicate_succ]; exact parse_zero _
theorem parse_new (x a : Nat) : parseL (areaL (newDk x) a) = some ([], 0) := by
  obtain ⟨k, hk⟩ := areaL_new x a
  rw [hk, parse_zeros]
theorem newDk_len (x : Nat) : (newDk x).bl.length = x := by simp [newDk]
theorem in122 (hm : Md [] w0 w) (b : Nat) (hL : ∀ b ∈ L, b < w.heap.size) {K : Option Addr → Option Addr → Bool → World → Prop}
    (k : ∀ n F ln w', JS w0 w' n (newDk (3 + b % 20)) F ln ⟨0, 0, false⟩ → (∀ x ∈ F, w.heap.size ≤ x) → w.heap.size ≤ ln → Md [] w w' → K (some ⟨n, 0, none⟩) (some ⟨ln, 0, none⟩) true w') (hb : b < 256) :
    CallW Try.prog L 122 #[.int .u8 b] (fun v w' => opTu v fun cs => opP (nthD (Array.toList cs) 0) fun a => opP (nthD (Array.toList cs) 1) fun l => opB (nthD (Array.toList cs) 2) fun e => SzIs (Array.size cs) 3 (K a l e w')) w := by
  have key : Ct Try.prog 122 #[.int .u8 b] w fun v w' => (∃ n F ln, v = .tuple #[.pointer (some ⟨n, 0, none⟩), .pointer (some ⟨ln, 0, none⟩), .bool true] ∧ JS w0 w' n (newDk (3 + b % 20)) F ln ⟨0, 0, false⟩ ∧ (∀ x ∈ F, w.heap.size ≤ x) ∧ w.heap.size ≤ ln) ∧ Md [] w w' := by
    apply f122_in
    refine Bd_e (y := ((b % 20 : Nat) : Int)) (by rw [Int.tmod_eq_emod_of_nonneg (by omega)]; omega) <| Bd_e (y := ((b % 20 : Nat) : Int)) (by rw [IntKind.wrap_i64]; omega) <| Bd_e (y := ((3 + b % 20 : Nat) : Int)) (by rw [IntKind.wrap_i64]; omega) <| in109 hm (3 + b % 20) (by omega) (by omega) (by simp) fun n F w5 S5 m5 hF => ?_
    have hA : openA (newDk (3 + b % 20)) = 0 := openA_new (by omega)
    refine in136 S5 (by rw [newDk_len]; omega) (by simp) (fun w2 hn S2 m2 => ?_) fun rs p ln a c bx w2 hs J2 hlo hbx R2 m2 => ?_
    · rw [parse_new] at hn; cases hn
    · rw [parse_new] at hs
      simp only [Option.some.injEq, Prod.mk.injEq] at hs
      obtain ⟨rfl, rfl⟩ := hs
      rw [hA] at J2
      exact Bd_t rfl <| Bd_t rfl <| Bd_t rfl <| Bd_e rfl <| Bd_t rfl <| Bd_t rfl ⟨⟨n, F, ln, rfl, J2, hF, by have := m5.size; omega⟩, m5.trans m2⟩
  refine key.call hL ?_
  rintro v w' ⟨n, F, ln, rfl, J, hF, hl⟩ h'
  exact opTu_in <| opP_in <| opP_in <| opB_in <| SzIs_in rfl (k n F ln w' J hF hl h')
theorem in124 {ln : Nat} {g : Lg} (S : JS w0 w n d F ln g) (h1 : 1 ≤ d.bl.length) (hpd : d.pd.length < 2 ^ 28) (ha : g.area ≤ 1) (hp : g.pos ≤ jsz d) (r : List Nat) (hr : ∀ x ∈ r, x < 256) {A : Option Addr} {C m : Nat} (hm : m = r.length) (ho : RowAt w A 1 b1 r) (hL : LF L w (ln :: F)) {K : Int → World → Prop}
    (k : ∀ F' w', JS w0 w' n (apD d g r).1 F' ln (apD d g r).2.1 → Md (ln :: F) w w' → Fr w F F' → LF L w' (ln :: F') → K (apD d g r).2.2 w') :
    CallW Try.prog L 124 #[.pointer (some ⟨ln, 0, none⟩), .slice A m C] (fun v w' => opI .i64 v fun x => K x w') w := by
  subst hm
  refine (f124_ok S h1 hpd ha hp r hr A C ho).callD (fun b hb => (hL b hb).1) (fun b hb => (hL b hb).2) ?_
  rintro v w' ⟨rfl, F', J, hf⟩ h'
  refine opI_in (k F' w' J h' hf (hL.fr (fun x hx => ?_) h'.size))
  rcases List.mem_cons.1 hx with rfl | hx
  · exact .inl (by simp)
  · exact (hf x hx).imp (fun h => List.mem_cons_of_mem _ h) id
end
def awG : Lg := ⟨0, 0, false⟩
def aw1 : Dk × Lg × Int := apD (newDk 3) awG [97, 98]
theorem aw_e : aw1.2.2 = 0 := by kernel_rfl
theorem aw_p : aw1.2.1.pos = 10 := by kernel_rfl
theorem aw_o : aw1.2.1.ov = false := by kernel_rfl
theorem aw_l : aw1.1.bl.length = 3 := by kernel_rfl
theorem aw_r : parseL (areaL aw1.1 (openA aw1.1)) = some ([[97, 98]], 10) := by kernel_rfl
theorem aw_s0 : sumL [] = 2166136261 := by kernel_rfl
theorem aw_s1 : sumL [97] = 3826002220 := by kernel_rfl
/-- Bytes of a text as it is written. -/
theorem lit51 (w : World) (l : List Nat) (C : Array Value) (n c : Nat) (hC : C.toList = l.flatMap b1) :
    ∃ w', (convert 51 51 (.slice (some ⟨w.heap.size, 0, none⟩) n c)).run Try.prog (w.alloc (.cells C 5)) = .ok (.slice (some ⟨w.heap.size, 0, none⟩) n c) w' ∧ Md [] w w' ∧ RowAt w' (some ⟨w.heap.size, 0, none⟩) 1 b1 l := by
  refine ⟨_, Go.Lib.run_convert_bytes_const w 51 5 C n c (by kernel_rfl) (by kernel_rfl), Md.alloc w _, fun i x hx => ⟨_, rfl, fun j u hu => ?_⟩⟩
  have hj : j < 1 := by have := (List.getElem?_eq_some_iff.1 hu).1; rwa [encb1.len x] at this
  have hj0 : j = 0 := by omega
  subst hj0
  rw [addr_add0, ad0, Nat.mul_one, World.cell?_alloc_mark, ← Array.getElem?_toList, hC]
  have := encb1.at l i 0 x hx (by omega)
  rw [Nat.mul_one, Nat.add_zero] at this
  rw [this, hu]
theorem f125_ok (w : World) : Ct Try.prog 125 #[] w fun v w' => v = .bool true ∧ Md [] w w' := by
  apply f125_in
  refine in109 (L := []) (Md.refl _ w) 3 (by omega) (by omega) (by simp) fun n F w2 S2 m2 hF => ?_
  have hA : openA (newDk 3) = 0 := openA_new (by omega)
  refine in136 S2 (by rw [newDk_len]; omega) (by simp) (fun w7 hn S7 m7 => by rw [parse_new] at hn; cases hn) fun rs p ln a c bx w7 hs J7 hlo hbx R7 m7 => ?_
  rw [parse_new] at hs
  simp only [Option.some.injEq, Prod.mk.injEq] at hs
  obtain ⟨rfl, rfl⟩ := hs
  rw [hA] at J7
  refine Nw_i ?_
  obtain ⟨w17, hr17, m17, r17⟩ := lit51 w7 [97, 98] #[Value.int IntKind.u8 (97 : Int), Value.int IntKind.u8 (98 : Int)] 2 2 rfl
  refine RunW_in hr17 (fun b hb => by cases hb) <| opL_in ?_
  have J17 := J7.md0 m17
  have e1 : apD (newDk 3) ⟨0, 0, false⟩ [97, 98] = aw1 := rfl
  refine in124 (L := []) J17 (by rw [newDk_len]; omega) (by simp [newDk]) (by simp) (by simp) [97, 98] (by simp) rfl r17 (LF.nil _ _) fun F2 w22 J22 m22 f22 _ => ?_
  rw [e1] at J22 ⊢
  rw [aw_e]
  have l22 := aw_l
  have q22 := aw_r
  have hp22 := aw_p
  have ho22 := aw_o
  generalize aw1 = x at *
  obtain ⟨d1, g1, e⟩ := x
  simp only at *
  have hj1 : jsz d1 = 64 := by unfold jsz half; rw [l22]
  have hr1 : roomD d1 g1 = 46 := by unfold roomD; rw [hj1, hp22, ho22]; decide
  refine in128 J22 (by omega) (by omega) (by simp) fun w25 J25 m25 => ?_
  rw [hr1]
  have mm25 : Md [] w w25 := J25.ds.md
  refine in136 J25.ds (by omega) (by simp) (fun w28 hn S28 m28 => by rw [q22] at hn; cases hn) fun rs p ln2 a2 c2 bx2 w28 hs J28 hlo2 hbx2 R28 m28 => ?_
  rw [q22] at hs
  simp only [Option.some.injEq, Prod.mk.injEq] at hs
  obtain ⟨rfl, rfl⟩ := hs
  have mm28 : Md [] w w28 := J28.ds.md
  refine in109 (L := []) mm28 2 (by omega) (by omega) (by simp) fun n3 F3 w36 S36 m36 hF3 => ?_
  refine in136s S36 (by rw [newDk_len]; omega) (by rw [newDk_len]; omega) (by simp) fun w41 S41 m41 => ?_
  refine Bd_t rfl <| Bd_t rfl <| Bd_t rfl <| Bd_e rfl <| Bd_t rfl <| Bd_t rfl <| Bd_t rfl <| Bd_t rfl <| Bd_t rfl <| Bd_t rfl <| Bd_t rfl <| Bd_t rfl <| Gd_t <| Nw_i <| Gd_t ?_
  have mT := Md.alloc (M := []) w41 (.cells #[Value.string (ByteArray.mk #[(97 : UInt8), (98 : UInt8)])] 9)
  have oT := OwnL.lit (P := Try.prog) (base := 0) enctE w41 9 [[97, 98]] #[Value.string (ByteArray.mk #[(97 : UInt8), (98 : UInt8)])] (by omega) (by simp [maxLen]) rfl
  have R41 := ((R28.md m36).md m41).md mT
  refine (f140_ok [[97, 98]] [[97, 98]] (by simp) (by simp) (by simp) bx2 a2 c2 (some ⟨w41.heap.size, 0, none⟩) 1 _ R41 (oT.row enctE)).call (by simp) ?_
  rintro v w67 rfl m67
  refine opB_in <| Bd_t (by simp) <| Bd_t rfl <| Bd_t rfl <| Gd_t <| (f138_ok [] (by simp) (by simp) none 0 w67 (fun i x hx => by simp at hx)).call (by simp) ?_
  rintro v w76 rfl m76
  refine opI_in <| Bd_t (by rw [aw_s0]; rfl) <| Bd_t rfl <| Gd_t <| Nw_i <| Gd_t ?_
  obtain ⟨w89, hr89, m89, r89⟩ := lit51 w76 [97] #[Value.int IntKind.u8 (97 : Int)] 1 1 rfl
  refine RunW_in hr89 (fun b hb => by cases hb) <| opL_in <| Gd_t ?_
  refine (f138_ok [97] (by simp) (by simp) (some ⟨w76.heap.size, 0, none⟩) 1 w89 r89).call (by simp) ?_
  rintro v w97 rfl m97
  exact opI_in <| Bd_t (by rw [aw_s1]; rfl) <| Bd_t rfl ⟨rfl, ((((((mm28.trans m36).trans m41).trans mT).trans m67).trans m76).trans m89).trans m97⟩
theorem in125 {w0 w : World} {L : List Nat} (h : Md [] w0 w) (hL : ∀ b ∈ L, b < w.heap.size) {K : Bool → World → Prop} (k : ∀ w', Md [] w0 w' → Md [] w w' → K true w') : CallW Try.prog L 125 #[] (fun v w' => opB v fun b => K b w') w := by
  refine (f125_ok w).call hL ?_
  rintro v w' rfl h'
  exact opB_in (k w' (h.trans h') h')
end Fk
set_option linter.unusedVariables false
set_option linter.unusedSimpArgs false
set_option maxRecDepth 100000
set_option maxHeartbeats 2000000
namespace Fk
open Go Go.Proofs Go.RowKit
def areaB (bl : List Bk) (a : Nat) : List Nat := areaL ⟨bl, [], 0⟩ a
def openB (bl : List Bk) : Nat := (getB bl 0).1.headD 0 % 2
def halfB (bl : List Bk) : Nat := (bl.length - 1) / 2
def jbB (bl : List Bk) (a k : Nat) : Nat := 1 + a * halfB bl + k
theorem half_B (d : Dk) : half d = halfB d.bl := rfl
theorem areaB_len {bl : List Bk} {a : Nat} (h : 1 ≤ bl.length) (ha : a ≤ 1) : (areaB bl a).length = halfB bl * 64 := areaL_len (d := ⟨bl, [], 0⟩) h ha
theorem areaB_get {bl : List Bk} {a k i : Nat} (h : 1 ≤ bl.length) (ha : a ≤ 1) (hk : k < halfB bl) (hi : i < 64) : (areaB bl a)[k * 64 + i]? = (getB bl (jbB bl a k)).1[i]? := areaL_get (d := ⟨bl, [], 0⟩) h ha hk hi
theorem getB_set {bl : List Bk} {i : Nat} (hi : i < bl.length) (b : Bk) (j : Nat) : getB (bl.set i b) j = if j = i then b else getB bl j := by
  unfold getB
  by_cases h : j = i
  · subst h; simp [hi]
  · rw [if_neg h]; simp [List.getElem?_set_ne (fun e => h e.symm)]
theorem jbB_set {bl : List Bk} {i : Nat} (b : Bk) (a k : Nat) : jbB (bl.set i b) a k = jbB bl a k := by unfold jbB halfB; simp
theorem jbB_inj {bl : List Bk} {a a' k k' : Nat} (ha : a ≤ 1) (ha' : a' ≤ 1) (hk : k < halfB bl) (hk' : k' < halfB bl) (h : jbB bl a k = jbB bl a' k') : a = a' ∧ k = k' := by
  unfold jbB at h
  have h1 : a = 0 ∨ a = 1 := by omega
  have h2 : a' = 0 ∨ a' = 1 := by omega
  rcases h1 with rfl | rfl <;> rcases h2 with rfl | rfl <;> simp at h ⊢ <;> omega
theorem jbB_pos (bl : List Bk) (a k : Nat) : jbB bl a k ≠ 0 := by unfold jbB; omega
theorem jbB_lt {bl : List Bk} {a k : Nat} (h : 1 ≤ bl.length) (ha : a ≤ 1) (hk : k < halfB bl) : jbB bl a k < bl.length := jbk_lt (d := ⟨bl, [], 0⟩) h ha hk
def CS (d : Dk) (S : List Bk → Prop) : Prop := ∀ m t, t ≤ 64 → S (d.crB m t m)
theorem CS.now {d : Dk} {S : List Bk → Prop} (h : CS d S) : S d.bl := by
  have := h d.pd.length 0 (by omega)
  unfold Dk.crB at this
  rw [List.drop_of_length_le (Nat.le_refl _)] at this
  exact this
theorem CS.flat {d : Dk} {S : List Bk → Prop} (h : d.pd = []) (hs : S d.bl) : CS d S := fun m t _ => by
  unfold Dk.crB
  rw [h, List.drop_nil]
  exact hs
theorem CS.same {d d' : Dk} {S : List Bk → Prop} (h : CS d S) (h1 : d'.bl = d.bl) (h2 : d'.pd = d.pd) : CS d' S := fun m t ht => by
  have := h m t ht
  unfold Dk.crB at this ⊢
  rw [h1, h2]; exact this
theorem CS.mono {d : Dk} {S T : List Bk → Prop} (h : CS d S) (k : ∀ bl, S bl → T bl) : CS d T := fun m t ht => k _ (h m t ht)
theorem mixB_all (a b : Bk) : mixB 64 a b = a := by
  apply Subtype.ext
  show a.1.take 64 ++ b.1.drop 64 = a.1
  rw [List.take_of_length_le (by rw [a.2.1]; exact Nat.le_refl _), List.drop_of_length_le (by rw [b.2.1]; exact Nat.le_refl _), List.append_nil]
theorem set_back {bl : List Bk} {i : Nat} (hi : i < bl.length) (b : Bk) : (bl.set i b).set i (getB bl i) = bl := by
  rw [List.set_set, getB_eq hi, List.set_getElem_self]
theorem CS.put {d : Dk} {S : List Bk → Prop} (h : CS d S) {i : Nat} (hi : i < d.bl.length) (b : Bk) (hs : ∀ t, t ≤ 64 → S (d.bl.set i (mixB t b (getB d.bl i)))) : CS (d.put i b) S := fun m t ht => by
  have hm := h m t ht
  unfold Dk.crB at hm ⊢
  simp only [Dk.put]
  by_cases h1 : m < d.pd.length
  · rw [List.drop_append_of_le_length (by omega)]
    rw [List.drop_eq_getElem_cons h1] at hm ⊢
    simp only [List.cons_append] at hm ⊢
    rw [if_pos trivial] at hm ⊢
    have e : (d.pd[m] :: (d.pd.drop (m + 1) ++ [⟨i, b, getB d.bl i⟩])).foldr undo (d.bl.set i b) = (d.pd[m] :: d.pd.drop (m + 1)).foldr undo d.bl := by
      rw [← List.cons_append, List.foldr_append]
      congr 1
      simp only [List.foldr_cons, List.foldr_nil, undo]
      exact set_back hi b
    rw [e]
    exact hm
  · by_cases h2 : m = d.pd.length
    · subst h2
      rw [List.drop_left]
      simp only [if_true, List.foldr_cons, List.foldr_nil, undo]
      rw [set_back hi b]
      exact hs t ht
    · rw [List.drop_of_length_le (by simp; omega)]
      have := hs 64 (Nat.le_refl _)
      rwa [mixB_all] at this
theorem CS.write {d : Dk} {S : List Bk → Prop} (h : CS d S) {i : Nat} {b : List Nat} (hs : i < d.bl.length → b.length = 64 → ∀ t, t ≤ 64 → S (d.bl.set i (mixB t (mkBk b) (getB d.bl i)))) : CS (d.write i b).1 S := by
  obtain ⟨q1, q2⟩ := stepD_bl d
  unfold Dk.write
  split
  · exact h
  · rename_i hn
    have hn' : (0 ≤ (i : Int) ∧ (i : Int) < d.bl.length ∧ b.length = 64) := Decidable.byContradiction hn
    split
    · rw [Int.toNat_natCast]
      refine CS.put (h.same q1 q2) (by rw [q1]; omega) _ fun t ht => ?_
      rw [q1]; exact hs (by omega) hn'.2.2 t ht
    · exact h.same q1 q2
theorem CS.flush {d : Dk} {S : List Bk → Prop} (h : CS d S) : CS d.flush.1 S := by
  obtain ⟨q1, q2⟩ := stepD_bl d
  unfold Dk.flush
  split
  · exact CS.flat rfl (by show S d.stepD.1.bl; rw [q1]; exact h.now)
  · exact h.same q1 q2
theorem write_ok {d : Dk} {i : Nat} {b : List Nat} (h : (d.write i b).2 = 0) : (d.write i b).1.bl = d.bl.set i (mkBk b) ∧ i < d.bl.length ∧ b.length = 64 := by
  obtain ⟨q1, q2⟩ := stepD_bl d
  unfold Dk.write at h ⊢
  split at h
  · cases h
  · rename_i hn
    rw [if_neg hn]
    have hn' : (0 ≤ (i : Int) ∧ (i : Int) < d.bl.length ∧ b.length = 64) := Decidable.byContradiction hn
    split at h
    · rename_i h2
      rw [if_pos h2, Int.toNat_natCast]
      exact ⟨by simp [Dk.put, q1], by omega, hn'.2.2⟩
    · cases h
theorem flush_ok {d : Dk} (h : (d.flush.2 == 0) = true) : d.flush.1.bl = d.bl ∧ d.flush.1.pd = [] := by
  obtain ⟨q1, q2⟩ := stepD_bl d
  unfold Dk.flush at h ⊢
  split at h
  · rename_i h2; rw [if_pos h2]; exact ⟨q1, rfl⟩
  · simp at h
theorem write_free {d : Dk} {i : Nat} {b : List Nat} (hi : i < d.bl.length) (hb : b.length = 64) (hr : d.rf = 0) : (d.write i b).2 = 0 ∧ (d.write i b).1.rf = 0 := by
  have hs : d.stepD = (d, true) := by unfold Dk.stepD; rw [if_neg (by omega)]
  unfold Dk.write
  rw [if_neg (by intro hn; exact hn ⟨by omega, by omega, hb⟩), hs, if_pos rfl]
  exact ⟨rfl, hr⟩
theorem flush_free {d : Dk} (hr : d.rf = 0) : (d.flush.2 == 0) = true ∧ d.flush.1.rf = 0 := by
  have hs : d.stepD = (d, true) := by unfold Dk.stepD; rw [if_neg (by omega)]
  unfold Dk.flush
  rw [hs, if_pos rfl]
  exact ⟨rfl, hr⟩
theorem layL_cs {a : Nat} {s : List Nat} {N : Nat} {S : List Bk → Prop} (k0 K : Nat)
    (hS : ∀ bl q t, S bl → bl.length = N → k0 ≤ q → q < K → t ≤ 64 → S (bl.set (jbB bl a q) (mixB t (mkBk (chunk s q)) (getB bl (jbB bl a q))))) :
    ∀ (m k : Nat) (d : Dk), d.bl.length = N → k0 ≤ k → k + m ≤ K → CS d S → CS (layL a s m k d).1 S
  | 0, k, d, hN, hk, hK, h => by unfold layL; exact h.flush
  | m + 1, k, d, hN, hk, hK, h => by
    have hw : CS (d.write (jbk d a k) (chunk s k)).1 S := h.write fun _ _ t ht => hS _ k t h.now hN hk (by omega) ht
    unfold layL
    split
    · exact layL_cs k0 K hS m (k + 1) _ (by rw [(write_len d (jbk d a k) (chunk s k)).1]; exact hN) (by omega) (by omega) hw
    · exact hw
theorem layL_ok {a : Nat} {s : List Nat} (ha : a ≤ 1) :
    ∀ (m k : Nat) (d : Dk), 1 ≤ d.bl.length → k + m ≤ half d → (layL a s m k d).2 = true → (layL a s m k d).1.pd = [] ∧ (layL a s m k d).1.bl.length = d.bl.length ∧
      (∀ q, k ≤ q → q < k + m → getB (layL a s m k d).1.bl (jbk d a q) = mkBk (chunk s q)) ∧ (∀ i, (∀ q, k ≤ q → q < k + m → i ≠ jbk d a q) → getB (layL a s m k d).1.bl i = getB d.bl i)
  | 0, k, d, h1, hK, h => by
    unfold layL at h ⊢
    obtain ⟨q1, q2⟩ := flush_ok h
    exact ⟨q2, by rw [q1], fun q hq hq2 => by omega, fun i _ => by rw [q1]⟩
  | m + 1, k, d, h1, hK, h => by
    unfold layL at h ⊢
    split at h
    · rename_i hw
      rw [if_pos hw]
      obtain ⟨q1, q2, q3⟩ := write_ok hw
      have hh : half (d.write (jbk d a k) (chunk s k)).1 = half d := by unfold half; rw [q1, List.length_set]
      have hj : ∀ q, jbk (d.write (jbk d a k) (chunk s k)).1 a q = jbk d a q := fun q => by show 1 + a * half _ + q = 1 + a * half d + q; rw [hh]
      have hlen : (d.write (jbk d a k) (chunk s k)).1.bl.length = d.bl.length := by rw [q1, List.length_set]
      obtain ⟨r1, r2, r3, r4⟩ := layL_ok ha m (k + 1) _ (by rw [hlen]; exact h1) (by rw [hh]; omega) h
      refine ⟨r1, by rw [r2, hlen], fun q hq hq2 => ?_, fun i hi => ?_⟩
      · by_cases hqk : q = k
        · subst hqk
          rw [r4 _ fun p hp hp2 => ?_, q1, getB_set q2, if_pos rfl]
          rw [hj]
          unfold jbk
          omega
        · have := r3 q (by omega) (by omega)
          rwa [hj] at this
      · rw [r4 i fun p hp hp2 => by rw [hj]; exact hi p (by omega) (by omega), q1, getB_set q2, if_neg (hi k (by omega) (by omega))]
    · cases h
theorem layL_free {a : Nat} {s : List Nat} (ha : a ≤ 1) : ∀ (m k : Nat) (d : Dk), 1 ≤ d.bl.length → k + m ≤ half d → (k + m) * 64 ≤ s.length → d.rf = 0 → (layL a s m k d).2 = true ∧ (layL a s m k d).1.rf = 0
  | 0, k, d, h1, hK, hs, hr => by unfold layL; exact flush_free hr
  | m + 1, k, d, h1, hK, hs, hr => by
    have hc : (chunk s k).length = 64 := by unfold chunk; rw [List.length_take, List.length_drop]; omega
    obtain ⟨q1, q2⟩ := write_free (jbk_lt h1 ha (show k < half d by omega)) hc hr
    have hl := write_len d (jbk d a k) (chunk s k)
    unfold layL
    rw [if_pos q1]
    exact layL_free ha m (k + 1) _ (by rw [hl.1]; exact h1) (by unfold half; rw [hl.1]; unfold half at hK; omega) (by omega) q2
theorem one_cs {d : Dk} {S : List Bk → Prop} (h : CS d S) {i : Nat} {b : List Nat} (hs : i < d.bl.length → b.length = 64 → ∀ t, t ≤ 64 → S (d.bl.set i (mixB t (mkBk b) (getB d.bl i)))) : CS (oneD d i b).1 S := by
  have hw := h.write hs
  unfold oneD
  split
  · exact hw.flush
  · exact hw
theorem one_ok {d : Dk} {i : Nat} {b : List Nat} (h : (oneD d i b).2 = true) : (oneD d i b).1.pd = [] ∧ (oneD d i b).1.bl = d.bl.set i (mkBk b) := by
  unfold oneD at h ⊢
  split at h
  · rename_i hw
    rw [if_pos hw]
    obtain ⟨q1, q2⟩ := flush_ok h
    exact ⟨q2, by rw [q1, (write_ok hw).1]⟩
  · cases h
theorem one_free {d : Dk} {i : Nat} {b : List Nat} (hi : i < d.bl.length) (hb : b.length = 64) (hr : d.rf = 0) : (oneD d i b).2 = true ∧ (oneD d i b).1.rf = 0 := by
  obtain ⟨q1, q2⟩ := write_free hi hb hr
  unfold oneD
  rw [if_pos q1]
  exact flush_free q2
def Pre (e l : List Nat) : Prop := ∀ j, j < e.length → l[j]? = e[j]?
theorem Pre.split {e l : List Nat} (h : Pre e l) : ∃ t, l = e ++ t := by
  refine ⟨l.drop e.length, ?_⟩
  apply List.ext_getElem?
  intro j
  by_cases hj : j < e.length
  · rw [h j hj, List.getElem?_append_left hj]
  · rw [List.getElem?_append_right (by omega), List.getElem?_drop]; congr 1; omega
theorem Pre.of {e l t : List Nat} (h : l = e ++ t) : Pre e l := fun j hj => by rw [h, List.getElem?_append_left hj]
theorem pre_set {bl : List Bk} {a k : Nat} {e : List Nat} {b : Bk} (h1 : 1 ≤ bl.length) (ha : a ≤ 1) (hk : k < halfB bl) (h : Pre e (areaB bl a)) (hel : e.length ≤ halfB bl * 64) (hb : ∀ i, i < 64 → k * 64 + i < e.length → b.1[i]? = e[k * 64 + i]?) : Pre e (areaB (bl.set (jbB bl a k) b) a) := fun j hj => by
  have hlt := jbB_lt h1 ha hk
  have hq : j / 64 < halfB bl := by omega
  have ej : j = j / 64 * 64 + j % 64 := by omega
  have hh : halfB (bl.set (jbB bl a k) b) = halfB bl := by unfold halfB; simp
  rw [ej, areaB_get (by simpa using h1) ha (by rw [hh]; exact hq) (Nat.mod_lt _ (by omega)), jbB_set, getB_set hlt]
  split
  · rename_i he
    have := (jbB_inj ha ha hq hk he).2
    rw [this, hb _ (Nat.mod_lt _ (by omega)) (by omega)]
  · rw [← areaB_get h1 ha hq (Nat.mod_lt _ (by omega)), ← ej]; exact h j hj
theorem openB_set {bl : List Bk} {i : Nat} (hi : i < bl.length) (h0 : i ≠ 0) (b : Bk) : openB (bl.set i b) = openB bl := by
  unfold openB; rw [getB_set hi, if_neg (fun h => h0 h.symm)]
theorem mixB_get {t i : Nat} (ht : t ≤ 64) (a b : Bk) : (mixB t a b).1[i]? = if i < t then a.1[i]? else b.1[i]? := by
  show (a.1.take t ++ b.1.drop t)[i]? = _
  have hl : (a.1.take t).length = t := by rw [List.length_take, a.2.1]; omega
  split
  · rename_i h
    rw [List.getElem?_append_left (by omega), List.getElem?_take, if_pos h]
  · rename_i h
    rw [List.getElem?_append_right (by omega), hl, List.getElem?_drop]; congr 1; omega
end Fk
set_option linter.unusedVariables false
set_option linter.unusedSimpArgs false
set_option maxRecDepth 100000
set_option maxHeartbeats 2000000
namespace Fk
open Go Go.Proofs Go.RowKit
def zE (n : Nat) (l : List Nat) : List Nat := if l.length < n then l ++ [0] else l
def OkR (rs : List (List Nat)) : Prop := ∀ r ∈ rs, 1 ≤ r.length ∧ r.length ≤ 1048576 ∧ ∀ x ∈ r, x < 256
structure Sf (bl : List Bk) (a : Nat) (rs : List (List Nat)) : Prop where
  op : openB bl = a
  h3 : 3 ≤ bl.length
  fit : (rawR rs).length ≤ halfB bl * 64
  pre : Pre (zE (halfB bl * 64) (rawR rs)) (areaB bl a)
theorem openB_le (bl : List Bk) : openB bl ≤ 1 := by unfold openB; omega
theorem Sf.ha {bl : List Bk} {a : Nat} {rs : List (List Nat)} (h : Sf bl a rs) : a ≤ 1 := by have := openB_le bl; have := h.op; omega
theorem zE_le {n : Nat} {l : List Nat} (h : l.length ≤ n) : (zE n l).length ≤ n := by
  unfold zE
  split
  · rw [List.length_append]; simp only [List.length_singleton]; omega
  · exact h
theorem rawR_snoc (rs : List (List Nat)) (r : List Nat) : rawR (rs ++ [r]) = rawR rs ++ frm 1 r := by simp [rawR]
structure JG (d : Dk) (g : Lg) (rs : List (List Nat)) : Prop where
  sf : Sf d.bl g.area rs
  pos : g.pos = (rawR rs).length
  ok : OkR rs
  ov : g.ov = false
theorem jsz_B (d : Dk) : jsz d = halfB d.bl * 64 := rfl
theorem JG.le {d : Dk} {g : Lg} {rs : List (List Nat)} (G : JG d g rs) : g.pos ≤ jsz d := by rw [G.pos, jsz_B]; exact G.sf.fit
theorem may_cases {g : Lg} (ho : g.ov = false) (l : Nat) {p n : Nat} (hp : p ≤ n) : mayD g ((n : Int) - p) [l] = if l < 1 ∨ l > 1048576 then 3 else if p + l + 8 ≤ n then 0 else 4 := by
  unfold mayD
  rw [if_neg (by simp [ho]), mayF_cons]
  split
  · rfl
  · unfold mayF
    by_cases q : p + l + 8 ≤ n
    · rw [if_pos q, if_neg (by simp; omega)]
    · rw [if_neg q, if_pos (by simp; omega)]
theorem mix_one {old : Bk} {x t : Nat} (ht : t ≤ 64) (hx : x < 64) (c : Nat) (hc : c < 256) : mixB t (mkBk (old.1.set x c)) old = if t ≤ x then old else mkBk (old.1.set x c) := by
  have hv : (mkBk (old.1.set x c)).1 = old.1.set x c := mkBk_val (by simp [old.2.1]) (fun y hy => by
    rcases List.mem_or_eq_of_mem_set hy with h | h
    · exact old.2.2 y h
    · omega)
  split
  · rename_i h
    apply Subtype.ext
    apply List.ext_getElem?
    intro i
    rw [mixB_get ht, hv]
    split
    · rw [List.getElem?_set_ne (by omega)]
    · rfl
  · rename_i h
    apply Subtype.ext
    apply List.ext_getElem?
    intro i
    rw [mixB_get ht, hv]
    split
    · rfl
    · rw [List.getElem?_set_ne (by omega)]
section
variable {d : Dk} {g : Lg} {rs : List (List Nat)} {r : List Nat}
theorem E1_eq (hp : g.pos = (rawR rs).length) (m : Nat) (hm : (frm 0 r).length = (frm m r).length) : zE (jsz d) (rawR rs ++ frm m r) = rawR rs ++ zEnd d g.pos (frm m r) := by
  unfold zE zEnd
  rw [List.length_append, ← hp]
  split
  · rw [List.append_assoc]
  · rfl
theorem apD_law (G : JG d g rs) (hl : d.bl.length ≤ 65536) (hpd : d.pd = []) (hr : ∀ x ∈ r, x < 256) :
    ((r.length < 1 ∨ r.length > 1048576) ∧ apD d g r = (d, g, 3)) ∨ (¬ (r.length < 1 ∨ r.length > 1048576) ∧ ¬ g.pos + r.length + 8 ≤ jsz d ∧ apD d g r = (d, g, 4)) ∨
    (¬ (r.length < 1 ∨ r.length > 1048576) ∧ g.pos + r.length + 8 ≤ jsz d ∧ (apD d g r).2.2 = 0 ∧ JG (apD d g r).1 (apD d g r).2.1 (rs ++ [r]) ∧ (apD d g r).1.pd = [] ∧ (apD d g r).1.bl.length = d.bl.length ∧ (apD d g r).2.1 = { g with pos := g.pos + (r.length + 8) } ∧ (d.rf = 0 → (apD d g r).1.rf = 0)) ∨
    (¬ (r.length < 1 ∨ r.length > 1048576) ∧ g.pos + r.length + 8 ≤ jsz d ∧ (apD d g r).2.2 = 200 ∧ (apD d g r).2.1 = { g with ov := true } ∧ d.rf ≠ 0 ∧ CS (apD d g r).1 (fun bl => bl.length = d.bl.length ∧ (Sf bl g.area rs ∨ Sf bl g.area (rs ++ [r])))) := by
  have hm := may_cases G.ov r.length G.le
  by_cases q1 : r.length < 1 ∨ r.length > 1048576
  · rw [if_pos q1] at hm
    exact .inl ⟨q1, by unfold apD; rw [if_pos (by rw [hm]; decide), hm]⟩
  rw [if_neg q1] at hm
  by_cases q2 : ¬ g.pos + r.length + 8 ≤ jsz d
  · rw [if_neg q2] at hm
    exact .inr (.inl ⟨q1, q2, by unfold apD; rw [if_pos (by rw [hm]; decide), hm]⟩)
  have q2 : g.pos + r.length + 8 ≤ jsz d := Decidable.byContradiction q2
  rw [if_pos q2] at hm
  refine .inr (.inr ?_)
  have hA := G.sf.ha
  have h1 : 1 ≤ d.bl.length := by have := G.sf.h3; omega
  have efl : (frm 0 r).length = r.length + 8 := frm_len 0 r
  have hfit : g.pos + (frm 0 r).length ≤ jsz d := by omega
  have hfb := frm_lt 0 r (by omega) hr
  obtain ⟨K, hSl, hKh, hpK, hKi⟩ := layS_len (d := d) h1 hA hfit
  have hSg := fun j => layS_get (d := d) h1 hA hfit (j := j)
  have hSb := layS_lt (d := d) (area := g.area) (p := g.pos) hfb
  have hzl : (frm 0 r).length ≤ (zEnd d g.pos (frm 0 r)).length := by unfold zEnd; split <;> simp
  have hz0 : (zEnd d g.pos (frm 0 r))[0]? = some 0 := by unfold zEnd frm; split <;> rfl
  have hel : (zE (jsz d) (rawR rs)).length = g.pos + 1 := by unfold zE; rw [if_pos (by rw [← G.pos]; omega)]; simp [G.pos]
  have he : ∀ j, j < g.pos + 1 → (zE (jsz d) (rawR rs))[j]? = if j < g.pos then (rawR rs)[j]? else some 0 := fun j hj => by
    unfold zE
    rw [if_pos (by rw [← G.pos]; omega)]
    split
    · rw [List.getElem?_append_left (by rw [← G.pos]; assumption)]
    · rw [List.getElem?_append_right (by rw [← G.pos]; omega), ← G.pos, show j - g.pos = 0 by omega]; rfl
  have hold : ∀ j, j < g.pos → (areaL d g.area)[j]? = (rawR rs)[j]? := fun j hj => by
    have := G.sf.pre j (by rw [← jsz_B, hel]; omega)
    rw [← jsz_B, he j (by omega), if_pos hj] at this
    exact this
  have hS1 : ∀ j, j < g.pos + 1 → (layS d g.area g.pos (frm 0 r))[j]? = (zE (jsz d) (rawR rs))[j]? := fun j hj => by
    have hp0 : g.pos / 64 * 64 < g.pos + (zEnd d g.pos (frm 0 r)).length := by omega
    have hpK' := (hKi (g.pos / 64)).1 hp0
    rw [hSg j (by rw [hSl]; omega), he j hj]
    split
    · rename_i h; exact hold j h
    · rw [if_pos (by omega), show j - g.pos = 0 by omega, hz0]
  have hcl : ∀ q, q < K → (chunk (layS d g.area g.pos (frm 0 r)) q).length = 64 := fun q hq => chunk_len hSl hq
  have hcv : ∀ q, q < K → (mkBk (chunk (layS d g.area g.pos (frm 0 r)) q)).1 = chunk (layS d g.area g.pos (frm 0 r)) q := fun q hq => mkBk_val (hcl q hq) (chunk_lt hSb)
  have hpre : ∀ bl q t, (bl.length = d.bl.length ∧ Sf bl g.area rs) → bl.length = d.bl.length → g.pos / 64 ≤ q → q < K → t ≤ 64 → (bl.set (jbB bl g.area q) (mixB t (mkBk (chunk (layS d g.area g.pos (frm 0 r)) q)) (getB bl (jbB bl g.area q)))).length = d.bl.length ∧ Sf (bl.set (jbB bl g.area q) (mixB t (mkBk (chunk (layS d g.area g.pos (frm 0 r)) q)) (getB bl (jbB bl g.area q)))) g.area rs := fun bl q t hbl hlen hq hqK ht => by
    obtain ⟨_, hs⟩ := hbl
    have hhb : halfB bl = half d := by unfold halfB half; rw [hlen]
    have hb1 : 1 ≤ bl.length := by omega
    have hlt := jbB_lt (bl := bl) (k := q) hb1 hA (by omega)
    have hh : ∀ b, halfB (bl.set (jbB bl g.area q) b) = halfB bl := fun b => by unfold halfB; simp
    refine ⟨by simpa using hlen, by rw [openB_set hlt (jbB_pos _ _ _)]; exact hs.op, by simpa using hs.h3, by rw [hh]; exact hs.fit, ?_⟩
    rw [hh]
    refine pre_set hb1 hA (by omega) hs.pre (zE_le hs.fit) fun i hi hij => ?_
    have ej : halfB bl * 64 = jsz d := by rw [hhb]; rfl
    rw [ej] at hij ⊢
    rw [hel] at hij
    rw [mixB_get ht]
    split
    · rw [hcv q hqK, chunk_get hi, hS1 _ hij]
    · rw [← areaB_get hb1 hA (by omega) hi]
      have := hs.pre (q * 64 + i) (by rw [ej, hel]; exact hij)
      rw [this, ej]
  have eL : layD d g.area g.pos (frm 0 r) = layL g.area (layS d g.area g.pos (frm 0 r)) (K - g.pos / 64) (g.pos / 64) d := by unfold layD; rw [hSl, Nat.mul_div_cancel _ (by omega)]
  have hcs : CS (layD d g.area g.pos (frm 0 r)).1 (fun bl => bl.length = d.bl.length ∧ Sf bl g.area rs) := by
    rw [eL]
    exact layL_cs (N := d.bl.length) (S := fun bl => bl.length = d.bl.length ∧ Sf bl g.area rs) (g.pos / 64) K hpre _ _ d rfl (Nat.le_refl _) (by omega) (CS.flat hpd ⟨rfl, G.sf⟩)
  have hfree : d.rf = 0 → (layD d g.area g.pos (frm 0 r)).2 = true ∧ (layD d g.area g.pos (frm 0 r)).1.rf = 0 := fun h0 => by
    rw [eL]; exact layL_free hA _ _ d h1 (by omega) (by rw [hSl]; omega) h0
  have eA : apD d g r = if (layD d g.area g.pos (frm 0 r)).2 = false then ((layD d g.area g.pos (frm 0 r)).1, { g with ov := true }, 200) else
      if (oneD (layD d g.area g.pos (frm 0 r)).1 (jbk d g.area (g.pos / 64)) ((getB (layD d g.area g.pos (frm 0 r)).1.bl (jbk d g.area (g.pos / 64))).1.set (g.pos % 64) 1)).2 = false
      then ((oneD (layD d g.area g.pos (frm 0 r)).1 (jbk d g.area (g.pos / 64)) ((getB (layD d g.area g.pos (frm 0 r)).1.bl (jbk d g.area (g.pos / 64))).1.set (g.pos % 64) 1)).1, { g with ov := true }, 200)
      else ((oneD (layD d g.area g.pos (frm 0 r)).1 (jbk d g.area (g.pos / 64)) ((getB (layD d g.area g.pos (frm 0 r)).1.bl (jbk d g.area (g.pos / 64))).1.set (g.pos % 64) 1)).1, { g with pos := g.pos + (r.length + 8) }, 0) := by unfold apD; rw [if_neg (by rw [hm]; decide)]
  by_cases c1 : (layD d g.area g.pos (frm 0 r)).2 = false
  · rw [if_pos c1] at eA
    rw [eA]
    refine .inr ⟨q1, q2, rfl, rfl, (fun h0 => by rw [(hfree h0).1] at c1; cases c1), hcs.mono fun bl h => ⟨h.1, .inl h.2⟩⟩
  have c1' : (layD d g.area g.pos (frm 0 r)).2 = true := by simpa using c1
  rw [if_neg c1] at eA
  have hok : (layD d g.area g.pos (frm 0 r)).1.pd = [] ∧ (layD d g.area g.pos (frm 0 r)).1.bl.length = d.bl.length ∧
      (∀ q, g.pos / 64 ≤ q → q < K → getB (layD d g.area g.pos (frm 0 r)).1.bl (jbk d g.area q) = mkBk (chunk (layS d g.area g.pos (frm 0 r)) q)) ∧ (∀ i, (∀ q, g.pos / 64 ≤ q → q < K → i ≠ jbk d g.area q) → getB (layD d g.area g.pos (frm 0 r)).1.bl i = getB d.bl i) := by
    rw [eL] at c1' ⊢
    have := layL_ok hA (K - g.pos / 64) (g.pos / 64) d h1 (by omega) c1'
    have e : g.pos / 64 + (K - g.pos / 64) = K := by omega
    rw [e] at this
    exact this
  generalize hL : layD d g.area g.pos (frm 0 r) = l at *
  obtain ⟨p1, p2, p3, p4⟩ := hok
  have hbl1 : 1 ≤ l.1.bl.length := by omega
  have hh1 : halfB l.1.bl = half d := by unfold halfB half; rw [p2]
  have hj1 : ∀ a k, jbB l.1.bl a k = jbk d a k := fun a k => by show 1 + a * halfB l.1.bl + k = 1 + a * half d + k; rw [hh1]
  have hjz : jsz d = half d * 64 := rfl
  have harea : ∀ j, j < g.pos + (zEnd d g.pos (frm 0 r)).length → (areaB l.1.bl g.area)[j]? = (rawR rs ++ zEnd d g.pos (frm 0 r))[j]? := fun j hj => by
    have hqK : j / 64 < K := (hKi (j / 64)).1 (by omega)
    have ej : j = j / 64 * 64 + j % 64 := by omega
    have e1 : (areaB l.1.bl g.area)[j]? = (getB l.1.bl (jbk d g.area (j / 64))).1[j % 64]? := by
      conv => lhs; rw [ej]
      rw [areaB_get hbl1 hA (by rw [hh1]; omega) (Nat.mod_lt _ (by omega)), hj1]
    rw [e1]
    by_cases hq : g.pos / 64 ≤ j / 64
    · rw [p3 _ hq hqK, hcv _ hqK, chunk_get (Nat.mod_lt _ (by omega)), ← ej, hSg j (by rw [hSl]; omega)]
      split
      · rename_i h; rw [hold j h, List.getElem?_append_left (by rw [← G.pos]; exact h)]
      · rw [if_pos (by omega), List.getElem?_append_right (by rw [← G.pos]; omega), ← G.pos]
    · have hjp : j < g.pos := by omega
      rw [p4 _ fun q hq1 hq2 e => by
        have := (jbB_inj (bl := d.bl) hA hA (show j / 64 < halfB d.bl by rw [← half_B]; omega) (show q < halfB d.bl by rw [← half_B]; omega) e).2
        omega]
      rw [← areaL_get h1 hA (by omega) (Nat.mod_lt _ (by omega)), ← ej, hold j hjp, List.getElem?_append_left (by rw [← G.pos]; exact hjp)]
  have hpk : g.pos / 64 < K := (hKi (g.pos / 64)).1 (by omega)
  have hilt : jbk d g.area (g.pos / 64) < l.1.bl.length := by rw [p2]; exact jbk_lt h1 hA (by omega)
  generalize hi : jbk d g.area (g.pos / 64) = i at *
  generalize hob : (getB l.1.bl i).1.set (g.pos % 64) 1 = ob at *
  have hobl : ob.length = 64 := by rw [← hob, List.length_set, (getB l.1.bl i).2.1]
  have hobb : ∀ x ∈ ob, x < 256 := fun x hx => by
    rw [← hob] at hx
    rcases List.mem_or_eq_of_mem_set hx with h | h
    · exact (getB l.1.bl i).2.2 x h
    · omega
  have hsf2 : Sf (l.1.bl.set i (mkBk ob)) g.area (rs ++ [r]) := by
    have hh2 : halfB (l.1.bl.set i (mkBk ob)) = half d := by unfold halfB; rw [List.length_set]; exact hh1
    have hop : openB l.1.bl = g.area := hcs.now.2.op
    refine ⟨?_, by rw [List.length_set, p2]; exact G.sf.h3, ?_, ?_⟩
    · rw [openB_set hilt (by rw [← hi]; exact jbB_pos d.bl _ _)]; exact hop
    · rw [hh2, rawR_snoc, List.length_append, frm_len, ← G.pos]; omega
    · rw [hh2, rawR_snoc, show half d * 64 = jsz d from rfl, E1_eq G.pos 1 (by rw [frm_len, frm_len])]
      have hzz : ∀ j, (rawR rs ++ zEnd d g.pos (frm 1 r))[j]? = if j = g.pos then some 1 else (rawR rs ++ zEnd d g.pos (frm 0 r))[j]? := fun j => by
        have ez : zEnd d g.pos (frm 1 r) = 1 :: (zEnd d g.pos (frm 0 r)).tail := by
          unfold zEnd; rw [frm_len, frm_len]; split <;> rfl
        have ez0 : zEnd d g.pos (frm 0 r) = 0 :: (zEnd d g.pos (frm 0 r)).tail := by
          unfold zEnd; split <;> rfl
        by_cases hj : j < g.pos
        · rw [if_neg (by omega), List.getElem?_append_left (by rw [← G.pos]; exact hj), List.getElem?_append_left (by rw [← G.pos]; exact hj)]
        · rw [List.getElem?_append_right (by rw [← G.pos]; omega), List.getElem?_append_right (by rw [← G.pos]; omega), ← G.pos, ez]
          split
          · rename_i h; rw [h, Nat.sub_self]; rfl
          · obtain ⟨y, hy⟩ : ∃ y, j - g.pos = y + 1 := ⟨j - g.pos - 1, by omega⟩
            rw [hy, List.getElem?_cons_succ]
            conv => rhs; rw [ez0]
            rw [List.getElem?_cons_succ]
      have hzl2 : (zEnd d g.pos (frm 1 r)).length = (zEnd d g.pos (frm 0 r)).length := by unfold zEnd; rw [frm_len, frm_len]; split <;> simp [frm_len]
      intro j hj
      rw [List.length_append, hzl2, ← G.pos] at hj
      have hzle := zEnd_len hfit
      have ej : j = j / 64 * 64 + j % 64 := by omega
      have e1 : (areaB (l.1.bl.set i (mkBk ob)) g.area)[j]? = (getB (l.1.bl.set i (mkBk ob)) (jbk d g.area (j / 64))).1[j % 64]? := by
        conv => lhs; rw [ej]
        rw [areaB_get (by rw [List.length_set]; exact hbl1) hA (by rw [hh2]; omega) (Nat.mod_lt _ (by omega)), jbB_set, hj1]
      have e0 : (areaB l.1.bl g.area)[j]? = (getB l.1.bl (jbk d g.area (j / 64))).1[j % 64]? := by
        conv => lhs; rw [ej]
        rw [areaB_get hbl1 hA (by rw [hh1]; omega) (Nat.mod_lt _ (by omega)), hj1]
      rw [hzz, e1, getB_set hilt]
      by_cases hji : jbk d g.area (j / 64) = i
      · rw [if_pos hji, mkBk_val hobl hobb, ← hob]
        rw [hji] at e0
        have hqq : j / 64 = g.pos / 64 := by rw [← hi] at hji; unfold jbk at hji; omega
        by_cases hjp : j = g.pos
        · subst hjp
          rw [if_pos rfl, List.getElem?_set_self (by rw [(getB l.1.bl i).2.1]; exact Nat.mod_lt _ (by omega))]
        · rw [if_neg hjp, List.getElem?_set_ne (by omega), ← e0]; exact harea j hj
      · have hjp : j ≠ g.pos := fun h => hji (by rw [h, hi])
        rw [if_neg hji, if_neg hjp, ← e0]; exact harea j hj
  have hcs2 : CS (oneD l.1 i ob).1 (fun bl => bl.length = d.bl.length ∧ (Sf bl g.area rs ∨ Sf bl g.area (rs ++ [r]))) := by
    refine one_cs (CS.flat p1 ⟨p2, .inl hcs.now.2⟩) fun _ _ t ht => ⟨by rw [List.length_set]; exact p2, ?_⟩
    rw [← hob, mix_one ht (Nat.mod_lt _ (by omega)) 1 (by omega)]
    split
    · rw [getB_eq hilt, List.set_getElem_self]; exact .inl hcs.now.2
    · rw [hob]; exact .inr hsf2
  have hfr : d.rf = 0 → (oneD l.1 i ob).2 = true ∧ (oneD l.1 i ob).1.rf = 0 := fun h0 => one_free hilt hobl (hfree h0).2
  by_cases c2 : (oneD l.1 i ob).2 = false
  · rw [if_pos c2] at eA
    rw [eA]
    exact .inr ⟨q1, q2, rfl, rfl, (fun h0 => by rw [(hfr h0).1] at c2; cases c2), hcs2⟩
  · rw [if_neg c2] at eA
    rw [eA]
    obtain ⟨o1, o2⟩ := one_ok (show (oneD l.1 i ob).2 = true by simpa using c2)
    refine .inl ⟨q1, q2, rfl, ⟨by simp only [o2]; exact hsf2, ?_, ?_, G.ov⟩, o1, by simp only [o2, List.length_set]; exact p2, rfl, fun h0 => (hfr h0).2⟩
    · rw [rawR_snoc, List.length_append, frm_len, ← G.pos]
    · intro x hx
      rcases List.mem_append.1 hx with h | h
      · exact G.ok x h
      · simp at h; subst h; exact ⟨by omega, by omega, hr⟩
end
end Fk
