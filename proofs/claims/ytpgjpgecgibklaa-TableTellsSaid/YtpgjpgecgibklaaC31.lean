/- Contracts: what bytes are as a table, as the document's reader has it. -/
import Derived.Test.YtpgjpgecgibklaaC29
import Derived.Test.YtpgjpgecgibklaaT8
set_option linter.unusedVariables false
set_option linter.unusedSimpArgs false
set_option maxRecDepth 100000
namespace Fk
open Go Go.Proofs Go.RowKit
theorem slice_mid {P : Program} {t e : TypeId} (ht : P.underlying t = some (.slice e)) (hs : ∀ w, (Go.sizeOf e).run P w = .ok 1 w) (w : World) (a : Option Addr) (n c lo hi : Nat) (h : lo ≤ hi) (h2 : hi ≤ c) :
    (Instr.sliceAt t (.slice a n c) (some (.int .i64 (lo : Int))) (some (.int .i64 (hi : Int))) none).run P w = .ok (.slice (if c = lo then a else a.map (·.add (lo * 1))) (hi - lo) (c - lo)) w := by
  have he : P.elem t = e := by simp [Program.elem, ht]
  have ht' : P.underlying t = some (.slice (P.elem t)) := by rw [he]; exact ht
  rw [run_sliceAt_slice w t _ _ _ _ ht', run_slice_lh w t a n c ht' .i64 .i64 lo hi (by omega) (by omega) (by omega), he, hs w]
  simp [Result.andThen, sliced]
theorem RowAt.mid {α : Type} {w : World} {A : Option Addr} {enc : α → List Value} {l : List α} (h : RowAt w A 1 enc l) {c lo hi : Nat} (h1 : lo ≤ hi) (h2 : hi ≤ l.length) (h3 : l.length ≤ c) :
    RowAt w (if c = lo then A else A.map (·.add (lo * 1))) 1 enc ((l.drop lo).take (hi - lo)) ∧ ((l.drop lo).take (hi - lo)).length = hi - lo := by
  refine ⟨?_, by simp; omega⟩
  split
  · rename_i hc
    have : (l.drop lo).take (hi - lo) = [] := by rw [show hi - lo = 0 by omega]; simp
    rw [this]
    intro i x hx; simp at hx
  · exact (h.drop lo).take _
theorem rdN {b : List Nat} {base : Nat} {w : World} (h : rdT b = none) : RdOut b base w (zT.v zP) 100 := by unfold RdOut; rw [h]; exact ⟨rfl, rfl⟩
theorem rdT_shp {b : List Nat} {t : Tb} (hb : ∀ x ∈ b, x < 256) (h : rdT b = some t) : ∃ s : TShp, s.ok ∧ b = s.l ∧ s.t = t ∧ tRight t = true ∧ packL t = b := by
  obtain ⟨s, hs, he⟩ := shp_of hb (rdT_fit h)
  obtain ⟨h1, h2⟩ := rd_shp hs
  obtain ⟨h3, h4, _⟩ := pack_rd hb h
  refine ⟨s, hs, he, ?_, h3, h4⟩
  unfold rdT at h
  rw [he, h1, h2] at h
  cases hr : tRight s.t with
  | false => rw [hr] at h; simp at h
  | true => rw [hr] at h; simpa using h
theorem rdT_no {b : List Nat} (hb : ∀ x ∈ b, x < 256) (h : ∀ s : TShp, s.ok → b = s.l → rdT b = some s.t → False) : rdT b = none := by
  cases hr : rdT b with
  | none => rfl
  | some t =>
    obtain ⟨s, h1, h2, rfl, _, _⟩ := rdT_shp hb hr
    exact (h s h1 h2 hr).elim
/-- The front of names, and what stands behind. -/
theorem TShp.drop (s : TShp) {i : Nat} (hi : i ≤ s.nm.length) : s.l.drop (7 + ((s.nm.take i).flatMap encN).length) = (s.nm.drop i).flatMap encN ++ (s.f ++ (s.tg ++ prs s.nx)) := by
  have e : s.nm.flatMap encN = (s.nm.take i).flatMap encN ++ (s.nm.drop i).flatMap encN := by rw [← List.flatMap_append, List.take_append_drop]
  unfold TShp.l
  rw [e, ← List.drop_drop]
  have : List.drop 7 ([70, 84, 1, s.m, s.x, s.y, s.nm.length] ++ ((s.nm.take i).flatMap encN ++ (s.nm.drop i).flatMap encN ++ (s.f ++ (s.tg ++ prs s.nx)))) = (s.nm.take i).flatMap encN ++ ((s.nm.drop i).flatMap encN ++ (s.f ++ (s.tg ++ prs s.nx))) := by simp
  rw [this]
  exact List.drop_left
theorem prs_get : ∀ (l : List (Nat × Nat)) (j : Nat) (p : Nat × Nat), l[j]? = some p → (prs l)[2 * j]? = some p.1 ∧ (prs l)[2 * j + 1]? = some p.2
  | [], j, p, h => by simp at h
  | (x, y) :: l, 0, p, h => by simp at h; subst h; simp [prs]
  | (x, y) :: l, j + 1, p, h => by
    have := prs_get l j p (by simpa using h)
    rw [show 2 * (j + 1) = (2 * j + 1) + 1 by omega, prs, List.getElem?_cons_succ, List.getElem?_cons_succ, List.getElem?_cons_succ]
    exact ⟨this.1, by rw [List.getElem?_cons_succ]; exact this.2⟩
theorem wr_i64 {n : Nat} (h : n < 2 ^ 62) : IntKind.wrap .i64 (n : Int) = n := by rw [IntKind.wrap_i64]; omega
theorem Tb.vl (t : Tb) (p : TbS) : (t.v p).toList = t.l p := rfl
theorem Tb.wr {t : Tb} {p : TbS} (hf : t.c.f.length = 256) {o : Nat} {v : Value} {t' : Tb} {p' : TbS} (ho : o < 261) (h : (t.l p).set o v = t'.l p') : List.toArray (wrL (Array.toList (t.v p)) o [v]) = t'.v p' := by
  rw [Tb.vl, wrL_one _ _ _ (by rw [Tb.len hf]; exact ho), h]; rfl
theorem fill_step {l : List Nat} {k n : Nat} (hk : k < n) (h : k < l.length) : (l.take k ++ List.replicate (n - k) 0).set k l[k] = l.take (k + 1) ++ List.replicate (n - (k + 1)) 0 := by
  have hl : (l.take k).length = k := by simp; omega
  rw [List.set_append_right _ _ (by omega), hl, Nat.sub_self, show n - k = (n - (k + 1)) + 1 by omega, List.replicate_succ, List.set_cons_zero, List.take_succ_eq_append_getElem h, List.append_assoc]
  rfl
theorem f62_ok (b : List Nat) (A : Option Addr) (C : Nat) (hb : ∀ x ∈ b, x < 256) (hl : b.length < 2 ^ 40) (hC : b.length ≤ C) (w : World) (hr : RowAt w A 1 b1 b) :
    Ct Try.prog 62 #[.slice A b.length C] w fun v w' => (∃ cs e, v = .tuple #[.agg cs, .int .i64 e] ∧ RdOut b w.heap.size w' cs e) ∧ Md [] w w' := by
  apply f62_in
  intro n1 hn1 n2 hn2
  have hz : ∀ w, TbF 0 w zT zP := fun w => TbF.zero 0 w
  have bb : ∀ {k : Nat} (h : k < b.length), b[k] < 256 := fun h => hb _ (List.getElem_mem h)
  refine Bd_e rfl <| Bd_in fun b4 hb4 => If_in (fun h w5 h5 hL5 => ?_) fun h => ?_
  · have hlt : b.length < 7 := by rw [hb4] at h; simp at h; omega
    refine RunW_in0 (build57 w5) <| opBig_in ⟨(hz w5).at.size, OkC_in (hz w5).cells fun w9 h9 hL9 => ⟨(hz w5).at.size, ⟨_, _, rfl, rdN (rdT_no hb fun s hs e _ => ?_)⟩, h5.old h9 (by simpa using hn1)⟩⟩
    rw [e] at hlt; simp [TShp.l] at hlt; omega
  have h7 : 7 ≤ b.length := by rw [hb4] at h; simp at h; omega
  clear hb4 h
  refine ⟨hr.ix (i := 3) (by omega), fun w10 h10 hL10 => ?_⟩
  refine (hr.md h10).ld1 (i := 3) (by omega) rfl <| opI_in <| Bd_e (wrap_byte (bb _)) <| Bd_e (y := ((b[3] + 1 : Nat) : Int)) (by have := bb (k := 3) (by omega); rw [IntKind.wrap_i64]; omega) ?_
  intro w15 h15 hL15
  have m15 : Md [] w w15 := h10.old h15 (by simpa using hn2)
  refine ⟨fun w' => Md [] w w', m15.trans (Md_drew _), hr.ix (i := 4) (by omega), .int .u8 (b[4] : Nat), fun w' hw' => (hr.md hw').ld1 (i := 4) (by omega) rfl rfl, opI_in <| Bd_e (wrap_byte (bb _)) <| Bd_e (y := ((b[4] * 256 : Nat) : Int)) (by have := bb (k := 4) (by omega); rw [IntKind.wrap_i64]; omega) ?_⟩
  refine ⟨hr.ix (i := 5) (by omega), .int .u8 (b[5] : Nat), fun w' hw' => (hr.md hw').ld1 (i := 5) (by omega) rfl rfl, opI_in <| Bd_e (wrap_byte (bb _)) <| Bd_e (y := ((b[4] * 256 + b[5] : Nat) : Int)) (by have := bb (k := 4) (by omega); have := bb (k := 5) (by omega); rw [IntKind.wrap_i64]; omega) ?_⟩
  have hM : b[3] + 1 ≤ 256 := by have := bb (k := 3) (by omega); omega
  have hSt : b[4] * 256 + b[5] < 65536 := by have := bb (k := 4) (by omega); have := bb (k := 5) (by omega); omega
  have hsh : ∀ s : TShp, b = s.l → b[3] = s.m ∧ b[4] = s.x ∧ b[5] = s.y ∧ b[6] = s.nm.length := by
    rintro s rfl
    exact ⟨rfl, rfl, rfl, rfl⟩
  have h6 := bb (k := 6) (by omega)
  have hb6 : ∀ {w'}, Md [] w w' → ∀ {K : Value → Prop}, K (.int .u8 (b[6] : Nat)) → Ld w' (adAt A 6 1) K := fun hm _ k => (hr.md hm).ld1 (i := 6) (by omega) rfl k
  generalize hMe : b[3] + 1 = M at *
  generalize hSe : b[4] * 256 + b[5] = St at *
  have hMs : ∀ s : TShp, b = s.l → s.m + 1 = M ∧ s.n = St := by
    intro s e
    obtain ⟨e1, e2, e3, _⟩ := hsh s e
    exact ⟨by omega, by unfold TShp.n; omega⟩
  have hg : Good [n2, n1] w w15.drew := ⟨m15.trans (Md_drew _), hL15⟩
  have m15d := hg.1
  have hn1b : n1 < w15.drew.heap.size := hL15 n1 (by simp)
  have hn2b : n2 < w15.drew.heap.size := hL15 n2 (by simp)
  generalize w15.drew = wb at *
  have hLb : ∀ x ∈ [n2, n1], x < wb.heap.size := hg.2
  -- every way out without a table
  have none57 : ∀ (cs39 : Array Value), cs39.size = 261 → ∀ w', Md [] w w' → (rdT b = none) → ∀ {L : List Nat}, RunW Try.prog [n2, n1] (Instr.build 57 #[]) (fun v58 w59 => opBig v58 fun cs60 => Array.size cs60 = 261 ∧
      OkC (Array.toList cs60) 261 (SzIs (Array.size cs39) 261 (Up [n1] [n2, n1] w59 fun w61 => Array.size cs60 = 261 ∧
        ((∃ cs e, Value.tuple #[.agg cs60, .int .i64 100] = .tuple #[.agg cs, .int .i64 e] ∧ RdOut b w.heap.size w61 cs e) ∧ Md [] w w61)))) w' := by
    intro cs39 h39 w' hm hno L
    exact RunW_in0 (build57 w') <| opBig_in ⟨(hz w').at.size, OkC_in (hz w').cells <| SzIs_in h39 fun w9 h9 hL9 => ⟨(hz w').at.size, ⟨_, _, rfl, rdN hno⟩, hm.old h9 (by simpa using hn1)⟩⟩
  have e0 : List.toArray (wrL (wrL (zeroL Try.prog 57) 256 [.int .i64 (M : Nat)]) 257 [.int .i64 (M : Nat)]) = Tb.v ⟨zCl M, M, [], [], []⟩ zP := by
    have hf : zT.c.f.length = 256 := by simp [zT, zCl]
    have hw1 : wrL (zT.l zP) 256 [.int .i64 (M : Nat)] = Tb.l ⟨⟨zT.c.f, (M : Nat)⟩, zT.dm, zT.nx, zT.tg, zT.nm⟩ zP := by rw [wrL_one _ _ _ (by rw [Tb.len hf]; omega), Tb.set256 hf]
    rw [zeroL57, hw1, wrL_one _ _ _ (by rw [Tb.len (by exact hf)]; omega), Tb.set257 (by exact hf)]
    rfl
  have e1 : List.toArray (zeroL Try.prog 57) = zT.v zP := by rw [zeroL57]; rfl
  rw [e0, e1]
  have hMi : ((M : Nat) : Int) ≤ 9223372036854775807 := by omega
  have hzok : (zCl (M : Nat)).ok := ⟨by simp [zCl], fun i h => by simp only [zCl, List.getElem_replicate]; omega, by simp only [zCl]; omega, by simp only [zCl]; omega⟩
  refine LoopP_in (fun m us vs w' => ∃ (i at' : Nat) (nm : List ByteArray) (p : TbS), us = [.int .i64 0, .int .i64 at', .int .i64 i] ∧ vs = [.agg (Tb.v ⟨zCl (M : Nat), (M : Nat), [], [], nm⟩ p), .agg (zT.v zP)] ∧ m = b[6] - i ∧ i ≤ b[6] ∧ nm.length = i ∧ at' ≤ b.length ∧
      TbF wb.heap.size w' ⟨zCl (M : Nat), (M : Nat), [], [], nm⟩ p ∧ Good [n2, n1] w w' ∧ wb.heap.size ≤ w'.heap.size ∧ ∀ s : TShp, s.ok → b = s.l → nm = s.nm.take i ∧ at' = 7 + ((s.nm.take i).flatMap encN).length) b[6]
    ⟨0, 7, [], zP, rfl, rfl, rfl, by omega, rfl, h7, ⟨hzok, OwnL.nil .., OwnL.nil .., OwnL.nil .., by simp, by simp, by simp, by simp, fun A B h => (by cases h), fun A B h => (by cases h), fun A B h => (by cases h)⟩, hg, Nat.le_refl _, fun s _ _ => by simp⟩ ?_
  rintro m us vs w34 ⟨i, at', nm, p, rfl, rfl, rfl, hi, hnl, hat, S, g34, hsz34, H⟩
  refine opI_in <| opI_in <| opI_in <| opBig_in <| opBig_in ⟨hr.ix (i := 6) (by omega), hb6 g34.1 <| opI_in <| Bd_e (wrap_byte h6) <| Bd_in fun b43 hb43 => If_in (fun h => ?_) fun h => ?_⟩
  · subst hb43
    have hi6 : i < b[6] := by simp at h; omega
    have hH : ∀ s : TShp, s.ok → b = s.l → ∃ x, s.nm[i]? = some x ∧ b.drop at' = encN x ++ ((s.nm.drop (i + 1)).flatMap encN ++ (s.f ++ (s.tg ++ prs s.nx))) ∧ nm = s.nm.take i ∧ at' = 7 + ((s.nm.take i).flatMap encN).length := by
      intro s hs e
      obtain ⟨h1, h2⟩ := H s hs e
      have h3 := (hsh s e).2.2.2
      have hlt : i < s.nm.length := by omega
      refine ⟨s.nm[i], List.getElem?_eq_getElem hlt, ?_, h1, h2⟩
      rw [h2, e, TShp.drop s (by omega), List.drop_eq_getElem_cons hlt, List.flatMap_cons, List.append_assoc]
    refine Bd_e rfl <| Bd_in fun b45 hb45 => Bd_e (y := ((at' + 1 : Nat) : Int)) (by rw [IntKind.wrap_i64]; omega) ?_
    by_cases hab : at' < b.length
    · have t45 : b45 = false := by rw [hb45]; simp; omega
      subst t45
      refine ⟨fun _ => hr.ix hab, Gd_t <| (hr.md g34.1).ld1 hab rfl <| opI_in <| Bd_e (wrap_byte (bb hab)) <| Bd_e (y := ((at' + 1 + b[at'] : Nat) : Int)) (by have := bb hab; rw [IntKind.wrap_i64]; omega) <| Bd_e rfl <| Bd_in fun b56 hb56 => Bd_e (y := b56) rfl <| If_in (fun h => ?_) fun h => ?_⟩
      · refine none57 _ (by rw [Tb.v, List.size_toArray, Tb.len (by simp [zT, zCl])]) _ g34.1 (rdT_no hb fun s hs e _ => ?_) (L := [])
        obtain ⟨x, _, hd, _, _⟩ := hH s hs e
        rw [hb56] at h
        simp at h
        have hl1 := congrArg List.length hd
        have hx : b[at'] = x.size := by
          have := congrArg (fun l => l[0]?) hd
          simp [encN, List.getElem?_drop, List.getElem?_eq_getElem hab] at this
          exact this
        simp [encN, bytesL_len] at hl1
        omega
      · have hfit : at' + 1 + b[at'] ≤ b.length := by rw [hb56] at h; simp at h; omega
        have hbat := bb hab
        obtain ⟨hrm, hrl⟩ := ((hr.md g34.1).md (Md_drew _)).mid (c := C) (lo := at' + 1) (hi := at' + 1 + b[at']) (by omega) hfit hC
        have hmb : ∀ z ∈ (b.drop (at' + 1)).take (at' + 1 + b[at'] - (at' + 1)), z < 256 := fun z hz => hb z (List.mem_of_mem_drop (List.mem_of_mem_take hz))
        have hxs : (bytesOf ((b.drop (at' + 1)).take (at' + 1 + b[at'] - (at' + 1)))).size < 2 ^ 40 := by rw [bytesOf_size, hrl]; omega
        have hcv := conv_row hrm hmb _ (C - (at' + 1)) hrl
        have hxe : ∀ s : TShp, s.ok → b = s.l → nm ++ [bytesOf ((b.drop (at' + 1)).take (at' + 1 + b[at'] - (at' + 1)))] = s.nm.take (i + 1) ∧ at' + 1 + b[at'] = 7 + ((s.nm.take (i + 1)).flatMap encN).length := by
          intro s hs e
          obtain ⟨x, hx, hd, h1, h2⟩ := hH s hs e
          have hlt := (List.getElem?_eq_some_iff.1 hx).1
          have hx' := (List.getElem?_eq_some_iff.1 hx).2
          have hsz : b[at'] = x.size := by
            have := congrArg (fun l => l[0]?) hd
            simp [encN, List.getElem?_drop, List.getElem?_eq_getElem hab] at this
            exact this
          have hd1 : b.drop (at' + 1) = bytesL x ++ ((s.nm.drop (i + 1)).flatMap encN ++ (s.f ++ (s.tg ++ prs s.nx))) := by
            rw [← List.drop_drop, hd]; rfl
          have hb1 : (b.drop (at' + 1)).take (at' + 1 + b[at'] - (at' + 1)) = bytesL x := by
            rw [hd1, show at' + 1 + b[at'] - (at' + 1) = (bytesL x).length by rw [bytesL_len]; omega]
            exact List.take_left
          rw [hb1, bytesOf_L, List.take_succ_eq_append_getElem hlt, hx', List.flatMap_append, ← h1]
          refine ⟨rfl, ?_⟩
          have e2 : ([x].flatMap encN).length = x.size + 1 := by simp [encN, bytesL_len]
          rw [List.length_append, e2, hsz]
          rw [← h1] at h2
          omega
        generalize hX : bytesOf ((b.drop (at' + 1)).take (at' + 1 + b[at'] - (at' + 1))) = X at *
        refine Jn_in (fun us vs w' => us = [] ∧ ∃ p', vs = [.agg (Tb.v ⟨zCl (M : Nat), (M : Nat), [], [], nm ++ [X]⟩ p')] ∧ TbF wb.heap.size w' ⟨zCl (M : Nat), (M : Nat), [], [], nm ++ [X]⟩ p' ∧ Good [n2, n1] w w' ∧ wb.heap.size ≤ w'.heap.size) ?_ ?_
        · rintro us vs w64 ⟨rfl, p', rfl, S', g', hsz'⟩
          refine opBig_in <| Bd_e (y := ((at' + 1 : Nat) : Int)) (by rw [IntKind.wrap_i64]; omega) ⟨hr.ix hab, (hr.md g'.1).ld1 hab rfl <| opI_in <| Bd_e (wrap_byte hbat) <| Bd_e (y := ((at' + 1 + b[at'] : Nat) : Int)) (by rw [IntKind.wrap_i64]; omega) <| Bd_e (inc_i64 (by omega)) ?_⟩
          exact ⟨b[6] - (i + 1), by omega, i + 1, at' + 1 + b[at'], nm ++ [X], p', rfl, rfl, rfl, by omega, by simp [hnl], hfit, S', g', hsz', hxe⟩
        · have hfz : (zCl (M : Nat)).f.length = 256 := hzok.len
          have leaf : ∀ w', Good [n2, n1] w w' → TbF wb.heap.size w' ⟨zCl (M : Nat), (M : Nat), [], [], nm⟩ p → wb.heap.size ≤ w'.heap.size → Nw (.cells #[.string X] 9) w' fun n w'' => RunW Try.prog [n2, n1] (Builtin.append_ #[55, 55] 55 #[.slice p.sa nm.length p.sc, .slice (some { block := n, off := 0 }) 1 1])
              (fun v w'' => opL v fun a n c => LeC 261 (Array.size (Tb.v ⟨zCl (M : Nat), (M : Nat), [], [], nm⟩ p)) (Up [n2] [n2, n1] w'' fun w98 => ([] : List Value) = [] ∧ ∃ p', [Value.agg (List.toArray (wrL (Array.toList (Tb.v ⟨zCl (M : Nat), (M : Nat), [], [], nm⟩ p)) 260 [.slice a n c]))] = [.agg (Tb.v ⟨zCl (M : Nat), (M : Nat), [], [], nm ++ [X]⟩ p')] ∧
                TbF wb.heap.size w98 ⟨zCl (M : Nat), (M : Nat), [], [], nm ++ [X]⟩ p' ∧ Good [n2, n1] w w98 ∧ wb.heap.size ≤ w98.heap.size)) w'' := by
            intro w' g' S' hsz'
            refine S'.app_nm hsz' X hxs (by simp only; omega) hLb fun a' c' w'' S'' hmd hsz'' => opL_in <| LeC_in (by rw [S'.at.size]; omega) fun w98 h98 hL98 => ⟨rfl, _, by rw [Tb.wr hfz (by omega) (Tb.set260 (t := ⟨zCl (M : Nat), (M : Nat), [], [], nm⟩) hfz a' (nm ++ [X]) c')], S''.mdN h98 (by simpa using hn2b), ⟨(hmd w m15d.size g'.1).old h98 (by simpa using hn2), hL98⟩, by have := h98.size; omega⟩
          have h260 : nthV (Array.toList (Tb.v ⟨zCl (M : Nat), (M : Nat), [], [], nm⟩ p)) 260 = some (.slice p.sa nm.length p.sc) := Tb.at260 (t := ⟨zCl (M : Nat), (M : Nat), [], [], nm⟩) hfz
          have gd : Good [n2, n1] w w34.drew := g34.tr (Md_drew _)
          have Sd : TbF wb.heap.size w34.drew ⟨zCl (M : Nat), (M : Nat), [], [], nm⟩ p := S.md (Md_drew _)
          have lf := leaf w34.drew gd Sd hsz34
          have ldb : ∀ {K : Value → Prop}, K (.int .u8 (b[at'] : Nat)) → Ld w34.drew (adAt A (at' : Int) 1) K := fun k => (hr.md gd.1).ld1 hab rfl k
          have sl : ∀ {K : Value → World → Prop}, K (.slice (if C = at' + 1 then A else A.map (·.add ((at' + 1) * 1))) (at' + 1 + b[at'] - (at' + 1)) (C - (at' + 1))) w34.drew →
              RunW Try.prog [n2, n1] (Instr.sliceAt 51 (.slice A b.length C) (some (.int .i64 ((at' + 1 : Nat) : Int))) (some (.int .i64 ((at' + 1 + b[at'] : Nat) : Int))) none) K w34.drew := fun k => RunW_in0 (slice_mid (e := 5) (by kernel_rfl) size5 _ _ _ _ _ _ (by omega) (by omega)) k
          have a1 : IntKind.wrap .i64 ((at' : Int) + 1) = ((at' + 1 : Nat) : Int) := by rw [IntKind.wrap_i64]; omega
          have a2 : IntKind.wrap .i64 (((at' + 1 : Nat) : Int) + (b[at'] : Nat)) = ((at' + 1 + b[at'] : Nat) : Int) := by rw [IntKind.wrap_i64]; omega
          refine Bd_e a1 <| Bd_e a1 ⟨hr.ix hab, ?_, ?_⟩
          · exact BdO_in h260 <| opL_in <| ldb <| opI_in <| Bd_e (wrap_byte hbat) <| Bd_e a2 <| sl <| opL_in <| RunW_in0 hcv <| opStr_in lf
          · refine ldb <| opI_in <| Bd_e (wrap_byte hbat) <| Bd_e a2 ⟨BdO_in h260 <| opL_in <| sl <| opL_in <| RunW_in0 hcv <| opStr_in lf, sl <| opL_in ⟨BdO_in h260 <| opL_in <| RunW_in0 hcv <| opStr_in lf, RunW_in0 hcv <| opStr_in ⟨BdO_in h260 <| opL_in lf, fun n wb e1 e2 => BdO_in h260 <| opL_in <| lf n wb e1 e2⟩⟩⟩
    · have t45 : b45 = true := by rw [hb45]; simp; omega
      subst t45
      refine ⟨fun h => (by cases h), Gd_f <| Bd_e rfl <| Bd_in fun x54 hx54 => Bd_e rfl <| Bd_in fun b56 hb56 => Bd_t rfl <| If_t ?_⟩
      refine none57 _ (by rw [Tb.v, List.size_toArray, Tb.len (by simp [zT, zCl])]) _ g34.1 (rdT_no hb fun s hs e _ => ?_) (L := [])
      obtain ⟨x, _, hd, _, _⟩ := hH s hs e
      have hl1 := congrArg List.length hd
      simp [encN] at hl1
      omega
  · subst hb43
    have hi6 : i = b[6] := by simp at h; omega
    have hfz : (zCl (M : Nat)).f.length = 256 := hzok.len
    have hSM : 2 * St * M ≤ 131072 * 256 := Nat.mul_le_mul (by omega) hM
    have hSM2 : St * M ≤ 65536 * 256 := Nat.mul_le_mul (by omega) hM
    refine Bd_e rfl <| Bd_e (y := ((b.length - at' : Nat) : Int)) (by rw [IntKind.wrap_i64]; omega) <| Bd_e (y := ((256 + St : Nat) : Int)) (by rw [IntKind.wrap_i64]; omega) <| Bd_e (y := ((2 * St : Nat) : Int)) (by rw [IntKind.wrap_i64]; omega) <| BdO_in (Tb.at256 (t := ⟨zCl (M : Nat), (M : Nat), [], [], nm⟩) hfz) <| opI_in <|
      Bd_e (y := ((2 * St * M : Nat) : Int)) (by show IntKind.wrap .i64 (((2 * St : Nat) : Int) * (M : Nat)) = _; rw [← Int.natCast_mul, IntKind.wrap_i64]; omega) <| Bd_e (y := ((256 + St + 2 * St * M : Nat) : Int)) (by rw [IntKind.wrap_i64]; omega) <| Bd_in fun b178 hb178 => If_in (fun h => ?_) fun h => ?_
    · refine none57 _ (by rw [Tb.v, List.size_toArray, Tb.len (by simp [zT, zCl])]) _ g34.1 (rdT_no hb fun s hs e _ => ?_) (L := [])
      obtain ⟨h1, h2⟩ := H s hs e
      have h3 := (hsh s e).2.2.2
      obtain ⟨h4, h5⟩ := hMs s e
      rw [hb178] at h
      have hne : b.length - at' ≠ 256 + St + 2 * St * M := by
        intro h'; rw [h'] at h; simp at h
      apply hne
      have hl1 := congrArg List.length (TShp.drop s (i := i) (by omega))
      rw [← e, ← h2, List.length_drop] at hl1
      rw [hl1, show s.nm.drop i = [] from List.drop_of_length_le (by omega)]
      simp only [List.flatMap_nil, List.nil_append, List.length_append, hs.f, hs.tg, prs_len, hs.nx, h4, h5, Nat.mul_assoc]
      omega
    have hlen : b.length - at' = 256 + St + 2 * St * M := by
      rw [hb178] at h
      have : ((b.length - at' : Nat) : Int) = ((256 + St + 2 * St * M : Nat) : Int) := by simpa using h
      omega
    clear hb178 h
    -- what stands behind the names
    have hD : ∀ s : TShp, s.ok → b = s.l → nm = s.nm ∧ b.drop at' = s.f ++ (s.tg ++ prs s.nx) := by
      intro s hs e
      obtain ⟨h1, h2⟩ := H s hs e
      have h3 := (hsh s e).2.2.2
      refine ⟨by rw [h1]; exact List.take_of_length_le (by omega), ?_⟩
      rw [h2, e, TShp.drop s (by omega), show s.nm.drop i = [] from List.drop_of_length_le (by omega)]
      rfl
    have hdl : (b.drop at').length = 256 + St + 2 * St * M := by rw [List.length_drop]; exact hlen
    have hdb : ∀ z ∈ b.drop at', z < 256 := fun z hz => hb z (List.mem_of_mem_drop hz)
    have hat2 : at' + (256 + St + 2 * St * M) = b.length := by omega
    have hdg : ∀ {k : Nat} (hk : k < (b.drop at').length), ∃ h' : at' + k < b.length, b[at' + k] = (b.drop at')[k] := by
      intro k hk
      refine ⟨by omega, ?_⟩
      rw [List.getElem_drop]
    generalize hDe : b.drop at' = D at *
    refine LoopP_in (fun m us vs w' => ∃ k : Nat, us = [.int .i64 k] ∧ vs = [.agg (Tb.v ⟨⟨D.take k ++ List.replicate (256 - k) 0, (M : Nat)⟩, (M : Nat), [], [], nm⟩ p)] ∧ m = 256 - k ∧ k ≤ 256 ∧
        TbF wb.heap.size w' ⟨⟨D.take k ++ List.replicate (256 - k) 0, (M : Nat)⟩, (M : Nat), [], [], nm⟩ p ∧ Good [n2, n1] w w' ∧ wb.heap.size ≤ w'.heap.size) 256 ⟨0, rfl, rfl, rfl, by omega, S, g34, hsz34⟩ ?_
    rintro m us vs w186 ⟨k, rfl, rfl, rfl, hk, S2, g186, hsz186⟩
    refine opI_in <| opBig_in <| Bd_in fun b189 hb189 => If_in (fun h => ?_) fun h => ?_
    · subst hb189
      have hk' : k < 256 := by simp at h; omega
      obtain ⟨hak, hbk⟩ := hdg (k := k) (by omega)
      have hcl : (D.take k ++ List.replicate (256 - k) 0).length = 256 := S2.ok.len
      refine Bd_e (y := ((at' + k : Nat) : Int)) (by rw [IntKind.wrap_i64]; omega) ⟨hr.ix hak, (hr.md g186.1).ld1 hak rfl <| opI_in ⟨⟨by omega, by omega⟩, LeC_in (by rw [S2.at.size]; simp; omega) <| Bd_e (inc_i64 (by omega)) fun w194 h194 hL194 => ?_⟩⟩
      have hset : (D.take k ++ List.replicate (256 - k) 0).set k b[at' + k] = D.take (k + 1) ++ List.replicate (256 - (k + 1)) 0 := by rw [hbk]; exact fill_step hk' (by omega)
      refine ⟨256 - (k + 1), by omega, k + 1, rfl, ?_, rfl, by omega, ?_, ⟨g186.1.old h194 (by simpa using hn2), hL194⟩, by have := h194.size; omega⟩
      · have := Tb.wr (t := ⟨⟨D.take k ++ List.replicate (256 - k) 0, (M : Nat)⟩, (M : Nat), [], [], nm⟩) (p := p) hcl (o := 0 + ((k : Int)).toNat * 1) (by simp; omega) (by
          simp only [Int.toNat_natCast, Nat.mul_one, Nat.zero_add]
          exact Tb.setB (t := ⟨⟨D.take k ++ List.replicate (256 - k) 0, (M : Nat)⟩, (M : Nat), [], [], nm⟩) hcl hk' b[at' + k])
        rw [this, hset]
      · have S3 := S2.mdN h194 (by simpa using hn2b)
        refine { S3 with ok := ⟨?_, ?_, by simp only; omega, by simp only; omega⟩ }
        · rw [← hset, List.length_set]; exact hcl
        · intro j hj
          have hm : (D.take (k + 1) ++ List.replicate (256 - (k + 1)) 0)[j] ∈ D.take (k + 1) ++ List.replicate (256 - (k + 1)) 0 := List.getElem_mem hj
          rcases List.mem_append.1 hm with h | h
          · exact hdb _ (List.mem_of_mem_take h)
          · have := List.eq_of_mem_replicate h
            simp only at this ⊢
            omega
    subst hb189
    have hk6 : k = 256 := by simp at h; omega
    subst hk6
    have hF : (D.take 256 ++ List.replicate (256 - 256) 0 : List Nat) = D.take 256 := by simp
    rw [hF] at S2 ⊢
    have hfl : (D.take 256).length = 256 := by rw [List.length_take]; omega
    refine Bd_e (y := ((at' + 256 : Nat) : Int)) (by rw [IntKind.wrap_i64]; omega) ?_
    refine LoopP_in (fun m us vs w' => ∃ (k : Nat) (p' : TbS) (tg : List Int), us = [.int .i64 k] ∧ vs = [.agg (Tb.v ⟨⟨D.take 256, (M : Nat)⟩, (M : Nat), [], tg, nm⟩ p')] ∧ m = St - k ∧ k ≤ St ∧ tg = ((D.drop 256).take k).map (fun x : Nat => (x : Int) - 1) ∧
        TbF wb.heap.size w' ⟨⟨D.take 256, (M : Nat)⟩, (M : Nat), [], tg, nm⟩ p' ∧ Good [n2, n1] w w' ∧ wb.heap.size ≤ w'.heap.size) St ⟨0, p, [], rfl, rfl, rfl, by omega, by simp, S2, g186, hsz186⟩ ?_
    rintro m us vs w199 ⟨k, p3, tg, rfl, rfl, rfl, hk, htg, S3, g199, hsz199⟩
    refine opI_in <| opBig_in <| Bd_in fun b202 hb202 => If_in (fun h => ?_) fun h => ?_
    · subst hb202
      have hk' : k < St := by simp at h; omega
      have htl : tg.length = k := by rw [htg]; simp; omega
      obtain ⟨hak, hbk⟩ := hdg (k := 256 + k) (by omega)
      have hak' : at' + 256 + k < b.length := by omega
      have hbe : b[at' + 256 + k] = (D.drop 256)[k]'(by rw [List.length_drop]; omega) := by
        rw [List.getElem_drop, ← hbk]
        congr 1
        omega
      have hstep : tg ++ [(b[at' + 256 + k] : Int) - 1] = ((D.drop 256).take (k + 1)).map (fun x : Nat => (x : Int) - 1) := by
        rw [List.take_succ_eq_append_getElem (by rw [List.length_drop]; omega), List.map_append, ← htg, hbe]
        rfl
      have leaf : ∀ w', Good [n2, n1] w w' → TbF wb.heap.size w' ⟨⟨D.take 256, (M : Nat)⟩, (M : Nat), [], tg, nm⟩ p3 → wb.heap.size ≤ w'.heap.size → Nw (.cells #[.int .i64 ((b[at' + 256 + k] : Int) - 1)] 3) w' fun n w'' => RunW Try.prog [n2, n1] (Builtin.append_ #[52, 52] 52 #[.slice p3.ta tg.length p3.tc, .slice (some { block := n, off := 0 }) 1 1])
              (fun v w'' => opL v fun a n c => LeC 260 (Array.size (Tb.v ⟨⟨D.take 256, (M : Nat)⟩, (M : Nat), [], tg, nm⟩ p3)) (Up [n2] [n2, n1] w'' fun w98 => Bd (IntKind.wrap .i64 ((k : Int) + 1)) fun x => ∃ m', m' < St - k ∧ ∃ (k' : Nat) (p' : TbS) (tg' : List Int), [Value.int .i64 x] = [.int .i64 k'] ∧
                [Value.agg (List.toArray (wrL (Array.toList (Tb.v ⟨⟨D.take 256, (M : Nat)⟩, (M : Nat), [], tg, nm⟩ p3)) 259 [.slice a n c]))] = [.agg (Tb.v ⟨⟨D.take 256, (M : Nat)⟩, (M : Nat), [], tg', nm⟩ p')] ∧ m' = St - k' ∧ k' ≤ St ∧ tg' = ((D.drop 256).take k').map (fun x : Nat => (x : Int) - 1) ∧
                TbF wb.heap.size w98 ⟨⟨D.take 256, (M : Nat)⟩, (M : Nat), [], tg', nm⟩ p' ∧ Good [n2, n1] w w98 ∧ wb.heap.size ≤ w98.heap.size)) w'' := by
        intro w' g' S' hsz'
        refine S'.app_tg hsz' _ (by simp only; omega) hLb fun a' c' w'' S'' hmd hsz'' => opL_in <| LeC_in (by rw [S'.at.size]; omega) fun w98 h98 hL98 => Bd_e (inc_i64 (by omega)) ⟨St - (k + 1), by omega, k + 1, _, _, rfl, by rw [Tb.wr hfl (by omega) (Tb.set259 (t := ⟨⟨D.take 256, (M : Nat)⟩, (M : Nat), [], tg, nm⟩) hfl a' (tg ++ [(b[at' + 256 + k] : Int) - 1]) c')], rfl, by omega, hstep, S''.mdN h98 (by simpa using hn2b), ⟨(hmd w m15d.size g'.1).old h98 (by simpa using hn2), hL98⟩, by have := h98.size; omega⟩
      have h259 : nthV (Array.toList (Tb.v ⟨⟨D.take 256, (M : Nat)⟩, (M : Nat), [], tg, nm⟩ p3)) 259 = some (.slice p3.ta tg.length p3.tc) := Tb.at259 (t := ⟨⟨D.take 256, (M : Nat)⟩, (M : Nat), [], tg, nm⟩) hfl
      have gd : Good [n2, n1] w w199.drew := g199.tr (Md_drew _)
      have lf := leaf w199.drew gd (S3.md (Md_drew _)) hsz199
      have ldb : ∀ {K : Value → Prop}, K (.int .u8 (b[at' + 256 + k] : Nat)) → Ld w199.drew (adAt A ((at' + 256 + k : Nat) : Int) 1) K := fun k => (hr.md gd.1).ld1 hak' rfl k
      have hbk2 := bb hak'
      have a3 : IntKind.wrap .i64 (((b[at' + 256 + k] : Nat) : Int) - 1) = (b[at' + 256 + k] : Int) - 1 := by rw [IntKind.wrap_i64]; omega
      refine Bd_e (y := ((at' + 256 + k : Nat) : Int)) (by rw [IntKind.wrap_i64]; omega) ⟨hr.ix hak', BdO_in h259 <| opL_in <| ldb <| opI_in <| Bd_e (wrap_byte hbk2) <| Bd_e a3 lf, ldb <| opI_in <| Bd_e (wrap_byte hbk2) <| Bd_e a3 ⟨BdO_in h259 <| opL_in lf, fun n wb e1 e2 => BdO_in h259 <| opL_in <| lf n wb e1 e2⟩⟩
    subst hb202
    have hk6 : k = St := by simp at h; omega
    rw [hk6] at htg
    have htl : tg.length = St := by rw [htg]; simp; omega
    clear hk h hk6
    refine Bd_e (y := ((at' + 256 + St : Nat) : Int)) (by rw [IntKind.wrap_i64]; omega) ?_
    refine LoopP_in (fun m us vs w' => ∃ (k : Nat) (p' : TbS) (nx : List Int), us = [.int .i64 k] ∧ vs = [.agg (Tb.v ⟨⟨D.take 256, (M : Nat)⟩, (M : Nat), nx, tg, nm⟩ p')] ∧ m = St * M - k ∧ k ≤ St * M ∧ nx.length = k ∧
        (∀ l : List (Nat × Nat), D.drop (256 + St) = prs l → nx = (l.take k).map (fun p : Nat × Nat => ((p.1 * 256 + p.2 : Nat) : Int) - 1)) ∧
        TbF wb.heap.size w' ⟨⟨D.take 256, (M : Nat)⟩, (M : Nat), nx, tg, nm⟩ p' ∧ Good [n2, n1] w w' ∧ wb.heap.size ≤ w'.heap.size) (St * M) ⟨0, p3, [], rfl, rfl, rfl, by omega, rfl, fun l _ => by simp, S3, g199, hsz199⟩ ?_
    rintro m us vs w255 ⟨j, p4, nx, rfl, rfl, rfl, hj, hnxl, hnx, S4, g255, hsz255⟩
    refine opI_in <| opBig_in <| BdO_in (Tb.at256 (t := ⟨⟨D.take 256, (M : Nat)⟩, (M : Nat), nx, tg, nm⟩) hfl) <| opI_in <| Bd_e (y := ((St * M : Nat) : Int)) (by show IntKind.wrap .i64 ((St : Int) * (M : Nat)) = _; rw [← Int.natCast_mul, IntKind.wrap_i64]; omega) <| Bd_in fun b261 hb261 => If_in (fun h => ?_) fun h => ?_
    · subst hb261
      have hj' : j < St * M := by have : (j : Int) < ((St * M : Nat) : Int) := of_decide_eq_true h; omega
      have h2M : 2 * St * M = 2 * (St * M) := Nat.mul_assoc ..
      obtain ⟨hak, hbk⟩ := hdg (k := 256 + St + 2 * j) (by omega)
      obtain ⟨hak2, hbk2⟩ := hdg (k := 256 + St + 2 * j + 1) (by omega)
      have hk1 : at' + 256 + St + 2 * j < b.length := by omega
      have hk2 : at' + 256 + St + 2 * j + 1 < b.length := by omega
      have he1 : b[at' + 256 + St + 2 * j] = D[256 + St + 2 * j]'(by omega) := by rw [← hbk]; congr 1; omega
      have he2 : b[at' + 256 + St + 2 * j + 1] = D[256 + St + 2 * j + 1]'(by omega) := by rw [← hbk2]; congr 1; omega
      have hv1 := bb hk1
      have hv2 := bb hk2
      have hstep : ∀ l : List (Nat × Nat), D.drop (256 + St) = prs l → nx ++ [((b[at' + 256 + St + 2 * j] * 256 + b[at' + 256 + St + 2 * j + 1] : Nat) : Int) - 1] = (l.take (j + 1)).map (fun p : Nat × Nat => ((p.1 * 256 + p.2 : Nat) : Int) - 1) := by
        intro l hl
        have hll : l.length = St * M := by
          have := congrArg List.length hl
          rw [List.length_drop, prs_len, hdl] at this
          omega
        have hjl : j < l.length := by omega
        obtain ⟨g1, g2⟩ := prs_get l j l[j] (List.getElem?_eq_getElem hjl)
        rw [← hl, List.getElem?_drop, List.getElem?_eq_getElem (by omega)] at g1 g2
        have g1' := Option.some.inj g1
        have g2' := Option.some.inj g2
        rw [List.take_succ_eq_append_getElem hjl, List.map_append, ← hnx l hl, he1, he2, List.map_cons, ← g1', ← g2']
        rfl
      have leaf : ∀ w', Good [n2, n1] w w' → TbF wb.heap.size w' ⟨⟨D.take 256, (M : Nat)⟩, (M : Nat), nx, tg, nm⟩ p4 → wb.heap.size ≤ w'.heap.size → Nw (.cells #[.int .i64 (((b[at' + 256 + St + 2 * j] * 256 + b[at' + 256 + St + 2 * j + 1] : Nat) : Int) - 1)] 3) w' fun n w'' => RunW Try.prog [n2, n1] (Builtin.append_ #[52, 52] 52 #[.slice p4.na nx.length p4.nc, .slice (some { block := n, off := 0 }) 1 1])
              (fun v w'' => opL v fun a n c => LeC 259 (Array.size (Tb.v ⟨⟨D.take 256, (M : Nat)⟩, (M : Nat), nx, tg, nm⟩ p4)) (Up [n2] [n2, n1] w'' fun w98 => Bd (IntKind.wrap .i64 ((j : Int) + 1)) fun x => ∃ m', m' < St * M - j ∧ ∃ (k' : Nat) (p' : TbS) (nx' : List Int), [Value.int .i64 x] = [.int .i64 k'] ∧
                [Value.agg (List.toArray (wrL (Array.toList (Tb.v ⟨⟨D.take 256, (M : Nat)⟩, (M : Nat), nx, tg, nm⟩ p4)) 258 [.slice a n c]))] = [.agg (Tb.v ⟨⟨D.take 256, (M : Nat)⟩, (M : Nat), nx', tg, nm⟩ p')] ∧ m' = St * M - k' ∧ k' ≤ St * M ∧ nx'.length = k' ∧
                (∀ l : List (Nat × Nat), D.drop (256 + St) = prs l → nx' = (l.take k').map (fun p : Nat × Nat => ((p.1 * 256 + p.2 : Nat) : Int) - 1)) ∧
                TbF wb.heap.size w98 ⟨⟨D.take 256, (M : Nat)⟩, (M : Nat), nx', tg, nm⟩ p' ∧ Good [n2, n1] w w98 ∧ wb.heap.size ≤ w98.heap.size)) w'' := by
        intro w' g' S' hsz'
        refine S'.app_nx hsz' _ (by simp only; omega) hLb fun a' c' w'' S'' hmd hsz'' => opL_in <| LeC_in (by rw [S'.at.size]; omega) fun w98 h98 hL98 => Bd_e (inc_i64 (by omega)) ⟨St * M - (j + 1), by omega, j + 1, _, _, rfl, by rw [Tb.wr hfl (by omega) (Tb.set258 (t := ⟨⟨D.take 256, (M : Nat)⟩, (M : Nat), nx, tg, nm⟩) hfl a' (nx ++ [((b[at' + 256 + St + 2 * j] * 256 + b[at' + 256 + St + 2 * j + 1] : Nat) : Int) - 1]) c')], rfl, by omega, by simp [hnxl], hstep, S''.mdN h98 (by simpa using hn2b), ⟨(hmd w m15d.size g'.1).old h98 (by simpa using hn2), hL98⟩, by have := h98.size; omega⟩
      have h258 : nthV (Array.toList (Tb.v ⟨⟨D.take 256, (M : Nat)⟩, (M : Nat), nx, tg, nm⟩ p4)) 258 = some (.slice p4.na nx.length p4.nc) := Tb.at258 (t := ⟨⟨D.take 256, (M : Nat)⟩, (M : Nat), nx, tg, nm⟩) hfl
      have gd : Good [n2, n1] w w255.drew := g255.tr (Md_drew _)
      have lf := leaf w255.drew gd (S4.md (Md_drew _)) hsz255
      have ld1 : ∀ {K : Value → Prop}, K (.int .u8 (b[at' + 256 + St + 2 * j] : Nat)) → Ld w255.drew (adAt A ((at' + 256 + St + 2 * j : Nat) : Int) 1) K := fun k => (hr.md gd.1).ld1 hk1 rfl k
      have ld2 : ∀ {K : Value → Prop}, K (.int .u8 (b[at' + 256 + St + 2 * j + 1] : Nat)) → Ld w255.drew (adAt A ((at' + 256 + St + 2 * j + 1 : Nat) : Int) 1) K := fun k => (hr.md gd.1).ld1 hk2 rfl k
      have c1 : IntKind.wrap .i64 (2 * (j : Int)) = ((2 * j : Nat) : Int) := by rw [IntKind.wrap_i64]; omega
      have c2 : IntKind.wrap .i64 (((at' + 256 + St : Nat) : Int) + ((2 * j : Nat) : Int)) = ((at' + 256 + St + 2 * j : Nat) : Int) := by rw [IntKind.wrap_i64]; omega
      have c3 : IntKind.wrap .i64 (((at' + 256 + St + 2 * j : Nat) : Int) + 1) = ((at' + 256 + St + 2 * j + 1 : Nat) : Int) := by rw [IntKind.wrap_i64]; omega
      have c4 : IntKind.wrap .i64 (((b[at' + 256 + St + 2 * j] : Nat) : Int) * 256) = ((b[at' + 256 + St + 2 * j] * 256 : Nat) : Int) := by rw [IntKind.wrap_i64]; omega
      have c5 : IntKind.wrap .i64 (((b[at' + 256 + St + 2 * j] * 256 : Nat) : Int) + (b[at' + 256 + St + 2 * j + 1] : Nat)) = ((b[at' + 256 + St + 2 * j] * 256 + b[at' + 256 + St + 2 * j + 1] : Nat) : Int) := by rw [IntKind.wrap_i64]; omega
      have c6 : IntKind.wrap .i64 (((b[at' + 256 + St + 2 * j] * 256 + b[at' + 256 + St + 2 * j + 1] : Nat) : Int) - 1) = ((b[at' + 256 + St + 2 * j] * 256 + b[at' + 256 + St + 2 * j + 1] : Nat) : Int) - 1 := by rw [IntKind.wrap_i64]; omega
      have w1 := wrap_byte hv1
      have w2 := wrap_byte hv2
      refine Bd_e c1 <| Bd_e c2 ⟨hr.ix hk1, Bd_e c1 <| Bd_e c2 <| Bd_e c3 ⟨hr.ix hk2, ?_⟩⟩
      refine ⟨BdO_in h258 <| opL_in ⟨ld1 <| opI_in <| Bd_e w1 <| Bd_e c4 <| ld2 <| opI_in <| Bd_e w2 <| Bd_e c5 <| Bd_e c6 lf, ld2 <| opI_in <| Bd_e w2 <| ld1 <| opI_in <| Bd_e w1 <| Bd_e c4 <| Bd_e c5 <| Bd_e c6 lf⟩,
        ld1 <| opI_in <| Bd_e w1 <| Bd_e c4 ⟨BdO_in h258 <| opL_in <| ld2 <| opI_in <| Bd_e w2 <| Bd_e c5 <| Bd_e c6 lf, ld2 <| opI_in <| Bd_e w2 <| Bd_e c5 <| Bd_e c6 ⟨BdO_in h258 <| opL_in lf, fun n wb e1 e2 => BdO_in h258 <| opL_in <| lf n wb e1 e2⟩⟩,
        ld2 <| opI_in <| Bd_e w2 ⟨BdO_in h258 <| opL_in <| ld1 <| opI_in <| Bd_e w1 <| Bd_e c4 <| Bd_e c5 <| Bd_e c6 lf, ld1 <| opI_in <| Bd_e w1 <| Bd_e c4 <| Bd_e c5 <| Bd_e c6 ⟨BdO_in h258 <| opL_in lf, fun n wb e1 e2 => BdO_in h258 <| opL_in <| lf n wb e1 e2⟩⟩⟩
    have hj6 : j = St * M := by subst hb261; have : ¬ (j : Int) < ((St * M : Nat) : Int) := of_decide_eq_false h; omega
    clear hb261 h
    -- what was read is what is wanted, if anything is
    have hT : ∀ s : TShp, s.ok → b = s.l → (⟨⟨D.take 256, (M : Nat)⟩, (M : Nat), nx, tg, nm⟩ : Tb) = s.t := by
      intro s hs e
      obtain ⟨h1, h2⟩ := hD s hs e
      obtain ⟨h3, h4⟩ := hMs s e
      have e1 : D.take 256 = s.f := by rw [h2]; exact List.take_left' hs.f
      have e2 : D.drop 256 = s.tg ++ prs s.nx := by rw [h2]; exact List.drop_left' hs.f
      have e3 : (D.drop 256).take St = s.tg := by rw [e2]; exact List.take_left' (by rw [hs.tg, h4])
      have e4 : D.drop (256 + St) = prs s.nx := by rw [← List.drop_drop, e2]; exact List.drop_left' (by rw [hs.tg, h4])
      have e5 : nx = s.nx.map (fun p : Nat × Nat => ((p.1 * 256 + p.2 : Nat) : Int) - 1) := by
        rw [hnx _ e4, List.take_of_length_le (by rw [hs.nx, h4, h3]; omega)]
      unfold TShp.t
      rw [e1, e5, htg, e3, h1, h3]
    have hout : ∀ w' : World, Md [] w w' → (rdT b = none) → _ := fun w' hm hno => none57 (zT.v zP) (by rw [Tb.v, List.size_toArray, Tb.len (by simp [zT, zCl])]) w' hm hno (L := [])
    generalize hTe : (⟨⟨D.take 256, (M : Nat)⟩, (M : Nat), nx, tg, nm⟩ : Tb) = T at *
    refine ⟨S4.at.size, inPk (f60_ok T p4 w255 S4.at) g255 fun a n c e w415 g415 m415 hpk => ?_⟩
    rcases hpk with ⟨hTr, rfl, rfl, ho⟩ | ⟨hTr, rfl, rfl, rfl, rfl⟩
    · have hpb := pack_lt S4.ok (RtF.of hTr)
      refine Bd_f rfl <| Gd_t <| RunW_in0 (str_of_row (ho.row encb1) hpb) <| opStr_in <| Gd_t <| RunW_in0 (str_of_row (hr.md g415.1) hb) <| opStr_in ?_
      by_cases hPb : packL T = b
      · refine Bd_f (by rw [str_eqL hpb hb]; simpa using hPb) <| Bd_f rfl <| If_f ⟨S4.at.size, OkC_in S4.cells <| SzIs_in (by rw [Tb.v, List.size_toArray, Tb.len (by simp [zT, zCl])]) fun w440 h440 hL440 => ⟨S4.at.size, ⟨_, _, rfl, ?_⟩, g415.1.old h440 (by simpa using hn1)⟩⟩
        have hrd := rd_pack S4.ok hTr
        rw [hPb] at hrd
        unfold RdOut
        rw [hrd]
        exact ⟨rfl, p4, rfl, ((S4.md m415).mdN h440 (by simpa using hn1b)).down (by have := m15d.size; omega)⟩
      · refine Bd_t (by rw [str_eqL hpb hb]; simpa using hPb) <| Bd_t rfl <| If_t <| hout w415 g415.1 (rdT_no hb fun s hs e hrd => ?_)
        have := hT s hs e
        subst this
        exact hPb (pack_rd hb hrd).2.1
    · refine Bd_t rfl <| Gd_f <| Gd_f <| Bd_in fun b434 hb434 => Bd_t rfl <| If_t <| hout w415 g415.1 (rdT_no hb fun s hs e hrd => ?_)
      have := hT s hs e
      subst this
      have := (pack_rd hb hrd).1
      rw [hTr] at this
      cases this
end Fk
