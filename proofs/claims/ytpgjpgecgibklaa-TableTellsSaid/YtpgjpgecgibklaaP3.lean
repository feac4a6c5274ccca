/- Plain laws: a table's bytes, and what bytes are as a table. -/
import Derived.Test.YtpgjpgecgibklaaC27
set_option linter.unusedVariables false
set_option linter.unusedSimpArgs false
set_option maxRecDepth 100000
namespace Fk
open Go Go.Proofs Go.RowKit
theorem bytesOf_L (s : ByteArray) : bytesOf (bytesL s) = s := by
  obtain ⟨⟨l⟩⟩ := s
  simp only [bytesOf, bytesL, List.map_map, ByteArray.mk.injEq, Array.mk.injEq]
  conv => rhs; rw [← List.map_id l]
  apply List.map_congr_left
  intro x _
  simp
theorem bytesL_of {l : List Nat} (h : ∀ x ∈ l, x < 256) : bytesL (bytesOf l) = l := by
  simp only [bytesOf, bytesL, List.map_map]
  conv => rhs; rw [← List.map_id l]
  apply List.map_congr_left
  intro x hx
  have := h x hx
  simp only [Function.comp, id, UInt8.toNat_ofNat', Nat.mod_eq_of_lt this]
theorem bytesOf_size (l : List Nat) : (bytesOf l).size = l.length := by simp [bytesOf, ByteArray.size]
theorem bytesOf_inj {a b : List Nat} (ha : ∀ x ∈ a, x < 256) (hb : ∀ x ∈ b, x < 256) (h : bytesOf a = bytesOf b) : a = b := by
  rw [← bytesL_of ha, ← bytesL_of hb, h]
theorem take_app {x : List Nat} {m : Nat} (h : x.length = m) (r : List Nat) : takeO (some (x ++ r)) m = (x, some r) := by
  subst h
  unfold takeO
  simp
theorem one_cons (x : Nat) (r : List Nat) : oneO (some (x :: r)) = (x, some r) := by
  have := take_app (x := [x]) (m := 1) rfl r
  unfold oneO
  simp only [List.cons_append, List.nil_append] at this
  rw [this]; rfl
theorem pair_cons (x y : Nat) (r : List Nat) : pairO (some (x :: y :: r)) = (x * 256 + y, some r) := by
  have := take_app (x := [x, y]) (m := 2) rfl r
  unfold pairO
  simp only [List.cons_append, List.nil_append] at this
  rw [this]; rfl
theorem nms_enc : ∀ (l : List ByteArray) (r : List Nat) (acc : List ByteArray), nmsO l.length (some (l.flatMap encN ++ r)) acc = (acc ++ l, some r)
  | [], r, acc => by simp [nmsO]
  | s :: l, r, acc => by
    rw [List.length_cons, nmsO, List.flatMap_cons]
    simp only [encN, List.cons_append, List.append_assoc]
    rw [one_cons]
    simp only
    rw [take_app (bytesL_len s)]
    simp only
    rw [bytesOf_L, nms_enc l r]
    simp
theorem tgs_app : ∀ (l : List Nat) (r : List Nat) (acc : List Int), tgsO l.length (some (l ++ r)) acc = (acc ++ l.map (fun x : Nat => (x : Int) - 1), some r)
  | [], r, acc => by simp [tgsO]
  | x :: l, r, acc => by
    rw [List.length_cons, tgsO, List.cons_append, one_cons]
    simp only
    rw [tgs_app l r]
    simp
def prs : List (Nat × Nat) → List Nat
  | [] => []
  | (x, y) :: l => x :: y :: prs l
theorem prs_len : ∀ l : List (Nat × Nat), (prs l).length = 2 * l.length
  | [] => rfl
  | (x, y) :: l => by simp [prs, prs_len l]; omega
theorem nxs_app : ∀ (l : List (Nat × Nat)) (r : List Nat) (acc : List Int), nxsO l.length (some (prs l ++ r)) acc = (acc ++ l.map (fun p : Nat × Nat => ((p.1 * 256 + p.2 : Nat) : Int) - 1), some r)
  | [], r, acc => by simp [nxsO, prs]
  | (x, y) :: l, r, acc => by
    rw [List.length_cons, nxsO, prs, List.cons_append, List.cons_append, pair_cons]
    simp only
    rw [nxs_app l r]
    simp
theorem prs_of : ∀ (n : Nat) (r : List Nat), r.length = 2 * n → ∃ l : List (Nat × Nat), l.length = n ∧ r = prs l
  | 0, r, h => ⟨[], rfl, by simpa [prs] using List.eq_nil_of_length_eq_zero h⟩
  | n + 1, [], h => by simp at h
  | n + 1, [x], h => by simp at h; omega
  | n + 1, x :: y :: r, h => by
    obtain ⟨l, hl, rfl⟩ := prs_of n r (by simp at h; omega)
    exact ⟨(x, y) :: l, by simp [hl], rfl⟩
theorem prs_mem : ∀ {l : List (Nat × Nat)}, (∀ x ∈ prs l, x < 256) → ∀ p ∈ l, p.1 < 256 ∧ p.2 < 256
  | [], _, p, hp => by simp at hp
  | (x, y) :: l, h, p, hp => by
    rcases List.mem_cons.1 hp with rfl | hp
    · exact ⟨h _ (by simp [prs]), h _ (by simp [prs])⟩
    · exact prs_mem (fun z hz => h z (by simp [prs, hz])) p hp
/-- The form of what is wanted. -/
structure TShp where
  m : Nat
  x : Nat
  y : Nat
  nm : List ByteArray
  f : List Nat
  tg : List Nat
  nx : List (Nat × Nat)
def TShp.n (s : TShp) : Nat := s.x * 256 + s.y
def TShp.l (s : TShp) : List Nat := [70, 84, 1, s.m, s.x, s.y, s.nm.length] ++ (s.nm.flatMap encN ++ (s.f ++ (s.tg ++ prs s.nx)))
structure TShp.ok (s : TShp) : Prop where
  f : s.f.length = 256
  tg : s.tg.length = s.n
  nx : s.nx.length = s.n * (s.m + 1)
def TShp.t (s : TShp) : Tb := ⟨⟨s.f, (s.m + 1 : Nat)⟩, (s.m + 1 : Nat), s.nx.map (fun p : Nat × Nat => ((p.1 * 256 + p.2 : Nat) : Int) - 1), s.tg.map (fun x : Nat => (x : Int) - 1), s.nm⟩
theorem hd_shp (m x y : Nat) (nm : List ByteArray) {f : List Nat} (hf : f.length = 256) (r : List Nat) :
    let o := some ([70, 84, 1, m, x, y, nm.length] ++ (nm.flatMap encN ++ (f ++ r)))
    (hdM o).1 = m ∧ (hdS o).1 = x * 256 + y ∧ (hdN o).1 = nm ∧ hdF o = (f, some r) := by
  intro o
  have e1 : hd1 o = (true, some ([m, x, y, nm.length] ++ (nm.flatMap encN ++ (f ++ r)))) := by
    simp only [o, hd1, List.cons_append, List.nil_append, one_cons]
    simp
  have e2 : hdM o = (m, some ([x, y, nm.length] ++ (nm.flatMap encN ++ (f ++ r)))) := by
    unfold hdM hdOff
    rw [e1]
    simp only [if_true, List.cons_append, List.nil_append, one_cons]
  have e3 : hdS o = (x * 256 + y, some ([nm.length] ++ (nm.flatMap encN ++ (f ++ r)))) := by
    unfold hdS
    rw [e2]
    simp only [List.cons_append, List.nil_append, pair_cons]
  have e4 : hdC o = (nm.length, some (nm.flatMap encN ++ (f ++ r))) := by
    unfold hdC
    rw [e3]
    simp only [List.cons_append, List.nil_append, one_cons]
  have e5 : hdN o = (nm, some (f ++ r)) := by
    unfold hdN
    rw [e4]
    simp only
    rw [nms_enc]; rfl
  refine ⟨by rw [e2], by rw [e3], by rw [e5], ?_⟩
  unfold hdF
  rw [e5]
  exact take_app hf r
theorem rd_shp {s : TShp} (h : s.ok) : rdFit s.l = true ∧ rdTb s.l = s.t := by
  obtain ⟨e1, e2, e3, e4⟩ := hd_shp s.m s.x s.y s.nm h.f (s.tg ++ prs s.nx)
  have eM : rdM s.l = s.m + 1 := by unfold rdM TShp.l; rw [e1]
  have eS : rdS s.l = s.n := by unfold rdS TShp.l; rw [e2]; rfl
  have eT : rdTags s.l = (s.tg.map (fun x : Nat => (x : Int) - 1), some (prs s.nx)) := by
    unfold rdTags
    rw [eS]
    show tgsO s.n (hdF (some s.l)).2 [] = _
    unfold TShp.l
    rw [e4, ← h.tg, tgs_app]; rfl
  have eN : (rdNext s.l).1 = s.nx.map (fun p : Nat × Nat => ((p.1 * 256 + p.2 : Nat) : Int) - 1) := by
    unfold rdNext
    rw [eS, eM, eT, ← h.nx]
    have := nxs_app s.nx [] []
    rw [List.append_nil] at this
    simp only [this, List.nil_append]
  constructor
  · unfold rdFit
    rw [eS, eM]
    unfold TShp.l
    rw [e4]
    simp only [List.length_append, h.tg, prs_len, h.nx, decide_eq_true_eq, Nat.mul_assoc]
  · unfold rdTb
    rw [eM, eN, eT]
    unfold TShp.l
    rw [e3, e4]
    rfl
theorem take_inv {o : Option (List Nat)} {m : Nat} {r : List Nat} (h : (takeO o m).2 = some r) : o = some ((takeO o m).1 ++ r) := by
  cases o with
  | none => simp [takeO] at h
  | some l =>
    unfold takeO at h ⊢
    by_cases hl : l.length < m
    · simp [hl] at h
    · simp only [hl, if_false, Option.some.injEq] at h ⊢
      rw [← h, List.take_append_drop]
theorem one_inv {o : Option (List Nat)} {r : List Nat} (h : (oneO o).2 = some r) : o = some ((oneO o).1 :: r) := by
  have h1 := take_inv (o := o) (m := 1) h
  have hl := takeO_len o 1
  unfold oneO
  match hx : (takeO o 1).1, hl with
  | [x], _ => rw [hx] at h1; exact h1
theorem pair_inv {o : Option (List Nat)} {r : List Nat} (h : (pairO o).2 = some r) : ∃ x y, (pairO o).1 = x * 256 + y ∧ o = some (x :: y :: r) := by
  have h1 := take_inv (o := o) (m := 2) h
  have hl := takeO_len o 2
  unfold pairO
  match hx : (takeO o 2).1, hl with
  | [x, y], _ => rw [hx] at h1; exact ⟨x, y, rfl, h1⟩
theorem nms_inv : ∀ (k : Nat) (o : Option (List Nat)) (acc : List ByteArray) (r : List Nat), okO o → (nmsO k o acc).2 = some r → ∃ l : List ByteArray, l.length = k ∧ (nmsO k o acc).1 = acc ++ l ∧ o = some (l.flatMap encN ++ r)
  | 0, o, acc, r, ho, h => ⟨[], rfl, by simp [nmsO], by simpa [nmsO] using h⟩
  | k + 1, o, acc, r, ho, h => by
    rw [nmsO] at h
    obtain ⟨l, hl, e, he⟩ := nms_inv k _ _ r ((ho.one.1).take _).1 h
    have h2 := take_inv he
    have h1 := one_inv h2
    have hb := ((ho.one.1).take (oneO o).1).2
    have hlen := takeO_len (oneO o).2 (oneO o).1
    refine ⟨bytesOf (takeO (oneO o).2 (oneO o).1).1 :: l, by simp [hl], by rw [nmsO, e]; simp, ?_⟩
    rw [List.flatMap_cons, encN, bytesL_of hb, bytesOf_size, hlen]
    simp only [List.cons_append, List.append_assoc]
    exact h1
theorem shp_of {b : List Nat} (hb : ∀ x ∈ b, x < 256) (h : rdFit b = true) : ∃ s : TShp, s.ok ∧ b = s.l := by
  have hob : okO (some b) := fun r hr => by cases hr; exact hb
  unfold rdFit at h
  cases hF : (hdF (some b)).2 with
  | none => rw [hF] at h; cases h
  | some r =>
    rw [hF] at h
    simp only [decide_eq_true_eq] at h
    have h1 : (hdN (some b)).2 = some ((hdF (some b)).1 ++ r) := take_inv hF
    have hfl : (hdF (some b)).1.length = 256 := takeO_len _ _
    obtain ⟨nm, hnl, hne, h2⟩ := nms_inv _ _ [] _ (hob.off.one.1.pair.one).1 h1
    have h3 := one_inv h2
    obtain ⟨x, y, hxy, h4⟩ := pair_inv h3
    have h5 := one_inv h4
    have h6 : (hd1 (some b)).1 = true ∧ (hd1 (some b)).2 = hdOff (some b) := by
      cases hc : (hd1 (some b)).1 with
      | true => exact ⟨rfl, by unfold hdOff; rw [hc]; rfl⟩
      | false => unfold hdOff at h5; rw [hc] at h5; simp at h5
    rw [h5] at h6
    have h7 : b = 70 :: 84 :: 1 :: (oneO (hdOff (some b))).1 :: x :: y :: (oneO (pairO (oneO (hdOff (some b))).2).2).1 :: (nm.flatMap encN ++ ((hdF (some b)).1 ++ r)) := by
      obtain ⟨g1, g2⟩ := h6
      have g0 : ∀ (o : Option (List Nat)), (hd1 o).1 = true → (oneO o).1 = 70 ∧ (oneO (oneO o).2).1 = 84 ∧ (oneO (oneO (oneO o).2).2).1 = 1 ∧ (hd1 o).2 = (oneO (oneO (oneO o).2).2).2 := by
        intro o ho
        unfold hd1 at ho ⊢
        by_cases c1 : (oneO o).1 = 70
        · by_cases c2 : (oneO (oneO o).2).1 = 84
          · simp only [c1, c2, if_true, decide_eq_true_eq] at ho ⊢
            exact ⟨trivial, trivial, ho, trivial⟩
          · simp [c1, c2] at ho
        · simp [c1] at ho
      obtain ⟨k1, k2, k3, k4⟩ := g0 _ g1
      rw [g2] at k4
      have j1 := one_inv k4.symm
      have j2 := one_inv j1
      have j3 := one_inv j2
      rw [k1, k2, k3] at j3
      exact Option.some.inj j3
    have hS : rdS b = x * 256 + y := hxy
    have hM : rdM b = (oneO (hdOff (some b))).1 + 1 := rfl
    rw [hS, hM] at h
    obtain ⟨nx, hnx, hr2⟩ := prs_of ((x * 256 + y) * ((oneO (hdOff (some b))).1 + 1)) (r.drop (x * 256 + y)) (by rw [List.length_drop, h, Nat.mul_assoc]; omega)
    refine ⟨⟨(oneO (hdOff (some b))).1, x, y, nm, (hdF (some b)).1, r.take (x * 256 + y), nx⟩, ⟨hfl, by simp only [TShp.n, List.length_take]; omega, hnx⟩, ?_⟩
    unfold TShp.l
    simp only
    rw [← hr2, List.take_append_drop]
    have hC : (oneO (pairO (oneO (hdOff (some b))).2).2).1 = nm.length := by rw [hnl]; rfl
    rw [← hC]
    exact h7
/-- A right table's form. -/
theorem pack_shp {t : Tb} (hok : t.c.ok) (h : tRight t = true) : ∃ s : TShp, s.ok ∧ packL t = s.l ∧ s.t = t := by
  have hR := RtF.of h
  have h1 := hR.d1
  have hnx := hR.nx
  have e1 : ((((t.dm - 1).toNat + 1 : Nat)) : Int) = t.dm := by omega
  refine ⟨⟨(t.dm - 1).toNat, t.tg.length / 256, t.tg.length % 256, t.nm, t.c.f, t.tg.map tagB, t.nx.map fun n => ((n + 1).toNat / 256, (n + 1).toNat % 256)⟩, ⟨hok.len, ?_, ?_⟩, ?_, ?_⟩
  · simp [TShp.n]; omega
  · simp only [TShp.n, List.length_map]
    have : t.tg.length / 256 * 256 + t.tg.length % 256 = t.tg.length := by omega
    rw [this]
    have : ((t.tg.length * ((t.dm - 1).toNat + 1) : Nat) : Int) = t.dm * t.tg.length := by rw [Int.natCast_mul, e1, Int.mul_comm]
    omega
  · have e : ∀ l : List Int, l.flatMap encX = prs (l.map fun n => ((n + 1).toNat / 256, (n + 1).toNat % 256)) := by
      intro l
      induction l with
      | nil => rfl
      | cons n l ih => rw [List.flatMap_cons, List.map_cons, prs, ← ih]; rfl
    unfold packL hdrL TShp.l
    rw [e]
    simp
  · have a1 : (t.tg.map tagB).map (fun x : Nat => (x : Int) - 1) = t.tg := by
      rw [List.map_map]
      conv => rhs; rw [← List.map_id t.tg]
      apply List.map_congr_left
      intro x hx
      have := (hR.tag x hx).1
      simp only [Function.comp, tagB, id]; omega
    have a2 : (t.nx.map fun n => ((n + 1).toNat / 256, (n + 1).toNat % 256)).map (fun p : Nat × Nat => ((p.1 * 256 + p.2 : Nat) : Int) - 1) = t.nx := by
      rw [List.map_map]
      conv => rhs; rw [← List.map_id t.nx]
      apply List.map_congr_left
      intro x hx
      have := (hR.nxt x hx).1
      simp only [Function.comp, id]; omega
    have hm := hR.m
    unfold TShp.t
    simp only [a1, a2, e1]
    obtain ⟨c, dm, nx, tg, nm⟩ := t
    obtain ⟨f, m⟩ := c
    simp only at hm
    subst hm
    rfl
/-- What is packed is read. -/
theorem rd_pack {t : Tb} (hok : t.c.ok) (h : tRight t = true) : rdT (packL t) = some t := by
  obtain ⟨s, hs, he, ht⟩ := pack_shp hok h
  obtain ⟨h1, h2⟩ := rd_shp hs
  unfold rdT
  rw [he, h1, h2, ht, h]; rfl
/-- What is read is packed as it was. -/
theorem pack_rd {b : List Nat} {t : Tb} (hb : ∀ x ∈ b, x < 256) (h : rdT b = some t) : tRight t = true ∧ packL t = b ∧ t.c.f.length = 256 := by
  unfold rdT at h
  cases hf : rdFit b with
  | false => rw [hf] at h; simp at h
  | true =>
    obtain ⟨s, hs, rfl⟩ := shp_of hb hf
    obtain ⟨h1, h2⟩ := rd_shp hs
    rw [h1, h2] at h
    cases hr : tRight s.t with
    | false => rw [hr] at h; simp at h
    | true =>
      rw [hr] at h
      simp only [Bool.and_self, if_true, Option.some.injEq] at h
      subst h
      refine ⟨hr, ?_, hs.f⟩
      have hy : s.y < 256 := hb _ (by simp [TShp.l])
      have hn : s.n = s.x * 256 + s.y := rfl
      have b1 : s.n / 256 = s.x := by omega
      have b2 : s.n % 256 = s.y := by omega
      have b3 : ((((s.m + 1 : Nat) : Int) - 1)).toNat = s.m := by omega
      have b4 : (s.tg.map (fun x : Nat => (x : Int) - 1)).map tagB = s.tg := by
        rw [List.map_map]
        conv => rhs; rw [← List.map_id s.tg]
        apply List.map_congr_left
        intro x hx
        simp only [Function.comp, tagB, id]; omega
      have hpm := prs_mem (l := s.nx) fun x hx => hb x (by simp [TShp.l, hx])
      have b5 : ∀ l : List (Nat × Nat), (∀ p ∈ l, p.1 < 256 ∧ p.2 < 256) → (l.map (fun p : Nat × Nat => ((p.1 * 256 + p.2 : Nat) : Int) - 1)).flatMap encX = prs l := by
        intro l
        induction l with
        | nil => intro _; rfl
        | cons p l ih =>
          intro hp
          have h0 := hp p (by simp)
          obtain ⟨x, y⟩ := p
          rw [List.map_cons, List.flatMap_cons, ih fun q hq => hp q (List.mem_cons_of_mem _ hq), prs]
          have c1 : ((((x * 256 + y : Nat) : Int) - 1) + 1).toNat = x * 256 + y := by omega
          simp only [encX, c1]
          simp only at h0
          rw [show (x * 256 + y) / 256 = x by omega, show (x * 256 + y) % 256 = y by omega]
          rfl
      unfold packL hdrL TShp.t TShp.l
      simp only [List.length_map, hs.tg, b1, b2, b3, b4, b5 s.nx hpm]
      simp
theorem rdFit_more {b more : List Nat} (hb : ∀ x ∈ b, x < 256) (h : rdFit b = true) (hm : more ≠ []) : rdFit (b ++ more) = false := by
  obtain ⟨s, hs, rfl⟩ := shp_of hb h
  have hl : 0 < more.length := List.length_pos_iff.2 hm
  have e : s.l ++ more = [70, 84, 1, s.m, s.x, s.y, s.nm.length] ++ (s.nm.flatMap encN ++ (s.f ++ (s.tg ++ prs s.nx ++ more))) := by simp [TShp.l]
  obtain ⟨e1, e2, e3, e4⟩ := hd_shp s.m s.x s.y s.nm hs.f (s.tg ++ prs s.nx ++ more)
  unfold rdFit rdS rdM
  rw [e, e1, e2, e4]
  simp only [List.length_append, hs.tg, prs_len, hs.nx, decide_eq_false_iff_not, TShp.n, Nat.mul_assoc]
  omega
theorem rdT_fit {b : List Nat} {t : Tb} (h : rdT b = some t) : rdFit b = true := by
  unfold rdT at h
  cases hf : rdFit b with
  | true => rfl
  | false => rw [hf] at h; simp at h
theorem rdT_more {b more : List Nat} {t : Tb} (hb : ∀ x ∈ b, x < 256) (h : rdT b = some t) (hm : more ≠ []) : rdT (b ++ more) = none := by
  unfold rdT
  rw [rdFit_more hb (rdT_fit h) hm]; rfl
theorem rdT_less {b : List Nat} {t : Tb} (hb : ∀ x ∈ b, x < 256) (h : rdT b = some t) {k : Nat} (hk : k < b.length) : rdT (b.take k) = none := by
  cases h2 : rdT (b.take k) with
  | none => rfl
  | some u =>
    have h3 := rdT_more (more := b.drop k) (fun x hx => hb x (List.mem_of_mem_take hx)) h2 (by intro e; have := congrArg List.length e; simp at this; omega)
    rw [List.take_append_drop, h] at h3
    cases h3
end Fk
