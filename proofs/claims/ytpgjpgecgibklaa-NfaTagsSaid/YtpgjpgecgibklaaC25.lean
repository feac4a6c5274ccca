/- Contracts: what bytes are as a table, as the program reads them. -/
import Derived.Test.YtpgjpgecgibklaaC24
set_option linter.unusedVariables false
set_option linter.unusedSimpArgs false
set_option maxRecDepth 100000
namespace Fk
open Go Go.Proofs Go.RowKit
def tgsO : Nat → Option (List Nat) → List Int → List Int × Option (List Nat)
  | 0, o, acc => (acc, o)
  | k + 1, o, acc => tgsO k (oneO o).2 (acc ++ [((oneO o).1 : Int) - 1])
def nxsO : Nat → Option (List Nat) → List Int → List Int × Option (List Nat)
  | 0, o, acc => (acc, o)
  | k + 1, o, acc => nxsO k (pairO o).2 (acc ++ [((pairO o).1 : Int) - 1])
def rdM (b : List Nat) : Nat := (hdM (some b)).1 + 1
def rdS (b : List Nat) : Nat := (hdS (some b)).1
def rdTags (b : List Nat) : List Int × Option (List Nat) := tgsO (rdS b) (hdF (some b)).2 []
def rdNext (b : List Nat) : List Int × Option (List Nat) := nxsO (rdS b * rdM b) (rdTags b).2 []
def rdTb (b : List Nat) : Tb := ⟨⟨(hdF (some b)).1, (rdM b : Nat)⟩, (rdM b : Nat), (rdNext b).1, (rdTags b).1, (hdN (some b)).1⟩
/-- Is as much left as is wanted? -/
def rdFit (b : List Nat) : Bool := match (hdF (some b)).2 with | none => false | some r => decide (r.length = rdS b + 2 * rdS b * rdM b)
/-- What bytes are as a table. -/
def rdT (b : List Nat) : Option Tb := if rdFit b && tRight (rdTb b) then some (rdTb b) else none
theorem okO.off {o : Option (List Nat)} (h : okO o) : okO (hdOff o) := by
  have h1 := h.one.1
  have h2 := h1.one.1
  have h3 := h2.one.1
  have hh : okO (hd1 o).2 := by
    unfold hd1
    split
    · split
      · exact h3
      · exact h2
    · exact h1
  unfold hdOff
  split
  · exact hh
  · exact fun r hr => by cases hr
theorem okO.nms : ∀ (k : Nat) (o : Option (List Nat)) (acc : List ByteArray), okO o → (∀ s ∈ acc, s.size < 256) → okO (nmsO k o acc).2 ∧ (∀ s ∈ (nmsO k o acc).1, s.size < 256) ∧ (nmsO k o acc).1.length = acc.length + k
  | 0, o, acc, h, ha => ⟨h, ha, rfl⟩
  | k + 1, o, acc, h, ha => by
    have h1 := h.one
    have h2 := okO.nms k (takeO (oneO o).2 (oneO o).1).2 (acc ++ [bytesOf (takeO (oneO o).2 (oneO o).1).1]) (h1.1.take _).1 (by
      intro s hs
      rcases List.mem_append.1 hs with hs | hs
      · exact ha s hs
      · simp at hs
        subst hs
        simp [bytesOf, ByteArray.size, takeO_len, h1.2])
    refine ⟨h2.1, h2.2.1, ?_⟩
    rw [nmsO, h2.2.2]
    simp; omega
theorem okO.N {o : Option (List Nat)} (h : okO o) : okO (hdN o).2 ∧ (∀ s ∈ (hdN o).1, s.size < 256) ∧ (hdN o).1.length < 256 := by
  have h1 := (h.off.one.1.pair).one
  have h2 := okO.nms (hdC o).1 (hdC o).2 [] h1.1 (by simp)
  refine ⟨h2.1, h2.2.1, ?_⟩
  have : (hdN o).1.length = 0 + (hdC o).1 := h2.2.2
  have h3 : (hdC o).1 < 256 := h1.2
  omega
theorem okO.pairLt {o : Option (List Nat)} (h : okO o) : (pairO o).1 < 65536 := by
  obtain ⟨h1, h2⟩ := h.take 2
  have hl := takeO_len o 2
  unfold pairO
  match hx : (takeO o 2).1, hl with
  | [x, y], _ =>
    rw [hx] at h2
    have := h2 x (by simp)
    have := h2 y (by simp)
    simp; omega
theorem OwnL.cap {α : Type} {w : World} {base : Nat} {e : TypeId} {size : Nat} {enc : α → List Value} {a : Option Addr} {c : Nat} {l : List α} (h : OwnL w base e size enc a c l) : l.length ≤ c := by
  rcases h.2 with ⟨hv, hn⟩ | ⟨g, cap, cur, hv, hb, hg, hnc, rest⟩
  · omega
  · simp only [Value.slice.injEq] at hv
    omega
/-- A table of one's own: no older than 'base'. -/
structure TbF (base : Nat) (w : World) (t : Tb) (p : TbS) : Prop where
  ok : t.c.ok
  nm : OwnL w base 9 1 s1 p.sa p.sc t.nm
  tg : OwnL w base 3 1 i1 p.ta p.tc t.tg
  nx : OwnL w base 3 1 i1 p.na p.nc t.nx
  nml : t.nm.length < 2 ^ 40
  tgl : t.tg.length < 2 ^ 40
  nxl : t.nx.length < 2 ^ 40
  nsz : ∀ s ∈ t.nm, s.size < 2 ^ 40
  d1 : ∀ A B, p.sa = some A → p.ta = some B → A.block ≠ B.block
  d2 : ∀ A B, p.sa = some A → p.na = some B → A.block ≠ B.block
  d3 : ∀ A B, p.ta = some A → p.na = some B → A.block ≠ B.block
theorem TbF.at {base : Nat} {w : World} {t : Tb} {p : TbS} (h : TbF base w t p) : TbAt w t p :=
  ⟨h.ok, h.nx.row enci1, h.tg.row enci1, h.nm.row encs1, by have := h.nxl; omega, by have := h.tgl; omega, by have := h.nml; omega, fun s hs => by have := h.nsz s hs; omega, h.nm.cap⟩
theorem TbF.mdN {base : Nat} {w w' : World} {t : Tb} {p : TbS} {D : List Nat} (h : TbF base w t p) (hm : Md D w w') (hD : ∀ d ∈ D, d < base) : TbF base w' t p := by
  have ne : ∀ {α : Type} {e : TypeId} {size : Nat} {enc : α → List Value} {a : Option Addr} {c : Nat} {l : List α}, OwnL w base e size enc a c l → ∀ A, a = some A → A.block ∉ D := by
    intro α e size enc a c l ho A hA hmem
    have := (ho.lt hA).1
    have := hD _ hmem
    omega
  exact ⟨h.ok, h.nm.mdD hm (ne h.nm), h.tg.mdD hm (ne h.tg), h.nx.mdD hm (ne h.nx), h.nml, h.tgl, h.nxl, h.nsz, h.d1, h.d2, h.d3⟩
theorem TbF.md {base : Nat} {w w' : World} {t : Tb} {p : TbS} (h : TbF base w t p) (hm : Md [] w w') : TbF base w' t p := h.mdN hm (by simp)
theorem TbF.down {base b : Nat} {w : World} {t : Tb} {p : TbS} (h : TbF base w t p) (hb : b ≤ base) : TbF b w t p := ⟨h.ok, h.nm.down hb, h.tg.down hb, h.nx.down hb, h.nml, h.tgl, h.nxl, h.nsz, h.d1, h.d2, h.d3⟩
theorem TbF.cells {base : Nat} {w : World} {t : Tb} {p : TbS} (h : TbF base w t p) : okCells (Array.toList (t.v p)) 261 = true := by
  have hl : (t.l p).length = 261 := Tb.len h.ok.len
  have : allOne (t.l p) = true := by
    simp [allOne, Tb.l, Tb.d, Cl.l, Value.oneCell']
  unfold okCells Tb.v
  rw [hl]
  exact this
theorem zT_ok : (zCl 0).ok := zCl_ok (by omega) (by omega)
theorem TbF.zero (base : Nat) (w : World) : TbF base w zT zP := ⟨zT_ok, OwnL.nil .., OwnL.nil .., OwnL.nil .., by simp [zT], by simp [zT], by simp [zT], by simp [zT], fun A B h => (by cases h), fun A B h => (by cases h), fun A B h => (by cases h)⟩
theorem build57 (w : World) : (Instr.build 57 #[]).run Try.prog w = .ok (.agg (zT.v zP)) w := by kernel_rfl
theorem build209 (w : World) (a : Option Addr) (n c : Nat) : (Instr.build 209 #[(0, .agg #[.slice a n c, .bool false])]).run Try.prog w = .ok (.agg (List.toArray (.slice a n c :: .bool false :: zT.l zP))) w := by kernel_rfl
theorem CuAt.restC {w : World} {n : Nat} {r : List Nat} {tl : List Value} (h : CuAt w n (some r) tl) : ∃ a c, w.cell? ⟨n, 0, none⟩ = some (.slice a r.length c) := by
  obtain ⟨r', off, a, c, ho, hb, hr, hc, ha⟩ := h
  cases off with
  | true => simp at ho
  | false => simp at ho; subst ho; exact ⟨a, c, hb.cell rfl⟩
/-- What is told of reading. -/
def RdOut (b : List Nat) (base : Nat) (w : World) (cs : Array Value) (e : Int) : Prop := match rdT b with
  | some t => e = 0 ∧ ∃ p, cs = t.v p ∧ TbF base w t p
  | none => e = 100 ∧ cs = zT.v zP
theorem f61_ok (b : List Nat) (A : Option Addr) (C : Nat) (hb : ∀ x ∈ b, x < 256) (hl : b.length < 2 ^ 40) (hC : b.length ≤ C) (w : World) (hr : RowAt w A 1 b1 b) :
    Ct Try.prog 61 #[.slice A b.length C] w fun v w' => (∃ cs e, v = .tuple #[.agg cs, .int .i64 e] ∧ RdOut b w.heap.size w' cs e) ∧ Md [] w w' := by
  apply f61_in
  intro n1 hn1 w2 h2 hL2
  refine RunW_in0 (build209 ..) <| opBig_in ⟨by simp [Tb.len (t := zT) (p := zP) rfl], ?_⟩
  intro n6 w7 e6 e7
  subst e6; subst e7
  have hn12 : n1 < w2.heap.size := hL2 n1 (by simp)
  have hma : Md [] w2 (w2.alloc (.cells (List.toArray (.slice A b.length C :: .bool false :: zT.l zP)) 209)) := Md.alloc w2 _
  have hblk : Blk (w2.alloc (.cells (List.toArray (.slice A b.length C :: .bool false :: zT.l zP)) 209)) w2.heap.size 209 (.slice A b.length C :: .bool false :: zT.l zP) := heap_alloc_new w2 _
  generalize hw7 : w2.alloc (.cells (List.toArray (.slice A b.length C :: .bool false :: zT.l zP)) 209) = w7 at *
  generalize hn6 : w2.heap.size = n6 at *
  have hlt : n6 < w7.heap.size := hblk.lt
  have hm7 : Md [] w w7 := h2.trans hma
  have h06 : w.heap.size ≤ n6 := by have := h2.size; omega
  have hcu : CuAt w7 n6 (some b) (zT.l zP) := ⟨b, false, A, C, rfl, hblk, hr.md hm7, hC, fun B hB hne => by have := hr.lt encb1 (by omega) B hB hne; omega⟩
  have hob : okO (some b) := fun r hr => by cases hr; exact hb
  have hLL : ∀ x ∈ [n1], x < w7.heap.size ∧ x ≠ n6 := by intro x hx; simp at hx; subst hx; omega
  refine (f157_ok n6 (some b) hob w7 hcu hlt).callD (D := [n6]) (fun x hx => (hLL x hx).1) (fun x hx => by have := (hLL x hx).2; simpa using this) ?_
  rintro v w9 ⟨p9, rfl, S9⟩ h9
  refine opI_in ?_
  have S9d := S9.drew
  have hS : (hdS (some b)).1 < 65536 := hob.off.one.1.pairLt
  have hM : rdM b ≤ 256 := by have : (hdM (some b)).1 < 256 := hob.off.one.2; unfold rdM; omega
  have hMM : 1 ≤ rdM b := by unfold rdM; omega
  obtain ⟨hNok, hNsz, hNl⟩ := hob.N
  have hcl : Cl.ok ⟨(hdF (some b)).1, ((rdM b : Nat) : Int)⟩ := by
    refine ⟨S9.f, fun i h => ?_, ?_, ?_⟩
    · exact (hNok.take 256).2 _ (List.getElem_mem h)
    · show -9223372036854775808 ≤ ((rdM b : Nat) : Int); omega
    · show ((rdM b : Nat) : Int) ≤ 9223372036854775807; omega
  refine ⟨fun w' => w' = w9.drew, rfl, .bool (hdF (some b)).2.isNone, fun w' hw' => by subst hw'; exact Ld_in S9d.cu.offC rfl, opB_in ⟨fun _ => rfl, ?_⟩⟩
  -- what is left
  have hleft : ∃ a r c, ((!(hdF (some b)).2.isNone) = true → w9.drew.cell? ⟨n6, 0, none⟩ = some (.slice a r c)) ∧ rdFit b = (!(bif (hdF (some b)).2.isNone then true else ((r : Int) != ((rdS b + 2 * rdS b * rdM b : Nat) : Int)))) := by
    have hcu9 := S9d.cu
    generalize ho : (hdF (some b)).2 = o at *
    cases o with
    | none => exact ⟨none, 0, 0, fun h => by simp at h, by unfold rdFit; rw [ho]; rfl⟩
    | some r =>
      obtain ⟨a, c, hc⟩ := hcu9.restC
      refine ⟨a, r.length, c, fun _ => hc, ?_⟩
      unfold rdFit
      rw [ho]
      generalize rdS b + 2 * rdS b * rdM b = X
      rw [Bool.eq_iff_iff]; simp; omega
  obtain ⟨la, lr, lc, hlc, hfit⟩ := hleft
  refine ⟨.slice la lr lc, fun hc w' hw' => by subst hw'; exact Ld_in (hlc hc) rfl, opL_in <| Bd_in fun x27 hx27 => Bd_in fun x28 hx28 => ⟨fun _ => rfl, ((rdM b : Nat) : Int), fun _ w' hw' => by subst hw'; exact Ld_in (S9d.cu.cellT (Tb.at257 S9d.f)) rfl, Bd_in fun x35 hx35 => Bd_in fun x36 hx36 => Bd_in fun b37 hb37 => Bd_in fun b38 hb38 => ?_⟩⟩
  have hrs : rdS b = (hdS (some b)).1 := rfl
  have hp1 : 2 * rdS b * rdM b ≤ 131072 * 256 := Nat.mul_le_mul (by omega) hM
  generalize hP : 2 * rdS b * rdM b = P at *
  have e36 : x36 = ((rdS b + P : Nat) : Int) := by
    have e28 : x28 = ((2 * rdS b : Nat) : Int) := by rw [hx28, ← hrs, IntKind.wrap_i64]; omega
    have e35 : x35 = ((P : Nat) : Int) := by rw [hx35, e28, ← Int.natCast_mul, hP, IntKind.wrap_i64]; omega
    rw [hx36, e35, ← hrs, IntKind.wrap_i64]; omega
  have e38 : b38 = !rdFit b := by rw [hb38, hb37, hx27, e36, hfit, Bool.not_not]
  have hend : ∀ (w' w3 : World), Md [n6] w7 w' → Md [n1] w' w3 → Md [] w w3 := by
    intro w' w3 h1 h2
    exact (hm7.old h1 (by simp; omega)).old h2 (by simpa using hn1)
  refine If_in (fun h => ?_) fun h => ?_
  · have hno : rdT b = none := by unfold rdT; rw [(not_eq_of e38).1 h]; rfl
    refine RunW_in0 (build57 _) <| opBig_in ⟨by simp [Tb.v, Tb.len (t := zT) (p := zP) rfl], OkC_in (TbF.zero 0 w).cells fun w42 h42 hL42 => ⟨by simp [Tb.v, Tb.len (t := zT) (p := zP) rfl], ⟨_, _, rfl, ?_⟩, hend _ _ S9d.md h42⟩⟩
    unfold RdOut; rw [hno]; exact ⟨rfl, rfl⟩
  have hf := (not_eq_of e38).2 h
  have hrl : (rdTags b).1.length = (rdTags b).1.length := rfl
  refine LoopP_in (fun m us vs w' => ∃ (i : Nat) (o' : Option (List Nat)) (tg : List Int) (p' : TbS), us = [.int .i64 i] ∧ vs = [] ∧ m = rdS b - i ∧ i ≤ rdS b ∧ tg.length = i ∧ HS w7 w' n6 o' ⟨⟨(hdF (some b)).1, (rdM b : Nat)⟩, (rdM b : Nat), [], tg, (hdN (some b)).1⟩ p' ∧ rdTags b = tgsO (rdS b - i) o' tg) (rdS b)
    ⟨0, _, [], p9, rfl, rfl, rfl, by omega, rfl, S9d, rfl⟩ ?_
  rintro m us vs w46 ⟨i, o', tg, p', rfl, rfl, rfl, hi, htl, S46, hT⟩
  refine opI_in <| Bd_in fun b48 hb48 => If_in (fun h => ?_) fun h => ?_
  · subst hb48
    have hi' : i < rdS b := by
      have : (i : Int) < ((hdS (some b)).1 : Int) := of_decide_eq_true h
      omega
    have hstep : rdTags b = tgsO (rdS b - (i + 1)) (oneO o').2 (tg ++ [((oneO o').1 : Int) - 1]) := by
      rw [hT, show rdS b - i = (rdS b - (i + 1)) + 1 by omega]; rfl
    have ho1 := S46.ok.one.2
    have hx58 : ∀ x : Int, x = IntKind.wrap .i64 (((oneO o').1 : Int) - 1) → x = ((oneO o').1 : Int) - 1 := by
      intro x hx; rw [hx, IntKind.wrap_i64]; omega
    have hx67 : ∀ x : Int, x = IntKind.wrap .i64 ((i : Int) + 1) → x = ((i + 1 : Nat) : Int) := by
      intro x hx; rw [hx, inc_i64 (by omega)]
    have S46d := S46.drew
    refine ⟨?_, ?_⟩
    · refine Ld_in (S46d.cu.cellT (Tb.at259 S46d.f)) <| opL_in ?_
      refine in158 S46d hLL rfl fun w5 S5 => Bd_in fun x hx => ?_
      rw [hx58 x hx]
      intro nb wb e1 e2
      subst e1; subst e2
      refine S5.app_tg _ (by simp only; omega) hLL fun a' c' w6 hwr S6 => opL_in ⟨by simpa using fun e => (hLL n1 (by simp)).2 e.symm, hwr, Bd_in fun x hx => ?_⟩
      rw [hx67 x hx]
      exact ⟨rdS b - (i + 1), by omega, i + 1, _, _, _, rfl, rfl, rfl, by omega, by simp [htl], S6, hstep⟩
    · refine in158 S46d hLL rfl fun w5 S5 => Bd_in fun x hx => ?_
      rw [hx58 x hx]
      refine ⟨?_, ?_⟩
      · refine Ld_in (S5.cu.cellT (Tb.at259 S5.f)) <| opL_in ?_
        intro nb wb e1 e2
        subst e1; subst e2
        refine S5.app_tg _ (by simp only; omega) hLL fun a' c' w6 hwr S6 => opL_in ⟨by simpa using fun e => (hLL n1 (by simp)).2 e.symm, hwr, Bd_in fun x hx => ?_⟩
        rw [hx67 x hx]
        exact ⟨rdS b - (i + 1), by omega, i + 1, _, _, _, rfl, rfl, rfl, by omega, by simp [htl], S6, hstep⟩
      · intro nb wb e1 e2
        subst e1; subst e2
        have hma5 : Md [] w5 (w5.alloc (.cells #[.int .i64 (((oneO o').1 : Int) - 1)] 3)) := Md.alloc w5 _
        have S5a := S5.step (hma5.mono (by simp)) (S5.cu.mdN hma5 (by simp)) S5.ok
        refine Ld_in (S5a.cu.cellT (Tb.at259 S5a.f)) <| opL_in ?_
        refine S5.app_tg _ (by simp only; omega) hLL fun a' c' w6 hwr S6 => opL_in ⟨by simpa using fun e => (hLL n1 (by simp)).2 e.symm, hwr, Bd_in fun x hx => ?_⟩
        rw [hx67 x hx]
        exact ⟨rdS b - (i + 1), by omega, i + 1, _, _, _, rfl, rfl, rfl, by omega, by simp [htl], S6, hstep⟩
  subst hb48
  have hi' : i = rdS b := by
    have : ¬ (i : Int) < ((hdS (some b)).1 : Int) := of_decide_eq_false h
    omega
  have hTe : rdTags b = (tg, o') := by rw [hT, hi', Nat.sub_self]; rfl
  have hp2 : rdS b * rdM b ≤ 65536 * 256 := Nat.mul_le_mul (by omega) hM
  refine Ld_in (S46.cu.cellT (Tb.at257 S46.f)) <| opI_in <| Bd_in fun x101 hx101 => ?_
  have e101 : x101 = ((rdS b * rdM b : Nat) : Int) := by rw [hx101, ← hrs, ← Int.natCast_mul, IntKind.wrap_i64]; omega
  clear hx101
  subst e101
  refine LoopP_in (fun m us vs w' => ∃ (i : Nat) (o' : Option (List Nat)) (nx : List Int) (p' : TbS), us = [.int .i64 i] ∧ vs = [] ∧ m = rdS b * rdM b - i ∧ i ≤ rdS b * rdM b ∧ nx.length = i ∧ HS w7 w' n6 o' ⟨⟨(hdF (some b)).1, (rdM b : Nat)⟩, (rdM b : Nat), nx, (rdTags b).1, (hdN (some b)).1⟩ p' ∧ rdNext b = nxsO (rdS b * rdM b - i) o' nx) (rdS b * rdM b)
    ⟨0, _, [], p', rfl, rfl, rfl, by omega, rfl, by rw [hTe]; exact S46, by unfold rdNext; rw [hTe]; rfl⟩ ?_
  rintro m us vs w105 ⟨j, o2, nx, p2, rfl, rfl, rfl, hj, hnl, S105, hN⟩
  refine opI_in <| Bd_in fun b107 hb107 => If_in (fun h => ?_) fun h => ?_
  · subst hb107
    have hj' : j < rdS b * rdM b := by
      have : (j : Int) < ((rdS b * rdM b : Nat) : Int) := of_decide_eq_true h
      omega
    have hstep : rdNext b = nxsO (rdS b * rdM b - (j + 1)) (pairO o2).2 (nx ++ [((pairO o2).1 : Int) - 1]) := by
      rw [hN, show rdS b * rdM b - j = (rdS b * rdM b - (j + 1)) + 1 by omega]; rfl
    have ho1 := S105.ok.pairLt
    have hx58 : ∀ x : Int, x = IntKind.wrap .i64 (((pairO o2).1 : Int) - 1) → x = ((pairO o2).1 : Int) - 1 := by
      intro x hx; rw [hx, IntKind.wrap_i64]; omega
    have hx67 : ∀ x : Int, x = IntKind.wrap .i64 ((j : Int) + 1) → x = ((j + 1 : Nat) : Int) := by
      intro x hx; rw [hx, inc_i64 (by omega)]
    have S46d := S105.drew
    refine ⟨?_, ?_⟩
    · refine Ld_in (S46d.cu.cellT (Tb.at258 S46d.f)) <| opL_in ?_
      refine in159 S46d hLL rfl fun w5 S5 => Bd_in fun x hx => ?_
      rw [hx58 x hx]
      intro nb wb e1 e2
      subst e1; subst e2
      refine S5.app_nx _ (by simp only; omega) hLL fun a' c' w6 hwr S6 => opL_in ⟨by simpa using fun e => (hLL n1 (by simp)).2 e.symm, hwr, Bd_in fun x hx => ?_⟩
      rw [hx67 x hx]
      exact ⟨rdS b * rdM b - (j + 1), by omega, j + 1, _, _, _, rfl, rfl, rfl, by omega, by simp [hnl], S6, hstep⟩
    · refine in159 S46d hLL rfl fun w5 S5 => Bd_in fun x hx => ?_
      rw [hx58 x hx]
      refine ⟨?_, ?_⟩
      · refine Ld_in (S5.cu.cellT (Tb.at258 S5.f)) <| opL_in ?_
        intro nb wb e1 e2
        subst e1; subst e2
        refine S5.app_nx _ (by simp only; omega) hLL fun a' c' w6 hwr S6 => opL_in ⟨by simpa using fun e => (hLL n1 (by simp)).2 e.symm, hwr, Bd_in fun x hx => ?_⟩
        rw [hx67 x hx]
        exact ⟨rdS b * rdM b - (j + 1), by omega, j + 1, _, _, _, rfl, rfl, rfl, by omega, by simp [hnl], S6, hstep⟩
      · intro nb wb e1 e2
        subst e1; subst e2
        have hma5 : Md [] w5 (w5.alloc (.cells #[.int .i64 (((pairO o2).1 : Int) - 1)] 3)) := Md.alloc w5 _
        have S5a := S5.step (hma5.mono (by simp)) (S5.cu.mdN hma5 (by simp)) S5.ok
        refine Ld_in (S5a.cu.cellT (Tb.at258 S5a.f)) <| opL_in ?_
        refine S5.app_nx _ (by simp only; omega) hLL fun a' c' w6 hwr S6 => opL_in ⟨by simpa using fun e => (hLL n1 (by simp)).2 e.symm, hwr, Bd_in fun x hx => ?_⟩
        rw [hx67 x hx]
        exact ⟨rdS b * rdM b - (j + 1), by omega, j + 1, _, _, _, rfl, rfl, rfl, by omega, by simp [hnl], S6, hstep⟩
  subst hb107
  have hj' : j = rdS b * rdM b := by
    have : ¬ (j : Int) < ((rdS b * rdM b : Nat) : Int) := of_decide_eq_false h
    omega
  have hNe : rdNext b = (nx, o2) := by rw [hN, hj', Nat.sub_self]; rfl
  have htb : rdTb b = ⟨⟨(hdF (some b)).1, (rdM b : Nat)⟩, (rdM b : Nat), nx, (rdTags b).1, (hdN (some b)).1⟩ := by unfold rdTb; rw [hNe]
  rw [← htb] at S105
  have hF : TbF w7.heap.size w105 (rdTb b) p2 := ⟨hcl, S105.nm, S105.tg, S105.nx, by show (hdN (some b)).1.length < _; omega, by show (rdTags b).1.length < _; rw [hTe]; simp only; omega, by rw [htb]; simp only; omega, fun s hs => by have := hNsz s hs; omega, S105.d1, S105.d2, S105.d3⟩
  have hsz := Tb.len (t := rdTb b) (p := p2) S105.f
  refine LdN_in (l := (rdTb b).l p2) hsz ?_ <| Bd_in fun cs159 hcs => ?_
  · intro k u hu
    rw [show (Addr.add ⟨n6, 0, none⟩ 2).add k = ⟨n6, 2 + k, none⟩ by rw [Addr.add_lit, Addr.add_lit]]
    exact S105.cu.cellT hu
  have ecs : cs159 = (rdTb b).v p2 := hcs
  subst ecs
  have hL105 : ∀ x ∈ [n1], x < w105.heap.size := fun x hx => by have := (hLL x hx).1; have := S105.size; omega
  refine ⟨hF.at.size, (f55_ok (rdTb b) p2 w105 hF.at).call hL105 ?_⟩
  rintro v w161 rfl h161
  refine opB_in <| Bd_in fun b163 hb163 => If_in (fun h => ?_) fun h => ?_
  · have hno : rdT b = none := by
      unfold rdT; rw [(not_eq_of hb163).1 h]; simp
    refine RunW_in0 (build57 _) <| opBig_in ⟨by simp [Tb.v, Tb.len (t := zT) (p := zP) rfl], OkC_in (TbF.zero 0 w).cells fun w42 h42 hL42 => ⟨by simp [Tb.v, Tb.len (t := zT) (p := zP) rfl], ⟨_, _, rfl, ?_⟩, hend _ _ (S105.md.trans (h161.mono (by simp))) h42⟩⟩
    unfold RdOut; rw [hno]; exact ⟨rfl, rfl⟩
  · have hyes : rdT b = some (rdTb b) := by
      unfold rdT; rw [hf, (not_eq_of hb163).2 h]; simp
    have S161 := S105.step (h161.mono (by simp)) (S105.cu.mdN h161 (by simp)) S105.ok
    refine LdN_in (l := (rdTb b).l p2) hsz ?_ <| Bd_in fun cs170 hcs => ?_
    · intro k u hu
      rw [show (Addr.add ⟨n6, 0, none⟩ 2).add k = ⟨n6, 2 + k, none⟩ by rw [Addr.add_lit, Addr.add_lit]]
      exact S161.cu.cellT hu
    have ecs : cs170 = (rdTb b).v p2 := hcs
    subst ecs
    refine ⟨hF.at.size, OkC_in hF.cells fun w171 h171 hL171 => ⟨hF.at.size, ⟨_, _, rfl, ?_⟩, hend _ _ S161.md h171⟩⟩
    unfold RdOut; rw [hyes]
    exact ⟨rfl, p2, rfl, ((hF.md h161).mdN h171 (by simp; omega)).down (by have := hm7.size; omega)⟩
end Fk
