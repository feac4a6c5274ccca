/- Contracts of functions, and plain laws: several texts, joined. -/
import Derived.Test.YtpgjpgecgibklaaGR0
import Derived.Test.YtpgjpgecgibklaaGK2
import Derived.WalkSmall
import Derived.Lib.SliceRun
import Derived.Lib.AppendStr
import Derived.Laws.Cover3
import Derived.Lib.Builder
import Derived.Lib.UnsafeStr
import Derived.Laws.Externs
import Derived.ChangeKeysEq
import Derived.WideKeyRuns
import Derived.Test.YtpgjpgecgibklaaGV0
set_option linter.unusedVariables false
set_option linter.unusedSimpArgs false
set_option maxRecDepth 100000
set_option maxHeartbeats 1000000
namespace Fk
open Go Go.Proofs Go.RowKit
def bE (b : Bool) : List Value := [.bool b]
theorem encbE : Enc 1 bE := ⟨fun _ => rfl, by intro x v hv; simp [bE] at hv; subst hv; rfl⟩
/-- The last one is taken. -/
theorem OwnL.pop {α : Type} {w : World} {base : Nat} {e : TypeId} {size : Nat} {enc : α → List Value} (he : Enc size enc) {a : Option Addr} {c : Nat} {l : List α} {x : α} (h : OwnL w base e size enc a c (l ++ [x])) : OwnL w base e size enc a c l := by
  unfold OwnL at h ⊢
  obtain ⟨g, hg⟩ : ∃ g, a = some ⟨g, 0, none⟩ := by
    rcases h.2 with ⟨_, hn⟩ | ⟨g, cap, cur, hv, _⟩
    · simp at hn
    · simp only [Value.slice.injEq] at hv
      exact ⟨g, hv.1⟩
  subst hg
  rw [List.flatMap_append, List.length_append] at h
  exact ownsRow_pop (he.lenL l) h
theorem mem_blk {a : Option Addr} {d : Nat} (h : d ∈ (a.map (·.block)).toList) : ∃ A, a = some A ∧ A.block = d := by
  cases a with
  | none => simp at h
  | some A => simp at h; exact ⟨A, rfl, h.symm⟩
/-- A stand in memory: the machine, where it stands, and where it is to come to. -/
structure StAt (w0 w : World) (n : Nat) (st : Int) (pa : Option Addr) (pc : Nat) (l : List Ns) (an ax : Option Addr) (cn cx : Nat) (now next : List Bool) : Prop where
  blk : Blk w n 231 [.int .i64 st, .slice pa l.length pc, .slice an now.length cn, .slice ax next.length cx]
  row : RowAt w0 pa 8 nsE l
  md : Md [] w0 w
  nlo : w0.heap.size ≤ n
  onow : OwnL w w0.heap.size 4 1 bE an cn now
  onext : OwnL w w0.heap.size 4 1 bE ax cx next
  d1 : ∀ A, an = some A → A.block ≠ n
  d2 : ∀ A, ax = some A → A.block ≠ n
  d3 : Apt an ax
section
variable {w0 w w' : World} {n : Nat} {st : Int} {pa : Option Addr} {pc : Nat} {l : List Ns} {an ax : Option Addr} {cn cx : Nat} {now next : List Bool}
theorem StAt.md0 (S : StAt w0 w n st pa pc l an ax cn cx now next) (hm : Md [] w w') : StAt w0 w' n st pa pc l an ax cn cx now next :=
  ⟨S.blk.md hm (by simp), S.row, S.md.trans hm, S.nlo, S.onow.md hm, S.onext.md hm, S.d1, S.d2, S.d3⟩
theorem StAt.mdN {D : List Nat} (S : StAt w0 w n st pa pc l an ax cn cx now next) (hm : Md D w w') (hD : ∀ d ∈ D, w.heap.size ≤ d) : StAt w0 w' n st pa pc l an ax cn cx now next := S.md0 (hm.fresh hD)
theorem StAt.put (S : StAt w0 w n st pa pc l an ax cn cx now next) {i : Nat} (hi : i < next.length) (x : Bool) :
    ∃ A, ax = some A ∧ A.block < w.heap.size ∧ w0.heap.size ≤ A.block ∧ (adAt ax (i : Int) 1).block = A.block ∧ Wr w (adAt ax (i : Int) 1) 1 ∧ StAt w0 (setCells w (adAt ax (i : Int) 1) 0 [.bool x]) n st pa pc l an ax cn cx now (next.set i x) ∧
      Md [A.block] w (setCells w (adAt ax (i : Int) 1) 0 [.bool x]) := by
  obtain ⟨A, hA, h1, h2, h3, h4, h5, h6⟩ := S.onext.put encbE (by omega) hi x
  refine ⟨A, hA, h1, h2, h3, h4, ⟨?_, S.row, S.md.old h6 (by simpa using h2), S.nlo, S.onow.mdD h6 fun B hB => by simpa using S.d3 B A hB hA, h5, S.d1, S.d2, S.d3⟩, h6⟩
  have := S.blk.md h6 (by simpa using (S.d2 A hA).symm)
  rw [List.length_set]; exact this
end
end Fk
set_option linter.unusedVariables false
set_option linter.unusedSimpArgs false
set_option maxRecDepth 100000
set_option maxHeartbeats 2000000
namespace Fk
open Go Go.Proofs Go.RowKit
def dst (l : List Ns) (todo : List Int) : List Bool := comeF l (2 * l.length + todo.length) todo.reverse (offs l.length)
end Fk
set_option linter.unusedVariables false
set_option linter.unusedSimpArgs false
set_option maxRecDepth 100000
namespace Fk
open Go Go.Proofs Go.RowKit
/-- What a right table is like. -/
structure RtF (t : Tb) : Prop where
  d1 : 1 ≤ t.dm
  d2 : t.dm ≤ 256
  m : t.c.m = t.dm
  tg1 : 1 ≤ t.tg.length
  tg2 : t.tg.length ≤ 5000
  nx : (t.nx.length : Int) = t.dm * t.tg.length
  nxl : t.nx.length ≤ 1280000
  n1 : 1 ≤ t.nm.length
  n2 : t.nm.length ≤ 200
  sz : ∀ s ∈ t.nm, s.size ≤ 64
  tag : ∀ x ∈ t.tg, -1 ≤ x ∧ x < 200
  nxt : ∀ x ∈ t.nx, -1 ≤ x ∧ x < 5000
theorem namesOk_sz : ∀ (l pre : List ByteArray), namesOk pre l = true → ∀ s ∈ l, s.size ≤ 64
  | [], _, _ => by simp
  | s :: l, pre, h => by
    unfold namesOk at h
    simp only [Bool.and_eq_true] at h
    intro x hx
    rcases List.mem_cons.1 hx with rfl | hx
    · have := h.1.1
      unfold named at this
      simp only [Bool.and_eq_true, decide_eq_true_eq] at this
      exact this.2
    · exact namesOk_sz l _ h.2 x hx
theorem RtF.of {t : Tb} (h : tRight t = true) : RtF t := by
  have h0 := h
  unfold tRight tHead at h
  simp only [Bool.and_eq_true, decide_eq_true_eq] at h
  obtain ⟨⟨⟨⟨⟨hc, hd⟩, hm⟩, hn⟩, hnm⟩, ht⟩ := h
  obtain ⟨d1, d2, d3, d4, d5⟩ := dRight_tags hd
  unfold dRight at hd
  simp only [Bool.and_eq_true, List.all_eq_true, decide_eq_true_eq] at hd
  refine ⟨d1, d2, hm, d3, d4, d5, ?_, hn.1, hn.2, namesOk_sz _ _ hnm, hd.1.2, fun x hx => ?_⟩
  · have : t.dm * (t.tg.length : Int) ≤ 256 * 5000 := Int.mul_le_mul d2 (by omega) (by omega) (by omega)
    omega
  · have := hd.2 x hx; omega
structure PS (w2 w : World) (a : Option Addr) (c : Nat) (acc : List Nat) : Prop where
  md : Md [] w2 w
  own : OwnL w w2.heap.size 5 1 b1 a c acc
section
variable {w2 w : World} {a : Option Addr} {c : Nat} {acc : List Nat} {L : List Nat}
theorem PS.drew (S : PS w2 w a c acc) : PS w2 w.drew a c acc := ⟨S.md.trans (Md_drew _), S.own.md (Md_drew _)⟩
theorem PS.tr {w' : World} (S : PS w2 w a c acc) (h : Md [] w w') : PS w2 w' a c acc := ⟨S.md.trans h, S.own.md h⟩
theorem PS.blk (S : PS w2 w a c acc) : ∀ d ∈ (a.map (·.block)).toList, w2.heap.size ≤ d ∧ d < w.heap.size := by
  intro d hd
  cases ha : a with
  | none => rw [ha] at hd; simp at hd
  | some A => rw [ha] at hd; simp at hd; have := S.own.lt ha; omega
theorem PS.appC (S : PS w2 w a c acc) (A2 : Addr) (m c2 : Nat) (xs : List Nat) (hm : xs.length = m) (hn : ∀ (j x : Nat), xs[j]? = some x → w.cell? (A2.add j) = some (.int .u8 (x : Int))) (hL : ∀ b ∈ L, b < w2.heap.size) (hl : acc.length + m ≤ 2 ^ 40) {K : Value → World → Prop}
    (k : ∀ a' c' w', PS w2 w' a' c' (acc ++ xs) → Md (a.map (·.block)).toList w w' → K (.slice a' (acc ++ xs).length c') w') :
    RunW Try.prog L (Builtin.append_ #[51, 51] 51 #[.slice a acc.length c, .slice (some A2) m c2]) K w := by
  have hsz := S.md.size
  obtain ⟨a', c', w', hr, ho, hmd, hA⟩ := run_app (ty := 51) rowT51 S.own A2 m c2 (xs.flatMap b1) (by rw [encb1.lenL, hm]) (by
    intro j u hu
    have hj : j < xs.length := by have := (List.getElem?_eq_some_iff.1 hu).1; rw [encb1.lenL] at this; omega
    have := encb1.at xs j 0 xs[j] (List.getElem?_eq_getElem hj) (by omega)
    rw [Nat.mul_one, Nat.add_zero] at this
    rw [this] at hu
    rw [hn j xs[j] (List.getElem?_eq_getElem hj)]
    exact hu) (encb1.oneL xs) (by simp [maxLen]; omega) (by omega) hsz
  refine RunW_in hr (fun b hb => hmd.blk b (by have := hL b hb; omega) fun hmem => by have := (S.blk b hmem).1; have := hL b hb; omega) ?_
  have hPS : PS w2 w' a' c' (acc ++ xs) := ⟨S.md.old hmd fun d hd => (S.blk d hd).1, by unfold OwnL; rw [List.flatMap_append, List.length_append, hm]; exact ho⟩
  have := k a' c' w' hPS hmd
  rwa [List.length_append, hm] at this
theorem PS.appN (S : PS w2 w a c acc) (m : Nat) (xs : List Nat) (cs : Array Value) (hm : xs.length = m) (hcs : cs.toList = xs.flatMap b1) (hL : ∀ b ∈ L, b < w2.heap.size) (hl : acc.length + m ≤ 2 ^ 40) {K : Value → World → Prop}
    (k : ∀ a' c' w', PS w2 w' a' c' (acc ++ xs) → K (.slice a' (acc ++ xs).length c') w') :
    Nw (.cells cs 5) w fun b w' => RunW Try.prog L (Builtin.append_ #[51, 51] 51 #[.slice a acc.length c, .slice (some { block := b, off := 0 }) m m]) K w' := by
  intro b w1 e1 e2
  subst e1; subst e2
  refine (S.tr (Md.alloc w _)).appC _ m m xs hm ?_ hL hl fun a' c' w' S' _ => k a' c' w' S'
  intro j x hx
  have hj : j < xs.length := (List.getElem?_eq_some_iff.1 hx).1
  have h1 := encb1.at xs j 0 x hx (by omega)
  rw [Nat.mul_one, Nat.add_zero, ← hcs] at h1
  refine alloc_at w cs 5 0 j ?_
  rw [Nat.zero_add, ← Array.getElem?_toList, h1]; rfl
end
end Fk
set_option linter.unusedVariables false
set_option linter.unusedSimpArgs false
set_option maxRecDepth 100000
set_option maxHeartbeats 2000000
namespace Fk
open Go Go.Proofs Go.RowKit
def byteG : List Bool → Nat → Nat → Nat
  | [], _, acc => acc
  | h :: hs, i, acc => byteG hs (i + 1) (if h = true then acc ||| 2 ^ i else acc)
def chunk (N : List Bool) (q : Nat) : List Bool := (N.drop (8 * q)).take 8
/-- Marks, eight to a byte. -/
def keyL (N : List Bool) (m : Nat) : List Nat := (List.range m).map fun q => byteG (chunk N q) 0 0
def keyN (n : Nat) : Nat := (n + 7) / 8
end Fk
set_option linter.unusedVariables false
set_option linter.unusedSimpArgs false
set_option maxRecDepth 100000
set_option maxHeartbeats 2000000
namespace Fk
open Go Go.Proofs Go.RowKit
theorem own_at {α : Type} {w : World} {b e s c : Nat} {enc : α → List Value} {a : Option Addr} {l : List α} (h : OwnL w b e s enc a c l) {A : Addr} (hA : a = some A) : ∃ cur, w.heap[A.block]? = some (.cells cur e (0, 0)) := by
  rcases h.2 with ⟨hv, _⟩ | ⟨g, cap, cur, hv, _, hg, _⟩
  · subst hA; simp at hv
  · simp only [Value.slice.injEq] at hv
    rw [hA] at hv
    have : A = ⟨g, 0, none⟩ := by have := hv.1; injection this
    subst this
    exact ⟨cur, hg⟩
theorem own_apt2 {α β : Type} {w : World} {b1 b2 : Nat} {e1 e2 : TypeId} {s1 s2 : Nat} {enc1 : α → List Value} {enc2 : β → List Value} {a b : Option Addr} {c d : Nat} {l : List α} {m : List β} (h1 : OwnL w b1 e1 s1 enc1 a c l) (h2 : OwnL w b2 e2 s2 enc2 b d m) (hne : e1 ≠ e2) : Apt a b := by
  intro A B hA hB e
  obtain ⟨c1, h3⟩ := own_at h1 hA
  obtain ⟨c2, h4⟩ := own_at h2 hB
  rw [e, h4] at h3
  injection h3 with h3
  injection h3 with _ h
  exact hne h.symm
theorem own_nblk {α : Type} {w : World} {b e s c n : Nat} {ty : TypeId} {enc : α → List Value} {a : Option Addr} {l : List α} {vs : List Value} (h : OwnL w b e s enc a c l) (hb : Blk w n ty vs) (hne : e ≠ ty) : ∀ A, a = some A → A.block ≠ n := fun A hA e' => by
  obtain ⟨c1, h3⟩ := own_at h hA
  rw [e', hb] at h3
  injection h3 with h3
  injection h3 with _ h
  exact hne h.symm
theorem own_nmap {α K V : Type} {w : World} {b e s c m : Nat} {enc : α → List Value} {a : Option Addr} {l : List α} {kv : K → Value} {vv : V → Value} {es : List (K × V)} (h : OwnL w b e s enc a c l) (hb : MapAt w m kv vv es) : ∀ A, a = some A → A.block ≠ m := fun A hA e' => by
  obtain ⟨c1, h3⟩ := own_at h hA
  obtain ⟨es, cl, h4, _⟩ := hb
  rw [e', h4] at h3
  cases h3
theorem zero3 (w : World) : (zeroValue 3).run Try.prog w = .ok (.int .i64 0) w := by
  have h : (Try.prog.info? 3).bind (·.zero) = some (.int .i64 0) := by kernel_rfl
  cases hi : Try.prog.info? 3 with
  | none => simp [hi] at h
  | some i =>
    simp [hi] at h
    simp [zeroValue, typeInfo, hi, h]
structure Rb where
  a : Option Addr
  c : Nat
  N : List Bool
def rbE (p : Rb) : List Value := [.slice p.a p.N.length p.c]
def keyS (N : List Bool) : ByteArray := bytesOf (keyL N (keyN N.length))
def ents (l : List Rb) (i : Nat) : List (ByteArray × Int) := match l with
  | [] => []
  | p :: r => (keyS p.N, (i : Int)) :: ents r (i + 1)
structure Bkp (L : List Nat) (w0 w : World) (n m : Nat) (a : Option Addr) (c : Nat) (l : List Rb) : Prop where
  blk : Blk w n 221 [.map (some m), .slice a l.length c]
  md : Md [] w0 w
  nlo : w0.heap.size ≤ n
  mlo : w0.heap.size ≤ m
  map : MapAt w m (fun s : ByteArray => .string s) (fun x : Int => .int .i64 x) (ents l 0)
  own : OwnL w w0.heap.size 222 1 rbE a c l
  rows : ∀ p ∈ l, OwnL w w0.heap.size 4 1 bE p.a p.c p.N
  nm : n ≠ m
  nl : ∀ b ∈ L, b < w.heap.size ∧ b ≠ n ∧ b ≠ m ∧ ∀ A, a = some A → A.block ≠ b
section
variable {L : List Nat} {w0 w w' : World} {n m c : Nat} {a : Option Addr} {l : List Rb}
theorem Bkp.md0 (S : Bkp L w0 w n m a c l) (hm : Md [] w w') : Bkp L w0 w' n m a c l :=
  ⟨S.blk.md hm (by simp), S.md.trans hm, S.nlo, S.mlo, S.map.md hm (by simp), S.own.md hm, fun p hp => (S.rows p hp).md hm, S.nm, fun b hb => ⟨by have := (S.nl b hb).1; have := hm.size; omega, (S.nl b hb).2⟩⟩
/-- Another row's blocks change: those of another kind than the book's. -/
theorem Bkp.mdI {b0 c2 : Nat} {x : Option Addr} {xs : List Int} (S : Bkp L w0 w n m a c l) (o : OwnL w b0 3 1 i1 x c2 xs) (hlo : w0.heap.size ≤ b0) (hm : Md (x.map (·.block)).toList w w') : Bkp L w0 w' n m a c l := by
  have hx : ∀ d ∈ (x.map (·.block)).toList, ∃ A, x = some A ∧ A.block = d := fun d hd => mem_blk hd
  refine ⟨S.blk.md hm (fun hd => ?_), S.md.old hm (fun d hd => ?_), S.nlo, S.mlo, S.map.md hm (fun hd => ?_), S.own.mdD hm (fun A hA hd => ?_), fun p hp => (S.rows p hp).mdD hm (fun A hA hd => ?_), S.nm, fun b hb => ⟨by have := (S.nl b hb).1; have := hm.size; omega, (S.nl b hb).2⟩⟩
  · obtain ⟨A, hA, e⟩ := hx _ hd; exact own_nblk o S.blk (by decide) A hA e
  · obtain ⟨A, hA, e⟩ := hx _ hd; have := (o.lt hA).1; omega
  · obtain ⟨A, hA, e⟩ := hx _ hd; exact own_nmap o S.map A hA e
  · obtain ⟨B, hB, e⟩ := hx _ hd; exact own_apt2 o S.own (by decide) B A hB hA e
  · obtain ⟨B, hB, e⟩ := hx _ hd; exact own_apt2 o (S.rows p hp) (by decide) B A hB hA e
end
end Fk
set_option linter.unusedVariables false
set_option linter.unusedSimpArgs false
set_option maxRecDepth 100000
set_option maxHeartbeats 2000000
namespace Fk
open Go Go.Proofs Go.RowKit
structure Ls (L : List Nat) (wb w : World) (n m : Nat) (a : Option Addr) (c : Nat) (B : List Rb) (na : Option Addr) (nc : Nat) (nx : List Int) (ta : Option Addr) (tc : Nat) (tg : List Int) : Prop where
  S : Bkp L wb w n m a c B
  nx : OwnL w wb.heap.size 3 1 i1 na nc nx
  tg : OwnL w wb.heap.size 3 1 i1 ta tc tg
  ap : Apt na ta
  l1 : ∀ b ∈ L, ∀ A, na = some A → A.block ≠ b
  l2 : ∀ b ∈ L, ∀ A, ta = some A → A.block ≠ b
  l3 : ∀ p ∈ B, ∀ A, p.a = some A → ∀ b ∈ L, A.block ≠ b
section
variable {L : List Nat} {wb w w' : World} {n m c nc tc : Nat} {a na ta : Option Addr} {B : List Rb} {nx tg : List Int}
theorem Ls.md0 (h : Ls L wb w n m a c B na nc nx ta tc tg) (hm : Md [] w w') : Ls L wb w' n m a c B na nc nx ta tc tg :=
  ⟨h.S.md0 hm, h.nx.md hm, h.tg.md hm, h.ap, h.l1, h.l2, h.l3⟩
theorem Ls.lt (h : Ls L wb w n m a c B na nc nx ta tc tg) : ∀ b ∈ L, b < w.heap.size := fun b hb => (h.S.nl b hb).1
/-- One of the names' blocks changes. -/
theorem Ls.mdL {n0 : Nat} (h : Ls L wb w n m a c B na nc nx ta tc tg) (h0 : n0 ∈ L) (hlo : wb.heap.size ≤ n0) (hm : Md [n0] w w') : Ls L wb w' n m a c B na nc nx ta tc tg := by
  obtain ⟨q1, q2, q3, q4⟩ := h.S.nl n0 h0
  refine ⟨⟨h.S.blk.md hm (by simp; exact fun e => q2 e.symm), h.S.md.old hm (by simp; exact hlo), h.S.nlo, h.S.mlo, h.S.map.md hm (by simp; exact fun e => q3 e.symm), h.S.own.mdD hm (fun A hA => by simp; exact q4 A hA), fun p hp => (h.S.rows p hp).mdD hm (fun A hA => by simp; exact h.l3 p hp A hA n0 h0), h.S.nm, fun b hb => ⟨by have := h.lt b hb; have := hm.size; omega, (h.S.nl b hb).2⟩⟩, h.nx.mdD hm (fun A hA => by simp; exact h.l1 n0 h0 A hA), h.tg.mdD hm (fun A hA => by simp; exact h.l2 n0 h0 A hA), h.ap, h.l1, h.l2, h.l3⟩
theorem Ls.addT {n0 : Nat} (h : Ls L wb w n m a c B na nc nx ta tc tg) (h0 : n0 ∈ L) (hlo : wb.heap.size ≤ n0) (x : Int) (hl : tg.length < 2 ^ 30) {K : Option Addr → Nat → Nat → World → Prop}
    (kk : ∀ ta' tc' w', Ls L wb w' n m a c B na nc nx ta' tc' (tg ++ [x]) → K ta' (tg ++ [x]).length tc' w') :
    Nw (.cells #[.int .i64 x] 3) w fun b w' => RunW Try.prog L (Builtin.append_ #[52, 52] 52 #[.slice ta tg.length tc, .slice (some (Addr.mk b 0 none)) 1 1]) (fun v w'' => opL v fun a' n' c' => Up [n0] L w'' fun w3 => K a' n' c' w3) w' := by
  refine app_one rowT52 enci1 x rfl h.tg h.S.md.size h.lt h.l2 (by simp [maxLen]; omega) (by omega) fun a' c' w' o hm hA => opL_in fun w3 h3 _ => kk a' c' w3 ?_
  have S' := h.S.mdI h.tg (Nat.le_refl _) hm
  obtain ⟨t', ap'⟩ := own_keep h.nx hm hA h.ap.symm
  exact Ls.mdL ⟨S', t', o, ap'.symm, h.l1, fun b hb A hA' => by
    rcases hA A hA' with h1 | h1
    · exact h.l2 b hb A h1
    · have := h.lt b hb; omega, h.l3⟩ h0 hlo h3
end
end Fk
set_option linter.unusedVariables false
set_option linter.unusedSimpArgs false
set_option maxRecDepth 100000
set_option maxHeartbeats 4000000
namespace Fk
open Go Go.Proofs Go.RowKit
section
variable {L : List Nat} {wb w w' : World} {n m c nc tc : Nat} {a na ta : Option Addr} {B : List Rb} {nx tg : List Int}
theorem Ls.name {n0 : Nat} (h : Ls L wb w n m a c B na nc nx ta tc tg) (h0 : w.heap.size ≤ n0) (hm : Md [] w w') (hL : ∀ b ∈ n0 :: L, b < w'.heap.size) : Ls (n0 :: L) wb w' n m a c B na nc nx ta tc tg := by
  have h' := h.md0 hm
  have S := h'.S
  refine ⟨⟨S.blk, S.md, S.nlo, S.mlo, S.map, S.own, S.rows, S.nm, fun b hb => ?_⟩, h'.nx, h'.tg, h'.ap, fun b hb A hA => ?_, fun b hb A hA => ?_, fun p hp A hA b hb => ?_⟩
  · refine ⟨hL b hb, ?_⟩
    rcases List.mem_cons.1 hb with rfl | hb
    · exact ⟨by have := h.S.blk.lt; omega, by have := h.S.map.lt; omega, fun A hA => by have := (h.S.own.lt hA).2; omega⟩
    · exact (h.S.nl b hb).2
  · rcases List.mem_cons.1 hb with rfl | hb
    · have := (h.nx.lt hA).2; omega
    · exact h.l1 b hb A hA
  · rcases List.mem_cons.1 hb with rfl | hb
    · have := (h.tg.lt hA).2; omega
    · exact h.l2 b hb A hA
  · rcases List.mem_cons.1 hb with rfl | hb
    · have := ((h.S.rows p hp).lt hA).2; omega
    · exact h.l3 p hp A hA b hb
theorem Ls.lit (h : Ls L wb w n m a c B none 0 [] none 0 []) (x : Int) : Ls L wb (w.alloc (.cells #[.int .i64 x] 3)) n m a c B none 0 [] (some ⟨w.heap.size, 0, none⟩) 1 [x] := by
  have ma : Md [] w (w.alloc (.cells #[.int .i64 x] 3)) := Md.alloc w _
  have h' := h.md0 ma
  refine ⟨h'.S, h'.nx, OwnL.lit (P := Try.prog) (base := wb.heap.size) enci1 w 3 [x] #[.int .i64 x] h.S.md.size (by simp [maxLen]) rfl, (fun A B hA => by cases hA), h'.l1, fun b hb A hA => ?_, h'.l3⟩
  injection hA with hA; subst hA
  have := h.lt b hb
  simp; omega
end
end Fk
set_option linter.unusedVariables false
set_option linter.unusedSimpArgs false
set_option maxRecDepth 100000
set_option maxHeartbeats 4000000
namespace Fk
open Go Go.Proofs Go.RowKit
def dNext (dm : Int) (nx : List Int) (at' x : Int) : Int := if 0 ≤ at' then nx.getD (at' * dm + x).toNat (-1) else at'
structure DrOk (dm : Int) (nx tg : List Int) : Prop where
  m1 : 1 ≤ dm
  m2 : dm ≤ 256
  t1 : 1 ≤ tg.length
  t2 : tg.length ≤ 5000
  nl : (nx.length : Int) = dm * tg.length
  tag : ∀ x ∈ tg, -1 ≤ x ∧ x < 200
  nxt : ∀ x ∈ nx, -1 ≤ x ∧ x < tg.length
theorem drOk {dm : Int} {nx tg : List Int} (h : dRight dm nx tg = true) : DrOk dm nx tg := by
  simp only [dRight, Bool.and_eq_true, decide_eq_true_eq, List.all_eq_true] at h
  exact ⟨h.1.1.1, h.1.1.2.1, h.1.1.2.2.1, h.1.1.2.2.2.1, h.1.1.2.2.2.2, h.1.2, h.2⟩
theorem DrOk.ix {dm : Int} {nx tg : List Int} (h : DrOk dm nx tg) {a x : Int} (h1 : 0 ≤ a) (h2 : a < tg.length) (h3 : 0 ≤ x) (h4 : x < dm) : 0 ≤ a * dm + x ∧ a * dm + x < nx.length ∧ a * dm ≤ 2000000 ∧ 0 ≤ a * dm := by
  have hm1 := h.m1
  have hm2 := h.m2
  have ht2 := h.t2
  have e1 : 0 ≤ a * dm := Int.mul_nonneg h1 (by omega)
  have e2 : (a + 1) * dm ≤ tg.length * dm := Int.mul_le_mul_of_nonneg_right (by omega) (by omega)
  have e3 : (a + 1) * dm = a * dm + dm := by rw [Int.add_mul, Int.one_mul]
  have e4 : (tg.length : Int) * dm = dm * tg.length := Int.mul_comm _ _
  have e5 : dm * (tg.length : Int) ≤ 256 * 5000 := Int.mul_le_mul hm2 (by omega) (by omega) (by omega)
  have := h.nl
  omega
theorem DrOk.next {dm : Int} {nx tg : List Int} (h : DrOk dm nx tg) {a x : Int} (h2 : a < tg.length) (h3 : 0 ≤ x) (h4 : x < dm) : dNext dm nx a x < tg.length := by
  unfold dNext
  split
  · rename_i h1
    obtain ⟨q1, q2, _⟩ := h.ix h1 h2 h3 h4
    have hlt : (a * dm + x).toNat < nx.length := by omega
    rw [List.getD_eq_getElem?_getD, List.getElem?_eq_getElem hlt]
    exact (h.nxt _ (List.getElem_mem hlt)).2
  · exact h2
end Fk
set_option linter.unusedVariables false
set_option maxRecDepth 100000
namespace Fk
/-- States 0 to n, of which the last one stands for nowhere; classes 0 to m - 1. -/
structure Mch where
  n : Nat
  m : Nat
  go : Nat → Nat → Nat
  tag : Nat → Int
structure Mch.ok (M : Mch) : Prop where
  st : ∀ s, s ≤ M.n → ∀ k, k < M.m → M.go s k ≤ M.n
  no : ∀ k, k < M.m → M.go M.n k = M.n
def Mch.run (M : Mch) (ks : List Nat) (s : Nat) : Nat := ks.foldl M.go s
def Mch.alike (M : Mch) (x y : Nat) : Prop := ∀ ks : List Nat, (∀ k ∈ ks, k < M.m) → M.tag (M.run ks x) = M.tag (M.run ks y)
section
variable {M : Mch}
theorem alike_refl (x : Nat) : M.alike x x := fun _ _ => rfl
theorem alike_symm {x y : Nat} (h : M.alike x y) : M.alike y x := fun ks hk => (h ks hk).symm
theorem alike_trans {x y z : Nat} (h : M.alike x y) (h2 : M.alike y z) : M.alike x z := fun ks hk => (h ks hk).trans (h2 ks hk)
theorem alike_tag {x y : Nat} (h : M.alike x y) : M.tag x = M.tag y := h [] (by simp)
theorem alike_go {x y k : Nat} (h : M.alike x y) (hk : k < M.m) : M.alike (M.go x k) (M.go y k) := fun ks hks =>
  h (k :: ks) (fun j hj => by
    rcases List.mem_cons.1 hj with rfl | hj
    · exact hk
    · exact hks j hj)
theorem alike_of {R : Nat → Nat → Prop} (h1 : ∀ x y, R x y → M.tag x = M.tag y) (h2 : ∀ x y k, R x y → k < M.m → R (M.go x k) (M.go y k)) : ∀ x y, R x y → M.alike x y := by
  intro x y h ks hks
  induction ks generalizing x y with
  | nil => exact h1 x y h
  | cons k ks ih => exact ih _ _ (h2 x y k h (hks k (by simp))) fun j hj => hks j (by simp [hj])
/-- What is so of the groups: 'g' are there, 'at' has each state's; 'td' are to be held; 'ex' may be parted yet. -/
structure HI (M : Mch) (g : Nat) (at' : Nat → Nat) (td : Nat → Nat → Prop) (ex : Nat → Nat → Nat → Prop) : Prop where
  lt : ∀ s, s ≤ M.n → at' s < g
  al : ∀ x y, x ≤ M.n → y ≤ M.n → M.alike x y → at' x = at' y
  tg : ∀ x y, x ≤ M.n → y ≤ M.n → at' x = at' y → M.tag x = M.tag y
  pend : ∀ x y, x ≤ M.n → y ≤ M.n → ∀ j, j < M.m → at' x = at' y → at' (M.go x j) ≠ at' (M.go y j) → td (at' (M.go x j)) j ∨ td (at' (M.go y j)) j ∨ ex x y j
theorem HI.weak {g : Nat} {at' : Nat → Nat} {td : Nat → Nat → Prop} {ex ex' : Nat → Nat → Nat → Prop} (h : HI M g at' td ex) (hx : ∀ x y j, x ≤ M.n → y ≤ M.n → at' x = at' y → ex x y j → ex' x y j) : HI M g at' td ex' :=
  ⟨h.lt, h.al, h.tg, fun x y hx1 hy1 j hj h1 h2 => by
    rcases h.pend x y hx1 hy1 j hj h1 h2 with h3 | h3 | h3
    · exact .inl h3
    · exact .inr (.inl h3)
    · exact .inr (.inr (hx x y j hx1 hy1 h1 h3))⟩
/-- Groups of a tag each, all of them to be held. -/
theorem HI.start (hM : M.ok) {g : Nat} {at' : Nat → Nat} {td : Nat → Nat → Prop} (h1 : ∀ s, s ≤ M.n → at' s < g) (h2 : ∀ x y, x ≤ M.n → y ≤ M.n → (at' x = at' y ↔ M.tag x = M.tag y)) (h3 : ∀ a j, a < g → j < M.m → td a j) : HI M g at' td fun _ _ _ => False :=
  ⟨h1, fun x y hx hy h => (h2 x y hx hy).2 (alike_tag h), fun x y hx hy h => (h2 x y hx hy).1 h, fun x y hx hy j hj _ _ => .inl (h3 _ _ (h1 _ (hM.st x hx j hj)) hj)⟩
/-- What may be parted yet, while the group 'S' is held by the class 'k': groups in 'U'. -/
def Exc (M : Mch) (at' : Nat → Nat) (k : Nat) (S U : Nat → Prop) (x y j : Nat) : Prop := j = k ∧ ¬ (S (M.go x k) ↔ S (M.go y k)) ∧ U (at' x)
/-- One is taken off. -/
theorem HI.pop {g : Nat} {at' : Nat → Nat} {td : Nat → Nat → Prop} (h : HI M g at' td fun _ _ _ => False) (b k : Nat) : HI M g at' (fun a j => td a j ∧ ¬ (a = b ∧ j = k)) (Exc M at' k (fun s => at' s = b) fun _ => True) :=
  ⟨h.lt, h.al, h.tg, fun x y hx hy j hj h1 h2 => by
    by_cases c1 : at' (M.go x j) = b ∧ j = k
    · refine .inr (.inr ⟨c1.2, ?_, trivial⟩)
      have e := c1.2
      subst e
      intro hh
      exact h2 (c1.1.trans (hh.1 c1.1).symm)
    · by_cases c2 : at' (M.go y j) = b ∧ j = k
      · refine .inr (.inr ⟨c2.2, ?_, trivial⟩)
        have e := c2.2
        subst e
        intro hh
        exact h2 ((hh.2 c2.1).trans c2.1.symm)
      · rcases h.pend x y hx hy j hj h1 h2 with h3 | h3 | h3
        · exact .inl ⟨h3, c1⟩
        · exact .inr (.inl ⟨h3, c2⟩)
        · exact h3.elim⟩
/-- A group of which all states come into 'S', or none, isn't parted. -/
theorem HI.skip {g : Nat} {at' : Nat → Nat} {td : Nat → Nat → Prop} {k : Nat} {S U : Nat → Prop} (h : HI M g at' td (Exc M at' k S U)) (b : Nat) (hb : ∀ x y, x ≤ M.n → y ≤ M.n → at' x = b → at' y = b → (S (M.go x k) ↔ S (M.go y k))) : HI M g at' td (Exc M at' k S fun a => U a ∧ a ≠ b) :=
  h.weak fun x y j hx hy he ⟨h1, h2, h3⟩ => ⟨h1, h2, h3, fun hh => h2 (hb x y hx hy hh (he ▸ hh))⟩
/-- A group is parted: those that come into 'S' stay, the others are a new one. -/
theorem HI.split (hM : M.ok) {g : Nat} {at' at2 : Nat → Nat} {td td2 : Nat → Nat → Prop} {k : Nat} {S U : Nat → Prop} (h : HI M g at' td (Exc M at' k S U)) (hk : k < M.m) (b : Nat) (hS : ∀ u v, u ≤ M.n → v ≤ M.n → M.alike u v → (S u ↔ S v)) (hU : ∀ a, U a → a < g)
    (ha1 : ∀ s, s ≤ M.n → at' s = b → ¬ S (M.go s k) → at2 s = g) (ha2 : ∀ s, s ≤ M.n → ¬ (at' s = b ∧ ¬ S (M.go s k)) → at2 s = at' s)
    (ht1 : ∀ a j, td a j → td2 a j) (ht2 : ∀ j, j < M.m → td b j → td2 g j) (ht3 : ∀ j, j < M.m → td2 b j ∨ td2 g j) : HI M (g + 1) at2 td2 (Exc M at2 k S fun a => U a ∧ a ≠ b) := by
  have cl : ∀ s, s ≤ M.n → (at' s = b ∧ ¬ S (M.go s k) ∧ at2 s = g) ∨ (¬ (at' s = b ∧ ¬ S (M.go s k)) ∧ at2 s = at' s) := fun s hs => by
    by_cases c : at' s = b ∧ ¬ S (M.go s k)
    · exact .inl ⟨c.1, c.2, ha1 s hs c.1 c.2⟩
    · exact .inr ⟨c, ha2 s hs c⟩
  -- from the new groups to the old ones
  have down : ∀ x y, x ≤ M.n → y ≤ M.n → at2 x = at2 y → at' x = at' y := fun x y hx hy he => by
    rcases cl x hx with ⟨a1, a2, a3⟩ | ⟨a1, a2⟩ <;> rcases cl y hy with ⟨b1, b2, b3⟩ | ⟨b1, b2⟩
    · rw [a1, b1]
    · have := h.lt y hy; omega
    · have := h.lt x hx; omega
    · rw [← a2, ← b2]; exact he
  refine ⟨fun s hs => ?_, fun x y hx hy ha => ?_, fun x y hx hy he => h.tg x y hx hy (down x y hx hy he), fun x y hx hy j hj h1 h2 => ?_⟩
  · rcases cl s hs with ⟨_, _, a3⟩ | ⟨_, a2⟩
    · omega
    · have := h.lt s hs; omega
  · have e := h.al x y hx hy ha
    have hs := hS _ _ (hM.st x hx k hk) (hM.st y hy k hk) (alike_go ha hk)
    rcases cl x hx with ⟨a1, a2, a3⟩ | ⟨a1, a2⟩ <;> rcases cl y hy with ⟨b1, b2, b3⟩ | ⟨b1, b2⟩
    · rw [a3, b3]
    · exact absurd ⟨by rw [← e]; exact a1, fun hh => a2 (hs.2 hh)⟩ b1
    · exact absurd ⟨by rw [e]; exact b1, fun hh => b2 (hs.1 hh)⟩ a1
    · rw [a2, b2, e]
  · have e := down x y hx hy h1
    have gx := hM.st x hx j hj
    have gy := hM.st y hy j hj
    by_cases c : at' (M.go x j) = at' (M.go y j)
    · -- these two have just been parted
      rcases cl _ gx with ⟨a1, a2, a3⟩ | ⟨a1, a2⟩ <;> rcases cl _ gy with ⟨b1, b2, b3⟩ | ⟨b1, b2⟩
      · exact absurd (a3.trans b3.symm) h2
      · rw [a3, b2, ← c, a1]
        rcases ht3 j hj with h3 | h3
        · exact .inr (.inl h3)
        · exact .inl h3
      · rw [b3, a2, c, b1]
        rcases ht3 j hj with h3 | h3
        · exact .inl h3
        · exact .inr (.inl h3)
      · exact absurd (by rw [a2, b2, c]) h2
    · have up : ∀ s, s ≤ M.n → td (at' s) j → td2 (at2 s) j := fun s hs ht => by
        rcases cl s hs with ⟨a1, a2, a3⟩ | ⟨a1, a2⟩
        · rw [a3]; rw [a1] at ht; exact ht2 j hj ht
        · rw [a2]; exact ht1 _ _ ht
      rcases h.pend x y hx hy j hj e c with h3 | h3 | ⟨h3, h4, h5⟩
      · exact .inl (up _ gx h3)
      · exact .inr (.inl (up _ gy h3))
      · subst h3
        refine .inr (.inr ⟨rfl, h4, ?_⟩)
        -- x and y are of one new group: were it of the parted one, they would come both into 'S', or neither
        have hb : at' x ≠ b := fun hh => by
          have hy' : at' y = b := by rw [← e]; exact hh
          have hlt := h.lt x hx
          rcases cl x hx with ⟨a1, a2, a3⟩ | ⟨a1, a2⟩ <;> rcases cl y hy with ⟨b1, b2, b3⟩ | ⟨b1, b2⟩
          · exact h4 ⟨fun z => absurd z a2, fun z => absurd z b2⟩
          · have := h.lt y hy; omega
          · omega
          · have s1 : S (M.go x j) := Classical.byContradiction fun z => a1 ⟨hh, z⟩
            have s2 : S (M.go y j) := Classical.byContradiction fun z => b1 ⟨hy', z⟩
            exact h4 ⟨fun _ => s2, fun _ => s1⟩
        have ex : at2 x = at' x := ha2 x hx fun z => hb z.1
        rw [ex]
        exact ⟨h5, hb⟩
/-- All groups have been held. -/
theorem HI.done {g : Nat} {at' : Nat → Nat} {td : Nat → Nat → Prop} {k : Nat} {S U : Nat → Prop} (h : HI M g at' td (Exc M at' k S U)) (hU : ∀ x y, x ≤ M.n → y ≤ M.n → at' x = at' y → U (at' x) → (S (M.go x k) ↔ S (M.go y k))) : HI M g at' td fun _ _ _ => False :=
  h.weak fun x y j hx hy he ⟨_, h2, h3⟩ => h2 (hU x y hx hy he h3)
/-- Nothing is to be held: the groups are those of states that are alike. -/
theorem HI.final (hM : M.ok) {g : Nat} {at' : Nat → Nat} {td : Nat → Nat → Prop} (h : HI M g at' td fun _ _ _ => False) (ht : ∀ a j, j < M.m → ¬ td a j) : ∀ x y, x ≤ M.n → y ≤ M.n → (at' x = at' y ↔ M.alike x y) := fun x y hx hy =>
  ⟨fun he => alike_of (R := fun x y => x ≤ M.n ∧ y ≤ M.n ∧ at' x = at' y) (fun x y h1 => h.tg x y h1.1 h1.2.1 h1.2.2) (fun x y k h1 hk => ⟨hM.st x h1.1 k hk, hM.st y h1.2.1 k hk, Classical.byContradiction fun hn => by
    rcases h.pend x y h1.1 h1.2.1 k hk h1.2.2 hn with h3 | h3 | h3
    · exact ht _ _ hk h3
    · exact ht _ _ hk h3
    · exact h3⟩) x y ⟨hx, hy, he⟩, fun ha => h.al x y hx hy ha⟩
end
end Fk
set_option linter.unusedVariables false
set_option linter.unusedSimpArgs false
set_option linter.unusedSectionVars false
set_option maxRecDepth 100000
set_option maxHeartbeats 2000000
namespace Fk
open Go Go.Proofs Go.RowKit
abbrev HS3 := Option Addr × Nat × Nat
def hE (p : HS3) : List Value := [.slice p.1 p.2.1 p.2.2]
theorem enchE : Enc 1 hE := ⟨fun _ => rfl, by intro x v hv; simp [hE] at hv; rw [hv]; rfl⟩
abbrev tV (p : Int × Int) : Value := .agg #[.int .i64 p.1, .int .i64 p.2]
def tE (p : Int × Int) : List Value := [.int .i64 p.1, .int .i64 p.2]
theorem enctE : Enc 2 tE := ⟨fun _ => rfl, by intro x v hv; simp [tE] at hv; rcases hv with rfl | rfl <;> rfl⟩
theorem rowT242 : RowT Try.prog 242 52 1 24 := RowT.of (by kernel_rfl) (by kernel_rfl) (by kernel_rfl) (by omega)
theorem rowT244 : RowT Try.prog 244 297 2 16 := RowT.of (by kernel_rfl) (by kernel_rfl) (by kernel_rfl) (by omega)
abbrev vI (x : Int) : Value := .int .i64 x
theorem nowI (a b : Int) : Instr.sameNow (.int .i64) (vI a) (vI b) = none ∨ Instr.sameNow (.int .i64) (vI a) (vI b) = some (decide (a = b)) := .inr (by
  show (if IntKind.i64 = IntKind.i64 then some (a == b) else none) = _
  rw [if_pos rfl]
  congr 1)
theorem chkI (em : Bool) (w : World) (k : Int) : (Instr.checkKey em 10000 3 (vI k)).run Try.prog w = .ok () w := by
  have hu : Try.prog.underlying 3 = some (.int .i64) := by kernel_rfl
  show (Instr.checkKey em (9999 + 1) 3 (.int .i64 k)).run Try.prog w = _
  unfold Instr.checkKey
  simp only [Sem.run_bind, run_underlying hu, Result.andThen_ok]
  rfl
theorem mapInt : MapT Try.prog 248 3 3 (.int .i64) vI vI where
  hm := by kernel_rfl
  hk := by kernel_rfl
  eq := fun d w a b hd => EqT.int (by kernel_rfl : Try.prog.underlying 3 = some (.int .i64)) .i64 d w a b (by omega)
  now := nowI
  check := chkI
abbrev vM (r : Nat) : Value := .map (some r)
theorem mapIM : MapT Try.prog 298 3 248 (.int .i64) vI vM where
  hm := by kernel_rfl
  hk := by kernel_rfl
  eq := fun d w a b hd => EqT.int (by kernel_rfl : Try.prog.underlying 3 = some (.int .i64)) .i64 d w a b (by omega)
  now := nowI
  check := chkI
theorem eqT297 : EqT Try.prog 297 tV 2 := by
  intro d w a b hd
  obtain ⟨d, rfl⟩ := Nat.exists_eq_add_of_le' hd
  have hi : (Try.prog.info? 3).isSome = true := by kernel_rfl
  obtain ⟨i, hi⟩ := Option.isSome_iff_exists.1 hi
  have h := run_equal_ints (P := Try.prog) (w := w) (t := 297) (e := 3) (q := .i64) (n := 2) (by kernel_rfl) hi (by kernel_rfl) (by kernel_rfl) .i64 [a.1, a.2] [b.1, b.2] rfl rfl d
  simp only [ints, List.map_cons, List.map_nil] at h
  refine h.trans ?_
  congr 1
  rw [Bool.eq_iff_iff]
  simp [Prod.ext_iff]
theorem chkT (em : Bool) (w : World) (k : Int × Int) : (Instr.checkKey em 10000 297 (tV k)).run Try.prog w = .ok () w := by
  have hu : Try.prog.underlying 297 = some (.array 2 3) := by kernel_rfl
  have hu3 : Try.prog.underlying 3 = some (.int .i64) := by kernel_rfl
  have hs : (Go.sizeOf 3).run Try.prog w = .ok 1 w := by
    have h : (Try.prog.info? 3).map (·.size) = some 1 := by kernel_rfl
    cases hi : Try.prog.info? 3 with
    | none => simp [hi] at h
    | some i =>
      simp [hi] at h
      simp [Go.sizeOf, typeInfo, hi, h]
  have c1 : ∀ n x, (Instr.checkKey em (n + 1) 3 (.int .i64 x)).run Try.prog w = .ok () w := fun n x => by simp [Instr.checkKey, run_underlying hu3, Result.andThen]
  have p1 : (part 3 #[Value.int .i64 k.1, .int .i64 k.2] 0).run Try.prog w = .ok (.int .i64 k.1) w := part_cell hu3 (by simp [isAggT, hu3]) rfl
  have p2 : (part 3 #[Value.int .i64 k.1, .int .i64 k.2] 1).run Try.prog w = .ok (.int .i64 k.2) w := part_cell hu3 (by simp [isAggT, hu3]) rfl
  show (Instr.checkKey em (9999 + 1) 297 (tV k)).run Try.prog w = .ok () w
  unfold Instr.checkKey
  simp only [Sem.run_bind, run_underlying hu, Result.andThen_ok]
  have c1' := c1 9998
  simp [Std.Legacy.Range.forIn_eq_forIn_range', List.range', hs, p1, p2, Result.andThen, c1']
theorem mapTI : MapT Try.prog 245 297 3 (.array 2 3) tV vI where
  hm := by kernel_rfl
  hk := by kernel_rfl
  eq := fun d w a b hd => eqT297 d w a b (by omega)
  now := fun a b => .inl rfl
  check := fun em w k => chkT em w k
section
variable {K V : Type} [DecidableEq K] {P : Program} {mt kt et : TypeId} {d : TypeDesc} {kv : K → Value} {vv : V → Value}
theorem MapT.lookup0 (T : MapT P mt kt et d kv vv) {w : World} {r : Nat} {l : List (K × V)} (h : MapAt w r kv vv l) (k : K) (z : Value) (hz : (zeroValue et).run P w = .ok z w) :
    (Instr.lookup mt (.map (some r)) (kv k) false).run P w = .ok (((findI k l 0).map fun p => vv p.2).getD z) w := by
  obtain ⟨es, clock, hb, he⟩ := h
  have hf := T.find w k es.toList l he
  cases hfi : findI k l 0 with
  | none => simp [Instr.lookup, run_underlying T.hm, MapKept.run_getObj_map hb, T.check, hf, hfi, hz, Result.andThen]
  | some p => simp [Instr.lookup, run_underlying T.hm, MapKept.run_getObj_map hb, T.check, hf, hfi, hz, Result.andThen]
theorem MapT.del (T : MapT P mt kt et d kv vv) {w : World} {r ty : Nat} {l : List (K × V)} (h : MapAt w r kv vv l) (k : K) {i : Nat} {v : V} (hf : findI k l 0 = some (i, v)) :
    ∃ w', (Builtin.delete_ #[mt, kt] ty #[.map (some r), kv k]).run P w = .ok (.tuple #[]) w' ∧ MapAt w' r kv vv (l.eraseIdx i) ∧ Md [r] w w' := by
  obtain ⟨es, clock, hb, he⟩ := h
  have hf' := T.find w k es.toList l he
  rw [hf] at hf'
  refine ⟨{ w with heap := w.heap.setIfInBounds r (.map (es.eraseIdxIfInBounds i) clock) }, ?_, ⟨_, _, (MapKept.heap_set hb).1, ?_⟩, Md_set _⟩
  · simp [Builtin.delete_, run_underlying T.hm, MapKept.run_getObj_map hb, T.check, hf', MapKept.run_setObj_map _ hb, Result.andThen]
  · rw [Array.toList_eraseIdxIfInBounds, List.eraseIdx_eq_take_drop_succ, List.eraseIdx_eq_take_drop_succ, List.map_append, List.map_append, List.map_take, List.map_drop, List.map_take, List.map_drop, he]
theorem findI_at {k : K} : ∀ {l : List (K × V)} {j i : Nat} {v : V}, findI k l j = some (i, v) → j ≤ i ∧ l[i - j]? = some (k, v)
  | [], j, i, v, h => by cases h
  | p :: l, j, i, v, h => by
    simp only [findI] at h
    split at h
    · rename_i hk
      injection h with h
      injection h with h1 h2
      subst h1; subst h2
      refine ⟨Nat.le_refl _, ?_⟩
      rw [Nat.sub_self, hk]; rfl
    · obtain ⟨h1, h2⟩ := findI_at h
      refine ⟨by omega, ?_⟩
      rw [show i - j = (i - (j + 1)) + 1 by omega, List.getElem?_cons_succ]
      exact h2
theorem findI_key {k : K} : ∀ {l : List (K × V)} {j : Nat}, (findI k l j).isSome = true ↔ k ∈ l.map (·.1)
  | [], j => by simp [findI]
  | p :: l, j => by
    simp only [findI, List.map_cons, List.mem_cons]
    by_cases hk : k = p.1
    · simp [hk]
    · rw [if_neg hk, findI_key]; simp [hk]
theorem findI_val {k : K} {l : List (K × V)} {j : Nat} {p : Nat × V} (h : findI k l j = some p) : (k, p.2) ∈ l := List.mem_of_getElem? (findI_at (i := p.1) (v := p.2) h).2
theorem findI_none {k : K} {l : List (K × V)} {j : Nat} (h : k ∉ l.map (·.1)) : findI k l j = none := by
  cases hf : findI k l j with
  | none => rfl
  | some p => exact absurd (findI_key.1 (by rw [hf]; rfl)) h
end
theorem eqNilM (a : Option Nat) (w : World) (o1 o2 : Operand) (t k e : TypeId) (ht : Try.prog.underlying t = some (.map k e)) (hg : Try.prog.eqGuardType Try.prog.depth t = false) :
    (eqS .eql t o1 o2 (.map a) (.map none)).run Try.prog w = .ok (.bool a.isNone) w := by
  have h : ∀ d, (Op.equalIn (d + 1) t (.map a) (.map none)).run Try.prog w = .ok a.isNone w := by
    intro d
    cases a <;> simp [Op.equalIn, run_underlying ht]
  have h := h 9999
  unfold eqS eqGuard binOp Op.equal
  simp only [Sem.run_bind]
  simp [hg, h, Op.maxDepth]
theorem madeG {α : Type} {t e : TypeId} {enc : α → List Value} {z : Value} {x : α} {bytes : Nat} (ht : Try.prog.underlying t = some (.slice e)) (h4 : (Try.prog.info? e).isSome = true) (hz4 : (Try.prog.info? e).bind (·.zero) = some z)
    (hs4 : (Try.prog.info? e).map (fun i => (i.size, i.bytes)) = some (1, bytes)) (hb : bytes ≤ 24) (hc : z.cells = #[z]) (hx : enc x = [z]) (m : Nat) (w : World) (hm : m < 2 ^ 20) :
    ∃ w', (Instr.makeSlice t (.int .i64 (m : Int)) (.int .i64 (m : Int))).run Try.prog w = .ok (.slice (some ⟨w.heap.size, 0, none⟩) m m) w' ∧ OwnL w' w.heap.size e 1 enc (some ⟨w.heap.size, 0, none⟩) m (List.replicate m x) ∧ Md [] w w' := by
  obtain ⟨i4, hi4⟩ := Option.isSome_iff_exists.1 h4
  rw [hi4] at hz4 hs4
  simp only [Option.bind_some, Option.map_some, Option.some.injEq, Prod.mk.injEq] at hz4 hs4
  have hby : m * i4.bytes ≤ m * 24 := Nat.mul_le_mul_left _ (by rw [hs4.2]; exact hb)
  obtain ⟨w3, hrun, hown, hgr⟩ := run_makeSlice_full (P := Try.prog) w w.heap.size t e i4 z 1 ht hi4 hz4 hs4.1   .i64 .i64 m (by omega) (by rw [Nat.mul_comm]; omega) (by simp [maxLen]; omega) (Nat.le_refl _)
  refine ⟨w3, hrun, ?_, Md_of_grown hgr⟩
  have hmc : (madeCells z.cells (m * 1)).toList = (List.replicate m x).flatMap enc := by
    have : (List.replicate m x).flatMap enc = List.replicate m z := by
      clear hm hby hrun hown
      induction m with
      | zero => rfl
      | succ m ih => rw [List.replicate_succ, List.flatMap_cons, ih, hx]; rfl
    rw [this, Nat.mul_one, hc]
    exact toList_madeCells_one _ m
  unfold OwnL
  rw [← hmc, List.length_replicate]; exact hown
theorem made52 (m : Nat) (w : World) (hm : m < 2 ^ 20) : ∃ w', (Instr.makeSlice 52 (.int .i64 (m : Int)) (.int .i64 (m : Int))).run Try.prog w = .ok (.slice (some ⟨w.heap.size, 0, none⟩) m m) w' ∧ OwnL w' w.heap.size 3 1 i1 (some ⟨w.heap.size, 0, none⟩) m (List.replicate m (0 : Int)) ∧ Md [] w w' :=
  madeG (t := 52) (e := 3) (enc := i1) (x := (0 : Int)) (z := .int .i64 0) (bytes := 8) (by kernel_rfl) (by kernel_rfl) (by kernel_rfl) (by kernel_rfl) (by omega) rfl rfl m w hm
theorem made242 (m : Nat) (w : World) (hm : m < 2 ^ 20) : ∃ w', (Instr.makeSlice 242 (.int .i64 (m : Int)) (.int .i64 (m : Int))).run Try.prog w = .ok (.slice (some ⟨w.heap.size, 0, none⟩) m m) w' ∧ OwnL w' w.heap.size 52 1 hE (some ⟨w.heap.size, 0, none⟩) m (List.replicate m ((none, 0, 0) : HS3)) ∧ Md [] w w' :=
  madeG (t := 242) (e := 52) (enc := hE) (x := ((none, 0, 0) : HS3)) (z := .slice none 0 0) (bytes := 24) (by kernel_rfl) (by kernel_rfl) (by kernel_rfl) (by kernel_rfl) (by omega) rfl rfl m w hm
theorem made243 (m : Nat) (w : World) (hm : m < 2 ^ 20) : ∃ w', (Instr.makeSlice 243 (.int .i64 (m : Int)) (.int .i64 (m : Int))).run Try.prog w = .ok (.slice (some ⟨w.heap.size, 0, none⟩) m m) w' ∧ OwnL w' w.heap.size 242 1 hE (some ⟨w.heap.size, 0, none⟩) m (List.replicate m ((none, 0, 0) : HS3)) ∧ Md [] w w' :=
  madeG (t := 243) (e := 242) (enc := hE) (x := ((none, 0, 0) : HS3)) (z := .slice none 0 0) (bytes := 24) (by kernel_rfl) (by kernel_rfl) (by kernel_rfl) (by kernel_rfl) (by omega) rfl rfl m w hm
theorem slice_hm (w : World) (a : Option Addr) (n c h : Nat) (hc : h ≤ c) (h0 : a = none → h = 0 → True) :
    (Instr.sliceAt 52 (.slice a n c) none (some (.int .i64 (h : Int))) (some (.int .i64 (h : Int)))).run Try.prog w = .ok (.slice a h h) w := by
  have ht : Try.prog.underlying 52 = some (.slice 3) := by kernel_rfl
  have he : Try.prog.elem 52 = 3 := by simp [Program.elem, ht]
  have ht' : Try.prog.underlying 52 = some (.slice (Try.prog.elem 52)) := by rw [he]; exact ht
  have hs : (Go.sizeOf 3).run Try.prog w = .ok 1 w := by
    have h : (Try.prog.info? 3).map (·.size) = some 1 := by kernel_rfl
    cases hi : Try.prog.info? 3 with
    | none => simp [hi] at h
    | some i =>
      simp [hi] at h
      simp [Go.sizeOf, typeInfo, hi, h]
  rw [run_sliceAt_slice w 52 _ _ _ _ ht', run_slice_hm w 52 a n c ht' .i64 .i64 h h (by omega) (by omega) (by omega), he, hs]
  simp only [Result.andThen, sliced, Int.toNat_natCast, Nat.sub_zero, Nat.zero_mul]
  congr 2
  split
  · rfl
  · cases a with
    | none => rfl
    | some A => simp [addr_add0]
theorem slice_lhm (w : World) (A : Addr) (n c l h : Nat) (hl : l < h) (hc : h ≤ c) :
    (Instr.sliceAt 52 (.slice (some A) n c) (some (.int .i64 (l : Int))) (some (.int .i64 (h : Int))) (some (.int .i64 (h : Int)))).run Try.prog w = .ok (.slice (some (A.add l)) (h - l) (h - l)) w := by
  have ht : Try.prog.underlying 52 = some (.slice 3) := by kernel_rfl
  have he : Try.prog.elem 52 = 3 := by simp [Program.elem, ht]
  have ht' : Try.prog.underlying 52 = some (.slice (Try.prog.elem 52)) := by rw [he]; exact ht
  have hs : (Go.sizeOf 3).run Try.prog w = .ok 1 w := by
    have h : (Try.prog.info? 3).map (·.size) = some 1 := by kernel_rfl
    cases hi : Try.prog.info? 3 with
    | none => simp [hi] at h
    | some i =>
      simp [hi] at h
      simp [Go.sizeOf, typeInfo, hi, h]
  rw [run_sliceAt_slice w 52 _ _ _ _ ht', run_slice_lhm w 52 (some A) n c ht' .i64 .i64 .i64 l h h (by omega) (by omega) (by omega) (by omega), he, hs]
  simp only [Result.andThen, sliced, Int.toNat_natCast, Nat.mul_one]
  rw [if_neg (by omega)]
  rfl
end Fk
set_option linter.unusedVariables false
set_option linter.unusedSimpArgs false
set_option linter.unusedSectionVars false
set_option maxRecDepth 100000
set_option maxHeartbeats 2000000
namespace Fk
open Go Go.Proofs Go.RowKit
def blkO (a : Option Addr) : List Nat := (a.map (·.block)).toList
theorem blkO_mem {a : Option Addr} {d : Nat} (h : d ∈ blkO a) : ∃ A, a = some A ∧ A.block = d := mem_blk h
theorem blkO_some {A : Addr} : A.block ∈ blkO (some A) := by simp [blkO]
/-- Nothing but what was there, or what is new. -/
def NewO (w : World) (a a' : Option Addr) : Prop := ∀ A, a' = some A → a = some A ∨ w.heap.size ≤ A.block
theorem NewO.refl (w : World) (a : Option Addr) : NewO w a a := fun A h => .inl h
theorem NewO.trans {w w1 : World} {a b c : Option Addr} (h : NewO w a b) (h2 : NewO w1 b c) (hs : w.heap.size ≤ w1.heap.size) : NewO w a c := fun A hA => by
  rcases h2 A hA with h3 | h3
  · exact h A h3
  · exact .inr (by omega)
theorem Md.frD {F F' : List Nat} {w w1 w2 : World} (h1 : Md F w w1) (h2 : Md F' w1 w2) (hf : ∀ b ∈ F', b ∈ F ∨ w.heap.size ≤ b) : Md F w w2 :=
  ⟨h2.os.trans h1.os, h2.tape.trans h1.tape, h2.output.trans h1.output, Nat.le_trans h1.size h2.size, fun i hi hm =>
    (h2.blk i (Nat.lt_of_lt_of_le hi h1.size) fun hh => by
      rcases hf i hh with h | h
      · exact hm h
      · omega).trans (h1.blk i hi hm)⟩
structure GPS where
  ga : Option Addr
  gc : Nat
  G : List HS3
  aa : Option Addr
  ac : Nat
  at' : List Int
  ta : Option Addr
  tc : Nat
  td : List (Int × Int)
  ml : List ((Int × Int) × Int)
def pL (M : Int) (X Y : Value) (m : Nat) (s : GPS) : List Value := [.int .i64 M, X, Y, .slice s.ga s.G.length s.gc, .slice s.aa s.at'.length s.ac, .slice s.ta s.td.length s.tc, .map (some m)]
def fpP (n m : Nat) (s : GPS) : List Nat := n :: m :: (blkO s.ga ++ blkO s.aa ++ blkO s.ta)
structure PW (gb : Nat) (L : List Nat) (w0 w : World) (n m : Nat) (M : Int) (X Y : Value) (s : GPS) : Prop where
  blk : Blk w n 247 (pL M X Y m s)
  md : Md [] w0 w
  nlo : w0.heap.size ≤ n
  mlo : w0.heap.size ≤ m
  glo : w0.heap.size ≤ gb
  gbs : gb ≤ w.heap.size
  gO : OwnL w gb 52 1 hE s.ga s.gc s.G
  aO : OwnL w w0.heap.size 3 1 i1 s.aa s.ac s.at'
  tO : OwnL w w0.heap.size 297 2 tE s.ta s.tc s.td
  mO : MapAt w m tV vI s.ml
  tk : ∀ x, x ∈ s.ml.map (·.1) ↔ x ∈ s.td
  tv : ∀ p ∈ s.ml, p.2 = 1
  nd : s.td.Nodup
  nk : (s.ml.map (·.1)).Nodup
  nl : ∀ b ∈ L, b < w.heap.size ∧ b ∉ fpP n m s
section
variable {gb : Nat} {L : List Nat} {w0 w w' : World} {n m : Nat} {M : Int} {X Y : Value} {s : GPS}
theorem PW.nm (S : PW gb L w0 w n m M X Y s) : n ≠ m := by
  intro e
  obtain ⟨es, c, h, _⟩ := S.mO
  have := S.blk
  unfold Blk at this
  rw [e, h] at this
  cases this
theorem PW.flo (S : PW gb L w0 w n m M X Y s) : ∀ d ∈ fpP n m s, w0.heap.size ≤ d ∧ d < w.heap.size := by
  intro d hd
  simp only [fpP, List.mem_cons, List.mem_append] at hd
  rcases hd with rfl | rfl | (hd | hd) | hd
  · exact ⟨S.nlo, S.blk.lt⟩
  · exact ⟨S.mlo, S.mO.lt⟩
  · obtain ⟨A, hA, rfl⟩ := blkO_mem hd; have := S.gO.lt hA; have := S.glo; exact ⟨by omega, by omega⟩
  · obtain ⟨A, hA, rfl⟩ := blkO_mem hd; exact S.aO.lt hA
  · obtain ⟨A, hA, rfl⟩ := blkO_mem hd; exact S.tO.lt hA
theorem PW.mdF {D : List Nat} (S : PW gb L w0 w n m M X Y s) (hm : Md D w w') (hD : ∀ d ∈ D, w0.heap.size ≤ d ∧ d ∉ fpP n m s) : PW gb L w0 w' n m M X Y s := by
  have hn : ∀ x, x ∈ fpP n m s → x ∉ D := fun x hx hd => (hD x hd).2 hx
  have f1 : n ∈ fpP n m s := by simp [fpP]
  have f2 : m ∈ fpP n m s := by simp [fpP]
  have f3 : ∀ x ∈ blkO s.ga, x ∈ fpP n m s := fun x hx => by simp [fpP, hx]
  have f4 : ∀ x ∈ blkO s.aa, x ∈ fpP n m s := fun x hx => by simp [fpP, hx]
  have f5 : ∀ x ∈ blkO s.ta, x ∈ fpP n m s := fun x hx => by simp [fpP, hx]
  exact ⟨S.blk.md hm (hn _ f1), S.md.old hm fun d hd => (hD d hd).1, S.nlo, S.mlo, S.glo, Nat.le_trans S.gbs hm.size,
    S.gO.mdD hm (fun A hA => hn _ (f3 _ (by rw [hA]; exact blkO_some))), S.aO.mdD hm (fun A hA => hn _ (f4 _ (by rw [hA]; exact blkO_some))), S.tO.mdD hm (fun A hA => hn _ (f5 _ (by rw [hA]; exact blkO_some))),
    S.mO.md hm (hn _ f2), S.tk, S.tv, S.nd, S.nk, fun b hb => ⟨Nat.lt_of_lt_of_le (S.nl b hb).1 hm.size, (S.nl b hb).2⟩⟩
theorem PW.md0 (S : PW gb L w0 w n m M X Y s) (hm : Md [] w w') : PW gb L w0 w' n m M X Y s := S.mdF hm (by simp)
theorem PW.mdN {D : List Nat} (S : PW gb L w0 w n m M X Y s) (hm : Md D w w') (hD : ∀ d ∈ D, w.heap.size ≤ d) : PW gb L w0 w' n m M X Y s := S.md0 (hm.fresh hD)
theorem PW.withL {L' : List Nat} (S : PW gb L w0 w n m M X Y s) (h : ∀ b ∈ L', b < w.heap.size ∧ b ∉ fpP n m s) : PW gb L' w0 w n m M X Y s :=
  ⟨S.blk, S.md, S.nlo, S.mlo, S.glo, S.gbs, S.gO, S.aO, S.tO, S.mO, S.tk, S.tv, S.nd, S.nk, h⟩
theorem PW.noL (S : PW gb L w0 w n m M X Y s) : PW gb [] w0 w n m M X Y s := S.withL (by simp)
theorem PW.gn (S : PW gb L w0 w n m M X Y s) : n ∉ blkO s.ga := fun h => by obtain ⟨A, hA, e⟩ := blkO_mem h; exact own_nblk S.gO S.blk (by decide) A hA e
theorem PW.an (S : PW gb L w0 w n m M X Y s) : n ∉ blkO s.aa := fun h => by obtain ⟨A, hA, e⟩ := blkO_mem h; exact own_nblk S.aO S.blk (by decide) A hA e
theorem PW.tn (S : PW gb L w0 w n m M X Y s) : n ∉ blkO s.ta := fun h => by obtain ⟨A, hA, e⟩ := blkO_mem h; exact own_nblk S.tO S.blk (by decide) A hA e
theorem PW.gm (S : PW gb L w0 w n m M X Y s) : m ∉ blkO s.ga := fun h => by obtain ⟨A, hA, e⟩ := blkO_mem h; exact own_nmap S.gO S.mO A hA e
theorem PW.am (S : PW gb L w0 w n m M X Y s) : m ∉ blkO s.aa := fun h => by obtain ⟨A, hA, e⟩ := blkO_mem h; exact own_nmap S.aO S.mO A hA e
theorem PW.tm (S : PW gb L w0 w n m M X Y s) : m ∉ blkO s.ta := fun h => by obtain ⟨A, hA, e⟩ := blkO_mem h; exact own_nmap S.tO S.mO A hA e
theorem PW.tg (S : PW gb L w0 w n m M X Y s) : ∀ d ∈ blkO s.ta, d ∉ blkO s.ga := fun d h h2 => by
  obtain ⟨A, hA, e⟩ := blkO_mem h; obtain ⟨B, hB, e2⟩ := blkO_mem h2; exact own_apt2 S.tO S.gO (by decide) A B hA hB (by omega)
theorem PW.ta' (S : PW gb L w0 w n m M X Y s) : ∀ d ∈ blkO s.ta, d ∉ blkO s.aa := fun d h h2 => by
  obtain ⟨A, hA, e⟩ := blkO_mem h; obtain ⟨B, hB, e2⟩ := blkO_mem h2; exact own_apt2 S.tO S.aO (by decide) A B hA hB (by omega)
theorem PW.ag (S : PW gb L w0 w n m M X Y s) : ∀ d ∈ blkO s.aa, d ∉ blkO s.ga := fun d h h2 => by
  obtain ⟨A, hA, e⟩ := blkO_mem h; obtain ⟨B, hB, e2⟩ := blkO_mem h2; exact own_apt2 S.aO S.gO (by decide) A B hA hB (by omega)
theorem nin_of {a : Option Addr} {d : Nat} (h : d ∉ blkO a) : ∀ A, a = some A → A.block ∉ [d] := fun A hA hd => h (by rw [hA]; simp at hd; rw [← hd]; exact blkO_some)
end
def addT (l : List (Int × Int)) (x : Int × Int) : List (Int × Int) := if x ∈ l then l else l ++ [x]
def MkS (p0 : Option Addr) (L : List Nat) (g k : Int) (w17 : World) (K : World → Prop) : Prop :=
  Dr (World.drew w17) fun J18 => NN p0 fun A19 => ∃ v20, (∀ (w21 : World), J18 w21 → Ld w21 (Addr.add A19 (6 : Nat)) fun v23 => v23 = v20) ∧ opM v20 fun a24 =>
  ∃ v25, (∀ (w26 : World), J18 w26 → RunV Try.prog (Instr.lookup (245 : Nat) (Value.map a24) (Value.agg #[Value.int IntKind.i64 g, Value.int IntKind.i64 k]) false) v25 w26) ∧
  opI IntKind.i64 v25 fun x28 => Bd (x28 == (0 : Int)) fun b29 => If b29 (Dr (World.drew (World.drew w17)) fun J30 => NN p0 fun A31 => ∃ v32, (∀ (w33 : World), J30 w33 → Ld w33 (Addr.add A31 (6 : Nat)) fun v35 => v35 = v32) ∧ opM v32 fun a36 =>
  RunU Try.prog L (Instr.mapUpdate (245 : Nat) (Value.map a36) (Value.agg #[Value.int IntKind.i64 g, Value.int IntKind.i64 k]) (Value.int IntKind.i64 (1 : Int))) (fun w37 => J30 w37 ∧
  Dr (World.drew w37) fun J38 => NN p0 fun A39 => ∃ v40, (∀ (w41 : World), J38 w41 → Ld w41 (Addr.add A39 (5 : Nat)) fun v43 => v43 = v40) ∧ opL v40 fun a44 n45 n46 =>
  Nw (Obj.cells #[Value.int IntKind.i64 g, Value.int IntKind.i64 k] (297 : Nat)) (World.drew w37) fun n47 w48 => J38 w48 ∧
  RunW Try.prog L (Builtin.append_ #[(244 : Nat), (244 : Nat)] (244 : Nat) #[Value.slice a44 n45 n46, Value.slice (some (Addr.mk n47 (0 : Nat) none)) (1 : Nat) (1 : Nat)]) (fun v49 w50 =>
  opL v49 fun a51 n52 n53 => J38 w50 ∧ NN p0 fun A54 => ¬Addr.block A54 ∈ L ∧ Wr w50 (Addr.add A54 (5 : Nat)) (1 : Nat) ∧ K (setCells w50 (Addr.add A54 (5 : Nat)) (0 : Nat) [Value.slice a51 n52 n53])) w48) (World.drew (World.drew w17)))
  (K (World.drew w17))
theorem PW.mark1 {gb : Nat} {L : List Nat} {w0 w : World} {n m : Nat} {M : Int} {X Y : Value} {s : GPS} (S : PW gb L w0 w n m M X Y s) (x : Int × Int) (hl : s.td.length < 2 ^ 40) {K : World → Prop}
    (k : ∀ (ta : Option Addr) (tc : Nat) (ml : List ((Int × Int) × Int)) (w' : World), NewO w s.ta ta → PW gb L w0 w' n m M X Y { s with ta := ta, tc := tc, td := addT s.td x, ml := ml } → Md (fpP n m s) w w' → K w') :
    MkS (some ⟨n, 0, none⟩) L x.1 x.2 w K := by
  have hd : Md [] w w.drew := Md_drew w
  have S1 := S.md0 hd
  refine ⟨fun w' => Md [] w.drew w', Md.refl _ _, NN_in ⟨_, fun w' h' => (S1.md0 h').blk.ld' rfl rfl, opM_in ⟨_, fun w' h' => ⟨mapTI.lookup0 (S1.md0 h').mO x (.int .i64 0) (zero3 w')⟩, ?_⟩⟩⟩
  by_cases hx : x ∈ s.td
  · obtain ⟨p, hp⟩ : ∃ p, findI x s.ml 0 = some p := Option.isSome_iff_exists.1 (findI_key.2 ((S.tk x).2 hx))
    have hp1 : p.2 = 1 := S.tv _ (findI_val hp)
    rw [hp]
    refine opI_in (x := p.2) <| Bd_f (by rw [hp1]; rfl) <| If_f ?_
    refine k s.ta s.tc s.ml _ (NewO.refl _ _) ?_ (hd.mono (by simp))
    have e : addT s.td x = s.td := if_pos hx
    rw [e]
    exact S1
  · have hnk : x ∉ s.ml.map (·.1) := fun h => hx ((S.tk x).1 h)
    have hf := findI_none (j := 0) hnk
    rw [hf]
    refine opI_in (x := 0) <| Bd_t rfl <| If_t ?_
    have hd2 : Md [] w w.drew.drew := hd.trans (Md_drew _)
    have S2 := S.md0 hd2
    refine ⟨fun w' => Blk w' n 247 (pL M X Y m s), S2.blk, NN_in ⟨_, fun w' h' => h'.ld' rfl rfl, opM_in ?_⟩⟩
    obtain ⟨w3, hrun, hmap, m3⟩ := mapTI.add S2.mO x (1 : Int) hf
    have hmn := S.nm
    have keep : ∀ b ∈ L, b ∉ fpP n m s := fun b hb => (S.nl b hb).2
    have Lm : ∀ b ∈ L, b ≠ m := fun b hb e => keep b hb (by simp [fpP, e])
    have Ln : ∀ b ∈ L, b ≠ n := fun b hb e => keep b hb (by simp [fpP, e])
    refine RunU_in hrun (fun b hb => m3.blk b (S2.nl b hb).1 (by simpa using Lm b hb)) ?_
    have b3 := S2.blk.md m3 (by simpa using hmn)
    have g3 := S2.gO.mdD m3 (nin_of S.gm)
    have a3 := S2.aO.mdD m3 (nin_of S.am)
    have t3 := S2.tO.mdD m3 (nin_of S.tm)
    have dd : Md [] w3 w3.drew := Md_drew w3
    have b3' := b3.md dd (by simp)
    have m3' : Md [m] w w3.drew := ((hd2.mono (by simp)).trans m3).trans (dd.mono (by simp))
    refine ⟨b3, fun w' => Blk w' n 247 (pL M X Y m s), b3', NN_in ⟨_, fun w' h' => h'.ld' rfl rfl, opL_in ?_⟩⟩
    have hw0 : w0.heap.size ≤ w3.drew.heap.size := Nat.le_trans S.md.size m3'.size
    intro b4 w4 e4 e4'
    subst e4; subst e4'
    have ma : Md [] w3.drew (w3.drew.alloc (.cells #[.int .i64 x.1, .int .i64 x.2] 297)) := Md.alloc _ _
    refine ⟨b3'.md ma (by simp), ?_⟩
    refine app_one rowT244 enctE x rfl (t3.md dd) hw0 (fun b hb => Nat.lt_of_lt_of_le (S.nl b hb).1 m3'.size) (fun b hb A hA e => keep b hb (by
      simp only [fpP, List.mem_cons, List.mem_append]; exact .inr (.inr (.inr (by rw [hA, ← e]; exact blkO_some))))) (by simp [maxLen]; omega) (by omega) (fun a' c' w5 o5 m5 hA => opL_in ?_) _ _ rfl rfl
    have b5 := b3'.md m5 S.tn
    refine ⟨b5, NN_in ⟨fun h => Ln _ h rfl, ?_, ?_⟩⟩
    · rw [Addr.add_lit]; exact b5.wr (by simp [pL])
    · rw [Addr.add_lit]
      have b6 := b5.set (j := 5) (by simp [pL]) (.slice a' (s.td ++ [x]).length c')
      have m6 : Md [n] w5 (setCells w5 ⟨n, 5, none⟩ 0 [.slice a' (s.td ++ [x]).length c']) := Md_setCells _ _ _
      have e : addT s.td x = s.td ++ [x] := if_neg hx
      have newT : NewO w s.ta a' := fun A hA' => (hA A hA').imp id (Nat.le_trans m3'.size)
      have mAll : Md (fpP n m s) w (setCells w5 ⟨n, 5, none⟩ 0 [.slice a' (s.td ++ [x]).length c']) := by
        refine ((m3'.mono ?_).trans (m5.mono ?_)).trans (m6.mono ?_)
        · intro z hz; simp at hz; simp [fpP, hz]
        · intro z hz; simp only [fpP, List.mem_cons, List.mem_append]; exact .inr (.inr (.inr hz))
        · intro z hz; simp at hz; simp [fpP, hz]
      refine k a' c' (s.ml ++ [(x, 1)]) _ newT ?_ mAll
      rw [e]
      have an : ∀ d, d ∉ blkO s.ta → d < w.heap.size → d ∉ blkO a' := fun d h1 h2 h3 => by
        obtain ⟨A, hA', e⟩ := blkO_mem h3
        rcases newT A hA' with h | h
        · exact h1 (by rw [h, ← e]; exact blkO_some)
        · omega
      refine ⟨b6, S.md.old mAll fun d hd => (S.flo d hd).1, S.nlo, S.mlo, S.glo, Nat.le_trans S.gbs mAll.size, ?_, ?_, ?_, ?_, ?_, ?_, ?_, ?_, ?_⟩
      · refine ((g3.md dd).mdD m5 fun A hA' hh => ?_).mdD m6 (nin_of S.gn)
        exact S.tg _ hh (by rw [hA']; exact blkO_some)
      · refine ((a3.md dd).mdD m5 fun A hA' hh => ?_).mdD m6 (nin_of S.an)
        exact S.ta' _ hh (by rw [hA']; exact blkO_some)
      · refine o5.mdD m6 (nin_of (an n S.tn S.blk.lt))
      · refine ((hmap.md dd (by simp)).md m5 S.tm).md m6 (by simpa using Ne.symm hmn)
      · intro y
        simp only [List.map_append, List.map_cons, List.map_nil, List.mem_append, List.mem_singleton]
        rw [S.tk y]
      · intro p hp
        rcases List.mem_append.1 hp with hp | hp
        · exact S.tv p hp
        · simp at hp; rw [hp]
      · rw [List.nodup_append]
        exact ⟨S.nd, by simp, fun a ha b hb e => hx (by simp at hb; rw [← hb, ← e]; exact ha)⟩
      · rw [List.map_append, List.nodup_append]
        exact ⟨S.nk, by simp, fun a ha b hb e => hnk (by simp at hb; rw [← hb, ← e]; exact ha)⟩
      · intro b hb
        obtain ⟨h1, h2⟩ := S.nl b hb
        refine ⟨Nat.lt_of_lt_of_le h1 mAll.size, fun hh => ?_⟩
        simp only [fpP, List.mem_cons, List.mem_append] at hh h2
        rcases hh with hh | hh | hh | hh
        · exact h2 (.inl hh)
        · exact h2 (.inr (.inl hh))
        · exact h2 (.inr (.inr (.inl hh)))
        · exact an b (fun z => h2 (.inr (.inr (.inr z)))) h1 hh
theorem addT_mem {l : List (Int × Int)} {x y : Int × Int} : y ∈ addT l x ↔ y ∈ l ∨ y = x := by
  unfold addT
  split
  · rename_i h; exact ⟨.inl, fun hh => hh.elim id fun e => e ▸ h⟩
  · simp
theorem addT_len (l : List (Int × Int)) (x : Int × Int) : (addT l x).length ≤ l.length + 1 := by
  unfold addT; split <;> simp
theorem f230_ok {gb : Nat} {w0 w : World} {n m : Nat} {M : Int} {X Y : Value} {s : GPS} (S : PW gb [] w0 w n m M X Y s) (g : Int) (hM0 : 0 ≤ M) (hM : M ≤ 256) (hl : s.td.length < 2 ^ 30) :
    Ct Try.prog 230 #[.pointer (some ⟨n, 0, none⟩), .int .i64 g] w fun v w' => (v = .tuple #[] ∧ ∃ ta tc td ml, NewO w s.ta ta ∧ PW gb [] w0 w' n m M X Y { s with ta := ta, tc := tc, td := td, ml := ml } ∧
      (∀ x ∈ s.td, x ∈ td) ∧ (∀ x ∈ td, x ∈ s.td ∨ (x.1 = g ∧ 0 ≤ x.2 ∧ x.2 < M)) ∧ (∀ j, 0 ≤ j → j < M → (g, j) ∈ td) ∧ td.length ≤ s.td.length + M.toNat) ∧ Md (fpP n m s) w w' := by
  apply f230_in
  refine NN_in <| S.blk.ld' rfl <| opI_in ?_
  refine LoopP_in (fun mm us vs w' => ∃ (i : Nat) (ta : Option Addr) (tc : Nat) (td : List (Int × Int)) (ml : List ((Int × Int) × Int)), us = [.int .i64 i] ∧ mm = M.toNat - i ∧ (i : Int) ≤ M ∧ NewO w s.ta ta ∧
    PW gb [] w0 w' n m M X Y { s with ta := ta, tc := tc, td := td, ml := ml } ∧ (∀ x ∈ s.td, x ∈ td) ∧ (∀ x ∈ td, x ∈ s.td ∨ (x.1 = g ∧ 0 ≤ x.2 ∧ x.2 < M)) ∧ (∀ j, 0 ≤ j → j < (i : Int) → (g, j) ∈ td) ∧ td.length ≤ s.td.length + i ∧ Md (fpP n m s) w w') M.toNat
    ⟨0, s.ta, s.tc, s.td, s.ml, rfl, rfl, by omega, NewO.refl _ _, S, fun _ h => h, fun _ h => .inl h, fun j h1 h2 => by omega, by omega, Md.refl _ _⟩ ?_
  rintro mm us vs w7 ⟨i, ta, tc, td, ml, rfl, hmm, hi, hn, S7, h1, h2, h3, h4, m7⟩
  refine opI_in <| Bd_in fun b9 hb9 => If_in (fun hb => ?_) fun hb => ?_
  · have hiM : (i : Int) < M := by rw [hb9] at hb; exact of_decide_eq_true hb
    obtain ⟨J, hJ⟩ : ∃ J : List Value → List Value → World → Prop, J = (fun us vs w' => us = [.int .i64 i] ∧ ∃ (ta' : Option Addr) (tc : Nat) (td' : List (Int × Int)) (ml : List ((Int × Int) × Int)), NewO w s.ta ta' ∧
      PW gb [] w0 w' n m M X Y { s with ta := ta', tc := tc, td := td', ml := ml } ∧ td' = addT td (g, (i : Int)) ∧ Md (fpP n m s) w w') := ⟨_, rfl⟩
    refine Jn_in J ?_ ?_
    · intro us vs w12 hj
      rw [hJ] at hj
      obtain ⟨rfl, ta', tc', td', ml', q1, q2, rfl, q4⟩ := hj
      refine opI_in <| Bd_e (inc_i64 (by omega)) ⟨M.toNat - (i + 1), by omega, i + 1, ta', tc', _, ml', rfl, rfl, by omega, q1, q2, fun x hx => addT_mem.2 (.inl (h1 x hx)), fun x hx => ?_, fun j a b => ?_, ?_, q4⟩
      · rcases addT_mem.1 hx with hx | hx
        · exact h2 x hx
        · subst hx; exact .inr ⟨rfl, by simp, hiM⟩
      · rcases (by omega : j < (i : Int) ∨ j = i) with c | c
        · exact addT_mem.2 (.inl (h3 j a c))
        · exact addT_mem.2 (.inr (by rw [c]))
      · have := addT_len td (g, (i : Int)); omega
    · intro n16 hn16 w17 m17 hL17
      have m17' : Md [] w7 w17 := mdUp hn16 m17
      have S17 := S7.md0 m17'
      have S17' : PW gb [n16] w0 w17 n m M X Y { s with ta := ta, tc := tc, td := td, ml := ml } := S17.withL fun b hb => by
        simp at hb; subst hb
        exact ⟨hL17 _ (by simp), fun hh => by have := (S7.flo _ hh).2; omega⟩
      refine PW.mark1 S17' (g, (i : Int)) (by simp only; omega) (K := fun w' => J [.int .i64 (i : Int)] [] w') fun ta' tc' ml' w' hN' S' hm' => ?_
      rw [hJ]
      refine ⟨rfl, ta', tc', _, ml', hn.trans hN' (Nat.le_trans m7.size m17'.size), S'.noL, rfl, ?_⟩
      refine (m7.trans (m17'.mono (by simp))).frD hm' fun b hb => ?_
      simp only [fpP, List.mem_cons, List.mem_append] at hb ⊢
      rcases hb with hb | hb | hb | hb
      · exact .inl (.inl hb)
      · exact .inl (.inr (.inl hb))
      · exact .inl (.inr (.inr (.inl hb)))
      · obtain ⟨A, hA, e⟩ := blkO_mem hb
        rcases hn A hA with h | h
        · exact .inl (.inr (.inr (.inr (by rw [h, ← e]; exact blkO_some))))
        · exact .inr (by omega)
  · have hiM : (i : Int) = M := by
      have : ¬ (i : Int) < M := by rw [hb9] at hb; exact of_decide_eq_false hb
      omega
    exact ⟨⟨rfl, ta, tc, td, ml, hn, S7, h1, h2, fun j a b => h3 j a (by omega), by omega⟩, m7⟩
end Fk
set_option linter.unusedVariables false
set_option linter.unusedSimpArgs false
set_option linter.unusedSectionVars false
set_option maxRecDepth 100000
set_option maxHeartbeats 1000000
namespace Fk
open Go Go.Proofs Go.RowKit
def atSet (v : Int) (l : List Int) (a : List Int) : List Int := l.foldl (fun a x => a.set x.toNat v) a
theorem atSet_len (v : Int) : ∀ (l a : List Int), (atSet v l a).length = a.length
  | [], a => rfl
  | x :: l, a => by
    show (atSet v l (a.set x.toNat v)).length = _
    rw [atSet_len v l, List.length_set]
theorem atSet_snoc (v : Int) (l : List Int) (x : Int) (a : List Int) : atSet v (l ++ [x]) a = (atSet v l a).set x.toNat v := by unfold atSet; rw [List.foldl_append]; rfl
structure TdS (M b f : Int) (td td' : List (Int × Int)) : Prop where
  sub : ∀ x ∈ td, x ∈ td'
  new : ∀ x ∈ td', x ∈ td ∨ ((x.1 = b ∨ x.1 = f) ∧ 0 ≤ x.2 ∧ x.2 < M)
  two : ∀ j, 0 ≤ j → j < M → (b, j) ∈ td → (f, j) ∈ td'
  one : ∀ j, 0 ≤ j → j < M → (b, j) ∈ td' ∨ (f, j) ∈ td'
  len : td'.length ≤ td.length + M.toNat
section
variable {gb : Nat} {w0 w w' : World} {n m : Nat} {M : Int} {X Y : Value} {s : GPS}
/-- Footprints that only grow by what is new. -/
theorem fpP_new {s' : GPS} (h1 : NewO w s.ga s'.ga) (h2 : NewO w s.aa s'.aa) (h3 : NewO w s.ta s'.ta) : ∀ b ∈ fpP n m s', b ∈ fpP n m s ∨ w.heap.size ≤ b := by
  intro b hb
  simp only [fpP, List.mem_cons, List.mem_append] at hb ⊢
  have go : ∀ {a a' : Option Addr}, NewO w a a' → b ∈ blkO a' → b ∈ blkO a ∨ w.heap.size ≤ b := fun hn hb => by
    obtain ⟨A, hA, e⟩ := blkO_mem hb
    rcases hn A hA with h | h
    · exact .inl (by rw [h, ← e]; exact blkO_some)
    · exact .inr (by omega)
  rcases hb with hb | hb | (hb | hb) | hb
  · exact .inl (.inl hb)
  · exact .inl (.inr (.inl hb))
  · exact (go h1 hb).imp (fun h => .inr (.inr (.inl (.inl h)))) id
  · exact (go h2 hb).imp (fun h => .inr (.inr (.inl (.inr h)))) id
  · exact (go h3 hb).imp (fun h => .inr (.inr (.inr h))) id
/-- A header of a group is written. -/
theorem PW.putG (S : PW gb [] w0 w n m M X Y s) {b : Nat} (hb : b < s.G.length) (x : HS3) :
    Wr w (adAt s.ga (b : Int) 1) 1 ∧ PW gb [] w0 (setCells w (adAt s.ga (b : Int) 1) 0 (hE x)) n m M X Y { s with G := s.G.set b x } ∧ Md (blkO s.ga) w (setCells w (adAt s.ga (b : Int) 1) 0 (hE x)) := by
  obtain ⟨A, hA, h1, h2, h3, h4, h5, h6⟩ := S.gO.put enchE (by omega) hb x
  have hm : Md (blkO s.ga) w (setCells w (adAt s.ga (b : Int) 1) 0 (hE x)) := h6.mono (by intro z hz; simp at hz; rw [hA, hz]; exact blkO_some)
  refine ⟨h4, ⟨?_, S.md.old hm fun d hd => (S.flo d (by simp only [fpP, List.mem_cons, List.mem_append]; exact .inr (.inr (.inl (.inl hd))))).1, S.nlo, S.mlo, S.glo, Nat.le_trans S.gbs hm.size, h5, S.aO.mdD hm fun B hB hh => S.ag _ (by rw [hB]; exact blkO_some) hh,
    S.tO.mdD hm fun B hB hh => S.tg _ (by rw [hB]; exact blkO_some) hh, S.mO.md hm S.gm, S.tk, S.tv, S.nd, S.nk, by simp⟩, hm⟩
  have := S.blk.md hm S.gn
  have e : pL M X Y m { s with G := s.G.set b x } = pL M X Y m s := by simp [pL]
  rw [e]; exact this
/-- A state's group is written. -/
theorem PW.putA (S : PW gb [] w0 w n m M X Y s) {b : Nat} (hb : b < s.at'.length) (x : Int) :
    Wr w (adAt s.aa (b : Int) 1) 1 ∧ PW gb [] w0 (setCells w (adAt s.aa (b : Int) 1) 0 [.int .i64 x]) n m M X Y { s with at' := s.at'.set b x } ∧ Md (blkO s.aa) w (setCells w (adAt s.aa (b : Int) 1) 0 [.int .i64 x]) := by
  obtain ⟨A, hA, h1, h2, h3, h4, h5, h6⟩ := S.aO.put enci1 (by omega) hb x
  have hm : Md (blkO s.aa) w (setCells w (adAt s.aa (b : Int) 1) 0 [.int .i64 x]) := h6.mono (by intro z hz; simp at hz; rw [hA, hz]; exact blkO_some)
  refine ⟨h4, ⟨?_, S.md.old hm fun d hd => (S.flo d (by simp only [fpP, List.mem_cons, List.mem_append]; exact .inr (.inr (.inl (.inr hd))))).1, S.nlo, S.mlo, S.glo, Nat.le_trans S.gbs hm.size, S.gO.mdD hm fun B hB hh => S.ag _ hh (by rw [hB]; exact blkO_some), h5,
    S.tO.mdD hm fun B hB hh => S.ta' _ (by rw [hB]; exact blkO_some) hh, S.mO.md hm S.am, S.tk, S.tv, S.nd, S.nk, by simp⟩, hm⟩
  have := S.blk.md hm S.an
  have e : pL M X Y m { s with at' := s.at'.set b x } = pL M X Y m s := by simp [pL]
  rw [e]; exact this
/-- A group's header is put behind the others. -/
theorem PW.pushG {L : List Nat} (S : PW gb L w0 w n m M X Y s) (x : HS3) (hl : s.G.length < 2 ^ 40) {K : Value → World → Prop}
    (k : ∀ (a' : Option Addr) (c' : Nat) (w5 : World), NewO w s.ga a' → Blk w5 n 247 (pL M X Y m s) → (∀ b ∈ L, b ≠ n) → Wr w5 ((Addr.mk n 0 none).add 3) 1 →
      PW gb L w0 (setCells w5 ((Addr.mk n 0 none).add 3) 0 [.slice a' (s.G ++ [x]).length c']) n m M X Y { s with ga := a', gc := c', G := s.G ++ [x] } → Md (n :: blkO s.ga) w (setCells w5 ((Addr.mk n 0 none).add 3) 0 [.slice a' (s.G ++ [x]).length c']) →
      K (.slice a' (s.G ++ [x]).length c') w5) :
    RunW Try.prog L (Builtin.append_ #[242, 242] 242 #[.slice s.ga s.G.length s.gc, .slice (some (Addr.mk w.heap.size 0 none)) 1 1]) K (w.alloc (.cells #[.slice x.1 x.2.1 x.2.2] 52)) := by
  have keep : ∀ b ∈ L, b ∉ fpP n m s := fun b hb => (S.nl b hb).2
  have Ln : ∀ b ∈ L, b ≠ n := fun b hb e => keep b hb (by simp [fpP, e])
  refine app_one rowT242 enchE x rfl S.gO S.gbs (fun b hb => (S.nl b hb).1) (fun b hb A hA e => keep b hb (by
      simp only [fpP, List.mem_cons, List.mem_append]; exact .inr (.inr (.inl (.inl (by rw [hA, ← e]; exact blkO_some)))))) (by simp [maxLen]; omega) (by omega) (fun a' c' w5 o5 m5 hA => ?_) _ _ rfl rfl
  have b5 := S.blk.md m5 S.gn
  have m6 : Md [n] w5 (setCells w5 ⟨n, 3, none⟩ 0 [.slice a' (s.G ++ [x]).length c']) := Md_setCells _ _ _
  have b6 := b5.set (j := 3) (by simp [pL]) (.slice a' (s.G ++ [x]).length c')
  have mAll : Md (n :: blkO s.ga) w (setCells w5 ⟨n, 3, none⟩ 0 [.slice a' (s.G ++ [x]).length c']) :=
    (m5.mono (fun z hz => List.mem_cons_of_mem _ hz)).trans (m6.mono (by intro z hz; simp at hz; simp [hz]))
  have an : ∀ d, d ∉ blkO s.ga → d < w.heap.size → d ∉ blkO a' := fun d h1 h2 h3 => by
    obtain ⟨A, hA', e⟩ := blkO_mem h3
    rcases hA A hA' with h | h
    · exact h1 (by rw [h, ← e]; exact blkO_some)
    · omega
  rw [show (Addr.mk n 0 none).add 3 = ⟨n, 3, none⟩ by rw [Addr.add_lit]] at k
  refine k a' c' w5 hA b5 Ln (b5.wr (by simp [pL])) ?_ mAll
  refine ⟨b6, S.md.old mAll fun d hd => (S.flo d ?_).1, S.nlo, S.mlo, S.glo, Nat.le_trans S.gbs mAll.size, o5.mdD m6 (nin_of (an n S.gn S.blk.lt)), ?_, ?_, ?_, S.tk, S.tv, S.nd, S.nk, ?_⟩
  · rcases List.mem_cons.1 hd with rfl | hd
    · simp [fpP]
    · simp only [fpP, List.mem_cons, List.mem_append]; exact .inr (.inr (.inl (.inl hd)))
  · exact (S.aO.mdD m5 fun B hB hh => S.ag _ (by rw [hB]; exact blkO_some) hh).mdD m6 (nin_of S.an)
  · exact (S.tO.mdD m5 fun B hB hh => S.tg _ (by rw [hB]; exact blkO_some) hh).mdD m6 (nin_of S.tn)
  · exact (S.mO.md m5 S.gm).md m6 (by simpa using Ne.symm S.nm)
  · intro b hb
    obtain ⟨h1, h2⟩ := S.nl b hb
    refine ⟨Nat.lt_of_lt_of_le h1 mAll.size, fun hh => ?_⟩
    simp only [fpP, List.mem_cons, List.mem_append] at hh h2
    rcases hh with hh | hh | (hh | hh) | hh
    · exact h2 (.inl hh)
    · exact h2 (.inr (.inl hh))
    · exact an b (fun z => h2 (.inr (.inr (.inl (.inl z))))) h1 hh
    · exact h2 (.inr (.inr (.inl (.inr hh))))
    · exact h2 (.inr (.inr (.inr hh)))
end
theorem f231_ok {gb : Nat} {w0 w : World} {n m : Nat} {M : Int} {X Y : Value} {s : GPS} (S : PW gb [] w0 w n m M X Y s) {b h : Nat} {A0 : Addr} {pc : Nat} {r : List Int} (hb : s.G[b]? = some (some A0, r.length, pc)) (hr : RowAt w (some A0) 1 i1 r) (hA0 : A0.block ∉ fpP n m s)
    (hpc : r.length ≤ pc) (h0 : 0 < h) (hh : h < r.length) (hx : ∀ x ∈ r, 0 ≤ x ∧ x < s.at'.length) (hM0 : 0 ≤ M) (hM : M ≤ 256) (hl : s.td.length < 2 ^ 30) (hrl : r.length < 2 ^ 30) (hGl : s.G.length < 2 ^ 30) (hal : s.at'.length < 2 ^ 30) :
    Ct Try.prog 231 #[.pointer (some ⟨n, 0, none⟩), .int .i64 b, .int .i64 h] w fun v w' => (v = .tuple #[] ∧ ∃ ga gc ta tc td ml, NewO w s.ga ga ∧ NewO w s.ta ta ∧
      PW gb [] w0 w' n m M X Y { s with ga := ga, gc := gc, G := s.G.set b (some A0, h, h) ++ [(some (A0.add h), r.length - h, r.length - h)], at' := atSet s.G.length (r.drop h) s.at', ta := ta, tc := tc, td := td, ml := ml } ∧
      TdS M b s.G.length s.td td) ∧ Md (fpP n m s) w w' := by
  obtain ⟨hbl, hbe⟩ := List.getElem?_eq_some_iff.1 hb
  have A0w : A0.block < w.heap.size := hr.lt enci1 (by omega) A0 rfl (by intro e; rw [e] at hh; simp at hh)
  apply f231_in
  refine NN_in <| S.blk.ld' rfl <| opL_in ⟨(S.gO.row enchE).ix hbl, (S.gO.row enchE).ld1 hbl (by rw [hbe]; rfl) <| opL_in <| NN_in <| S.blk.ld' rfl <| opL_in <| Bd_e rfl ?_⟩
  have dw : Md [] w w.drew := Md_drew w
  have S1 := S.md0 dw
  refine ⟨fun w' => Blk w' n 247 (pL M X Y m s), S1.blk, NN_in ⟨_, fun w' _ => ⟨slice_hm w' (some A0) r.length pc h (by omega) (fun _ _ => trivial)⟩, opL_in ⟨_, fun w' h' => h'.ld' rfl rfl, opL_in ?_⟩⟩⟩
  obtain ⟨q1, S2, m2⟩ := S1.putG hbl (some A0, h, h)
  refine ⟨(S.gO.row enchE).ix hbl, by simp, q1, ?_⟩
  generalize hw1 : setCells w.drew (adAt s.ga (b : Int) 1) 0 (hE (some A0, h, h)) = w1 at S2 m2
  have ew1 : setCells w.drew (adAt s.ga (b : Int) 1) 0 [.slice (some A0) h h] = w1 := hw1
  obtain ⟨G1, hG1⟩ : ∃ G1, G1 = s.G.set b (some A0, h, h) := ⟨_, rfl⟩
  have hG1l : G1.length = s.G.length := by rw [hG1]; simp
  rw [← hG1] at S2 ⊢
  have mw1 : Md (fpP n m s) w w1 := (dw.mono (by simp)).trans (m2.mono fun z hz => by simp only [fpP, List.mem_cons, List.mem_append]; exact .inr (.inr (.inl (.inl hz))))
  obtain ⟨J, hJ⟩ : ∃ J : List Value → List Value → World → Prop, J = (fun us vs w' => ∃ (ga : Option Addr) (gc : Nat), NewO w s.ga ga ∧ PW gb [] w0 w' n m M X Y { s with ga := ga, gc := gc, G := G1 ++ [(some (A0.add h), r.length - h, r.length - h)] } ∧ Md (fpP n m s) w w') := ⟨_, rfl⟩
  refine Jn_in J ?_ ?_
  · intro us vs w33 hj
    rw [hJ] at hj
    obtain ⟨ga, gc, nga, S3, m3⟩ := hj
    have hr3 : RowAt w33 (some A0) 1 i1 r := hr.mdD m3 (fun A hA => by injection hA with hA; rw [← hA]; exact hA0)
    have hrd : RowAt w33 (some (A0.add h)) 1 i1 (r.drop h) := by have := hr3.drop h; rw [Nat.mul_one] at this; exact this
    have hGl : (G1 ++ [(some (A0.add h), r.length - h, r.length - h)]).length = s.G.length + 1 := by rw [List.length_append, hG1l]; rfl
    have hget : (G1 ++ [((some (A0.add h), r.length - h, r.length - h) : HS3)])[s.G.length]? = some (some (A0.add h), r.length - h, r.length - h) := by rw [List.getElem?_append_right (by omega), hG1l]; simp
    have hlt : s.G.length < (G1 ++ [((some (A0.add h), r.length - h, r.length - h) : HS3)]).length := by omega
    have hgete := (List.getElem?_eq_some_iff.1 hget).2
    refine NN_in <| S3.blk.ld' rfl <| opL_in ⟨(S3.gO.row enchE).ix hlt, (S3.gO.row enchE).ld1 hlt (by rw [hgete]; rfl) <| opL_in <| Bd_e rfl ?_⟩
    have hdl : (r.drop h).length = r.length - h := by simp
    obtain ⟨G2, hG2⟩ : ∃ G2, G2 = G1 ++ [((some (A0.add h), r.length - h, r.length - h) : HS3)] := ⟨_, rfl⟩
    rw [← hG2] at S3 hGl hget hlt ⊢
    clear hgete
    have rowOf : ∀ {w' : World}, Md (fpP n m s) w w' → RowAt w' (some (A0.add h)) 1 i1 (r.drop h) := fun {w'} hm => by
      have hr3 : RowAt w' (some A0) 1 i1 r := hr.mdD hm (fun A hA => by injection hA with hA; rw [← hA]; exact hA0)
      have := hr3.drop h; rw [Nat.mul_one] at this; exact this
    refine LoopP_in (fun mm us vs w' => ∃ (j : Nat), us = [.int .i64 j] ∧ mm = r.length - h - j ∧ j ≤ r.length - h ∧
      PW gb [] w0 w' n m M X Y { s with ga := ga, gc := gc, G := G2, at' := atSet s.G.length ((r.drop h).take j) s.at' } ∧ Md (fpP n m s) w w') (r.length - h)
      ⟨0, rfl, rfl, by omega, S3, m3⟩ ?_
    clear S3 m3 hr3 hrd
    rintro mm us vs w47 ⟨j, rfl, hmm, hj, S4, m4⟩
    refine opI_in <| Bd_in fun b49 hb49 => If_in (fun hb => ?_) fun hb => ?_
    · have hjl : j < r.length - h := by rw [hb49] at hb; have : (j : Int) < ((r.length - h : Nat) : Int) := of_decide_eq_true hb
                                        omega
      have hrd := rowOf m4
      have hjl' : j < (r.drop h).length := by omega
      rw [← hdl]
      have htk := List.take_succ_eq_append_getElem hjl'
      have hxr := hx _ (List.mem_of_mem_drop (List.getElem_mem hjl'))
      refine ⟨hrd.ix hjl', hrd.ld1 hjl' rfl <| opI_in ?_⟩
      obtain ⟨k, hk⟩ := Int.eq_ofNat_of_zero_le hxr.1
      rw [hk] at hxr htk ⊢
      have hkl : k < (atSet s.G.length ((r.drop h).take j) s.at').length := by rw [atSet_len]; omega
      obtain ⟨p1, S5, m5⟩ := S4.putA hkl (s.G.length : Int)
      refine NN_in <| S4.blk.ld' rfl <| opL_in ⟨(S4.aO.row enci1).ix hkl, by simp, p1, Bd_e (inc_i64 (by omega)) ⟨r.length - h - (j + 1), by omega, j + 1, rfl, by omega, by omega, ?_, ?_⟩⟩
      · rw [htk, atSet_snoc]
        exact S5
      · exact m4.trans (m5.mono fun z hz => by simp only [fpP, List.mem_cons, List.mem_append]; exact .inr (.inr (.inl (.inr hz))))
    · have hjl : j = r.length - h := by
        have : ¬ (j : Int) < ((r.length - h : Nat) : Int) := by rw [hb49] at hb; exact of_decide_eq_false hb
        omega
      rw [List.take_of_length_le (by omega)] at S4
      clear hb hb49 b49
      obtain ⟨at2, hat2⟩ : ∃ at2, at2 = atSet s.G.length (r.drop h) s.at' := ⟨_, rfl⟩
      rw [← hat2] at S4 ⊢
      refine NN_in <| S4.blk.ld' rfl <| opI_in ?_
      refine LoopP_in (fun mm us vs w' => ∃ (i : Nat) (ta : Option Addr) (tc : Nat) (td : List (Int × Int)) (ml : List ((Int × Int) × Int)), us = [.int .i64 i] ∧ mm = M.toNat - i ∧ (i : Int) ≤ M ∧ NewO w s.ta ta ∧
        PW gb [] w0 w' n m M X Y { s with ga := ga, gc := gc, G := G2, at' := at2, ta := ta, tc := tc, td := td, ml := ml } ∧ TdS i b s.G.length s.td td ∧ Md (fpP n m s) w w') M.toNat
        ⟨0, s.ta, s.tc, s.td, s.ml, rfl, rfl, by omega, NewO.refl _ _, S4, ⟨fun _ h => h, fun _ h => .inl h, fun j h1 h2 => by omega, fun j h1 h2 => by omega, by omega⟩, m4⟩ ?_
      clear S4 m4
      rintro mm us vs w64 ⟨i, ta, tc, td, ml, rfl, hmm, hi, hn, S7, T7, m7⟩
      refine opI_in <| Bd_in fun b66 hb66 => If_in (fun hb => ?_) fun hb => ?_
      · have hiM : (i : Int) < M := by rw [hb66] at hb; exact of_decide_eq_true hb
        obtain ⟨J, hJ⟩ : ∃ J : List Value → List Value → World → Prop, J = (fun us vs w' => ∃ less : Int, us = [.int .i64 i, .int .i64 less] ∧ ∃ (ta' : Option Addr) (tc : Nat) (td' : List (Int × Int)) (ml : List ((Int × Int) × Int)), NewO w s.ta ta' ∧
          PW gb [] w0 w' n m M X Y { s with ga := ga, gc := gc, G := G2, at' := at2, ta := ta', tc := tc, td := td', ml := ml } ∧ TdS (i + 1) b s.G.length s.td td' ∧ Md (fpP n m s) w w') := ⟨_, rfl⟩
        refine Jn_in J ?_ ?_
        · intro us vs w69 hj
          rw [hJ] at hj
          obtain ⟨less, rfl, ta', tc', td', ml', q1, q2, q3, q4⟩ := hj
          exact opI_in <| opI_in <| Bd_e (inc_i64 (by omega)) ⟨M.toNat - (i + 1), by omega, i + 1, ta', tc', td', ml', rfl, rfl, by omega, q1, q2, q3, q4⟩
        · obtain ⟨J2, hJ2⟩ : ∃ J2 : List Value → List Value → World → Prop, J2 = (fun us vs w' => ∃ less : Int, us = [.int .i64 less] ∧ (less = b ∨ less = s.G.length) ∧ (((b : Int), (i : Int)) ∈ s.td → less = s.G.length) ∧ w' = w64.drew) := ⟨_, rfl⟩
          refine Jn_in J2 ?_ ?_
          · intro us vs w76 hj
            rw [hJ2] at hj
            obtain ⟨less, rfl, hls, hlm, rfl⟩ := hj
            refine opI_in ?_
            intro n16 hn16 w17 m17 hL17
            have m17' : Md [] w64 w17 := (Md_drew w64).trans (mdUp hn16 m17)
            have S17 := S7.md0 m17'
            have S17' : PW gb [n16] w0 w17 n m M X Y { s with ga := ga, gc := gc, G := G2, at' := at2, ta := ta, tc := tc, td := td, ml := ml } := S17.withL fun z hz => by
              simp at hz; subst hz
              exact ⟨hL17 _ (by simp), fun hh => by have := (S7.flo _ hh).2; have : w64.drew.heap.size = w64.heap.size := rfl
                                                    omega⟩
            refine PW.mark1 S17' (less, (i : Int)) (by have := T7.len; simp only; omega) (K := fun w' => J [.int .i64 (i : Int), .int .i64 less] [] w') fun ta' tc' ml' w' hN' S' hm' => ?_
            rw [hJ]
            refine ⟨less, rfl, ta', tc', _, ml', hn.trans hN' (Nat.le_trans m7.size m17'.size), S'.noL, ⟨fun x hx => addT_mem.2 (.inl (T7.sub x hx)), fun x hx => ?_, fun j a c e => ?_, fun j a c => ?_, ?_⟩, ?_⟩
            · rcases addT_mem.1 hx with hx | hx
              · rcases T7.new x hx with z | z
                · exact .inl z
                · exact .inr ⟨z.1, z.2.1, by have := z.2.2; omega⟩
              · subst hx; exact .inr ⟨hls, (by show (0 : Int) ≤ (i : Int); omega), (by show (i : Int) < (i : Int) + 1; omega)⟩
            · rcases (by omega : j < (i : Int) ∨ j = i) with d | d
              · exact addT_mem.2 (.inl (T7.two j a d e))
              · subst d; exact addT_mem.2 (.inr (by rw [hlm e]))
            · rcases (by omega : j < (i : Int) ∨ j = i) with d | d
              · exact (T7.one j a d).imp (fun z => addT_mem.2 (.inl z)) fun z => addT_mem.2 (.inl z)
              · subst d
                rcases hls with z | z
                · exact .inl (addT_mem.2 (.inr (by rw [z])))
                · exact .inr (addT_mem.2 (.inr (by rw [z])))
            · have h1 := addT_len td (less, (i : Int))
              have h2 := T7.len
              show (addT td (less, (i : Int))).length ≤ _
              omega
            · refine (m7.trans (m17'.mono (by simp))).frD hm' ?_
              exact fpP_new nga (NewO.refl _ _) hn
          · have dw6 : Md [] w64 w64.drew := Md_drew w64
            have hbl2 : b < G2.length := by omega
            have hb2 : G2[b]'hbl2 = (some A0, h, h) := by
              have : G2[b]? = some (some A0, h, h) := by
                rw [hG2, List.getElem?_append_left (by omega), hG1, List.getElem?_set]
                simp [hbl]
              exact (List.getElem?_eq_some_iff.1 this).2
            have hf2 : G2[s.G.length]'hlt = (some (A0.add h), r.length - h, r.length - h) := (List.getElem?_eq_some_iff.1 hget).2
            refine ⟨fun w' => Md [] w64 w', dw6, NN_in ⟨_, fun w' h' => (S7.md0 h').blk.ld' rfl rfl, opM_in ⟨_, fun w' h' => ⟨mapTI.lookup0 (S7.md0 h').mO ((b : Int), (i : Int)) (.int .i64 0) (zero3 w')⟩, ?_⟩⟩⟩
            have hlook : ∃ x : Int, ((findI ((b : Int), (i : Int)) ml 0).map fun p => vI p.2).getD (.int .i64 0) = .int .i64 x ∧ (((b : Int), (i : Int)) ∈ s.td → x ≠ 0) := by
              cases hf : findI ((b : Int), (i : Int)) ml 0 with
              | none =>
                refine ⟨0, rfl, fun hm => ?_⟩
                have := (S7.tk ((b : Int), (i : Int))).2 (T7.sub _ hm)
                have := findI_key (j := 0).2 this
                rw [hf] at this; cases this
              | some p =>
                have := S7.tv _ (findI_val hf)
                exact ⟨p.2, rfl, fun _ => by rw [this]; decide⟩
            obtain ⟨x, hxe, hxm⟩ := hlook
            simp only at hxe ⊢
            rw [hxe]
            refine opI_in <| Bd_in fun b129 hb129 => ⟨fun _ => rfl, Bd_e (y := Addr.mk n 0 none) rfl ⟨_, fun _ w' h' => (S7.md0 h').blk.ld' rfl rfl, opL_in ⟨fun _ => (S7.gO.row enchE).ix hbl2, _, fun _ w' h' => ((S7.md0 h').gO.row enchE).ld1 hbl2 (by rw [hb2]; rfl) rfl, opL_in <| Bd_e rfl ⟨fun _ => rfl, Bd_e (y := Addr.mk n 0 none) rfl ⟨_, fun _ w' h' => (S7.md0 h').blk.ld' rfl rfl, opL_in ⟨fun _ => (S7.gO.row enchE).ix hlt, _, fun _ w' h' => ((S7.md0 h').gO.row enchE).ld1 hlt (by rw [hf2]; rfl) rfl, opL_in <| Bd_e rfl <| Bd_in fun b170 hb170 => Bd_in fun b171 hb171 => If_in (fun hz => ?_) fun hz => ?_⟩⟩⟩⟩⟩⟩
            · rw [hJ2]
              refine ⟨b, rfl, .inl rfl, fun hm => ?_, rfl⟩
              have := hxm hm
              rw [hb171, hb129] at hz
              simp [this] at hz
            · rw [hJ2]
              exact ⟨_, rfl, .inr rfl, fun _ => rfl, rfl⟩
      · have hiM : (i : Int) = M := by
          have : ¬ (i : Int) < M := by rw [hb66] at hb; exact of_decide_eq_false hb
          omega
        rw [hiM] at T7
        exact ⟨⟨rfl, ga, gc, ta, tc, td, ml, nga, hn, S7, T7⟩, m7⟩
  · have dw1 : Md [] w1 w1.drew := Md_drew w1
    have S2' := S2.md0 dw1
    rw [ew1]
    refine ⟨fun w' => Blk w' n 247 (pL M X Y m { s with G := G1 }), S2'.blk, NN_in <| Bd_e rfl <| Bd_e rfl ⟨_, fun w' _ => ⟨slice_lhm w' A0 r.length pc h r.length hh hpc⟩, opL_in ⟨_, fun w' h' => h'.ld' rfl rfl, opL_in ?_⟩⟩⟩
    intro b4 w4 e4 e4'
    subst e4; subst e4'
    refine ⟨S2'.blk.md (Md.alloc (M := []) _ _) (by simp), ?_⟩
    refine PW.pushG S2' (some (A0.add h), r.length - h, r.length - h) (by simp only; omega) fun a' c' w5 hN hB5 hLn hW5 S5 m5 => opL_in ⟨hB5, NN_in ⟨by simp, hW5, ?_⟩⟩
    rw [hJ]
    have sz : w.heap.size ≤ w1.drew.heap.size := Nat.le_trans mw1.size dw1.size
    refine ⟨a', c', fun A hA => (hN A hA).imp id (Nat.le_trans sz), S5, (mw1.trans (dw1.mono (by simp))).trans (m5.mono fun z hz => ?_)⟩
    rcases List.mem_cons.1 hz with rfl | hz
    · simp [fpP]
    · simp only [fpP, List.mem_cons, List.mem_append]; exact .inr (.inr (.inl (.inl hz)))
end Fk
set_option linter.unusedVariables false
set_option linter.unusedSimpArgs false
set_option linter.unusedSectionVars false
set_option maxRecDepth 100000
set_option maxHeartbeats 1000000
namespace Fk
open Go Go.Proofs Go.RowKit
def RowZ {α : Type} (w : World) (F : List Nat) (a : Option Addr) (enc : α → List Value) (l : List α) : Prop := RowAt w a 1 enc l ∧ ∀ A, a = some A → l ≠ [] → A.block < w.heap.size ∧ A.block ∉ F
def MapZ {K V : Type} (w : World) (F : List Nat) (r : Nat) (kv : K → Value) (vv : V → Value) (l : List (K × V)) : Prop := MapAt w r kv vv l ∧ r ∉ F
def Grw (w : World) (F F' : List Nat) : Prop := ∀ d ∈ F', d ∈ F ∨ w.heap.size ≤ d
theorem Grw.refl (w : World) (F : List Nat) : Grw w F F := fun d h => .inl h
theorem Grw.nil (w : World) (F : List Nat) : Grw w F [] := fun d h => by cases h
theorem Grw.trans {w w1 : World} {F F1 F2 : List Nat} (h : Grw w F F1) (h2 : Grw w1 F1 F2) (hs : w.heap.size ≤ w1.heap.size) : Grw w F F2 := fun d hd => by
  rcases h2 d hd with h3 | h3
  · exact h d h3
  · exact .inr (by omega)
section
variable {w w' : World} {D F F' : List Nat}
theorem RowZ.keep {α : Type} {a : Option Addr} {enc : α → List Value} {l : List α} (h : RowZ w F a enc l) (hm : Md D w w') (hD : Grw w F D) (hF : Grw w F F') : RowZ w' F' a enc l := by
  have nd : ∀ A, a = some A → l ≠ [] → A.block ∉ D := fun A hA hl hd => by
    have := h.2 A hA hl
    rcases hD _ hd with h1 | h1
    · exact this.2 h1
    · omega
  refine ⟨h.1.mdE hm nd, fun A hA hl => ?_⟩
  have := h.2 A hA hl
  refine ⟨Nat.lt_of_lt_of_le this.1 hm.size, fun hf => ?_⟩
  rcases hF _ hf with h1 | h1
  · exact this.2 h1
  · omega
theorem MapZ.keep {K V : Type} [DecidableEq K] {r : Nat} {kv : K → Value} {vv : V → Value} {l : List (K × V)} (h : MapZ w F r kv vv l) (hm : Md D w w') (hD : Grw w F D) (hF : Grw w F F') : MapZ w' F' r kv vv l := by
  have hl := h.1.lt
  refine ⟨h.1.md hm fun hd => ?_, fun hf => ?_⟩
  · rcases hD _ hd with h1 | h1
    · exact h.2 h1
    · omega
  · rcases hF _ hf with h1 | h1
    · exact h.2 h1
    · omega
def rowI (M : Mch) (s : Nat) : List Int := (List.range M.m).map fun k => (M.go s k : Int)
def srcI (M : Mch) (k s : Nat) : List Int := ((List.range (M.n + 1)).filter fun x => decide (M.go x k = s)).map fun x : Nat => (x : Int)
structure FB (M : Mch) (w : World) (F : List Nat) (X Y : Value) : Prop where
  nx : ∃ a c, ∃ H : List HS3, X = .slice a (M.n + 1) c ∧ H.length = M.n + 1 ∧ RowZ w F a hE H ∧ ∀ s q, H[s]? = some q → q.2.1 = M.m ∧ RowZ w F q.1 i1 (rowI M s)
  bk : ∃ a c, ∃ H : List HS3, Y = .slice a M.m c ∧ H.length = M.m ∧ RowZ w F a hE H ∧ ∀ k p, H[k]? = some p → p.2.1 = M.n + 1 ∧ ∃ B : List HS3, B.length = M.n + 1 ∧ RowZ w F p.1 hE B ∧
    ∀ s q, B[s]? = some q → q.2.1 = (srcI M k s).length ∧ RowZ w F q.1 i1 (srcI M k s)
theorem FB.keep {M : Mch} {X Y : Value} (h : FB M w F X Y) (hm : Md D w w') (hD : Grw w F D) (hF : Grw w F F') : FB M w' F' X Y := by
  refine ⟨?_, ?_⟩
  · obtain ⟨a, c, H, h1, h2, h3, h4⟩ := h.nx
    exact ⟨a, c, H, h1, h2, h3.keep hm hD hF, fun s q hq => ⟨(h4 s q hq).1, (h4 s q hq).2.keep hm hD hF⟩⟩
  · obtain ⟨a, c, H, h1, h2, h3, h4⟩ := h.bk
    refine ⟨a, c, H, h1, h2, h3.keep hm hD hF, fun k p hp => ?_⟩
    obtain ⟨q1, B, q2, q3, q4⟩ := h4 k p hp
    exact ⟨q1, B, q2, q3.keep hm hD hF, fun s q hq => ⟨(q4 s q hq).1, (q4 s q hq).2.keep hm hD hF⟩⟩
def PR (w : World) (F : List Nat) (G : List HS3) (GS : List (List Int)) : Prop := G.length = GS.length ∧ ∀ (a : Nat) (p : HS3) (r : List Int), G[a]? = some p → GS[a]? = some r → p.2.1 = r.length ∧ r.length ≤ p.2.2 ∧ RowZ w F p.1 i1 r
theorem PR.keep {G : List HS3} {GS : List (List Int)} (h : PR w F G GS) (hm : Md D w w') (hD : Grw w F D) (hF : Grw w F F') : PR w' F' G GS :=
  ⟨h.1, fun a p r hp hr => ⟨(h.2 a p r hp hr).1, (h.2 a p r hp hr).2.1, (h.2 a p r hp hr).2.2.keep hm hD hF⟩⟩
end
/-- Behind a row of one's own comes what is read elsewhere. -/
theorem henc1_get {α : Type} {enc : α → List Value} (he : Enc 1 enc) : ∀ {l : List α} {j : Nat} {u : Value}, (l.flatMap enc)[j]? = some u → ∃ x, l[j]? = some x ∧ (enc x)[0]? = some u
  | [], j, u, h => by simp at h
  | x :: l, j, u, h => by
    rw [List.flatMap_cons] at h
    have hl := he.len x
    cases j with
    | zero =>
      rw [List.getElem?_append_left (by omega)] at h
      exact ⟨x, rfl, h⟩
    | succ j =>
      rw [List.getElem?_append_right (by omega), hl, Nat.add_sub_cancel] at h
      obtain ⟨y, h1, h2⟩ := henc1_get he h
      exact ⟨y, by simpa using h1, h2⟩
theorem appR {α : Type} {t e : TypeId} {bytes : Nat} {enc : α → List Value} (T : RowT Try.prog t e 1 bytes) (he : Enc 1 enc) {w : World} {base : Nat} {a a2 : Option Addr} {c c2 m2 : Nat} {l l2 : List α} {L : List Nat} (hm2 : m2 = l2.length)
    (h : OwnL w base e 1 enc a c l) (h2 : RowAt w a2 1 enc l2) (h2n : a2.isSome = true) (hb : base ≤ w.heap.size) (hL : ∀ b ∈ L, b < w.heap.size) (hLa : ∀ b ∈ L, ∀ A, a = some A → A.block ≠ b)
    (hn : l.length + l2.length ≤ maxLen) (hby : (l.length + l2.length) * bytes ≤ 140737488355328) {K : Value → World → Prop}
    (k : ∀ (a' : Option Addr) (c' : Nat) (w' : World), OwnL w' base e 1 enc a' c' (l ++ l2) → Md (a.map (·.block)).toList w w' → (∀ A, a' = some A → a = some A ∨ w.heap.size ≤ A.block) → K (.slice a' (l ++ l2).length c') w') :
    RunW Try.prog L (Builtin.append_ #[t, t] t #[.slice a l.length c, .slice a2 m2 c2]) K w := by
  subst hm2
  obtain ⟨A2, rfl⟩ := Option.isSome_iff_exists.1 h2n
  obtain ⟨a', c', w', hr, ho, hm, hA⟩ := run_app (ty := t) T h A2 l2.length c2 (l2.flatMap enc) (he.lenL l2) (fun j u hu => by
    obtain ⟨x, hx, hu0⟩ := henc1_get he hu
    obtain ⟨B, hB, hc⟩ := h2 j x hx
    injection hB with hB
    subst hB
    have := hc 0 _ hu0
    rw [add_add] at this
    simpa using this) (he.oneL l2) hn hby hb
  refine RunW_in hr (fun b hbL => hm.blk b (hL b hbL) fun hmem => ?_) ?_
  · cases a with
    | none => simp at hmem
    | some A => simp at hmem; exact hLa b hbL A rfl hmem.symm
  · have := k a' c' w' (by unfold OwnL; rw [List.flatMap_append, List.length_append]; exact ho) hm hA
    rwa [List.length_append] at this
def atN (at' : List Int) (x : Nat) : Nat := (at'.getD x 0).toNat
structure GI (M : Mch) (GS : List (List Int)) (at' : List Int) (td : List (Int × Int)) (ex : Nat → Nat → Nat → Prop) : Prop where
  al : at'.length = M.n + 1
  rg : ∀ (a : Nat) (r : List Int), GS[a]? = some r → r ≠ [] ∧ r.Nodup ∧ ∀ y, y ∈ r ↔ ∃ x : Nat, x ≤ M.n ∧ y = x ∧ at'[x]? = some (a : Int)
  ar : ∀ x : Nat, x ≤ M.n → ∃ a : Nat, a < GS.length ∧ at'[x]? = some (a : Int)
  tr : ∀ p ∈ td, 0 ≤ p.1 ∧ p.1 < GS.length ∧ 0 ≤ p.2 ∧ p.2 < M.m
  hi : HI M GS.length (atN at') (fun a j => ((a : Int), (j : Int)) ∈ td) ex
theorem atN_of {at' : List Int} {x a : Nat} (h : at'[x]? = some (a : Int)) : atN at' x = a := by
  unfold atN; rw [List.getD_eq_getElem?_getD, h]; simp
section
variable {M : Mch} {GS : List (List Int)} {at' : List Int} {td : List (Int × Int)} {ex : Nat → Nat → Nat → Prop}
theorem GI.at_iff (h : GI M GS at' td ex) {x a : Nat} (hx : x ≤ M.n) : at'[x]? = some (a : Int) ↔ atN at' x = a := by
  obtain ⟨b, hb, e⟩ := h.ar x hx
  rw [atN_of e, e]
  constructor
  · intro h; injection h with h; omega
  · intro h; rw [h]
theorem GI.mem (h : GI M GS at' td ex) {a : Nat} {r : List Int} (hr : GS[a]? = some r) {x : Nat} (hx : x ≤ M.n) : (x : Int) ∈ r ↔ atN at' x = a := by
  rw [(h.rg a r hr).2.2]
  constructor
  · rintro ⟨y, _, e, h2⟩
    have : x = y := by omega
    subst this
    exact atN_of h2
  · intro e; exact ⟨x, hx, rfl, (h.at_iff hx).2 e⟩
theorem GI.nat (h : GI M GS at' td ex) {a : Nat} {r : List Int} (hr : GS[a]? = some r) {y : Int} (hy : y ∈ r) : ∃ x : Nat, x ≤ M.n ∧ y = x := by
  obtain ⟨x, h1, h2, _⟩ := ((h.rg a r hr).2.2 y).1 hy
  exact ⟨x, h1, h2⟩
theorem GI.gl (h : GI M GS at' td ex) : GS.length ≤ M.n + 1 := by
  have hd : ∀ a, a < GS.length → ∃ x : Nat, x ≤ M.n ∧ atN at' x = a := fun a ha => by
    obtain ⟨h1, h2, h3⟩ := h.rg a _ (List.getElem?_eq_getElem ha)
    obtain ⟨y, hy⟩ := List.exists_mem_of_ne_nil _ h1
    obtain ⟨x, hx, rfl⟩ := h.nat (List.getElem?_eq_getElem ha) hy
    exact ⟨x, hx, (h.mem (List.getElem?_eq_getElem ha) hx).1 hy⟩
  have sub : List.range GS.length ⊆ (List.range (M.n + 1)).map (atN at') := fun a ha => by
    obtain ⟨x, hx, e⟩ := hd a (List.mem_range.1 ha)
    exact List.mem_map.2 ⟨x, List.mem_range.2 (by omega), e⟩
  have := List.nodup_range.length_le_of_subset sub
  simpa using this
theorem GI.rlen (h : GI M GS at' td ex) {a : Nat} {r : List Int} (hr : GS[a]? = some r) : r.length ≤ M.n + 1 := by
  have sub : r ⊆ (List.range (M.n + 1)).map (fun x : Nat => (x : Int)) := fun y hy => by
    obtain ⟨x, hx, rfl⟩ := h.nat hr hy
    exact List.mem_map.2 ⟨x, List.mem_range.2 (by omega), rfl⟩
  have := (h.rg a r hr).2.1.length_le_of_subset sub
  simpa using this
theorem GI.tdl (h : GI M GS at' td ex) (hn : td.Nodup) : td.length ≤ GS.length * M.m := by
  have sub : td ⊆ (List.range GS.length).flatMap fun a : Nat => (List.range M.m).map fun j : Nat => ((a : Int), (j : Int)) := fun p hp => by
    obtain ⟨h1, h2, h3, h4⟩ := h.tr p hp
    refine List.mem_flatMap.2 ⟨p.1.toNat, List.mem_range.2 (by omega), List.mem_map.2 ⟨p.2.toNat, List.mem_range.2 (by omega), ?_⟩⟩
    rw [Int.toNat_of_nonneg h1, Int.toNat_of_nonneg h3]
  have := hn.length_le_of_subset sub
  refine Nat.le_trans this ?_
  have e : ∀ l : List Nat, (l.flatMap fun a : Nat => (List.range M.m).map fun j : Nat => ((a : Int), (j : Int))).length = l.length * M.m := by
    intro l
    induction l with
    | nil => simp
    | cons a l ih => rw [List.flatMap_cons, List.length_append, ih, List.length_map, List.length_range, List.length_cons, Nat.succ_mul]; omega
  rw [e, List.length_range]
  exact Nat.le_refl _
theorem GI.pop {td' : List (Int × Int)} {b k : Nat} (h : GI M GS at' (td' ++ [((b : Int), (k : Int))]) fun _ _ _ => False) (hn : (td' ++ [((b : Int), (k : Int))]).Nodup) : GI M GS at' td' (Exc M (atN at') k (fun s => atN at' s = b) fun _ => True) := by
  refine ⟨h.al, h.rg, h.ar, fun p hp => h.tr p (List.mem_append_left _ hp), ?_⟩
  have hnm : ((b : Int), (k : Int)) ∉ td' := fun hm => by
    rw [List.nodup_append] at hn
    exact hn.2.2 _ hm _ (by simp) rfl
  have e : (fun a j : Nat => ((a : Int), (j : Int)) ∈ td') = fun a j : Nat => ((a : Int), (j : Int)) ∈ td' ++ [((b : Int), (k : Int))] ∧ ¬ (a = b ∧ j = k) := by
    funext a j
    apply propext
    constructor
    · intro hm
      refine ⟨List.mem_append_left _ hm, ?_⟩
      rintro ⟨rfl, rfl⟩
      exact hnm hm
    · rintro ⟨hm, hne⟩
      rcases List.mem_append.1 hm with hm | hm
      · exact hm
      · simp only [List.mem_singleton, Prod.mk.injEq] at hm
        exact absurd ⟨by omega, by omega⟩ hne
  rw [e]
  exact h.hi.pop b k
theorem GI.weak {ex' : Nat → Nat → Nat → Prop} (h : GI M GS at' td ex) (hx : ∀ x y j, x ≤ M.n → y ≤ M.n → atN at' x = atN at' y → ex x y j → ex' x y j) : GI M GS at' td ex' := ⟨h.al, h.rg, h.ar, h.tr, h.hi.weak hx⟩
end
theorem atSet_get (v : Int) : ∀ (l a : List Int) (x : Nat), (∀ y ∈ l, 0 ≤ y) → x < a.length → (atSet v l a)[x]? = if (x : Int) ∈ l then some v else a[x]?
  | [], a, x, _, _ => rfl
  | y :: l, a, x, h, hx => by
    show (atSet v l (a.set y.toNat v))[x]? = _
    rw [atSet_get v l _ x (fun z hz => h z (List.mem_cons_of_mem _ hz)) (by simpa using hx), List.getElem?_set]
    have hy := h y (by simp)
    by_cases c : (x : Int) ∈ l
    · simp [c]
    · by_cases d : y.toNat = x
      · have : (x : Int) = y := by omega
        simp [c, d, this, hx]
      · have : ¬ (x : Int) = y := by omega
        simp [c, d, this]
/-- A group is parted. -/
theorem GI.split {M : Mch} (hM : M.ok) {GS : List (List Int)} {at' : List Int} {td td' : List (Int × Int)} {k : Nat} {S U : Nat → Prop} (h : GI M GS at' td (Exc M (atN at') k S U)) (hk : k < M.m) {b : Nat} {r l : List Int} (hr : GS[b]? = some r) (hl : l.Perm r) {c : Nat} (h0 : 0 < c) (hc : c < l.length)
    (hy : ∀ y ∈ l.take c, S (M.go y.toNat k)) (hn : ∀ y ∈ l.drop c, ¬ S (M.go y.toNat k)) (hS : ∀ u v, u ≤ M.n → v ≤ M.n → M.alike u v → (S u ↔ S v)) (hU : ∀ a, U a → a < GS.length) (T : TdS M.m b GS.length td td') :
    GI M (GS.set b (l.take c) ++ [l.drop c]) (atSet GS.length (l.drop c) at') td' (Exc M (atN (atSet GS.length (l.drop c) at')) k S fun a => U a ∧ a ≠ b) := by
  have hbl : b < GS.length := (List.getElem?_eq_some_iff.1 hr).1
  obtain ⟨hr1, hr2, hr3⟩ := h.rg b r hr
  have hld : l.Nodup := hr2.perm hl.symm
  have hlm : ∀ y, y ∈ l ↔ y ∈ r := fun y => hl.mem_iff
  have htd := List.take_append_drop c l
  have hdj : ∀ y, y ∈ l.take c → y ∈ l.drop c → False := fun y h1 h2 => by
    rw [← htd, List.nodup_append] at hld
    exact hld.2.2 y h1 y h2 rfl
  have hmem : ∀ y, y ∈ l ↔ y ∈ l.take c ∨ y ∈ l.drop c := fun y => by rw [← List.mem_append, htd]
  have hnn : ∀ y ∈ l.drop c, 0 ≤ y := fun y hy => by
    obtain ⟨x, _, rfl⟩ := h.nat hr ((hlm y).1 ((hmem y).2 (.inr hy))); omega
  have hget : ∀ x, x ≤ M.n → (atSet GS.length (l.drop c) at')[x]? = if (x : Int) ∈ l.drop c then some (GS.length : Int) else at'[x]? := fun x hx => atSet_get _ _ _ _ hnn (by rw [h.al]; omega)
  have hin : ∀ x : Nat, x ≤ M.n → ((x : Int) ∈ l.drop c ↔ atN at' x = b ∧ ¬ S (M.go x k)) := fun x hx => by
    rw [← h.mem hr hx, ← hlm, hmem]
    constructor
    · intro h1; exact ⟨.inr h1, by have := hn _ h1; simpa using this⟩
    · rintro ⟨h1 | h1, h2⟩
      · exact absurd (by have := hy _ h1; simpa using this) h2
      · exact h1
  have hlen2 : (GS.set b (l.take c) ++ [l.drop c]).length = GS.length + 1 := by simp
  have ha : ∀ x, x ≤ M.n → atN (atSet GS.length (l.drop c) at') x = if (x : Int) ∈ l.drop c then GS.length else atN at' x := fun x hx => by
    unfold atN
    rw [List.getD_eq_getElem?_getD, hget x hx]
    split
    · simp
    · rw [List.getD_eq_getElem?_getD]
  refine ⟨by rw [atSet_len]; exact h.al, fun a r' hr' => ?_, fun x hx => ?_, fun p hp => ?_, ?_⟩
  · rcases Nat.lt_trichotomy a GS.length with ha' | ha' | ha'
    · rw [List.getElem?_append_left (by simpa using ha'), List.getElem?_set] at hr'
      by_cases hab : b = a
      · subst hab
        simp only [if_true, hbl, if_true] at hr'
        injection hr' with hr'
        subst hr'
        refine ⟨fun e => by have := congrArg List.length e; rw [List.length_take, List.length_nil] at this; omega, hld.sublist (List.take_sublist _ _), fun y => ?_⟩
        constructor
        · intro hyt
          obtain ⟨x, hx, rfl⟩ := h.nat hr ((hlm y).1 ((hmem y).2 (.inl hyt)))
          refine ⟨x, hx, rfl, ?_⟩
          rw [hget x hx, if_neg fun hd => hdj _ hyt hd]
          exact (h.at_iff hx).2 ((h.mem hr hx).1 ((hlm _).1 ((hmem _).2 (.inl hyt))))
        · rintro ⟨x, hx, rfl, he⟩
          rw [hget x hx] at he
          split at he
          · injection he with he; omega
          · rename_i hnd
            have := (hlm _).2 ((h.mem hr hx).2 ((h.at_iff hx).1 he))
            exact ((hmem _).1 this).resolve_right hnd
      · simp only [hab, if_false] at hr'
        obtain ⟨p1, p2, p3⟩ := h.rg a r' hr'
        refine ⟨p1, p2, fun y => ?_⟩
        rw [p3]
        constructor
        · rintro ⟨x, hx, rfl, he⟩
          refine ⟨x, hx, rfl, ?_⟩
          rw [hget x hx, if_neg fun hd => ?_]
          · exact he
          · have := ((hin x hx).1 hd).1
            have := (h.at_iff hx).1 he
            omega
        · rintro ⟨x, hx, rfl, he⟩
          refine ⟨x, hx, rfl, ?_⟩
          rw [hget x hx] at he
          split at he
          · injection he with he; omega
          · exact he
    · subst ha'
      rw [List.getElem?_append_right (by simp)] at hr'
      simp at hr'
      subst hr'
      refine ⟨fun e => by have := congrArg List.length e; rw [List.length_drop, List.length_nil] at this; omega, hld.sublist (List.drop_sublist _ _), fun y => ?_⟩
      constructor
      · intro hyd
        obtain ⟨x, hx, rfl⟩ := h.nat hr ((hlm y).1 ((hmem y).2 (.inr hyd)))
        exact ⟨x, hx, rfl, by rw [hget x hx, if_pos hyd]⟩
      · rintro ⟨x, hx, rfl, he⟩
        rw [hget x hx] at he
        split at he
        · assumption
        · obtain ⟨a, ha, e⟩ := h.ar x hx
          rw [e] at he
          injection he with he; omega
    · have := (List.getElem?_eq_some_iff.1 hr').1
      rw [hlen2] at this
      omega
  · rw [hlen2]
    by_cases hd : (x : Int) ∈ l.drop c
    · exact ⟨GS.length, by omega, by rw [hget x hx, if_pos hd]⟩
    · obtain ⟨a, ha, e⟩ := h.ar x hx
      exact ⟨a, by omega, by rw [hget x hx, if_neg hd]; exact e⟩
  · rw [hlen2]
    rcases T.new p hp with hp | ⟨hp1, hp2, hp3⟩
    · have := h.tr p hp; omega
    · refine ⟨?_, ?_, hp2, hp3⟩ <;> omega
  · rw [hlen2]
    refine HI.split hM h.hi hk b hS hU (fun s hs h1 h2 => ?_) (fun s hs h1 => ?_) (fun a j ht => T.sub _ ht) (fun j hj ht => T.two j (by omega) (by omega) ht) fun j hj => T.one j (by omega) (by omega)
    · rw [ha s hs, if_pos ((hin s hs).2 ⟨h1, h2⟩)]
    · rw [ha s hs, if_neg fun hd => h1 ((hin s hs).1 hd)]
end Fk
