/- Contracts of functions, and plain laws: several texts, joined. -/
import Derived.Test.YtpgjpgecgibklaaRows
import Derived.JoinedOf
import Derived.KernelRfl
import GoSem.ClaimOpen
import GoSem.ClaimOpenFrom
import GoSem.ClaimJoined
import Derived.Test.YtpgjpgecgibklaaGK2
import Derived.ArgAppend
import Derived.Test.YtpgjpgecgibklaaGV0
import Derived.Laws.Bits64
import Derived.Test.YtpgjpgecgibklaaProg
import Derived.ChangeKeysEq
import Derived.Laws.StructEq
import Derived.MapKept
set_option maxRecDepth 100000
set_option linter.unusedVariables false
set_option linter.unusedSimpArgs false
namespace Go.Proofs.Ytpgjpgecgibklaa
def chs (l : List Nat) : List Char := l.map Char.ofNat
def hw1 : List Char := chs [104, 97, 114, 110, 101, 115, 115]
def hw2 : List Char := chs [57, 52, 100, 49, 52, 57, 51, 101, 101, 53, 49, 48, 55, 55, 50, 100, 101, 102, 48, 97, 98, 56, 49, 51, 52, 56, 49, 51, 53, 100, 53, 101, 101, 51, 53, 56, 54, 101, 98, 56, 52, 55, 57, 99, 55, 54, 55, 97, 53, 99, 97, 56, 97, 97, 49, 57, 51, 100, 102, 51, 52, 50, 50, 98]
def hw3 : List Char := chs [99, 117, 116]
def hwr : List Char := chs [97, 116, 32, 102, 114, 97, 110, 107, 105, 110, 103, 47, 102, 114, 97, 110, 107, 105, 110, 103, 108, 97, 119, 48, 54, 46, 67, 108, 97, 115, 115, 101, 115, 84, 101, 108, 108, 115, 32, 102, 114, 97, 110, 107, 105, 110, 103, 47, 102, 114, 97, 110, 107, 105, 110, 103, 108, 97, 119, 48, 54, 46, 67, 108, 97, 115, 115, 101, 115, 83, 97, 109, 101, 32, 102, 114, 97, 110, 107, 105, 110, 103, 47, 102, 114, 97, 110, 107, 105, 110, 103, 108, 97, 119, 48, 54, 46, 67, 108, 97, 115, 115, 101, 115, 77, 111, 114, 101, 32, 102, 114, 97, 110, 107, 105, 110, 103, 47, 102, 114, 97, 110, 107, 105, 110, 103, 108, 97, 119, 48, 54, 46, 67, 108, 97, 115, 115, 101, 115, 79, 114, 100, 101, 114, 32, 102, 114, 97, 110, 107, 105, 110, 103, 47, 102, 114, 97, 110, 107, 105, 110, 103, 108, 97, 119, 48, 54, 46, 67, 108, 97, 115, 115, 101, 115, 84, 119, 111, 32, 102, 114, 97, 110, 107, 105, 110, 103, 47, 102, 114, 97, 110, 107, 105, 110, 103, 108, 97, 119, 49, 48, 46, 84, 97, 98, 108, 101, 84, 101, 108, 108, 115, 32, 102, 114, 97, 110, 107, 105, 110, 103, 47, 102, 114, 97, 110, 107, 105, 110, 103, 108, 97, 119, 49, 48, 46, 84, 97, 98, 108, 101, 66, 97, 99, 107, 32, 102, 114, 97, 110, 107, 105, 110, 103, 47, 102, 114, 97, 110, 107, 105, 110, 103, 108, 97, 119, 49, 48, 46, 84, 97, 98, 108, 101, 67, 117, 116, 32, 102, 114, 97, 110, 107, 105, 110, 103, 47, 102, 114, 97, 110, 107, 105, 110, 103, 108, 97, 119, 48, 56, 46, 68, 102, 97, 83, 97, 109, 101, 32, 102, 114, 97, 110, 107, 105, 110, 103, 47, 102, 114, 97, 110, 107, 105, 110, 103, 108, 97, 119, 49, 48, 46, 84, 97, 98, 108, 101, 83, 116, 101, 112, 32, 102, 114, 97, 110, 107, 105, 110, 103, 47, 102, 114, 97, 110, 107, 105, 110, 103, 108, 97, 119, 48, 55, 46, 78, 102, 97, 84, 101, 108, 108, 115, 32, 102, 114, 97, 110, 107, 105, 110, 103, 47, 102, 114, 97, 110, 107, 105, 110, 103, 108, 97, 119, 48, 55, 46, 78, 102, 97, 84, 97, 103, 115, 32, 102, 114, 97, 110, 107, 105, 110, 103, 47, 102, 114, 97, 110, 107, 105, 110, 103, 108, 97, 119, 49, 48, 46, 84, 97, 98, 108, 101, 82, 105, 103, 104, 116, 32, 102, 114, 97, 110, 107, 105, 110, 103, 47, 102, 114, 97, 110, 107, 105, 110, 103, 108, 97, 119, 48, 55, 46, 78, 102, 97, 67, 97, 112, 32, 102, 114, 97, 110, 107, 105, 110, 103, 47, 102, 114, 97, 110, 107, 105, 110, 103, 108, 97, 119, 48, 55, 46, 78, 102, 97, 70, 114, 111, 110, 116, 115, 32, 102, 114, 97, 110, 107, 105, 110, 103, 47, 102, 114, 97, 110, 107, 105, 110, 103, 108, 97, 119, 48, 55, 46, 78, 102, 97, 79, 114, 100, 101, 114, 32, 102, 114, 97, 110, 107, 105, 110, 103, 47, 102, 114, 97, 110, 107, 105, 110, 103, 108, 97, 119, 48, 57, 46, 76, 101, 97, 115, 116, 84, 101, 108, 108, 115, 32, 102, 114, 97, 110, 107, 105, 110, 103, 47, 102, 114, 97, 110, 107, 105, 110, 103, 108, 97, 119, 48, 57, 46, 76, 101, 97, 115, 116, 65, 112, 97, 114, 116, 32, 102, 114, 97, 110, 107, 105, 110, 103, 47, 102, 114, 97, 110, 107, 105, 110, 103, 108, 97, 119, 48, 57, 46, 76, 101, 97, 115, 116, 78, 117, 109, 98, 101, 114, 115, 32, 102, 114, 97, 110, 107, 105, 110, 103, 47, 102, 114, 97, 110, 107, 105, 110, 103, 108, 97, 119, 48, 57, 46, 76, 101, 97, 115, 116, 65, 108, 105, 107, 101, 32, 102, 114, 97, 110, 107, 105, 110, 103, 47, 102, 114, 97, 110, 107, 105, 110, 103, 108, 97, 119, 50, 48, 46, 68, 105, 115, 107, 70, 114, 111, 110, 116, 32, 102, 114, 97, 110, 107, 105, 110, 103, 47, 102, 114, 97, 110, 107, 105, 110, 103, 108, 97, 119, 50, 48, 46, 68, 105, 115, 107, 87, 104, 111, 108, 101, 32, 102, 114, 97, 110, 107, 105, 110, 103, 47, 102, 114, 97, 110, 107, 105, 110, 103, 108, 97, 119, 50, 48, 46, 68, 105, 115, 107, 65, 114, 109, 101, 100, 32, 102, 114, 97, 110, 107, 105, 110, 103, 47, 102, 114, 97, 110, 107, 105, 110, 103, 108, 97, 119, 48, 57, 46, 76, 101, 97, 115, 116, 83, 97, 109, 101, 32, 102, 114, 97, 110, 107, 105, 110, 103, 47, 102, 114, 97, 110, 107, 105, 110, 103, 108, 97, 119, 50, 48, 46, 68, 105, 115, 107, 84, 101, 108, 108, 115, 32, 102, 114, 97, 110, 107, 105, 110, 103, 47, 102, 114, 97, 110, 107, 105, 110, 103, 108, 97, 119, 50, 48, 46, 68, 105, 115, 107, 78, 111, 110, 101, 32, 102, 114, 97, 110, 107, 105, 110, 103, 47, 102, 114, 97, 110, 107, 105, 110, 103, 108, 97, 119, 50, 49, 46, 74, 111, 117, 114, 110, 97, 108, 82, 111, 116, 32, 102, 114, 97, 110, 107, 105, 110, 103, 47, 102, 114, 97, 110, 107, 105, 110, 103, 108, 97, 119, 50, 49, 46, 74, 111, 117, 114, 110, 97, 108, 67, 114, 97, 115, 104, 32, 102, 114, 97, 110, 107, 105, 110, 103, 47, 102, 114, 97, 110, 107, 105, 110, 103, 108, 97, 119, 50, 49, 46, 74, 111, 117, 114, 110, 97, 108, 82, 111, 111, 109, 32, 102, 114, 97, 110, 107, 105, 110, 103, 47, 102, 114, 97, 110, 107, 105, 110, 103, 108, 97, 119, 48, 56, 46, 68, 102, 97, 84, 101, 108, 108, 115, 32, 102, 114, 97, 110, 107, 105, 110, 103, 47, 102, 114, 97, 110, 107, 105, 110, 103, 108, 97, 119, 48, 56, 46, 68, 102, 97, 70, 111, 117, 110, 100, 32, 102, 114, 97, 110, 107, 105, 110, 103, 47, 102, 114, 97, 110, 107, 105, 110, 103, 108, 97, 119, 48, 56, 46, 68, 102, 97, 67, 97, 112, 32, 102, 114, 97, 110, 107, 105, 110, 103, 47, 102, 114, 97, 110, 107, 105, 110, 103, 108, 97, 119, 48, 56, 46, 68, 102, 97, 82, 117, 110, 115, 32, 102, 114, 97, 110, 107, 105, 110, 103, 47, 102, 114, 97, 110, 107, 105, 110, 103, 108, 97, 119, 50, 49, 46, 74, 111, 117, 114, 110, 97, 108, 65, 110, 101, 119, 32, 102, 114, 97, 110, 107, 105, 110, 103, 47, 102, 114, 97, 110, 107, 105, 110, 103, 108, 97, 119, 50, 49, 46, 74, 111, 117, 114, 110, 97, 108, 84, 101, 108, 108, 115]
theorem head_is : Try.prog.initOrder = String.ofList (hw1 ++ Char.ofNat 32 :: (hw2 ++ Char.ofNat 32 :: (hw3 ++ Char.ofNat 32 :: hwr))) := by kernel_rfl
theorem words_step : ∀ (w r : List Char), (∀ c ∈ w, c ≠ Char.ofNat 32) → wordsSigns (w ++ Char.ofNat 32 :: r) = w :: wordsSigns r
  | [], r, _ => rfl
  | c :: w, r, h => by
    have ih := words_step w r fun c hc => h c (List.mem_cons_of_mem _ hc)
    have hc : c ≠ Char.ofNat 32 := h c (by simp)
    rw [List.cons_append, wordsSigns]
    · rw [ih]
    · exact fun e => hc e
theorem sp1 : ∀ c ∈ hw1, c ≠ Char.ofNat 32 := by decide +kernel
theorem sp2 : ∀ c ∈ hw2, c ≠ Char.ofNat 32 := by decide +kernel
theorem sp3 : ∀ c ∈ hw3, c ≠ Char.ofNat 32 := by decide +kernel
theorem behind_is (rest : List (List Char)) : behindMainWord (hw1 :: hw2 :: hw3 :: rest) = hw3 :: rest := by kernel_rfl
theorem head_list : Try.prog.initOrder.toList = hw1 ++ Char.ofNat 32 :: (hw2 ++ Char.ofNat 32 :: (hw3 ++ Char.ofNat 32 :: hwr)) := by rw [head_is, String.toList_ofList]
theorem words_is (l : List Char) (h : l = hw1 ++ Char.ofNat 32 :: (hw2 ++ Char.ofNat 32 :: (hw3 ++ Char.ofNat 32 :: hwr))) : ∃ rest, behindMainWord (wordsSigns l) = hw3 :: rest :=
  ⟨wordsSigns hwr, by rw [h, words_step hw1 _ sp1, words_step hw2 _ sp2, words_step hw3 _ sp3]; exact behind_is _⟩
theorem cutWords : ∃ rest, behindMainWord (wordsSigns Try.prog.initOrder.toList) = hw3 :: rest := words_is _ head_list
theorem enter_of (P : Program) (rest : List (List Char)) (h : behindMainWord (wordsSigns P.initOrder.toList) = hw3 :: rest) (h2 : (!P.laysLater) = true) (h3 : (!P.bearsReflect) = true) (h4 : P.doorFits [] = true) : P.mayEnter = true := by
  have e : stripLifts liftWords (hw3 :: rest) = ([], hw3 :: rest) := by kernel_rfl
  unfold Program.mayEnter
  rw [h]
  simp only [e, h2, h3, h4]
  simp
  right
  kernel_rfl
theorem lifts_of (P : Program) (rest : List (List Char)) (h : behindMainWord (wordsSigns P.initOrder.toList) = hw3 :: rest) : P.headLifts = [] := by
  have e : stripLifts liftWords (hw3 :: rest) = ([], hw3 :: rest) := by kernel_rfl
  unfold Program.headLifts
  rw [h, e]
  simp
theorem final_of (P : Program) (rest : List (List Char)) (h : behindMainWord (wordsSigns P.initOrder.toList) = hw3 :: rest) : P.liftsFinal = false := by
  unfold Program.liftsFinal
  rw [h, lifts_of P rest h]
  kernel_rfl
theorem make_of (P : Program) (rest : List (List Char)) (h : behindMainWord (wordsSigns P.initOrder.toList) = hw3 :: rest) : P.make = some .cut := by
  unfold Program.make
  rw [h]
  kernel_rfl
theorem later_is : (!Try.prog.laysLater) = true := by kernel_rfl
theorem reflect_is : (!Try.prog.bearsReflect) = true := by kernel_rfl
theorem door_is : Try.prog.doorFits [] = true := by kernel_rfl
theorem mayEnter_is : Try.prog.mayEnter = true := let ⟨rest, h⟩ := cutWords; enter_of _ rest h later_is reflect_is door_is
theorem liftsFinal_is : Try.prog.liftsFinal = false := let ⟨rest, h⟩ := cutWords; final_of _ rest h
theorem make_is : Try.prog.make = some .cut := let ⟨rest, h⟩ := cutWords; make_of _ rest h
theorem laidOut : laidOutB Try.prog = true := by kernel_rfl
theorem mapsRowed_is : mapsRowed Try.prog = true := by kernel_rfl
theorem stops_is : Try.prog.stops = [] := by kernel_rfl
theorem stopKnobs_is : Try.prog.stopKnobs = [] := by kernel_rfl
theorem plainKeys_is : Try.prog.plainKeys = false := by kernel_rfl
theorem stopsHeard_is : Try.prog.stopsHeard = true := by kernel_rfl
theorem ownNone : ownKnob Try.prog.godebug = none := by kernel_rfl
/-- What hangs on the row alone. -/
def lightFacts (P : Program) (f : FuncId) (fn : Func) (s : ChangeSpec) (c : OpenClaim) : Bool :=
  c.wf (OpenSpec.ofChange s) &&
  fn.params.all (P.readableRec ·) && namedTie P c.named s.vars &&
  (c.stops == []) && (c.knobs == []) &&
  (c.maps == (fn.params.toList ++ s.plain.varTypes P).any (P.mapsRec ·)) && (c.ifaces == (fn.params.toList ++ s.plain.varTypes P).any (P.ifacesRec ·)) && (c.mapsOut == P.mapsAmong fn.resultTypes.toList) &&
  (c.loops == (fn.params.toList ++ s.plain.varTypes P).any (P.loopsFrom ·)) && (c.wideKeys == (fn.params.toList ++ s.plain.varTypes P ++ fn.resultTypes.toList).any (P.wideKeysFrom ·)) &&
  s.vars.all (P.varReadable ·) && fn.resultTypes.all (fun t => P.readableRec t && decide (t < P.types.size)) && (c.ifacesOut == fn.resultTypes.toList.any (P.ifacesRec ·)) && (c.loopsOut == fn.resultTypes.toList.any (P.loopsFrom ·)) &&
  (c.plainKeys == false) && c.shortTexts.isNone && (c.lifted == false) && (some .cut == some c.make) && (c.kinds == (if c.domain.isEmpty then [] else fn.params.toList.map fun t => match P.underlying t with | some (.int k) => some k | _ => none)) && (c.pinned == c.pinnedBy) &&
  (c.veiled == (fn.params.toList ++ s.plain.varTypes P ++ fn.resultTypes.toList).any (P.veiledRec ·)) && c.veiledFits P fn.params.toList (fn.params.toList ++ s.plain.varTypes P ++ fn.resultTypes.toList)
theorem joined_of {f : FuncId} {fn : Func} {s : ChangeSpec} {c : OpenClaim} (h : lightFacts Try.prog f fn s c = true) (h1 : c.inPlace = Try.prog.inPlace f) (h2 : c.unfollowed = Try.prog.unfollowed f) (h3 : c.recurses = Try.prog.recurses f)
    (h4 : c.named = Try.prog.varsNamed f) : joinedFacts Try.prog f fn s c = true := by
  unfold lightFacts at h
  simp only [Bool.and_eq_true] at h
  obtain ⟨⟨⟨⟨⟨⟨⟨⟨⟨⟨⟨⟨⟨⟨⟨⟨⟨⟨⟨⟨⟨a1, a2⟩, a3⟩, a4⟩, a5⟩, a6⟩, a7⟩, a8⟩, a9⟩, a10⟩, a11⟩, a12⟩, a13⟩, a14⟩, a15⟩, a16⟩, a17⟩, a18⟩, a19⟩, a20⟩, a21⟩, a22⟩ := h
  have e1 : (c.inPlace == Try.prog.inPlace f) = true := by rw [h1]; exact beq_self_eq_true _
  have e2 : (c.unfollowed == Try.prog.unfollowed f) = true := by rw [h2]; exact beq_self_eq_true _
  have e3 : (c.recurses == Try.prog.recurses f) = true := by rw [h3]; exact beq_self_eq_true _
  have e4 : (c.named == Try.prog.varsNamed f) = true := by rw [h4]; exact beq_self_eq_true _
  unfold joinedFacts
  rw [laidOut, mapsRowed_is, stops_is, stopKnobs_is, plainKeys_is, stopsHeard_is, mayEnter_is, liftsFinal_is, make_is, e1, e2, e3, e4]
  simp only [a1, a2, a3, a4, a5, a6, a7, a8, a9, a10, a11, a12, a13, a14, a15, a16, a17, a18, a19, a20, a21, a22, Bool.and_true, Bool.true_and, beq_self_eq_true]
  exact a19
end Go.Proofs.Ytpgjpgecgibklaa
set_option linter.unusedVariables false
namespace Fk
open Go Go.RowKit
/-- A row of trees: the first one, its kids, and the others. -/
inductive Fo where
  | nil
  | cons (k a b c d : Int) (kids rest : Fo)
def Fo.len : Fo → Nat
  | .nil => 0
  | .cons _ _ _ _ _ _ r => r.len + 1
def Fo.size : Fo → Nat
  | .nil => 0
  | .cons _ _ _ _ _ q r => q.size + r.size + 1
/-- The cells of a tree. -/
def ReC (w : World) (B : Addr) (k a b c d : Int) (sa : Option Addr) (sn sc : Nat) : Prop :=
  w.cell? (B.add 0) = some (.int .u8 k) ∧ w.cell? (B.add 1) = some (.int .u64 a) ∧ w.cell? (B.add 2) = some (.int .u64 b) ∧ w.cell? (B.add 3) = some (.int .u64 c) ∧
    w.cell? (B.add 4) = some (.int .u64 d) ∧ w.cell? (B.add 5) = some (.slice sa sn sc)
/-- A row of trees lies in memory, from the i-th place of A on. -/
def RepF (w : World) : Option Addr → Nat → Fo → Prop
  | _, _, .nil => True
  | A, i, .cons k a b c d q r => (∃ B sa sc, A = some B ∧ ReC w (B.add (i * 6)) k a b c d sa q.len sc ∧ q.len < 2 ^ 63 ∧ RepF w sa 0 q) ∧ RepF w A (i + 1) r
theorem ReC.md {w w' : World} {B : Addr} {k a b c d : Int} {sa : Option Addr} {sn sc : Nat} (h : ReC w B k a b c d sa sn sc) (hm : Md [] w w') : ReC w' B k a b c d sa sn sc :=
  ⟨hm.cell0 h.1, hm.cell0 h.2.1, hm.cell0 h.2.2.1, hm.cell0 h.2.2.2.1, hm.cell0 h.2.2.2.2.1, hm.cell0 h.2.2.2.2.2⟩
theorem RepF.md {w w' : World} (hm : Md [] w w') : ∀ {A : Option Addr} {i : Nat} {f : Fo}, RepF w A i f → RepF w' A i f
  | _, _, .nil, _ => trivial
  | A, i, .cons k a b c d q r, h => by
    simp only [RepF] at h ⊢
    obtain ⟨⟨B, sa, sc, h1, h2, h3, h4⟩, h5⟩ := h
    exact ⟨⟨B, sa, sc, h1, h2.md hm, h3, RepF.md hm h4⟩, RepF.md hm h5⟩
/-- The tree that comes next. -/
theorem RepF.at {w : World} {A : Option Addr} {i : Nat} {k a b c d : Int} {q r : Fo} (h : RepF w A i (.cons k a b c d q r)) :
    ∃ B sa sc, A = some B ∧ ReC w (B.add (i * 6)) k a b c d sa q.len sc ∧ q.len < 2 ^ 63 ∧ RepF w sa 0 q ∧ RepF w A (i + 1) r := by
  simp only [RepF] at h
  obtain ⟨⟨B, sa, sc, h1, h2, h3, h4⟩, h5⟩ := h
  exact ⟨B, sa, sc, h1, h2, h3, h4, h5⟩
/-- Six cells are read. -/
theorem ReC.ld {w : World} {B : Addr} {k a b c d : Int} {sa : Option Addr} {sn sc : Nat} (h : ReC w B k a b c d sa sn sc) {K : Int → Int → Int → Int → Int → Option Addr → Nat → Nat → Prop}
    (hk : K k a b c d sa sn sc) :
    Ld w (B.add 0) fun v14 => Ld w (B.add 1) fun v15 => Ld w (B.add 2) fun v16 => Ld w (B.add 3) fun v17 => Ld w (B.add 4) fun v18 => Ld w (B.add 5) fun v19 =>
      opI .u8 v14 fun x20 => opI .u64 v15 fun x21 => opI .u64 v16 fun x22 => opI .u64 v17 fun x23 => opI .u64 v18 fun x24 => opL v19 fun a25 n26 n27 => K x20 x21 x22 x23 x24 a25 n26 n27 :=
  Ld_in h.1 <| Ld_in h.2.1 <| Ld_in h.2.2.1 <| Ld_in h.2.2.2.1 <| Ld_in h.2.2.2.2.1 <| Ld_in h.2.2.2.2.2 <| opI_in <| opI_in <| opI_in <| opI_in <| opI_in <| opL_in hk
end Fk
set_option linter.unusedVariables false
namespace Fk
open Go Go.Proofs Go.RowKit
/-- A type of slices, of elements of so many cells and bytes. -/
structure RowT (P : Program) (t e : TypeId) (size bytes : Nat) : Prop where
  ht : P.underlying t = some (.slice e)
  hi : ∃ i z, P.info? e = some i ∧ i.zero = some z ∧ i.size = size ∧ i.bytes = bytes ∧ z.cells.size = size
  pos : 0 < size
theorem RowT.of {P : Program} {t e : TypeId} {size bytes : Nat} (h1 : P.underlying t = some (.slice e)) (h2 : (P.info? e).map (fun i => (i.size, i.bytes)) = some (size, bytes))
    (h3 : ((P.info? e).bind (·.zero)).map (·.cells.size) = some size) (h4 : 0 < size) : RowT P t e size bytes := by
  refine ⟨h1, ?_, h4⟩
  cases hi : P.info? e with
  | none => simp [hi] at h2
  | some i =>
    simp only [hi, Option.map_some, Option.some.injEq, Prod.mk.injEq, Option.bind_some] at h2 h3
    cases hz : i.zero with
    | none => simp [hz] at h3
    | some z => simp only [hz, Option.map_some, Option.some.injEq] at h3; exact ⟨i, z, rfl, hz, h2.1, h2.2, h3⟩
/-- A way to lay out elements. -/
structure Enc {α : Type} (size : Nat) (enc : α → List Value) : Prop where
  len : ∀ x, (enc x).length = size
  one : ∀ x, ∀ v ∈ enc x, v.oneCell' = true
theorem Enc.lenL {α : Type} {size : Nat} {enc : α → List Value} (h : Enc size enc) : ∀ l : List α, (l.flatMap enc).length = l.length * size
  | [] => by simp
  | x :: l => by rw [List.flatMap_cons, List.length_append, h.len, h.lenL l, List.length_cons, Nat.succ_mul]; omega
theorem Enc.oneL {α : Type} {size : Nat} {enc : α → List Value} (h : Enc size enc) (l : List α) : ∀ v ∈ l.flatMap enc, v.oneCell' = true := by
  intro v hv
  obtain ⟨x, _, hx⟩ := List.mem_flatMap.1 hv
  exact h.one x v hx
theorem Enc.at {α : Type} {size : Nat} {enc : α → List Value} (h : Enc size enc) : ∀ (l : List α) (i j : Nat) (x : α), l[i]? = some x → j < size → (l.flatMap enc)[i * size + j]? = (enc x)[j]?
  | [], i, j, x, hx, hj => by simp at hx
  | y :: l, 0, j, x, hx, hj => by
    simp at hx; subst hx
    rw [List.flatMap_cons, Nat.zero_mul, Nat.zero_add, List.getElem?_append_left (by rw [h.len]; exact hj)]
  | y :: l, i + 1, j, x, hx, hj => by
    simp at hx
    rw [List.flatMap_cons, Nat.succ_mul, List.getElem?_append_right (by rw [h.len]; omega), h.len, show i * size + size + j - size = i * size + j by omega]
    exact h.at l i j x hx hj
/-- A row of one's own: no older than 'base'. -/
def OwnL {α : Type} (w : World) (base : Nat) (e : TypeId) (size : Nat) (enc : α → List Value) (a : Option Addr) (c : Nat) (l : List α) : Prop :=
  w.ownsRow base e size (.slice a l.length c) l.length (l.flatMap enc)
theorem Md_of_grown {w w' : World} {row : Option Nat} (h : w.grownBy w' row) : Md row.toList w w' :=
  ⟨h.os, h.tape, h.output, h.size, fun k hk hm => h.block k hk fun e => hm (by rw [← e]; simp)⟩
section
variable {α : Type} {w w' : World} {base : Nat} {e : TypeId} {size : Nat} {enc : α → List Value} {a : Option Addr} {c : Nat} {l : List α}
theorem OwnL.nil (w : World) (base : Nat) (e : TypeId) (size : Nat) (enc : α → List Value) : OwnL w base e size enc none 0 [] := World.ownsRow_nil w base e size
theorem OwnL.lt (h : OwnL w base e size enc a c l) {A : Addr} (ha : a = some A) : base ≤ A.block ∧ A.block < w.heap.size := World.ownsRow.lt h A.block (by subst ha; rfl)
theorem OwnL.mdD {D : List Nat} (h : OwnL w base e size enc a c l) (hm : Md D w w') (hD : ∀ A, a = some A → A.block ∉ D) : OwnL w' base e size enc a c l := by
  refine ⟨h.1, ?_⟩
  rcases h.2 with hn | ⟨g, cap, cur, hv, hb, hg, rest⟩
  · exact .inl hn
  · refine .inr ⟨g, cap, cur, hv, hb, ?_, rest⟩
    simp only [Value.slice.injEq] at hv
    rw [hm.blk g (Array.getElem?_eq_some_iff.1 hg).1 (hD _ hv.1)]
    exact hg
theorem OwnL.md (h : OwnL w base e size enc a c l) (hm : Md [] w w') : OwnL w' base e size enc a c l := h.mdD hm (by simp)
/-- What is made anew elsewhere leaves it. -/
theorem OwnL.mdN {D : List Nat} (h : OwnL w base e size enc a c l) (hm : Md D w w') (hD : ∀ d ∈ D, w.heap.size ≤ d) : OwnL w' base e size enc a c l := h.md (hm.fresh hD)
theorem OwnL.down {b : Nat} (h : OwnL w base e size enc a c l) (hb : b ≤ base) : OwnL w b e size enc a c l := by
  refine ⟨h.1, ?_⟩
  rcases h.2 with hn | ⟨g, cap, cur, hv, hb', rest⟩
  · exact .inl hn
  · exact .inr ⟨g, cap, cur, hv, Nat.le_trans hb hb', rest⟩
/-- Its cells. -/
theorem OwnL.cells (h : OwnL w base e size enc a c l) : ∀ j u, (l.flatMap enc)[j]? = some u → ∃ A, a = some A ∧ w.cell? (A.add j) = some u := by
  intro j u hu
  rcases h.2 with ⟨hv, hn⟩ | ⟨g, cap, cur, hv, _⟩
  · have hl : l = [] := List.eq_nil_of_length_eq_zero hn
    subst hl; simp at hu
  · simp only [Value.slice.injEq] at hv
    refine ⟨⟨g, 0, none⟩, hv.1, ?_⟩
    exact World.ownsRow.cells h (by rw [hv.1]; rfl) j u hu
theorem OwnL.at (h : OwnL w base e size enc a c l) (he : Enc size enc) {i : Nat} {x : α} (hx : l[i]? = some x) :
    ∃ A, a = some A ∧ ∀ j u, (enc x)[j]? = some u → w.cell? ((A.add (i * size)).add j) = some u := by
  rcases h.2 with ⟨hv, hn⟩ | ⟨g, cap, cur, hv, _⟩
  · have hl : l = [] := List.eq_nil_of_length_eq_zero hn
    subst hl; simp at hx
  · simp only [Value.slice.injEq] at hv
    refine ⟨⟨g, 0, none⟩, hv.1, fun j u hu => ?_⟩
    have hj : j < size := by rw [← he.len x]; exact (List.getElem?_eq_some_iff.1 hu).1
    have h1 := World.ownsRow.cells h (g := g) (by rw [hv.1]; rfl) (i * size + j) u (by rw [he.at l i j x hx hj]; exact hu)
    simp only [Addr.add_lit, Nat.zero_add] at h1 ⊢
    exact h1
theorem OwnL.lit {P : Program} (he : Enc size enc) (w : World) (e : TypeId) (l : List α) (cs : Array Value) (hb : base ≤ w.heap.size) (hm : l.length ≤ maxLen) (hs : cs.toList = l.flatMap enc) :
    OwnL (w.alloc (.cells cs e)) base e size enc (some ⟨w.heap.size, 0, none⟩) l.length l := by
  have h := World.ownsRow_lit (w := w) (e := e) (size := size) cs l.length hb hm (by rw [← Array.length_toList, hs, he.lenL])
  unfold OwnL
  rw [← hs]
  exact h
end
theorem own_slice {w : World} {base : Nat} {e : TypeId} {size : Nat} {v : Value} {n : Nat} {xs : List Value} (h : w.ownsRow base e size v n xs) : ∃ a c, v = .slice a n c := by
  rcases h.2 with ⟨rfl, hn0⟩ | ⟨g', cap', cur', rfl, _⟩
  · exact ⟨none, 0, by rw [hn0]⟩
  · exact ⟨_, _, rfl⟩
theorem own_blk {w : World} {base : Nat} {e : TypeId} {size : Nat} {a : Option Addr} {m c : Nat} {n : Nat} {xs : List Value} (h : w.ownsRow base e size (.slice a m c) n xs) : ∀ A, a = some A → base ≤ A.block :=
  fun A hA => (World.ownsRow.lt h A.block (by subst hA; rfl)).1
/-- The append itself. -/
theorem run_app {P : Program} {t ty e : TypeId} {size bytes : Nat} (T : RowT P t e size bytes) {w : World} {base : Nat} {a : Option Addr} {n c : Nat} {xs : List Value} (h : w.ownsRow base e size (.slice a n c) n xs)
    (A2 : Addr) (m c2 : Nat) (news : List Value) (hl : news.length = m * size) (hnews : ∀ j u, news[j]? = some u → w.cell? (A2.add j) = some u) (h1 : ∀ u ∈ news, u.oneCell' = true)
    (hn : n + m ≤ maxLen) (hby : (n + m) * bytes ≤ 140737488355328) (hb : base ≤ w.heap.size) :
    ∃ a' c' w', (Builtin.append_ #[t, t] ty #[.slice a n c, .slice (some A2) m c2]).run P w = .ok (.slice a' (n + m) c') w' ∧ w'.ownsRow base e size (.slice a' (n + m) c') (n + m) (xs ++ news) ∧
      Md (a.map (·.block)).toList w w' ∧ (∀ A, a' = some A → a = some A ∨ w.heap.size ≤ A.block) := by
  obtain ⟨i, z, hi, hz, hs, hy, hzs⟩ := T.hi
  have dn : ∀ {w' : World} {v : Value} {k : Nat} {ys : List Value}, w'.ownsRow w.heap.size e size v k ys → w'.ownsRow base e size v k ys := by
    intro w' v k ys h
    refine ⟨h.1, ?_⟩
    rcases h.2 with hn | ⟨g, cap, cur, hv, hb', rest⟩
    · exact .inl hn
    · exact .inr ⟨g, cap, cur, hv, Nat.le_trans hb hb', rest⟩
  rcases h.2 with ⟨hv, hn0⟩ | ⟨g, cap, cur, hv, hbg, hg, hnc, hrest⟩
  · simp only [Value.slice.injEq] at hv
    obtain ⟨rfl, _, rfl⟩ := hv
    subst hn0
    have hx : xs = [] := List.eq_nil_of_length_eq_zero (by simpa using h.1)
    subst hx
    obtain ⟨v', w', hr, ho, hgr, _⟩ := run_append_own (P := P) w (ty := ty) w.heap.size t e i z size bytes T.ht hi hz hs hy hzs T.pos _ 0 [] (World.ownsRow_nil w _ e size) A2 m c2 news hl hnews h1 hn hby (Nat.le_refl _)
    obtain ⟨a', c', rfl⟩ := own_slice ho
    exact ⟨a', c', w', hr, dn ho, Md_of_grown hgr, fun A hA => .inr (own_blk ho A hA)⟩
  · simp only [Value.slice.injEq] at hv
    obtain ⟨rfl, _, rfl⟩ := hv
    by_cases hroom : n + m ≤ c
    · obtain ⟨w', hr, ho, hgr⟩ := run_append_fits (P := P) w (ty := ty) base t e i size T.ht hi hs g n c xs h A2 m c2 news hl hnews h1 hroom
      exact ⟨_, _, w', hr, ho, Md_of_grown hgr, fun A hA => .inl hA⟩
    · have hsz : 0 < size := T.pos
      obtain ⟨v', w', hr, ho, hgr⟩ := run_append_arg_grows (P := P) w (ty := ty) t e i z size bytes T.ht hi hz hs hy hzs T.pos ⟨g, 0, none⟩ n c xs h.1 (World.ownsRow.cells h rfl) A2 m c2 news hl hnews (by omega) hn hby
      obtain ⟨a', c', rfl⟩ := own_slice ho
      exact ⟨a', c', w', hr, dn ho, (Md_of_grown hgr).mono (by simp), fun A hA => .inr (own_blk ho A hA)⟩
/-- Behind a row of one's own comes what another one has. -/
theorem app_own {α : Type} {P : Program} {t ty e : TypeId} {size bytes : Nat} (T : RowT P t e size bytes) {enc : α → List Value} (he : Enc size enc) {w : World} {base base2 : Nat} {a a2 : Option Addr} {c c2 : Nat} {l l2 : List α} {L : List Nat}
    (h : OwnL w base e size enc a c l) (h2 : OwnL w base2 e size enc a2 c2 l2) (hb : base ≤ w.heap.size) (hL : ∀ b ∈ L, b < w.heap.size) (hLa : ∀ b ∈ L, ∀ A, a = some A → A.block ≠ b)
    (hn : l.length + l2.length ≤ maxLen) (hby : (l.length + l2.length) * bytes ≤ 140737488355328) {K : Value → World → Prop}
    (k : ∀ (a' : Option Addr) (c' : Nat) (w' : World), OwnL w' base e size enc a' c' (l ++ l2) → Md (a.map (·.block)).toList w w' → (∀ A, a' = some A → a = some A ∨ w.heap.size ≤ A.block) → K (.slice a' (l ++ l2).length c') w') :
    RunW P L (Builtin.append_ #[t, t] ty #[.slice a l.length c, .slice a2 l2.length c2]) K w := by
  rcases h2.2 with ⟨hv, hn0⟩ | ⟨g, cap, cur, hv, _⟩
  · have hl : l2 = [] := List.eq_nil_of_length_eq_zero hn0
    subst hl
    obtain ⟨i, z, hi, hz, hs, hy, hzs⟩ := T.hi
    have := run_append_owned_none (P := P) w (ty := ty) base t e i size T.ht hi _ _ _ h
    rw [hv]
    refine RunW_in0 this ?_
    have hk := k a c w (by simpa using h) (Md.refl _ _) (fun A hA => .inl hA)
    simpa using hk
  · simp only [Value.slice.injEq] at hv
    obtain ⟨rfl, _, rfl⟩ := hv
    obtain ⟨a', c', w', hr, ho, hm, hA⟩ := run_app (ty := ty) T h ⟨g, 0, none⟩ l2.length c2 (l2.flatMap enc) (he.lenL l2) (World.ownsRow.cells h2 rfl) (he.oneL l2) hn hby hb
    refine RunW_in hr (fun b hbL => hm.blk b (hL b hbL) fun hmem => ?_) ?_
    · cases a with
      | none => simp at hmem
      | some A => simp at hmem; exact hLa b hbL A rfl hmem.symm
    · have := k a' c' w' (by unfold OwnL; rw [List.flatMap_append, List.length_append]; exact ho) hm hA
      rwa [List.length_append] at this
/-- One element more, from where it has just been laid. -/
theorem app_one {α : Type} {P : Program} {t ty e : TypeId} {size bytes : Nat} (T : RowT P t e size bytes) {enc : α → List Value} (he : Enc size enc) {w : World} {base : Nat} {a : Option Addr} {c : Nat} {l : List α} {L : List Nat} {cs : Array Value} (x : α) (hcs : cs.toList = enc x)
    (h : OwnL w base e size enc a c l) (hb : base ≤ w.heap.size) (hL : ∀ b ∈ L, b < w.heap.size) (hLa : ∀ b ∈ L, ∀ A, a = some A → A.block ≠ b)
    (hn : l.length + 1 ≤ maxLen) (hby : (l.length + 1) * bytes ≤ 140737488355328) {K : Value → World → Prop}
    (k : ∀ (a' : Option Addr) (c' : Nat) (w' : World), OwnL w' base e size enc a' c' (l ++ [x]) → Md (a.map (·.block)).toList w w' → (∀ A, a' = some A → a = some A ∨ w.heap.size ≤ A.block) → K (.slice a' (l ++ [x]).length c') w') :
    Nw (.cells cs e) w fun b w' => RunW P L (Builtin.append_ #[t, t] ty #[.slice a l.length c, .slice (some { block := b, off := 0 }) 1 1]) K w' := by
  intro b w1 eb e1
  subst eb; subst e1
  have h2 := OwnL.lit (P := P) (base := w.heap.size) he w e [x] cs (Nat.le_refl _) (by simp [maxLen]) (by simpa using hcs)
  have hs : w.heap.size ≤ (w.alloc (.cells cs e)).heap.size := by simp
  refine app_own T he (h.md (Md.alloc w _)) h2 (Nat.le_trans hb hs) (fun b hbL => Nat.lt_of_lt_of_le (hL b hbL) hs) hLa hn hby fun a' c' w' ho hm hA => k a' c' w' ho ?_ fun A hA' => (hA A hA').imp id (Nat.le_trans hs)
  exact (Md.alloc w _).trans hm
abbrev Q4 := Int × Int × Int × Int
def q4 (q : Q4) : List Value := [.int .u64 q.1, .int .u64 q.2.1, .int .u64 q.2.2.1, .int .u64 q.2.2.2]
theorem enc4 : Enc 4 q4 := ⟨fun _ => rfl, by intro x v hv; simp [q4] at hv; rcases hv with rfl | rfl | rfl | rfl <;> rfl⟩
theorem rowT43 : RowT Try.prog 43 28 4 32 := RowT.of (by kernel_rfl) (by kernel_rfl) (by kernel_rfl) (by omega)
abbrev OwnS (w : World) (base : Nat) (a : Option Addr) (c : Nat) (l : List Q4) : Prop := OwnL w base 28 4 q4 a c l
end Fk
set_option linter.unusedVariables false
set_option linter.unusedSimpArgs false
set_option maxRecDepth 4000
namespace Fk
open Go Go.Proofs Go.RowKit
theorem bit_and_one (y : Int) : ((BitVec.ofInt 64 y &&& BitVec.ofInt 64 1).toNat : Int) = y % 2 := by
  have h : (BitVec.ofInt 64 1) = 1#64 := rfl
  rw [h, BitVec.toNat_and]
  simp [BitVec.toNat_ofInt, Nat.and_one_is_mod]
  omega
/-- A word of a set. -/
def word (q : Q4) (i : Nat) : Int := match i with | 0 => q.1 | 1 => q.2.1 | 2 => q.2.2.1 | _ => q.2.2.2
/-- Is a byte in a set? -/
def inQ (q : Q4) (b : Nat) : Bool := decide (word q (b / 64) / 2 ^ (b % 64) % 2 = 1)
theorem nth_word (q : Q4) (i : Nat) (h : i < 4) : nthV [.int .u64 q.1, .int .u64 q.2.1, .int .u64 q.2.2.1, .int .u64 q.2.2.2] i = some (.int .u64 (word q i)) := by
  rcases i with _ | _ | _ | _ | i <;> first | rfl | omega
theorem u64_and (a b : BitVec 64) : IntKind.wrap .u64 ((a &&& b).toNat : Int) = ((a &&& b).toNat : Int) := by
  have := (a &&& b).isLt
  rw [IntKind.wrap_u64]
  generalize (a &&& b).toNat = m at *
  omega
theorem f214_ok (q : Q4) (b : Nat) (hb : b < 256) (w : World) :
    Ct Try.prog 214 #[.agg #[.int .u64 q.1, .int .u64 q.2.1, .int .u64 q.2.2.1, .int .u64 q.2.2.2], .int .i64 b] w fun v w' => v = .bool (inQ q b) ∧ Md [] w w' := by
  apply f214_in
  intro n1 hn1
  refine Bd_in fun x2 hx2 => ?_
  have e2 : x2 = ((b / 64 : Nat) : Int) := by rw [hx2, IntKind.wrap_i64, Int.tdiv_eq_ediv_of_nonneg (by omega)]; omega
  subst e2
  refine ⟨⟨by omega, by omega⟩, ?_⟩
  refine BdO_in (v := .int .u64 (word q (b / 64))) ?_ ?_
  · simp only [Int.toNat_natCast, Nat.zero_add, Nat.mul_one]
    exact nth_word q (b / 64) (by omega)
  refine opI_in ?_
  refine Bd_in fun x5 hx5 => ?_
  have e5 : x5 = ((b % 64 : Nat) : Int) := by rw [hx5, Int.tmod_eq_emod_of_nonneg (by omega)]; omega
  subst e5
  refine ⟨by omega, Bd_in fun x6 hx6 => Bd_in fun x7 hx7 => Bd_in fun b8 hb8 w9 h9 hL9 => ⟨?_, h9⟩⟩
  rw [hb8, hx7, u64_and, bit_and_one, hx6, Int.toNat_natCast, Nat.min_eq_left (by omega), Int.fdiv_eq_ediv_of_nonneg _ (Int.pow_nonneg (by decide))]
  simp only [inQ]
  exact congrArg Value.bool (by rw [Bool.eq_iff_iff]; simp)
end Fk
set_option linter.unusedVariables false
set_option linter.unusedSimpArgs false
set_option maxRecDepth 4000
namespace Fk
open Go Go.Proofs Go.RowKit
/-- Classes: of each byte, and how many. -/
structure Cl where
  f : List Nat
  m : Int
structure Cl.ok (c : Cl) : Prop where
  len : c.f.length = 256
  lt : ∀ i (h : i < c.f.length), c.f[i] < 256
  lo : -9223372036854775808 ≤ c.m
  hi : c.m ≤ 9223372036854775807
def Cl.l (c : Cl) : List Value := c.f.map (fun x => .int .u8 (x : Int)) ++ [.int .i64 c.m]
def Cl.v (c : Cl) : Array Value := c.l.toArray
theorem Cl.ok.size {c : Cl} (h : c.ok) : c.v.size = 257 := by simp [Cl.v, Cl.l, h.len]
theorem Cl.ok.nth {c : Cl} (h : c.ok) {i : Nat} (hi : i < c.f.length) : nthV c.v.toList i = some (.int .u8 (c.f[i] : Int)) := by
  simp [nthV, Cl.v, Cl.l, List.getElem?_append_left, hi]
theorem Cl.ok.nth' {c : Cl} (h : c.ok) {i : Nat} (hi : i < c.f.length) : nthV c.v.toList (0 + (i : Int).toNat * 1) = some (.int .u8 (c.f[i] : Int)) := by
  simp only [Int.toNat_natCast, Nat.zero_add, Nat.mul_one]
  exact h.nth hi
theorem Cl.ok.many {c : Cl} (h : c.ok) : nthV c.v.toList 256 = some (.int .i64 c.m) := by
  simp [nthV, Cl.v, Cl.l, h.len]
theorem Cl.ok.manyI {c : Cl} (h : c.ok) : isI .i64 c.v.toList 256 ∧ rdI c.v.toList 256 = c.m := by
  have := h.many
  unfold nthV at this
  exact ⟨⟨_, this⟩, by unfold rdI; rw [this]⟩
theorem wrap_byte {x : Nat} (h : x < 256) : IntKind.wrap .i64 (x : Int) = x := by rw [IntKind.wrap_i64]; omega
theorem inc_i64 {i : Nat} (h : i < 2 ^ 40) : IntKind.wrap .i64 ((i : Int) + 1) = ((i + 1 : Nat) : Int) := by rw [IntKind.wrap_i64]; omega
def rightGo : List Nat → Nat → Option Nat
  | [], n => some n
  | x :: l, n => if n < x then none else if x = n then rightGo l (n + 1) else rightGo l n
def Cl.right (c : Cl) : Bool := match rightGo c.f 0 with | none => false | some n => decide ((n : Int) = c.m)
theorem f44_ok (c : Cl) (hc : c.ok) (w : World) : Ct Try.prog 44 #[.agg c.v] w fun v w' => v = .bool c.right ∧ Md [] w w' := by
  apply f44_in
  intro n1 hn1 w2 h2 hL2
  refine LoopP_in (fun m us vs w' => ∃ i n : Nat, us = [.bool false, .int .i64 n, .int .i64 i] ∧ m = 256 - i ∧ i ≤ 256 ∧ n ≤ i ∧ rightGo c.f 0 = rightGo (c.f.drop i) n ∧ Md [] w w') 256 ⟨0, 0, rfl, rfl, by omega, by omega, by simp, h2⟩ ?_
  rintro m us vs w6 ⟨i, n, rfl, rfl, hi, hni, hg, h6⟩
  refine opB_in <| opI_in <| opI_in <| Bd_in fun b10 hb10 => If_in (fun hb => ?_) fun hb => ?_
  · subst hb10
    simp only [decide_eq_true_eq] at hb
    have hi' : i < c.f.length := by rw [hc.len]; omega
    have hx := hc.lt i hi'
    refine Jn_in (fun us vs w' => ∃ n' : Nat, us = [.bool false, .int .i64 n', .int .i64 i, .int .i64 c.f[i]] ∧ n' ≤ i + 1 ∧ rightGo c.f 0 = rightGo (c.f.drop (i + 1)) n' ∧ Md [] w w') ?_ ?_
    · rintro us vs w13 ⟨n', rfl, hn', hg', h13⟩
      refine opB_in <| opI_in <| opI_in <| opI_in <| Bd_in fun x18 hx18 => ?_
      rw [inc_i64 (by omega)] at hx18
      subst hx18
      exact ⟨256 - (i + 1), by omega, i + 1, n', rfl, rfl, by omega, by omega, hg', h13⟩
    · refine ⟨⟨by omega, by omega⟩, BdO_in (hc.nth' hi') ?_⟩
      refine opI_in <| Bd_in fun x22 hx22 => ?_
      rw [wrap_byte hx] at hx22
      subst hx22
      rw [List.drop_eq_getElem_cons hi', rightGo] at hg
      refine Bd_in fun b23 hb23 => If_in (fun h => ⟨?_, h6⟩) fun h => Bd_in fun b24 hb24 => If_in (fun h' => Bd_in fun x25 hx25 => ?_) fun h' => ?_
      · subst hb23
        simp only [decide_eq_true_eq] at h
        rw [if_pos (by omega)] at hg
        simp [Cl.right, hg]
      · subst hb23; subst hb24
        simp only [decide_eq_false_iff_not] at h
        simp only [beq_iff_eq] at h'
        rw [if_neg (by omega), if_pos (by omega)] at hg
        rw [inc_i64 (by omega)] at hx25
        subst hx25
        exact ⟨n + 1, rfl, by omega, hg, h6⟩
      · subst hb23; subst hb24
        simp only [decide_eq_false_iff_not] at h
        simp only [beq_eq_false_iff_ne] at h'
        rw [if_neg (by omega), if_neg (by omega)] at hg
        exact ⟨n, rfl, by omega, hg, h6⟩
  · subst hb10
    simp only [decide_eq_false_iff_not] at hb
    refine BdO_in hc.many ?_
    refine opI_in <| Bd_in fun b28 hb28 => ⟨?_, h6⟩
    have : c.f.drop i = [] := List.drop_of_length_le (by rw [hc.len]; omega)
    rw [this, rightGo] at hg
    rw [hb28, Cl.right, hg]
    exact congrArg Value.bool (by rw [Bool.eq_iff_iff]; simp)
def least : List Nat → Int → Nat
  | [], _ => 0
  | x :: l, k => if (x : Int) = k then 0 else least l k + 1
theorem least_le : ∀ (l : List Nat) (k : Int), least l k ≤ l.length
  | [], k => Nat.le_refl _
  | x :: l, k => by have := least_le l k; simp only [least, List.length_cons]; split <;> omega
def okK (f : List Nat) (k : Nat) : Bool := decide (least f k ≠ 256) && (decide (k = 0) || decide (least f ((k : Int) - 1) ≤ least f k))
def Cl.rightR (c : Cl) : Bool := decide (1 ≤ c.m) && decide (c.m ≤ 256) && c.f.all (fun x => decide ((x : Int) < c.m)) && (List.range c.m.toNat).all (okK c.f)
end Fk
set_option linter.unusedVariables false
set_option maxRecDepth 100000
namespace Fk
open Go Go.Proofs Go.RowKit
/-- Numbers, as cells. -/
def ints (k : IntKind) (l : List Int) : List Value := l.map (.int k)
theorem run_items {P : Program} {w : World} {e : TypeId} {q : IntKind} (hu : P.underlying e = some (.int q)) (hc : P.cellsOf e = 1) (d : Nat) (k : IntKind) (xs ys : List Int) :
    ∀ (n i : Nat), i + n = xs.length → xs.length = ys.length →
      (Op.eqItems (d + 1) e 1 (ints k xs).toArray (ints k ys).toArray (List.range' i n)).run P w = .ok (decide (xs.drop i = ys.drop i)) w
  | 0, i, h, hl => by
    have h1 : xs.drop i = [] := List.drop_of_length_le (by omega)
    have h2 : ys.drop i = [] := List.drop_of_length_le (by omega)
    simp [Op.eqItems, h1, h2]
  | n + 1, i, h, hl => by
    have hi : i < xs.length := by omega
    have hj : i < ys.length := by omega
    have ha : isAggT P e = false := by simp [isAggT, hu]
    have p1 : (part e (ints k xs).toArray (i * 1)).run P w = .ok (.int k xs[i]) w := by
      simp [part, run_isAgg hu, ha, ints, hi]
    have p2 : (part e (ints k ys).toArray (i * 1)).run P w = .ok (.int k ys[i]) w := by
      simp [part, run_isAgg hu, ha, ints, hj]
    have p3 : (Op.equalIn (d + 1) e (.int k xs[i]) (.int k ys[i])).run P w = .ok (xs[i] == ys[i]) w := by
      simp [Op.equalIn, run_underlying hu]
    rw [List.range'_succ]
    simp only [Op.eqItems, Sem.run_bind, p1, p2, p3, Result.andThen_ok]
    have ex : (xs.drop i = ys.drop i) = (xs[i] = ys[i] ∧ xs.drop (i + 1) = ys.drop (i + 1)) := by
      rw [List.drop_eq_getElem_cons hi, List.drop_eq_getElem_cons hj, List.cons.injEq]
    simp only [ex]
    by_cases he : xs[i] = ys[i]
    · simp only [he, BEq.rfl, Bool.not_true, Bool.false_eq_true, if_false]
      rw [run_items hu hc d k xs ys n (i + 1) (by omega) hl]
      simp
    · simp [he]
theorem run_equal_ints {P : Program} {w : World} {t e : TypeId} {q : IntKind} {n : Nat} {i : TypeInfo} (ht : P.underlying t = some (.array n e)) (hi : P.info? e = some i) (hu : P.underlying e = some (.int q))
    (hc : P.cellsOf e = 1) (k : IntKind) (xs ys : List Int) (hx : xs.length = n) (hy : ys.length = n) (d : Nat) :
    (Op.equalIn (d + 2) t (.agg (ints k xs).toArray) (.agg (ints k ys).toArray)).run P w = .ok (decide (xs = ys)) w := by
  rw [run_equalIn_array w (d + 1) _ _ ht hi, hc, List.range_eq_range', run_items hu hc d k xs ys n 0 (by omega) (by omega)]
  simp
theorem eqS_ints {P : Program} {w : World} {t e : TypeId} {q : IntKind} {n : Nat} (ht : P.underlying t = some (.array n e)) (hi : (P.info? e).isSome = true) (hu : P.underlying e = some (.int q))
    (hc : P.cellsOf e = 1) (hg : P.eqGuardType P.depth t = false) (k : IntKind) (xs ys : List Int) (hx : xs.length = n) (hy : ys.length = n) (o1 o2 : Operand) :
    (eqS .eql t o1 o2 (.agg (ints k xs).toArray) (.agg (ints k ys).toArray)).run P w = .ok (.bool (decide (xs = ys))) w ∧
    (eqS .neq t o1 o2 (.agg (ints k xs).toArray) (.agg (ints k ys).toArray)).run P w = .ok (.bool (!decide (xs = ys))) w := by
  obtain ⟨i, hi⟩ := Option.isSome_iff_exists.1 hi
  have h := run_equal_ints (w := w) ht hi hu hc k xs ys hx hy 9998
  constructor
  · unfold eqS eqGuard binOp Op.equal
    simp only [Sem.run_bind]
    simp [hg, h, Op.maxDepth]
  · unfold eqS eqGuard binOp Op.equal
    simp only [Sem.run_bind]
    simp [hg, h, Op.maxDepth]
/-- Four words of a set, as a value. -/
abbrev setV (a b c d : Int) : Value := .agg #[.int .u64 a, .int .u64 b, .int .u64 c, .int .u64 d]
theorem eq28 (o1 o2 : Operand) (a b c d a' b' c' d' : Int) (w : World) :
    (eqS .eql 28 o1 o2 (setV a b c d) (setV a' b' c' d')).run Try.prog w = .ok (.bool (decide ([a, b, c, d] = [a', b', c', d']))) w :=
  (eqS_ints (t := 28) (e := 26) (q := .u64) (n := 4) (by kernel_rfl) (by kernel_rfl) (by kernel_rfl) (by kernel_rfl) (by kernel_rfl) .u64 [a, b, c, d] [a', b', c', d'] rfl rfl o1 o2).1
theorem ne28 (o1 o2 : Operand) (a b c d a' b' c' d' : Int) (w : World) :
    (eqS .neq 28 o1 o2 (setV a b c d) (setV a' b' c' d')).run Try.prog w = .ok (.bool (!decide ([a, b, c, d] = [a', b', c', d']))) w :=
  (eqS_ints (t := 28) (e := 26) (q := .u64) (n := 4) (by kernel_rfl) (by kernel_rfl) (by kernel_rfl) (by kernel_rfl) (by kernel_rfl) .u64 [a, b, c, d] [a', b', c', d'] rfl rfl o1 o2).2
end Fk
set_option linter.unusedVariables false
set_option linter.unusedSimpArgs false
set_option linter.unusedSectionVars false
set_option maxRecDepth 100000
namespace Fk
open Go Go.Proofs Go.RowKit
/-- What is compared as what it stands for. -/
def EqT {α : Type} [DecidableEq α] (P : Program) (t : TypeId) (v : α → Value) (n : Nat) : Prop :=
  ∀ (d : Nat) (w : World) (a b : α), n ≤ d → (Op.equalIn d t (v a) (v b)).run P w = .ok (decide (a = b)) w
theorem EqT.int {P : Program} {t : TypeId} {q : IntKind} (hu : P.underlying t = some (.int q)) (k : IntKind) : EqT P t (fun x : Int => .int k x) 1 := by
  intro d w a b hd
  obtain ⟨d, rfl⟩ := Nat.exists_eq_add_of_le' hd
  simp only [Op.equalIn, Sem.run_bind, run_underlying hu, Result.andThen_ok]
  simp [Bool.beq_eq_decide_eq]
theorem EqT.bool {P : Program} {t : TypeId} (hu : P.underlying t = some .bool) : EqT P t (fun x : Bool => .bool x) 1 := by
  intro d w a b hd
  obtain ⟨d, rfl⟩ := Nat.exists_eq_add_of_le' hd
  simp only [Op.equalIn, Sem.run_bind, run_underlying hu, Result.andThen_ok]
  simp [Bool.beq_eq_decide_eq]
/-- Two structs, field by field. -/
theorem run_eqFields_cons {P : Program} {w : World} {d : Nat} {xs ys : Array Value} {f : Field} {fs : List Field} {a b : Value} {r s : Bool} (hn : f.name ≠ "_")
    (ha : (part f.type xs f.offset).run P w = .ok a w) (hb : (part f.type ys f.offset).run P w = .ok b w) (he : (Op.equalIn d f.type a b).run P w = .ok r w)
    (hr : (Op.eqFields d xs ys fs).run P w = .ok s w) : (Op.eqFields d xs ys (f :: fs)).run P w = .ok (r && s) w := by
  simp only [Op.eqFields, hn, ne_eq, not_false_eq_true, if_true, Sem.run_bind, ha, hb, he, Result.andThen_ok]
  cases r <;> simp [hr]
theorem eqS_of {P : Program} {w : World} {t : TypeId} {xs ys : Array Value} {r : Bool} (hg : P.eqGuardType P.depth t = false) (h : (Op.equalIn 10000 t (.agg xs) (.agg ys)).run P w = .ok r w) (o1 o2 : Operand) :
    (eqS .eql t o1 o2 (.agg xs) (.agg ys)).run P w = .ok (.bool r) w ∧ (eqS .neq t o1 o2 (.agg xs) (.agg ys)).run P w = .ok (.bool (!r)) w := by
  constructor
  · unfold eqS eqGuard binOp Op.equal
    simp only [Sem.run_bind]
    simp [hg, h, Op.maxDepth]
  · unfold eqS eqGuard binOp Op.equal
    simp only [Sem.run_bind]
    simp [hg, h, Op.maxDepth]
/-- A kind of maps: how keys and values are laid. -/
structure MapT {K V : Type} [DecidableEq K] (P : Program) (mt kt et : TypeId) (d : TypeDesc) (kv : K → Value) (vv : V → Value) : Prop where
  hm : P.underlying mt = some (.map kt et)
  hk : P.underlying kt = some d
  check : ∀ (em : Bool) (w : World) (k : K), (Instr.checkKey em 10000 kt (kv k)).run P w = .ok () w
  eq : EqT P kt kv 10000
  now : ∀ a b, Instr.sameNow d (kv a) (kv b) = none ∨ Instr.sameNow d (kv a) (kv b) = some (decide (a = b))
def findI {K V : Type} [DecidableEq K] (k : K) : List (K × V) → Nat → Option (Nat × V)
  | [], _ => none
  | p :: l, i => if k = p.1 then some (i, p.2) else findI k l (i + 1)
/-- What a map has, the eldest first. -/
def MapAt {K V : Type} (w : World) (r : Nat) (kv : K → Value) (vv : V → Value) (l : List (K × V)) : Prop :=
  ∃ es clock, w.heap[r]? = some (.map es clock) ∧ es.toList.map (fun e => (e.key, e.val)) = l.map (fun p => (kv p.1, vv p.2))
section
variable {K V : Type} [DecidableEq K] {P : Program} {mt kt et : TypeId} {d : TypeDesc} {kv : K → Value} {vv : V → Value}
theorem MapT.asking (T : MapT P mt kt et d kv vv) (w : World) (k : K) : ∀ (es : List MapEntry) (l : List (K × V)) (i : Nat), es.map (fun e => (e.key, e.val)) = l.map (fun p => (kv p.1, vv p.2)) →
    (Instr.findAsking kt (kv k) es i).run P w = .ok ((findI k l i).map fun p => (p.1, vv p.2)) w
  | [], [], i, _ => by simp [Instr.findAsking, findI]
  | [], _ :: _, _, h => by simp at h
  | _ :: _, [], _, h => by simp at h
  | e :: es, p :: l, i, h => by
    simp only [List.map_cons, List.cons.injEq, Prod.mk.injEq] at h
    have he := T.eq 10000 w k p.1 (Nat.le_refl _)
    simp only [Instr.findAsking, Sem.run_bind, Op.equal, Op.maxDepth, h.1.1, he, Result.andThen_ok, findI]
    by_cases hc : k = p.1
    · simp [hc, h.1.2]
    · simp only [hc, decide_false, Bool.false_eq_true, if_false]
      exact T.asking w k es l (i + 1) h.2
theorem MapT.now' (T : MapT P mt kt et d kv vv) (k : K) : ∀ (es : List MapEntry) (l : List (K × V)) (i : Nat), es.map (fun e => (e.key, e.val)) = l.map (fun p => (kv p.1, vv p.2)) →
    Instr.findNow d (kv k) es i = none ∨ Instr.findNow d (kv k) es i = some ((findI k l i).map fun p => (p.1, vv p.2))
  | [], [], i, _ => by simp [Instr.findNow, findI]
  | [], _ :: _, _, h => by simp at h
  | _ :: _, [], _, h => by simp at h
  | e :: es, p :: l, i, h => by
    simp only [List.map_cons, List.cons.injEq, Prod.mk.injEq] at h
    simp only [Instr.findNow, findI, h.1.1]
    rcases T.now k p.1 with hn | hn
    · left; rw [hn]
    · rw [hn]
      by_cases hc : k = p.1
      · right; simp [hc, h.1.2]
      · simp only [hc, decide_false, if_false]
        exact T.now' k es l (i + 1) h.2
theorem MapT.find (T : MapT P mt kt et d kv vv) (w : World) (k : K) (es : List MapEntry) (l : List (K × V)) (h : es.map (fun e => (e.key, e.val)) = l.map (fun p => (kv p.1, vv p.2))) :
    (Instr.findKey kt (kv k) es).run P w = .ok ((findI k l 0).map fun p => (p.1, vv p.2)) w := by
  unfold Instr.findKey
  simp only [Sem.run_bind, run_underlying T.hk, Result.andThen_ok]
  rcases T.now' k es l 0 h with hn | hn
  · rw [hn]; exact T.asking w k es l 0 h
  · rw [hn]; simp
theorem MapT.lookup (T : MapT P mt kt et d kv vv) {w : World} {r : Nat} {l : List (K × V)} (h : MapAt w r kv vv l) (k : K) (z : Value) (hz : (zeroValue et).run P w = .ok z w) :
    (Instr.lookup mt (.map (some r)) (kv k) true).run P w = .ok (.tuple #[((findI k l 0).map fun p => vv p.2).getD z, .bool (findI k l 0).isSome]) w := by
  obtain ⟨es, clock, hb, he⟩ := h
  have hf := T.find w k es.toList l he
  cases hfi : findI k l 0 with
  | none => simp [Instr.lookup, run_underlying T.hm, MapKept.run_getObj_map hb, T.check, hf, hfi, hz, Result.andThen]
  | some p => simp [Instr.lookup, run_underlying T.hm, MapKept.run_getObj_map hb, T.check, hf, hfi, hz, Result.andThen]
theorem Md_set {w : World} {r : Nat} (o : Obj) : Md [r] w { w with heap := w.heap.setIfInBounds r o } := by
  refine ⟨rfl, rfl, rfl, by simp, fun k hk hm => ?_⟩
  have : k ≠ r := by simpa using hm
  simp [Array.getElem?_setIfInBounds, Ne.symm this]
theorem MapT.add (T : MapT P mt kt et d kv vv) {w : World} {r : Nat} {l : List (K × V)} (h : MapAt w r kv vv l) (k : K) (v : V) (hf : findI k l 0 = none) :
    ∃ w', (Instr.mapUpdate mt (.map (some r)) (kv k) (vv v)).run P w = .ok () w' ∧ MapAt w' r kv vv (l ++ [(k, v)]) ∧ Md [r] w w' := by
  obtain ⟨es, clock, hb, he⟩ := h
  have hf' := T.find w k es.toList l he
  rw [hf] at hf'
  refine ⟨{ w with heap := w.heap.setIfInBounds r (.map (es.push { key := kv k, val := vv v, born := clock }) (clock + 1)) }, ?_, ⟨_, _, (MapKept.heap_set hb).1, ?_⟩, Md_set _⟩
  · simp [Instr.mapUpdate, run_underlying T.hm, MapKept.run_getObj_map hb, T.check, hf', MapKept.run_setObj_map _ hb, Result.andThen]
  · simp [he]
theorem run_len_map {a c kt et : TypeId} (ha : P.underlying a = some (.map kt et)) {w : World} {r : Nat} {l : List (K × V)} (h : MapAt w r kv vv l) : (Builtin.len_ #[a] c #[.map (some r)]).run P w = .ok (.int .i64 l.length) w := by
  obtain ⟨es, clock, hb, he⟩ := h
  have : es.size = l.length := by have := congrArg List.length he; simpa using this
  simp [Builtin.len_, run_underlying ha, MapKept.run_getObj_map hb, this, Result.andThen, goInt]
theorem MapAt.md {w w' : World} {D : List Nat} {r : Nat} {l : List (K × V)} (h : MapAt w r kv vv l) (hm : Md D w w') (hr : r ∉ D) : MapAt w' r kv vv l := by
  obtain ⟨es, clock, hb, he⟩ := h
  exact ⟨es, clock, by rw [hm.blk r (Array.getElem?_eq_some_iff.1 hb).1 hr]; exact hb, he⟩
theorem MapAt.lt {w : World} {r : Nat} {l : List (K × V)} (h : MapAt w r kv vv l) : r < w.heap.size := by
  obtain ⟨es, clock, hb, he⟩ := h
  exact (Array.getElem?_eq_some_iff.1 hb).1
theorem MapAt.new (w : World) (kv : K → Value) (vv : V → Value) : MapAt (w.alloc (.map #[] 0)) w.heap.size kv vv ([] : List (K × V)) :=
  ⟨#[], 0, heap_alloc_new w _, rfl⟩
end
theorem part_cell {P : Program} {w : World} {t : TypeId} {d : TypeDesc} (hu : P.underlying t = some d) (ha : isAggT P t = false) {xs : Array Value} {o : Nat} {v : Value} (h : xs[o]? = some v) : (part t xs o).run P w = .ok v w := by
  simp [part, run_isAgg hu, ha, h]
theorem part_agg {P : Program} {w : World} {t : TypeId} {d : TypeDesc} (hu : P.underlying t = some d) (ha : isAggT P t = true) {n : Nat} (hs : (Go.sizeOf t).run P w = .ok n w) {xs : Array Value} {o : Nat} : (part t xs o).run P w = .ok (.agg (xs.extract o (o + n))) w := by
  simp [part, run_isAgg hu, ha, hs]
def fieldsL (P : Program) (t : TypeId) : List (Bool × TypeId × Nat) := (P.fieldsOf t).toList.map fun f => (decide (f.name = "_"), f.type, f.offset)
theorem two_fields {fs : Array Field} {t1 t2 : TypeId} {o1 o2 : Nat} (hF : fs.toList.map (fun f => (decide (f.name = "_"), f.type, f.offset)) = [(false, t1, o1), (false, t2, o2)]) :
    ∃ f1 f2, fs = #[f1, f2] ∧ f1.name ≠ "_" ∧ f1.type = t1 ∧ f1.offset = o1 ∧ f2.name ≠ "_" ∧ f2.type = t2 ∧ f2.offset = o2 := by
  obtain ⟨l⟩ := fs
  cases l with
  | nil => simp at hF
  | cons f1 l =>
    cases l with
    | nil => simp at hF
    | cons f2 l =>
      cases l with
      | nil =>
        simp only [List.map_cons, List.map_nil, List.cons.injEq, Prod.mk.injEq, decide_eq_false_iff_not, and_true] at hF
        exact ⟨f1, f2, rfl, hF.1.1, hF.1.2.1, hF.1.2.2, hF.2.1, hF.2.2.1, hF.2.2.2⟩
      | cons f3 l => simp at hF
theorem run_struct2 {P : Program} {w : World} {t t1 t2 : TypeId} {o1 o2 : Nat} (ht : P.underlying t = some (.struct (P.fieldsOf t))) (hp : P.stoodInHeld t = false) (hF : fieldsL P t = [(false, t1, o1), (false, t2, o2)]) {d : Nat} {xs ys : Array Value}
    {a1 b1 a2 b2 : Value} {r1 r2 : Bool} (ha1 : (part t1 xs o1).run P w = .ok a1 w) (hb1 : (part t1 ys o1).run P w = .ok b1 w) (he1 : (Op.equalIn d t1 a1 b1).run P w = .ok r1 w)
    (ha2 : (part t2 xs o2).run P w = .ok a2 w) (hb2 : (part t2 ys o2).run P w = .ok b2 w) (he2 : (Op.equalIn d t2 a2 b2).run P w = .ok r2 w) :
    (Op.equalIn (d + 1) t (.agg xs) (.agg ys)).run P w = .ok (r1 && r2) w := by
  rw [run_equalIn_struct w d t xs ys ht hp]
  unfold fieldsL at hF
  generalize P.fieldsOf t = fs at hF ⊢
  obtain ⟨f1, f2, rfl, n1, rfl, rfl, n2, rfl, rfl⟩ := two_fields hF
  · have := run_eqFields_cons (d := d) n1 ha1 hb1 he1 (run_eqFields_cons n2 ha2 hb2 he2 (show (Op.eqFields d xs ys []).run P w = .ok true w by simp [Op.eqFields]))
    simpa using this
abbrev keyV (p : Nat × Bool) : Value := .agg #[.int .u8 (p.1 : Int), .bool p.2]
theorem eqKey : EqT Try.prog 276 keyV 2 := by
  intro d w a b hd
  obtain ⟨d, rfl⟩ := Nat.exists_eq_add_of_le' hd
  have h1 := EqT.int (P := Try.prog) (t := 5) (q := .u8) (by kernel_rfl) .u8 (d + 1) w (a.1 : Int) (b.1 : Int) (by omega)
  have h2 := EqT.bool (P := Try.prog) (t := 4) (by kernel_rfl) (d + 1) w a.2 b.2 (by omega)
  have u5 : Try.prog.underlying 5 = some (.int .u8) := by kernel_rfl
  have u4 : Try.prog.underlying 4 = some .bool := by kernel_rfl
  have h := run_struct2 (P := Try.prog) (w := w) (t := 276) (t1 := 5) (t2 := 4) (o1 := 0) (o2 := 1) (d := d + 1) (xs := #[.int .u8 (a.1 : Int), .bool a.2]) (ys := #[.int .u8 (b.1 : Int), .bool b.2]) (by kernel_rfl) (by kernel_rfl) (by kernel_rfl)
    (part_cell u5 (by kernel_rfl) rfl) (part_cell u5 (by kernel_rfl) rfl) h1 (part_cell u4 (by kernel_rfl) rfl) (part_cell u4 (by kernel_rfl) rfl) h2
  refine h.trans ?_
  congr 1
  rw [Bool.eq_iff_iff]
  simp [Prod.ext_iff]
  intro _
  omega
theorem check2 {P : Program} {t t1 t2 : TypeId} {q : IntKind} (u : P.underlying t = some (.struct (P.fieldsOf t))) (hF : fieldsL P t = [(false, t1, 0), (false, t2, 1)]) (u5 : P.underlying t1 = some (.int q)) (u4 : P.underlying t2 = some .bool)
    (em : Bool) (w : World) (k : Nat × Bool) : (Instr.checkKey em (9999 + 1) t (keyV k)).run P w = .ok () w := by
  have p1 : (part t1 #[Value.int .u8 (k.1 : Int), .bool k.2] 0).run P w = .ok (.int .u8 (k.1 : Int)) w := part_cell u5 (by simp [isAggT, u5]) rfl
  have p2 : (part t2 #[Value.int .u8 (k.1 : Int), .bool k.2] 1).run P w = .ok (.bool k.2) w := part_cell u4 (by simp [isAggT, u4]) rfl
  unfold Instr.checkKey
  simp only [Sem.run_bind, run_underlying u, Result.andThen_ok]
  unfold fieldsL at hF
  generalize P.fieldsOf t = fs at hF ⊢
  obtain ⟨f1, f2, rfl, n1, rfl, e1', n2, rfl, e2'⟩ := two_fields hF
  rw [← Array.forIn_toList]
  have c1 : ∀ n, (Instr.checkKey em (n + 1) f1.type (.int .u8 (k.1 : Int))).run P w = .ok () w := fun n => by simp [Instr.checkKey, run_underlying u5, Result.andThen]
  have c2 : ∀ n, (Instr.checkKey em (n + 1) f2.type (.bool k.2)).run P w = .ok () w := fun n => by simp [Instr.checkKey, run_underlying u4, Result.andThen]
  have c1' := c1 9998
  have c2' := c2 9998
  simp [n1, n2, e1', e2', p1, p2, Result.andThen]
  simp only [c1', Result.andThen]
  rw [p2]
  simp only [c2']
theorem sameNow_struct (fs : Array Field) (xs ys : Array Value) : Instr.sameNow (.struct fs) (.agg xs) (.agg ys) = none := rfl
theorem mapKey : MapT Try.prog 274 276 5 (.struct (Try.prog.fieldsOf 276)) keyV (fun x : Nat => .int .u8 (x : Int)) where
  hm := by kernel_rfl
  hk := by kernel_rfl
  eq := fun d w a b hd => eqKey d w a b (by omega)
  now := fun a b => .inl (sameNow_struct _ _ _)
  check := fun em w k => check2 (by kernel_rfl) (by kernel_rfl) (t1 := 5) (t2 := 4) (q := .u8) (by kernel_rfl) (by kernel_rfl) em w k
end Fk
set_option linter.unusedVariables false
set_option linter.unusedSimpArgs false
set_option maxRecDepth 4000
namespace Fk
open Go Go.Proofs Go.RowKit
def idxK {K : Type} [DecidableEq K] (k : K) (kn : List K) : Nat := kn.idxOf k
def addK {K : Type} [DecidableEq K] (k : K) (kn : List K) : List K := if k ∈ kn then kn else kn ++ [k]
theorem idxK_le {K : Type} [DecidableEq K] (k : K) (kn : List K) : idxK k kn ≤ kn.length := List.idxOf_le_length
theorem addK_le {K : Type} [DecidableEq K] (k : K) (kn : List K) : (addK k kn).length ≤ kn.length + 1 := by unfold addK; split <;> simp
theorem addK_old {K : Type} [DecidableEq K] {k : K} {kn : List K} (h : k ∈ kn) : addK k kn = kn := if_pos h
theorem addK_new {K : Type} [DecidableEq K] {k : K} {kn : List K} (h : k ∉ kn) : addK k kn = kn ++ [k] := if_neg h
theorem idxK_new {K : Type} [DecidableEq K] {k : K} {kn : List K} (h : k ∉ kn) : idxK k kn = kn.length := List.idxOf_eq_length h
def numGo {K : Type} [DecidableEq K] : List K → List K → List Nat × List K
  | [], kn => ([], kn)
  | k :: ks, kn => (idxK k kn :: (numGo ks (addK k kn)).1, (numGo ks (addK k kn)).2)
def keysOf (f : List Nat) (q : Q4) : List (Nat × Bool) := f.zipIdx.map fun p => (p.1, inQ q p.2)
def Cl.parted (c : Cl) (q : Q4) : Cl := ⟨(numGo (keysOf c.f q) []).1, (numGo (keysOf c.f q) []).2.length⟩
theorem keysOf_length (f : List Nat) (q : Q4) : (keysOf f q).length = f.length := by simp [keysOf]
theorem keysOf_at (f : List Nat) (q : Q4) (i : Nat) (h : i < (keysOf f q).length) : (keysOf f q)[i] = (f[i]'(by simpa [keysOf] using h), inQ q i) := by simp [keysOf]
theorem findI_zip {K : Type} [DecidableEq K] (k : K) : ∀ (kn : List K) (n i : Nat), findI k (kn.zipIdx n) i = if k ∈ kn then some (i + idxK k kn, n + idxK k kn) else none
  | [], n, i => by simp [findI]
  | x :: kn, n, i => by
    have ih := findI_zip k kn (n + 1) (i + 1)
    unfold idxK at ih ⊢
    simp only [List.zipIdx_cons, findI, List.mem_cons, List.idxOf_cons]
    by_cases h : k = x
    · subst h; simp
    · have h' : (x == k) = false := by simpa using fun e => h e.symm
      rw [if_neg h, ih, h']
      simp only [h, false_or, cond_false]
      split <;> simp <;> omega
theorem wrL_cl (done rest : List Nat) (x y : Nat) (m : Int) (i : Nat) (hd : done.length = i) :
    wrL (Cl.l ⟨done ++ x :: rest, m⟩) i [.int .u8 (y : Int)] = Cl.l ⟨(done ++ [y]) ++ rest, m⟩ := by
  subst hd
  simp [wrL, Cl.l, List.take_append, List.drop_append]
theorem wrL_many (f : List Nat) (m m' : Int) (hf : f.length = 256) : wrL (Cl.l ⟨f, m⟩) 256 [.int .i64 m'] = Cl.l ⟨f, m'⟩ := by
  simp [wrL, Cl.l, List.take_append, List.drop_append, hf]
theorem ok_cells (c : Cl) (hf : c.f.length = 256) : okCells c.v.toList 257 = true := by
  simp [okCells, Cl.v, Cl.l, hf, allOne, Value.oneCell']
theorem zero5 (w : World) : (zeroValue 5).run Try.prog w = .ok (.int .u8 0) w := by
  have h : (Try.prog.info? 5).bind (·.zero) = some (.int .u8 0) := by kernel_rfl
  cases hi : Try.prog.info? 5 with
  | none => simp [hi] at h
  | some i =>
    simp [hi] at h
    simp [zeroValue, typeInfo, hi, h]
def Good (L : List Nat) (w0 w : World) : Prop := Md [] w0 w ∧ ∀ b ∈ L, b < w.heap.size
theorem Good.drew {L : List Nat} {w0 w : World} (h : Good L w0 w) : Good L w0 w.drew := ⟨h.1.trans (Md_drew _), h.2⟩
theorem Good.tr {L : List Nat} {w0 w w' : World} (h : Good L w0 w) (k : Md [] w w') : Good L w0 w' := ⟨h.1.trans k, fun b hb => Nat.lt_of_lt_of_le (h.2 b hb) k.size⟩
theorem rgUp {L : List Nat} {w0 w : World} {K : Nat → World → Prop} (h : Good L w0 w) (k : ∀ n w', w0.heap.size ≤ n → Good (n :: L) w0 w' → K n w') : Rg w fun n => Up [] (n :: L) w (K n) :=
  fun n hn w' hm hL => k n w' (Nat.le_trans h.1.size hn) ⟨h.1.trans hm, hL⟩
theorem in214 (q : Q4) {i : Nat} (hi : i < 256) {L : List Nat} {w0 w : World} {K : Bool → World → Prop} (h : Good L w0 w) (k : ∀ w', Good L w0 w' → K (inQ q i) w') :
    CallW Try.prog L 214 #[.agg #[.int .u64 q.1, .int .u64 q.2.1, .int .u64 q.2.2.1, .int .u64 q.2.2.2], .int .i64 i] (fun v w' => opB v fun b => K b w') w := by
  refine (f214_ok q i hi w).call h.2 ?_
  rintro v w' rfl h'
  exact opB_in (k w' (h.tr h'))
theorem f146_ok (c : Cl) (hc : c.ok) (q : Q4) (w : World) : Ct Try.prog 146 #[.agg c.v, .agg #[.int .u64 q.1, .int .u64 q.2.1, .int .u64 q.2.2.1, .int .u64 q.2.2.2]] w fun v w' => v = .agg (c.parted q).v ∧ Md [] w w' := by
  apply f146_in
  intro n1 hn1 n2 hn2 n3 hn3 w4 h4 hL4 n5 w6 e5 e6
  subst e5; subst e6
  have h6 : Good [n3, n2, n1] w (w4.alloc (.map #[] 0)) := Good.tr ⟨h4, hL4⟩ (Md.alloc _ _)
  have hn5 : w.heap.size ≤ w4.heap.size := h4.size
  generalize e5 : w4.heap.size = n5 at *
  have hLn : ∀ b ∈ [n3, n2, n1], b ≠ n5 := fun b hb => by have := hL4 b hb; omega
  have hK := keysOf_length c.f q
  refine LoopP_in (fun m us vs w' => ∃ (i : Nat) (done : List Nat) (kn : List (Nat × Bool)), us = [.int .i64 i] ∧ vs = [.agg (Cl.v ⟨done ++ c.f.drop i, c.m⟩)] ∧ m = 256 - i ∧ i ≤ 256 ∧ done.length = i ∧ kn.length ≤ i ∧ Good [n3, n2, n1] w w' ∧ MapAt w' n5 keyV (fun x : Nat => .int .u8 (x : Int)) kn.zipIdx ∧
      (numGo (keysOf c.f q) []) = (done ++ (numGo ((keysOf c.f q).drop i) kn).1, (numGo ((keysOf c.f q).drop i) kn).2) ∧ (∀ x ∈ done, x < 256)) 256
    ⟨0, [], [], rfl, by simp, rfl, by omega, rfl, by simp, h6, by rw [← e5]; exact MapAt.new w4 _ _, by simp, by simp⟩ ?_
  rintro m us vs w10 ⟨i, done, kn, rfl, rfl, rfl, hi, hd, hkn, h10, hM, hnum, hlt⟩
  have hsz : (Cl.v ⟨done ++ c.f.drop i, c.m⟩).size = 257 := by simp [Cl.v, Cl.l, hc.len, hd]; omega
  refine opI_in <| opBig_in <| Bd_in fun b13 hb13 => If_in (fun hb => ?_) fun hb => ?_
  · subst hb13
    simp only [decide_eq_true_eq] at hb
    have hi' : i < c.f.length := by rw [hc.len]; omega
    have hx := hc.lt i hi'
    have hnth : nthV (Array.toList (Cl.v ⟨done ++ c.f.drop i, c.m⟩)) (0 + (i : Int).toNat * 1) = some (.int .u8 (c.f[i] : Int)) := by
      rw [List.drop_eq_getElem_cons hi']
      simp only [nthV, Cl.v, Cl.l, Int.toNat_natCast, Nat.zero_add, Nat.mul_one, List.map_append, List.map_cons, List.append_assoc]
      rw [List.getElem?_append_right (by simp [hd])]
      simp [hd]
    have hg : Good [n3, n2, n1] w10 w10.drew := ⟨Md_drew _, h10.2⟩
    have hfi := findI_zip (c.f[i], inQ q i) kn 0 0
    simp only [Nat.zero_add] at hfi
    have hidx : idxK (c.f[i], inQ q i) kn < 256 := by have := idxK_le (c.f[i], inQ q i) kn; omega
    have hkey := keysOf_at c.f q i (by rw [hK]; exact hi')
    have hnum' : numGo (keysOf c.f q) [] = ((done ++ [idxK (c.f[i], inQ q i) kn]) ++ (numGo ((keysOf c.f q).drop (i + 1)) (addK (c.f[i], inQ q i) kn)).1,
        (numGo ((keysOf c.f q).drop (i + 1)) (addK (c.f[i], inQ q i) kn)).2) := by
      rw [hnum, List.drop_eq_getElem_cons (by rw [hK]; exact hi'), hkey, numGo]
      simp
    have hwr : List.toArray (wrL (Array.toList (Cl.v ⟨done ++ c.f.drop i, c.m⟩)) (0 + (i : Int).toNat * 1) [.int .u8 ((idxK (c.f[i], inQ q i) kn : Nat) : Int)]) = Cl.v ⟨(done ++ [idxK (c.f[i], inQ q i) kn]) ++ c.f.drop (i + 1), c.m⟩ := by
      rw [List.drop_eq_getElem_cons hi']
      simp only [Int.toNat_natCast, Nat.zero_add, Nat.mul_one, Cl.v]
      rw [wrL_cl _ _ _ _ _ _ hd]
    have hM10 := hM.lt
    refine ⟨⟨by omega, by omega⟩, ?_⟩
    have rest : ∀ (n : Nat), w10.heap.size ≤ n → ∀ (us vs : List Value) (w29 : World), us = [Value.int .u8 ((idxK (c.f[i], inQ q i) kn : Nat) : Int)] ∧ Md [] w w29 ∧ (∀ b ∈ [n, n3, n2, n1], b < w29.heap.size) ∧ MapAt w29 n5 keyV (fun x : Nat => .int .u8 (x : Int)) (addK (c.f[i], inQ q i) kn).zipIdx →
          opI .u8 (nthD us 0) fun x30 => ((0 : Int) ≤ (i : Int) ∧ (i : Int) < ((256 : Nat) : Int)) ∧ LeC (0 + (i : Int).toNat * 1 + 1) (Array.size (Cl.v ⟨done ++ c.f.drop i, c.m⟩)) (Bd (IntKind.wrap .i64 ((i : Int) + 1)) fun x31 => Up [n1] [n, n3, n2, n1] w29 fun w32 =>
            ∃ m', m' < 256 - i ∧ ∃ (i' : Nat) (dn' : List Nat) (kn' : List (Nat × Bool)), [Value.int .i64 x31] = [.int .i64 i'] ∧ [Value.agg (List.toArray (wrL (Array.toList (Cl.v ⟨done ++ c.f.drop i, c.m⟩)) (0 + (i : Int).toNat * 1) [.int .u8 x30]))] = [.agg (Cl.v ⟨dn' ++ c.f.drop i', c.m⟩)] ∧ m' = 256 - i' ∧ i' ≤ 256 ∧ dn'.length = i' ∧ kn'.length ≤ i' ∧ Good [n3, n2, n1] w w32 ∧ MapAt w32 n5 keyV (fun x : Nat => .int .u8 (x : Int)) kn'.zipIdx ∧
              (numGo (keysOf c.f q) []) = (dn' ++ (numGo ((keysOf c.f q).drop i') kn').1, (numGo ((keysOf c.f q).drop i') kn').2) ∧ (∀ x ∈ dn', x < 256)) := by
      rintro n hn us vs w29 ⟨rfl, h29, hL29, hM29⟩
      refine opI_in ⟨⟨by omega, by omega⟩, LeC_in (by rw [hsz]; simp; omega) (Bd_in fun x31 hx31 w32 h32 hL32 => ?_)⟩
      rw [inc_i64 (by omega)] at hx31
      subst hx31
      refine ⟨256 - (i + 1), by omega, i + 1, _, addK (c.f[i], inQ q i) kn, rfl, by rw [hwr], rfl, by omega, by simp [hd], ?_, ⟨h29.old h32 (by simpa using hn1), fun b hb => hL32 b (List.mem_cons_of_mem _ hb)⟩, ?_, hnum', ?_⟩
      · have := addK_le (c.f[i], inQ q i) kn; omega
      · exact hM29.md h32 (by simpa using (hLn n1 (by simp)).symm)
      · intro x hx
        rcases List.mem_append.1 hx with h | h
        · exact hlt x h
        · simp at h; omega
    repeat' first
      | (refine BdO_in hnth ?_; refine opI_in ?_)
      | (refine in214 q (i := i) (by omega) hg ?_; intro w' hg)
      | (refine rgUp hg ?_; intro n w' hn hg)
      | refine And.intro ?_ ?_
    all_goals
      intro w21 h21 hL21
      have hM21 : MapAt w21 n5 keyV (fun x : Nat => .int .u8 (x : Int)) kn.zipIdx := (hM.md hg.1 (by simp)).md h21 (by simp; omega)
      have hw21 : Md [] w w21 := (h10.1.trans hg.1).old h21 (by have := h10.1.size; simp; omega)
      have hL5 : ∀ b ∈ [n, n3, n2, n1], b ≠ n5 := by
        intro b hb'
        rcases List.mem_cons.1 hb' with rfl | hb'
        · omega
        · exact hLn b hb'
      have hlk := mapKey.lookup hM21 (c.f[i], inQ q i) (.int .u8 0) (zero5 _)
      by_cases hk : (c.f[i], inQ q i) ∈ kn
      · rw [hfi, if_pos hk] at hlk
        refine RunW_in0 hlk ?_
        refine opTu_in ?_
        refine opI_in ?_
        refine opB_in ?_
        refine SzIs_in rfl ?_
        refine Jn_in _ (rest n hn) ?_
        refine Bd_in fun b34 hb34 => If_in (fun h => absurd h (by rw [hb34]; simp)) fun h => ?_
        exact ⟨rfl, hw21, hL21, by rw [addK_old hk]; exact hM21⟩
      · rw [hfi, if_neg hk] at hlk
        refine RunW_in0 hlk ?_
        refine opTu_in ?_
        refine opI_in ?_
        refine opB_in ?_
        refine SzIs_in rfl ?_
        refine Jn_in _ (rest n hn) ?_
        refine Bd_in fun b34 hb34 => If_in (fun h => ?_) fun h => absurd h (by rw [hb34]; simp)
        refine RunW_in0 (run_len_map mapKey.hm hM21) ?_
        refine opI_in <| Bd_in fun x38 hx38 => ?_
        have e38 : x38 = ((idxK (c.f[i], inQ q i) kn : Nat) : Int) := by rw [hx38, idxK_new hk, List.length_zipIdx, IntKind.wrap_u8]; omega
        subst e38
        obtain ⟨w39, hr, hM39, hm39⟩ := mapKey.add hM21 (c.f[i], inQ q i) (idxK (c.f[i], inQ q i) kn) (by rw [hfi, if_neg hk])
        refine RunU_in hr (fun b hb => hm39.blk b (hL21 b hb) (by simpa using hL5 b hb)) ?_
        refine ⟨rfl, hw21.old hm39 (by simp; omega), fun b hb => Nat.lt_of_lt_of_le (hL21 b hb) hm39.size, ?_⟩
        rw [addK_new hk, List.zipIdx_append]
        rw [idxK_new hk] at hM39
        simpa using hM39
  · subst hb13
    simp only [decide_eq_false_iff_not] at hb
    have hi2 : i = 256 := by omega
    have hdf : c.f.drop i = [] := List.drop_of_length_le (by rw [hc.len]; omega)
    have hdk : (keysOf c.f q).drop i = [] := List.drop_of_length_le (by rw [hK, hc.len]; omega)
    rw [hdk, numGo, List.append_nil] at hnum
    have hp : c.parted q = ⟨done, kn.length⟩ := by unfold Cl.parted; rw [hnum]
    rw [hdf, List.append_nil] at hsz ⊢
    have hd' : done.length = 256 := by omega
    refine RunW_in0 (run_len_map mapKey.hm hM) ?_
    have hw : List.toArray (wrL (Array.toList (Cl.v ⟨done, c.m⟩)) 256 [Value.int .i64 ((kn.zipIdx.length : Nat) : Int)]) = (c.parted q).v := by
      rw [List.length_zipIdx, hp]
      simp only [Cl.v]
      rw [wrL_many _ _ _ hd']
    have hsz' : (c.parted q).v.size = 257 := by rw [hp]; simp [Cl.v, Cl.l, hd']
    refine opI_in <| LeC_in (by omega) ⟨?_, OkC_in ?_ fun w314 h314 hL314 => ⟨?_, ?_, ?_⟩⟩
    · have := congrArg Array.size hw
      simpa [hsz'] using this
    · rw [hw, hp]; exact ok_cells _ hd'
    · rw [hw]; exact hsz'
    · rw [hw]
    · refine h10.1.old h314 ?_
      intro d hd
      simp at hd
      rcases hd with rfl | rfl <;> assumption
end Fk
set_option linter.unusedVariables false
namespace Fk
open Go Go.Proofs Go.RowKit
theorem f84_ok : ∀ (s : Nat) (fo : Fo) (k a b c d : Int) (sa : Option Addr) (sc : Nat) (m : Int) (w : World), fo.size ≤ s → RepF w sa 0 fo → fo.len < 2 ^ 63 → 0 ≤ m → m ≤ 1000 →
    Ct Try.prog 84 #[.agg #[.int .u8 k, .int .u64 a, .int .u64 b, .int .u64 c, .int .u64 d, .slice sa fo.len sc], .int .i64 m] w
      fun v w' => (∃ x, v = .int .i64 x ∧ 1 ≤ x ∧ x ≤ m + 1 ∧ (x ≤ m → x = fo.size + 1)) ∧ Md [] w w' := by
  intro s
  induction s with
  | zero => ?_
  | succ s ih => ?_
  all_goals
    intro fo k a b c d sa sc m w hs hr hl hm0 hm1
    apply f84_in
    intro n1 hn1
    refine Bd_in fun x2 hx2 => ?_
    intro w3 h3 hL3
    refine LoopP_in (fun q us vs w' => ∃ (y : Int) (i : Nat) (r : Fo), us = [.int .i64 0, .int .i64 y, .int .i64 i] ∧ vs = [] ∧ q = r.len ∧ i + r.len = fo.len ∧ r.size ≤ fo.size ∧ RepF w sa i r ∧ Md [] w w' ∧ n1 < w'.heap.size ∧ 1 ≤ y ∧ y ≤ m + 1 ∧ (y ≤ m → y + r.size = fo.size + 1))
      fo.len ⟨1, 0, fo, rfl, rfl, rfl, by omega, by omega, hr, h3, hL3 _ (by simp), by omega, by omega, by omega⟩ ?_
    rintro q us vs w7 ⟨y, i, r, rfl, rfl, rfl, hi, hrs, hri, h7, hn7, hy1, hym, hyr⟩
    refine opI_in <| opI_in <| opI_in ?_
    refine Bd_in fun b11 hb11 => If_in (fun hb => ?_) fun hb => ?_
    rotate_left
    · subst hx2; subst hb11
      simp only [decide_eq_false_iff_not, Int.ofNat_lt] at hb
      refine ⟨⟨_, rfl, hy1, hym, fun h => ?_⟩, h7⟩
      have := hyr h
      cases r with
      | nil => simp only [Fo.size] at this; omega
      | cons => simp only [Fo.len] at hi; omega
    subst hx2; subst hb11
    simp only [decide_eq_true_eq, Int.ofNat_lt] at hb
    refine Bd_in fun b12 hb12 => If_in (fun hc => Bd_in fun x13 hx13 => ⟨⟨_, rfl, ?_⟩, h7⟩) fun hc => ?_
    · rw [hx13, IntKind.wrap_i64]; subst hb12; simp only [decide_eq_true_eq] at hc; omega
    subst hb12; simp only [decide_eq_false_iff_not] at hc
    cases r with
    | nil => simp [Fo.len] at hi; omega
    | cons k' a' b' c' d' q' r' => ?_
    obtain ⟨B, sa', sc', rfl, hc', hql, hq, hr'⟩ := hri.at
    simp only [Fo.len, Fo.size] at hi hrs hyr
  · omega
  · refine ⟨⟨by omega, by omega, rfl⟩, ?_⟩
    refine ReC.ld (hc'.md h7) ?_
    refine Bd_in fun x28 hx28 => ?_
    have e28 : x28 = m - y := by rw [hx28, IntKind.wrap_i64]; omega
    subst e28
    refine (ih q' _ _ _ _ _ _ _ _ _ (by omega) (hq.md h7) hql (by omega) (by omega)).call (by simpa using hn7) ?_
    rintro v29 w30 ⟨x, rfl, hx1, hx2, hx3⟩ h30
    refine opI_in <| Bd_in fun x32 hx32 => Bd_in fun x33 hx33 => ?_
    have e : x33 = ((i + 1 : Nat) : Int) := by rw [hx33, IntKind.wrap_i64]; omega
    subst e
    have e : x32 = y + x := by rw [hx32, IntKind.wrap_i64]; omega
    subst e
    exact ⟨r'.len, by simp [Fo.len], _, i + 1, r', rfl, rfl, rfl, by omega, by omega, hr', h7.trans h30, Nat.lt_of_lt_of_le hn7 h30.size, by omega, by omega, fun h => by have := hx3 (by omega); have := hyr (by omega); omega⟩
end Fk
set_option linter.unusedVariables false
set_option linter.unusedSimpArgs false
set_option maxRecDepth 4000
namespace Fk
open Go Go.Proofs Go.RowKit
def nodeS (k a b c d : Int) : List Q4 := if k = 1 then [(a, b, c, d)] else []
def Fo.sets : Fo → List Q4
  | .nil => []
  | .cons k a b c d q r => nodeS k a b c d ++ (q.sets ++ r.sets)
theorem nodeS_le (k a b c d : Int) : (nodeS k a b c d).length ≤ 1 := by unfold nodeS; split <;> simp
theorem Fo.sets_le : ∀ fo : Fo, fo.sets.length ≤ fo.size
  | .nil => Nat.le_refl _
  | .cons k a b c d q r => by
    have := nodeS_le k a b c d
    have := q.sets_le
    have := r.sets_le
    simp only [Fo.sets, Fo.size, List.length_append]
    omega
theorem Md.own {α : Type} {w0 w w' : World} {e : TypeId} {size : Nat} {enc : α → List Value} {a : Option Addr} {c : Nat} {l : List α} (h0 : Md [] w0 w) (ho : OwnL w w0.heap.size e size enc a c l) (h : Md (a.map (·.block)).toList w w') : Md [] w0 w' :=
  h0.old h fun d hd => by
    cases a with
    | none => simp at hd
    | some A => simp at hd; rw [hd]; exact (ho.lt rfl).1
theorem f145_ok : ∀ (s : Nat) (fo : Fo) (sa : Option Addr) (sc : Nat) (w : World), fo.size ≤ s → RepF w sa 0 fo → fo.len < 2 ^ 63 → fo.size ≤ 2 ^ 40 →
    Ct Try.prog 145 #[.slice sa fo.len sc] w
      fun v w' => (∃ a c, v = .slice a fo.sets.length c ∧ OwnS w' w.heap.size a c fo.sets) ∧ Md [] w w' := by
  intro s
  induction s with
  | zero => ?_
  | succ s ih => ?_
  all_goals
    intro fo sa sc w hs hr hl hbig
    apply f145_in
    refine Bd_in fun x1 hx1 => ?_
    subst hx1
    refine LoopP_in (fun m us vs w' => ∃ (i : Nat) (r : Fo) (a : Option Addr) (c : Nat) (l : List Q4), us = [.slice a l.length c, .int .i64 i] ∧ vs = [] ∧ m = r.len ∧ i + r.len = fo.len ∧ l.length + r.size ≤ fo.size ∧ r.size ≤ fo.size ∧ RepF w sa i r ∧ Md [] w w' ∧
        OwnS w' w.heap.size a c l ∧ fo.sets = l ++ r.sets)
      fo.len ⟨0, fo, none, 0, [], rfl, rfl, rfl, by omega, by simp, by omega, hr, Md.refl _ _, OwnL.nil .., rfl⟩ ?_
    rintro m us vs w5 ⟨i, r, a, c, l, rfl, rfl, rfl, hi, hls, hrs, hri, h5, ho5, hset⟩
    refine opL_in <| opI_in <| Bd_in fun b10 hb10 => If_in (fun hb => ?_) fun hb => ?_
    rotate_left
    · subst hb10
      simp only [decide_eq_false_iff_not, Int.ofNat_lt] at hb
      cases r with
      | nil => simp only [Fo.sets, List.append_nil] at hset; rw [hset]; exact ⟨⟨a, c, rfl, ho5⟩, h5⟩
      | cons => simp only [Fo.len] at hi; omega
    subst hb10
    simp only [decide_eq_true_eq, Int.ofNat_lt] at hb
    cases r with
    | nil => simp [Fo.len] at hi; omega
    | cons k' a' b' c' d' q' r' => ?_
    obtain ⟨B, sa', sc', rfl, hc', hql, hq, hr'⟩ := hri.at
    simp only [Fo.len, Fo.size, Fo.sets] at hi hrs hls hset
  · omega
  · refine ⟨⟨by omega, by omega, rfl⟩, ?_⟩
    refine ReC.ld (hc'.md h5) ?_
    intro n25 hn25
    have hS := q'.sets_le
    have hN := nodeS_le k' a' b' c' d'
    refine Jn_in (fun us vs w' => ∃ (a : Option Addr) (c : Nat), us = [.slice a (l ++ nodeS k' a' b' c' d').length c] ∧ Md [] w w' ∧ n25 < w'.heap.size ∧ OwnS w' w.heap.size a c (l ++ nodeS k' a' b' c' d') ∧ ∀ A, a = some A → A.block ≠ n25) ?_ ?_
    · rintro us vs w28 ⟨a1, c1, rfl, h28, hn28, ho28, hA⟩
      refine opL_in ?_
      refine (ih q' _ _ _ (by omega) (hq.md h28) hql (by omega)).call (by simpa using hn28) ?_
      rintro v32 w33 ⟨a34, c34, rfl, ho34⟩ h33
      refine opL_in ?_
      have ho33 := ho28.md h33
      have hw33 := h28.trans h33
      refine app_own rowT43 enc4 ho33 ho34 hw33.size (by simpa using Nat.lt_of_lt_of_le hn28 h33.size) (by simpa using hA) ?_ ?_ ?_
      · rw [List.length_append]; simp only [maxLen]; omega
      · rw [List.length_append]; omega
      · intro a39 c39 w38 ho38 hm38 _
        refine opL_in <| Bd_in fun x42 hx42 => ?_
        have e : x42 = ((i + 1 : Nat) : Int) := by rw [hx42, IntKind.wrap_i64]; omega
        subst e
        exact ⟨r'.len, by simp [Fo.len], i + 1, r', a39, c39, _, rfl, rfl, rfl, by omega, by simp only [List.length_append]; omega, by omega, hr', hw33.own ho33 hm38, ho38, by rw [hset]; simp⟩
    · refine Bd_in fun b44 hb44 => If_in (fun hk w45 h45 hL45 => ?_) fun hk w53 h53 hL53 => ?_
      · have hk1 : k' = 1 := by rw [hb44] at hk; simpa using hk
        have hw45 := h5.old h45 (by simpa using Nat.le_trans h5.size hn25)
        have ho45 := ho5.mdN h45 (by simpa using hn25)
        have hn45 : n25 < w45.heap.size := by simpa using hL45
        refine app_one rowT43 enc4 (a', b', c', d') rfl ho45 hw45.size hL45 ?_ ?_ ?_ ?_
        · intro b hb A hA
          have := (ho5.lt hA).2
          simp at hb; omega
        · simp [maxLen]; omega
        · omega
        · intro a50 c50 w49 ho49 hm49 hA
          have e : nodeS k' a' b' c' d' = [(a', b', c', d')] := by simp [nodeS, hk1]
          refine opL_in ?_
          rw [e]
          refine ⟨a50, c50, rfl, hw45.own ho45 hm49, Nat.lt_of_lt_of_le hn45 hm49.size, ho49, fun A hA' => ?_⟩
          rcases hA A hA' with h | h
          · have := (ho5.lt h).2
            omega
          · omega
      · have hk1 : k' ≠ 1 := by rw [hb44] at hk; simpa using hk
        have e : l ++ nodeS k' a' b' c' d' = l := by simp [nodeS, hk1]
        rw [e]
        refine ⟨a, c, rfl, h5.old h53 (by simpa using Nat.le_trans h5.size hn25), hL53 _ (by simp), ho5.mdN h53 (by simpa using hn25), fun A hA => ?_⟩
        have := (ho5.lt hA).2
        omega
/-- What is done to a row of one's own, again. -/
theorem Md.row {w w' w'' : World} {pa a : Option Addr} (h : Md (pa.map (·.block)).toList w w') (h' : Md (a.map (·.block)).toList w' w'') (hA : ∀ A, a = some A → pa = some A ∨ w.heap.size ≤ A.block) : Md (pa.map (·.block)).toList w w'' := by
  refine ⟨h'.os.trans h.os, h'.tape.trans h.tape, h'.output.trans h.output, Nat.le_trans h.size h'.size, fun k hk hm => (h'.blk k (Nat.lt_of_lt_of_le hk h.size) fun hm' => ?_).trans (h.blk k hk hm)⟩
  cases a with
  | none => simp at hm'
  | some A =>
    simp at hm'
    rcases hA A rfl with e | e
    · rw [e] at hm; simp at hm; exact hm hm'
    · omega
end Fk
set_option linter.unusedVariables false
set_option linter.unusedSimpArgs false
set_option maxRecDepth 4000
namespace Fk
open Go Go.Proofs Go.RowKit
/-- Is a set empty? -/
def z4 (a b c d : Int) : Bool := decide ([a, b, c, d] = [0, 0, 0, 0])
def nodeOk (k : Int) (z : Bool) (n : Nat) : Bool :=
  (decide (k = 0) && decide (n = 0) && z) || (decide (k = 1) && decide (n = 0) && !z) || ((decide (k = 2) || decide (k = 3)) && decide (2 ≤ n) && z) || (decide (k = 4) && decide (n = 1) && z)
def Fo.right : Fo → Bool
  | .nil => true
  | .cons k a b c d q r => nodeOk k (z4 a b c d) q.len && q.right && r.right
theorem nodeOk_eq {k p q : Int} {n : Nat} (z : Bool) (hpq : ((k = 2 ∨ k = 3) ∧ p = 2 ∧ q = n) ∨ (k = 4 ∧ p = 1 ∧ q = 1) ∨ ((k = 0 ∨ k = 1) ∧ p = 0 ∧ q = 0)) :
    nodeOk k z n = (!(decide ((n : Int) < p ∨ (n : Int) > q)) && !((k == 1) == z)) := by
  rw [Bool.eq_iff_iff]
  rcases hpq with ⟨hk | hk, rfl, rfl⟩ | ⟨hk, rfl, rfl⟩ | ⟨hk | hk, rfl, rfl⟩ <;> subst hk <;> cases z <;> simp [nodeOk] <;> omega
theorem f144_ok : ∀ (s : Nat) (fo : Fo) (k a b c d : Int) (sa : Option Addr) (sc : Nat) (w : World), fo.size ≤ s → RepF w sa 0 fo → fo.len < 2 ^ 63 →
    Ct Try.prog 144 #[.agg #[.int .u8 k, .int .u64 a, .int .u64 b, .int .u64 c, .int .u64 d, .slice sa fo.len sc]] w
      fun v w' => v = .bool (nodeOk k (z4 a b c d) fo.len && fo.right) ∧ Md [] w w' := by
  intro s
  induction s with
  | zero => ?_
  | succ s ih => ?_
  all_goals
    intro fo k a b c d sa sc w hs hr hl
    apply f144_in
    intro n1 hn1
    refine Jn_in (fun us vs w' => Md [] w w' ∧ n1 < w'.heap.size ∧ ∃ (p q : Int) (b1 b2 : Bool), us = [.int .i64 p, .int .i64 q, .bool b1, .bool b2] ∧
      (((k = 2 ∨ k = 3) ∧ p = 2 ∧ q = fo.len) ∨ (k = 4 ∧ p = 1 ∧ q = 1) ∨ ((k = 0 ∨ k = 1) ∧ p = 0 ∧ q = 0))) ?_ ?_
    rotate_left
    · refine Jn_in (fun us vs w' => Md [] w w' ∧ n1 < w'.heap.size ∧ us = [.bool (decide (k = 2 ∨ k = 3))]) ?_ ?_
      · rintro us vs w55 ⟨h55, hn55, rfl⟩
        refine opB_in <| If_in (fun hb => Bd_in fun x57 hx57 => ⟨h55.trans (Md_drew _), hn55, _, _, _, _, rfl, .inl ⟨by simpa using hb, rfl, hx57⟩⟩) fun hb => ?_
        refine Bd_in fun b58 hb58 => If_in (fun h => ⟨h55, hn55, _, _, _, _, rfl, .inr (.inl ⟨by rw [hb58] at h; simpa using h, rfl, rfl⟩)⟩) fun h58 => ?_
        refine Jn_in (fun us vs w' => Md [] w w' ∧ n1 < w'.heap.size ∧ us = [.bool (decide (k = 0 ∨ k = 1))]) ?_ ?_
        · rintro us vs w61 ⟨h61, hn61, rfl⟩
          refine opB_in <| If_in (fun h => ⟨h61, hn61, _, _, _, _, rfl, .inr (.inr ⟨by simpa using h, rfl, rfl⟩)⟩) fun h => ⟨?_, h61⟩
          rw [hb58] at h58
          simp at hb h58 h
          simp [nodeOk, hb, h58, h]
        · refine Bd_in fun b64 hb64 => If_in (fun h => ⟨h55, hn55, ?_⟩) fun h => Bd_in fun b65 hb65 => ⟨h55, hn55, ?_⟩
          · rw [hb64] at h ⊢; simp at h; simp [h]
          · rw [hb64] at h; rw [hb65]; simp at h; simp [h]
            exact (Bool.beq_eq_decide_eq k 1)
      · refine Bd_in fun b67 hb67 => If_in (fun h w68 h68 hL => ⟨h68, hL _ (by simp), ?_⟩) fun h => Bd_in fun b69 hb69 w70 h70 hL => ⟨h70, hL _ (by simp), ?_⟩
        · rw [hb67] at h ⊢; simp at h; simp [h]
        · rw [hb67] at h; rw [hb69]; simp at h; simp [h]
          exact (Bool.beq_eq_decide_eq k 3)
    rintro us vs w4 ⟨h4, hn4, p, q, b1, b2, rfl, hpq⟩
    refine opI_in <| opI_in <| opB_in <| opB_in <| Bd_in fun x9 hx9 => Bd_in fun b10 hb10 => Bd_in fun x11 hx11 => Bd_in fun b12 hb12 => Bd_in fun b13 hb13 => Bd_in fun b14 hb14 => ?_
    have e13 : b13 = decide ((fo.len : Int) < p ∨ (fo.len : Int) > q) := by
      rw [hb13, hb12, hb10, hx9, hx11]
      by_cases h : (fo.len : Int) < p <;> simp [h]
    have hno := nodeOk_eq (z4 a b c d) hpq
    rw [← e13, ← hb14] at hno
    refine Gd_to (fun y w' => (b13 = false → y = z4 a b c d) ∧ Md [] w w' ∧ n1 < w'.heap.size) (fun y w20 hy => ?_) (fun fin hg => ?_) fun hg => ⟨fun h => by rw [h] at hg; simp at hg, h4.trans (Md_drew _), hn4⟩
    rotate_left
    · exact RunW_in0 (eq28 ..) (opB_in (fin _ _ ⟨fun _ => rfl, h4.trans (Md_drew _), hn4⟩))
    obtain ⟨hy, h20, hn20⟩ := hy
    refine Bd_in fun b21 hb21 => Bd_in fun b22 hb22 => If_in (fun h => ⟨?_, h20⟩) fun h22 => ?_
    · cases h13 : b13 with
      | true => simp [hno, h13]
      | false =>
        rw [hb22, hb21, h13, hy h13] at h
        simp only [cond_false] at h
        simp [hno, h]
    have hnode : nodeOk k (z4 a b c d) fo.len = true := by
      cases h13 : b13 with
      | true => rw [hb22, h13] at h22; simp at h22
      | false =>
        rw [hb22, hb21, h13, hy h13] at h22
        simp only [cond_false] at h22
        simp [hno, h13, h22]
    refine Bd_in fun x23 hx23 => ?_
    subst hx23
    refine LoopP_in (fun m us vs w' => ∃ (i : Nat) (r : Fo), us = [.bool b1, .int .i64 i] ∧ vs = [] ∧ m = r.len ∧ i + r.len = fo.len ∧ r.size ≤ fo.size ∧ RepF w sa i r ∧ Md [] w w' ∧ n1 < w'.heap.size ∧ fo.right = r.right)
      fo.len ⟨0, fo, rfl, rfl, rfl, by omega, by omega, hr, h20, hn20, rfl⟩ ?_
    rintro m us vs w7 ⟨i, r, rfl, rfl, rfl, hi, hrs, hri, h7, hn7, hrr⟩
    refine opB_in <| opI_in ?_
    refine Bd_in fun b30 hb30 => If_in (fun hb => ?_) fun hb => ⟨?_, h7⟩
    rotate_left
    · subst hb30
      simp only [decide_eq_false_iff_not, Int.ofNat_lt] at hb
      rw [hnode, hrr]
      cases r with
      | nil => rfl
      | cons => simp only [Fo.len] at hi; omega
    subst hb30
    simp only [decide_eq_true_eq, Int.ofNat_lt] at hb
    cases r with
    | nil => simp [Fo.len] at hi; omega
    | cons k' a' b' c' d' q' r' => ?_
    obtain ⟨B, sa', sc', rfl, hc', hql, hq, hr'⟩ := hri.at
    simp only [Fo.len, Fo.size] at hi hrs
  · omega
  · refine ⟨⟨by omega, by omega, rfl⟩, ?_⟩
    refine ReC.ld (hc'.md h7) ?_
    intro n45 hn45 w46 h46 hL46
    have h46' := h7.old h46 (by simpa using Nat.le_trans h7.size hn45)
    refine (ih q' _ _ _ _ _ _ _ _ (by omega) (hq.md h46') hql).call hL46 ?_
    rintro v29 w48 rfl h48
    have hn48 : n1 < w48.heap.size := Nat.lt_of_lt_of_le (hL46 n1 (by simp)) h48.size
    refine opB_in <| Bd_in fun b50 hb50 => If_in (fun h => ⟨?_, h46'.trans h48⟩) fun h => Bd_in fun x51 hx51 => ?_
    · rw [hb50] at h; simp at h
      rw [hrr, Fo.right]
      rcases h with h | h <;> simp [h]
    · have e : x51 = ((i + 1 : Nat) : Int) := by rw [hx51, IntKind.wrap_i64]; omega
      subst e
      rw [hb50] at h; simp at h
      exact ⟨r'.len, by simp [Fo.len], i + 1, r', rfl, rfl, rfl, by omega, by omega, hr', h46'.trans h48, hn48, by rw [hrr, Fo.right]; simp [h]⟩
end Fk
set_option linter.unusedVariables false
set_option linter.unusedSimpArgs false
set_option maxRecDepth 4000
namespace Fk
open Go Go.Proofs Go.RowKit
/-- As the program tells it. -/
def Cl.first (c : Cl) (k : Int) : Int × Bool := if c.right = true ∧ 0 ≤ k ∧ k < c.m then (if least c.f k < 256 then ((least c.f k : Nat), true) else (0, false)) else (0, false)
/-- As the document tells it. -/
def Cl.firstR (c : Cl) (k : Int) : Int × Bool := if c.rightR = true ∧ 0 ≤ k ∧ k < c.m then (IntKind.wrap .u8 (least c.f k : Nat), true) else (0, false)
theorem f42_ok (c : Cl) (hc : c.ok) (k : Int) (w : World) : Ct Try.prog 42 #[.agg c.v, .int .i64 k] w fun v w' => v = .tuple #[.int .u8 (c.first k).1, .bool (c.first k).2] ∧ Md [] w w' := by
  apply f42_in
  intro n1 hn1
  refine ⟨hc.size, fun w2 h2 hL2 => ?_⟩
  refine (f44_ok c hc w2).call hL2 ?_
  rintro v3 w4 rfl h4
  have hw4 := h2.trans h4
  refine opB_in <| Bd_in fun b6 hb6 => Bd_in fun b7 hb7 => Bd_in fun b8 hb8 => ⟨fun _ => hc.manyI.1, Bd_in fun x10 hx10 => Bd_in fun b11 hb11 => Bd_in fun b12 hb12 => If_in (fun h => ⟨?_, hw4⟩) fun h => ?_⟩
  · rw [hc.manyI.2] at hx10
    have : ¬ (c.right = true ∧ 0 ≤ k ∧ k < c.m) := by
      rintro ⟨h1, h2, h3⟩
      rw [hb12, hb11, hb8, hb7, hb6, hx10] at h
      simp [h1] at h
      omega
    simp [Cl.first, this]
  · rw [hc.manyI.2] at hx10
    have hr : c.right = true ∧ 0 ≤ k ∧ k < c.m := by
      rw [hb12, hb11, hb8, hb7, hb6, hx10] at h
      simp at h
      cases hr : c.right <;> simp [hr] at h
      exact ⟨rfl, by omega, by omega⟩
    refine LoopP_in (fun m us vs w' => ∃ i : Nat, us = [.int .u8 0, .bool false, .int .i64 i] ∧ m = 256 - i ∧ i ≤ 256 ∧ least c.f k = i + least (c.f.drop i) k ∧ Md [] w w') 256 ⟨0, rfl, rfl, by omega, by simp, hw4⟩ ?_
    rintro m us vs w6 ⟨i, rfl, rfl, hi, hg, h6⟩
    refine opI_in <| opB_in <| opI_in <| Bd_in fun b20 hb20 => If_in (fun hb => ?_) fun hb => ⟨?_, h6⟩
    · subst hb20
      simp only [decide_eq_true_eq] at hb
      have hi' : i < c.f.length := by rw [hc.len]; omega
      have hx := hc.lt i hi'
      refine ⟨⟨by omega, by omega⟩, BdO_in (hc.nth' hi') ?_⟩
      refine opI_in <| Bd_in fun x23 hx23 => Bd_in fun b24 hb24 => ?_
      rw [wrap_byte hx] at hx23
      subst hx23
      rw [List.drop_eq_getElem_cons hi', least] at hg
      refine If_in (fun h => Bd_in fun x25 hx25 => ⟨?_, h6⟩) fun h => Bd_in fun x26 hx26 => ?_
      · rw [hb24] at h
        simp only [beq_iff_eq] at h
        rw [if_pos h] at hg
        have e : x25 = (i : Int) := by rw [hx25, IntKind.wrap_u8]; omega
        have hl : least c.f k = i := by omega
        have hi3 : i < 256 := by omega
        simp [Cl.first, hr, hl, e, hi3]
      · rw [hb24] at h
        simp only [beq_eq_false_iff_ne] at h
        rw [if_neg h] at hg
        rw [inc_i64 (by omega)] at hx26
        subst hx26
        exact ⟨256 - (i + 1), by omega, i + 1, rfl, rfl, by omega, by omega, h6⟩
    · subst hb20
      simp only [decide_eq_false_iff_not] at hb
      have hl : ¬ least c.f k < 256 := by omega
      simp [Cl.first, hr, hl]
def Cl.fits (c : Cl) (q : Q4) : Bool := c.right && decide ((c.parted q).m = c.m)
theorem numGo_facts {K : Type} [DecidableEq K] : ∀ (ks kn : List K), (numGo ks kn).1.length = ks.length ∧ (∀ x ∈ (numGo ks kn).1, x < kn.length + ks.length) ∧ (numGo ks kn).2.length ≤ kn.length + ks.length
  | [], kn => by simp [numGo]
  | k :: ks, kn => by
    obtain ⟨h1, h2, h3⟩ := numGo_facts ks (addK k kn)
    have ha := addK_le k kn
    have hi := idxK_le k kn
    refine ⟨by simp [numGo, h1], ?_, by simp only [numGo, List.length_cons]; omega⟩
    intro x hx
    simp only [numGo, List.mem_cons] at hx
    simp only [List.length_cons]
    rcases hx with rfl | hx
    · omega
    · have := h2 x hx; omega
theorem Cl.ok_num {K : Type} [DecidableEq K] (ks : List K) (h : ks.length = 256) : Cl.ok ⟨(numGo ks []).1, (numGo ks []).2.length⟩ := by
  obtain ⟨h1, h2, h3⟩ := numGo_facts ks []
  simp only [List.length_nil, Nat.zero_add, h] at h1 h2 h3
  exact ⟨h1, fun i hi => h2 _ (List.getElem_mem hi), by simp only; omega, by simp only; omega⟩
theorem Cl.ok.parted {c : Cl} (hc : c.ok) (q : Q4) : (c.parted q).ok := Cl.ok_num _ (by rw [keysOf_length, hc.len])
theorem f46_ok (c : Cl) (hc : c.ok) (q : Q4) (w : World) : Ct Try.prog 46 #[.agg c.v, .agg #[.int .u64 q.1, .int .u64 q.2.1, .int .u64 q.2.2.1, .int .u64 q.2.2.2]] w fun v w' => v = .bool (c.fits q) ∧ Md [] w w' := by
  apply f46_in
  intro n1 hn1 n2 hn2
  refine Jn_in (fun us vs w' => us = [.bool (c.fits q)] ∧ Md [] w w') ?_ ?_
  · rintro us vs w5 ⟨rfl, h5⟩
    exact opB_in ⟨rfl, h5⟩
  intro w8 h8 hL8
  refine ⟨hc.size, ?_⟩
  refine (f44_ok c hc _).call (by simpa using hL8) ?_
  rintro v9 w10 rfl h10
  have hg : Good [n2, n1] w w10 := Good.tr ⟨h8.trans (Md_drew _), hL8⟩ h10
  refine opB_in ⟨fun _ => hc.size, fun _ => hc.manyI.1, Bd_in fun x14 hx14 => ?_⟩
  rw [hc.manyI.2] at hx14
  subst hx14
  refine Gd_to (fun cs w' => (c.right = true → cs = (c.parted q).v) ∧ Md [] w w') ?_ (fun fin _ => (f146_ok c hc q w10).call hg.2 ?_) fun h => ⟨fun h' => absurd h' (by simp [h]), hg.1⟩
  rotate_left
  · rintro v16 w17 rfl h17
    exact opBig_in ⟨(hc.parted q).size, fin _ _ ⟨fun _ => rfl, hg.1.trans h17⟩⟩
  rintro cs w20 ⟨hcs, h20⟩
  refine ⟨fun h => ?_, Bd_in fun x22 hx22 => Bd_in fun b23 hb23 => Bd_in fun b24 hb24 => ⟨?_, h20⟩⟩
  · rw [hcs h]; exact (hc.parted q).manyI.1
  · rw [hb24, hb23]
    cases hr : c.right with
    | false => simp [Cl.fits, hr]
    | true =>
      rw [hcs hr, (hc.parted q).manyI.2] at hx22
      rw [hx22]
      simp only [Cl.fits, hr, cond_true, Bool.true_and]
      congr 2
end Fk
set_option linter.unusedVariables false
set_option linter.unusedSimpArgs false
set_option maxRecDepth 100000
namespace Fk
open Go Go.Proofs Go.RowKit
def zCl (m : Int) : Cl := ⟨List.replicate 256 0, m⟩
theorem zero_cl : (zeroL Try.prog 25) = (zCl 0).l := by kernel_rfl
theorem build0 (w : World) : (Instr.build 25 #[]).run Try.prog w = .ok (.agg (zCl 0).v) w := by kernel_rfl
theorem build1 (w : World) : (Instr.build 25 #[(1, .int .i64 1)]).run Try.prog w = .ok (.agg (zCl 1).v) w := by kernel_rfl
theorem zCl_ok {m : Int} (h0 : 0 ≤ m) (h1 : m ≤ 256) : (zCl m).ok := ⟨by simp [zCl], fun i h => by simp only [zCl, List.getElem_replicate]; omega, by simp only [zCl]; omega, by simp only [zCl]; omega⟩
/-- A row that can be read. -/
def RowAt {α : Type} (w : World) (a : Option Addr) (size : Nat) (enc : α → List Value) (l : List α) : Prop :=
  ∀ i x, l[i]? = some x → ∃ A, a = some A ∧ ∀ j u, (enc x)[j]? = some u → w.cell? ((A.add (i * size)).add j) = some u
theorem OwnL.row {α : Type} {w : World} {base : Nat} {e : TypeId} {size : Nat} {enc : α → List Value} {a : Option Addr} {c : Nat} {l : List α} (he : Enc size enc) (h : OwnL w base e size enc a c l) : RowAt w a size enc l :=
  fun i x hx => h.at he hx
theorem RowAt.md {α : Type} {w w' : World} {a : Option Addr} {size : Nat} {enc : α → List Value} {l : List α} (h : RowAt w a size enc l) (hm : Md [] w w') : RowAt w' a size enc l := by
  intro i x hx
  obtain ⟨A, hA, hc⟩ := h i x hx
  exact ⟨A, hA, fun j u hu => hm.cell0 (hc j u hu)⟩
/-- Four words are read. -/
theorem RowAt.ld4 {w : World} {A : Option Addr} {l : List Q4} (h : RowAt w A 4 q4 l) {i : Nat} (hi : i < l.length) {K : Value → Value → Value → Value → Prop}
    (hk : K (.int .u64 l[i].1) (.int .u64 l[i].2.1) (.int .u64 l[i].2.2.1) (.int .u64 l[i].2.2.2)) :
    Ld w ((adAt A (i : Int) 4).add 0) fun v1 => Ld w ((adAt A (i : Int) 4).add 1) fun v2 => Ld w ((adAt A (i : Int) 4).add 2) fun v3 => Ld w ((adAt A (i : Int) 4).add 3) fun v4 => K v1 v2 v3 v4 := by
  obtain ⟨B, rfl, hc⟩ := h i l[i] (List.getElem?_eq_getElem hi)
  exact Ld_in (hc 0 _ rfl) <| Ld_in (hc 1 _ rfl) <| Ld_in (hc 2 _ rfl) <| Ld_in (hc 3 _ rfl) hk
theorem RowAt.ix {α : Type} {w : World} {A : Option Addr} {size : Nat} {enc : α → List Value} {l : List α} (h : RowAt w A size enc l) {i : Nat} (hi : i < l.length) : IxOk (i : Int) l.length A := by
  obtain ⟨B, rfl, hc⟩ := h i l[i] (List.getElem?_eq_getElem hi)
  exact ⟨by omega, by omega, rfl⟩
def apart (l : List Q4) (a b : Nat) : Bool := l.any fun q => inQ q a != inQ q b
def clOf (l : List Q4) : Cl := l.foldl Cl.parted (zCl 1)
theorem clOf_ok : ∀ (l : List Q4) (c : Cl), c.ok → (l.foldl Cl.parted c).ok
  | [], c, h => h
  | q :: l, c, h => clOf_ok l _ (h.parted q)
def ofV (c : Cl) (e : Int) : Value := .tuple #[.agg c.v, .int .i64 e]
theorem Cl.ok.cells {c : Cl} (h : c.ok) : okCells c.v.toList 257 = true := ok_cells c h.len
theorem f40_ok (fo : Fo) (sa : Option Addr) (sc : Nat) (w : World) (hr : RepF w sa 0 fo) (hl : fo.len < 2 ^ 40) (hbig : fo.size ≤ 2 ^ 39) :
    Ct Try.prog 40 #[.slice sa fo.len sc] w fun v w' => v = (if fo.right = true then ofV (clOf fo.sets) 0 else ofV (zCl 0) 2) ∧ Md [] w w' := by
  apply f40_in
  intro n1 hn1
  refine Bd_in fun x2 hx2 w3 h3 hL3 => ?_
  subst hx2
  have hz := zCl_ok (m := 0) (by omega) (by omega)
  have hn3 : n1 < w3.heap.size := hL3 _ (by simp)
  refine LoopP_in (fun m us vs w' => ∃ (i : Nat) (r : Fo), us = [.int .i64 0, .int .i64 i] ∧ vs = [.agg (zCl 0).v] ∧ m = r.len ∧ i + r.len = fo.len ∧ r.size ≤ fo.size ∧ RepF w sa i r ∧ fo.right = r.right ∧ Md [] w w' ∧ n1 < w'.heap.size)
    fo.len ⟨0, fo, rfl, by rw [zero_cl]; rfl, rfl, by omega, by omega, hr, rfl, h3, hn3⟩ ?_
  rintro m us vs w7 ⟨i, r, rfl, rfl, rfl, hi, hrs, hri, hrr, h7, hn7⟩
  refine opI_in <| opI_in <| opBig_in <| Bd_in fun b11 hb11 => If_in (fun hb => ?_) fun hb => ?_
  · subst hb11
    simp only [decide_eq_true_eq, Int.ofNat_lt] at hb
    cases r with
    | nil => simp [Fo.len] at hi; omega
    | cons k' a' b' c' d' q' r' => ?_
    obtain ⟨B, sa', sc', rfl, hc', hql, hq, hr'⟩ := hri.at
    simp only [Fo.len, Fo.size, Fo.right] at hi hrs hrr
    refine ⟨⟨by omega, by omega, rfl⟩, ?_⟩
    refine ReC.ld (hc'.md h7) ?_
    intro n26 hn26 w27 h27 hL27
    have h27' := h7.old h27 (by simpa using Nat.le_trans h7.size hn26)
    refine (f144_ok _ q' _ _ _ _ _ _ _ _ (Nat.le_refl _) (hq.md h27') hql).call hL27 ?_
    rintro v28 w29 rfl h29
    have h29' := h27'.trans h29
    have hn29 : n1 < w29.heap.size := Nat.lt_of_lt_of_le (hL27 n1 (by simp)) h29.size
    refine opB_in <| Bd_in fun b31 hb31 => If_in (fun h => ?_) fun h => Bd_in fun x36 hx36 => ?_
    · have hno : fo.right = false := by
        rw [hb31] at h
        rw [hrr]
        simp only [Bool.not_eq_true'] at h
        rw [h]; rfl
      refine RunW_in0 (build0 _) ?_
      refine opBig_in ⟨hz.size, OkC_in hz.cells <| SzIs_in hz.size fun w35 h35 hL35 => ⟨hz.size, ?_, h29'.old h35 (by simpa using hn1)⟩⟩
      simp [hno, ofV]
    · rw [inc_i64 (by omega)] at hx36
      subst hx36
      have hyes : (nodeOk k' (z4 a' b' c' d') q'.len && q'.right) = true := by rw [hb31] at h; simpa using h
      exact ⟨r'.len, by simp [Fo.len], i + 1, r', rfl, rfl, rfl, by omega, by omega, hr', by rw [hrr, hyes]; rfl, h29', hn29⟩
  · subst hb11
    simp only [decide_eq_false_iff_not, Int.ofNat_lt] at hb
    have hyes : fo.right = true := by
      cases r with
      | nil => rw [hrr]; rfl
      | cons => simp only [Fo.len] at hi; omega
    have h1 := zCl_ok (m := 1) (by omega) (by omega)
    refine RunW_in0 (build1 _) ?_
    refine opBig_in ⟨h1.size, fun n40 hn40 => OkC_in h1.cells fun w41 h41 hL41 => ?_⟩
    have h41' := h7.old h41 (by simpa using Nat.le_trans h7.size hn40)
    refine (f145_ok _ fo sa sc w41 (Nat.le_refl _) (hr.md h41') (by omega) (by omega)).call hL41 ?_
    rintro v42 w43 ⟨a44, c44, rfl, ho43⟩ h43
    have h43' := h41'.trans h43
    have hS := fo.sets_le
    refine opL_in <| Bd_in fun x47 hx47 => ?_
    subst hx47
    have hn41 : n40 < w41.heap.size := hL41 n40 (by simp)
    refine LoopP_in (fun m us vs w' => ∃ (i : Nat) (c : Cl), us = [.int .i64 i] ∧ vs = [.agg c.v] ∧ m = fo.sets.length - i ∧ i ≤ fo.sets.length ∧ c.ok ∧ clOf fo.sets = (fo.sets.drop i).foldl Cl.parted c ∧ Md [] w w' ∧ OwnS w' w41.heap.size a44 c44 fo.sets ∧ n1 < w'.heap.size ∧ n40 < w'.heap.size)
      fo.sets.length ⟨0, zCl 1, rfl, rfl, rfl, by omega, h1, by rw [List.drop_zero]; rfl, h43', ho43, Nat.lt_of_lt_of_le (hL41 n1 (by simp)) h43.size, Nat.lt_of_lt_of_le (hL41 n40 (by simp)) h43.size⟩ ?_
    rintro m us vs w51 ⟨i, c, rfl, rfl, rfl, hi, hc, hcl, h51, ho51, hn51, hn51'⟩
    refine opI_in <| opBig_in <| Bd_in fun b54 hb54 => If_in (fun hb => ?_) fun hb => ?_
    · subst hb54
      simp only [decide_eq_true_eq, Int.ofNat_lt] at hb
      refine ⟨(ho51.row enc4).ix hb, (ho51.row enc4).ld4 hb ?_⟩
      refine opI_in ?_
      refine opI_in ?_
      refine opI_in ?_
      refine opI_in ?_
      intro n63 hn63
      refine ⟨hc.size, fun w64 h64 hL64 => ?_⟩
      have h64' : Md [] w w64 := h51.old h64 (by simpa using Nat.le_trans h51.size hn63)
      have ho64 := ho51.mdN h64 (by simpa using hn63)
      refine (f146_ok c hc fo.sets[i] w64).call hL64 ?_
      rintro v65 w66 rfl h66
      have hp := hc.parted fo.sets[i]
      refine opBig_in ⟨hp.size, OkC_in hp.cells <| SzIs_in hc.size <| Bd_in fun x68 hx68 w69 h69 hL69 => ?_⟩
      rw [inc_i64 (by omega)] at hx68
      subst hx68
      refine ⟨fo.sets.length - (i + 1), by omega, i + 1, c.parted fo.sets[i], rfl, rfl, rfl, by omega, hp, ?_, ?_, ?_, hL69 n1 (by simp), hL69 n40 (by simp)⟩
      · rw [hcl, List.drop_eq_getElem_cons hb]; rfl
      · refine (h64'.trans h66).old h69 ?_
        have := h7.size
        simp; omega
      · refine (ho64.md h66).mdD h69 fun A hA => ?_
        have := (ho64.lt hA).1
        simp; omega
    · subst hb54
      simp only [decide_eq_false_iff_not, Int.ofNat_lt] at hb
      have hd : fo.sets.drop i = [] := List.drop_of_length_le (by omega)
      rw [hd] at hcl
      refine ⟨hc.size, OkC_in hc.cells <| SzIs_in hz.size fun w70 h70 hL70 => ⟨hc.size, ?_, h51.old h70 (by simpa using hn1)⟩⟩
      simp [hyes, ofV, hcl]
end Fk
set_option linter.unusedVariables false
set_option linter.unusedSimpArgs false
set_option maxRecDepth 100000
namespace Fk
open Go Go.Proofs Go.RowKit
def n1c (x : Nat) : List Value := [.int .i64 (x : Int)]
theorem enc1 : Enc 1 n1c := ⟨fun _ => rfl, by intro x v hv; simp [n1c] at hv; subst hv; rfl⟩
theorem rowT52 : RowT Try.prog 52 3 1 8 := RowT.of (by kernel_rfl) (by kernel_rfl) (by kernel_rfl) (by omega)
/-- What the sets say of a byte. -/
def sig (l : List Q4) (b : Nat) : List Bool := l.map fun q => inQ q b
theorem idxK_cons {K : Type} [DecidableEq K] (k x : K) (l : List K) : idxK k (x :: l) = if x = k then 0 else idxK k l + 1 := by
  unfold idxK
  rw [List.idxOf_cons]
  by_cases h : x = k
  · simp [h]
  · have : (x == k) = false := by simpa using h
    simp [h, this]
theorem idxK_lt {K : Type} [DecidableEq K] {k : K} {kn : List K} (h : k ∈ kn) : idxK k kn < kn.length := List.idxOf_lt_length_of_mem h
def refCl (l : List Q4) : Cl := ⟨(numGo ((List.range 256).map (sig l)) []).1, (numGo ((List.range 256).map (sig l)) []).2.length⟩
end Fk
set_option linter.unusedVariables false
set_option linter.unusedSimpArgs false
set_option maxRecDepth 100000
namespace Fk
open Go Go.Proofs Go.RowKit
def bytesL (s : ByteArray) : List Nat := s.data.toList.map (·.toNat)
structure Tr where
  k : Int
  q : Q4
  sa : Option Addr
  sn : Nat
  sc : Nat
/-- What lies in a row are these trees. -/
def TrF (w : World) : List Tr → Fo → Prop
  | [], .nil => True
  | t :: l, .cons k a b c d q r => (t.k = k ∧ t.q = (a, b, c, d) ∧ t.sn = q.len ∧ q.len < 2 ^ 63 ∧ RepF w t.sa 0 q) ∧ TrF w l r
  | _, _ => False
theorem TrF.md {w w' : World} (hm : Md [] w w') : ∀ {l : List Tr} {fo : Fo}, TrF w l fo → TrF w' l fo
  | [], .nil, _ => trivial
  | t :: l, .cons k a b c d q r, ⟨⟨h1, h2, h3, h4, h5⟩, h6⟩ => ⟨⟨h1, h2, h3, h4, h5.md hm⟩, TrF.md hm h6⟩
  | [], .cons .., h => h.elim
  | _ :: _, .nil, h => h.elim
theorem TrF.len {w : World} : ∀ {l : List Tr} {fo : Fo}, TrF w l fo → l.length = fo.len
  | [], .nil, _ => rfl
  | t :: l, .cons k a b c d q r, ⟨_, h⟩ => by simp only [List.length_cons, Fo.len, TrF.len h]
  | [], .cons .., h => h.elim
  | _ :: _, .nil, h => h.elim
theorem Good.alloc {L : List Nat} {w0 w : World} (h : Good L w0 w) (o : Obj) : Good L w0 (w.alloc o) := h.tr (Md.alloc _ _)
/-- Registers that are made. -/
theorem regUp {L : List Nat} {w0 w w' : World} {n : Nat} (h : Good L w0 w) (hn : w.heap.size ≤ n) (hm : Md [n] w w') (hL : ∀ b ∈ n :: L, b < w'.heap.size) : Good (n :: L) w0 w' :=
  ⟨h.1.old hm (by have := h.1.size; simp; omega), hL⟩
end Fk
