/- Contracts of functions, and plain laws: several texts, joined. -/
import Derived.Test.YtpgjpgecgibklaaRows
import Derived.JoinedOf
import Derived.KernelRfl
import GoSem.ClaimOpen
import GoSem.ClaimOpenFrom
import GoSem.ClaimJoined
import Derived.Test.YtpgjpgecgibklaaGK2
import Derived.ArgAppend
import Derived.Laws.Bits64
import Derived.Test.YtpgjpgecgibklaaProg
import Derived.ChangeKeysEq
import Derived.Laws.StructEq
import Derived.MapKept
import Derived.WalkKit
import Derived.ProofKit
import Derived.OpenShut
import Derived.ShutString
import Derived.ChangeOld
import Derived.Below
import Derived.ChangeArms
import Derived.Test.YtpgjpgecgibklaaGV0
import Derived.Laws.Slices
import Derived.Laws.OwnMore
import Derived.Laws.CopyRow
import Derived.Laws.IdiomStrings
import Derived.SizedLaws
set_option maxRecDepth 100000
set_option linter.unusedVariables false
set_option linter.unusedSimpArgs false
namespace Go.Proofs.Ytpgjpgecgibklaa
def chs (l : List Nat) : List Char := l.map Char.ofNat
def hw1 : List Char := chs [104, 97, 114, 110, 101, 115, 115]
def hw2 : List Char := chs [57, 52, 100, 49, 52, 57, 51, 101, 101, 53, 49, 48, 55, 55, 50, 100, 101, 102, 48, 97, 98, 56, 49, 51, 52, 56, 49, 51, 53, 100, 53, 101, 101, 51, 53, 56, 54, 101, 98, 56, 52, 55, 57, 99, 55, 54, 55, 97, 53, 99, 97, 56, 97, 97, 49, 57, 51, 100, 102, 51, 52, 50, 50, 98]
def hw3 : List Char := chs [99, 117, 116]
def hwr : List Char := chs [97, 116, 32, 102, 114, 97, 110, 107, 105, 110, 103, 47, 102, 114, 97, 110, 107, 105, 110, 103, 108, 97, 119, 48, 54, 46, 67, 108, 97, 115, 115, 101, 115, 84, 101, 108, 108, 115, 32, 102, 114, 97, 110, 107, 105, 110, 103, 47, 102, 114, 97, 110, 107, 105, 110, 103, 108, 97, 119, 48, 54, 46, 67, 108, 97, 115, 115, 101, 115, 83, 97, 109, 101, 32, 102, 114, 97, 110, 107, 105, 110, 103, 47, 102, 114, 97, 110, 107, 105, 110, 103, 108, 97, 119, 48, 54, 46, 67, 108, 97, 115, 115, 101, 115, 77, 111, 114, 101, 32, 102, 114, 97, 110, 107, 105, 110, 103, 47, 102, 114, 97, 110, 107, 105, 110, 103, 108, 97, 119, 48, 54, 46, 67, 108, 97, 115, 115, 101, 115, 79, 114, 100, 101, 114, 32, 102, 114, 97, 110, 107, 105, 110, 103, 47, 102, 114, 97, 110, 107, 105, 110, 103, 108, 97, 119, 48, 54, 46, 67, 108, 97, 115, 115, 101, 115, 84, 119, 111, 32, 102, 114, 97, 110, 107, 105, 110, 103, 47, 102, 114, 97, 110, 107, 105, 110, 103, 108, 97, 119, 49, 48, 46, 84, 97, 98, 108, 101, 84, 101, 108, 108, 115, 32, 102, 114, 97, 110, 107, 105, 110, 103, 47, 102, 114, 97, 110, 107, 105, 110, 103, 108, 97, 119, 49, 48, 46, 84, 97, 98, 108, 101, 66, 97, 99, 107, 32, 102, 114, 97, 110, 107, 105, 110, 103, 47, 102, 114, 97, 110, 107, 105, 110, 103, 108, 97, 119, 49, 48, 46, 84, 97, 98, 108, 101, 67, 117, 116, 32, 102, 114, 97, 110, 107, 105, 110, 103, 47, 102, 114, 97, 110, 107, 105, 110, 103, 108, 97, 119, 48, 56, 46, 68, 102, 97, 83, 97, 109, 101, 32, 102, 114, 97, 110, 107, 105, 110, 103, 47, 102, 114, 97, 110, 107, 105, 110, 103, 108, 97, 119, 49, 48, 46, 84, 97, 98, 108, 101, 83, 116, 101, 112, 32, 102, 114, 97, 110, 107, 105, 110, 103, 47, 102, 114, 97, 110, 107, 105, 110, 103, 108, 97, 119, 48, 55, 46, 78, 102, 97, 84, 101, 108, 108, 115, 32, 102, 114, 97, 110, 107, 105, 110, 103, 47, 102, 114, 97, 110, 107, 105, 110, 103, 108, 97, 119, 48, 55, 46, 78, 102, 97, 84, 97, 103, 115, 32, 102, 114, 97, 110, 107, 105, 110, 103, 47, 102, 114, 97, 110, 107, 105, 110, 103, 108, 97, 119, 49, 48, 46, 84, 97, 98, 108, 101, 82, 105, 103, 104, 116, 32, 102, 114, 97, 110, 107, 105, 110, 103, 47, 102, 114, 97, 110, 107, 105, 110, 103, 108, 97, 119, 48, 55, 46, 78, 102, 97, 67, 97, 112, 32, 102, 114, 97, 110, 107, 105, 110, 103, 47, 102, 114, 97, 110, 107, 105, 110, 103, 108, 97, 119, 48, 55, 46, 78, 102, 97, 70, 114, 111, 110, 116, 115, 32, 102, 114, 97, 110, 107, 105, 110, 103, 47, 102, 114, 97, 110, 107, 105, 110, 103, 108, 97, 119, 48, 55, 46, 78, 102, 97, 79, 114, 100, 101, 114, 32, 102, 114, 97, 110, 107, 105, 110, 103, 47, 102, 114, 97, 110, 107, 105, 110, 103, 108, 97, 119, 48, 57, 46, 76, 101, 97, 115, 116, 84, 101, 108, 108, 115, 32, 102, 114, 97, 110, 107, 105, 110, 103, 47, 102, 114, 97, 110, 107, 105, 110, 103, 108, 97, 119, 48, 57, 46, 76, 101, 97, 115, 116, 65, 112, 97, 114, 116, 32, 102, 114, 97, 110, 107, 105, 110, 103, 47, 102, 114, 97, 110, 107, 105, 110, 103, 108, 97, 119, 48, 57, 46, 76, 101, 97, 115, 116, 78, 117, 109, 98, 101, 114, 115, 32, 102, 114, 97, 110, 107, 105, 110, 103, 47, 102, 114, 97, 110, 107, 105, 110, 103, 108, 97, 119, 48, 57, 46, 76, 101, 97, 115, 116, 65, 108, 105, 107, 101, 32, 102, 114, 97, 110, 107, 105, 110, 103, 47, 102, 114, 97, 110, 107, 105, 110, 103, 108, 97, 119, 50, 48, 46, 68, 105, 115, 107, 70, 114, 111, 110, 116, 32, 102, 114, 97, 110, 107, 105, 110, 103, 47, 102, 114, 97, 110, 107, 105, 110, 103, 108, 97, 119, 50, 48, 46, 68, 105, 115, 107, 87, 104, 111, 108, 101, 32, 102, 114, 97, 110, 107, 105, 110, 103, 47, 102, 114, 97, 110, 107, 105, 110, 103, 108, 97, 119, 50, 48, 46, 68, 105, 115, 107, 65, 114, 109, 101, 100, 32, 102, 114, 97, 110, 107, 105, 110, 103, 47, 102, 114, 97, 110, 107, 105, 110, 103, 108, 97, 119, 48, 57, 46, 76, 101, 97, 115, 116, 83, 97, 109, 101, 32, 102, 114, 97, 110, 107, 105, 110, 103, 47, 102, 114, 97, 110, 107, 105, 110, 103, 108, 97, 119, 50, 48, 46, 68, 105, 115, 107, 84, 101, 108, 108, 115, 32, 102, 114, 97, 110, 107, 105, 110, 103, 47, 102, 114, 97, 110, 107, 105, 110, 103, 108, 97, 119, 50, 48, 46, 68, 105, 115, 107, 78, 111, 110, 101, 32, 102, 114, 97, 110, 107, 105, 110, 103, 47, 102, 114, 97, 110, 107, 105, 110, 103, 108, 97, 119, 50, 49, 46, 74, 111, 117, 114, 110, 97, 108, 82, 111, 116, 32, 102, 114, 97, 110, 107, 105, 110, 103, 47, 102, 114, 97, 110, 107, 105, 110, 103, 108, 97, 119, 50, 49, 46, 74, 111, 117, 114, 110, 97, 108, 67, 114, 97, 115, 104, 32, 102, 114, 97, 110, 107, 105, 110, 103, 47, 102, 114, 97, 110, 107, 105, 110, 103, 108, 97, 119, 50, 49, 46, 74, 111, 117, 114, 110, 97, 108, 82, 111, 111, 109, 32, 102, 114, 97, 110, 107, 105, 110, 103, 47, 102, 114, 97, 110, 107, 105, 110, 103, 108, 97, 119, 48, 56, 46, 68, 102, 97, 84, 101, 108, 108, 115, 32, 102, 114, 97, 110, 107, 105, 110, 103, 47, 102, 114, 97, 110, 107, 105, 110, 103, 108, 97, 119, 48, 56, 46, 68, 102, 97, 70, 111, 117, 110, 100, 32, 102, 114, 97, 110, 107, 105, 110, 103, 47, 102, 114, 97, 110, 107, 105, 110, 103, 108, 97, 119, 48, 56, 46, 68, 102, 97, 67, 97, 112, 32, 102, 114, 97, 110, 107, 105, 110, 103, 47, 102, 114, 97, 110, 107, 105, 110, 103, 108, 97, 119, 48, 56, 46, 68, 102, 97, 82, 117, 110, 115, 32, 102, 114, 97, 110, 107, 105, 110, 103, 47, 102, 114, 97, 110, 107, 105, 110, 103, 108, 97, 119, 50, 49, 46, 74, 111, 117, 114, 110, 97, 108, 65, 110, 101, 119, 32, 102, 114, 97, 110, 107, 105, 110, 103, 47, 102, 114, 97, 110, 107, 105, 110, 103, 108, 97, 119, 50, 49, 46, 74, 111, 117, 114, 110, 97, 108, 84, 101, 108, 108, 115]
theorem head_is : Try.prog.initOrder = String.ofList (hw1 ++ Char.ofNat 32 :: (hw2 ++ Char.ofNat 32 :: (hw3 ++ Char.ofNat 32 :: hwr))) := by kernel_rfl
theorem words_step : ∀ (w r : List Char), (∀ c ∈ w, c ≠ Char.ofNat 32) → wordsSigns (w ++ Char.ofNat 32 :: r) = w :: wordsSigns r
  | [], r, _ => rfl
  | c :: w, r, h => by
    have ih := words_step w r fun c hc => h c (List.mem_cons_of_mem _ hc)
    have hc : c ≠ Char.ofNat 32 := h c (by simp)
    rw [List.cons_append, wordsSigns]
    · rw [ih]
    · exact fun e => hc e
theorem sp1 : ∀ c ∈ hw1, c ≠ Char.ofNat 32 := by decide +kernel
theorem sp2 : ∀ c ∈ hw2, c ≠ Char.ofNat 32 := by decide +kernel
theorem sp3 : ∀ c ∈ hw3, c ≠ Char.ofNat 32 := by decide +kernel
theorem behind_is (rest : List (List Char)) : behindMainWord (hw1 :: hw2 :: hw3 :: rest) = hw3 :: rest := by kernel_rfl
theorem head_list : Try.prog.initOrder.toList = hw1 ++ Char.ofNat 32 :: (hw2 ++ Char.ofNat 32 :: (hw3 ++ Char.ofNat 32 :: hwr)) := by rw [head_is, String.toList_ofList]
theorem words_is (l : List Char) (h : l = hw1 ++ Char.ofNat 32 :: (hw2 ++ Char.ofNat 32 :: (hw3 ++ Char.ofNat 32 :: hwr))) : ∃ rest, behindMainWord (wordsSigns l) = hw3 :: rest :=
  ⟨wordsSigns hwr, by rw [h, words_step hw1 _ sp1, words_step hw2 _ sp2, words_step hw3 _ sp3]; exact behind_is _⟩
theorem cutWords : ∃ rest, behindMainWord (wordsSigns Try.prog.initOrder.toList) = hw3 :: rest := words_is _ head_list
theorem enter_of (P : Program) (rest : List (List Char)) (h : behindMainWord (wordsSigns P.initOrder.toList) = hw3 :: rest) (h2 : (!P.laysLater) = true) (h3 : (!P.bearsReflect) = true) (h4 : P.doorFits [] = true) : P.mayEnter = true := by
  have e : stripLifts liftWords (hw3 :: rest) = ([], hw3 :: rest) := by kernel_rfl
  unfold Program.mayEnter
  rw [h]
  simp only [e, h2, h3, h4]
  simp
  right
  kernel_rfl
theorem lifts_of (P : Program) (rest : List (List Char)) (h : behindMainWord (wordsSigns P.initOrder.toList) = hw3 :: rest) : P.headLifts = [] := by
  have e : stripLifts liftWords (hw3 :: rest) = ([], hw3 :: rest) := by kernel_rfl
  unfold Program.headLifts
  rw [h, e]
  simp
theorem final_of (P : Program) (rest : List (List Char)) (h : behindMainWord (wordsSigns P.initOrder.toList) = hw3 :: rest) : P.liftsFinal = false := by
  unfold Program.liftsFinal
  rw [h, lifts_of P rest h]
  kernel_rfl
theorem make_of (P : Program) (rest : List (List Char)) (h : behindMainWord (wordsSigns P.initOrder.toList) = hw3 :: rest) : P.make = some .cut := by
  unfold Program.make
  rw [h]
  kernel_rfl
theorem later_is : (!Try.prog.laysLater) = true := by kernel_rfl
theorem reflect_is : (!Try.prog.bearsReflect) = true := by kernel_rfl
theorem door_is : Try.prog.doorFits [] = true := by kernel_rfl
theorem mayEnter_is : Try.prog.mayEnter = true := let ⟨rest, h⟩ := cutWords; enter_of _ rest h later_is reflect_is door_is
theorem liftsFinal_is : Try.prog.liftsFinal = false := let ⟨rest, h⟩ := cutWords; final_of _ rest h
theorem make_is : Try.prog.make = some .cut := let ⟨rest, h⟩ := cutWords; make_of _ rest h
theorem laidOut : laidOutB Try.prog = true := by kernel_rfl
theorem mapsRowed_is : mapsRowed Try.prog = true := by kernel_rfl
theorem stops_is : Try.prog.stops = [] := by kernel_rfl
theorem stopKnobs_is : Try.prog.stopKnobs = [] := by kernel_rfl
theorem plainKeys_is : Try.prog.plainKeys = false := by kernel_rfl
theorem stopsHeard_is : Try.prog.stopsHeard = true := by kernel_rfl
theorem ownNone : ownKnob Try.prog.godebug = none := by kernel_rfl
/-- What hangs on the row alone. -/
def lightFacts (P : Program) (f : FuncId) (fn : Func) (s : ChangeSpec) (c : OpenClaim) : Bool :=
  c.wf (OpenSpec.ofChange s) &&
  fn.params.all (P.readableRec ·) && namedTie P c.named s.vars &&
  (c.stops == []) && (c.knobs == []) &&
  (c.maps == (fn.params.toList ++ s.plain.varTypes P).any (P.mapsRec ·)) && (c.ifaces == (fn.params.toList ++ s.plain.varTypes P).any (P.ifacesRec ·)) && (c.mapsOut == P.mapsAmong fn.resultTypes.toList) &&
  (c.loops == (fn.params.toList ++ s.plain.varTypes P).any (P.loopsFrom ·)) && (c.wideKeys == (fn.params.toList ++ s.plain.varTypes P ++ fn.resultTypes.toList).any (P.wideKeysFrom ·)) &&
  s.vars.all (P.varReadable ·) && fn.resultTypes.all (fun t => P.readableRec t && decide (t < P.types.size)) && (c.ifacesOut == fn.resultTypes.toList.any (P.ifacesRec ·)) && (c.loopsOut == fn.resultTypes.toList.any (P.loopsFrom ·)) &&
  (c.plainKeys == false) && c.shortTexts.isNone && (c.lifted == false) && (some .cut == some c.make) && (c.kinds == (if c.domain.isEmpty then [] else fn.params.toList.map fun t => match P.underlying t with | some (.int k) => some k | _ => none)) && (c.pinned == c.pinnedBy) &&
  (c.veiled == (fn.params.toList ++ s.plain.varTypes P ++ fn.resultTypes.toList).any (P.veiledRec ·)) && c.veiledFits P fn.params.toList (fn.params.toList ++ s.plain.varTypes P ++ fn.resultTypes.toList)
theorem joined_of {f : FuncId} {fn : Func} {s : ChangeSpec} {c : OpenClaim} (h : lightFacts Try.prog f fn s c = true) (h1 : c.inPlace = Try.prog.inPlace f) (h2 : c.unfollowed = Try.prog.unfollowed f) (h3 : c.recurses = Try.prog.recurses f)
    (h4 : c.named = Try.prog.varsNamed f) : joinedFacts Try.prog f fn s c = true := by
  unfold lightFacts at h
  simp only [Bool.and_eq_true] at h
  obtain ⟨⟨⟨⟨⟨⟨⟨⟨⟨⟨⟨⟨⟨⟨⟨⟨⟨⟨⟨⟨⟨a1, a2⟩, a3⟩, a4⟩, a5⟩, a6⟩, a7⟩, a8⟩, a9⟩, a10⟩, a11⟩, a12⟩, a13⟩, a14⟩, a15⟩, a16⟩, a17⟩, a18⟩, a19⟩, a20⟩, a21⟩, a22⟩ := h
  have e1 : (c.inPlace == Try.prog.inPlace f) = true := by rw [h1]; exact beq_self_eq_true _
  have e2 : (c.unfollowed == Try.prog.unfollowed f) = true := by rw [h2]; exact beq_self_eq_true _
  have e3 : (c.recurses == Try.prog.recurses f) = true := by rw [h3]; exact beq_self_eq_true _
  have e4 : (c.named == Try.prog.varsNamed f) = true := by rw [h4]; exact beq_self_eq_true _
  unfold joinedFacts
  rw [laidOut, mapsRowed_is, stops_is, stopKnobs_is, plainKeys_is, stopsHeard_is, mayEnter_is, liftsFinal_is, make_is, e1, e2, e3, e4]
  simp only [a1, a2, a3, a4, a5, a6, a7, a8, a9, a10, a11, a12, a13, a14, a15, a16, a17, a18, a19, a20, a21, a22, Bool.and_true, Bool.true_and, beq_self_eq_true]
  exact a19
end Go.Proofs.Ytpgjpgecgibklaa
set_option linter.unusedVariables false
namespace Fk
open Go Go.RowKit
/-- A row of trees: the first one, its kids, and the others. -/
inductive Fo where
  | nil
  | cons (k a b c d : Int) (kids rest : Fo)
def Fo.len : Fo → Nat
  | .nil => 0
  | .cons _ _ _ _ _ _ r => r.len + 1
def Fo.size : Fo → Nat
  | .nil => 0
  | .cons _ _ _ _ _ q r => q.size + r.size + 1
/-- The cells of a tree. -/
def ReC (w : World) (B : Addr) (k a b c d : Int) (sa : Option Addr) (sn sc : Nat) : Prop :=
  w.cell? (B.add 0) = some (.int .u8 k) ∧ w.cell? (B.add 1) = some (.int .u64 a) ∧ w.cell? (B.add 2) = some (.int .u64 b) ∧ w.cell? (B.add 3) = some (.int .u64 c) ∧
    w.cell? (B.add 4) = some (.int .u64 d) ∧ w.cell? (B.add 5) = some (.slice sa sn sc)
/-- A row of trees lies in memory, from the i-th place of A on. -/
def RepF (w : World) : Option Addr → Nat → Fo → Prop
  | _, _, .nil => True
  | A, i, .cons k a b c d q r => (∃ B sa sc, A = some B ∧ ReC w (B.add (i * 6)) k a b c d sa q.len sc ∧ q.len < 2 ^ 63 ∧ RepF w sa 0 q) ∧ RepF w A (i + 1) r
theorem ReC.md {w w' : World} {B : Addr} {k a b c d : Int} {sa : Option Addr} {sn sc : Nat} (h : ReC w B k a b c d sa sn sc) (hm : Md [] w w') : ReC w' B k a b c d sa sn sc :=
  ⟨hm.cell0 h.1, hm.cell0 h.2.1, hm.cell0 h.2.2.1, hm.cell0 h.2.2.2.1, hm.cell0 h.2.2.2.2.1, hm.cell0 h.2.2.2.2.2⟩
theorem RepF.md {w w' : World} (hm : Md [] w w') : ∀ {A : Option Addr} {i : Nat} {f : Fo}, RepF w A i f → RepF w' A i f
  | _, _, .nil, _ => trivial
  | A, i, .cons k a b c d q r, h => by
    simp only [RepF] at h ⊢
    obtain ⟨⟨B, sa, sc, h1, h2, h3, h4⟩, h5⟩ := h
    exact ⟨⟨B, sa, sc, h1, h2.md hm, h3, RepF.md hm h4⟩, RepF.md hm h5⟩
/-- The tree that comes next. -/
theorem RepF.at {w : World} {A : Option Addr} {i : Nat} {k a b c d : Int} {q r : Fo} (h : RepF w A i (.cons k a b c d q r)) :
    ∃ B sa sc, A = some B ∧ ReC w (B.add (i * 6)) k a b c d sa q.len sc ∧ q.len < 2 ^ 63 ∧ RepF w sa 0 q ∧ RepF w A (i + 1) r := by
  simp only [RepF] at h
  obtain ⟨⟨B, sa, sc, h1, h2, h3, h4⟩, h5⟩ := h
  exact ⟨B, sa, sc, h1, h2, h3, h4, h5⟩
end Fk
set_option linter.unusedVariables false
namespace Fk
open Go Go.Proofs Go.RowKit
/-- A type of slices, of elements of so many cells and bytes. -/
structure RowT (P : Program) (t e : TypeId) (size bytes : Nat) : Prop where
  ht : P.underlying t = some (.slice e)
  hi : ∃ i z, P.info? e = some i ∧ i.zero = some z ∧ i.size = size ∧ i.bytes = bytes ∧ z.cells.size = size
  pos : 0 < size
theorem RowT.of {P : Program} {t e : TypeId} {size bytes : Nat} (h1 : P.underlying t = some (.slice e)) (h2 : (P.info? e).map (fun i => (i.size, i.bytes)) = some (size, bytes))
    (h3 : ((P.info? e).bind (·.zero)).map (·.cells.size) = some size) (h4 : 0 < size) : RowT P t e size bytes := by
  refine ⟨h1, ?_, h4⟩
  cases hi : P.info? e with
  | none => simp [hi] at h2
  | some i =>
    simp only [hi, Option.map_some, Option.some.injEq, Prod.mk.injEq, Option.bind_some] at h2 h3
    cases hz : i.zero with
    | none => simp [hz] at h3
    | some z => simp only [hz, Option.map_some, Option.some.injEq] at h3; exact ⟨i, z, rfl, hz, h2.1, h2.2, h3⟩
/-- A way to lay out elements. -/
structure Enc {α : Type} (size : Nat) (enc : α → List Value) : Prop where
  len : ∀ x, (enc x).length = size
  one : ∀ x, ∀ v ∈ enc x, v.oneCell' = true
theorem Enc.lenL {α : Type} {size : Nat} {enc : α → List Value} (h : Enc size enc) : ∀ l : List α, (l.flatMap enc).length = l.length * size
  | [] => by simp
  | x :: l => by rw [List.flatMap_cons, List.length_append, h.len, h.lenL l, List.length_cons, Nat.succ_mul]; omega
theorem Enc.oneL {α : Type} {size : Nat} {enc : α → List Value} (h : Enc size enc) (l : List α) : ∀ v ∈ l.flatMap enc, v.oneCell' = true := by
  intro v hv
  obtain ⟨x, _, hx⟩ := List.mem_flatMap.1 hv
  exact h.one x v hx
theorem Enc.at {α : Type} {size : Nat} {enc : α → List Value} (h : Enc size enc) : ∀ (l : List α) (i j : Nat) (x : α), l[i]? = some x → j < size → (l.flatMap enc)[i * size + j]? = (enc x)[j]?
  | [], i, j, x, hx, hj => by simp at hx
  | y :: l, 0, j, x, hx, hj => by
    simp at hx; subst hx
    rw [List.flatMap_cons, Nat.zero_mul, Nat.zero_add, List.getElem?_append_left (by rw [h.len]; exact hj)]
  | y :: l, i + 1, j, x, hx, hj => by
    simp at hx
    rw [List.flatMap_cons, Nat.succ_mul, List.getElem?_append_right (by rw [h.len]; omega), h.len, show i * size + size + j - size = i * size + j by omega]
    exact h.at l i j x hx hj
/-- A row of one's own: no older than 'base'. -/
def OwnL {α : Type} (w : World) (base : Nat) (e : TypeId) (size : Nat) (enc : α → List Value) (a : Option Addr) (c : Nat) (l : List α) : Prop :=
  w.ownsRow base e size (.slice a l.length c) l.length (l.flatMap enc)
theorem Md_of_grown {w w' : World} {row : Option Nat} (h : w.grownBy w' row) : Md row.toList w w' :=
  ⟨h.os, h.tape, h.output, h.size, fun k hk hm => h.block k hk fun e => hm (by rw [← e]; simp)⟩
section
variable {α : Type} {w w' : World} {base : Nat} {e : TypeId} {size : Nat} {enc : α → List Value} {a : Option Addr} {c : Nat} {l : List α}
theorem OwnL.nil (w : World) (base : Nat) (e : TypeId) (size : Nat) (enc : α → List Value) : OwnL w base e size enc none 0 [] := World.ownsRow_nil w base e size
theorem OwnL.lt (h : OwnL w base e size enc a c l) {A : Addr} (ha : a = some A) : base ≤ A.block ∧ A.block < w.heap.size := World.ownsRow.lt h A.block (by subst ha; rfl)
theorem OwnL.mdD {D : List Nat} (h : OwnL w base e size enc a c l) (hm : Md D w w') (hD : ∀ A, a = some A → A.block ∉ D) : OwnL w' base e size enc a c l := by
  refine ⟨h.1, ?_⟩
  rcases h.2 with hn | ⟨g, cap, cur, hv, hb, hg, rest⟩
  · exact .inl hn
  · refine .inr ⟨g, cap, cur, hv, hb, ?_, rest⟩
    simp only [Value.slice.injEq] at hv
    rw [hm.blk g (Array.getElem?_eq_some_iff.1 hg).1 (hD _ hv.1)]
    exact hg
theorem OwnL.md (h : OwnL w base e size enc a c l) (hm : Md [] w w') : OwnL w' base e size enc a c l := h.mdD hm (by simp)
/-- What is made anew elsewhere leaves it. -/
theorem OwnL.mdN {D : List Nat} (h : OwnL w base e size enc a c l) (hm : Md D w w') (hD : ∀ d ∈ D, w.heap.size ≤ d) : OwnL w' base e size enc a c l := h.md (hm.fresh hD)
theorem OwnL.down {b : Nat} (h : OwnL w base e size enc a c l) (hb : b ≤ base) : OwnL w b e size enc a c l := by
  refine ⟨h.1, ?_⟩
  rcases h.2 with hn | ⟨g, cap, cur, hv, hb', rest⟩
  · exact .inl hn
  · exact .inr ⟨g, cap, cur, hv, Nat.le_trans hb hb', rest⟩
/-- Its cells. -/
theorem OwnL.cells (h : OwnL w base e size enc a c l) : ∀ j u, (l.flatMap enc)[j]? = some u → ∃ A, a = some A ∧ w.cell? (A.add j) = some u := by
  intro j u hu
  rcases h.2 with ⟨hv, hn⟩ | ⟨g, cap, cur, hv, _⟩
  · have hl : l = [] := List.eq_nil_of_length_eq_zero hn
    subst hl; simp at hu
  · simp only [Value.slice.injEq] at hv
    refine ⟨⟨g, 0, none⟩, hv.1, ?_⟩
    exact World.ownsRow.cells h (by rw [hv.1]; rfl) j u hu
theorem OwnL.at (h : OwnL w base e size enc a c l) (he : Enc size enc) {i : Nat} {x : α} (hx : l[i]? = some x) :
    ∃ A, a = some A ∧ ∀ j u, (enc x)[j]? = some u → w.cell? ((A.add (i * size)).add j) = some u := by
  rcases h.2 with ⟨hv, hn⟩ | ⟨g, cap, cur, hv, _⟩
  · have hl : l = [] := List.eq_nil_of_length_eq_zero hn
    subst hl; simp at hx
  · simp only [Value.slice.injEq] at hv
    refine ⟨⟨g, 0, none⟩, hv.1, fun j u hu => ?_⟩
    have hj : j < size := by rw [← he.len x]; exact (List.getElem?_eq_some_iff.1 hu).1
    have h1 := World.ownsRow.cells h (g := g) (by rw [hv.1]; rfl) (i * size + j) u (by rw [he.at l i j x hx hj]; exact hu)
    simp only [Addr.add_lit, Nat.zero_add] at h1 ⊢
    exact h1
theorem OwnL.lit {P : Program} (he : Enc size enc) (w : World) (e : TypeId) (l : List α) (cs : Array Value) (hb : base ≤ w.heap.size) (hm : l.length ≤ maxLen) (hs : cs.toList = l.flatMap enc) :
    OwnL (w.alloc (.cells cs e)) base e size enc (some ⟨w.heap.size, 0, none⟩) l.length l := by
  have h := World.ownsRow_lit (w := w) (e := e) (size := size) cs l.length hb hm (by rw [← Array.length_toList, hs, he.lenL])
  unfold OwnL
  rw [← hs]
  exact h
end
theorem own_slice {w : World} {base : Nat} {e : TypeId} {size : Nat} {v : Value} {n : Nat} {xs : List Value} (h : w.ownsRow base e size v n xs) : ∃ a c, v = .slice a n c := by
  rcases h.2 with ⟨rfl, hn0⟩ | ⟨g', cap', cur', rfl, _⟩
  · exact ⟨none, 0, by rw [hn0]⟩
  · exact ⟨_, _, rfl⟩
theorem own_blk {w : World} {base : Nat} {e : TypeId} {size : Nat} {a : Option Addr} {m c : Nat} {n : Nat} {xs : List Value} (h : w.ownsRow base e size (.slice a m c) n xs) : ∀ A, a = some A → base ≤ A.block :=
  fun A hA => (World.ownsRow.lt h A.block (by subst hA; rfl)).1
/-- The append itself. -/
theorem run_app {P : Program} {t ty e : TypeId} {size bytes : Nat} (T : RowT P t e size bytes) {w : World} {base : Nat} {a : Option Addr} {n c : Nat} {xs : List Value} (h : w.ownsRow base e size (.slice a n c) n xs)
    (A2 : Addr) (m c2 : Nat) (news : List Value) (hl : news.length = m * size) (hnews : ∀ j u, news[j]? = some u → w.cell? (A2.add j) = some u) (h1 : ∀ u ∈ news, u.oneCell' = true)
    (hn : n + m ≤ maxLen) (hby : (n + m) * bytes ≤ 140737488355328) (hb : base ≤ w.heap.size) :
    ∃ a' c' w', (Builtin.append_ #[t, t] ty #[.slice a n c, .slice (some A2) m c2]).run P w = .ok (.slice a' (n + m) c') w' ∧ w'.ownsRow base e size (.slice a' (n + m) c') (n + m) (xs ++ news) ∧
      Md (a.map (·.block)).toList w w' ∧ (∀ A, a' = some A → a = some A ∨ w.heap.size ≤ A.block) := by
  obtain ⟨i, z, hi, hz, hs, hy, hzs⟩ := T.hi
  have dn : ∀ {w' : World} {v : Value} {k : Nat} {ys : List Value}, w'.ownsRow w.heap.size e size v k ys → w'.ownsRow base e size v k ys := by
    intro w' v k ys h
    refine ⟨h.1, ?_⟩
    rcases h.2 with hn | ⟨g, cap, cur, hv, hb', rest⟩
    · exact .inl hn
    · exact .inr ⟨g, cap, cur, hv, Nat.le_trans hb hb', rest⟩
  rcases h.2 with ⟨hv, hn0⟩ | ⟨g, cap, cur, hv, hbg, hg, hnc, hrest⟩
  · simp only [Value.slice.injEq] at hv
    obtain ⟨rfl, _, rfl⟩ := hv
    subst hn0
    have hx : xs = [] := List.eq_nil_of_length_eq_zero (by simpa using h.1)
    subst hx
    obtain ⟨v', w', hr, ho, hgr, _⟩ := run_append_own (P := P) w (ty := ty) w.heap.size t e i z size bytes T.ht hi hz hs hy hzs T.pos _ 0 [] (World.ownsRow_nil w _ e size) A2 m c2 news hl hnews h1 hn hby (Nat.le_refl _)
    obtain ⟨a', c', rfl⟩ := own_slice ho
    exact ⟨a', c', w', hr, dn ho, Md_of_grown hgr, fun A hA => .inr (own_blk ho A hA)⟩
  · simp only [Value.slice.injEq] at hv
    obtain ⟨rfl, _, rfl⟩ := hv
    by_cases hroom : n + m ≤ c
    · obtain ⟨w', hr, ho, hgr⟩ := run_append_fits (P := P) w (ty := ty) base t e i size T.ht hi hs g n c xs h A2 m c2 news hl hnews h1 hroom
      exact ⟨_, _, w', hr, ho, Md_of_grown hgr, fun A hA => .inl hA⟩
    · have hsz : 0 < size := T.pos
      obtain ⟨v', w', hr, ho, hgr⟩ := run_append_arg_grows (P := P) w (ty := ty) t e i z size bytes T.ht hi hz hs hy hzs T.pos ⟨g, 0, none⟩ n c xs h.1 (World.ownsRow.cells h rfl) A2 m c2 news hl hnews (by omega) hn hby
      obtain ⟨a', c', rfl⟩ := own_slice ho
      exact ⟨a', c', w', hr, dn ho, (Md_of_grown hgr).mono (by simp), fun A hA => .inr (own_blk ho A hA)⟩
/-- Behind a row of one's own comes what another one has. -/
theorem app_own {α : Type} {P : Program} {t ty e : TypeId} {size bytes : Nat} (T : RowT P t e size bytes) {enc : α → List Value} (he : Enc size enc) {w : World} {base base2 : Nat} {a a2 : Option Addr} {c c2 : Nat} {l l2 : List α} {L : List Nat}
    (h : OwnL w base e size enc a c l) (h2 : OwnL w base2 e size enc a2 c2 l2) (hb : base ≤ w.heap.size) (hL : ∀ b ∈ L, b < w.heap.size) (hLa : ∀ b ∈ L, ∀ A, a = some A → A.block ≠ b)
    (hn : l.length + l2.length ≤ maxLen) (hby : (l.length + l2.length) * bytes ≤ 140737488355328) {K : Value → World → Prop}
    (k : ∀ (a' : Option Addr) (c' : Nat) (w' : World), OwnL w' base e size enc a' c' (l ++ l2) → Md (a.map (·.block)).toList w w' → (∀ A, a' = some A → a = some A ∨ w.heap.size ≤ A.block) → K (.slice a' (l ++ l2).length c') w') :
    RunW P L (Builtin.append_ #[t, t] ty #[.slice a l.length c, .slice a2 l2.length c2]) K w := by
  rcases h2.2 with ⟨hv, hn0⟩ | ⟨g, cap, cur, hv, _⟩
  · have hl : l2 = [] := List.eq_nil_of_length_eq_zero hn0
    subst hl
    obtain ⟨i, z, hi, hz, hs, hy, hzs⟩ := T.hi
    have := run_append_owned_none (P := P) w (ty := ty) base t e i size T.ht hi _ _ _ h
    rw [hv]
    refine RunW_in0 this ?_
    have hk := k a c w (by simpa using h) (Md.refl _ _) (fun A hA => .inl hA)
    simpa using hk
  · simp only [Value.slice.injEq] at hv
    obtain ⟨rfl, _, rfl⟩ := hv
    obtain ⟨a', c', w', hr, ho, hm, hA⟩ := run_app (ty := ty) T h ⟨g, 0, none⟩ l2.length c2 (l2.flatMap enc) (he.lenL l2) (World.ownsRow.cells h2 rfl) (he.oneL l2) hn hby hb
    refine RunW_in hr (fun b hbL => hm.blk b (hL b hbL) fun hmem => ?_) ?_
    · cases a with
      | none => simp at hmem
      | some A => simp at hmem; exact hLa b hbL A rfl hmem.symm
    · have := k a' c' w' (by unfold OwnL; rw [List.flatMap_append, List.length_append]; exact ho) hm hA
      rwa [List.length_append] at this
/-- One element more, from where it has just been laid. -/
theorem app_one {α : Type} {P : Program} {t ty e : TypeId} {size bytes : Nat} (T : RowT P t e size bytes) {enc : α → List Value} (he : Enc size enc) {w : World} {base : Nat} {a : Option Addr} {c : Nat} {l : List α} {L : List Nat} {cs : Array Value} (x : α) (hcs : cs.toList = enc x)
    (h : OwnL w base e size enc a c l) (hb : base ≤ w.heap.size) (hL : ∀ b ∈ L, b < w.heap.size) (hLa : ∀ b ∈ L, ∀ A, a = some A → A.block ≠ b)
    (hn : l.length + 1 ≤ maxLen) (hby : (l.length + 1) * bytes ≤ 140737488355328) {K : Value → World → Prop}
    (k : ∀ (a' : Option Addr) (c' : Nat) (w' : World), OwnL w' base e size enc a' c' (l ++ [x]) → Md (a.map (·.block)).toList w w' → (∀ A, a' = some A → a = some A ∨ w.heap.size ≤ A.block) → K (.slice a' (l ++ [x]).length c') w') :
    Nw (.cells cs e) w fun b w' => RunW P L (Builtin.append_ #[t, t] ty #[.slice a l.length c, .slice (some { block := b, off := 0 }) 1 1]) K w' := by
  intro b w1 eb e1
  subst eb; subst e1
  have h2 := OwnL.lit (P := P) (base := w.heap.size) he w e [x] cs (Nat.le_refl _) (by simp [maxLen]) (by simpa using hcs)
  have hs : w.heap.size ≤ (w.alloc (.cells cs e)).heap.size := by simp
  refine app_own T he (h.md (Md.alloc w _)) h2 (Nat.le_trans hb hs) (fun b hbL => Nat.lt_of_lt_of_le (hL b hbL) hs) hLa hn hby fun a' c' w' ho hm hA => k a' c' w' ho ?_ fun A hA' => (hA A hA').imp id (Nat.le_trans hs)
  exact (Md.alloc w _).trans hm
abbrev Q4 := Int × Int × Int × Int
def q4 (q : Q4) : List Value := [.int .u64 q.1, .int .u64 q.2.1, .int .u64 q.2.2.1, .int .u64 q.2.2.2]
end Fk
set_option linter.unusedVariables false
set_option linter.unusedSimpArgs false
set_option maxRecDepth 4000
namespace Fk
open Go Go.Proofs Go.RowKit
/-- A word of a set. -/
def word (q : Q4) (i : Nat) : Int := match i with | 0 => q.1 | 1 => q.2.1 | 2 => q.2.2.1 | _ => q.2.2.2
/-- Is a byte in a set? -/
def inQ (q : Q4) (b : Nat) : Bool := decide (word q (b / 64) / 2 ^ (b % 64) % 2 = 1)
end Fk
set_option linter.unusedVariables false
set_option linter.unusedSimpArgs false
set_option maxRecDepth 4000
namespace Fk
open Go Go.Proofs Go.RowKit
/-- Classes: of each byte, and how many. -/
structure Cl where
  f : List Nat
  m : Int
structure Cl.ok (c : Cl) : Prop where
  len : c.f.length = 256
  lt : ∀ i (h : i < c.f.length), c.f[i] < 256
  lo : -9223372036854775808 ≤ c.m
  hi : c.m ≤ 9223372036854775807
def Cl.l (c : Cl) : List Value := c.f.map (fun x => .int .u8 (x : Int)) ++ [.int .i64 c.m]
def Cl.v (c : Cl) : Array Value := c.l.toArray
theorem Cl.ok.size {c : Cl} (h : c.ok) : c.v.size = 257 := by simp [Cl.v, Cl.l, h.len]
theorem inc_i64 {i : Nat} (h : i < 2 ^ 40) : IntKind.wrap .i64 ((i : Int) + 1) = ((i + 1 : Nat) : Int) := by rw [IntKind.wrap_i64]; omega
def rightGo : List Nat → Nat → Option Nat
  | [], n => some n
  | x :: l, n => if n < x then none else if x = n then rightGo l (n + 1) else rightGo l n
def Cl.right (c : Cl) : Bool := match rightGo c.f 0 with | none => false | some n => decide ((n : Int) = c.m)
def least : List Nat → Int → Nat
  | [], _ => 0
  | x :: l, k => if (x : Int) = k then 0 else least l k + 1
end Fk
set_option linter.unusedVariables false
set_option maxRecDepth 100000
namespace Fk
open Go Go.Proofs Go.RowKit
/-- Numbers, as cells. -/
def ints (k : IntKind) (l : List Int) : List Value := l.map (.int k)
theorem run_items {P : Program} {w : World} {e : TypeId} {q : IntKind} (hu : P.underlying e = some (.int q)) (hc : P.cellsOf e = 1) (d : Nat) (k : IntKind) (xs ys : List Int) :
    ∀ (n i : Nat), i + n = xs.length → xs.length = ys.length →
      (Op.eqItems (d + 1) e 1 (ints k xs).toArray (ints k ys).toArray (List.range' i n)).run P w = .ok (decide (xs.drop i = ys.drop i)) w
  | 0, i, h, hl => by
    have h1 : xs.drop i = [] := List.drop_of_length_le (by omega)
    have h2 : ys.drop i = [] := List.drop_of_length_le (by omega)
    simp [Op.eqItems, h1, h2]
  | n + 1, i, h, hl => by
    have hi : i < xs.length := by omega
    have hj : i < ys.length := by omega
    have ha : isAggT P e = false := by simp [isAggT, hu]
    have p1 : (part e (ints k xs).toArray (i * 1)).run P w = .ok (.int k xs[i]) w := by
      simp [part, run_isAgg hu, ha, ints, hi]
    have p2 : (part e (ints k ys).toArray (i * 1)).run P w = .ok (.int k ys[i]) w := by
      simp [part, run_isAgg hu, ha, ints, hj]
    have p3 : (Op.equalIn (d + 1) e (.int k xs[i]) (.int k ys[i])).run P w = .ok (xs[i] == ys[i]) w := by
      simp [Op.equalIn, run_underlying hu]
    rw [List.range'_succ]
    simp only [Op.eqItems, Sem.run_bind, p1, p2, p3, Result.andThen_ok]
    have ex : (xs.drop i = ys.drop i) = (xs[i] = ys[i] ∧ xs.drop (i + 1) = ys.drop (i + 1)) := by
      rw [List.drop_eq_getElem_cons hi, List.drop_eq_getElem_cons hj, List.cons.injEq]
    simp only [ex]
    by_cases he : xs[i] = ys[i]
    · simp only [he, BEq.rfl, Bool.not_true, Bool.false_eq_true, if_false]
      rw [run_items hu hc d k xs ys n (i + 1) (by omega) hl]
      simp
    · simp [he]
theorem run_equal_ints {P : Program} {w : World} {t e : TypeId} {q : IntKind} {n : Nat} {i : TypeInfo} (ht : P.underlying t = some (.array n e)) (hi : P.info? e = some i) (hu : P.underlying e = some (.int q))
    (hc : P.cellsOf e = 1) (k : IntKind) (xs ys : List Int) (hx : xs.length = n) (hy : ys.length = n) (d : Nat) :
    (Op.equalIn (d + 2) t (.agg (ints k xs).toArray) (.agg (ints k ys).toArray)).run P w = .ok (decide (xs = ys)) w := by
  rw [run_equalIn_array w (d + 1) _ _ ht hi, hc, List.range_eq_range', run_items hu hc d k xs ys n 0 (by omega) (by omega)]
  simp
end Fk
set_option linter.unusedVariables false
set_option linter.unusedSimpArgs false
set_option linter.unusedSectionVars false
set_option maxRecDepth 100000
namespace Fk
open Go Go.Proofs Go.RowKit
/-- What is compared as what it stands for. -/
def EqT {α : Type} [DecidableEq α] (P : Program) (t : TypeId) (v : α → Value) (n : Nat) : Prop :=
  ∀ (d : Nat) (w : World) (a b : α), n ≤ d → (Op.equalIn d t (v a) (v b)).run P w = .ok (decide (a = b)) w
theorem EqT.int {P : Program} {t : TypeId} {q : IntKind} (hu : P.underlying t = some (.int q)) (k : IntKind) : EqT P t (fun x : Int => .int k x) 1 := by
  intro d w a b hd
  obtain ⟨d, rfl⟩ := Nat.exists_eq_add_of_le' hd
  simp only [Op.equalIn, Sem.run_bind, run_underlying hu, Result.andThen_ok]
  simp [Bool.beq_eq_decide_eq]
theorem EqT.bool {P : Program} {t : TypeId} (hu : P.underlying t = some .bool) : EqT P t (fun x : Bool => .bool x) 1 := by
  intro d w a b hd
  obtain ⟨d, rfl⟩ := Nat.exists_eq_add_of_le' hd
  simp only [Op.equalIn, Sem.run_bind, run_underlying hu, Result.andThen_ok]
  simp [Bool.beq_eq_decide_eq]
/-- A kind of maps: how keys and values are laid. -/
structure MapT {K V : Type} [DecidableEq K] (P : Program) (mt kt et : TypeId) (d : TypeDesc) (kv : K → Value) (vv : V → Value) : Prop where
  hm : P.underlying mt = some (.map kt et)
  hk : P.underlying kt = some d
  check : ∀ (em : Bool) (w : World) (k : K), (Instr.checkKey em 10000 kt (kv k)).run P w = .ok () w
  eq : EqT P kt kv 10000
  now : ∀ a b, Instr.sameNow d (kv a) (kv b) = none ∨ Instr.sameNow d (kv a) (kv b) = some (decide (a = b))
def findI {K V : Type} [DecidableEq K] (k : K) : List (K × V) → Nat → Option (Nat × V)
  | [], _ => none
  | p :: l, i => if k = p.1 then some (i, p.2) else findI k l (i + 1)
/-- What a map has, the eldest first. -/
def MapAt {K V : Type} (w : World) (r : Nat) (kv : K → Value) (vv : V → Value) (l : List (K × V)) : Prop :=
  ∃ es clock, w.heap[r]? = some (.map es clock) ∧ es.toList.map (fun e => (e.key, e.val)) = l.map (fun p => (kv p.1, vv p.2))
section
variable {K V : Type} [DecidableEq K] {P : Program} {mt kt et : TypeId} {d : TypeDesc} {kv : K → Value} {vv : V → Value}
theorem MapT.asking (T : MapT P mt kt et d kv vv) (w : World) (k : K) : ∀ (es : List MapEntry) (l : List (K × V)) (i : Nat), es.map (fun e => (e.key, e.val)) = l.map (fun p => (kv p.1, vv p.2)) →
    (Instr.findAsking kt (kv k) es i).run P w = .ok ((findI k l i).map fun p => (p.1, vv p.2)) w
  | [], [], i, _ => by simp [Instr.findAsking, findI]
  | [], _ :: _, _, h => by simp at h
  | _ :: _, [], _, h => by simp at h
  | e :: es, p :: l, i, h => by
    simp only [List.map_cons, List.cons.injEq, Prod.mk.injEq] at h
    have he := T.eq 10000 w k p.1 (Nat.le_refl _)
    simp only [Instr.findAsking, Sem.run_bind, Op.equal, Op.maxDepth, h.1.1, he, Result.andThen_ok, findI]
    by_cases hc : k = p.1
    · simp [hc, h.1.2]
    · simp only [hc, decide_false, Bool.false_eq_true, if_false]
      exact T.asking w k es l (i + 1) h.2
theorem MapT.now' (T : MapT P mt kt et d kv vv) (k : K) : ∀ (es : List MapEntry) (l : List (K × V)) (i : Nat), es.map (fun e => (e.key, e.val)) = l.map (fun p => (kv p.1, vv p.2)) →
    Instr.findNow d (kv k) es i = none ∨ Instr.findNow d (kv k) es i = some ((findI k l i).map fun p => (p.1, vv p.2))
  | [], [], i, _ => by simp [Instr.findNow, findI]
  | [], _ :: _, _, h => by simp at h
  | _ :: _, [], _, h => by simp at h
  | e :: es, p :: l, i, h => by
    simp only [List.map_cons, List.cons.injEq, Prod.mk.injEq] at h
    simp only [Instr.findNow, findI, h.1.1]
    rcases T.now k p.1 with hn | hn
    · left; rw [hn]
    · rw [hn]
      by_cases hc : k = p.1
      · right; simp [hc, h.1.2]
      · simp only [hc, decide_false, if_false]
        exact T.now' k es l (i + 1) h.2
theorem MapT.find (T : MapT P mt kt et d kv vv) (w : World) (k : K) (es : List MapEntry) (l : List (K × V)) (h : es.map (fun e => (e.key, e.val)) = l.map (fun p => (kv p.1, vv p.2))) :
    (Instr.findKey kt (kv k) es).run P w = .ok ((findI k l 0).map fun p => (p.1, vv p.2)) w := by
  unfold Instr.findKey
  simp only [Sem.run_bind, run_underlying T.hk, Result.andThen_ok]
  rcases T.now' k es l 0 h with hn | hn
  · rw [hn]; exact T.asking w k es l 0 h
  · rw [hn]; simp
theorem MapT.lookup (T : MapT P mt kt et d kv vv) {w : World} {r : Nat} {l : List (K × V)} (h : MapAt w r kv vv l) (k : K) (z : Value) (hz : (zeroValue et).run P w = .ok z w) :
    (Instr.lookup mt (.map (some r)) (kv k) true).run P w = .ok (.tuple #[((findI k l 0).map fun p => vv p.2).getD z, .bool (findI k l 0).isSome]) w := by
  obtain ⟨es, clock, hb, he⟩ := h
  have hf := T.find w k es.toList l he
  cases hfi : findI k l 0 with
  | none => simp [Instr.lookup, run_underlying T.hm, MapKept.run_getObj_map hb, T.check, hf, hfi, hz, Result.andThen]
  | some p => simp [Instr.lookup, run_underlying T.hm, MapKept.run_getObj_map hb, T.check, hf, hfi, hz, Result.andThen]
theorem Md_set {w : World} {r : Nat} (o : Obj) : Md [r] w { w with heap := w.heap.setIfInBounds r o } := by
  refine ⟨rfl, rfl, rfl, by simp, fun k hk hm => ?_⟩
  have : k ≠ r := by simpa using hm
  simp [Array.getElem?_setIfInBounds, Ne.symm this]
theorem MapT.add (T : MapT P mt kt et d kv vv) {w : World} {r : Nat} {l : List (K × V)} (h : MapAt w r kv vv l) (k : K) (v : V) (hf : findI k l 0 = none) :
    ∃ w', (Instr.mapUpdate mt (.map (some r)) (kv k) (vv v)).run P w = .ok () w' ∧ MapAt w' r kv vv (l ++ [(k, v)]) ∧ Md [r] w w' := by
  obtain ⟨es, clock, hb, he⟩ := h
  have hf' := T.find w k es.toList l he
  rw [hf] at hf'
  refine ⟨{ w with heap := w.heap.setIfInBounds r (.map (es.push { key := kv k, val := vv v, born := clock }) (clock + 1)) }, ?_, ⟨_, _, (MapKept.heap_set hb).1, ?_⟩, Md_set _⟩
  · simp [Instr.mapUpdate, run_underlying T.hm, MapKept.run_getObj_map hb, T.check, hf', MapKept.run_setObj_map _ hb, Result.andThen]
  · simp [he]
theorem run_len_map {a c kt et : TypeId} (ha : P.underlying a = some (.map kt et)) {w : World} {r : Nat} {l : List (K × V)} (h : MapAt w r kv vv l) : (Builtin.len_ #[a] c #[.map (some r)]).run P w = .ok (.int .i64 l.length) w := by
  obtain ⟨es, clock, hb, he⟩ := h
  have : es.size = l.length := by have := congrArg List.length he; simpa using this
  simp [Builtin.len_, run_underlying ha, MapKept.run_getObj_map hb, this, Result.andThen, goInt]
theorem MapAt.md {w w' : World} {D : List Nat} {r : Nat} {l : List (K × V)} (h : MapAt w r kv vv l) (hm : Md D w w') (hr : r ∉ D) : MapAt w' r kv vv l := by
  obtain ⟨es, clock, hb, he⟩ := h
  exact ⟨es, clock, by rw [hm.blk r (Array.getElem?_eq_some_iff.1 hb).1 hr]; exact hb, he⟩
theorem MapAt.lt {w : World} {r : Nat} {l : List (K × V)} (h : MapAt w r kv vv l) : r < w.heap.size := by
  obtain ⟨es, clock, hb, he⟩ := h
  exact (Array.getElem?_eq_some_iff.1 hb).1
theorem MapAt.new (w : World) (kv : K → Value) (vv : V → Value) : MapAt (w.alloc (.map #[] 0)) w.heap.size kv vv ([] : List (K × V)) :=
  ⟨#[], 0, heap_alloc_new w _, rfl⟩
end
theorem part_cell {P : Program} {w : World} {t : TypeId} {d : TypeDesc} (hu : P.underlying t = some d) (ha : isAggT P t = false) {xs : Array Value} {o : Nat} {v : Value} (h : xs[o]? = some v) : (part t xs o).run P w = .ok v w := by
  simp [part, run_isAgg hu, ha, h]
def fieldsL (P : Program) (t : TypeId) : List (Bool × TypeId × Nat) := (P.fieldsOf t).toList.map fun f => (decide (f.name = "_"), f.type, f.offset)
end Fk
set_option linter.unusedVariables false
set_option linter.unusedSimpArgs false
set_option maxRecDepth 4000
namespace Fk
open Go Go.Proofs Go.RowKit
def idxK {K : Type} [DecidableEq K] (k : K) (kn : List K) : Nat := kn.idxOf k
def addK {K : Type} [DecidableEq K] (k : K) (kn : List K) : List K := if k ∈ kn then kn else kn ++ [k]
theorem idxK_le {K : Type} [DecidableEq K] (k : K) (kn : List K) : idxK k kn ≤ kn.length := List.idxOf_le_length
theorem addK_le {K : Type} [DecidableEq K] (k : K) (kn : List K) : (addK k kn).length ≤ kn.length + 1 := by unfold addK; split <;> simp
def numGo {K : Type} [DecidableEq K] : List K → List K → List Nat × List K
  | [], kn => ([], kn)
  | k :: ks, kn => (idxK k kn :: (numGo ks (addK k kn)).1, (numGo ks (addK k kn)).2)
def keysOf (f : List Nat) (q : Q4) : List (Nat × Bool) := f.zipIdx.map fun p => (p.1, inQ q p.2)
def Cl.parted (c : Cl) (q : Q4) : Cl := ⟨(numGo (keysOf c.f q) []).1, (numGo (keysOf c.f q) []).2.length⟩
theorem keysOf_length (f : List Nat) (q : Q4) : (keysOf f q).length = f.length := by simp [keysOf]
theorem ok_cells (c : Cl) (hf : c.f.length = 256) : okCells c.v.toList 257 = true := by
  simp [okCells, Cl.v, Cl.l, hf, allOne, Value.oneCell']
def Good (L : List Nat) (w0 w : World) : Prop := Md [] w0 w ∧ ∀ b ∈ L, b < w.heap.size
theorem Good.drew {L : List Nat} {w0 w : World} (h : Good L w0 w) : Good L w0 w.drew := ⟨h.1.trans (Md_drew _), h.2⟩
theorem Good.tr {L : List Nat} {w0 w w' : World} (h : Good L w0 w) (k : Md [] w w') : Good L w0 w' := ⟨h.1.trans k, fun b hb => Nat.lt_of_lt_of_le (h.2 b hb) k.size⟩
end Fk
set_option linter.unusedVariables false
set_option linter.unusedSimpArgs false
set_option maxRecDepth 4000
namespace Fk
open Go Go.Proofs Go.RowKit
theorem Md.own {α : Type} {w0 w w' : World} {e : TypeId} {size : Nat} {enc : α → List Value} {a : Option Addr} {c : Nat} {l : List α} (h0 : Md [] w0 w) (ho : OwnL w w0.heap.size e size enc a c l) (h : Md (a.map (·.block)).toList w w') : Md [] w0 w' :=
  h0.old h fun d hd => by
    cases a with
    | none => simp at hd
    | some A => simp at hd; rw [hd]; exact (ho.lt rfl).1
/-- What is done to a row of one's own, again. -/
theorem Md.row {w w' w'' : World} {pa a : Option Addr} (h : Md (pa.map (·.block)).toList w w') (h' : Md (a.map (·.block)).toList w' w'') (hA : ∀ A, a = some A → pa = some A ∨ w.heap.size ≤ A.block) : Md (pa.map (·.block)).toList w w'' := by
  refine ⟨h'.os.trans h.os, h'.tape.trans h.tape, h'.output.trans h.output, Nat.le_trans h.size h'.size, fun k hk hm => (h'.blk k (Nat.lt_of_lt_of_le hk h.size) fun hm' => ?_).trans (h.blk k hk hm)⟩
  cases a with
  | none => simp at hm'
  | some A =>
    simp at hm'
    rcases hA A rfl with e | e
    · rw [e] at hm; simp at hm; exact hm hm'
    · omega
end Fk
set_option linter.unusedVariables false
set_option linter.unusedSimpArgs false
set_option maxRecDepth 4000
namespace Fk
open Go Go.Proofs Go.RowKit
/-- Is a set empty? -/
def z4 (a b c d : Int) : Bool := decide ([a, b, c, d] = [0, 0, 0, 0])
def nodeOk (k : Int) (z : Bool) (n : Nat) : Bool :=
  (decide (k = 0) && decide (n = 0) && z) || (decide (k = 1) && decide (n = 0) && !z) || ((decide (k = 2) || decide (k = 3)) && decide (2 ≤ n) && z) || (decide (k = 4) && decide (n = 1) && z)
def Fo.right : Fo → Bool
  | .nil => true
  | .cons k a b c d q r => nodeOk k (z4 a b c d) q.len && q.right && r.right
end Fk
set_option linter.unusedVariables false
set_option linter.unusedSimpArgs false
set_option maxRecDepth 4000
namespace Fk
open Go Go.Proofs Go.RowKit
/-- As the program tells it. -/
def Cl.first (c : Cl) (k : Int) : Int × Bool := if c.right = true ∧ 0 ≤ k ∧ k < c.m then (if least c.f k < 256 then ((least c.f k : Nat), true) else (0, false)) else (0, false)
theorem numGo_facts {K : Type} [DecidableEq K] : ∀ (ks kn : List K), (numGo ks kn).1.length = ks.length ∧ (∀ x ∈ (numGo ks kn).1, x < kn.length + ks.length) ∧ (numGo ks kn).2.length ≤ kn.length + ks.length
  | [], kn => by simp [numGo]
  | k :: ks, kn => by
    obtain ⟨h1, h2, h3⟩ := numGo_facts ks (addK k kn)
    have ha := addK_le k kn
    have hi := idxK_le k kn
    refine ⟨by simp [numGo, h1], ?_, by simp only [numGo, List.length_cons]; omega⟩
    intro x hx
    simp only [numGo, List.mem_cons] at hx
    simp only [List.length_cons]
    rcases hx with rfl | hx
    · omega
    · have := h2 x hx; omega
theorem Cl.ok_num {K : Type} [DecidableEq K] (ks : List K) (h : ks.length = 256) : Cl.ok ⟨(numGo ks []).1, (numGo ks []).2.length⟩ := by
  obtain ⟨h1, h2, h3⟩ := numGo_facts ks []
  simp only [List.length_nil, Nat.zero_add, h] at h1 h2 h3
  exact ⟨h1, fun i hi => h2 _ (List.getElem_mem hi), by simp only; omega, by simp only; omega⟩
theorem Cl.ok.parted {c : Cl} (hc : c.ok) (q : Q4) : (c.parted q).ok := Cl.ok_num _ (by rw [keysOf_length, hc.len])
end Fk
set_option linter.unusedVariables false
set_option linter.unusedSimpArgs false
set_option maxRecDepth 100000
namespace Fk
open Go Go.Proofs Go.RowKit
def zCl (m : Int) : Cl := ⟨List.replicate 256 0, m⟩
theorem zCl_ok {m : Int} (h0 : 0 ≤ m) (h1 : m ≤ 256) : (zCl m).ok := ⟨by simp [zCl], fun i h => by simp only [zCl, List.getElem_replicate]; omega, by simp only [zCl]; omega, by simp only [zCl]; omega⟩
/-- A row that can be read. -/
def RowAt {α : Type} (w : World) (a : Option Addr) (size : Nat) (enc : α → List Value) (l : List α) : Prop :=
  ∀ i x, l[i]? = some x → ∃ A, a = some A ∧ ∀ j u, (enc x)[j]? = some u → w.cell? ((A.add (i * size)).add j) = some u
theorem OwnL.row {α : Type} {w : World} {base : Nat} {e : TypeId} {size : Nat} {enc : α → List Value} {a : Option Addr} {c : Nat} {l : List α} (he : Enc size enc) (h : OwnL w base e size enc a c l) : RowAt w a size enc l :=
  fun i x hx => h.at he hx
theorem RowAt.md {α : Type} {w w' : World} {a : Option Addr} {size : Nat} {enc : α → List Value} {l : List α} (h : RowAt w a size enc l) (hm : Md [] w w') : RowAt w' a size enc l := by
  intro i x hx
  obtain ⟨A, hA, hc⟩ := h i x hx
  exact ⟨A, hA, fun j u hu => hm.cell0 (hc j u hu)⟩
theorem RowAt.ix {α : Type} {w : World} {A : Option Addr} {size : Nat} {enc : α → List Value} {l : List α} (h : RowAt w A size enc l) {i : Nat} (hi : i < l.length) : IxOk (i : Int) l.length A := by
  obtain ⟨B, rfl, hc⟩ := h i l[i] (List.getElem?_eq_getElem hi)
  exact ⟨by omega, by omega, rfl⟩
def apart (l : List Q4) (a b : Nat) : Bool := l.any fun q => inQ q a != inQ q b
theorem Cl.ok.cells {c : Cl} (h : c.ok) : okCells c.v.toList 257 = true := ok_cells c h.len
end Fk
set_option linter.unusedVariables false
set_option linter.unusedSimpArgs false
set_option maxRecDepth 100000
namespace Fk
open Go Go.Proofs Go.RowKit
def n1c (x : Nat) : List Value := [.int .i64 (x : Int)]
theorem enc1 : Enc 1 n1c := ⟨fun _ => rfl, by intro x v hv; simp [n1c] at hv; subst hv; rfl⟩
theorem rowT52 : RowT Try.prog 52 3 1 8 := RowT.of (by kernel_rfl) (by kernel_rfl) (by kernel_rfl) (by omega)
end Fk
set_option linter.unusedVariables false
set_option linter.unusedSimpArgs false
set_option maxRecDepth 100000
namespace Fk
open Go Go.Proofs Go.RowKit
structure Tr where
  k : Int
  q : Q4
  sa : Option Addr
  sn : Nat
  sc : Nat
/-- What lies in a row are these trees. -/
def TrF (w : World) : List Tr → Fo → Prop
  | [], .nil => True
  | t :: l, .cons k a b c d q r => (t.k = k ∧ t.q = (a, b, c, d) ∧ t.sn = q.len ∧ q.len < 2 ^ 63 ∧ RepF w t.sa 0 q) ∧ TrF w l r
  | _, _ => False
theorem TrF.md {w w' : World} (hm : Md [] w w') : ∀ {l : List Tr} {fo : Fo}, TrF w l fo → TrF w' l fo
  | [], .nil, _ => trivial
  | t :: l, .cons k a b c d q r, ⟨⟨h1, h2, h3, h4, h5⟩, h6⟩ => ⟨⟨h1, h2, h3, h4, h5.md hm⟩, TrF.md hm h6⟩
  | [], .cons .., h => h.elim
  | _ :: _, .nil, h => h.elim
theorem TrF.len {w : World} : ∀ {l : List Tr} {fo : Fo}, TrF w l fo → l.length = fo.len
  | [], .nil, _ => rfl
  | t :: l, .cons k a b c d q r, ⟨_, h⟩ => by simp only [List.length_cons, Fo.len, TrF.len h]
  | [], .cons .., h => h.elim
  | _ :: _, .nil, h => h.elim
theorem Good.alloc {L : List Nat} {w0 w : World} (h : Good L w0 w) (o : Obj) : Good L w0 (w.alloc o) := h.tr (Md.alloc _ _)
end Fk
set_option linter.unusedVariables false
set_option linter.unusedSimpArgs false
set_option maxRecDepth 100000
namespace Fk
open Go Go.Proofs Go.RowKit
theorem alloc_at (w : World) (cs : Array Value) (e : TypeId) (o j : Nat) {u : Value} (h : cs[o + j]? = some u) : (w.alloc (.cells cs e)).cell? ((⟨w.heap.size, o, none⟩ : Addr).add j) = some u := by
  rw [Addr.add_lit, cell_of_row _ w.heap.size (o + j) cs e (0, 0) (heap_alloc_new w _)]
  exact h
end Fk
set_option linter.unusedVariables false
set_option linter.unusedSimpArgs false
set_option maxRecDepth 100000
namespace Fk
open Go Go.Proofs Go.RowKit
section
variable {H : Type} {enc : TypeId × Value → H} {P : Program} {w : World} {base : Nat} {spare : Nat → Bool} {held : Bool} {fuel : Nat} {t : TypeId} {cs : List Value} {x : DataW H × List MemPlace}
theorem int_cs {k : IntKind} (ht : P.underlying t = some (.int k)) (h : DataW.trod enc P w base spare held fuel t cs = some x) : ∃ v, cs = [.int k v] ∧ (Lit.int k v).wf = true := by
  cases fuel with
  | zero => simp [DataW.trod] at h
  | succ m =>
    unfold DataW.trod at h
    rw [ht] at h
    split at h <;> simp_all
end
theorem three_fields {fs : Array Field} {t1 t2 t3 : TypeId} {o1 o2 o3 : Nat} (hF : fs.toList.map (fun f => (decide (f.name = "_"), f.type, f.offset)) = [(false, t1, o1), (false, t2, o2), (false, t3, o3)]) :
    ∃ f1 f2 f3, fs = #[f1, f2, f3] ∧ f1.type = t1 ∧ f1.offset = o1 ∧ f2.type = t2 ∧ f2.offset = o2 ∧ f3.type = t3 ∧ f3.offset = o3 := by
  obtain ⟨l⟩ := fs
  match l with
  | [] => simp at hF
  | [f1] => simp at hF
  | [f1, f2] => simp at hF
  | [f1, f2, f3] =>
    simp only [List.map_cons, List.map_nil, List.cons.injEq, Prod.mk.injEq, decide_eq_false_iff_not, and_true] at hF
    exact ⟨f1, f2, f3, rfl, hF.1.2.1, hF.1.2.2, hF.2.1.2.1, hF.2.1.2.2, hF.2.2.2.1, hF.2.2.2.2⟩
  | f1 :: f2 :: f3 :: f4 :: l => simp at hF
theorem byte_wf {v : Int} (h : (Lit.int .u8 v).wf = true) : 0 ≤ v ∧ v < 256 := by
  simp [Lit.wf, IntKind.min, IntKind.max, IntKind.signed, IntKind.bits] at h
  omega
theorem i64_wf {v : Int} (h : (Lit.int .i64 v).wf = true) : -9223372036854775808 ≤ v ∧ v ≤ 9223372036854775807 := by
  simp [Lit.wf, IntKind.min, IntKind.max, IntKind.signed, IntKind.bits] at h
  omega
theorem below_of {w w' : World} (h : Md [] w w') : Below w.heap.size w w' :=
  ⟨h.os, h.tape, h.output, h.size, fun k hk => h.blk k hk (by simp)⟩
end Fk
set_option linter.unusedVariables false
set_option linter.unusedSimpArgs false
set_option maxRecDepth 100000
namespace Fk
open Go Go.Proofs Go.RowKit
def i1 (x : Int) : List Value := [.int .i64 x]
def s1 (s : ByteArray) : List Value := [.string s]
theorem enci1 : Enc 1 i1 := ⟨fun _ => rfl, by intro x v hv; simp [i1] at hv; subst hv; rfl⟩
theorem encs1 : Enc 1 s1 := ⟨fun _ => rfl, by intro x v hv; simp [s1] at hv; subst hv; rfl⟩
theorem RowAt.ld1 {α : Type} {w : World} {A : Option Addr} {enc : α → List Value} {l : List α} (h : RowAt w A 1 enc l) {i : Nat} (hi : i < l.length) {v : Value} (hv : (enc l[i])[0]? = some v) {K : Value → Prop} (k : K v) : Ld w (adAt A (i : Int) 1) K := by
  obtain ⟨B, rfl, hc⟩ := h i l[i] (List.getElem?_eq_getElem hi)
  have := hc 0 v hv
  rw [addr_add0] at this
  exact Ld_in this k
where addr_add0 (A : Addr) : A.add 0 = A := by unfold Addr.add; simp
theorem f90_ok (dm : Int) (na ta : Option Addr) (nn nc tn tc : Nat) (w : World) : Ct Try.prog 90 #[.agg #[.int .i64 dm, .slice na nn nc, .slice ta tn tc]] w fun v w' => v = .bool (decide (tn ≤ 60) && decide (nn ≤ 2400)) ∧ Md [] w w' := by
  apply f90_in
  intro n1 hn1
  refine Bd_in fun x2 hx2 => Bd_in fun b3 hb3 => Bd_in fun x4 hx4 => Bd_in fun b5 hb5 => Bd_in fun b6 hb6 w7 h7 hL7 => ⟨?_, h7⟩
  rw [hb6, hb5, hb3, hx4, hx2]
  have e1 : ((tn : Int) ≤ 60) = (tn ≤ 60) := by apply propext; omega
  have e2 : ((nn : Int) ≤ 2400) = (nn ≤ 2400) := by apply propext; omega
  simp only [e1, e2]
  cases decide (tn ≤ 60) <;> rfl
/-- Which second machines are right. -/
def dRight (dm : Int) (next tags : List Int) : Bool :=
  decide (1 ≤ dm ∧ dm ≤ 256 ∧ 1 ≤ tags.length ∧ tags.length ≤ 5000 ∧ (next.length : Int) = dm * tags.length) && (tags.all fun x => decide (-1 ≤ x ∧ x < 200)) && (next.all fun x => decide (-1 ≤ x ∧ x < tags.length))
theorem mul_i64 {dm : Int} {n : Nat} (h1 : 1 ≤ dm) (h2 : dm ≤ 256) (h3 : n ≤ 5000) : IntKind.wrap .i64 (dm * (n : Int)) = dm * n := by
  have h4 : dm * (n : Int) ≤ 256 * 5000 := Int.mul_le_mul h2 (by omega) (by omega) (by omega)
  have h5 : 0 ≤ dm * (n : Int) := Int.mul_nonneg (by omega) (by omega)
  rw [IntKind.wrap_i64]; omega
theorem all_take {α : Type} {p : α → Bool} {l : List α} {i : Nat} (hi : i < l.length) (h : (l.take i).all p = true) (hp : p l[i] = true) : (l.take (i + 1)).all p = true := by
  rw [List.take_succ_eq_append_getElem hi, List.all_append, h]; simp [hp]
theorem all_false {α : Type} {p : α → Bool} {l : List α} {i : Nat} (hi : i < l.length) (hp : p l[i] = false) : l.all p = false := by
  rw [List.all_eq_false]; exact ⟨l[i], List.getElem_mem hi, by simp [hp]⟩
theorem inc_len {i n : Nat} (h : i < n) (hn : n < 2 ^ 63) : IntKind.wrap .i64 ((i : Int) + 1) = ((i + 1 : Nat) : Int) := by rw [IntKind.wrap_i64]; omega
theorem f72_ok (dm : Int) (next tags : List Int) (na ta : Option Addr) (nc tc : Nat) (w : World) (hn : RowAt w na 1 i1 next) (ht : RowAt w ta 1 i1 tags) (hnl : next.length < 2 ^ 63) (htl : tags.length < 2 ^ 63) :
    Ct Try.prog 72 #[.agg #[.int .i64 dm, .slice na next.length nc, .slice ta tags.length tc]] w fun v w' => v = .bool (dRight dm next tags) ∧ Md [] w w' := by
  apply f72_in
  intro n1 hn1
  refine Bd_in fun x2 hx2 => Bd_in fun b3 hb3 => Bd_in fun b4 hb4 => Bd_in fun b5 hb5 => Bd_in fun b6 hb6 => Bd_in fun b7 hb7 => Bd_in fun b8 hb8 => Bd_in fun b9 hb9 => Bd_in fun x10 hx10 => Bd_in fun x11 hx11 => Bd_in fun b12 hb12 => Bd_in fun b13 hb13 => ?_
  subst hx2; subst hx10
  have e13 : b13 = !decide (1 ≤ dm ∧ dm ≤ 256 ∧ 1 ≤ tags.length ∧ tags.length ≤ 5000 ∧ (next.length : Int) = dm * tags.length) := by
    rw [hb13, hb12, hb9, hb8, hb7, hb6, hb5, hb4, hb3]
    by_cases h1 : 1 ≤ dm
    · by_cases h2 : dm ≤ 256
      · by_cases h3 : 1 ≤ tags.length
        · by_cases h4 : tags.length ≤ 5000
          · rw [hx11, mul_i64 h1 h2 h4]
            have a1 : ¬ dm < 1 := by omega
            have a2 : ¬ 256 < dm := by omega
            have a3 : ¬ (tags.length : Int) < 1 := by omega
            have a4 : ¬ (5000 : Int) < (tags.length : Int) := by omega
            simp only [a1, a2, a3, a4, gt_iff_lt, decide_false, cond_false, h1, h2, h3, h4, true_and]
            by_cases h5 : (next.length : Int) = dm * tags.length <;> simp [h5]
          · have a4 : (5000 : Int) < (tags.length : Int) := by omega
            simp [h4, a4]
        · have a3 : (tags.length : Int) < 1 := by omega
          simp [h3, a3]
      · have a2 : 256 < dm := by omega
        simp [h2, a2]
    · have a1 : dm < 1 := by omega
      simp [h1, a1]
  refine If_in (fun h w14 h14 hL14 => ⟨?_, h14⟩) fun h => Bd_in fun x15 hx15 w16 h16 hL16 => ?_
  · rw [e13] at h
    have : decide (1 ≤ dm ∧ dm ≤ 256 ∧ 1 ≤ tags.length ∧ tags.length ≤ 5000 ∧ (next.length : Int) = dm * tags.length) = false := by rw [Bool.not_eq_true'] at h; exact h
    unfold dRight
    rw [this]; rfl
  have hd : decide (1 ≤ dm ∧ dm ≤ 256 ∧ 1 ≤ tags.length ∧ tags.length ≤ 5000 ∧ (next.length : Int) = dm * tags.length) = true := by rw [e13, Bool.not_eq_false'] at h; exact h
  subst hx15
  refine LoopP_in (fun m us vs w' => ∃ i : Nat, us = [.bool false, .int .i64 i] ∧ m = tags.length - i ∧ i ≤ tags.length ∧ (tags.take i).all (fun x => decide (-1 ≤ x ∧ x < 200)) = true ∧ Md [] w w') tags.length ⟨0, rfl, rfl, by omega, by simp, h16⟩ ?_
  rintro m us vs w20 ⟨i, rfl, rfl, hi, hall, h20⟩
  refine opB_in <| opI_in <| Bd_in fun b23 hb23 => If_in (fun hb => ?_) fun hb => ?_
  · subst hb23
    simp only [decide_eq_true_eq, Int.ofNat_lt] at hb
    refine ⟨ht.ix hb, (ht.md h20).ld1 hb rfl ?_⟩
    refine opI_in <| Bd_in fun b26 hb26 => Bd_in fun b27 hb27 => Bd_in fun b28 hb28 => If_in (fun h => ⟨?_, h20⟩) fun h => Bd_in fun x29 hx29 => ?_
    · have : (tags.all fun x => decide (-1 ≤ x ∧ x < 200)) = false := all_false hb (by
        rw [hb28, hb27, hb26] at h
        rw [decide_eq_false_iff_not]
        by_cases h1 : tags[i] < -1
        · omega
        · simp [h1] at h; omega)
      unfold dRight
      rw [this]; simp
    · rw [inc_len hb htl] at hx29
      subst hx29
      refine ⟨tags.length - (i + 1), by omega, i + 1, rfl, rfl, by omega, all_take hb hall ?_, h20⟩
      rw [hb28, hb27, hb26] at h
      rw [decide_eq_true_eq]
      by_cases h1 : tags[i] < -1
      · simp [h1] at h
      · simp [h1] at h; omega
  · subst hb23
    simp only [decide_eq_false_iff_not, Int.ofNat_lt] at hb
    rw [List.take_of_length_le (by omega)] at hall
    refine Bd_in fun x30 hx30 => ?_
    subst hx30
    refine LoopP_in (fun m us vs w' => ∃ i : Nat, us = [.bool false, .int .i64 i] ∧ m = next.length - i ∧ i ≤ next.length ∧ (next.take i).all (fun x => decide (-1 ≤ x ∧ x < tags.length)) = true ∧ Md [] w w') next.length ⟨0, rfl, rfl, by omega, by simp, h20⟩ ?_
    rintro m us vs w34 ⟨j, rfl, rfl, hj, hall2, h34⟩
    refine opB_in <| opI_in <| Bd_in fun b37 hb37 => If_in (fun hb => ?_) fun hb => ⟨?_, h34⟩
    · subst hb37
      simp only [decide_eq_true_eq, Int.ofNat_lt] at hb
      refine ⟨hn.ix hb, (hn.md h34).ld1 hb rfl ?_⟩
      refine opI_in <| Bd_in fun b40 hb40 => Bd_in fun b41 hb41 => Bd_in fun b42 hb42 => If_in (fun h => ⟨?_, h34⟩) fun h => Bd_in fun x43 hx43 => ?_
      · have : (next.all fun x => decide (-1 ≤ x ∧ x < tags.length)) = false := all_false hb (by
          rw [hb42, hb41, hb40] at h
          rw [decide_eq_false_iff_not]
          by_cases h1 : next[j] < -1
          · omega
          · simp [h1] at h; omega)
        unfold dRight
        rw [this]; simp
      · rw [inc_len hb hnl] at hx43
        subst hx43
        refine ⟨next.length - (j + 1), by omega, j + 1, rfl, rfl, by omega, all_take hb hall2 ?_, h34⟩
        rw [hb42, hb41, hb40] at h
        rw [decide_eq_true_eq]
        by_cases h1 : next[j] < -1
        · simp [h1] at h
        · simp [h1] at h; omega
    · subst hb37
      simp only [decide_eq_false_iff_not, Int.ofNat_lt] at hb
      rw [List.take_of_length_le (by omega)] at hall2
      unfold dRight
      rw [hd, hall, hall2]; rfl
end Fk
set_option linter.unusedVariables false
set_option linter.unusedSimpArgs false
set_option maxRecDepth 100000
namespace Fk
open Go Go.Proofs Go.RowKit
theorem addr_add0 (A : Addr) : A.add 0 = A := by unfold Addr.add; simp
/-- The first ones of a slice. -/
theorem slice_front {P : Program} {t e : TypeId} (ht : P.underlying t = some (.slice e)) (hs : ∀ w, ∃ s, (Go.sizeOf e).run P w = .ok s w) (w : World) (a : Option Addr) (n c m : Nat) (h : m ≤ c) :
    (Instr.sliceAt t (.slice a n c) none (some (.int .i64 (m : Int))) none).run P w = .ok (.slice a m c) w := by
  have he : P.elem t = e := by simp [Program.elem, ht]
  have ht' : P.underlying t = some (.slice (P.elem t)) := by rw [he]; exact ht
  rw [run_sliceAt_slice w t _ _ _ _ ht', run_slice_h w t a n c ht' .i64 m (by omega) (by omega), he]
  obtain ⟨s, hs⟩ := hs w
  rw [hs]
  simp only [Result.andThen, sliced, Int.toNat_natCast, Nat.sub_zero, Nat.zero_mul]
  congr 2
  split
  · rfl
  · cases a with
    | none => rfl
    | some A => simp [addr_add0]
end Fk
set_option linter.unusedVariables false
set_option linter.unusedSimpArgs false
set_option maxRecDepth 100000
namespace Fk
open Go Go.Proofs Go.RowKit
def digB (x : Int) : Bool := decide (48 ≤ x) && decide (x ≤ 57)
def smB (x : Int) : Bool := decide (97 ≤ x) && decide (x ≤ 122)
def nmAt (s : ByteArray) (i : Nat) : Bool := smB (byteAt s i) || (decide (i ≠ 0) && (decide (byteAt s i = 45) || digB (byteAt s i)))
def nmFrom (s : ByteArray) (i : Nat) : Bool := (List.range' i (s.size - i)).all (nmAt s)
def named (s : ByteArray) : Bool := nmFrom s 0 && decide (1 ≤ s.size) && decide (s.size ≤ 64)
theorem RowAt.take {α : Type} {w : World} {A : Option Addr} {size : Nat} {enc : α → List Value} {l : List α} (h : RowAt w A size enc l) (n : Nat) : RowAt w A size enc (l.take n) := by
  intro i x hx
  have hi := (List.getElem?_eq_some_iff.1 hx).1
  rw [List.getElem?_take_of_lt (by simp at hi; omega)] at hx
  exact h i x hx
def memB (s : ByteArray) (l : List ByteArray) : Bool := l.any fun x => decide (x = s)
theorem f73_ok (a b : List Int) (A B : Option Addr) (C D : Nat) (w : World) (ha : RowAt w A 1 i1 a) (hb : RowAt w B 1 i1 b) (hal : a.length < 2 ^ 63) :
    Ct Try.prog 73 #[.slice A a.length C, .slice B b.length D] w fun v w' => v = .bool (decide (a = b)) ∧ Md [] w w' := by
  apply f73_in
  refine Bd_in fun x1 hx1 => Bd_in fun x2 hx2 => Bd_in fun b3 hb3 => ?_
  rw [hx1, hx2] at hb3
  refine If_in (fun h => ⟨?_, Md.refl _ _⟩) fun h => Bd_in fun x4 hx4 => ?_
  · have : a ≠ b := by rintro rfl; rw [hb3] at h; simp at h
    simp [this]
  have hl : (a.length : Int) = b.length := by rw [hb3] at h; simpa using h
  subst hx4
  refine LoopP_in (fun m us vs w' => ∃ i : Nat, us = [.bool false, .int .i64 i] ∧ m = a.length - i ∧ i ≤ a.length ∧ a.take i = b.take i ∧ Md [] w w') a.length ⟨0, rfl, rfl, by omega, by simp, Md.refl _ _⟩ ?_
  rintro m us vs w8 ⟨i, rfl, rfl, hi, hpre, h8⟩
  refine opB_in <| opI_in <| Bd_in fun b11 hb11 => If_in (fun h => ?_) fun h => ⟨?_, h8⟩
  · subst hb11
    simp only [decide_eq_true_eq, Int.ofNat_lt] at h
    have hib : i < b.length := by omega
    refine ⟨fun w' => Md [] w w', h8.trans (Md_drew _), ha.ix h, .int .i64 a[i], fun w' hw' => (ha.md hw').ld1 h rfl rfl, opI_in ⟨hb.ix hib, .int .i64 b[i], fun w' hw' => (hb.md hw').ld1 hib rfl rfl, opI_in <| Bd_in fun b23 hb23 => ?_⟩⟩
    refine If_in (fun he => ⟨?_, h8.trans (Md_drew _)⟩) fun he => Bd_in fun x24 hx24 => ?_
    · have : a ≠ b := by rintro rfl; rw [hb23] at he; simp at he
      simp [this]
    · have he' : a[i] = b[i] := by rw [hb23] at he; simpa using he
      rw [inc_len h hal] at hx24
      subst hx24
      refine ⟨a.length - (i + 1), by omega, i + 1, rfl, rfl, by omega, ?_, h8.trans (Md_drew _)⟩
      rw [List.take_succ_eq_append_getElem h, List.take_succ_eq_append_getElem hib, hpre, he']
  · subst hb11
    simp only [decide_eq_false_iff_not, Int.ofNat_lt] at h
    rw [List.take_of_length_le (by omega), List.take_of_length_le (by omega)] at hpre
    simp [hpre]
theorem f96_ok (dm em : Int) (na nb ta tb : List Int) (A B D E : Option Addr) (C1 C2 C3 C4 : Nat) (w : World) (h1 : RowAt w A 1 i1 na) (h2 : RowAt w B 1 i1 ta) (h3 : RowAt w D 1 i1 nb) (h4 : RowAt w E 1 i1 tb) (hl1 : na.length < 2 ^ 63) (hl2 : ta.length < 2 ^ 63) :
    Ct Try.prog 96 #[.agg #[.int .i64 dm, .slice A na.length C1, .slice B ta.length C2], .agg #[.int .i64 em, .slice D nb.length C3, .slice E tb.length C4]] w fun v w' => v = .bool (decide (dm = em) && decide (na = nb) && decide (ta = tb)) ∧ Md [] w w' := by
  apply f96_in
  intro n1 hn1 n2 hn2
  refine Bd_in fun b3 hb3 w4 h4' hL4 => ?_
  have g4 : Good [n2, n1] w w4 := ⟨h4', hL4⟩
  refine Gd_to (fun b w' => (b3 = true → b = decide (na = nb)) ∧ Good [n2, n1] w w') (fun b9 w10 hJ => ?_) (fun fin hc => ?_) (fun hc => ⟨fun h => (by rw [h] at hc; cases hc), g4⟩)
  · obtain ⟨hb9, g10⟩ := hJ
    refine Bd_in fun b11 hb11 => ?_
    have e11 : b11 = (decide (dm = em) && decide (na = nb)) := by
      have e3 : b3 = decide (dm = em) := by rw [hb3, Bool.eq_iff_iff]; simp
      rw [hb11]
      cases h : b3 with
      | false => rw [h] at e3; rw [← e3]; rfl
      | true => rw [h] at e3; rw [← e3, hb9 h]; rfl
    refine Gd_to (fun b w' => (b11 = true → b = decide (ta = tb)) ∧ Good [n2, n1] w w') (fun b16 w17 hJ => ?_) (fun fin hc => ?_) (fun hc => ⟨fun h => (by rw [h] at hc; cases hc), g10⟩)
    · refine Bd_in fun b18 hb18 => ⟨?_, hJ.2.1⟩
      rw [hb18]
      cases h : b11 with
      | false => rw [h] at e11; rw [← e11]; rfl
      | true => rw [h] at e11; rw [← e11, hJ.1 h]; rfl
    · refine (f73_ok ta tb B E C2 C4 w10 (h2.md g10.1) (h4.md g10.1) hl2).call g10.2 ?_
      rintro v w' rfl h'
      exact opB_in (fin _ _ ⟨fun _ => rfl, g10.tr h'⟩)
  · refine (f73_ok na nb A D C1 C3 w4 (h1.md h4') (h3.md h4') hl1).call hL4 ?_
    rintro v w' rfl h'
    exact opB_in (fin _ _ ⟨fun _ => rfl, g4.tr h'⟩)
end Fk
set_option linter.unusedVariables false
set_option linter.unusedSimpArgs false
set_option maxRecDepth 100000
namespace Fk
open Go Go.Proofs Go.RowKit
/-- A table. -/
structure Tb where
  c : Cl
  dm : Int
  nx : List Int
  tg : List Int
  nm : List ByteArray
/-- Where its rows stand. -/
structure TbS where
  na : Option Addr
  nc : Nat
  ta : Option Addr
  tc : Nat
  sa : Option Addr
  sc : Nat
def Tb.d (t : Tb) (p : TbS) : List Value := [.int .i64 t.dm, .slice p.na t.nx.length p.nc, .slice p.ta t.tg.length p.tc]
def Tb.l (t : Tb) (p : TbS) : List Value := t.c.l ++ (t.d p ++ [.slice p.sa t.nm.length p.sc])
def Tb.v (t : Tb) (p : TbS) : Array Value := (t.l p).toArray
structure TbAt (w : World) (t : Tb) (p : TbS) : Prop where
  ok : t.c.ok
  nx : RowAt w p.na 1 i1 t.nx
  tg : RowAt w p.ta 1 i1 t.tg
  nm : RowAt w p.sa 1 s1 t.nm
  nxl : t.nx.length < 2 ^ 63
  tgl : t.tg.length < 2 ^ 63
  nml : t.nm.length < 2 ^ 63
  nsz : ∀ s ∈ t.nm, s.size < 2 ^ 63
  cap : t.nm.length ≤ p.sc
theorem TbAt.md {w w' : World} {t : Tb} {p : TbS} (h : TbAt w t p) (hm : Md [] w w') : TbAt w' t p := ⟨h.ok, h.nx.md hm, h.tg.md hm, h.nm.md hm, h.nxl, h.tgl, h.nml, h.nsz, h.cap⟩
section
variable {w : World} {t : Tb} {p : TbS}
theorem TbAt.len (h : TbAt w t p) : t.c.l.length = 257 := by simp [Cl.l, h.ok.len]
theorem TbAt.size (h : TbAt w t p) : (t.v p).size = 261 := by simp [Tb.v, Tb.l, Tb.d, h.len]
theorem TbAt.n257 (h : TbAt w t p) : nthV (Array.toList (t.v p)) 257 = some (.int .i64 t.dm) := by
  simp only [nthV, Tb.v, Tb.l]; rw [List.getElem?_append_right (by rw [h.len]; omega), h.len]; rfl
theorem TbAt.n259 (h : TbAt w t p) : nthV (Array.toList (t.v p)) 259 = some (.slice p.ta t.tg.length p.tc) := by
  simp only [nthV, Tb.v, Tb.l]; rw [List.getElem?_append_right (by rw [h.len]; omega), h.len]; rfl
end
def namesOk : List ByteArray → List ByteArray → Bool
  | _, [] => true
  | pre, s :: l => named s && !memB s pre && namesOk (pre ++ [s]) l
def tHead (t : Tb) : Bool := t.c.right && dRight t.dm t.nx t.tg && decide (t.c.m = t.dm) && decide (1 ≤ t.nm.length ∧ t.nm.length ≤ 200)
def tTags (t : Tb) : Bool := t.tg.all fun x => decide (x < (t.nm.length : Int))
/-- Which tables are right. -/
def tRight (t : Tb) : Bool := tHead t && namesOk [] t.nm && tTags t
theorem dRight_tags {dm : Int} {nx tg : List Int} (h : dRight dm nx tg = true) : 1 ≤ dm ∧ dm ≤ 256 ∧ 1 ≤ tg.length ∧ tg.length ≤ 5000 ∧ (nx.length : Int) = dm * tg.length := by
  simp only [dRight, Bool.and_eq_true, decide_eq_true_eq] at h; exact h.1.1
section
variable {L : List Nat} {w0 w : World} {K : Bool → World → Prop}
end
section
variable {L : List Nat} {w0 w : World} {K : Bool → World → Prop}
end
end Fk
set_option linter.unusedVariables false
set_option linter.unusedSimpArgs false
set_option maxRecDepth 100000
namespace Fk
open Go Go.Proofs Go.RowKit
def b1 (x : Nat) : List Value := [.int .u8 (x : Int)]
theorem encb1 : Enc 1 b1 := ⟨fun _ => rfl, by intro x v hv; simp [b1] at hv; subst hv; rfl⟩
theorem rowT51 : RowT Try.prog 51 5 1 1 := RowT.of (by kernel_rfl) (by kernel_rfl) (by kernel_rfl) (by omega)
def Blk (w : World) (n : Nat) (ty : TypeId) (l : List Value) : Prop := w.heap[n]? = some (.cells l.toArray ty (0, 0))
theorem Blk.lt {w : World} {n : Nat} {ty : TypeId} {l : List Value} (h : Blk w n ty l) : n < w.heap.size := (Array.getElem?_eq_some_iff.1 h).1
theorem Blk.cell {w : World} {n : Nat} {ty : TypeId} {l : List Value} (h : Blk w n ty l) {j : Nat} {v : Value} (hv : l[j]? = some v) : w.cell? ⟨n, j, none⟩ = some v := by
  rw [cell_of_row w n j _ ty (0, 0) h]; simpa using hv
theorem Blk.wr {w : World} {n : Nat} {ty : TypeId} {l : List Value} (h : Blk w n ty l) {o k : Nat} (hk : o + k ≤ l.length) : Wr w ⟨n, o, none⟩ k := by
  intro j hj
  rw [Addr.add_lit]
  refine ⟨⟨_, h.cell (List.getElem?_eq_getElem (by omega))⟩, ?_⟩
  unfold Blk at h
  simp [World.frozen?, h]
theorem Blk.set {w : World} {n : Nat} {ty : TypeId} {l : List Value} (h : Blk w n ty l) {j : Nat} (hj : j < l.length) (v : Value) : Blk (setCells w ⟨n, j, none⟩ 0 [v]) n ty (l.set j v) := by
  rcases wrL_run (m := 0) (cells := []) (o := j) (vs := []) [v] 0 l w h with h' | h'
  · unfold Blk
    rw [h']
    congr 3
    unfold wrL
    simp [List.set_eq_take_append_cons_drop, hj]
  · simp at h'; omega
theorem setCells_env : ∀ (vs : List Value) (i : Nat) (w : World) (A : Addr), (setCells w A i vs).os = w.os ∧ (setCells w A i vs).tape = w.tape ∧ (setCells w A i vs).output = w.output ∧ (setCells w A i vs).heap.size = w.heap.size
  | [], _, _, _ => ⟨rfl, rfl, rfl, rfl⟩
  | v :: vs, i, w, A => by
    obtain ⟨h1, h2, h3, h4⟩ := setCells_env vs (i + 1) (w.setCell (A.add i) v) A
    simp only [setCells]
    exact ⟨h1, h2, h3, by rw [h4]; simp [World.setCell]⟩
theorem Md_setCells {w : World} (n o : Nat) (vs : List Value) : Md [n] w (setCells w ⟨n, o, none⟩ 0 vs) := by
  obtain ⟨h1, h2, h3, h4⟩ := setCells_env vs 0 w ⟨n, o, none⟩
  exact ⟨h1, h2, h3, by omega, fun k hk hm => setCells_heap _ _ _ _ (by simpa using hm)⟩
theorem Blk.md {w w' : World} {n : Nat} {ty : TypeId} {l : List Value} {D : List Nat} (h : Blk w n ty l) (hm : Md D w w') (hD : n ∉ D) : Blk w' n ty l := by
  unfold Blk
  rw [hm.blk n h.lt hD]; exact h
/-- Rows that a change elsewhere leaves. -/
theorem RowAt.mdD {α : Type} {w w' : World} {a : Option Addr} {size : Nat} {enc : α → List Value} {l : List α} {D : List Nat} (h : RowAt w a size enc l) (hm : Md D w w') (hD : ∀ A, a = some A → A.block ∉ D) : RowAt w' a size enc l := by
  intro i x hx
  obtain ⟨B, hB, hc⟩ := h i x hx
  refine ⟨B, hB, fun j u hu => hm.cell (hc j u hu) ?_⟩
  rw [add_block, add_block]
  exact hD B hB
theorem RowAt.mdE {α : Type} {w w' : World} {a : Option Addr} {size : Nat} {enc : α → List Value} {l : List α} {D : List Nat} (h : RowAt w a size enc l) (hm : Md D w w') (hD : ∀ A, a = some A → l ≠ [] → A.block ∉ D) : RowAt w' a size enc l := by
  cases l with
  | nil => intro i x hx; simp at hx
  | cons x l => exact h.mdD hm fun A hA => hD A hA (by simp)
theorem RowAt.lt {α : Type} {w : World} {a : Option Addr} {size : Nat} {enc : α → List Value} {l : List α} (h : RowAt w a size enc l) (he : Enc size enc) (hs : 0 < size) : ∀ A, a = some A → l ≠ [] → A.block < w.heap.size := by
  intro A hA hne
  obtain ⟨x, l', rfl⟩ := List.exists_cons_of_ne_nil hne
  obtain ⟨B, hB, hc⟩ := h 0 x rfl
  rw [hA] at hB
  cases hB
  have hl := he.len x
  have := cell_lt (hc 0 _ (List.getElem?_eq_getElem (by omega)))
  rw [add_block, add_block] at this
  exact this
theorem add_add (B : Addr) (x y : Nat) : (B.add x).add y = B.add (x + y) := by
  unfold Addr.add
  split <;> split <;> simp_all [Nat.add_assoc]
theorem RowAt.drop {α : Type} {w : World} {A : Option Addr} {size : Nat} {enc : α → List Value} {l : List α} (h : RowAt w A size enc l) (n : Nat) : RowAt w (A.map (·.add (n * size))) size enc (l.drop n) := by
  intro i x hx
  rw [List.getElem?_drop] at hx
  obtain ⟨B, rfl, hc⟩ := h (n + i) x hx
  refine ⟨_, rfl, fun j u hu => ?_⟩
  have := hc j u hu
  rw [show (B.add (n * size)).add (i * size) = B.add ((n + i) * size) by rw [Nat.add_mul]; exact add_add B _ _]
  exact this
def takeO (o : Option (List Nat)) (m : Nat) : List Nat × Option (List Nat) := match o with
  | none => (List.replicate m 0, none)
  | some r => if r.length < m then (List.replicate m 0, none) else (r.take m, some (r.drop m))
theorem takeO_len (o : Option (List Nat)) (m : Nat) : (takeO o m).1.length = m := by
  unfold takeO
  split
  · simp
  · split
    · simp
    · simp; omega
def CuAt (w : World) (n : Nat) (o : Option (List Nat)) (tl : List Value) : Prop :=
  ∃ (r : List Nat) (off : Bool) (a : Option Addr) (c : Nat), o = (if off = true then none else some r) ∧ Blk w n 209 (.slice a r.length c :: .bool off :: tl) ∧ RowAt w a 1 b1 r ∧ r.length ≤ c ∧ (∀ A, a = some A → r ≠ [] → A.block < n)
def oneO (o : Option (List Nat)) : Nat × Option (List Nat) := ((takeO o 1).1.headD 0, (takeO o 1).2)
def pairO (o : Option (List Nat)) : Nat × Option (List Nat) := ((takeO o 2).1.headD 0 * 256 + ((takeO o 2).1.getD 1 0), (takeO o 2).2)
def okO (o : Option (List Nat)) : Prop := ∀ r, o = some r → ∀ x ∈ r, x < 256
theorem okO.take {o : Option (List Nat)} (h : okO o) (m : Nat) : okO (takeO o m).2 ∧ ∀ x ∈ (takeO o m).1, x < 256 := by
  cases o with
  | none => exact ⟨fun r hr => (by cases hr), fun x hx => by simp [takeO] at hx; omega⟩
  | some r =>
    unfold takeO
    by_cases hl : r.length < m
    · simp only [hl, if_true]
      exact ⟨fun r hr => (by cases hr), fun x hx => by simp at hx; omega⟩
    · simp only [hl, if_false]
      exact ⟨fun r' hr => (by cases hr; exact fun x hx => h r rfl x (List.mem_of_mem_drop hx)), fun x hx => h r rfl x (List.mem_of_mem_take hx)⟩
theorem okO.one {o : Option (List Nat)} (h : okO o) : okO (oneO o).2 ∧ (oneO o).1 < 256 := by
  obtain ⟨h1, h2⟩ := h.take 1
  refine ⟨h1, ?_⟩
  have hl := takeO_len o 1
  unfold oneO
  match hx : (takeO o 1).1, hl with
  | [x], _ => rw [hx] at h2; exact h2 x (by simp)
end Fk
set_option linter.unusedVariables false
set_option linter.unusedSimpArgs false
set_option maxRecDepth 100000
namespace Fk
open Go Go.Proofs Go.RowKit
section
variable {H : Type} {enc : TypeId × Value → H} {w : World} {base : Nat} {spare : Nat → Bool} {held : Bool} {fuel : Nat} {cs : List Value} {x : DataW H × List MemPlace}
/-- A row of elements of one kind. -/
theorem row_cs {α : Type} {t e : TypeId} {size : Nat} {en : α → List Value} {Q : α → Prop} (ht : Try.prog.underlying t = some (.slice e)) (hc : Try.prog.cellsOf e = size) (he : Enc size en)
    (hel : ∀ (m : Nat) (cs : List Value) (y : DataW H × List MemPlace), DataW.trod enc Try.prog w base spare held m e cs = some y → ∃ z : α, cs = en z ∧ Q z) (h : DataW.trod enc Try.prog w base spare held fuel t cs = some x) :
    ∃ (a : Option Addr) (c : Nat) (l : List α), cs = [.slice a l.length c] ∧ l.length ≤ c ∧ l.length < 2 ^ 63 ∧ RowAt w a size en l ∧ ∀ z ∈ l, Q z := by
  rcases DataW.trod_slice ht h with ⟨rfl, _⟩ | ⟨a, len, cap, elems, rest, n, rfl, rfl, _, _, hlc, hcm, hel', hat, _⟩
  · exact ⟨none, 0, [], rfl, by simp, by simp, fun i x hx => by simp at hx, by simp⟩
  have hx : ∀ j : Fin len, ∃ z : α, Q z ∧ ∀ k u, (en z)[k]? = some u → w.cell? ((a.add (j.1 * size)).add k) = some u := by
    intro j
    have h1 := hat j.1 j.2
    rw [List.getElem?_eq_getElem (by omega), hc] at h1
    obtain ⟨cs', hcs, htr⟩ := Option.bind_eq_some_iff.1 h1
    obtain ⟨z, rfl, hq⟩ := hel n _ _ htr
    obtain ⟨_, hl, hcell⟩ := World.cells?_some hcs
    refine ⟨z, hq, fun k u hu => ?_⟩
    rw [hcell k (by have := (List.getElem?_eq_some_iff.1 hu).1; omega)]
    exact hu
  refine ⟨some a, cap, List.ofFn fun j : Fin len => Classical.choose (hx j), by simp, by simpa using hlc, ?_, ?_, ?_⟩
  · simp only [maxLen] at hcm; simp; omega
  · intro i z hz
    have hi : i < len := by have := (List.getElem?_eq_some_iff.1 hz).1; simpa using this
    rw [List.getElem?_ofFn] at hz
    simp [hi] at hz
    refine ⟨a, rfl, fun k u hu => ?_⟩
    rw [← hz] at hu
    exact (Classical.choose_spec (hx ⟨i, hi⟩)).2 k u hu
  · intro z hz
    obtain ⟨j, rfl⟩ := List.mem_ofFn.1 hz
    exact (Classical.choose_spec (hx j)).1
theorem ints_row {t : TypeId} (ht : Try.prog.underlying t = some (.slice 3)) (h : DataW.trod enc Try.prog w base spare held fuel t cs = some x) :
    ∃ (a : Option Addr) (c : Nat) (l : List Int), cs = [.slice a l.length c] ∧ l.length ≤ c ∧ l.length < 2 ^ 63 ∧ RowAt w a 1 i1 l ∧ ∀ z ∈ l, -9223372036854775808 ≤ z ∧ z ≤ 9223372036854775807 :=
  row_cs ht (by kernel_rfl) enci1 (fun m cs y hy => by
    obtain ⟨v, rfl, hv⟩ := int_cs (k := .i64) (by kernel_rfl) hy
    exact ⟨v, rfl, i64_wf hv⟩) h
theorem bytes_row {t : TypeId} (ht : Try.prog.underlying t = some (.slice 5)) (h : DataW.trod enc Try.prog w base spare held fuel t cs = some x) :
    ∃ (a : Option Addr) (c : Nat) (l : List Nat), cs = [.slice a l.length c] ∧ l.length ≤ c ∧ l.length < 2 ^ 63 ∧ RowAt w a 1 b1 l ∧ ∀ z ∈ l, z < 256 :=
  row_cs ht (by kernel_rfl) encb1 (fun m cs y hy => by
    obtain ⟨v, rfl, hv⟩ := int_cs (k := .u8) (by kernel_rfl) hy
    have := byte_wf hv
    exact ⟨v.toNat, by simp [b1]; omega, by omega⟩) h
theorem dfa_cs (h : DataW.trod enc Try.prog w base spare held fuel 54 cs = some x) : ∃ (dm : Int) (na : Option Addr) (nc : Nat) (nx : List Int) (ta : Option Addr) (tc : Nat) (tg : List Int),
    cs = [.int .i64 dm, .slice na nx.length nc, .slice ta tg.length tc] ∧ nx.length < 2 ^ 63 ∧ tg.length < 2 ^ 63 ∧ RowAt w na 1 i1 nx ∧ RowAt w ta 1 i1 tg ∧
    (-9223372036854775808 ≤ dm ∧ dm ≤ 9223372036854775807) ∧ (∀ z ∈ nx, -9223372036854775808 ≤ z ∧ z ≤ 9223372036854775807) ∧ (∀ z ∈ tg, -9223372036854775808 ≤ z ∧ z ≤ 9223372036854775807) ∧ nx.length ≤ nc ∧ tg.length ≤ tc := by
  have u : Try.prog.underlying 54 = some (.struct (Try.prog.fieldsOf 54)) := by kernel_rfl
  have hF : fieldsL Try.prog 54 = [(false, 3, 0), (false, 52, 1), (false, 52, 2)] := by kernel_rfl
  have c3 : Try.prog.cellsOf 3 = 1 := by kernel_rfl
  have c52 : Try.prog.cellsOf 52 = 1 := by kernel_rfl
  have c54 : Try.prog.cellsOf 54 = 3 := by kernel_rfl
  have u3 : Try.prog.underlying 3 = some (.int .i64) := by kernel_rfl
  have u52 : Try.prog.underlying 52 = some (.slice 3) := by kernel_rfl
  unfold fieldsL at hF
  generalize Try.prog.fieldsOf 54 = fs at u hF
  obtain ⟨xs, m, rfl, rfl, hl, hx, hi⟩ := DataW.trod_struct u h
  obtain ⟨f1, f2, f3, rfl, e1, o1, e2, o2, e3, o3⟩ := three_fields hF
  have hx3 : xs.length = 3 := hx
  have h0 := hi 0 f1 rfl
  have h1 := hi 1 f2 rfl
  have h2 := hi 2 f3 rfl
  rw [List.getElem?_eq_getElem (by omega), e1, o1, c3] at h0
  rw [List.getElem?_eq_getElem (by omega), e2, o2, c52] at h1
  rw [List.getElem?_eq_getElem (by omega), e3, o3, c52] at h2
  obtain ⟨dm, hdm, hdw⟩ := int_cs u3 h0
  obtain ⟨na, nc, nx, hnx, hnc, hnl, hnr, hnw⟩ := ints_row u52 h1
  obtain ⟨ta, tc, tg, htg, htc, htl, htr, htw⟩ := ints_row u52 h2
  rw [c54] at hl
  match cs, hl with
  | [v0, v1, v2], _ =>
    simp at hdm hnx htg
    exact ⟨dm, na, nc, nx, ta, tc, tg, by rw [hdm, hnx, htg], hnl, htl, hnr, htr, i64_wf hdw, hnw, htw, hnc, htc⟩
theorem bytes_of {d : DataW H} {ps : List MemPlace} {a : Option Addr} {n c : Nat} (h : DataW.Trod enc Try.prog w base spare held 51 (.slice a n c) d ps) : ∃ l : List Nat, l.length = n ∧ n ≤ c ∧ n < 2 ^ 63 ∧ RowAt w a 1 b1 l ∧ ∀ z ∈ l, z < 256 := by
  obtain ⟨fuel, h⟩ := h
  obtain ⟨a', c', l, he, h1, h2, h3, h4⟩ := bytes_row (by kernel_rfl : Try.prog.underlying 51 = some (.slice 5)) h
  have he' : [Value.slice a n c] = [.slice a' l.length c'] := he
  simp at he'
  obtain ⟨rfl, rfl, rfl⟩ := he'
  exact ⟨l, rfl, h1, h2, h3, h4⟩
end
end Fk
set_option linter.unusedVariables false
namespace Fk
open Go Go.RowKit
theorem Bd_e {α : Type} {x y : α} {K : α → Prop} (h : x = y) (k : K y) : Bd x K := Bd_in fun z hz => by rw [hz, h]; exact k
theorem Bd_t {x : Bool} {K : Bool → Prop} (h : x = true) (k : K true) : Bd x K := Bd_e h k
theorem Bd_f {x : Bool} {K : Bool → Prop} (h : x = false) (k : K false) : Bd x K := Bd_e h k
theorem If_t {A B : Prop} (h : A) : If true A B := If_in (fun _ => h) fun e => by cases e
theorem If_f {A B : Prop} (h : B) : If false A B := If_in (fun e => by cases e) fun _ => h
theorem Gd_t {α : Type} {d : α} {op : (α → World → Prop) → Prop} {K : α → World → Prop} {w : World} (h : op K) : Gd true d op K w := ⟨fun _ => h, fun e => by cases e⟩
theorem Gd_f {α : Type} {d : α} {op : (α → World → Prop) → Prop} {K : α → World → Prop} {w : World} (h : K d w) : Gd false d op K w := ⟨(fun e => by cases e), fun _ => h⟩
theorem mdUp {w w' : World} {n : Nat} (hn : w.heap.size ≤ n) (hm : Md [n] w w') : Md [] w w' := hm.fresh (by simpa using hn)
theorem Good.of {L : List Nat} {w0 w1 w : World} (h : Md [] w0 w1) (g : Good L w1 w) : Good L w0 w := ⟨h.trans g.1, g.2⟩
end Fk
set_option linter.unusedVariables false
set_option linter.unusedSimpArgs false
set_option maxRecDepth 100000
namespace Fk
open Go Go.Proofs Go.RowKit
structure Ns where
  k : Int
  s1 : Int
  s2 : Int
  s3 : Int
  s4 : Int
  a : Int
  b : Int
  t : Int
  deriving DecidableEq
def nsE (x : Ns) : List Value := [.int .u8 x.k, .int .u64 x.s1, .int .u64 x.s2, .int .u64 x.s3, .int .u64 x.s4, .int .i64 x.a, .int .i64 x.b, .int .i64 x.t]
abbrev Ns.v (x : Ns) : Value := .agg #[.int .u8 x.k, .int .u64 x.s1, .int .u64 x.s2, .int .u64 x.s3, .int .u64 x.s4, .int .i64 x.a, .int .i64 x.b, .int .i64 x.t]
end Fk
set_option linter.unusedVariables false
set_option linter.unusedSimpArgs false
set_option maxRecDepth 100000
namespace Fk
open Go Go.Proofs Go.RowKit
def bytesOf (l : List Nat) : ByteArray := ⟨(l.map UInt8.ofNat).toArray⟩
section
variable {t : Tb} {p : TbS}
theorem Tb.len (hf : t.c.f.length = 256) : (t.l p).length = 261 := by simp [Tb.l, Tb.d, Cl.l, hf]
end
theorem CuAt.setT {w : World} {n : Nat} {o : Option (List Nat)} {tl : List Value} (h : CuAt w n o tl) {j : Nat} (hj : j < tl.length) (v : Value) : CuAt (setCells w ⟨n, 2 + j, none⟩ 0 [v]) n o (tl.set j v) ∧ Md [n] w (setCells w ⟨n, 2 + j, none⟩ 0 [v]) ∧ Wr w ⟨n, 2 + j, none⟩ 1 := by
  obtain ⟨r, off, a, c, ho, hb, hr, hc, ha⟩ := h
  have hm := Md_setCells (w := w) n (2 + j) [v]
  have hb2 := hb.set (j := 2 + j) (by simp; omega) v
  refine ⟨⟨r, off, a, c, ho, ?_, hr.mdE hm fun A hA hne => by have := ha A hA hne; simp; omega, hc, ha⟩, hm, hb.wr (by simp; omega)⟩
  rw [show 2 + j = (j + 1) + 1 by omega, List.set_cons_succ, List.set_cons_succ] at hb2
  rw [show 2 + j = (j + 1) + 1 by omega]
  exact hb2
theorem CuAt.mdN {w w' : World} {n : Nat} {o : Option (List Nat)} {tl : List Value} {D : List Nat} (h : CuAt w n o tl) (hm : Md D w w') (hD : ∀ d ∈ D, n < d) : CuAt w' n o tl := by
  obtain ⟨r, off, a, c, ho, hb, hr, hc, ha⟩ := h
  exact ⟨r, off, a, c, ho, hb.md hm (fun h => by have := hD n h; omega), hr.mdE hm fun A hA hne hm => (by have := ha A hA hne; have := hD _ hm; omega), hc, ha⟩
theorem CuAt.setOff {w : World} {n : Nat} {o : Option (List Nat)} {tl : List Value} (h : CuAt w n o tl) (m : Bool) (x : Bool) (hx : x = (bif o.isNone then true else !m)) :
    CuAt (setCells w ⟨n, 1, none⟩ 0 [.bool x]) n (if m = true then o else none) tl ∧ Md [n] w (setCells w ⟨n, 1, none⟩ 0 [.bool x]) ∧ Wr w ⟨n, 1, none⟩ 1 := by
  obtain ⟨r, off, a, c, ho, hb, hr, hc, ha⟩ := h
  have hm := Md_setCells (w := w) n 1 [.bool x]
  have hb2 := hb.set (j := 1) (by simp) (.bool x)
  refine ⟨⟨r, x, a, c, ?_, hb2, hr.mdE hm fun A hA hne => by have := ha A hA hne; simp; omega, hc, ha⟩, hm, hb.wr (by simp)⟩
  rw [hx, ho]
  cases off <;> cases m <;> rfl
/-- All that is so while the head is read. -/
structure HS (w0 w : World) (n : Nat) (o : Option (List Nat)) (t : Tb) (p : TbS) : Prop where
  cu : CuAt w n o (t.l p)
  ok : okO o
  f : t.c.f.length = 256
  nm : OwnL w w0.heap.size 9 1 s1 p.sa p.sc t.nm
  tg : OwnL w w0.heap.size 3 1 i1 p.ta p.tc t.tg
  nx : OwnL w w0.heap.size 3 1 i1 p.na p.nc t.nx
  md : Md [n] w0 w
  lt : n < w0.heap.size
  d1 : ∀ A B, p.sa = some A → p.ta = some B → A.block ≠ B.block
  d2 : ∀ A B, p.sa = some A → p.na = some B → A.block ≠ B.block
  d3 : ∀ A B, p.ta = some A → p.na = some B → A.block ≠ B.block
section
variable {w0 w : World} {n : Nat} {o : Option (List Nat)} {t : Tb} {p : TbS} {L : List Nat}
theorem own_ne {α : Type} {w : World} {base n : Nat} {e : TypeId} {size : Nat} {enc : α → List Value} {a : Option Addr} {c : Nat} {l : List α} (h : OwnL w base e size enc a c l) (hn : n < base) : ∀ A, a = some A → A.block ∉ [n] := by
  intro A hA
  have := (h.lt hA).1
  simp; omega
theorem HS.step {w' : World} {o' : Option (List Nat)} (S : HS w0 w n o t p) (hm : Md [n] w w') (hc : CuAt w' n o' (t.l p)) (ho : okO o') : HS w0 w' n o' t p :=
  ⟨hc, ho, S.f, S.nm.mdD hm (own_ne S.nm S.lt), S.tg.mdD hm (own_ne S.tg S.lt), S.nx.mdD hm (own_ne S.nx S.lt), S.md.trans hm, S.lt, S.d1, S.d2, S.d3⟩
theorem HS.drew (S : HS w0 w n o t p) : HS w0 w.drew n o t p := S.step ((Md_drew w).mono (by simp)) (S.cu.mdN (Md_drew w) (by simp)) S.ok
theorem HS.size (S : HS w0 w n o t p) : w0.heap.size ≤ w.heap.size := S.md.size
theorem okO.pair {o : Option (List Nat)} (h : okO o) : okO (pairO o).2 := (h.take 2).1
theorem HS.off (S : HS w0 w n o t p) (m x : Bool) (hx : x = (bif o.isNone then true else !m)) : HS w0 (setCells w ⟨n, 1, none⟩ 0 [.bool x]) n (if m = true then o else none) t p ∧ Wr w ⟨n, 1, none⟩ 1 := by
  obtain ⟨hset, hm, hwr⟩ := S.cu.setOff m x hx
  exact ⟨S.step hm hset (by cases m; exact fun r hr => (by cases hr); exact S.ok), hwr⟩
end
def hd1 (o : Option (List Nat)) : Bool × Option (List Nat) :=
  if (oneO o).1 = 70 then (if (oneO (oneO o).2).1 = 84 then (decide ((oneO (oneO (oneO o).2).2).1 = 1), (oneO (oneO (oneO o).2).2).2) else (false, (oneO (oneO o).2).2)) else (false, (oneO o).2)
def hdOff (o : Option (List Nat)) : Option (List Nat) := if (hd1 o).1 = true then (hd1 o).2 else none
def hdM (o : Option (List Nat)) : Nat × Option (List Nat) := oneO (hdOff o)
def hdS (o : Option (List Nat)) : Nat × Option (List Nat) := pairO (hdM o).2
def hdC (o : Option (List Nat)) : Nat × Option (List Nat) := oneO (hdS o).2
def nmsO : Nat → Option (List Nat) → List ByteArray → List ByteArray × Option (List Nat)
  | 0, o, acc => (acc, o)
  | k + 1, o, acc => nmsO k (takeO (oneO o).2 (oneO o).1).2 (acc ++ [bytesOf (takeO (oneO o).2 (oneO o).1).1])
def hdN (o : Option (List Nat)) : List ByteArray × Option (List Nat) := nmsO (hdC o).1 (hdC o).2 []
def zT : Tb := ⟨zCl 0, 0, [], [], []⟩
def zP : TbS := ⟨none, 0, none, 0, none, 0⟩
end Fk
set_option linter.unusedVariables false
set_option linter.unusedSimpArgs false
set_option maxRecDepth 100000
namespace Fk
open Go Go.Proofs Go.RowKit
section
variable {H : Type} {enc : TypeId × Value → H} {w : World} {base : Nat} {spare : Nat → Bool} {held : Bool} {fuel : Nat} {cs : List Value} {x : DataW H × List MemPlace}
/-- A state's numbers are what they may be. -/
def Ns.wf (x : Ns) : Prop := 0 ≤ x.k ∧ x.k < 256
end
end Fk
set_option linter.unusedVariables false
set_option linter.unusedSimpArgs false
set_option maxRecDepth 100000
namespace Fk
open Go Go.Proofs Go.RowKit
section
variable {H : Type} {enc : TypeId × Value → H} {w : World} {base : Nat} {spare : Nat → Bool} {held : Bool}
theorem dfa_of {d : DataW H} {ps : List MemPlace} {cs : Array Value} (h : DataW.Trod enc Try.prog w base spare held 54 (.agg cs) d ps) : ∃ (dm : Int) (na : Option Addr) (nc : Nat) (nx : List Int) (ta : Option Addr) (tc : Nat) (tg : List Int),
    cs = #[.int .i64 dm, .slice na nx.length nc, .slice ta tg.length tc] ∧ nx.length < 2 ^ 63 ∧ tg.length < 2 ^ 63 ∧ RowAt w na 1 i1 nx ∧ RowAt w ta 1 i1 tg ∧
    (-9223372036854775808 ≤ dm ∧ dm ≤ 9223372036854775807) ∧ (∀ z ∈ nx, -9223372036854775808 ≤ z ∧ z ≤ 9223372036854775807) ∧ (∀ z ∈ tg, -9223372036854775808 ≤ z ∧ z ≤ 9223372036854775807) := by
  obtain ⟨fuel, h⟩ := h
  have e : (Value.agg cs).cells.toList = cs.toList := rfl
  rw [e] at h
  obtain ⟨dm, na, nc, nx, ta, tc, tg, h1, h2, h3, h4, h5, h6, h7, h8, _⟩ := dfa_cs h
  exact ⟨dm, na, nc, nx, ta, tc, tg, Array.ext' (by simpa using h1), h2, h3, h4, h5, h6, h7, h8⟩
end
end Fk
set_option linter.unusedVariables false
set_option linter.unusedSimpArgs false
set_option maxRecDepth 100000
namespace Fk
open Go Go.Proofs Go.RowKit
theorem ad0' (n j : Nat) : (Addr.mk n 0 none).add j = ⟨n, j, none⟩ := by rw [Addr.add_lit, Nat.zero_add]
theorem Blk.ld' {w : World} {n : Nat} {ty : TypeId} {l : List Value} (h : Blk w n ty l) {j : Nat} {v : Value} (hv : l[j]? = some v) {K : Value → Prop} (k : K v) : Ld w ((Addr.mk n 0 none).add j) K :=
  Ld_in (by rw [ad0']; exact h.cell hv) k
theorem Blk.new (w : World) (cs : Array Value) (ty : TypeId) : Blk (w.alloc (.cells cs ty)) w.heap.size ty cs.toList := by
  show (w.heap.push (.cells cs ty (0, 0)))[w.heap.size]? = _
  rw [Array.getElem?_push_size]
def Ns.zs (x : Ns) : Prop := x.s1 = 0 ∧ x.s2 = 0 ∧ x.s3 = 0 ∧ x.s4 = 0
instance (x : Ns) : Decidable x.zs := by unfold Ns.zs; infer_instance
def okNs (m : Int) (x : Ns) : Prop := (x.k = 0 ∧ x.zs ∧ x.a = 0 ∧ x.b = 0 ∧ 0 ≤ x.t ∧ x.t < 200) ∨ (x.k = 1 ∧ ¬ x.zs ∧ 0 ≤ x.a ∧ x.a < m ∧ x.b = 0 ∧ x.t = 0) ∨ (x.k = 2 ∧ x.zs ∧ 0 ≤ x.a ∧ x.a < m ∧ 0 ≤ x.b ∧ x.b < m ∧ x.t = 0)
instance (m : Int) (x : Ns) : Decidable (okNs m x) := by unfold okNs; infer_instance
end Fk
set_option linter.unusedVariables false
set_option linter.unusedSimpArgs false
namespace Fk
open Go Go.Proofs Go.RowKit
theorem wrL_len {cells vs : List Value} {o : Nat} (h : o + vs.length ≤ cells.length) : (wrL cells o vs).length = cells.length := by
  unfold wrL; simp; omega
theorem wrL_get {cells vs : List Value} {o : Nat} (h : o + vs.length ≤ cells.length) (j : Nat) : (wrL cells o vs)[j]? = if o ≤ j ∧ j < o + vs.length then vs[j - o]? else cells[j]? := by
  unfold wrL
  have hl : (cells.take o).length = o := by simp; omega
  split
  · rename_i hj
    rw [List.getElem?_append_right (by omega), hl, List.getElem?_append_left (by omega)]
  · rename_i hj
    rcases Nat.lt_or_ge j o with hjo | hjo
    · rw [List.getElem?_append_left (by omega), List.getElem?_take_of_lt hjo]
    · rw [List.getElem?_append_right (by omega), hl, List.getElem?_append_right (by omega), List.getElem?_drop]
      congr 1; omega
theorem wrL_take {cells vs : List Value} {o m : Nat} (h : o + vs.length ≤ m) (hm : m ≤ cells.length) : (wrL cells o vs).take m = wrL (cells.take m) o vs := by
  apply List.ext_getElem?
  intro j
  have h1 : (cells.take m).length = m := by simp; omega
  rw [wrL_get (by omega), List.getElem?_take, wrL_get (by omega), List.getElem?_take]
  split <;> split <;> rename_i a b <;> first | rfl | omega
theorem wrL_flat {α : Type} {size : Nat} {enc : α → List Value} (he : Enc size enc) : ∀ (l : List α) (i : Nat) (x : α), i < l.length → wrL (l.flatMap enc) (i * size) (enc x) = (l.set i x).flatMap enc
  | [], i, x, h => by simp at h
  | y :: l, 0, x, h => by
    simp only [wrL, List.flatMap_cons, Nat.zero_mul, List.take_zero, List.nil_append, Nat.zero_add, List.set_cons_zero]
    rw [he.len x, List.drop_left' (he.len y)]
  | y :: l, i + 1, x, h => by
    have ih := wrL_flat he l i x (by simpa using h)
    simp only [List.set_cons_succ, List.flatMap_cons, ← ih]
    unfold wrL
    rw [Nat.succ_mul, Nat.add_comm (i * size) size]
    rw [List.take_append, List.drop_append, he.len y]
    have h1 : List.take (size + i * size) (enc y) = enc y := List.take_of_length_le (by rw [he.len]; omega)
    have h2 : List.drop (size + i * size + (enc x).length) (enc y) = [] := List.drop_of_length_le (by rw [he.len, he.len]; omega)
    rw [h1, h2, List.append_assoc, List.nil_append, show size + i * size - size = i * size by omega, show size + i * size + (enc x).length - size = i * size + (enc x).length by omega]
theorem own_put {w : World} {base : Nat} {e : TypeId} {size n c : Nat} {a : Option Addr} {xs : List Value} (h : w.ownsRow base e size (.slice a n c) n xs) (o : Nat) (vs : List Value) (ho : o + vs.length ≤ xs.length) (hv : 0 < vs.length) :
    ∃ A, a = some A ∧ A.block < w.heap.size ∧ base ≤ A.block ∧ Wr w (A.add o) vs.length ∧ (setCells w (A.add o) 0 vs).ownsRow base e size (.slice a n c) n (wrL xs o vs) ∧ Md [A.block] w (setCells w (A.add o) 0 vs) := by
  obtain ⟨hxl, hh⟩ := h
  rcases hh with ⟨hv', hn⟩ | ⟨g, cap, cur, hv', hb, hg, hnc, hcm, hcs, htk⟩
  · subst hn; rw [Nat.zero_mul] at hxl; omega
  · simp only [Value.slice.injEq] at hv'
    obtain ⟨rfl, _, rfl⟩ := hv'
    have hle : n * size ≤ cur.toList.length := by rw [Array.length_toList, hcs]; exact Nat.mul_le_mul_right _ hnc
    have hadd : (Addr.mk g 0 none).add o = ⟨g, o, none⟩ := by simp [Addr.add_lit]
    have hblk : Blk w g e cur.toList := by unfold Blk; simpa using hg
    refine ⟨_, rfl, (Array.getElem?_eq_some_iff.1 hg).1, hb, ?_, ?_, ?_⟩
    · rw [hadd]; exact hblk.wr (by omega)
    · rw [hadd]
      refine ⟨by rw [wrL_len ho]; exact hxl, .inr ⟨g, c, (wrL cur.toList o vs).toArray, rfl, hb, ?_, hnc, hcm, ?_, ?_⟩⟩
      · rcases wrL_run (m := 0) (cells := []) (o := o) (vs := []) (b := g) (ty := e) vs 0 cur.toList w (by simpa using hg) with h' | h'
        · exact h'
        · omega
      · simp only [List.size_toArray]
        rw [wrL_len (by omega), Array.length_toList, hcs]
      · simp only
        rw [wrL_take (by omega) hle, htk]
    · rw [hadd]; exact Md_setCells _ _ _
theorem OwnL.put {α : Type} {w : World} {base : Nat} {e : TypeId} {size : Nat} {enc : α → List Value} {a : Option Addr} {c : Nat} {l : List α} (h : OwnL w base e size enc a c l) (he : Enc size enc) (hs : 0 < size) {i : Nat} (hi : i < l.length) (x : α) :
    ∃ A, a = some A ∧ A.block < w.heap.size ∧ base ≤ A.block ∧ (adAt a (i : Int) size).block = A.block ∧ Wr w (adAt a (i : Int) size) size ∧ OwnL (setCells w (adAt a (i : Int) size) 0 (enc x)) base e size enc a c (l.set i x) ∧
      Md [A.block] w (setCells w (adAt a (i : Int) size) 0 (enc x)) := by
  have hlen := he.lenL l
  have hmul : (i + 1) * size ≤ l.length * size := Nat.mul_le_mul_right _ hi
  rw [Nat.succ_mul] at hmul
  obtain ⟨A, rfl, h1, h2, h3, h4, h5⟩ := own_put h (i * size) (enc x) (by rw [he.len, hlen]; exact hmul) (by rw [he.len]; exact hs)
  have hA : adAt (some A) (i : Int) size = A.add (i * size) := by simp [adAt]
  rw [he.len] at h3
  rw [wrL_flat he l i x hi] at h4
  refine ⟨A, rfl, h1, h2, ?_, ?_, ?_, ?_⟩
  · rw [hA, add_block]
  · rw [hA]; exact h3
  · rw [hA]
    unfold OwnL
    rw [List.length_set]; exact h4
  · rw [hA]; exact h5
end Fk
set_option linter.unusedVariables false
set_option linter.unusedSimpArgs false
set_option maxRecDepth 100000
namespace Fk
open Go Go.Proofs Go.RowKit
theorem okO.off {o : Option (List Nat)} (h : okO o) : okO (hdOff o) := by
  have h1 := h.one.1
  have h2 := h1.one.1
  have h3 := h2.one.1
  have hh : okO (hd1 o).2 := by
    unfold hd1
    split
    · split
      · exact h3
      · exact h2
    · exact h1
  unfold hdOff
  split
  · exact hh
  · exact fun r hr => by cases hr
theorem okO.nms : ∀ (k : Nat) (o : Option (List Nat)) (acc : List ByteArray), okO o → (∀ s ∈ acc, s.size < 256) → okO (nmsO k o acc).2 ∧ (∀ s ∈ (nmsO k o acc).1, s.size < 256) ∧ (nmsO k o acc).1.length = acc.length + k
  | 0, o, acc, h, ha => ⟨h, ha, rfl⟩
  | k + 1, o, acc, h, ha => by
    have h1 := h.one
    have h2 := okO.nms k (takeO (oneO o).2 (oneO o).1).2 (acc ++ [bytesOf (takeO (oneO o).2 (oneO o).1).1]) (h1.1.take _).1 (by
      intro s hs
      rcases List.mem_append.1 hs with hs | hs
      · exact ha s hs
      · simp at hs
        subst hs
        simp [bytesOf, ByteArray.size, takeO_len, h1.2])
    refine ⟨h2.1, h2.2.1, ?_⟩
    rw [nmsO, h2.2.2]
    simp; omega
theorem okO.N {o : Option (List Nat)} (h : okO o) : okO (hdN o).2 ∧ (∀ s ∈ (hdN o).1, s.size < 256) ∧ (hdN o).1.length < 256 := by
  have h1 := (h.off.one.1.pair).one
  have h2 := okO.nms (hdC o).1 (hdC o).2 [] h1.1 (by simp)
  refine ⟨h2.1, h2.2.1, ?_⟩
  have : (hdN o).1.length = 0 + (hdC o).1 := h2.2.2
  have h3 : (hdC o).1 < 256 := h1.2
  omega
theorem OwnL.cap {α : Type} {w : World} {base : Nat} {e : TypeId} {size : Nat} {enc : α → List Value} {a : Option Addr} {c : Nat} {l : List α} (h : OwnL w base e size enc a c l) : l.length ≤ c := by
  rcases h.2 with ⟨hv, hn⟩ | ⟨g, cap, cur, hv, hb, hg, hnc, rest⟩
  · omega
  · simp only [Value.slice.injEq] at hv
    omega
/-- A table of one's own: no older than 'base'. -/
structure TbF (base : Nat) (w : World) (t : Tb) (p : TbS) : Prop where
  ok : t.c.ok
  nm : OwnL w base 9 1 s1 p.sa p.sc t.nm
  tg : OwnL w base 3 1 i1 p.ta p.tc t.tg
  nx : OwnL w base 3 1 i1 p.na p.nc t.nx
  nml : t.nm.length < 2 ^ 40
  tgl : t.tg.length < 2 ^ 40
  nxl : t.nx.length < 2 ^ 40
  nsz : ∀ s ∈ t.nm, s.size < 2 ^ 40
  d1 : ∀ A B, p.sa = some A → p.ta = some B → A.block ≠ B.block
  d2 : ∀ A B, p.sa = some A → p.na = some B → A.block ≠ B.block
  d3 : ∀ A B, p.ta = some A → p.na = some B → A.block ≠ B.block
theorem TbF.at {base : Nat} {w : World} {t : Tb} {p : TbS} (h : TbF base w t p) : TbAt w t p :=
  ⟨h.ok, h.nx.row enci1, h.tg.row enci1, h.nm.row encs1, by have := h.nxl; omega, by have := h.tgl; omega, by have := h.nml; omega, fun s hs => by have := h.nsz s hs; omega, h.nm.cap⟩
theorem TbF.mdN {base : Nat} {w w' : World} {t : Tb} {p : TbS} {D : List Nat} (h : TbF base w t p) (hm : Md D w w') (hD : ∀ d ∈ D, d < base) : TbF base w' t p := by
  have ne : ∀ {α : Type} {e : TypeId} {size : Nat} {enc : α → List Value} {a : Option Addr} {c : Nat} {l : List α}, OwnL w base e size enc a c l → ∀ A, a = some A → A.block ∉ D := by
    intro α e size enc a c l ho A hA hmem
    have := (ho.lt hA).1
    have := hD _ hmem
    omega
  exact ⟨h.ok, h.nm.mdD hm (ne h.nm), h.tg.mdD hm (ne h.tg), h.nx.mdD hm (ne h.nx), h.nml, h.tgl, h.nxl, h.nsz, h.d1, h.d2, h.d3⟩
theorem TbF.md {base : Nat} {w w' : World} {t : Tb} {p : TbS} (h : TbF base w t p) (hm : Md [] w w') : TbF base w' t p := h.mdN hm (by simp)
theorem TbF.down {base b : Nat} {w : World} {t : Tb} {p : TbS} (h : TbF base w t p) (hb : b ≤ base) : TbF b w t p := ⟨h.ok, h.nm.down hb, h.tg.down hb, h.nx.down hb, h.nml, h.tgl, h.nxl, h.nsz, h.d1, h.d2, h.d3⟩
theorem TbF.cells {base : Nat} {w : World} {t : Tb} {p : TbS} (h : TbF base w t p) : okCells (Array.toList (t.v p)) 261 = true := by
  have hl : (t.l p).length = 261 := Tb.len h.ok.len
  have : allOne (t.l p) = true := by
    simp [allOne, Tb.l, Tb.d, Cl.l, Value.oneCell']
  unfold okCells Tb.v
  rw [hl]
  exact this
theorem zT_ok : (zCl 0).ok := zCl_ok (by omega) (by omega)
theorem TbF.zero (base : Nat) (w : World) : TbF base w zT zP := ⟨zT_ok, OwnL.nil .., OwnL.nil .., OwnL.nil .., by simp [zT], by simp [zT], by simp [zT], by simp [zT], fun A B h => (by cases h), fun A B h => (by cases h), fun A B h => (by cases h)⟩
end Fk
set_option linter.unusedVariables false
set_option linter.unusedSimpArgs false
namespace Fk
open Go Go.Proofs Go.RowKit
/-- Two rows stand in blocks of their own. -/
def Apt (a b : Option Addr) : Prop := ∀ A B, a = some A → b = some B → A.block ≠ B.block
theorem Apt.symm {a b : Option Addr} (h : Apt a b) : Apt b a := fun A B hA hB e => h B A hB hA e.symm
/-- What stays when another row is appended to. -/
theorem own_keep {α : Type} {w w' : World} {base : Nat} {e : TypeId} {size : Nat} {enc : α → List Value} {a a' b : Option Addr} {c : Nat} {l : List α} (h : OwnL w base e size enc b c l)
    (hm : Md (a.map (·.block)).toList w w') (hA : ∀ A, a' = some A → a = some A ∨ w.heap.size ≤ A.block) (hd : Apt a b) : OwnL w' base e size enc b c l ∧ Apt a' b := by
  constructor
  · refine h.mdD hm fun B hB hmem => ?_
    cases a with
    | none => simp at hmem
    | some A => simp at hmem; exact hd A B rfl hB hmem.symm
  · intro A B hA' hB
    rcases hA A hA' with h1 | h1
    · exact hd A B h1 hB
    · have := (h.lt hB).2; omega
section
variable {base : Nat} {w : World} {t : Tb} {p : TbS} {L : List Nat}
end
theorem Tb.setB {t : Tb} {p : TbS} {i : Nat} (hf : t.c.f.length = 256) (hi : i < 256) (x : Nat) : (t.l p).set i (.int .u8 (x : Int)) = Tb.l ⟨⟨t.c.f.set i x, t.c.m⟩, t.dm, t.nx, t.tg, t.nm⟩ p := by
  simp [Tb.l, Tb.d, Cl.l, List.set_append, hf, hi, Nat.lt_succ_of_lt hi, List.map_set]
end Fk
set_option linter.unusedVariables false
set_option linter.unusedSimpArgs false
set_option maxRecDepth 100000
namespace Fk
open Go Go.Proofs Go.RowKit
/-- A maker: its states, and how many there may be. -/
structure MkAt (w : World) (n : Nat) (l : List Ns) (most : Nat) (a : Option Addr) (c : Nat) : Prop where
  blk : Blk w n 214 [.slice a l.length c, .int .i64 most]
  own : OwnL w 0 103 8 nsE a c l
  ne : ∀ A, a = some A → A.block ≠ n
def fpM (n : Nat) (a : Option Addr) : List Nat := n :: (a.map (·.block)).toList
def Mkr (w : World) (n : Nat) (l : List Ns) (most : Nat) (F : List Nat) : Prop := ∃ a c, MkAt w n l most a c ∧ F = fpM n a
def FrN (w : World) (F F' : List Nat) : Prop := ∀ b ∈ F', b ∈ F ∨ w.heap.size ≤ b
theorem FrN.refl (w : World) (F : List Nat) : FrN w F F := fun _ h => .inl h
theorem FrN.trans {w w' : World} {F F' F'' : List Nat} (h : FrN w F F') (h2 : FrN w' F' F'') (hs : w.heap.size ≤ w'.heap.size) : FrN w F F'' := fun b hb => by
  rcases h2 b hb with h1 | h1
  · exact h b h1
  · right; omega
theorem mem_fpM {n : Nat} {a : Option Addr} {b : Nat} : b ∈ fpM n a ↔ b = n ∨ ∃ A, a = some A ∧ A.block = b := by
  unfold fpM
  cases a <;> simp [eq_comm]
theorem Mkr.md {w w' : World} {n : Nat} {l : List Ns} {most : Nat} {F D : List Nat} (h : Mkr w n l most F) (hm : Md D w w') (hD : ∀ b ∈ F, b ∉ D) : Mkr w' n l most F := by
  obtain ⟨a, c, h, rfl⟩ := h
  exact ⟨a, c, ⟨h.blk.md hm (hD n (by rw [mem_fpM]; exact .inl rfl)), h.own.mdD hm (fun A hA => hD _ (by rw [mem_fpM]; exact .inr ⟨A, hA, rfl⟩)), h.ne⟩, rfl⟩
theorem Mkr.md0 {w w' : World} {n : Nat} {l : List Ns} {most : Nat} {F : List Nat} (h : Mkr w n l most F) (hm : Md [] w w') : Mkr w' n l most F := h.md hm (by simp)
theorem Mkr.lt {w : World} {n : Nat} {l : List Ns} {most : Nat} {F : List Nat} (h : Mkr w n l most F) : ∀ b ∈ F, b < w.heap.size := by
  obtain ⟨a, c, h, rfl⟩ := h
  intro b hb
  rw [mem_fpM] at hb
  rcases hb with rfl | ⟨A, hA, rfl⟩
  · exact h.blk.lt
  · exact (h.own.lt hA).2
end Fk
set_option linter.unusedVariables false
set_option linter.unusedSimpArgs false
set_option maxRecDepth 100000
namespace Fk
open Go Go.Proofs Go.RowKit
def Fo.drop : Fo → Nat → Fo
  | f, 0 => f
  | .nil, _ + 1 => .nil
  | .cons _ _ _ _ _ _ r, n + 1 => r.drop n
theorem RepF.drop {w : World} {A : Option Addr} : ∀ (f : Fo) (i j : Nat), RepF w A i f → RepF w A (i + j) (f.drop j)
  | f, i, 0, h => by simpa [Fo.drop] using h
  | .nil, i, j + 1, h => trivial
  | .cons _ _ _ _ _ _ r, i, j + 1, h => by
    obtain ⟨B, sa, sc, _, _, _, _, hr⟩ := h.at
    have := RepF.drop r (i + 1) j hr
    rw [show i + (j + 1) = i + 1 + j by omega]
    exact this
/-- What a call of toward, or of state, brings. -/
structure Tws (w0 w : World) (n : Nat) (l : List Ns) (most : Nat) (F : List Nat) : Prop where
  mr : Mkr w n l most F
  md : Md [] w0 w
  lo : ∀ b ∈ F, w0.heap.size ≤ b
  len : l.length ≤ most + 1
theorem Tws.step {w0 w w' : World} {n : Nat} {l l' : List Ns} {most : Nat} {F F' : List Nat} (S : Tws w0 w n l most F) (h : Mkr w' n l' most F') (hm : Md F w w') (hf : FrN w F F') (hl : l'.length ≤ most + 1) : Tws w0 w' n l' most F' :=
  ⟨h, S.md.old hm S.lo, fun b hb => by rcases hf b hb with h | h; exact S.lo b h; have := S.md.size; omega, hl⟩
theorem Tws.md0 {w0 w w' : World} {n : Nat} {l : List Ns} {most : Nat} {F : List Nat} (S : Tws w0 w n l most F) (hm : Md [] w w') : Tws w0 w' n l most F := ⟨S.mr.md0 hm, S.md.trans hm, S.lo, S.len⟩
/-- Blocks that are there, and are none of the maker's. -/
def LN (L : List Nat) (w : World) (F : List Nat) : Prop := ∀ b ∈ L, b < w.heap.size ∧ b ∉ F
theorem LN.fr {L F F' : List Nat} {w w' : World} (h : LN L w F) (hf : FrN w F F') (hs : w.heap.size ≤ w'.heap.size) : LN L w' F' := fun b hb => by
  obtain ⟨h1, h2⟩ := h b hb
  refine ⟨by omega, fun hm => ?_⟩
  rcases hf b hm with h3 | h3
  · exact h2 h3
  · omega
end Fk
set_option linter.unusedVariables false
set_option linter.unusedSimpArgs false
set_option maxRecDepth 100000
set_option maxHeartbeats 2000000
namespace Fk
open Go Go.Proofs Go.RowKit
theorem NN_in {A : Addr} {k : Addr → Prop} (h : k A) : NN (some A) k := h
end Fk
set_option linter.unusedVariables false
set_option linter.unusedSimpArgs false
set_option maxRecDepth 100000
set_option maxHeartbeats 2000000
namespace Fk
open Go Go.Proofs Go.RowKit
theorem OwnL.up {α : Type} {w : World} {base b : Nat} {e : TypeId} {size : Nat} {enc : α → List Value} {a : Option Addr} {c : Nat} {l : List α} (h : OwnL w base e size enc a c l) (hb : ∀ A, a = some A → b ≤ A.block) : OwnL w b e size enc a c l := by
  refine ⟨h.1, ?_⟩
  rcases h.2 with hn | ⟨g, cap, cur, hv, hb', rest⟩
  · exact .inl hn
  · refine .inr ⟨g, cap, cur, hv, ?_, rest⟩
    simp only [Value.slice.injEq] at hv
    exact hb _ hv.1
end Fk
set_option linter.unusedVariables false
set_option linter.unusedSimpArgs false
namespace Fk
open Go Go.Proofs Go.RowKit
def Ns.q (x : Ns) : Q4 := (x.s1, x.s2, x.s3, x.s4)
def On (N : List Bool) (i : Nat) : Prop := N[i]? = some true
instance (N : List Bool) (i : Nat) : Decidable (On N i) := by unfold On; infer_instance
/-- The states of a stack are come to, and what they come to without a byte. -/
def comeF (l : List Ns) : Nat → List Int → List Bool → List Bool
  | 0, _, N => N
  | m + 1, st, N => match st with
    | [] => N
    | x :: r => if On N x.toNat then comeF l m r N
      else comeF l m (match l[x.toNat]? with
        | some s => if s.k = 2 then s.b :: s.a :: r else r
        | none => r) (N.set x.toNat true)
def come (l : List Ns) (x : Int) (N : List Bool) : List Bool := comeF l (2 * l.length + 1) [x] N
def offs (n : Nat) : List Bool := List.replicate n false
/-- What some states come to without a byte. -/
inductive Rch (l : List Ns) (S : Nat → Prop) : Nat → Prop
  | base {i : Nat} : S i → Rch l S i
  | a {i : Nat} {x : Ns} : Rch l S i → l[i]? = some x → x.k = 2 → Rch l S x.a.toNat
  | b {i : Nat} {x : Ns} : Rch l S i → l[i]? = some x → x.k = 2 → Rch l S x.b.toNat
theorem Rch.sub {l : List Ns} {S T : Nat → Prop} (h : ∀ i, S i → Rch l T i) {i : Nat} (hi : Rch l S i) : Rch l T i := by
  induction hi with
  | base hs => exact h _ hs
  | a _ h1 h2 ih => exact .a ih h1 h2
  | b _ h1 h2 ih => exact .b ih h1 h2
theorem Rch.mono {l : List Ns} {S T : Nat → Prop} (h : ∀ i, S i → T i) {i : Nat} (hi : Rch l S i) : Rch l T i := hi.sub fun i hs => .base (h i hs)
theorem On.lt {N : List Bool} {i : Nat} (h : On N i) : i < N.length := by
  unfold On at h
  exact (List.getElem?_eq_some_iff.1 h).1
/-- These are the states that some come to. -/
def IsSt (l : List Ns) (S : Nat → Prop) (N : List Bool) : Prop := N.length = l.length ∧ ∀ i, On N i ↔ Rch l S i
theorem IsSt.congr {l : List Ns} {S T : Nat → Prop} {N : List Bool} (h : IsSt l S N) (hi : ∀ i, S i ↔ T i) : IsSt l T N :=
  ⟨h.1, fun i => (h.2 i).trans ⟨Rch.mono fun i => (hi i).1, Rch.mono fun i => (hi i).2⟩⟩
theorem IsSt.offs (l : List Ns) : IsSt l (fun _ => False) (offs l.length) := by
  refine ⟨by simp [Fk.offs], fun i => ⟨fun h => ?_, fun h => ?_⟩⟩
  · unfold On Fk.offs at h
    rw [List.getElem?_replicate] at h
    split at h <;> simp at h
  · exfalso
    induction h with
    | base h => exact h
    | a _ _ _ ih => exact ih
    | b _ _ _ ih => exact ih
end Fk
