/- Facts of the program that every row asks: worked out once. -/
import Derived.Test.YtpgjpgecgibklaaRows
import Derived.JoinedOf
import Derived.KernelRfl
import GoSem.ClaimOpen
import GoSem.ClaimOpenFrom
import GoSem.ClaimJoined
set_option maxRecDepth 100000
set_option linter.unusedVariables false
set_option linter.unusedSimpArgs false
namespace Go.Proofs.Ytpgjpgecgibklaa
def chs (l : List Nat) : List Char := l.map Char.ofNat
def hw1 : List Char := chs [104, 97, 114, 110, 101, 115, 115]
def hw2 : List Char := chs [57, 52, 100, 49, 52, 57, 51, 101, 101, 53, 49, 48, 55, 55, 50, 100, 101, 102, 48, 97, 98, 56, 49, 51, 52, 56, 49, 51, 53, 100, 53, 101, 101, 51, 53, 56, 54, 101, 98, 56, 52, 55, 57, 99, 55, 54, 55, 97, 53, 99, 97, 56, 97, 97, 49, 57, 51, 100, 102, 51, 52, 50, 50, 98]
def hw3 : List Char := chs [99, 117, 116]
def hwr : List Char := chs [97, 116, 32, 102, 114, 97, 110, 107, 105, 110, 103, 47, 102, 114, 97, 110, 107, 105, 110, 103, 108, 97, 119, 48, 54, 46, 67, 108, 97, 115, 115, 101, 115, 84, 101, 108, 108, 115, 32, 102, 114, 97, 110, 107, 105, 110, 103, 47, 102, 114, 97, 110, 107, 105, 110, 103, 108, 97, 119, 48, 54, 46, 67, 108, 97, 115, 115, 101, 115, 83, 97, 109, 101, 32, 102, 114, 97, 110, 107, 105, 110, 103, 47, 102, 114, 97, 110, 107, 105, 110, 103, 108, 97, 119, 48, 54, 46, 67, 108, 97, 115, 115, 101, 115, 77, 111, 114, 101, 32, 102, 114, 97, 110, 107, 105, 110, 103, 47, 102, 114, 97, 110, 107, 105, 110, 103, 108, 97, 119, 48, 54, 46, 67, 108, 97, 115, 115, 101, 115, 79, 114, 100, 101, 114, 32, 102, 114, 97, 110, 107, 105, 110, 103, 47, 102, 114, 97, 110, 107, 105, 110, 103, 108, 97, 119, 48, 54, 46, 67, 108, 97, 115, 115, 101, 115, 84, 119, 111, 32, 102, 114, 97, 110, 107, 105, 110, 103, 47, 102, 114, 97, 110, 107, 105, 110, 103, 108, 97, 119, 49, 48, 46, 84, 97, 98, 108, 101, 84, 101, 108, 108, 115, 32, 102, 114, 97, 110, 107, 105, 110, 103, 47, 102, 114, 97, 110, 107, 105, 110, 103, 108, 97, 119, 49, 48, 46, 84, 97, 98, 108, 101, 66, 97, 99, 107, 32, 102, 114, 97, 110, 107, 105, 110, 103, 47, 102, 114, 97, 110, 107, 105, 110, 103, 108, 97, 119, 49, 48, 46, 84, 97, 98, 108, 101, 67, 117, 116, 32, 102, 114, 97, 110, 107, 105, 110, 103, 47, 102, 114, 97, 110, 107, 105, 110, 103, 108, 97, 119, 48, 56, 46, 68, 102, 97, 83, 97, 109, 101, 32, 102, 114, 97, 110, 107, 105, 110, 103, 47, 102, 114, 97, 110, 107, 105, 110, 103, 108, 97, 119, 49, 48, 46, 84, 97, 98, 108, 101, 83, 116, 101, 112, 32, 102, 114, 97, 110, 107, 105, 110, 103, 47, 102, 114, 97, 110, 107, 105, 110, 103, 108, 97, 119, 48, 55, 46, 78, 102, 97, 84, 101, 108, 108, 115, 32, 102, 114, 97, 110, 107, 105, 110, 103, 47, 102, 114, 97, 110, 107, 105, 110, 103, 108, 97, 119, 48, 55, 46, 78, 102, 97, 84, 97, 103, 115, 32, 102, 114, 97, 110, 107, 105, 110, 103, 47, 102, 114, 97, 110, 107, 105, 110, 103, 108, 97, 119, 49, 48, 46, 84, 97, 98, 108, 101, 82, 105, 103, 104, 116, 32, 102, 114, 97, 110, 107, 105, 110, 103, 47, 102, 114, 97, 110, 107, 105, 110, 103, 108, 97, 119, 48, 55, 46, 78, 102, 97, 67, 97, 112, 32, 102, 114, 97, 110, 107, 105, 110, 103, 47, 102, 114, 97, 110, 107, 105, 110, 103, 108, 97, 119, 48, 55, 46, 78, 102, 97, 70, 114, 111, 110, 116, 115, 32, 102, 114, 97, 110, 107, 105, 110, 103, 47, 102, 114, 97, 110, 107, 105, 110, 103, 108, 97, 119, 48, 55, 46, 78, 102, 97, 79, 114, 100, 101, 114, 32, 102, 114, 97, 110, 107, 105, 110, 103, 47, 102, 114, 97, 110, 107, 105, 110, 103, 108, 97, 119, 48, 57, 46, 76, 101, 97, 115, 116, 84, 101, 108, 108, 115, 32, 102, 114, 97, 110, 107, 105, 110, 103, 47, 102, 114, 97, 110, 107, 105, 110, 103, 108, 97, 119, 48, 57, 46, 76, 101, 97, 115, 116, 65, 112, 97, 114, 116, 32, 102, 114, 97, 110, 107, 105, 110, 103, 47, 102, 114, 97, 110, 107, 105, 110, 103, 108, 97, 119, 48, 57, 46, 76, 101, 97, 115, 116, 78, 117, 109, 98, 101, 114, 115, 32, 102, 114, 97, 110, 107, 105, 110, 103, 47, 102, 114, 97, 110, 107, 105, 110, 103, 108, 97, 119, 48, 57, 46, 76, 101, 97, 115, 116, 65, 108, 105, 107, 101, 32, 102, 114, 97, 110, 107, 105, 110, 103, 47, 102, 114, 97, 110, 107, 105, 110, 103, 108, 97, 119, 50, 48, 46, 68, 105, 115, 107, 70, 114, 111, 110, 116, 32, 102, 114, 97, 110, 107, 105, 110, 103, 47, 102, 114, 97, 110, 107, 105, 110, 103, 108, 97, 119, 50, 48, 46, 68, 105, 115, 107, 87, 104, 111, 108, 101, 32, 102, 114, 97, 110, 107, 105, 110, 103, 47, 102, 114, 97, 110, 107, 105, 110, 103, 108, 97, 119, 50, 48, 46, 68, 105, 115, 107, 65, 114, 109, 101, 100, 32, 102, 114, 97, 110, 107, 105, 110, 103, 47, 102, 114, 97, 110, 107, 105, 110, 103, 108, 97, 119, 48, 57, 46, 76, 101, 97, 115, 116, 83, 97, 109, 101, 32, 102, 114, 97, 110, 107, 105, 110, 103, 47, 102, 114, 97, 110, 107, 105, 110, 103, 108, 97, 119, 50, 48, 46, 68, 105, 115, 107, 84, 101, 108, 108, 115, 32, 102, 114, 97, 110, 107, 105, 110, 103, 47, 102, 114, 97, 110, 107, 105, 110, 103, 108, 97, 119, 50, 48, 46, 68, 105, 115, 107, 78, 111, 110, 101, 32, 102, 114, 97, 110, 107, 105, 110, 103, 47, 102, 114, 97, 110, 107, 105, 110, 103, 108, 97, 119, 50, 49, 46, 74, 111, 117, 114, 110, 97, 108, 82, 111, 116, 32, 102, 114, 97, 110, 107, 105, 110, 103, 47, 102, 114, 97, 110, 107, 105, 110, 103, 108, 97, 119, 50, 49, 46, 74, 111, 117, 114, 110, 97, 108, 67, 114, 97, 115, 104, 32, 102, 114, 97, 110, 107, 105, 110, 103, 47, 102, 114, 97, 110, 107, 105, 110, 103, 108, 97, 119, 50, 49, 46, 74, 111, 117, 114, 110, 97, 108, 82, 111, 111, 109, 32, 102, 114, 97, 110, 107, 105, 110, 103, 47, 102, 114, 97, 110, 107, 105, 110, 103, 108, 97, 119, 48, 56, 46, 68, 102, 97, 84, 101, 108, 108, 115, 32, 102, 114, 97, 110, 107, 105, 110, 103, 47, 102, 114, 97, 110, 107, 105, 110, 103, 108, 97, 119, 48, 56, 46, 68, 102, 97, 70, 111, 117, 110, 100, 32, 102, 114, 97, 110, 107, 105, 110, 103, 47, 102, 114, 97, 110, 107, 105, 110, 103, 108, 97, 119, 48, 56, 46, 68, 102, 97, 67, 97, 112, 32, 102, 114, 97, 110, 107, 105, 110, 103, 47, 102, 114, 97, 110, 107, 105, 110, 103, 108, 97, 119, 48, 56, 46, 68, 102, 97, 82, 117, 110, 115, 32, 102, 114, 97, 110, 107, 105, 110, 103, 47, 102, 114, 97, 110, 107, 105, 110, 103, 108, 97, 119, 50, 49, 46, 74, 111, 117, 114, 110, 97, 108, 65, 110, 101, 119, 32, 102, 114, 97, 110, 107, 105, 110, 103, 47, 102, 114, 97, 110, 107, 105, 110, 103, 108, 97, 119, 50, 49, 46, 74, 111, 117, 114, 110, 97, 108, 84, 101, 108, 108, 115]
theorem head_is : Try.prog.initOrder = String.ofList (hw1 ++ Char.ofNat 32 :: (hw2 ++ Char.ofNat 32 :: (hw3 ++ Char.ofNat 32 :: hwr))) := by kernel_rfl
theorem words_step : ∀ (w r : List Char), (∀ c ∈ w, c ≠ Char.ofNat 32) → wordsSigns (w ++ Char.ofNat 32 :: r) = w :: wordsSigns r
  | [], r, _ => rfl
  | c :: w, r, h => by
    have ih := words_step w r fun c hc => h c (List.mem_cons_of_mem _ hc)
    have hc : c ≠ Char.ofNat 32 := h c (by simp)
    rw [List.cons_append, wordsSigns]
    · rw [ih]
    · exact fun e => hc e
theorem sp1 : ∀ c ∈ hw1, c ≠ Char.ofNat 32 := by decide +kernel
theorem sp2 : ∀ c ∈ hw2, c ≠ Char.ofNat 32 := by decide +kernel
theorem sp3 : ∀ c ∈ hw3, c ≠ Char.ofNat 32 := by decide +kernel
theorem behind_is (rest : List (List Char)) : behindMainWord (hw1 :: hw2 :: hw3 :: rest) = hw3 :: rest := by kernel_rfl
theorem head_list : Try.prog.initOrder.toList = hw1 ++ Char.ofNat 32 :: (hw2 ++ Char.ofNat 32 :: (hw3 ++ Char.ofNat 32 :: hwr)) := by rw [head_is, String.toList_ofList]
theorem words_is (l : List Char) (h : l = hw1 ++ Char.ofNat 32 :: (hw2 ++ Char.ofNat 32 :: (hw3 ++ Char.ofNat 32 :: hwr))) : ∃ rest, behindMainWord (wordsSigns l) = hw3 :: rest :=
  ⟨wordsSigns hwr, by rw [h, words_step hw1 _ sp1, words_step hw2 _ sp2, words_step hw3 _ sp3]; exact behind_is _⟩
theorem cutWords : ∃ rest, behindMainWord (wordsSigns Try.prog.initOrder.toList) = hw3 :: rest := words_is _ head_list
theorem enter_of (P : Program) (rest : List (List Char)) (h : behindMainWord (wordsSigns P.initOrder.toList) = hw3 :: rest) (h2 : (!P.laysLater) = true) (h3 : (!P.bearsReflect) = true) (h4 : P.doorFits [] = true) : P.mayEnter = true := by
  have e : stripLifts liftWords (hw3 :: rest) = ([], hw3 :: rest) := by kernel_rfl
  unfold Program.mayEnter
  rw [h]
  simp only [e, h2, h3, h4]
  simp
  right
  kernel_rfl
theorem lifts_of (P : Program) (rest : List (List Char)) (h : behindMainWord (wordsSigns P.initOrder.toList) = hw3 :: rest) : P.headLifts = [] := by
  have e : stripLifts liftWords (hw3 :: rest) = ([], hw3 :: rest) := by kernel_rfl
  unfold Program.headLifts
  rw [h, e]
  simp
theorem final_of (P : Program) (rest : List (List Char)) (h : behindMainWord (wordsSigns P.initOrder.toList) = hw3 :: rest) : P.liftsFinal = false := by
  unfold Program.liftsFinal
  rw [h, lifts_of P rest h]
  kernel_rfl
theorem make_of (P : Program) (rest : List (List Char)) (h : behindMainWord (wordsSigns P.initOrder.toList) = hw3 :: rest) : P.make = some .cut := by
  unfold Program.make
  rw [h]
  kernel_rfl
theorem later_is : (!Try.prog.laysLater) = true := by kernel_rfl
theorem reflect_is : (!Try.prog.bearsReflect) = true := by kernel_rfl
theorem door_is : Try.prog.doorFits [] = true := by kernel_rfl
theorem mayEnter_is : Try.prog.mayEnter = true := let ⟨rest, h⟩ := cutWords; enter_of _ rest h later_is reflect_is door_is
theorem liftsFinal_is : Try.prog.liftsFinal = false := let ⟨rest, h⟩ := cutWords; final_of _ rest h
theorem make_is : Try.prog.make = some .cut := let ⟨rest, h⟩ := cutWords; make_of _ rest h
theorem laidOut : laidOutB Try.prog = true := by kernel_rfl
theorem mapsRowed_is : mapsRowed Try.prog = true := by kernel_rfl
theorem stops_is : Try.prog.stops = [] := by kernel_rfl
theorem stopKnobs_is : Try.prog.stopKnobs = [] := by kernel_rfl
theorem plainKeys_is : Try.prog.plainKeys = false := by kernel_rfl
theorem stopsHeard_is : Try.prog.stopsHeard = true := by kernel_rfl
theorem ownNone : ownKnob Try.prog.godebug = none := by kernel_rfl
/-- What hangs on the row alone. -/
def lightFacts (P : Program) (f : FuncId) (fn : Func) (s : ChangeSpec) (c : OpenClaim) : Bool :=
  c.wf (OpenSpec.ofChange s) &&
  fn.params.all (P.readableRec ·) && namedTie P c.named s.vars &&
  (c.stops == []) && (c.knobs == []) &&
  (c.maps == (fn.params.toList ++ s.plain.varTypes P).any (P.mapsRec ·)) && (c.ifaces == (fn.params.toList ++ s.plain.varTypes P).any (P.ifacesRec ·)) && (c.mapsOut == P.mapsAmong fn.resultTypes.toList) &&
  (c.loops == (fn.params.toList ++ s.plain.varTypes P).any (P.loopsFrom ·)) && (c.wideKeys == (fn.params.toList ++ s.plain.varTypes P ++ fn.resultTypes.toList).any (P.wideKeysFrom ·)) &&
  s.vars.all (P.varReadable ·) && fn.resultTypes.all (fun t => P.readableRec t && decide (t < P.types.size)) && (c.ifacesOut == fn.resultTypes.toList.any (P.ifacesRec ·)) && (c.loopsOut == fn.resultTypes.toList.any (P.loopsFrom ·)) &&
  (c.plainKeys == false) && c.shortTexts.isNone && (c.lifted == false) && (some .cut == some c.make) && (c.kinds == (if c.domain.isEmpty then [] else fn.params.toList.map fun t => match P.underlying t with | some (.int k) => some k | _ => none)) && (c.pinned == c.pinnedBy) &&
  (c.veiled == (fn.params.toList ++ s.plain.varTypes P ++ fn.resultTypes.toList).any (P.veiledRec ·)) && c.veiledFits P fn.params.toList (fn.params.toList ++ s.plain.varTypes P ++ fn.resultTypes.toList)
theorem joined_of {f : FuncId} {fn : Func} {s : ChangeSpec} {c : OpenClaim} (h : lightFacts Try.prog f fn s c = true) (h1 : c.inPlace = Try.prog.inPlace f) (h2 : c.unfollowed = Try.prog.unfollowed f) (h3 : c.recurses = Try.prog.recurses f)
    (h4 : c.named = Try.prog.varsNamed f) : joinedFacts Try.prog f fn s c = true := by
  unfold lightFacts at h
  simp only [Bool.and_eq_true] at h
  obtain ⟨⟨⟨⟨⟨⟨⟨⟨⟨⟨⟨⟨⟨⟨⟨⟨⟨⟨⟨⟨⟨a1, a2⟩, a3⟩, a4⟩, a5⟩, a6⟩, a7⟩, a8⟩, a9⟩, a10⟩, a11⟩, a12⟩, a13⟩, a14⟩, a15⟩, a16⟩, a17⟩, a18⟩, a19⟩, a20⟩, a21⟩, a22⟩ := h
  have e1 : (c.inPlace == Try.prog.inPlace f) = true := by rw [h1]; exact beq_self_eq_true _
  have e2 : (c.unfollowed == Try.prog.unfollowed f) = true := by rw [h2]; exact beq_self_eq_true _
  have e3 : (c.recurses == Try.prog.recurses f) = true := by rw [h3]; exact beq_self_eq_true _
  have e4 : (c.named == Try.prog.varsNamed f) = true := by rw [h4]; exact beq_self_eq_true _
  unfold joinedFacts
  rw [laidOut, mapsRowed_is, stops_is, stopKnobs_is, plainKeys_is, stopsHeard_is, mayEnter_is, liftsFinal_is, make_is, e1, e2, e3, e4]
  simp only [a1, a2, a3, a4, a5, a6, a7, a8, a9, a10, a11, a12, a13, a14, a15, a16, a17, a18, a19, a20, a21, a22, Bool.and_true, Bool.true_and, beq_self_eq_true]
  exact a19
end Go.Proofs.Ytpgjpgecgibklaa
