/-
  NARROWER THAN 'FOR EVERY INPUT', by the rows' own cells (each row's printed sentence says how): ClassesTells: loops · ClassesSame: loops · ClassesMore: loops · ClassesOrder: loops · DfaSame: loops · NfaTells: loops · NfaTags: loops · TableRight: loops · NfaCap: loops · NfaFronts: loops · NfaOrder: loops · DfaTells: loops · DfaFound: loops · DfaCap: loops.
  DERIVED. THE GIVEN ROWS OF THIS SEAT. 35 by the template 'for every input the law returns true; each argument reads behind the call as it read before'; 0 by the template 'total and deterministic' (their statements: YtpgjpgecgibklaaTotals.lean).
  GIVEN WITH THE SEED: the statements are not yours to turn. If you find one false, say at which input.
  Laid BY PROGRAM, IN A SANDBOX (cutbox-rows.mjs): the forced cells as the released guide's own fill.sh prints them over the translation a5ef9fd9afe62597… (all of the seat's roots in one cut). By AI agents, Wed Nov 11 2026. No macro, syntax, notation, axiom, sorry.
-/
import Derived.Test.YtpgjpgecgibklaaChecked
import GoSem.Claim
import GoSem.ClaimJoined
import GoSem.ClaimMapViews
import Derived.JoinedTies
import Derived.KernelRfl
namespace Go.Proofs.Ytpgjpgecgibklaa
/- THE CELL 'sum', in the pinned program and in every row, IS THE sha256 OF THE DUMP (.gsa) THAT YtpgjpgecgibklaaProg.lean LOADS. Nothing in Lean hashes anything: it is a label: what it is worth is what the hold of that sum in a sandbox is worth. -/
noncomputable def Try.pinned : Pinned := { name := "ytpgjpgecgibklaa", sum := "a5ef9fd9afe62597d4974f3ff168d29024e4e0d6af480fa0e10353b75aa02b3e", checked := Try.checked }
namespace Rows
def none {H : Type} : Left H := { results := [], args := [] }

/-- 'frankinglaw06.ClassesTells': WHATEVER THE INPUT: true; the input reads as it did. -/
def classesTellsSpec : ChangeSpec := { name := "classesTells", fn := fun _ => fun
  | [d1, d2, d3, d4] => { results := [.lit (.bool true)], args := [d1, d2, d3, d4] }
  | _ => none }
def classesTellsRow : OpenClaim := { program := "ytpgjpgecgibklaa", sum := "a5ef9fd9afe62597d4974f3ff168d29024e4e0d6af480fa0e10353b75aa02b3e", func := "franking/frankinglaw06.ClassesTells", spec := "classesTells", recurses := true, loops := true, plainKeys := false, apart := false }
def ClassesTellsSaid : Prop := classesTellsRow.holds Try.pinned (OpenSpec.ofChange classesTellsSpec)

/-- ITS FALSE NEIGHBOUR: 'it returns false'. Refute it at one input. -/
def classesTellsWrong : ChangeSpec := { name := "classesTells", fn := fun _ => fun
  | [d1, d2, d3, d4] => { results := [.lit (.bool false)], args := [d1, d2, d3, d4] }
  | _ => none }
def ClassesTellsWrongFalsely : Prop := classesTellsRow.holds Try.pinned (OpenSpec.ofChange classesTellsWrong)

/-- 'frankinglaw06.ClassesSame': WHATEVER THE INPUT: true; the input reads as it did. -/
def classesSameSpec : ChangeSpec := { name := "classesSame", fn := fun _ => fun
  | [d1, d2, d3] => { results := [.lit (.bool true)], args := [d1, d2, d3] }
  | _ => none }
def classesSameRow : OpenClaim := { program := "ytpgjpgecgibklaa", sum := "a5ef9fd9afe62597d4974f3ff168d29024e4e0d6af480fa0e10353b75aa02b3e", func := "franking/frankinglaw06.ClassesSame", spec := "classesSame", recurses := true, loops := true, plainKeys := false, apart := false }
def ClassesSameSaid : Prop := classesSameRow.holds Try.pinned (OpenSpec.ofChange classesSameSpec)

/-- ITS FALSE NEIGHBOUR: 'it returns false'. Refute it at one input. -/
def classesSameWrong : ChangeSpec := { name := "classesSame", fn := fun _ => fun
  | [d1, d2, d3] => { results := [.lit (.bool false)], args := [d1, d2, d3] }
  | _ => none }
def ClassesSameWrongFalsely : Prop := classesSameRow.holds Try.pinned (OpenSpec.ofChange classesSameWrong)

/-- 'frankinglaw06.ClassesMore': WHATEVER THE INPUT: true; the input reads as it did. -/
def classesMoreSpec : ChangeSpec := { name := "classesMore", fn := fun _ => fun
  | [d1, d2, d3, d4] => { results := [.lit (.bool true)], args := [d1, d2, d3, d4] }
  | _ => none }
def classesMoreRow : OpenClaim := { program := "ytpgjpgecgibklaa", sum := "a5ef9fd9afe62597d4974f3ff168d29024e4e0d6af480fa0e10353b75aa02b3e", func := "franking/frankinglaw06.ClassesMore", spec := "classesMore", recurses := true, loops := true, plainKeys := false, apart := false }
def ClassesMoreSaid : Prop := classesMoreRow.holds Try.pinned (OpenSpec.ofChange classesMoreSpec)

/-- ITS FALSE NEIGHBOUR: 'it returns false'. Refute it at one input. -/
def classesMoreWrong : ChangeSpec := { name := "classesMore", fn := fun _ => fun
  | [d1, d2, d3, d4] => { results := [.lit (.bool false)], args := [d1, d2, d3, d4] }
  | _ => none }
def ClassesMoreWrongFalsely : Prop := classesMoreRow.holds Try.pinned (OpenSpec.ofChange classesMoreWrong)

/-- 'frankinglaw06.ClassesOrder': WHATEVER THE INPUT: true; the input reads as it did. -/
def classesOrderSpec : ChangeSpec := { name := "classesOrder", fn := fun _ => fun
  | [d1, d2] => { results := [.lit (.bool true)], args := [d1, d2] }
  | _ => none }
def classesOrderRow : OpenClaim := { program := "ytpgjpgecgibklaa", sum := "a5ef9fd9afe62597d4974f3ff168d29024e4e0d6af480fa0e10353b75aa02b3e", func := "franking/frankinglaw06.ClassesOrder", spec := "classesOrder", recurses := true, loops := true, plainKeys := false, apart := false }
def ClassesOrderSaid : Prop := classesOrderRow.holds Try.pinned (OpenSpec.ofChange classesOrderSpec)

/-- ITS FALSE NEIGHBOUR: 'it returns false'. Refute it at one input. -/
def classesOrderWrong : ChangeSpec := { name := "classesOrder", fn := fun _ => fun
  | [d1, d2] => { results := [.lit (.bool false)], args := [d1, d2] }
  | _ => none }
def ClassesOrderWrongFalsely : Prop := classesOrderRow.holds Try.pinned (OpenSpec.ofChange classesOrderWrong)

/-- 'frankinglaw06.ClassesTwo': WHATEVER THE INPUT: true; the input reads as it did. -/
def classesTwoSpec : ChangeSpec := { name := "classesTwo", fn := fun _ => fun
  | [d1, d2] => { results := [.lit (.bool true)], args := [d1, d2] }
  | _ => none }
def classesTwoRow : OpenClaim := { program := "ytpgjpgecgibklaa", sum := "a5ef9fd9afe62597d4974f3ff168d29024e4e0d6af480fa0e10353b75aa02b3e", func := "franking/frankinglaw06.ClassesTwo", spec := "classesTwo", recurses := true, plainKeys := false, apart := false }
def ClassesTwoSaid : Prop := classesTwoRow.holds Try.pinned (OpenSpec.ofChange classesTwoSpec)

/-- ITS FALSE NEIGHBOUR: 'it returns false'. Refute it at one input. -/
def classesTwoWrong : ChangeSpec := { name := "classesTwo", fn := fun _ => fun
  | [d1, d2] => { results := [.lit (.bool false)], args := [d1, d2] }
  | _ => none }
def ClassesTwoWrongFalsely : Prop := classesTwoRow.holds Try.pinned (OpenSpec.ofChange classesTwoWrong)

/-- 'frankinglaw10.TableTells': WHATEVER THE INPUT: true; the input reads as it did. -/
def tableTellsSpec : ChangeSpec := { name := "tableTells", fn := fun _ => fun
  | [d1, d2, d3, d4] => { results := [.lit (.bool true)], args := [d1, d2, d3, d4] }
  | _ => none }
def tableTellsRow : OpenClaim := { program := "ytpgjpgecgibklaa", sum := "a5ef9fd9afe62597d4974f3ff168d29024e4e0d6af480fa0e10353b75aa02b3e", func := "franking/frankinglaw10.TableTells", spec := "tableTells", plainKeys := false, apart := false }
def TableTellsSaid : Prop := tableTellsRow.holds Try.pinned (OpenSpec.ofChange tableTellsSpec)

/-- ITS FALSE NEIGHBOUR: 'it returns false'. Refute it at one input. -/
def tableTellsWrong : ChangeSpec := { name := "tableTells", fn := fun _ => fun
  | [d1, d2, d3, d4] => { results := [.lit (.bool false)], args := [d1, d2, d3, d4] }
  | _ => none }
def TableTellsWrongFalsely : Prop := tableTellsRow.holds Try.pinned (OpenSpec.ofChange tableTellsWrong)

/-- 'frankinglaw10.TableBack': WHATEVER THE INPUT: true; the input reads as it did. -/
def tableBackSpec : ChangeSpec := { name := "tableBack", fn := fun _ => fun
  | [d1, d2] => { results := [.lit (.bool true)], args := [d1, d2] }
  | _ => none }
def tableBackRow : OpenClaim := { program := "ytpgjpgecgibklaa", sum := "a5ef9fd9afe62597d4974f3ff168d29024e4e0d6af480fa0e10353b75aa02b3e", func := "franking/frankinglaw10.TableBack", spec := "tableBack", plainKeys := false, apart := false }
def TableBackSaid : Prop := tableBackRow.holds Try.pinned (OpenSpec.ofChange tableBackSpec)

/-- ITS FALSE NEIGHBOUR: 'it returns false'. Refute it at one input. -/
def tableBackWrong : ChangeSpec := { name := "tableBack", fn := fun _ => fun
  | [d1, d2] => { results := [.lit (.bool false)], args := [d1, d2] }
  | _ => none }
def TableBackWrongFalsely : Prop := tableBackRow.holds Try.pinned (OpenSpec.ofChange tableBackWrong)

/-- 'frankinglaw10.TableCut': WHATEVER THE INPUT: true; the input reads as it did. -/
def tableCutSpec : ChangeSpec := { name := "tableCut", fn := fun _ => fun
  | [d1, d2, d3, d4, d5] => { results := [.lit (.bool true)], args := [d1, d2, d3, d4, d5] }
  | _ => none }
def tableCutRow : OpenClaim := { program := "ytpgjpgecgibklaa", sum := "a5ef9fd9afe62597d4974f3ff168d29024e4e0d6af480fa0e10353b75aa02b3e", func := "franking/frankinglaw10.TableCut", spec := "tableCut", plainKeys := false, apart := false }
def TableCutSaid : Prop := tableCutRow.holds Try.pinned (OpenSpec.ofChange tableCutSpec)

/-- ITS FALSE NEIGHBOUR: 'it returns false'. Refute it at one input. -/
def tableCutWrong : ChangeSpec := { name := "tableCut", fn := fun _ => fun
  | [d1, d2, d3, d4, d5] => { results := [.lit (.bool false)], args := [d1, d2, d3, d4, d5] }
  | _ => none }
def TableCutWrongFalsely : Prop := tableCutRow.holds Try.pinned (OpenSpec.ofChange tableCutWrong)

/-- 'frankinglaw08.DfaSame': WHATEVER THE INPUT: true; the input reads as it did. -/
def dfaSameSpec : ChangeSpec := { name := "dfaSame", fn := fun _ => fun
  | [d1, d2] => { results := [.lit (.bool true)], args := [d1, d2] }
  | _ => none }
def dfaSameRow : OpenClaim := { program := "ytpgjpgecgibklaa", sum := "a5ef9fd9afe62597d4974f3ff168d29024e4e0d6af480fa0e10353b75aa02b3e", func := "franking/frankinglaw08.DfaSame", spec := "dfaSame", inPlace := ["internal/abi.NoEscape"], unfollowed := true, recurses := true, loops := true, plainKeys := false, apart := false }
def DfaSameSaid : Prop := dfaSameRow.holds Try.pinned (OpenSpec.ofChange dfaSameSpec)

/-- ITS FALSE NEIGHBOUR: 'it returns false'. Refute it at one input. -/
def dfaSameWrong : ChangeSpec := { name := "dfaSame", fn := fun _ => fun
  | [d1, d2] => { results := [.lit (.bool false)], args := [d1, d2] }
  | _ => none }
def DfaSameWrongFalsely : Prop := dfaSameRow.holds Try.pinned (OpenSpec.ofChange dfaSameWrong)

/-- 'frankinglaw10.TableStep': WHATEVER THE INPUT: true; the input reads as it did. -/
def tableStepSpec : ChangeSpec := { name := "tableStep", fn := fun _ => fun
  | [d1, d2, d3, d4] => { results := [.lit (.bool true)], args := [d1, d2, d3, d4] }
  | _ => none }
def tableStepRow : OpenClaim := { program := "ytpgjpgecgibklaa", sum := "a5ef9fd9afe62597d4974f3ff168d29024e4e0d6af480fa0e10353b75aa02b3e", func := "franking/frankinglaw10.TableStep", spec := "tableStep", plainKeys := false, apart := false }
def TableStepSaid : Prop := tableStepRow.holds Try.pinned (OpenSpec.ofChange tableStepSpec)

/-- ITS FALSE NEIGHBOUR: 'it returns false'. Refute it at one input. -/
def tableStepWrong : ChangeSpec := { name := "tableStep", fn := fun _ => fun
  | [d1, d2, d3, d4] => { results := [.lit (.bool false)], args := [d1, d2, d3, d4] }
  | _ => none }
def TableStepWrongFalsely : Prop := tableStepRow.holds Try.pinned (OpenSpec.ofChange tableStepWrong)

/-- 'frankinglaw07.NfaTells': WHATEVER THE INPUT: true; the input reads as it did. -/
def nfaTellsSpec : ChangeSpec := { name := "nfaTells", fn := fun _ => fun
  | [d1, d2, d3, d4] => { results := [.lit (.bool true)], args := [d1, d2, d3, d4] }
  | _ => none }
def nfaTellsRow : OpenClaim := { program := "ytpgjpgecgibklaa", sum := "a5ef9fd9afe62597d4974f3ff168d29024e4e0d6af480fa0e10353b75aa02b3e", func := "franking/frankinglaw07.NfaTells", spec := "nfaTells", unfollowed := true, recurses := true, loops := true, plainKeys := false, apart := false }
def NfaTellsSaid : Prop := nfaTellsRow.holds Try.pinned (OpenSpec.ofChange nfaTellsSpec)

/-- ITS FALSE NEIGHBOUR: 'it returns false'. Refute it at one input. -/
def nfaTellsWrong : ChangeSpec := { name := "nfaTells", fn := fun _ => fun
  | [d1, d2, d3, d4] => { results := [.lit (.bool false)], args := [d1, d2, d3, d4] }
  | _ => none }
def NfaTellsWrongFalsely : Prop := nfaTellsRow.holds Try.pinned (OpenSpec.ofChange nfaTellsWrong)

/-- 'frankinglaw07.NfaTags': WHATEVER THE INPUT: true; the input reads as it did. -/
def nfaTagsSpec : ChangeSpec := { name := "nfaTags", fn := fun _ => fun
  | [d1, d2] => { results := [.lit (.bool true)], args := [d1, d2] }
  | _ => none }
def nfaTagsRow : OpenClaim := { program := "ytpgjpgecgibklaa", sum := "a5ef9fd9afe62597d4974f3ff168d29024e4e0d6af480fa0e10353b75aa02b3e", func := "franking/frankinglaw07.NfaTags", spec := "nfaTags", unfollowed := true, recurses := true, loops := true, plainKeys := false, apart := false }
def NfaTagsSaid : Prop := nfaTagsRow.holds Try.pinned (OpenSpec.ofChange nfaTagsSpec)

/-- ITS FALSE NEIGHBOUR: 'it returns false'. Refute it at one input. -/
def nfaTagsWrong : ChangeSpec := { name := "nfaTags", fn := fun _ => fun
  | [d1, d2] => { results := [.lit (.bool false)], args := [d1, d2] }
  | _ => none }
def NfaTagsWrongFalsely : Prop := nfaTagsRow.holds Try.pinned (OpenSpec.ofChange nfaTagsWrong)

/-- 'frankinglaw10.TableRight': WHATEVER THE INPUT: true; the input reads as it did. -/
def tableRightSpec : ChangeSpec := { name := "tableRight", fn := fun _ => fun
  | [d1, d2, d3] => { results := [.lit (.bool true)], args := [d1, d2, d3] }
  | _ => none }
def tableRightRow : OpenClaim := { program := "ytpgjpgecgibklaa", sum := "a5ef9fd9afe62597d4974f3ff168d29024e4e0d6af480fa0e10353b75aa02b3e", func := "franking/frankinglaw10.TableRight", spec := "tableRight", inPlace := ["internal/abi.NoEscape"], unfollowed := true, recurses := true, loops := true, plainKeys := false, apart := false }
def TableRightSaid : Prop := tableRightRow.holds Try.pinned (OpenSpec.ofChange tableRightSpec)

/-- ITS FALSE NEIGHBOUR: 'it returns false'. Refute it at one input. -/
def tableRightWrong : ChangeSpec := { name := "tableRight", fn := fun _ => fun
  | [d1, d2, d3] => { results := [.lit (.bool false)], args := [d1, d2, d3] }
  | _ => none }
def TableRightWrongFalsely : Prop := tableRightRow.holds Try.pinned (OpenSpec.ofChange tableRightWrong)

/-- 'frankinglaw07.NfaCap': WHATEVER THE INPUT: true; the input reads as it did. -/
def nfaCapSpec : ChangeSpec := { name := "nfaCap", fn := fun _ => fun
  | [d1, d2] => { results := [.lit (.bool true)], args := [d1, d2] }
  | _ => none }
def nfaCapRow : OpenClaim := { program := "ytpgjpgecgibklaa", sum := "a5ef9fd9afe62597d4974f3ff168d29024e4e0d6af480fa0e10353b75aa02b3e", func := "franking/frankinglaw07.NfaCap", spec := "nfaCap", unfollowed := true, recurses := true, loops := true, plainKeys := false, apart := false }
def NfaCapSaid : Prop := nfaCapRow.holds Try.pinned (OpenSpec.ofChange nfaCapSpec)

/-- ITS FALSE NEIGHBOUR: 'it returns false'. Refute it at one input. -/
def nfaCapWrong : ChangeSpec := { name := "nfaCap", fn := fun _ => fun
  | [d1, d2] => { results := [.lit (.bool false)], args := [d1, d2] }
  | _ => none }
def NfaCapWrongFalsely : Prop := nfaCapRow.holds Try.pinned (OpenSpec.ofChange nfaCapWrong)

/-- 'frankinglaw07.NfaFronts': WHATEVER THE INPUT: true; the input reads as it did. -/
def nfaFrontsSpec : ChangeSpec := { name := "nfaFronts", fn := fun _ => fun
  | [d1, d2, d3, d4] => { results := [.lit (.bool true)], args := [d1, d2, d3, d4] }
  | _ => none }
def nfaFrontsRow : OpenClaim := { program := "ytpgjpgecgibklaa", sum := "a5ef9fd9afe62597d4974f3ff168d29024e4e0d6af480fa0e10353b75aa02b3e", func := "franking/frankinglaw07.NfaFronts", spec := "nfaFronts", unfollowed := true, recurses := true, loops := true, plainKeys := false, apart := false }
def NfaFrontsSaid : Prop := nfaFrontsRow.holds Try.pinned (OpenSpec.ofChange nfaFrontsSpec)

/-- ITS FALSE NEIGHBOUR: 'it returns false'. Refute it at one input. -/
def nfaFrontsWrong : ChangeSpec := { name := "nfaFronts", fn := fun _ => fun
  | [d1, d2, d3, d4] => { results := [.lit (.bool false)], args := [d1, d2, d3, d4] }
  | _ => none }
def NfaFrontsWrongFalsely : Prop := nfaFrontsRow.holds Try.pinned (OpenSpec.ofChange nfaFrontsWrong)

/-- 'frankinglaw07.NfaOrder': WHATEVER THE INPUT: true; the input reads as it did. -/
def nfaOrderSpec : ChangeSpec := { name := "nfaOrder", fn := fun _ => fun
  | [d1, d2] => { results := [.lit (.bool true)], args := [d1, d2] }
  | _ => none }
def nfaOrderRow : OpenClaim := { program := "ytpgjpgecgibklaa", sum := "a5ef9fd9afe62597d4974f3ff168d29024e4e0d6af480fa0e10353b75aa02b3e", func := "franking/frankinglaw07.NfaOrder", spec := "nfaOrder", unfollowed := true, recurses := true, loops := true, plainKeys := false, apart := false }
def NfaOrderSaid : Prop := nfaOrderRow.holds Try.pinned (OpenSpec.ofChange nfaOrderSpec)

/-- ITS FALSE NEIGHBOUR: 'it returns false'. Refute it at one input. -/
def nfaOrderWrong : ChangeSpec := { name := "nfaOrder", fn := fun _ => fun
  | [d1, d2] => { results := [.lit (.bool false)], args := [d1, d2] }
  | _ => none }
def NfaOrderWrongFalsely : Prop := nfaOrderRow.holds Try.pinned (OpenSpec.ofChange nfaOrderWrong)

/-- 'frankinglaw09.LeastTells': WHATEVER THE INPUT: true; the input reads as it did. -/
def leastTellsSpec : ChangeSpec := { name := "leastTells", fn := fun _ => fun
  | [d1, d2, d3] => { results := [.lit (.bool true)], args := [d1, d2, d3] }
  | _ => none }
def leastTellsRow : OpenClaim := { program := "ytpgjpgecgibklaa", sum := "a5ef9fd9afe62597d4974f3ff168d29024e4e0d6af480fa0e10353b75aa02b3e", func := "franking/frankinglaw09.LeastTells", spec := "leastTells", plainKeys := false, apart := false }
def LeastTellsSaid : Prop := leastTellsRow.holds Try.pinned (OpenSpec.ofChange leastTellsSpec)

/-- ITS FALSE NEIGHBOUR: 'it returns false'. Refute it at one input. -/
def leastTellsWrong : ChangeSpec := { name := "leastTells", fn := fun _ => fun
  | [d1, d2, d3] => { results := [.lit (.bool false)], args := [d1, d2, d3] }
  | _ => none }
def LeastTellsWrongFalsely : Prop := leastTellsRow.holds Try.pinned (OpenSpec.ofChange leastTellsWrong)

/-- 'frankinglaw09.LeastApart': WHATEVER THE INPUT: true; the input reads as it did. -/
def leastApartSpec : ChangeSpec := { name := "leastApart", fn := fun _ => fun
  | [d1, d2, d3] => { results := [.lit (.bool true)], args := [d1, d2, d3] }
  | _ => none }
def leastApartRow : OpenClaim := { program := "ytpgjpgecgibklaa", sum := "a5ef9fd9afe62597d4974f3ff168d29024e4e0d6af480fa0e10353b75aa02b3e", func := "franking/frankinglaw09.LeastApart", spec := "leastApart", plainKeys := false, apart := false }
def LeastApartSaid : Prop := leastApartRow.holds Try.pinned (OpenSpec.ofChange leastApartSpec)

/-- ITS FALSE NEIGHBOUR: 'it returns false'. Refute it at one input. -/
def leastApartWrong : ChangeSpec := { name := "leastApart", fn := fun _ => fun
  | [d1, d2, d3] => { results := [.lit (.bool false)], args := [d1, d2, d3] }
  | _ => none }
def LeastApartWrongFalsely : Prop := leastApartRow.holds Try.pinned (OpenSpec.ofChange leastApartWrong)

/-- 'frankinglaw09.LeastNumbers': WHATEVER THE INPUT: true; the input reads as it did. -/
def leastNumbersSpec : ChangeSpec := { name := "leastNumbers", fn := fun _ => fun
  | [d1, d2, d3] => { results := [.lit (.bool true)], args := [d1, d2, d3] }
  | _ => none }
def leastNumbersRow : OpenClaim := { program := "ytpgjpgecgibklaa", sum := "a5ef9fd9afe62597d4974f3ff168d29024e4e0d6af480fa0e10353b75aa02b3e", func := "franking/frankinglaw09.LeastNumbers", spec := "leastNumbers", plainKeys := false, apart := false }
def LeastNumbersSaid : Prop := leastNumbersRow.holds Try.pinned (OpenSpec.ofChange leastNumbersSpec)

/-- ITS FALSE NEIGHBOUR: 'it returns false'. Refute it at one input. -/
def leastNumbersWrong : ChangeSpec := { name := "leastNumbers", fn := fun _ => fun
  | [d1, d2, d3] => { results := [.lit (.bool false)], args := [d1, d2, d3] }
  | _ => none }
def LeastNumbersWrongFalsely : Prop := leastNumbersRow.holds Try.pinned (OpenSpec.ofChange leastNumbersWrong)

/-- 'frankinglaw09.LeastAlike': WHATEVER THE INPUT: true; the input reads as it did. -/
def leastAlikeSpec : ChangeSpec := { name := "leastAlike", fn := fun _ => fun
  | [d1, d2, d3, d4, d5] => { results := [.lit (.bool true)], args := [d1, d2, d3, d4, d5] }
  | _ => none }
def leastAlikeRow : OpenClaim := { program := "ytpgjpgecgibklaa", sum := "a5ef9fd9afe62597d4974f3ff168d29024e4e0d6af480fa0e10353b75aa02b3e", func := "franking/frankinglaw09.LeastAlike", spec := "leastAlike", unfollowed := true, recurses := true, plainKeys := false, apart := false }
def LeastAlikeSaid : Prop := leastAlikeRow.holds Try.pinned (OpenSpec.ofChange leastAlikeSpec)

/-- ITS FALSE NEIGHBOUR: 'it returns false'. Refute it at one input. -/
def leastAlikeWrong : ChangeSpec := { name := "leastAlike", fn := fun _ => fun
  | [d1, d2, d3, d4, d5] => { results := [.lit (.bool false)], args := [d1, d2, d3, d4, d5] }
  | _ => none }
def LeastAlikeWrongFalsely : Prop := leastAlikeRow.holds Try.pinned (OpenSpec.ofChange leastAlikeWrong)

/-- 'frankinglaw20.DiskFront': WHATEVER THE INPUT: true; the input reads as it did. -/
def diskFrontSpec : ChangeSpec := { name := "diskFront", fn := fun _ => fun
  | [d1, d2, d3, d4] => { results := [.lit (.bool true)], args := [d1, d2, d3, d4] }
  | _ => none }
def diskFrontRow : OpenClaim := { program := "ytpgjpgecgibklaa", sum := "a5ef9fd9afe62597d4974f3ff168d29024e4e0d6af480fa0e10353b75aa02b3e", func := "franking/frankinglaw20.DiskFront", spec := "diskFront", inPlace := ["internal/bytealg.MakeNoZero"], plainKeys := false, apart := false }
def DiskFrontSaid : Prop := diskFrontRow.holds Try.pinned (OpenSpec.ofChange diskFrontSpec)

/-- ITS FALSE NEIGHBOUR: 'it returns false'. Refute it at one input. -/
def diskFrontWrong : ChangeSpec := { name := "diskFront", fn := fun _ => fun
  | [d1, d2, d3, d4] => { results := [.lit (.bool false)], args := [d1, d2, d3, d4] }
  | _ => none }
def DiskFrontWrongFalsely : Prop := diskFrontRow.holds Try.pinned (OpenSpec.ofChange diskFrontWrong)

/-- 'frankinglaw20.DiskWhole': WHATEVER THE INPUT: true; the input reads as it did. -/
def diskWholeSpec : ChangeSpec := { name := "diskWhole", fn := fun _ => fun
  | [d1, d2, d3, d4, d5] => { results := [.lit (.bool true)], args := [d1, d2, d3, d4, d5] }
  | _ => none }
def diskWholeRow : OpenClaim := { program := "ytpgjpgecgibklaa", sum := "a5ef9fd9afe62597d4974f3ff168d29024e4e0d6af480fa0e10353b75aa02b3e", func := "franking/frankinglaw20.DiskWhole", spec := "diskWhole", inPlace := ["internal/bytealg.MakeNoZero"], plainKeys := false, apart := false }
def DiskWholeSaid : Prop := diskWholeRow.holds Try.pinned (OpenSpec.ofChange diskWholeSpec)

/-- ITS FALSE NEIGHBOUR: 'it returns false'. Refute it at one input. -/
def diskWholeWrong : ChangeSpec := { name := "diskWhole", fn := fun _ => fun
  | [d1, d2, d3, d4, d5] => { results := [.lit (.bool false)], args := [d1, d2, d3, d4, d5] }
  | _ => none }
def DiskWholeWrongFalsely : Prop := diskWholeRow.holds Try.pinned (OpenSpec.ofChange diskWholeWrong)

/-- 'frankinglaw20.DiskArmed': WHATEVER THE INPUT: true; the input reads as it did. -/
def diskArmedSpec : ChangeSpec := { name := "diskArmed", fn := fun _ => fun
  | [d1, d2] => { results := [.lit (.bool true)], args := [d1, d2] }
  | _ => none }
def diskArmedRow : OpenClaim := { program := "ytpgjpgecgibklaa", sum := "a5ef9fd9afe62597d4974f3ff168d29024e4e0d6af480fa0e10353b75aa02b3e", func := "franking/frankinglaw20.DiskArmed", spec := "diskArmed", inPlace := ["internal/bytealg.MakeNoZero"], plainKeys := false, apart := false }
def DiskArmedSaid : Prop := diskArmedRow.holds Try.pinned (OpenSpec.ofChange diskArmedSpec)

/-- ITS FALSE NEIGHBOUR: 'it returns false'. Refute it at one input. -/
def diskArmedWrong : ChangeSpec := { name := "diskArmed", fn := fun _ => fun
  | [d1, d2] => { results := [.lit (.bool false)], args := [d1, d2] }
  | _ => none }
def DiskArmedWrongFalsely : Prop := diskArmedRow.holds Try.pinned (OpenSpec.ofChange diskArmedWrong)

/-- 'frankinglaw09.LeastSame': WHATEVER THE INPUT: true; the input reads as it did. -/
def leastSameSpec : ChangeSpec := { name := "leastSame", fn := fun _ => fun
  | [d1, d2] => { results := [.lit (.bool true)], args := [d1, d2] }
  | _ => none }
def leastSameRow : OpenClaim := { program := "ytpgjpgecgibklaa", sum := "a5ef9fd9afe62597d4974f3ff168d29024e4e0d6af480fa0e10353b75aa02b3e", func := "franking/frankinglaw09.LeastSame", spec := "leastSame", plainKeys := false, apart := false }
def LeastSameSaid : Prop := leastSameRow.holds Try.pinned (OpenSpec.ofChange leastSameSpec)

/-- ITS FALSE NEIGHBOUR: 'it returns false'. Refute it at one input. -/
def leastSameWrong : ChangeSpec := { name := "leastSame", fn := fun _ => fun
  | [d1, d2] => { results := [.lit (.bool false)], args := [d1, d2] }
  | _ => none }
def LeastSameWrongFalsely : Prop := leastSameRow.holds Try.pinned (OpenSpec.ofChange leastSameWrong)

/-- 'frankinglaw20.DiskTells': WHATEVER THE INPUT: true; the input reads as it did. -/
def diskTellsSpec : ChangeSpec := { name := "diskTells", fn := fun _ => fun
  | [d1, d2] => { results := [.lit (.bool true)], args := [d1, d2] }
  | _ => none }
def diskTellsRow : OpenClaim := { program := "ytpgjpgecgibklaa", sum := "a5ef9fd9afe62597d4974f3ff168d29024e4e0d6af480fa0e10353b75aa02b3e", func := "franking/frankinglaw20.DiskTells", spec := "diskTells", inPlace := ["internal/bytealg.MakeNoZero"], plainKeys := false, apart := false }
def DiskTellsSaid : Prop := diskTellsRow.holds Try.pinned (OpenSpec.ofChange diskTellsSpec)

/-- ITS FALSE NEIGHBOUR: 'it returns false'. Refute it at one input. -/
def diskTellsWrong : ChangeSpec := { name := "diskTells", fn := fun _ => fun
  | [d1, d2] => { results := [.lit (.bool false)], args := [d1, d2] }
  | _ => none }
def DiskTellsWrongFalsely : Prop := diskTellsRow.holds Try.pinned (OpenSpec.ofChange diskTellsWrong)

/-- 'frankinglaw20.DiskNone': WHATEVER THE INPUT: true; the input reads as it did. -/
def diskNoneSpec : ChangeSpec := { name := "diskNone", fn := fun _ => fun
  | [d1, d2, d3] => { results := [.lit (.bool true)], args := [d1, d2, d3] }
  | _ => none }
def diskNoneRow : OpenClaim := { program := "ytpgjpgecgibklaa", sum := "a5ef9fd9afe62597d4974f3ff168d29024e4e0d6af480fa0e10353b75aa02b3e", func := "franking/frankinglaw20.DiskNone", spec := "diskNone", inPlace := ["internal/bytealg.MakeNoZero"], plainKeys := false, apart := false }
def DiskNoneSaid : Prop := diskNoneRow.holds Try.pinned (OpenSpec.ofChange diskNoneSpec)

/-- ITS FALSE NEIGHBOUR: 'it returns false'. Refute it at one input. -/
def diskNoneWrong : ChangeSpec := { name := "diskNone", fn := fun _ => fun
  | [d1, d2, d3] => { results := [.lit (.bool false)], args := [d1, d2, d3] }
  | _ => none }
def DiskNoneWrongFalsely : Prop := diskNoneRow.holds Try.pinned (OpenSpec.ofChange diskNoneWrong)

/-- 'frankinglaw21.JournalRot': WHATEVER THE INPUT: true; the input reads as it did. -/
def journalRotSpec : ChangeSpec := { name := "journalRot", fn := fun _ => fun
  | [d1, d2, d3, d4, d5] => { results := [.lit (.bool true)], args := [d1, d2, d3, d4, d5] }
  | _ => none }
def journalRotRow : OpenClaim := { program := "ytpgjpgecgibklaa", sum := "a5ef9fd9afe62597d4974f3ff168d29024e4e0d6af480fa0e10353b75aa02b3e", func := "franking/frankinglaw21.JournalRot", spec := "journalRot", inPlace := ["internal/bytealg.MakeNoZero"], unfollowed := true, recurses := true, plainKeys := false, apart := false }
def JournalRotSaid : Prop := journalRotRow.holds Try.pinned (OpenSpec.ofChange journalRotSpec)

/-- ITS FALSE NEIGHBOUR: 'it returns false'. Refute it at one input. -/
def journalRotWrong : ChangeSpec := { name := "journalRot", fn := fun _ => fun
  | [d1, d2, d3, d4, d5] => { results := [.lit (.bool false)], args := [d1, d2, d3, d4, d5] }
  | _ => none }
def JournalRotWrongFalsely : Prop := journalRotRow.holds Try.pinned (OpenSpec.ofChange journalRotWrong)

/-- 'frankinglaw21.JournalCrash': WHATEVER THE INPUT: true; the input reads as it did. -/
def journalCrashSpec : ChangeSpec := { name := "journalCrash", fn := fun _ => fun
  | [d1, d2, d3] => { results := [.lit (.bool true)], args := [d1, d2, d3] }
  | _ => none }
def journalCrashRow : OpenClaim := { program := "ytpgjpgecgibklaa", sum := "a5ef9fd9afe62597d4974f3ff168d29024e4e0d6af480fa0e10353b75aa02b3e", func := "franking/frankinglaw21.JournalCrash", spec := "journalCrash", inPlace := ["internal/bytealg.MakeNoZero"], unfollowed := true, recurses := true, plainKeys := false, apart := false }
def JournalCrashSaid : Prop := journalCrashRow.holds Try.pinned (OpenSpec.ofChange journalCrashSpec)

/-- ITS FALSE NEIGHBOUR: 'it returns false'. Refute it at one input. -/
def journalCrashWrong : ChangeSpec := { name := "journalCrash", fn := fun _ => fun
  | [d1, d2, d3] => { results := [.lit (.bool false)], args := [d1, d2, d3] }
  | _ => none }
def JournalCrashWrongFalsely : Prop := journalCrashRow.holds Try.pinned (OpenSpec.ofChange journalCrashWrong)

/-- 'frankinglaw21.JournalRoom': WHATEVER THE INPUT: true; the input reads as it did. -/
def journalRoomSpec : ChangeSpec := { name := "journalRoom", fn := fun _ => fun
  | [d1, d2] => { results := [.lit (.bool true)], args := [d1, d2] }
  | _ => none }
def journalRoomRow : OpenClaim := { program := "ytpgjpgecgibklaa", sum := "a5ef9fd9afe62597d4974f3ff168d29024e4e0d6af480fa0e10353b75aa02b3e", func := "franking/frankinglaw21.JournalRoom", spec := "journalRoom", inPlace := ["internal/bytealg.MakeNoZero"], unfollowed := true, recurses := true, plainKeys := false, apart := false }
def JournalRoomSaid : Prop := journalRoomRow.holds Try.pinned (OpenSpec.ofChange journalRoomSpec)

/-- ITS FALSE NEIGHBOUR: 'it returns false'. Refute it at one input. -/
def journalRoomWrong : ChangeSpec := { name := "journalRoom", fn := fun _ => fun
  | [d1, d2] => { results := [.lit (.bool false)], args := [d1, d2] }
  | _ => none }
def JournalRoomWrongFalsely : Prop := journalRoomRow.holds Try.pinned (OpenSpec.ofChange journalRoomWrong)

/-- 'frankinglaw08.DfaTells': WHATEVER THE INPUT: true; the input reads as it did. -/
def dfaTellsSpec : ChangeSpec := { name := "dfaTells", fn := fun _ => fun
  | [d1, d2, d3, d4, d5, d6] => { results := [.lit (.bool true)], args := [d1, d2, d3, d4, d5, d6] }
  | _ => none }
def dfaTellsRow : OpenClaim := { program := "ytpgjpgecgibklaa", sum := "a5ef9fd9afe62597d4974f3ff168d29024e4e0d6af480fa0e10353b75aa02b3e", func := "franking/frankinglaw08.DfaTells", spec := "dfaTells", inPlace := ["internal/abi.NoEscape"], unfollowed := true, recurses := true, loops := true, plainKeys := false, apart := false }
def DfaTellsSaid : Prop := dfaTellsRow.holds Try.pinned (OpenSpec.ofChange dfaTellsSpec)

/-- ITS FALSE NEIGHBOUR: 'it returns false'. Refute it at one input. -/
def dfaTellsWrong : ChangeSpec := { name := "dfaTells", fn := fun _ => fun
  | [d1, d2, d3, d4, d5, d6] => { results := [.lit (.bool false)], args := [d1, d2, d3, d4, d5, d6] }
  | _ => none }
def DfaTellsWrongFalsely : Prop := dfaTellsRow.holds Try.pinned (OpenSpec.ofChange dfaTellsWrong)

/-- 'frankinglaw08.DfaFound': WHATEVER THE INPUT: true; the input reads as it did. -/
def dfaFoundSpec : ChangeSpec := { name := "dfaFound", fn := fun _ => fun
  | [d1, d2] => { results := [.lit (.bool true)], args := [d1, d2] }
  | _ => none }
def dfaFoundRow : OpenClaim := { program := "ytpgjpgecgibklaa", sum := "a5ef9fd9afe62597d4974f3ff168d29024e4e0d6af480fa0e10353b75aa02b3e", func := "franking/frankinglaw08.DfaFound", spec := "dfaFound", inPlace := ["internal/abi.NoEscape"], unfollowed := true, recurses := true, loops := true, plainKeys := false, apart := false }
def DfaFoundSaid : Prop := dfaFoundRow.holds Try.pinned (OpenSpec.ofChange dfaFoundSpec)

/-- ITS FALSE NEIGHBOUR: 'it returns false'. Refute it at one input. -/
def dfaFoundWrong : ChangeSpec := { name := "dfaFound", fn := fun _ => fun
  | [d1, d2] => { results := [.lit (.bool false)], args := [d1, d2] }
  | _ => none }
def DfaFoundWrongFalsely : Prop := dfaFoundRow.holds Try.pinned (OpenSpec.ofChange dfaFoundWrong)

/-- 'frankinglaw08.DfaCap': WHATEVER THE INPUT: true; the input reads as it did. -/
def dfaCapSpec : ChangeSpec := { name := "dfaCap", fn := fun _ => fun
  | [d1, d2] => { results := [.lit (.bool true)], args := [d1, d2] }
  | _ => none }
def dfaCapRow : OpenClaim := { program := "ytpgjpgecgibklaa", sum := "a5ef9fd9afe62597d4974f3ff168d29024e4e0d6af480fa0e10353b75aa02b3e", func := "franking/frankinglaw08.DfaCap", spec := "dfaCap", inPlace := ["internal/abi.NoEscape"], unfollowed := true, recurses := true, loops := true, plainKeys := false, apart := false }
def DfaCapSaid : Prop := dfaCapRow.holds Try.pinned (OpenSpec.ofChange dfaCapSpec)

/-- ITS FALSE NEIGHBOUR: 'it returns false'. Refute it at one input. -/
def dfaCapWrong : ChangeSpec := { name := "dfaCap", fn := fun _ => fun
  | [d1, d2] => { results := [.lit (.bool false)], args := [d1, d2] }
  | _ => none }
def DfaCapWrongFalsely : Prop := dfaCapRow.holds Try.pinned (OpenSpec.ofChange dfaCapWrong)

/-- 'frankinglaw08.DfaRuns': WHATEVER THE INPUT: true; the input reads as it did. -/
def dfaRunsSpec : ChangeSpec := { name := "dfaRuns", fn := fun _ => fun
  | [d1, d2, d3, d4] => { results := [.lit (.bool true)], args := [d1, d2, d3, d4] }
  | _ => none }
def dfaRunsRow : OpenClaim := { program := "ytpgjpgecgibklaa", sum := "a5ef9fd9afe62597d4974f3ff168d29024e4e0d6af480fa0e10353b75aa02b3e", func := "franking/frankinglaw08.DfaRuns", spec := "dfaRuns", inPlace := ["internal/abi.NoEscape"], unfollowed := true, recurses := true, plainKeys := false, apart := false }
def DfaRunsSaid : Prop := dfaRunsRow.holds Try.pinned (OpenSpec.ofChange dfaRunsSpec)

/-- ITS FALSE NEIGHBOUR: 'it returns false'. Refute it at one input. -/
def dfaRunsWrong : ChangeSpec := { name := "dfaRuns", fn := fun _ => fun
  | [d1, d2, d3, d4] => { results := [.lit (.bool false)], args := [d1, d2, d3, d4] }
  | _ => none }
def DfaRunsWrongFalsely : Prop := dfaRunsRow.holds Try.pinned (OpenSpec.ofChange dfaRunsWrong)

/-- 'frankinglaw21.JournalAnew': WHATEVER THE INPUT: true; the input reads as it did. -/
def journalAnewSpec : ChangeSpec := { name := "journalAnew", fn := fun _ => fun
  | [d1, d2, d3, d4, d5, d6] => { results := [.lit (.bool true)], args := [d1, d2, d3, d4, d5, d6] }
  | _ => none }
def journalAnewRow : OpenClaim := { program := "ytpgjpgecgibklaa", sum := "a5ef9fd9afe62597d4974f3ff168d29024e4e0d6af480fa0e10353b75aa02b3e", func := "franking/frankinglaw21.JournalAnew", spec := "journalAnew", inPlace := ["internal/bytealg.MakeNoZero"], unfollowed := true, recurses := true, plainKeys := false, apart := false }
def JournalAnewSaid : Prop := journalAnewRow.holds Try.pinned (OpenSpec.ofChange journalAnewSpec)

/-- ITS FALSE NEIGHBOUR: 'it returns false'. Refute it at one input. -/
def journalAnewWrong : ChangeSpec := { name := "journalAnew", fn := fun _ => fun
  | [d1, d2, d3, d4, d5, d6] => { results := [.lit (.bool false)], args := [d1, d2, d3, d4, d5, d6] }
  | _ => none }
def JournalAnewWrongFalsely : Prop := journalAnewRow.holds Try.pinned (OpenSpec.ofChange journalAnewWrong)

/-- 'frankinglaw21.JournalTells': WHATEVER THE INPUT: true; the input reads as it did. -/
def journalTellsSpec : ChangeSpec := { name := "journalTells", fn := fun _ => fun
  | [d1, d2, d3] => { results := [.lit (.bool true)], args := [d1, d2, d3] }
  | _ => none }
def journalTellsRow : OpenClaim := { program := "ytpgjpgecgibklaa", sum := "a5ef9fd9afe62597d4974f3ff168d29024e4e0d6af480fa0e10353b75aa02b3e", func := "franking/frankinglaw21.JournalTells", spec := "journalTells", inPlace := ["internal/bytealg.MakeNoZero"], unfollowed := true, recurses := true, plainKeys := false, apart := false }
def JournalTellsSaid : Prop := journalTellsRow.holds Try.pinned (OpenSpec.ofChange journalTellsSpec)

/-- ITS FALSE NEIGHBOUR: 'it returns false'. Refute it at one input. -/
def journalTellsWrong : ChangeSpec := { name := "journalTells", fn := fun _ => fun
  | [d1, d2, d3] => { results := [.lit (.bool false)], args := [d1, d2, d3] }
  | _ => none }
def JournalTellsWrongFalsely : Prop := journalTellsRow.holds Try.pinned (OpenSpec.ofChange journalTellsWrong)

/- THE SECOND FORM. 'bulk': how many values and letters a reading holds, each counted each time it is reached (what is shared counts as often as it is met; a slice's spare places count too). A statement '..UptoSaid' is the law's where the arguments, and the package variables that the reading takes, are together of bulk at most 1048576: NARROWER than '..Said'. Prove '..Said' where nothing that the law and all that it calls make is longer than what came in: it says more and counts as full. Else prove '..UptoSaid'. A law counts once. -/
mutual
def uptoBulk {H : Type} : DataW H → Nat
  | .lit (.string bytes) => bytes.length + 1
  | .lit _ => 1
  | .nil => 1
  | .ptr d => uptoBulk d + 1
  | .slice elems spare => uptoBulkAll elems + uptoBulkAll spare + 1
  | .agg parts => uptoBulkAll parts + 1
  | .iface _ d => uptoBulk d + 1
  | .map entries => uptoBulkEntries entries + 1
  | .held _ => 1
def uptoBulkAll {H : Type} : List (DataW H) → Nat
  | [] => 0
  | d :: r => uptoBulk d + uptoBulkAll r
def uptoBulkEntries {H : Type} : List (Lit × DataW H) → Nat
  | [] => 0
  | x :: r => uptoBulkEntry x + uptoBulkEntries r
def uptoBulkEntry {H : Type} : Lit × DataW H → Nat
  | (.string bytes, d) => bytes.length + uptoBulk d + 1
  | (_, d) => uptoBulk d + 1
 end
def uptoSmall : (H : Type) → List (DataW H) → Bool := fun _ ds => decide (uptoBulkAll ds ≤ 1048576)
def OpenSpec.upto (s : _root_.Go.ChangeSpec) : _root_.Go.OpenSpec := { _root_.Go.OpenSpec.ofChange s with cond := some uptoSmall }

/-- 'frankinglaw06.ClassesTells', WHERE WHAT IT READS IS OF BULK AT MOST 1048576: true; the input reads as it did. -/
def classesTellsUptoRow : OpenClaim := { program := "ytpgjpgecgibklaa", sum := "a5ef9fd9afe62597d4974f3ff168d29024e4e0d6af480fa0e10353b75aa02b3e", func := "franking/frankinglaw06.ClassesTells", spec := "classesTells", recurses := true, loops := true, plainKeys := false, apart := false, narrowed := true }
def ClassesTellsUptoSaid : Prop := classesTellsUptoRow.holds Try.pinned (OpenSpec.upto classesTellsSpec)

/-- 'frankinglaw06.ClassesSame', WHERE WHAT IT READS IS OF BULK AT MOST 1048576: true; the input reads as it did. -/
def classesSameUptoRow : OpenClaim := { program := "ytpgjpgecgibklaa", sum := "a5ef9fd9afe62597d4974f3ff168d29024e4e0d6af480fa0e10353b75aa02b3e", func := "franking/frankinglaw06.ClassesSame", spec := "classesSame", recurses := true, loops := true, plainKeys := false, apart := false, narrowed := true }
def ClassesSameUptoSaid : Prop := classesSameUptoRow.holds Try.pinned (OpenSpec.upto classesSameSpec)

/-- 'frankinglaw06.ClassesMore', WHERE WHAT IT READS IS OF BULK AT MOST 1048576: true; the input reads as it did. -/
def classesMoreUptoRow : OpenClaim := { program := "ytpgjpgecgibklaa", sum := "a5ef9fd9afe62597d4974f3ff168d29024e4e0d6af480fa0e10353b75aa02b3e", func := "franking/frankinglaw06.ClassesMore", spec := "classesMore", recurses := true, loops := true, plainKeys := false, apart := false, narrowed := true }
def ClassesMoreUptoSaid : Prop := classesMoreUptoRow.holds Try.pinned (OpenSpec.upto classesMoreSpec)

/-- 'frankinglaw06.ClassesOrder', WHERE WHAT IT READS IS OF BULK AT MOST 1048576: true; the input reads as it did. -/
def classesOrderUptoRow : OpenClaim := { program := "ytpgjpgecgibklaa", sum := "a5ef9fd9afe62597d4974f3ff168d29024e4e0d6af480fa0e10353b75aa02b3e", func := "franking/frankinglaw06.ClassesOrder", spec := "classesOrder", recurses := true, loops := true, plainKeys := false, apart := false, narrowed := true }
def ClassesOrderUptoSaid : Prop := classesOrderUptoRow.holds Try.pinned (OpenSpec.upto classesOrderSpec)

/-- 'frankinglaw06.ClassesTwo', WHERE WHAT IT READS IS OF BULK AT MOST 1048576: true; the input reads as it did. -/
def classesTwoUptoRow : OpenClaim := { program := "ytpgjpgecgibklaa", sum := "a5ef9fd9afe62597d4974f3ff168d29024e4e0d6af480fa0e10353b75aa02b3e", func := "franking/frankinglaw06.ClassesTwo", spec := "classesTwo", recurses := true, plainKeys := false, apart := false, narrowed := true }
def ClassesTwoUptoSaid : Prop := classesTwoUptoRow.holds Try.pinned (OpenSpec.upto classesTwoSpec)

/-- 'frankinglaw10.TableTells', WHERE WHAT IT READS IS OF BULK AT MOST 1048576: true; the input reads as it did. -/
def tableTellsUptoRow : OpenClaim := { program := "ytpgjpgecgibklaa", sum := "a5ef9fd9afe62597d4974f3ff168d29024e4e0d6af480fa0e10353b75aa02b3e", func := "franking/frankinglaw10.TableTells", spec := "tableTells", plainKeys := false, apart := false, narrowed := true }
def TableTellsUptoSaid : Prop := tableTellsUptoRow.holds Try.pinned (OpenSpec.upto tableTellsSpec)

/-- 'frankinglaw10.TableBack', WHERE WHAT IT READS IS OF BULK AT MOST 1048576: true; the input reads as it did. -/
def tableBackUptoRow : OpenClaim := { program := "ytpgjpgecgibklaa", sum := "a5ef9fd9afe62597d4974f3ff168d29024e4e0d6af480fa0e10353b75aa02b3e", func := "franking/frankinglaw10.TableBack", spec := "tableBack", plainKeys := false, apart := false, narrowed := true }
def TableBackUptoSaid : Prop := tableBackUptoRow.holds Try.pinned (OpenSpec.upto tableBackSpec)

/-- 'frankinglaw10.TableCut', WHERE WHAT IT READS IS OF BULK AT MOST 1048576: true; the input reads as it did. -/
def tableCutUptoRow : OpenClaim := { program := "ytpgjpgecgibklaa", sum := "a5ef9fd9afe62597d4974f3ff168d29024e4e0d6af480fa0e10353b75aa02b3e", func := "franking/frankinglaw10.TableCut", spec := "tableCut", plainKeys := false, apart := false, narrowed := true }
def TableCutUptoSaid : Prop := tableCutUptoRow.holds Try.pinned (OpenSpec.upto tableCutSpec)

/-- 'frankinglaw08.DfaSame', WHERE WHAT IT READS IS OF BULK AT MOST 1048576: true; the input reads as it did. -/
def dfaSameUptoRow : OpenClaim := { program := "ytpgjpgecgibklaa", sum := "a5ef9fd9afe62597d4974f3ff168d29024e4e0d6af480fa0e10353b75aa02b3e", func := "franking/frankinglaw08.DfaSame", spec := "dfaSame", inPlace := ["internal/abi.NoEscape"], unfollowed := true, recurses := true, loops := true, plainKeys := false, apart := false, narrowed := true }
def DfaSameUptoSaid : Prop := dfaSameUptoRow.holds Try.pinned (OpenSpec.upto dfaSameSpec)

/-- 'frankinglaw10.TableStep', WHERE WHAT IT READS IS OF BULK AT MOST 1048576: true; the input reads as it did. -/
def tableStepUptoRow : OpenClaim := { program := "ytpgjpgecgibklaa", sum := "a5ef9fd9afe62597d4974f3ff168d29024e4e0d6af480fa0e10353b75aa02b3e", func := "franking/frankinglaw10.TableStep", spec := "tableStep", plainKeys := false, apart := false, narrowed := true }
def TableStepUptoSaid : Prop := tableStepUptoRow.holds Try.pinned (OpenSpec.upto tableStepSpec)

/-- 'frankinglaw07.NfaTells', WHERE WHAT IT READS IS OF BULK AT MOST 1048576: true; the input reads as it did. -/
def nfaTellsUptoRow : OpenClaim := { program := "ytpgjpgecgibklaa", sum := "a5ef9fd9afe62597d4974f3ff168d29024e4e0d6af480fa0e10353b75aa02b3e", func := "franking/frankinglaw07.NfaTells", spec := "nfaTells", unfollowed := true, recurses := true, loops := true, plainKeys := false, apart := false, narrowed := true }
def NfaTellsUptoSaid : Prop := nfaTellsUptoRow.holds Try.pinned (OpenSpec.upto nfaTellsSpec)

/-- 'frankinglaw07.NfaTags', WHERE WHAT IT READS IS OF BULK AT MOST 1048576: true; the input reads as it did. -/
def nfaTagsUptoRow : OpenClaim := { program := "ytpgjpgecgibklaa", sum := "a5ef9fd9afe62597d4974f3ff168d29024e4e0d6af480fa0e10353b75aa02b3e", func := "franking/frankinglaw07.NfaTags", spec := "nfaTags", unfollowed := true, recurses := true, loops := true, plainKeys := false, apart := false, narrowed := true }
def NfaTagsUptoSaid : Prop := nfaTagsUptoRow.holds Try.pinned (OpenSpec.upto nfaTagsSpec)

/-- 'frankinglaw10.TableRight', WHERE WHAT IT READS IS OF BULK AT MOST 1048576: true; the input reads as it did. -/
def tableRightUptoRow : OpenClaim := { program := "ytpgjpgecgibklaa", sum := "a5ef9fd9afe62597d4974f3ff168d29024e4e0d6af480fa0e10353b75aa02b3e", func := "franking/frankinglaw10.TableRight", spec := "tableRight", inPlace := ["internal/abi.NoEscape"], unfollowed := true, recurses := true, loops := true, plainKeys := false, apart := false, narrowed := true }
def TableRightUptoSaid : Prop := tableRightUptoRow.holds Try.pinned (OpenSpec.upto tableRightSpec)

/-- 'frankinglaw07.NfaCap', WHERE WHAT IT READS IS OF BULK AT MOST 1048576: true; the input reads as it did. -/
def nfaCapUptoRow : OpenClaim := { program := "ytpgjpgecgibklaa", sum := "a5ef9fd9afe62597d4974f3ff168d29024e4e0d6af480fa0e10353b75aa02b3e", func := "franking/frankinglaw07.NfaCap", spec := "nfaCap", unfollowed := true, recurses := true, loops := true, plainKeys := false, apart := false, narrowed := true }
def NfaCapUptoSaid : Prop := nfaCapUptoRow.holds Try.pinned (OpenSpec.upto nfaCapSpec)

/-- 'frankinglaw07.NfaFronts', WHERE WHAT IT READS IS OF BULK AT MOST 1048576: true; the input reads as it did. -/
def nfaFrontsUptoRow : OpenClaim := { program := "ytpgjpgecgibklaa", sum := "a5ef9fd9afe62597d4974f3ff168d29024e4e0d6af480fa0e10353b75aa02b3e", func := "franking/frankinglaw07.NfaFronts", spec := "nfaFronts", unfollowed := true, recurses := true, loops := true, plainKeys := false, apart := false, narrowed := true }
def NfaFrontsUptoSaid : Prop := nfaFrontsUptoRow.holds Try.pinned (OpenSpec.upto nfaFrontsSpec)

/-- 'frankinglaw07.NfaOrder', WHERE WHAT IT READS IS OF BULK AT MOST 1048576: true; the input reads as it did. -/
def nfaOrderUptoRow : OpenClaim := { program := "ytpgjpgecgibklaa", sum := "a5ef9fd9afe62597d4974f3ff168d29024e4e0d6af480fa0e10353b75aa02b3e", func := "franking/frankinglaw07.NfaOrder", spec := "nfaOrder", unfollowed := true, recurses := true, loops := true, plainKeys := false, apart := false, narrowed := true }
def NfaOrderUptoSaid : Prop := nfaOrderUptoRow.holds Try.pinned (OpenSpec.upto nfaOrderSpec)

/-- 'frankinglaw09.LeastTells', WHERE WHAT IT READS IS OF BULK AT MOST 1048576: true; the input reads as it did. -/
def leastTellsUptoRow : OpenClaim := { program := "ytpgjpgecgibklaa", sum := "a5ef9fd9afe62597d4974f3ff168d29024e4e0d6af480fa0e10353b75aa02b3e", func := "franking/frankinglaw09.LeastTells", spec := "leastTells", plainKeys := false, apart := false, narrowed := true }
def LeastTellsUptoSaid : Prop := leastTellsUptoRow.holds Try.pinned (OpenSpec.upto leastTellsSpec)

/-- 'frankinglaw09.LeastApart', WHERE WHAT IT READS IS OF BULK AT MOST 1048576: true; the input reads as it did. -/
def leastApartUptoRow : OpenClaim := { program := "ytpgjpgecgibklaa", sum := "a5ef9fd9afe62597d4974f3ff168d29024e4e0d6af480fa0e10353b75aa02b3e", func := "franking/frankinglaw09.LeastApart", spec := "leastApart", plainKeys := false, apart := false, narrowed := true }
def LeastApartUptoSaid : Prop := leastApartUptoRow.holds Try.pinned (OpenSpec.upto leastApartSpec)

/-- 'frankinglaw09.LeastNumbers', WHERE WHAT IT READS IS OF BULK AT MOST 1048576: true; the input reads as it did. -/
def leastNumbersUptoRow : OpenClaim := { program := "ytpgjpgecgibklaa", sum := "a5ef9fd9afe62597d4974f3ff168d29024e4e0d6af480fa0e10353b75aa02b3e", func := "franking/frankinglaw09.LeastNumbers", spec := "leastNumbers", plainKeys := false, apart := false, narrowed := true }
def LeastNumbersUptoSaid : Prop := leastNumbersUptoRow.holds Try.pinned (OpenSpec.upto leastNumbersSpec)

/-- 'frankinglaw09.LeastAlike', WHERE WHAT IT READS IS OF BULK AT MOST 1048576: true; the input reads as it did. -/
def leastAlikeUptoRow : OpenClaim := { program := "ytpgjpgecgibklaa", sum := "a5ef9fd9afe62597d4974f3ff168d29024e4e0d6af480fa0e10353b75aa02b3e", func := "franking/frankinglaw09.LeastAlike", spec := "leastAlike", unfollowed := true, recurses := true, plainKeys := false, apart := false, narrowed := true }
def LeastAlikeUptoSaid : Prop := leastAlikeUptoRow.holds Try.pinned (OpenSpec.upto leastAlikeSpec)

/-- 'frankinglaw20.DiskFront', WHERE WHAT IT READS IS OF BULK AT MOST 1048576: true; the input reads as it did. -/
def diskFrontUptoRow : OpenClaim := { program := "ytpgjpgecgibklaa", sum := "a5ef9fd9afe62597d4974f3ff168d29024e4e0d6af480fa0e10353b75aa02b3e", func := "franking/frankinglaw20.DiskFront", spec := "diskFront", inPlace := ["internal/bytealg.MakeNoZero"], plainKeys := false, apart := false, narrowed := true }
def DiskFrontUptoSaid : Prop := diskFrontUptoRow.holds Try.pinned (OpenSpec.upto diskFrontSpec)

/-- 'frankinglaw20.DiskWhole', WHERE WHAT IT READS IS OF BULK AT MOST 1048576: true; the input reads as it did. -/
def diskWholeUptoRow : OpenClaim := { program := "ytpgjpgecgibklaa", sum := "a5ef9fd9afe62597d4974f3ff168d29024e4e0d6af480fa0e10353b75aa02b3e", func := "franking/frankinglaw20.DiskWhole", spec := "diskWhole", inPlace := ["internal/bytealg.MakeNoZero"], plainKeys := false, apart := false, narrowed := true }
def DiskWholeUptoSaid : Prop := diskWholeUptoRow.holds Try.pinned (OpenSpec.upto diskWholeSpec)

/-- 'frankinglaw20.DiskArmed', WHERE WHAT IT READS IS OF BULK AT MOST 1048576: true; the input reads as it did. -/
def diskArmedUptoRow : OpenClaim := { program := "ytpgjpgecgibklaa", sum := "a5ef9fd9afe62597d4974f3ff168d29024e4e0d6af480fa0e10353b75aa02b3e", func := "franking/frankinglaw20.DiskArmed", spec := "diskArmed", inPlace := ["internal/bytealg.MakeNoZero"], plainKeys := false, apart := false, narrowed := true }
def DiskArmedUptoSaid : Prop := diskArmedUptoRow.holds Try.pinned (OpenSpec.upto diskArmedSpec)

/-- 'frankinglaw09.LeastSame', WHERE WHAT IT READS IS OF BULK AT MOST 1048576: true; the input reads as it did. -/
def leastSameUptoRow : OpenClaim := { program := "ytpgjpgecgibklaa", sum := "a5ef9fd9afe62597d4974f3ff168d29024e4e0d6af480fa0e10353b75aa02b3e", func := "franking/frankinglaw09.LeastSame", spec := "leastSame", plainKeys := false, apart := false, narrowed := true }
def LeastSameUptoSaid : Prop := leastSameUptoRow.holds Try.pinned (OpenSpec.upto leastSameSpec)

/-- 'frankinglaw20.DiskTells', WHERE WHAT IT READS IS OF BULK AT MOST 1048576: true; the input reads as it did. -/
def diskTellsUptoRow : OpenClaim := { program := "ytpgjpgecgibklaa", sum := "a5ef9fd9afe62597d4974f3ff168d29024e4e0d6af480fa0e10353b75aa02b3e", func := "franking/frankinglaw20.DiskTells", spec := "diskTells", inPlace := ["internal/bytealg.MakeNoZero"], plainKeys := false, apart := false, narrowed := true }
def DiskTellsUptoSaid : Prop := diskTellsUptoRow.holds Try.pinned (OpenSpec.upto diskTellsSpec)

/-- 'frankinglaw20.DiskNone', WHERE WHAT IT READS IS OF BULK AT MOST 1048576: true; the input reads as it did. -/
def diskNoneUptoRow : OpenClaim := { program := "ytpgjpgecgibklaa", sum := "a5ef9fd9afe62597d4974f3ff168d29024e4e0d6af480fa0e10353b75aa02b3e", func := "franking/frankinglaw20.DiskNone", spec := "diskNone", inPlace := ["internal/bytealg.MakeNoZero"], plainKeys := false, apart := false, narrowed := true }
def DiskNoneUptoSaid : Prop := diskNoneUptoRow.holds Try.pinned (OpenSpec.upto diskNoneSpec)

/-- 'frankinglaw21.JournalRot', WHERE WHAT IT READS IS OF BULK AT MOST 1048576: true; the input reads as it did. -/
def journalRotUptoRow : OpenClaim := { program := "ytpgjpgecgibklaa", sum := "a5ef9fd9afe62597d4974f3ff168d29024e4e0d6af480fa0e10353b75aa02b3e", func := "franking/frankinglaw21.JournalRot", spec := "journalRot", inPlace := ["internal/bytealg.MakeNoZero"], unfollowed := true, recurses := true, plainKeys := false, apart := false, narrowed := true }
def JournalRotUptoSaid : Prop := journalRotUptoRow.holds Try.pinned (OpenSpec.upto journalRotSpec)

/-- 'frankinglaw21.JournalCrash', WHERE WHAT IT READS IS OF BULK AT MOST 1048576: true; the input reads as it did. -/
def journalCrashUptoRow : OpenClaim := { program := "ytpgjpgecgibklaa", sum := "a5ef9fd9afe62597d4974f3ff168d29024e4e0d6af480fa0e10353b75aa02b3e", func := "franking/frankinglaw21.JournalCrash", spec := "journalCrash", inPlace := ["internal/bytealg.MakeNoZero"], unfollowed := true, recurses := true, plainKeys := false, apart := false, narrowed := true }
def JournalCrashUptoSaid : Prop := journalCrashUptoRow.holds Try.pinned (OpenSpec.upto journalCrashSpec)

/-- 'frankinglaw21.JournalRoom', WHERE WHAT IT READS IS OF BULK AT MOST 1048576: true; the input reads as it did. -/
def journalRoomUptoRow : OpenClaim := { program := "ytpgjpgecgibklaa", sum := "a5ef9fd9afe62597d4974f3ff168d29024e4e0d6af480fa0e10353b75aa02b3e", func := "franking/frankinglaw21.JournalRoom", spec := "journalRoom", inPlace := ["internal/bytealg.MakeNoZero"], unfollowed := true, recurses := true, plainKeys := false, apart := false, narrowed := true }
def JournalRoomUptoSaid : Prop := journalRoomUptoRow.holds Try.pinned (OpenSpec.upto journalRoomSpec)

/-- 'frankinglaw08.DfaTells', WHERE WHAT IT READS IS OF BULK AT MOST 1048576: true; the input reads as it did. -/
def dfaTellsUptoRow : OpenClaim := { program := "ytpgjpgecgibklaa", sum := "a5ef9fd9afe62597d4974f3ff168d29024e4e0d6af480fa0e10353b75aa02b3e", func := "franking/frankinglaw08.DfaTells", spec := "dfaTells", inPlace := ["internal/abi.NoEscape"], unfollowed := true, recurses := true, loops := true, plainKeys := false, apart := false, narrowed := true }
def DfaTellsUptoSaid : Prop := dfaTellsUptoRow.holds Try.pinned (OpenSpec.upto dfaTellsSpec)

/-- 'frankinglaw08.DfaFound', WHERE WHAT IT READS IS OF BULK AT MOST 1048576: true; the input reads as it did. -/
def dfaFoundUptoRow : OpenClaim := { program := "ytpgjpgecgibklaa", sum := "a5ef9fd9afe62597d4974f3ff168d29024e4e0d6af480fa0e10353b75aa02b3e", func := "franking/frankinglaw08.DfaFound", spec := "dfaFound", inPlace := ["internal/abi.NoEscape"], unfollowed := true, recurses := true, loops := true, plainKeys := false, apart := false, narrowed := true }
def DfaFoundUptoSaid : Prop := dfaFoundUptoRow.holds Try.pinned (OpenSpec.upto dfaFoundSpec)

/-- 'frankinglaw08.DfaCap', WHERE WHAT IT READS IS OF BULK AT MOST 1048576: true; the input reads as it did. -/
def dfaCapUptoRow : OpenClaim := { program := "ytpgjpgecgibklaa", sum := "a5ef9fd9afe62597d4974f3ff168d29024e4e0d6af480fa0e10353b75aa02b3e", func := "franking/frankinglaw08.DfaCap", spec := "dfaCap", inPlace := ["internal/abi.NoEscape"], unfollowed := true, recurses := true, loops := true, plainKeys := false, apart := false, narrowed := true }
def DfaCapUptoSaid : Prop := dfaCapUptoRow.holds Try.pinned (OpenSpec.upto dfaCapSpec)

/-- 'frankinglaw08.DfaRuns', WHERE WHAT IT READS IS OF BULK AT MOST 1048576: true; the input reads as it did. -/
def dfaRunsUptoRow : OpenClaim := { program := "ytpgjpgecgibklaa", sum := "a5ef9fd9afe62597d4974f3ff168d29024e4e0d6af480fa0e10353b75aa02b3e", func := "franking/frankinglaw08.DfaRuns", spec := "dfaRuns", inPlace := ["internal/abi.NoEscape"], unfollowed := true, recurses := true, plainKeys := false, apart := false, narrowed := true }
def DfaRunsUptoSaid : Prop := dfaRunsUptoRow.holds Try.pinned (OpenSpec.upto dfaRunsSpec)

/-- 'frankinglaw21.JournalAnew', WHERE WHAT IT READS IS OF BULK AT MOST 1048576: true; the input reads as it did. -/
def journalAnewUptoRow : OpenClaim := { program := "ytpgjpgecgibklaa", sum := "a5ef9fd9afe62597d4974f3ff168d29024e4e0d6af480fa0e10353b75aa02b3e", func := "franking/frankinglaw21.JournalAnew", spec := "journalAnew", inPlace := ["internal/bytealg.MakeNoZero"], unfollowed := true, recurses := true, plainKeys := false, apart := false, narrowed := true }
def JournalAnewUptoSaid : Prop := journalAnewUptoRow.holds Try.pinned (OpenSpec.upto journalAnewSpec)

/-- 'frankinglaw21.JournalTells', WHERE WHAT IT READS IS OF BULK AT MOST 1048576: true; the input reads as it did. -/
def journalTellsUptoRow : OpenClaim := { program := "ytpgjpgecgibklaa", sum := "a5ef9fd9afe62597d4974f3ff168d29024e4e0d6af480fa0e10353b75aa02b3e", func := "franking/frankinglaw21.JournalTells", spec := "journalTells", inPlace := ["internal/bytealg.MakeNoZero"], unfollowed := true, recurses := true, plainKeys := false, apart := false, narrowed := true }
def JournalTellsUptoSaid : Prop := journalTellsUptoRow.holds Try.pinned (OpenSpec.upto journalTellsSpec)

end Rows
end Go.Proofs.Ytpgjpgecgibklaa
