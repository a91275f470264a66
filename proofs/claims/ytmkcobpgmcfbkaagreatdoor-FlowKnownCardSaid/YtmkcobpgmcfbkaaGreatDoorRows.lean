/-
  NARROWER THAN 'FOR EVERY INPUT', by the rows' own cells (each row's printed sentence says how): FlowParts: laid · FlowAgrees: laid · FlowKnown: laid · FlowSplits: laid · FlowMixes: laid · FlowWords: laid.
  DERIVED. THE GIVEN ROWS OF THIS SEAT. 6 by the template 'for every input the law returns true; each argument reads behind the call as it read before'; 0 by the template 'total and deterministic' (their statements: YtmkcobpgmcfbkaaGreatDoorTotals.lean).
  GIVEN WITH THE SEED: the statements are not yours to turn. If you find one false, say at which input.
  Laid BY PROGRAM, IN A SANDBOX (cutbox-rows.mjs): the forced cells as the released guide's own fill.sh prints them over the translation 4946b5b02dceeacc… (all of the seat's roots in one cut). By AI agents, Wed Nov 11 2026. No macro, syntax, notation, axiom, sorry.
-/
import Derived.Test.YtmkcobpgmcfbkaaGreatDoorChecked
import GoSem.Claim
import GoSem.ClaimJoined
import GoSem.ClaimMapViews
import Derived.JoinedTies
import Derived.KernelRfl
namespace Go.Proofs.YtmkcobpgmcfbkaaGreatDoor
/- THE CELL 'sum', in the pinned program and in every row, IS THE sha256 OF THE DUMP (.gsa) THAT YtmkcobpgmcfbkaaGreatDoorProg.lean LOADS. Nothing in Lean hashes anything: it is a label: what it is worth is what the hold of that sum in a sandbox is worth. -/
noncomputable def Tryz.pinned : Pinned := { name := "ytmkcobpgmcfbkaagreatdoor", sum := "4946b5b02dceeacc6077372c60721332bed35584bb407844de821265a82068eb", checked := Tryz.checked }
namespace Rows
def none {H : Type} : Left H := { results := [], args := [] }

/- WHAT THE LISTED PACKAGE-LEVEL VARIABLES READ AS WHEN THE CALL BEGINS. Each datum BY PROGRAM (the guide's laid-datum.mjs) off the statement by which the dump's own 'gosem.cut.vars' lays the variable. In a bare row this is a premise. The card (YtmkcobpgmcfbkaaGreatDoorCards.lean) ties it to the program's text. -/
def laid_tipstaff_word_does {H : Type} : DataW H := .iface "func table" (.agg [.nil, .iface "func" (.lit (.string [116, 105, 112, 115, 116, 97, 102, 102, 47, 119, 111, 114, 100, 46, 100, 111, 101, 115, 36, 49])), .iface "func" (.lit (.string [116, 105, 112, 115, 116, 97, 102, 102, 47, 119, 111, 114, 100, 46, 100, 111, 101, 115, 36, 50])), .iface "func" (.lit (.string [116, 105, 112, 115, 116, 97, 102, 102, 47, 119, 111, 114, 100, 46, 102, 97, 117, 108, 116])), .iface "func" (.lit (.string [116, 105, 112, 115, 116, 97, 102, 102, 47, 119, 111, 114, 100, 46, 102, 97, 117, 108, 116])), .iface "func" (.lit (.string [116, 105, 112, 115, 116, 97, 102, 102, 47, 119, 111, 114, 100, 46, 102, 97, 117, 108, 116])), .iface "func" (.lit (.string [116, 105, 112, 115, 116, 97, 102, 102, 47, 119, 111, 114, 100, 46, 102, 97, 117, 108, 116]))])
def laid_errors_errorType {H : Type} : DataW H := .iface "internal/reflectlite.rtype" (.agg [.ptr (.lit (.string [101, 114, 114, 111, 114]))])

/-- 'tipstafflaw42.FlowParts': WHATEVER THE INPUT: true; the input reads as it did. -/
def flowPartsSpec : ChangeSpec := { name := "flowParts", fn := fun _ => fun
  | [d1, d2, d3] => { results := [.lit (.bool true)], args := [d1, d2, d3] }
  | _ => none }
def flowPartsRow : OpenClaim := { program := "ytmkcobpgmcfbkaagreatdoor", sum := "4946b5b02dceeacc6077372c60721332bed35584bb407844de821265a82068eb", func := "tipstaff/tipstafflaw42.FlowParts", spec := "flowParts", inPlace := ["internal/reflectlite.ValueOf", "(internal/reflectlite.Value).Type", "(internal/reflectlite.Value).IsNil", "internal/reflectlite.TypeOf", "(internal/reflectlite.Value).Elem", "(internal/reflectlite.Value).Set"], unfollowed := true, recurses := true, named := ["errors.errorType", "tipstaff/word.does"], apart := false, laid := [("tipstaff/word.does", laid_tipstaff_word_does), ("errors.errorType", laid_errors_errorType)] }
def FlowPartsSaid : Prop := flowPartsRow.holds Tryz.pinned (OpenSpec.ofChange flowPartsSpec)

/-- ITS FALSE NEIGHBOUR: 'it returns false'. Refute it at one input. -/
def flowPartsWrong : ChangeSpec := { name := "flowParts", fn := fun _ => fun
  | [d1, d2, d3] => { results := [.lit (.bool false)], args := [d1, d2, d3] }
  | _ => none }
def FlowPartsWrongFalsely : Prop := flowPartsRow.holds Tryz.pinned (OpenSpec.ofChange flowPartsWrong)

/-- 'tipstafflaw42.FlowAgrees': WHATEVER THE INPUT: true; the input reads as it did. -/
def flowAgreesSpec : ChangeSpec := { name := "flowAgrees", fn := fun _ => fun
  | [d1, d2, d3, d4] => { results := [.lit (.bool true)], args := [d1, d2, d3, d4] }
  | _ => none }
def flowAgreesRow : OpenClaim := { program := "ytmkcobpgmcfbkaagreatdoor", sum := "4946b5b02dceeacc6077372c60721332bed35584bb407844de821265a82068eb", func := "tipstaff/tipstafflaw42.FlowAgrees", spec := "flowAgrees", inPlace := ["internal/reflectlite.ValueOf", "(internal/reflectlite.Value).Type", "(internal/reflectlite.Value).IsNil", "internal/reflectlite.TypeOf", "(internal/reflectlite.Value).Elem", "(internal/reflectlite.Value).Set"], unfollowed := true, recurses := true, named := ["errors.errorType", "tipstaff/word.does"], apart := false, laid := [("tipstaff/word.does", laid_tipstaff_word_does), ("errors.errorType", laid_errors_errorType)] }
def FlowAgreesSaid : Prop := flowAgreesRow.holds Tryz.pinned (OpenSpec.ofChange flowAgreesSpec)

/-- ITS FALSE NEIGHBOUR: 'it returns false'. Refute it at one input. -/
def flowAgreesWrong : ChangeSpec := { name := "flowAgrees", fn := fun _ => fun
  | [d1, d2, d3, d4] => { results := [.lit (.bool false)], args := [d1, d2, d3, d4] }
  | _ => none }
def FlowAgreesWrongFalsely : Prop := flowAgreesRow.holds Tryz.pinned (OpenSpec.ofChange flowAgreesWrong)

/-- 'tipstafflaw42.FlowKnown': WHATEVER THE INPUT: true; the input reads as it did. -/
def flowKnownSpec : ChangeSpec := { name := "flowKnown", fn := fun _ => fun
  | [] => { results := [.lit (.bool true)], args := [] }
  | _ => none }
def flowKnownRow : OpenClaim := { program := "ytmkcobpgmcfbkaagreatdoor", sum := "4946b5b02dceeacc6077372c60721332bed35584bb407844de821265a82068eb", func := "tipstaff/tipstafflaw42.FlowKnown", spec := "flowKnown", inPlace := ["internal/reflectlite.ValueOf", "(internal/reflectlite.Value).Type", "(internal/reflectlite.Value).IsNil", "internal/reflectlite.TypeOf", "(internal/reflectlite.Value).Elem", "(internal/reflectlite.Value).Set"], unfollowed := true, recurses := true, named := ["errors.errorType", "tipstaff/word.does"], apart := false, laid := [("tipstaff/word.does", laid_tipstaff_word_does), ("errors.errorType", laid_errors_errorType)] }
def FlowKnownSaid : Prop := flowKnownRow.holds Tryz.pinned (OpenSpec.ofChange flowKnownSpec)

/-- ITS FALSE NEIGHBOUR: 'it returns false'. Refute it at one input. -/
def flowKnownWrong : ChangeSpec := { name := "flowKnown", fn := fun _ => fun
  | [] => { results := [.lit (.bool false)], args := [] }
  | _ => none }
def FlowKnownWrongFalsely : Prop := flowKnownRow.holds Tryz.pinned (OpenSpec.ofChange flowKnownWrong)

/-- 'tipstafflaw42.FlowSplits': WHATEVER THE INPUT: true; the input reads as it did. -/
def flowSplitsSpec : ChangeSpec := { name := "flowSplits", fn := fun _ => fun
  | [d1, d2, d3] => { results := [.lit (.bool true)], args := [d1, d2, d3] }
  | _ => none }
def flowSplitsRow : OpenClaim := { program := "ytmkcobpgmcfbkaagreatdoor", sum := "4946b5b02dceeacc6077372c60721332bed35584bb407844de821265a82068eb", func := "tipstaff/tipstafflaw42.FlowSplits", spec := "flowSplits", inPlace := ["internal/reflectlite.ValueOf", "(internal/reflectlite.Value).Type", "(internal/reflectlite.Value).IsNil", "internal/reflectlite.TypeOf", "(internal/reflectlite.Value).Elem", "(internal/reflectlite.Value).Set"], unfollowed := true, recurses := true, named := ["errors.errorType", "tipstaff/word.does"], apart := false, laid := [("tipstaff/word.does", laid_tipstaff_word_does), ("errors.errorType", laid_errors_errorType)] }
def FlowSplitsSaid : Prop := flowSplitsRow.holds Tryz.pinned (OpenSpec.ofChange flowSplitsSpec)

/-- ITS FALSE NEIGHBOUR: 'it returns false'. Refute it at one input. -/
def flowSplitsWrong : ChangeSpec := { name := "flowSplits", fn := fun _ => fun
  | [d1, d2, d3] => { results := [.lit (.bool false)], args := [d1, d2, d3] }
  | _ => none }
def FlowSplitsWrongFalsely : Prop := flowSplitsRow.holds Tryz.pinned (OpenSpec.ofChange flowSplitsWrong)

/-- 'tipstafflaw42.FlowMixes': WHATEVER THE INPUT: true; the input reads as it did. -/
def flowMixesSpec : ChangeSpec := { name := "flowMixes", fn := fun _ => fun
  | [d1, d2, d3, d4] => { results := [.lit (.bool true)], args := [d1, d2, d3, d4] }
  | _ => none }
def flowMixesRow : OpenClaim := { program := "ytmkcobpgmcfbkaagreatdoor", sum := "4946b5b02dceeacc6077372c60721332bed35584bb407844de821265a82068eb", func := "tipstaff/tipstafflaw42.FlowMixes", spec := "flowMixes", inPlace := ["internal/reflectlite.ValueOf", "(internal/reflectlite.Value).Type", "(internal/reflectlite.Value).IsNil", "internal/reflectlite.TypeOf", "(internal/reflectlite.Value).Elem", "(internal/reflectlite.Value).Set"], unfollowed := true, recurses := true, named := ["errors.errorType", "tipstaff/word.does"], apart := false, laid := [("tipstaff/word.does", laid_tipstaff_word_does), ("errors.errorType", laid_errors_errorType)] }
def FlowMixesSaid : Prop := flowMixesRow.holds Tryz.pinned (OpenSpec.ofChange flowMixesSpec)

/-- ITS FALSE NEIGHBOUR: 'it returns false'. Refute it at one input. -/
def flowMixesWrong : ChangeSpec := { name := "flowMixes", fn := fun _ => fun
  | [d1, d2, d3, d4] => { results := [.lit (.bool false)], args := [d1, d2, d3, d4] }
  | _ => none }
def FlowMixesWrongFalsely : Prop := flowMixesRow.holds Tryz.pinned (OpenSpec.ofChange flowMixesWrong)

/-- 'tipstafflaw42.FlowWords': WHATEVER THE INPUT: true; the input reads as it did. -/
def flowWordsSpec : ChangeSpec := { name := "flowWords", fn := fun _ => fun
  | [d1, d2, d3] => { results := [.lit (.bool true)], args := [d1, d2, d3] }
  | _ => none }
def flowWordsRow : OpenClaim := { program := "ytmkcobpgmcfbkaagreatdoor", sum := "4946b5b02dceeacc6077372c60721332bed35584bb407844de821265a82068eb", func := "tipstaff/tipstafflaw42.FlowWords", spec := "flowWords", inPlace := ["internal/reflectlite.ValueOf", "(internal/reflectlite.Value).Type", "(internal/reflectlite.Value).IsNil", "internal/reflectlite.TypeOf", "(internal/reflectlite.Value).Elem", "(internal/reflectlite.Value).Set"], unfollowed := true, recurses := true, named := ["errors.errorType", "tipstaff/word.does"], apart := false, laid := [("tipstaff/word.does", laid_tipstaff_word_does), ("errors.errorType", laid_errors_errorType)] }
def FlowWordsSaid : Prop := flowWordsRow.holds Tryz.pinned (OpenSpec.ofChange flowWordsSpec)

/-- ITS FALSE NEIGHBOUR: 'it returns false'. Refute it at one input. -/
def flowWordsWrong : ChangeSpec := { name := "flowWords", fn := fun _ => fun
  | [d1, d2, d3] => { results := [.lit (.bool false)], args := [d1, d2, d3] }
  | _ => none }
def FlowWordsWrongFalsely : Prop := flowWordsRow.holds Tryz.pinned (OpenSpec.ofChange flowWordsWrong)

/- THE SECOND FORM. 'bulk': how many values and letters a reading holds, each counted each time it is reached (what is shared counts as often as it is met; a slice's spare places count too). A statement '..UptoSaid' is the law's where the arguments, and the package variables that the reading takes, are together of bulk at most 1048576: NARROWER than '..Said'. Prove '..Said' where nothing that the law and all that it calls make is longer than what came in: it says more and counts as full. Else prove '..UptoSaid'. A law counts once. -/
mutual
def uptoBulk {H : Type} : DataW H → Nat
  | .lit (.string bytes) => bytes.length + 1
  | .lit _ => 1
  | .nil => 1
  | .ptr d => uptoBulk d + 1
  | .slice elems spare => uptoBulkAll elems + uptoBulkAll spare + 1
  | .agg parts => uptoBulkAll parts + 1
  | .iface _ d => uptoBulk d + 1
  | .map entries => uptoBulkEntries entries + 1
  | .held _ => 1
def uptoBulkAll {H : Type} : List (DataW H) → Nat
  | [] => 0
  | d :: r => uptoBulk d + uptoBulkAll r
def uptoBulkEntries {H : Type} : List (Lit × DataW H) → Nat
  | [] => 0
  | x :: r => uptoBulkEntry x + uptoBulkEntries r
def uptoBulkEntry {H : Type} : Lit × DataW H → Nat
  | (.string bytes, d) => bytes.length + uptoBulk d + 1
  | (_, d) => uptoBulk d + 1
 end
def uptoSmall : (H : Type) → List (DataW H) → Bool := fun _ ds => decide (uptoBulkAll ds ≤ 1048576)
def OpenSpec.upto (s : _root_.Go.ChangeSpec) : _root_.Go.OpenSpec := { _root_.Go.OpenSpec.ofChange s with cond := some uptoSmall }

/-- 'tipstafflaw42.FlowParts', WHERE WHAT IT READS IS OF BULK AT MOST 1048576: true; the input reads as it did. -/
def flowPartsUptoRow : OpenClaim := { program := "ytmkcobpgmcfbkaagreatdoor", sum := "4946b5b02dceeacc6077372c60721332bed35584bb407844de821265a82068eb", func := "tipstaff/tipstafflaw42.FlowParts", spec := "flowParts", inPlace := ["internal/reflectlite.ValueOf", "(internal/reflectlite.Value).Type", "(internal/reflectlite.Value).IsNil", "internal/reflectlite.TypeOf", "(internal/reflectlite.Value).Elem", "(internal/reflectlite.Value).Set"], unfollowed := true, recurses := true, named := ["errors.errorType", "tipstaff/word.does"], apart := false, laid := [("tipstaff/word.does", laid_tipstaff_word_does), ("errors.errorType", laid_errors_errorType)], narrowed := true }
def FlowPartsUptoSaid : Prop := flowPartsUptoRow.holds Tryz.pinned (OpenSpec.upto flowPartsSpec)

/-- 'tipstafflaw42.FlowAgrees', WHERE WHAT IT READS IS OF BULK AT MOST 1048576: true; the input reads as it did. -/
def flowAgreesUptoRow : OpenClaim := { program := "ytmkcobpgmcfbkaagreatdoor", sum := "4946b5b02dceeacc6077372c60721332bed35584bb407844de821265a82068eb", func := "tipstaff/tipstafflaw42.FlowAgrees", spec := "flowAgrees", inPlace := ["internal/reflectlite.ValueOf", "(internal/reflectlite.Value).Type", "(internal/reflectlite.Value).IsNil", "internal/reflectlite.TypeOf", "(internal/reflectlite.Value).Elem", "(internal/reflectlite.Value).Set"], unfollowed := true, recurses := true, named := ["errors.errorType", "tipstaff/word.does"], apart := false, laid := [("tipstaff/word.does", laid_tipstaff_word_does), ("errors.errorType", laid_errors_errorType)], narrowed := true }
def FlowAgreesUptoSaid : Prop := flowAgreesUptoRow.holds Tryz.pinned (OpenSpec.upto flowAgreesSpec)

/-- 'tipstafflaw42.FlowKnown', WHERE WHAT IT READS IS OF BULK AT MOST 1048576: true; the input reads as it did. -/
def flowKnownUptoRow : OpenClaim := { program := "ytmkcobpgmcfbkaagreatdoor", sum := "4946b5b02dceeacc6077372c60721332bed35584bb407844de821265a82068eb", func := "tipstaff/tipstafflaw42.FlowKnown", spec := "flowKnown", inPlace := ["internal/reflectlite.ValueOf", "(internal/reflectlite.Value).Type", "(internal/reflectlite.Value).IsNil", "internal/reflectlite.TypeOf", "(internal/reflectlite.Value).Elem", "(internal/reflectlite.Value).Set"], unfollowed := true, recurses := true, named := ["errors.errorType", "tipstaff/word.does"], apart := false, laid := [("tipstaff/word.does", laid_tipstaff_word_does), ("errors.errorType", laid_errors_errorType)], narrowed := true }
def FlowKnownUptoSaid : Prop := flowKnownUptoRow.holds Tryz.pinned (OpenSpec.upto flowKnownSpec)

/-- 'tipstafflaw42.FlowSplits', WHERE WHAT IT READS IS OF BULK AT MOST 1048576: true; the input reads as it did. -/
def flowSplitsUptoRow : OpenClaim := { program := "ytmkcobpgmcfbkaagreatdoor", sum := "4946b5b02dceeacc6077372c60721332bed35584bb407844de821265a82068eb", func := "tipstaff/tipstafflaw42.FlowSplits", spec := "flowSplits", inPlace := ["internal/reflectlite.ValueOf", "(internal/reflectlite.Value).Type", "(internal/reflectlite.Value).IsNil", "internal/reflectlite.TypeOf", "(internal/reflectlite.Value).Elem", "(internal/reflectlite.Value).Set"], unfollowed := true, recurses := true, named := ["errors.errorType", "tipstaff/word.does"], apart := false, laid := [("tipstaff/word.does", laid_tipstaff_word_does), ("errors.errorType", laid_errors_errorType)], narrowed := true }
def FlowSplitsUptoSaid : Prop := flowSplitsUptoRow.holds Tryz.pinned (OpenSpec.upto flowSplitsSpec)

/-- 'tipstafflaw42.FlowMixes', WHERE WHAT IT READS IS OF BULK AT MOST 1048576: true; the input reads as it did. -/
def flowMixesUptoRow : OpenClaim := { program := "ytmkcobpgmcfbkaagreatdoor", sum := "4946b5b02dceeacc6077372c60721332bed35584bb407844de821265a82068eb", func := "tipstaff/tipstafflaw42.FlowMixes", spec := "flowMixes", inPlace := ["internal/reflectlite.ValueOf", "(internal/reflectlite.Value).Type", "(internal/reflectlite.Value).IsNil", "internal/reflectlite.TypeOf", "(internal/reflectlite.Value).Elem", "(internal/reflectlite.Value).Set"], unfollowed := true, recurses := true, named := ["errors.errorType", "tipstaff/word.does"], apart := false, laid := [("tipstaff/word.does", laid_tipstaff_word_does), ("errors.errorType", laid_errors_errorType)], narrowed := true }
def FlowMixesUptoSaid : Prop := flowMixesUptoRow.holds Tryz.pinned (OpenSpec.upto flowMixesSpec)

/-- 'tipstafflaw42.FlowWords', WHERE WHAT IT READS IS OF BULK AT MOST 1048576: true; the input reads as it did. -/
def flowWordsUptoRow : OpenClaim := { program := "ytmkcobpgmcfbkaagreatdoor", sum := "4946b5b02dceeacc6077372c60721332bed35584bb407844de821265a82068eb", func := "tipstaff/tipstafflaw42.FlowWords", spec := "flowWords", inPlace := ["internal/reflectlite.ValueOf", "(internal/reflectlite.Value).Type", "(internal/reflectlite.Value).IsNil", "internal/reflectlite.TypeOf", "(internal/reflectlite.Value).Elem", "(internal/reflectlite.Value).Set"], unfollowed := true, recurses := true, named := ["errors.errorType", "tipstaff/word.does"], apart := false, laid := [("tipstaff/word.does", laid_tipstaff_word_does), ("errors.errorType", laid_errors_errorType)], narrowed := true }
def FlowWordsUptoSaid : Prop := flowWordsUptoRow.holds Tryz.pinned (OpenSpec.upto flowWordsSpec)

end Rows
end Go.Proofs.YtmkcobpgmcfbkaaGreatDoor
