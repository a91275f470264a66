/-
  No cell of these rows narrows 'for every input' (looked for: loops, veiled, ifaces, maps, wideKeys, modest, calm, conditions, laid).
  DERIVED. THE GIVEN ROWS OF THIS SEAT. 4 by the template 'for every input the law returns true; each argument reads behind the call as it read before'; 0 by the template 'total and deterministic' (their statements: YtenddpplfdgcfaaTotals.lean).
  GIVEN WITH THE SEED: the statements are not yours to turn. If you find one false, say at which input.
  Laid BY PROGRAM, IN A SANDBOX (cutbox-rows.mjs): the forced cells as the released guide's own fill.sh prints them over the translation 4f3fb5255b509720… (all of the seat's roots in one cut). By AI agents, Wed Nov 11 2026. No macro, syntax, notation, axiom, sorry.
-/
import Derived.Test.YtenddpplfdgcfaaChecked
import GoSem.Claim
import GoSem.ClaimJoined
import GoSem.ClaimMapViews
import Derived.JoinedTies
import Derived.KernelRfl
namespace Go.Proofs.Ytenddpplfdgcfaa
/- THE CELL 'sum', in the pinned program and in every row, IS THE sha256 OF THE DUMP (.gsa) THAT YtenddpplfdgcfaaProg.lean LOADS. Nothing in Lean hashes anything: it is a label: what it is worth is what the hold of that sum in a sandbox is worth. -/
noncomputable def Try.pinned : Pinned := { name := "ytenddpplfdgcfaa", sum := "4f3fb5255b509720506139d0202cc2678ca986daa681abe9922710908ef29f1b", checked := Try.checked }
namespace Rows
def none {H : Type} : Left H := { results := [], args := [] }

/-- 'tipstafflaw32.ScrubShows': WHATEVER THE INPUT: true; the input reads as it did. -/
def scrubShowsSpec : ChangeSpec := { name := "scrubShows", fn := fun _ => fun
  | [d1, d2, d3] => { results := [.lit (.bool true)], args := [d1, d2, d3] }
  | _ => none }
def scrubShowsRow : OpenClaim := { program := "ytenddpplfdgcfaa", sum := "4f3fb5255b509720506139d0202cc2678ca986daa681abe9922710908ef29f1b", func := "tipstaff/tipstafflaw32.ScrubShows", spec := "scrubShows", unfollowed := true, recurses := true, apart := false }
def ScrubShowsSaid : Prop := scrubShowsRow.holds Try.pinned (OpenSpec.ofChange scrubShowsSpec)

/-- ITS FALSE NEIGHBOUR: 'it returns false'. Refute it at one input. -/
def scrubShowsWrong : ChangeSpec := { name := "scrubShows", fn := fun _ => fun
  | [d1, d2, d3] => { results := [.lit (.bool false)], args := [d1, d2, d3] }
  | _ => none }
def ScrubShowsWrongFalsely : Prop := scrubShowsRow.holds Try.pinned (OpenSpec.ofChange scrubShowsWrong)

/-- 'tipstafflaw32.ScrubHides': WHATEVER THE INPUT: true; the input reads as it did. -/
def scrubHidesSpec : ChangeSpec := { name := "scrubHides", fn := fun _ => fun
  | [d1, d2, d3, d4] => { results := [.lit (.bool true)], args := [d1, d2, d3, d4] }
  | _ => none }
def scrubHidesRow : OpenClaim := { program := "ytenddpplfdgcfaa", sum := "4f3fb5255b509720506139d0202cc2678ca986daa681abe9922710908ef29f1b", func := "tipstaff/tipstafflaw32.ScrubHides", spec := "scrubHides", unfollowed := true, recurses := true, apart := false }
def ScrubHidesSaid : Prop := scrubHidesRow.holds Try.pinned (OpenSpec.ofChange scrubHidesSpec)

/-- ITS FALSE NEIGHBOUR: 'it returns false'. Refute it at one input. -/
def scrubHidesWrong : ChangeSpec := { name := "scrubHides", fn := fun _ => fun
  | [d1, d2, d3, d4] => { results := [.lit (.bool false)], args := [d1, d2, d3, d4] }
  | _ => none }
def ScrubHidesWrongFalsely : Prop := scrubHidesRow.holds Try.pinned (OpenSpec.ofChange scrubHidesWrong)

/-- 'tipstafflaw32.ScrubSame': WHATEVER THE INPUT: true; the input reads as it did. -/
def scrubSameSpec : ChangeSpec := { name := "scrubSame", fn := fun _ => fun
  | [d1, d2, d3, d4, d5] => { results := [.lit (.bool true)], args := [d1, d2, d3, d4, d5] }
  | _ => none }
def scrubSameRow : OpenClaim := { program := "ytenddpplfdgcfaa", sum := "4f3fb5255b509720506139d0202cc2678ca986daa681abe9922710908ef29f1b", func := "tipstaff/tipstafflaw32.ScrubSame", spec := "scrubSame", unfollowed := true, recurses := true, apart := false }
def ScrubSameSaid : Prop := scrubSameRow.holds Try.pinned (OpenSpec.ofChange scrubSameSpec)

/-- ITS FALSE NEIGHBOUR: 'it returns false'. Refute it at one input. -/
def scrubSameWrong : ChangeSpec := { name := "scrubSame", fn := fun _ => fun
  | [d1, d2, d3, d4, d5] => { results := [.lit (.bool false)], args := [d1, d2, d3, d4, d5] }
  | _ => none }
def ScrubSameWrongFalsely : Prop := scrubSameRow.holds Try.pinned (OpenSpec.ofChange scrubSameWrong)

/-- 'tipstafflaw32.ScrubDiffers': WHATEVER THE INPUT: true; the input reads as it did. -/
def scrubDiffersSpec : ChangeSpec := { name := "scrubDiffers", fn := fun _ => fun
  | [d1, d2, d3, d4] => { results := [.lit (.bool true)], args := [d1, d2, d3, d4] }
  | _ => none }
def scrubDiffersRow : OpenClaim := { program := "ytenddpplfdgcfaa", sum := "4f3fb5255b509720506139d0202cc2678ca986daa681abe9922710908ef29f1b", func := "tipstaff/tipstafflaw32.ScrubDiffers", spec := "scrubDiffers", unfollowed := true, recurses := true, apart := false }
def ScrubDiffersSaid : Prop := scrubDiffersRow.holds Try.pinned (OpenSpec.ofChange scrubDiffersSpec)

/-- ITS FALSE NEIGHBOUR: 'it returns false'. Refute it at one input. -/
def scrubDiffersWrong : ChangeSpec := { name := "scrubDiffers", fn := fun _ => fun
  | [d1, d2, d3, d4] => { results := [.lit (.bool false)], args := [d1, d2, d3, d4] }
  | _ => none }
def ScrubDiffersWrongFalsely : Prop := scrubDiffersRow.holds Try.pinned (OpenSpec.ofChange scrubDiffersWrong)

/- THE SECOND FORM. 'bulk': how many values and letters a reading holds, each counted each time it is reached (what is shared counts as often as it is met; a slice's spare places count too). A statement '..UptoSaid' is the law's where the arguments, and the package variables that the reading takes, are together of bulk at most 1048576: NARROWER than '..Said'. Prove '..Said' where nothing that the law and all that it calls make is longer than what came in: it says more and counts as full. Else prove '..UptoSaid'. A law counts once. -/
mutual
def uptoBulk {H : Type} : DataW H → Nat
  | .lit (.string bytes) => bytes.length + 1
  | .lit _ => 1
  | .nil => 1
  | .ptr d => uptoBulk d + 1
  | .slice elems spare => uptoBulkAll elems + uptoBulkAll spare + 1
  | .agg parts => uptoBulkAll parts + 1
  | .iface _ d => uptoBulk d + 1
  | .map entries => uptoBulkEntries entries + 1
  | .held _ => 1
def uptoBulkAll {H : Type} : List (DataW H) → Nat
  | [] => 0
  | d :: r => uptoBulk d + uptoBulkAll r
def uptoBulkEntries {H : Type} : List (Lit × DataW H) → Nat
  | [] => 0
  | x :: r => uptoBulkEntry x + uptoBulkEntries r
def uptoBulkEntry {H : Type} : Lit × DataW H → Nat
  | (.string bytes, d) => bytes.length + uptoBulk d + 1
  | (_, d) => uptoBulk d + 1
 end
def uptoSmall : (H : Type) → List (DataW H) → Bool := fun _ ds => decide (uptoBulkAll ds ≤ 1048576)
def OpenSpec.upto (s : _root_.Go.ChangeSpec) : _root_.Go.OpenSpec := { _root_.Go.OpenSpec.ofChange s with cond := some uptoSmall }

/-- 'tipstafflaw32.ScrubShows', WHERE WHAT IT READS IS OF BULK AT MOST 1048576: true; the input reads as it did. -/
def scrubShowsUptoRow : OpenClaim := { program := "ytenddpplfdgcfaa", sum := "4f3fb5255b509720506139d0202cc2678ca986daa681abe9922710908ef29f1b", func := "tipstaff/tipstafflaw32.ScrubShows", spec := "scrubShows", unfollowed := true, recurses := true, apart := false, narrowed := true }
def ScrubShowsUptoSaid : Prop := scrubShowsUptoRow.holds Try.pinned (OpenSpec.upto scrubShowsSpec)

/-- 'tipstafflaw32.ScrubHides', WHERE WHAT IT READS IS OF BULK AT MOST 1048576: true; the input reads as it did. -/
def scrubHidesUptoRow : OpenClaim := { program := "ytenddpplfdgcfaa", sum := "4f3fb5255b509720506139d0202cc2678ca986daa681abe9922710908ef29f1b", func := "tipstaff/tipstafflaw32.ScrubHides", spec := "scrubHides", unfollowed := true, recurses := true, apart := false, narrowed := true }
def ScrubHidesUptoSaid : Prop := scrubHidesUptoRow.holds Try.pinned (OpenSpec.upto scrubHidesSpec)

/-- 'tipstafflaw32.ScrubSame', WHERE WHAT IT READS IS OF BULK AT MOST 1048576: true; the input reads as it did. -/
def scrubSameUptoRow : OpenClaim := { program := "ytenddpplfdgcfaa", sum := "4f3fb5255b509720506139d0202cc2678ca986daa681abe9922710908ef29f1b", func := "tipstaff/tipstafflaw32.ScrubSame", spec := "scrubSame", unfollowed := true, recurses := true, apart := false, narrowed := true }
def ScrubSameUptoSaid : Prop := scrubSameUptoRow.holds Try.pinned (OpenSpec.upto scrubSameSpec)

/-- 'tipstafflaw32.ScrubDiffers', WHERE WHAT IT READS IS OF BULK AT MOST 1048576: true; the input reads as it did. -/
def scrubDiffersUptoRow : OpenClaim := { program := "ytenddpplfdgcfaa", sum := "4f3fb5255b509720506139d0202cc2678ca986daa681abe9922710908ef29f1b", func := "tipstaff/tipstafflaw32.ScrubDiffers", spec := "scrubDiffers", unfollowed := true, recurses := true, apart := false, narrowed := true }
def ScrubDiffersUptoSaid : Prop := scrubDiffersUptoRow.holds Try.pinned (OpenSpec.upto scrubDiffersSpec)

end Rows
end Go.Proofs.Ytenddpplfdgcfaa
