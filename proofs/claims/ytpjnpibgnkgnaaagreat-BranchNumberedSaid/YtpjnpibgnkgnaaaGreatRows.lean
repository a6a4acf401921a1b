/-
  No cell of these rows narrows 'for every input' (looked for: loops, veiled, ifaces, maps, wideKeys, modest, calm, conditions, laid).
  DERIVED. THE GIVEN ROWS OF THIS SEAT. 15 by the template 'for every input the law returns true; each argument reads behind the call as it read before'; 0 by the template 'total and deterministic' (their statements: YtpjnpibgnkgnaaaGreatTotals.lean).
  GIVEN WITH THE SEED: the statements are not yours to turn. If you find one false, say at which input.
  Laid BY PROGRAM, IN A SANDBOX (cutbox-rows.mjs): the forced cells as the released guide's own fill.sh prints them over the translation c2eecd4d9edd9ebd… (all of the seat's roots in one cut). By AI agents, Wed Nov 11 2026. No macro, syntax, notation, axiom, sorry.
-/
import Derived.Test.YtpjnpibgnkgnaaaGreatChecked
import GoSem.Claim
import GoSem.ClaimJoined
import GoSem.ClaimMapViews
import Derived.JoinedTies
import Derived.KernelRfl
namespace Go.Proofs.YtpjnpibgnkgnaaaGreat
/- THE CELL 'sum', in the pinned program and in every row, IS THE sha256 OF THE DUMP (.gsa) THAT YtpjnpibgnkgnaaaGreatProg.lean LOADS. Nothing in Lean hashes anything: it is a label: what it is worth is what the hold of that sum in a sandbox is worth. -/
noncomputable def Tryz.pinned : Pinned := { name := "ytpjnpibgnkgnaaagreat", sum := "c2eecd4d9edd9ebd2a3a8c22b3437c392f7fbbb05949bf3f0feb2563513e6c2e", checked := Tryz.checked }
namespace Rows
def none {H : Type} : Left H := { results := [], args := [] }

/-- 'laurellaw03.BranchCourses': WHATEVER THE INPUT: true; the input reads as it did. -/
def branchCoursesSpec : ChangeSpec := { name := "branchCourses", fn := fun _ => fun
  | [d] => { results := [.lit (.bool true)], args := [d] }
  | _ => none }
def branchCoursesRow : OpenClaim := { program := "ytpjnpibgnkgnaaagreat", sum := "c2eecd4d9edd9ebd2a3a8c22b3437c392f7fbbb05949bf3f0feb2563513e6c2e", func := "laurel/laurellaw03.BranchCourses", spec := "branchCourses", unfollowed := true, recurses := true, plainKeys := false, apart := false }
def BranchCoursesSaid : Prop := branchCoursesRow.holds Tryz.pinned (OpenSpec.ofChange branchCoursesSpec)

/-- ITS FALSE NEIGHBOUR: 'it returns false'. Refute it at one input. -/
def branchCoursesWrong : ChangeSpec := { name := "branchCourses", fn := fun _ => fun
  | [d] => { results := [.lit (.bool false)], args := [d] }
  | _ => none }
def BranchCoursesWrongFalsely : Prop := branchCoursesRow.holds Tryz.pinned (OpenSpec.ofChange branchCoursesWrong)

/-- 'laurellaw03.BranchFates': WHATEVER THE INPUT: true; the input reads as it did. -/
def branchFatesSpec : ChangeSpec := { name := "branchFates", fn := fun _ => fun
  | [d1, d2] => { results := [.lit (.bool true)], args := [d1, d2] }
  | _ => none }
def branchFatesRow : OpenClaim := { program := "ytpjnpibgnkgnaaagreat", sum := "c2eecd4d9edd9ebd2a3a8c22b3437c392f7fbbb05949bf3f0feb2563513e6c2e", func := "laurel/laurellaw03.BranchFates", spec := "branchFates", unfollowed := true, recurses := true, plainKeys := false, apart := false }
def BranchFatesSaid : Prop := branchFatesRow.holds Tryz.pinned (OpenSpec.ofChange branchFatesSpec)

/-- ITS FALSE NEIGHBOUR: 'it returns false'. Refute it at one input. -/
def branchFatesWrong : ChangeSpec := { name := "branchFates", fn := fun _ => fun
  | [d1, d2] => { results := [.lit (.bool false)], args := [d1, d2] }
  | _ => none }
def BranchFatesWrongFalsely : Prop := branchFatesRow.holds Tryz.pinned (OpenSpec.ofChange branchFatesWrong)

/-- 'laurellaw03.BranchCells': WHATEVER THE INPUT: true; the input reads as it did. -/
def branchCellsSpec : ChangeSpec := { name := "branchCells", fn := fun _ => fun
  | [d1, d2, d3] => { results := [.lit (.bool true)], args := [d1, d2, d3] }
  | _ => none }
def branchCellsRow : OpenClaim := { program := "ytpjnpibgnkgnaaagreat", sum := "c2eecd4d9edd9ebd2a3a8c22b3437c392f7fbbb05949bf3f0feb2563513e6c2e", func := "laurel/laurellaw03.BranchCells", spec := "branchCells", unfollowed := true, recurses := true, plainKeys := false, apart := false }
def BranchCellsSaid : Prop := branchCellsRow.holds Tryz.pinned (OpenSpec.ofChange branchCellsSpec)

/-- ITS FALSE NEIGHBOUR: 'it returns false'. Refute it at one input. -/
def branchCellsWrong : ChangeSpec := { name := "branchCells", fn := fun _ => fun
  | [d1, d2, d3] => { results := [.lit (.bool false)], args := [d1, d2, d3] }
  | _ => none }
def BranchCellsWrongFalsely : Prop := branchCellsRow.holds Tryz.pinned (OpenSpec.ofChange branchCellsWrong)

/-- 'laurellaw03.BranchSights': WHATEVER THE INPUT: true; the input reads as it did. -/
def branchSightsSpec : ChangeSpec := { name := "branchSights", fn := fun _ => fun
  | [d1, d2] => { results := [.lit (.bool true)], args := [d1, d2] }
  | _ => none }
def branchSightsRow : OpenClaim := { program := "ytpjnpibgnkgnaaagreat", sum := "c2eecd4d9edd9ebd2a3a8c22b3437c392f7fbbb05949bf3f0feb2563513e6c2e", func := "laurel/laurellaw03.BranchSights", spec := "branchSights", unfollowed := true, recurses := true, plainKeys := false, apart := false }
def BranchSightsSaid : Prop := branchSightsRow.holds Tryz.pinned (OpenSpec.ofChange branchSightsSpec)

/-- ITS FALSE NEIGHBOUR: 'it returns false'. Refute it at one input. -/
def branchSightsWrong : ChangeSpec := { name := "branchSights", fn := fun _ => fun
  | [d1, d2] => { results := [.lit (.bool false)], args := [d1, d2] }
  | _ => none }
def BranchSightsWrongFalsely : Prop := branchSightsRow.holds Tryz.pinned (OpenSpec.ofChange branchSightsWrong)

/-- 'laurellaw03.BranchChannels': WHATEVER THE INPUT: true; the input reads as it did. -/
def branchChannelsSpec : ChangeSpec := { name := "branchChannels", fn := fun _ => fun
  | [d1, d2, d3, d4] => { results := [.lit (.bool true)], args := [d1, d2, d3, d4] }
  | _ => none }
def branchChannelsRow : OpenClaim := { program := "ytpjnpibgnkgnaaagreat", sum := "c2eecd4d9edd9ebd2a3a8c22b3437c392f7fbbb05949bf3f0feb2563513e6c2e", func := "laurel/laurellaw03.BranchChannels", spec := "branchChannels", unfollowed := true, recurses := true, plainKeys := false, apart := false }
def BranchChannelsSaid : Prop := branchChannelsRow.holds Tryz.pinned (OpenSpec.ofChange branchChannelsSpec)

/-- ITS FALSE NEIGHBOUR: 'it returns false'. Refute it at one input. -/
def branchChannelsWrong : ChangeSpec := { name := "branchChannels", fn := fun _ => fun
  | [d1, d2, d3, d4] => { results := [.lit (.bool false)], args := [d1, d2, d3, d4] }
  | _ => none }
def BranchChannelsWrongFalsely : Prop := branchChannelsRow.holds Tryz.pinned (OpenSpec.ofChange branchChannelsWrong)

/-- 'laurellaw03.BranchFirm': WHATEVER THE INPUT: true; the input reads as it did. -/
def branchFirmSpec : ChangeSpec := { name := "branchFirm", fn := fun _ => fun
  | [d1, d2, d3] => { results := [.lit (.bool true)], args := [d1, d2, d3] }
  | _ => none }
def branchFirmRow : OpenClaim := { program := "ytpjnpibgnkgnaaagreat", sum := "c2eecd4d9edd9ebd2a3a8c22b3437c392f7fbbb05949bf3f0feb2563513e6c2e", func := "laurel/laurellaw03.BranchFirm", spec := "branchFirm", inPlace := ["slices.overlaps[int]"], unfollowed := true, recurses := true, plainKeys := false, apart := false }
def BranchFirmSaid : Prop := branchFirmRow.holds Tryz.pinned (OpenSpec.ofChange branchFirmSpec)

/-- ITS FALSE NEIGHBOUR: 'it returns false'. Refute it at one input. -/
def branchFirmWrong : ChangeSpec := { name := "branchFirm", fn := fun _ => fun
  | [d1, d2, d3] => { results := [.lit (.bool false)], args := [d1, d2, d3] }
  | _ => none }
def BranchFirmWrongFalsely : Prop := branchFirmRow.holds Tryz.pinned (OpenSpec.ofChange branchFirmWrong)

/-- 'laurellaw03.BranchAsked': WHATEVER THE INPUT: true; the input reads as it did. -/
def branchAskedSpec : ChangeSpec := { name := "branchAsked", fn := fun _ => fun
  | [d] => { results := [.lit (.bool true)], args := [d] }
  | _ => none }
def branchAskedRow : OpenClaim := { program := "ytpjnpibgnkgnaaagreat", sum := "c2eecd4d9edd9ebd2a3a8c22b3437c392f7fbbb05949bf3f0feb2563513e6c2e", func := "laurel/laurellaw03.BranchAsked", spec := "branchAsked", inPlace := ["slices.overlaps[int]"], unfollowed := true, recurses := true, plainKeys := false, apart := false }
def BranchAskedSaid : Prop := branchAskedRow.holds Tryz.pinned (OpenSpec.ofChange branchAskedSpec)

/-- ITS FALSE NEIGHBOUR: 'it returns false'. Refute it at one input. -/
def branchAskedWrong : ChangeSpec := { name := "branchAsked", fn := fun _ => fun
  | [d] => { results := [.lit (.bool false)], args := [d] }
  | _ => none }
def BranchAskedWrongFalsely : Prop := branchAskedRow.holds Tryz.pinned (OpenSpec.ofChange branchAskedWrong)

/-- 'laurellaw03.BranchMirrored': WHATEVER THE INPUT: true; the input reads as it did. -/
def branchMirroredSpec : ChangeSpec := { name := "branchMirrored", fn := fun _ => fun
  | [d1, d2] => { results := [.lit (.bool true)], args := [d1, d2] }
  | _ => none }
def branchMirroredRow : OpenClaim := { program := "ytpjnpibgnkgnaaagreat", sum := "c2eecd4d9edd9ebd2a3a8c22b3437c392f7fbbb05949bf3f0feb2563513e6c2e", func := "laurel/laurellaw03.BranchMirrored", spec := "branchMirrored", inPlace := ["slices.overlaps[int]"], unfollowed := true, recurses := true, plainKeys := false, apart := false }
def BranchMirroredSaid : Prop := branchMirroredRow.holds Tryz.pinned (OpenSpec.ofChange branchMirroredSpec)

/-- ITS FALSE NEIGHBOUR: 'it returns false'. Refute it at one input. -/
def branchMirroredWrong : ChangeSpec := { name := "branchMirrored", fn := fun _ => fun
  | [d1, d2] => { results := [.lit (.bool false)], args := [d1, d2] }
  | _ => none }
def BranchMirroredWrongFalsely : Prop := branchMirroredRow.holds Tryz.pinned (OpenSpec.ofChange branchMirroredWrong)

/-- 'laurellaw03.BranchNumbered': WHATEVER THE INPUT: true; the input reads as it did. -/
def branchNumberedSpec : ChangeSpec := { name := "branchNumbered", fn := fun _ => fun
  | [d1, d2, d3] => { results := [.lit (.bool true)], args := [d1, d2, d3] }
  | _ => none }
def branchNumberedRow : OpenClaim := { program := "ytpjnpibgnkgnaaagreat", sum := "c2eecd4d9edd9ebd2a3a8c22b3437c392f7fbbb05949bf3f0feb2563513e6c2e", func := "laurel/laurellaw03.BranchNumbered", spec := "branchNumbered", inPlace := ["slices.overlaps[int]"], unfollowed := true, recurses := true, plainKeys := false, apart := false }
def BranchNumberedSaid : Prop := branchNumberedRow.holds Tryz.pinned (OpenSpec.ofChange branchNumberedSpec)

/-- ITS FALSE NEIGHBOUR: 'it returns false'. Refute it at one input. -/
def branchNumberedWrong : ChangeSpec := { name := "branchNumbered", fn := fun _ => fun
  | [d1, d2, d3] => { results := [.lit (.bool false)], args := [d1, d2, d3] }
  | _ => none }
def BranchNumberedWrongFalsely : Prop := branchNumberedRow.holds Tryz.pinned (OpenSpec.ofChange branchNumberedWrong)

/-- 'laurellaw03.BranchSmall': WHATEVER THE INPUT: true; the input reads as it did. -/
def branchSmallSpec : ChangeSpec := { name := "branchSmall", fn := fun _ => fun
  | [] => { results := [.lit (.bool true)], args := [] }
  | _ => none }
def branchSmallRow : OpenClaim := { program := "ytpjnpibgnkgnaaagreat", sum := "c2eecd4d9edd9ebd2a3a8c22b3437c392f7fbbb05949bf3f0feb2563513e6c2e", func := "laurel/laurellaw03.BranchSmall", spec := "branchSmall", unfollowed := true, recurses := true, plainKeys := false, apart := false }
def BranchSmallSaid : Prop := branchSmallRow.holds Tryz.pinned (OpenSpec.ofChange branchSmallSpec)

/-- ITS FALSE NEIGHBOUR: 'it returns false'. Refute it at one input. -/
def branchSmallWrong : ChangeSpec := { name := "branchSmall", fn := fun _ => fun
  | [] => { results := [.lit (.bool false)], args := [] }
  | _ => none }
def BranchSmallWrongFalsely : Prop := branchSmallRow.holds Tryz.pinned (OpenSpec.ofChange branchSmallWrong)

/-- 'laurellaw03.BranchClashed': WHATEVER THE INPUT: true; the input reads as it did. -/
def branchClashedSpec : ChangeSpec := { name := "branchClashed", fn := fun _ => fun
  | [d1, d2] => { results := [.lit (.bool true)], args := [d1, d2] }
  | _ => none }
def branchClashedRow : OpenClaim := { program := "ytpjnpibgnkgnaaagreat", sum := "c2eecd4d9edd9ebd2a3a8c22b3437c392f7fbbb05949bf3f0feb2563513e6c2e", func := "laurel/laurellaw03.BranchClashed", spec := "branchClashed", inPlace := ["slices.overlaps[int]"], unfollowed := true, recurses := true, plainKeys := false, apart := false }
def BranchClashedSaid : Prop := branchClashedRow.holds Tryz.pinned (OpenSpec.ofChange branchClashedSpec)

/-- ITS FALSE NEIGHBOUR: 'it returns false'. Refute it at one input. -/
def branchClashedWrong : ChangeSpec := { name := "branchClashed", fn := fun _ => fun
  | [d1, d2] => { results := [.lit (.bool false)], args := [d1, d2] }
  | _ => none }
def BranchClashedWrongFalsely : Prop := branchClashedRow.holds Tryz.pinned (OpenSpec.ofChange branchClashedWrong)

/-- 'laurellaw03.BranchMore': WHATEVER THE INPUT: true; the input reads as it did. -/
def branchMoreSpec : ChangeSpec := { name := "branchMore", fn := fun _ => fun
  | [d1, d2, d3] => { results := [.lit (.bool true)], args := [d1, d2, d3] }
  | _ => none }
def branchMoreRow : OpenClaim := { program := "ytpjnpibgnkgnaaagreat", sum := "c2eecd4d9edd9ebd2a3a8c22b3437c392f7fbbb05949bf3f0feb2563513e6c2e", func := "laurel/laurellaw03.BranchMore", spec := "branchMore", inPlace := ["slices.overlaps[int]"], unfollowed := true, recurses := true, plainKeys := false, apart := false }
def BranchMoreSaid : Prop := branchMoreRow.holds Tryz.pinned (OpenSpec.ofChange branchMoreSpec)

/-- ITS FALSE NEIGHBOUR: 'it returns false'. Refute it at one input. -/
def branchMoreWrong : ChangeSpec := { name := "branchMore", fn := fun _ => fun
  | [d1, d2, d3] => { results := [.lit (.bool false)], args := [d1, d2, d3] }
  | _ => none }
def BranchMoreWrongFalsely : Prop := branchMoreRow.holds Tryz.pinned (OpenSpec.ofChange branchMoreWrong)

/-- 'laurellaw03.BranchMarked': WHATEVER THE INPUT: true; the input reads as it did. -/
def branchMarkedSpec : ChangeSpec := { name := "branchMarked", fn := fun _ => fun
  | [d1, d2, d3] => { results := [.lit (.bool true)], args := [d1, d2, d3] }
  | _ => none }
def branchMarkedRow : OpenClaim := { program := "ytpjnpibgnkgnaaagreat", sum := "c2eecd4d9edd9ebd2a3a8c22b3437c392f7fbbb05949bf3f0feb2563513e6c2e", func := "laurel/laurellaw03.BranchMarked", spec := "branchMarked", inPlace := ["slices.overlaps[int]"], unfollowed := true, recurses := true, plainKeys := false, apart := false }
def BranchMarkedSaid : Prop := branchMarkedRow.holds Tryz.pinned (OpenSpec.ofChange branchMarkedSpec)

/-- ITS FALSE NEIGHBOUR: 'it returns false'. Refute it at one input. -/
def branchMarkedWrong : ChangeSpec := { name := "branchMarked", fn := fun _ => fun
  | [d1, d2, d3] => { results := [.lit (.bool false)], args := [d1, d2, d3] }
  | _ => none }
def BranchMarkedWrongFalsely : Prop := branchMarkedRow.holds Tryz.pinned (OpenSpec.ofChange branchMarkedWrong)

/-- 'laurellaw03.BranchCalmed': WHATEVER THE INPUT: true; the input reads as it did. -/
def branchCalmedSpec : ChangeSpec := { name := "branchCalmed", fn := fun _ => fun
  | [d1, d2] => { results := [.lit (.bool true)], args := [d1, d2] }
  | _ => none }
def branchCalmedRow : OpenClaim := { program := "ytpjnpibgnkgnaaagreat", sum := "c2eecd4d9edd9ebd2a3a8c22b3437c392f7fbbb05949bf3f0feb2563513e6c2e", func := "laurel/laurellaw03.BranchCalmed", spec := "branchCalmed", inPlace := ["slices.overlaps[int]"], unfollowed := true, recurses := true, plainKeys := false, apart := false }
def BranchCalmedSaid : Prop := branchCalmedRow.holds Tryz.pinned (OpenSpec.ofChange branchCalmedSpec)

/-- ITS FALSE NEIGHBOUR: 'it returns false'. Refute it at one input. -/
def branchCalmedWrong : ChangeSpec := { name := "branchCalmed", fn := fun _ => fun
  | [d1, d2] => { results := [.lit (.bool false)], args := [d1, d2] }
  | _ => none }
def BranchCalmedWrongFalsely : Prop := branchCalmedRow.holds Tryz.pinned (OpenSpec.ofChange branchCalmedWrong)

/-- 'laurellaw03.BranchDry': WHATEVER THE INPUT: true; the input reads as it did. -/
def branchDrySpec : ChangeSpec := { name := "branchDry", fn := fun _ => fun
  | [d1, d2, d3, d4] => { results := [.lit (.bool true)], args := [d1, d2, d3, d4] }
  | _ => none }
def branchDryRow : OpenClaim := { program := "ytpjnpibgnkgnaaagreat", sum := "c2eecd4d9edd9ebd2a3a8c22b3437c392f7fbbb05949bf3f0feb2563513e6c2e", func := "laurel/laurellaw03.BranchDry", spec := "branchDry", inPlace := ["slices.overlaps[int]"], unfollowed := true, recurses := true, plainKeys := false, apart := false }
def BranchDrySaid : Prop := branchDryRow.holds Tryz.pinned (OpenSpec.ofChange branchDrySpec)

/-- ITS FALSE NEIGHBOUR: 'it returns false'. Refute it at one input. -/
def branchDryWrong : ChangeSpec := { name := "branchDry", fn := fun _ => fun
  | [d1, d2, d3, d4] => { results := [.lit (.bool false)], args := [d1, d2, d3, d4] }
  | _ => none }
def BranchDryWrongFalsely : Prop := branchDryRow.holds Tryz.pinned (OpenSpec.ofChange branchDryWrong)

/- THE SECOND FORM. 'bulk': how many values and letters a reading holds, each counted each time it is reached (what is shared counts as often as it is met; a slice's spare places count too). A statement '..UptoSaid' is the law's where the arguments, and the package variables that the reading takes, are together of bulk at most 1048576: NARROWER than '..Said'. Prove '..Said' where nothing that the law and all that it calls make is longer than what came in: it says more and counts as full. Else prove '..UptoSaid'. A law counts once. -/
mutual
def uptoBulk {H : Type} : DataW H → Nat
  | .lit (.string bytes) => bytes.length + 1
  | .lit _ => 1
  | .nil => 1
  | .ptr d => uptoBulk d + 1
  | .slice elems spare => uptoBulkAll elems + uptoBulkAll spare + 1
  | .agg parts => uptoBulkAll parts + 1
  | .iface _ d => uptoBulk d + 1
  | .map entries => uptoBulkEntries entries + 1
  | .held _ => 1
def uptoBulkAll {H : Type} : List (DataW H) → Nat
  | [] => 0
  | d :: r => uptoBulk d + uptoBulkAll r
def uptoBulkEntries {H : Type} : List (Lit × DataW H) → Nat
  | [] => 0
  | x :: r => uptoBulkEntry x + uptoBulkEntries r
def uptoBulkEntry {H : Type} : Lit × DataW H → Nat
  | (.string bytes, d) => bytes.length + uptoBulk d + 1
  | (_, d) => uptoBulk d + 1
 end
def uptoSmall : (H : Type) → List (DataW H) → Bool := fun _ ds => decide (uptoBulkAll ds ≤ 1048576)
def OpenSpec.upto (s : _root_.Go.ChangeSpec) : _root_.Go.OpenSpec := { _root_.Go.OpenSpec.ofChange s with cond := some uptoSmall }

/-- 'laurellaw03.BranchCourses', WHERE WHAT IT READS IS OF BULK AT MOST 1048576: true; the input reads as it did. -/
def branchCoursesUptoRow : OpenClaim := { program := "ytpjnpibgnkgnaaagreat", sum := "c2eecd4d9edd9ebd2a3a8c22b3437c392f7fbbb05949bf3f0feb2563513e6c2e", func := "laurel/laurellaw03.BranchCourses", spec := "branchCourses", unfollowed := true, recurses := true, plainKeys := false, apart := false, narrowed := true }
def BranchCoursesUptoSaid : Prop := branchCoursesUptoRow.holds Tryz.pinned (OpenSpec.upto branchCoursesSpec)

/-- 'laurellaw03.BranchFates', WHERE WHAT IT READS IS OF BULK AT MOST 1048576: true; the input reads as it did. -/
def branchFatesUptoRow : OpenClaim := { program := "ytpjnpibgnkgnaaagreat", sum := "c2eecd4d9edd9ebd2a3a8c22b3437c392f7fbbb05949bf3f0feb2563513e6c2e", func := "laurel/laurellaw03.BranchFates", spec := "branchFates", unfollowed := true, recurses := true, plainKeys := false, apart := false, narrowed := true }
def BranchFatesUptoSaid : Prop := branchFatesUptoRow.holds Tryz.pinned (OpenSpec.upto branchFatesSpec)

/-- 'laurellaw03.BranchCells', WHERE WHAT IT READS IS OF BULK AT MOST 1048576: true; the input reads as it did. -/
def branchCellsUptoRow : OpenClaim := { program := "ytpjnpibgnkgnaaagreat", sum := "c2eecd4d9edd9ebd2a3a8c22b3437c392f7fbbb05949bf3f0feb2563513e6c2e", func := "laurel/laurellaw03.BranchCells", spec := "branchCells", unfollowed := true, recurses := true, plainKeys := false, apart := false, narrowed := true }
def BranchCellsUptoSaid : Prop := branchCellsUptoRow.holds Tryz.pinned (OpenSpec.upto branchCellsSpec)

/-- 'laurellaw03.BranchSights', WHERE WHAT IT READS IS OF BULK AT MOST 1048576: true; the input reads as it did. -/
def branchSightsUptoRow : OpenClaim := { program := "ytpjnpibgnkgnaaagreat", sum := "c2eecd4d9edd9ebd2a3a8c22b3437c392f7fbbb05949bf3f0feb2563513e6c2e", func := "laurel/laurellaw03.BranchSights", spec := "branchSights", unfollowed := true, recurses := true, plainKeys := false, apart := false, narrowed := true }
def BranchSightsUptoSaid : Prop := branchSightsUptoRow.holds Tryz.pinned (OpenSpec.upto branchSightsSpec)

/-- 'laurellaw03.BranchChannels', WHERE WHAT IT READS IS OF BULK AT MOST 1048576: true; the input reads as it did. -/
def branchChannelsUptoRow : OpenClaim := { program := "ytpjnpibgnkgnaaagreat", sum := "c2eecd4d9edd9ebd2a3a8c22b3437c392f7fbbb05949bf3f0feb2563513e6c2e", func := "laurel/laurellaw03.BranchChannels", spec := "branchChannels", unfollowed := true, recurses := true, plainKeys := false, apart := false, narrowed := true }
def BranchChannelsUptoSaid : Prop := branchChannelsUptoRow.holds Tryz.pinned (OpenSpec.upto branchChannelsSpec)

/-- 'laurellaw03.BranchFirm', WHERE WHAT IT READS IS OF BULK AT MOST 1048576: true; the input reads as it did. -/
def branchFirmUptoRow : OpenClaim := { program := "ytpjnpibgnkgnaaagreat", sum := "c2eecd4d9edd9ebd2a3a8c22b3437c392f7fbbb05949bf3f0feb2563513e6c2e", func := "laurel/laurellaw03.BranchFirm", spec := "branchFirm", inPlace := ["slices.overlaps[int]"], unfollowed := true, recurses := true, plainKeys := false, apart := false, narrowed := true }
def BranchFirmUptoSaid : Prop := branchFirmUptoRow.holds Tryz.pinned (OpenSpec.upto branchFirmSpec)

/-- 'laurellaw03.BranchAsked', WHERE WHAT IT READS IS OF BULK AT MOST 1048576: true; the input reads as it did. -/
def branchAskedUptoRow : OpenClaim := { program := "ytpjnpibgnkgnaaagreat", sum := "c2eecd4d9edd9ebd2a3a8c22b3437c392f7fbbb05949bf3f0feb2563513e6c2e", func := "laurel/laurellaw03.BranchAsked", spec := "branchAsked", inPlace := ["slices.overlaps[int]"], unfollowed := true, recurses := true, plainKeys := false, apart := false, narrowed := true }
def BranchAskedUptoSaid : Prop := branchAskedUptoRow.holds Tryz.pinned (OpenSpec.upto branchAskedSpec)

/-- 'laurellaw03.BranchMirrored', WHERE WHAT IT READS IS OF BULK AT MOST 1048576: true; the input reads as it did. -/
def branchMirroredUptoRow : OpenClaim := { program := "ytpjnpibgnkgnaaagreat", sum := "c2eecd4d9edd9ebd2a3a8c22b3437c392f7fbbb05949bf3f0feb2563513e6c2e", func := "laurel/laurellaw03.BranchMirrored", spec := "branchMirrored", inPlace := ["slices.overlaps[int]"], unfollowed := true, recurses := true, plainKeys := false, apart := false, narrowed := true }
def BranchMirroredUptoSaid : Prop := branchMirroredUptoRow.holds Tryz.pinned (OpenSpec.upto branchMirroredSpec)

/-- 'laurellaw03.BranchNumbered', WHERE WHAT IT READS IS OF BULK AT MOST 1048576: true; the input reads as it did. -/
def branchNumberedUptoRow : OpenClaim := { program := "ytpjnpibgnkgnaaagreat", sum := "c2eecd4d9edd9ebd2a3a8c22b3437c392f7fbbb05949bf3f0feb2563513e6c2e", func := "laurel/laurellaw03.BranchNumbered", spec := "branchNumbered", inPlace := ["slices.overlaps[int]"], unfollowed := true, recurses := true, plainKeys := false, apart := false, narrowed := true }
def BranchNumberedUptoSaid : Prop := branchNumberedUptoRow.holds Tryz.pinned (OpenSpec.upto branchNumberedSpec)

/-- 'laurellaw03.BranchSmall', WHERE WHAT IT READS IS OF BULK AT MOST 1048576: true; the input reads as it did. -/
def branchSmallUptoRow : OpenClaim := { program := "ytpjnpibgnkgnaaagreat", sum := "c2eecd4d9edd9ebd2a3a8c22b3437c392f7fbbb05949bf3f0feb2563513e6c2e", func := "laurel/laurellaw03.BranchSmall", spec := "branchSmall", unfollowed := true, recurses := true, plainKeys := false, apart := false, narrowed := true }
def BranchSmallUptoSaid : Prop := branchSmallUptoRow.holds Tryz.pinned (OpenSpec.upto branchSmallSpec)

/-- 'laurellaw03.BranchClashed', WHERE WHAT IT READS IS OF BULK AT MOST 1048576: true; the input reads as it did. -/
def branchClashedUptoRow : OpenClaim := { program := "ytpjnpibgnkgnaaagreat", sum := "c2eecd4d9edd9ebd2a3a8c22b3437c392f7fbbb05949bf3f0feb2563513e6c2e", func := "laurel/laurellaw03.BranchClashed", spec := "branchClashed", inPlace := ["slices.overlaps[int]"], unfollowed := true, recurses := true, plainKeys := false, apart := false, narrowed := true }
def BranchClashedUptoSaid : Prop := branchClashedUptoRow.holds Tryz.pinned (OpenSpec.upto branchClashedSpec)

/-- 'laurellaw03.BranchMore', WHERE WHAT IT READS IS OF BULK AT MOST 1048576: true; the input reads as it did. -/
def branchMoreUptoRow : OpenClaim := { program := "ytpjnpibgnkgnaaagreat", sum := "c2eecd4d9edd9ebd2a3a8c22b3437c392f7fbbb05949bf3f0feb2563513e6c2e", func := "laurel/laurellaw03.BranchMore", spec := "branchMore", inPlace := ["slices.overlaps[int]"], unfollowed := true, recurses := true, plainKeys := false, apart := false, narrowed := true }
def BranchMoreUptoSaid : Prop := branchMoreUptoRow.holds Tryz.pinned (OpenSpec.upto branchMoreSpec)

/-- 'laurellaw03.BranchMarked', WHERE WHAT IT READS IS OF BULK AT MOST 1048576: true; the input reads as it did. -/
def branchMarkedUptoRow : OpenClaim := { program := "ytpjnpibgnkgnaaagreat", sum := "c2eecd4d9edd9ebd2a3a8c22b3437c392f7fbbb05949bf3f0feb2563513e6c2e", func := "laurel/laurellaw03.BranchMarked", spec := "branchMarked", inPlace := ["slices.overlaps[int]"], unfollowed := true, recurses := true, plainKeys := false, apart := false, narrowed := true }
def BranchMarkedUptoSaid : Prop := branchMarkedUptoRow.holds Tryz.pinned (OpenSpec.upto branchMarkedSpec)

/-- 'laurellaw03.BranchCalmed', WHERE WHAT IT READS IS OF BULK AT MOST 1048576: true; the input reads as it did. -/
def branchCalmedUptoRow : OpenClaim := { program := "ytpjnpibgnkgnaaagreat", sum := "c2eecd4d9edd9ebd2a3a8c22b3437c392f7fbbb05949bf3f0feb2563513e6c2e", func := "laurel/laurellaw03.BranchCalmed", spec := "branchCalmed", inPlace := ["slices.overlaps[int]"], unfollowed := true, recurses := true, plainKeys := false, apart := false, narrowed := true }
def BranchCalmedUptoSaid : Prop := branchCalmedUptoRow.holds Tryz.pinned (OpenSpec.upto branchCalmedSpec)

/-- 'laurellaw03.BranchDry', WHERE WHAT IT READS IS OF BULK AT MOST 1048576: true; the input reads as it did. -/
def branchDryUptoRow : OpenClaim := { program := "ytpjnpibgnkgnaaagreat", sum := "c2eecd4d9edd9ebd2a3a8c22b3437c392f7fbbb05949bf3f0feb2563513e6c2e", func := "laurel/laurellaw03.BranchDry", spec := "branchDry", inPlace := ["slices.overlaps[int]"], unfollowed := true, recurses := true, plainKeys := false, apart := false, narrowed := true }
def BranchDryUptoSaid : Prop := branchDryUptoRow.holds Tryz.pinned (OpenSpec.upto branchDrySpec)

end Rows
end Go.Proofs.YtpjnpibgnkgnaaaGreat
