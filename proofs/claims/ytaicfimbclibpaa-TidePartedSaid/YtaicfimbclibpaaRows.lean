/-
  No cell of these rows narrows 'for every input' (looked for: loops, veiled, ifaces, maps, wideKeys, modest, calm, conditions, laid).
  DERIVED. THE GIVEN ROWS OF THIS SEAT. 15 by the template 'for every input the law returns true; each argument reads behind the call as it read before'; 0 by the template 'total and deterministic' (their statements: YtaicfimbclibpaaTotals.lean).
  GIVEN WITH THE SEED: the statements are not yours to turn. If you find one false, say at which input.
  Laid BY PROGRAM, IN A SANDBOX (cutbox-rows.mjs): the forced cells as the released guide's own fill.sh prints them over the translation 6e0c405b39e6eeb6… (all of the seat's roots in one cut). By AI agents, Wed Nov 11 2026. No macro, syntax, notation, axiom, sorry.
-/
import Derived.Test.YtaicfimbclibpaaChecked
import GoSem.Claim
import GoSem.ClaimJoined
import GoSem.ClaimMapViews
import Derived.JoinedTies
import Derived.KernelRfl
namespace Go.Proofs.Ytaicfimbclibpaa
/- THE CELL 'sum', in the pinned program and in every row, IS THE sha256 OF THE DUMP (.gsa) THAT YtaicfimbclibpaaProg.lean LOADS. Nothing in Lean hashes anything: it is a label: what it is worth is what the hold of that sum in a sandbox is worth. -/
noncomputable def Try.pinned : Pinned := { name := "ytaicfimbclibpaa", sum := "6e0c405b39e6eeb6e8195b692967bac3ea22cba7cc8ea6d2ee343c2b4769cadf", checked := Try.checked }
namespace Rows
def none {H : Type} : Left H := { results := [], args := [] }

/-- 'laurellaw01.TideTold': WHATEVER THE INPUT: true; the input reads as it did. -/
def tideToldSpec : ChangeSpec := { name := "tideTold", fn := fun _ => fun
  | [d1, d2] => { results := [.lit (.bool true)], args := [d1, d2] }
  | _ => none }
def tideToldRow : OpenClaim := { program := "ytaicfimbclibpaa", sum := "6e0c405b39e6eeb6e8195b692967bac3ea22cba7cc8ea6d2ee343c2b4769cadf", func := "laurel/laurellaw01.TideTold", spec := "tideTold", unfollowed := true, recurses := true, apart := false }
def TideToldSaid : Prop := tideToldRow.holds Try.pinned (OpenSpec.ofChange tideToldSpec)

/-- ITS FALSE NEIGHBOUR: 'it returns false'. Refute it at one input. -/
def tideToldWrong : ChangeSpec := { name := "tideTold", fn := fun _ => fun
  | [d1, d2] => { results := [.lit (.bool false)], args := [d1, d2] }
  | _ => none }
def TideToldWrongFalsely : Prop := tideToldRow.holds Try.pinned (OpenSpec.ofChange tideToldWrong)

/-- 'laurellaw01.TideHigher': WHATEVER THE INPUT: true; the input reads as it did. -/
def tideHigherSpec : ChangeSpec := { name := "tideHigher", fn := fun _ => fun
  | [d1, d2, d3, d4] => { results := [.lit (.bool true)], args := [d1, d2, d3, d4] }
  | _ => none }
def tideHigherRow : OpenClaim := { program := "ytaicfimbclibpaa", sum := "6e0c405b39e6eeb6e8195b692967bac3ea22cba7cc8ea6d2ee343c2b4769cadf", func := "laurel/laurellaw01.TideHigher", spec := "tideHigher", unfollowed := true, recurses := true, apart := false }
def TideHigherSaid : Prop := tideHigherRow.holds Try.pinned (OpenSpec.ofChange tideHigherSpec)

/-- ITS FALSE NEIGHBOUR: 'it returns false'. Refute it at one input. -/
def tideHigherWrong : ChangeSpec := { name := "tideHigher", fn := fun _ => fun
  | [d1, d2, d3, d4] => { results := [.lit (.bool false)], args := [d1, d2, d3, d4] }
  | _ => none }
def TideHigherWrongFalsely : Prop := tideHigherRow.holds Try.pinned (OpenSpec.ofChange tideHigherWrong)

/-- 'laurellaw01.TideChecks': WHATEVER THE INPUT: true; the input reads as it did. -/
def tideChecksSpec : ChangeSpec := { name := "tideChecks", fn := fun _ => fun
  | [d1, d2] => { results := [.lit (.bool true)], args := [d1, d2] }
  | _ => none }
def tideChecksRow : OpenClaim := { program := "ytaicfimbclibpaa", sum := "6e0c405b39e6eeb6e8195b692967bac3ea22cba7cc8ea6d2ee343c2b4769cadf", func := "laurel/laurellaw01.TideChecks", spec := "tideChecks", unfollowed := true, recurses := true, apart := false }
def TideChecksSaid : Prop := tideChecksRow.holds Try.pinned (OpenSpec.ofChange tideChecksSpec)

/-- ITS FALSE NEIGHBOUR: 'it returns false'. Refute it at one input. -/
def tideChecksWrong : ChangeSpec := { name := "tideChecks", fn := fun _ => fun
  | [d1, d2] => { results := [.lit (.bool false)], args := [d1, d2] }
  | _ => none }
def TideChecksWrongFalsely : Prop := tideChecksRow.holds Try.pinned (OpenSpec.ofChange tideChecksWrong)

/-- 'laurellaw01.TideShifted': WHATEVER THE INPUT: true; the input reads as it did. -/
def tideShiftedSpec : ChangeSpec := { name := "tideShifted", fn := fun _ => fun
  | [d1, d2, d3, d4] => { results := [.lit (.bool true)], args := [d1, d2, d3, d4] }
  | _ => none }
def tideShiftedRow : OpenClaim := { program := "ytaicfimbclibpaa", sum := "6e0c405b39e6eeb6e8195b692967bac3ea22cba7cc8ea6d2ee343c2b4769cadf", func := "laurel/laurellaw01.TideShifted", spec := "tideShifted", unfollowed := true, recurses := true, apart := false }
def TideShiftedSaid : Prop := tideShiftedRow.holds Try.pinned (OpenSpec.ofChange tideShiftedSpec)

/-- ITS FALSE NEIGHBOUR: 'it returns false'. Refute it at one input. -/
def tideShiftedWrong : ChangeSpec := { name := "tideShifted", fn := fun _ => fun
  | [d1, d2, d3, d4] => { results := [.lit (.bool false)], args := [d1, d2, d3, d4] }
  | _ => none }
def TideShiftedWrongFalsely : Prop := tideShiftedRow.holds Try.pinned (OpenSpec.ofChange tideShiftedWrong)

/-- 'laurellaw01.TideStates': WHATEVER THE INPUT: true; the input reads as it did. -/
def tideStatesSpec : ChangeSpec := { name := "tideStates", fn := fun _ => fun
  | [d1, d2, d3, d4] => { results := [.lit (.bool true)], args := [d1, d2, d3, d4] }
  | _ => none }
def tideStatesRow : OpenClaim := { program := "ytaicfimbclibpaa", sum := "6e0c405b39e6eeb6e8195b692967bac3ea22cba7cc8ea6d2ee343c2b4769cadf", func := "laurel/laurellaw01.TideStates", spec := "tideStates", unfollowed := true, recurses := true, apart := false }
def TideStatesSaid : Prop := tideStatesRow.holds Try.pinned (OpenSpec.ofChange tideStatesSpec)

/-- ITS FALSE NEIGHBOUR: 'it returns false'. Refute it at one input. -/
def tideStatesWrong : ChangeSpec := { name := "tideStates", fn := fun _ => fun
  | [d1, d2, d3, d4] => { results := [.lit (.bool false)], args := [d1, d2, d3, d4] }
  | _ => none }
def TideStatesWrongFalsely : Prop := tideStatesRow.holds Try.pinned (OpenSpec.ofChange tideStatesWrong)

/-- 'laurellaw01.TideBehind': WHATEVER THE INPUT: true; the input reads as it did. -/
def tideBehindSpec : ChangeSpec := { name := "tideBehind", fn := fun _ => fun
  | [d1, d2] => { results := [.lit (.bool true)], args := [d1, d2] }
  | _ => none }
def tideBehindRow : OpenClaim := { program := "ytaicfimbclibpaa", sum := "6e0c405b39e6eeb6e8195b692967bac3ea22cba7cc8ea6d2ee343c2b4769cadf", func := "laurel/laurellaw01.TideBehind", spec := "tideBehind", unfollowed := true, recurses := true, apart := false }
def TideBehindSaid : Prop := tideBehindRow.holds Try.pinned (OpenSpec.ofChange tideBehindSpec)

/-- ITS FALSE NEIGHBOUR: 'it returns false'. Refute it at one input. -/
def tideBehindWrong : ChangeSpec := { name := "tideBehind", fn := fun _ => fun
  | [d1, d2] => { results := [.lit (.bool false)], args := [d1, d2] }
  | _ => none }
def TideBehindWrongFalsely : Prop := tideBehindRow.holds Try.pinned (OpenSpec.ofChange tideBehindWrong)

/-- 'laurellaw01.TideLooks': WHATEVER THE INPUT: true; the input reads as it did. -/
def tideLooksSpec : ChangeSpec := { name := "tideLooks", fn := fun _ => fun
  | [d1, d2] => { results := [.lit (.bool true)], args := [d1, d2] }
  | _ => none }
def tideLooksRow : OpenClaim := { program := "ytaicfimbclibpaa", sum := "6e0c405b39e6eeb6e8195b692967bac3ea22cba7cc8ea6d2ee343c2b4769cadf", func := "laurel/laurellaw01.TideLooks", spec := "tideLooks", unfollowed := true, recurses := true, apart := false }
def TideLooksSaid : Prop := tideLooksRow.holds Try.pinned (OpenSpec.ofChange tideLooksSpec)

/-- ITS FALSE NEIGHBOUR: 'it returns false'. Refute it at one input. -/
def tideLooksWrong : ChangeSpec := { name := "tideLooks", fn := fun _ => fun
  | [d1, d2] => { results := [.lit (.bool false)], args := [d1, d2] }
  | _ => none }
def TideLooksWrongFalsely : Prop := tideLooksRow.holds Try.pinned (OpenSpec.ofChange tideLooksWrong)

/-- 'laurellaw01.TideAsks': WHATEVER THE INPUT: true; the input reads as it did. -/
def tideAsksSpec : ChangeSpec := { name := "tideAsks", fn := fun _ => fun
  | [d] => { results := [.lit (.bool true)], args := [d] }
  | _ => none }
def tideAsksRow : OpenClaim := { program := "ytaicfimbclibpaa", sum := "6e0c405b39e6eeb6e8195b692967bac3ea22cba7cc8ea6d2ee343c2b4769cadf", func := "laurel/laurellaw01.TideAsks", spec := "tideAsks", unfollowed := true, recurses := true, apart := false }
def TideAsksSaid : Prop := tideAsksRow.holds Try.pinned (OpenSpec.ofChange tideAsksSpec)

/-- ITS FALSE NEIGHBOUR: 'it returns false'. Refute it at one input. -/
def tideAsksWrong : ChangeSpec := { name := "tideAsks", fn := fun _ => fun
  | [d] => { results := [.lit (.bool false)], args := [d] }
  | _ => none }
def TideAsksWrongFalsely : Prop := tideAsksRow.holds Try.pinned (OpenSpec.ofChange tideAsksWrong)

/-- 'laurellaw01.TideAsked': WHATEVER THE INPUT: true; the input reads as it did. -/
def tideAskedSpec : ChangeSpec := { name := "tideAsked", fn := fun _ => fun
  | [d1, d2] => { results := [.lit (.bool true)], args := [d1, d2] }
  | _ => none }
def tideAskedRow : OpenClaim := { program := "ytaicfimbclibpaa", sum := "6e0c405b39e6eeb6e8195b692967bac3ea22cba7cc8ea6d2ee343c2b4769cadf", func := "laurel/laurellaw01.TideAsked", spec := "tideAsked", unfollowed := true, recurses := true, apart := false }
def TideAskedSaid : Prop := tideAskedRow.holds Try.pinned (OpenSpec.ofChange tideAskedSpec)

/-- ITS FALSE NEIGHBOUR: 'it returns false'. Refute it at one input. -/
def tideAskedWrong : ChangeSpec := { name := "tideAsked", fn := fun _ => fun
  | [d1, d2] => { results := [.lit (.bool false)], args := [d1, d2] }
  | _ => none }
def TideAskedWrongFalsely : Prop := tideAskedRow.holds Try.pinned (OpenSpec.ofChange tideAskedWrong)

/-- 'laurellaw01.TideBanks': WHATEVER THE INPUT: true; the input reads as it did. -/
def tideBanksSpec : ChangeSpec := { name := "tideBanks", fn := fun _ => fun
  | [d1, d2, d3, d4, d5] => { results := [.lit (.bool true)], args := [d1, d2, d3, d4, d5] }
  | _ => none }
def tideBanksRow : OpenClaim := { program := "ytaicfimbclibpaa", sum := "6e0c405b39e6eeb6e8195b692967bac3ea22cba7cc8ea6d2ee343c2b4769cadf", func := "laurel/laurellaw01.TideBanks", spec := "tideBanks", unfollowed := true, recurses := true, apart := false }
def TideBanksSaid : Prop := tideBanksRow.holds Try.pinned (OpenSpec.ofChange tideBanksSpec)

/-- ITS FALSE NEIGHBOUR: 'it returns false'. Refute it at one input. -/
def tideBanksWrong : ChangeSpec := { name := "tideBanks", fn := fun _ => fun
  | [d1, d2, d3, d4, d5] => { results := [.lit (.bool false)], args := [d1, d2, d3, d4, d5] }
  | _ => none }
def TideBanksWrongFalsely : Prop := tideBanksRow.holds Try.pinned (OpenSpec.ofChange tideBanksWrong)

/-- 'laurellaw01.TideMirrored': WHATEVER THE INPUT: true; the input reads as it did. -/
def tideMirroredSpec : ChangeSpec := { name := "tideMirrored", fn := fun _ => fun
  | [d] => { results := [.lit (.bool true)], args := [d] }
  | _ => none }
def tideMirroredRow : OpenClaim := { program := "ytaicfimbclibpaa", sum := "6e0c405b39e6eeb6e8195b692967bac3ea22cba7cc8ea6d2ee343c2b4769cadf", func := "laurel/laurellaw01.TideMirrored", spec := "tideMirrored", unfollowed := true, recurses := true, apart := false }
def TideMirroredSaid : Prop := tideMirroredRow.holds Try.pinned (OpenSpec.ofChange tideMirroredSpec)

/-- ITS FALSE NEIGHBOUR: 'it returns false'. Refute it at one input. -/
def tideMirroredWrong : ChangeSpec := { name := "tideMirrored", fn := fun _ => fun
  | [d] => { results := [.lit (.bool false)], args := [d] }
  | _ => none }
def TideMirroredWrongFalsely : Prop := tideMirroredRow.holds Try.pinned (OpenSpec.ofChange tideMirroredWrong)

/-- 'laurellaw01.TideLooked': WHATEVER THE INPUT: true; the input reads as it did. -/
def tideLookedSpec : ChangeSpec := { name := "tideLooked", fn := fun _ => fun
  | [d1, d2, d3] => { results := [.lit (.bool true)], args := [d1, d2, d3] }
  | _ => none }
def tideLookedRow : OpenClaim := { program := "ytaicfimbclibpaa", sum := "6e0c405b39e6eeb6e8195b692967bac3ea22cba7cc8ea6d2ee343c2b4769cadf", func := "laurel/laurellaw01.TideLooked", spec := "tideLooked", unfollowed := true, recurses := true, apart := false }
def TideLookedSaid : Prop := tideLookedRow.holds Try.pinned (OpenSpec.ofChange tideLookedSpec)

/-- ITS FALSE NEIGHBOUR: 'it returns false'. Refute it at one input. -/
def tideLookedWrong : ChangeSpec := { name := "tideLooked", fn := fun _ => fun
  | [d1, d2, d3] => { results := [.lit (.bool false)], args := [d1, d2, d3] }
  | _ => none }
def TideLookedWrongFalsely : Prop := tideLookedRow.holds Try.pinned (OpenSpec.ofChange tideLookedWrong)

/-- 'laurellaw01.TideStays': WHATEVER THE INPUT: true; the input reads as it did. -/
def tideStaysSpec : ChangeSpec := { name := "tideStays", fn := fun _ => fun
  | [d1, d2, d3, d4] => { results := [.lit (.bool true)], args := [d1, d2, d3, d4] }
  | _ => none }
def tideStaysRow : OpenClaim := { program := "ytaicfimbclibpaa", sum := "6e0c405b39e6eeb6e8195b692967bac3ea22cba7cc8ea6d2ee343c2b4769cadf", func := "laurel/laurellaw01.TideStays", spec := "tideStays", unfollowed := true, recurses := true, apart := false }
def TideStaysSaid : Prop := tideStaysRow.holds Try.pinned (OpenSpec.ofChange tideStaysSpec)

/-- ITS FALSE NEIGHBOUR: 'it returns false'. Refute it at one input. -/
def tideStaysWrong : ChangeSpec := { name := "tideStays", fn := fun _ => fun
  | [d1, d2, d3, d4] => { results := [.lit (.bool false)], args := [d1, d2, d3, d4] }
  | _ => none }
def TideStaysWrongFalsely : Prop := tideStaysRow.holds Try.pinned (OpenSpec.ofChange tideStaysWrong)

/-- 'laurellaw01.TideParted': WHATEVER THE INPUT: true; the input reads as it did. -/
def tidePartedSpec : ChangeSpec := { name := "tideParted", fn := fun _ => fun
  | [d1, d2, d3] => { results := [.lit (.bool true)], args := [d1, d2, d3] }
  | _ => none }
def tidePartedRow : OpenClaim := { program := "ytaicfimbclibpaa", sum := "6e0c405b39e6eeb6e8195b692967bac3ea22cba7cc8ea6d2ee343c2b4769cadf", func := "laurel/laurellaw01.TideParted", spec := "tideParted", unfollowed := true, recurses := true, apart := false }
def TidePartedSaid : Prop := tidePartedRow.holds Try.pinned (OpenSpec.ofChange tidePartedSpec)

/-- ITS FALSE NEIGHBOUR: 'it returns false'. Refute it at one input. -/
def tidePartedWrong : ChangeSpec := { name := "tideParted", fn := fun _ => fun
  | [d1, d2, d3] => { results := [.lit (.bool false)], args := [d1, d2, d3] }
  | _ => none }
def TidePartedWrongFalsely : Prop := tidePartedRow.holds Try.pinned (OpenSpec.ofChange tidePartedWrong)

/-- 'laurellaw01.TideCrossed': WHATEVER THE INPUT: true; the input reads as it did. -/
def tideCrossedSpec : ChangeSpec := { name := "tideCrossed", fn := fun _ => fun
  | [d1, d2] => { results := [.lit (.bool true)], args := [d1, d2] }
  | _ => none }
def tideCrossedRow : OpenClaim := { program := "ytaicfimbclibpaa", sum := "6e0c405b39e6eeb6e8195b692967bac3ea22cba7cc8ea6d2ee343c2b4769cadf", func := "laurel/laurellaw01.TideCrossed", spec := "tideCrossed", inPlace := ["slices.overlaps[int]"], unfollowed := true, recurses := true, apart := false }
def TideCrossedSaid : Prop := tideCrossedRow.holds Try.pinned (OpenSpec.ofChange tideCrossedSpec)

/-- ITS FALSE NEIGHBOUR: 'it returns false'. Refute it at one input. -/
def tideCrossedWrong : ChangeSpec := { name := "tideCrossed", fn := fun _ => fun
  | [d1, d2] => { results := [.lit (.bool false)], args := [d1, d2] }
  | _ => none }
def TideCrossedWrongFalsely : Prop := tideCrossedRow.holds Try.pinned (OpenSpec.ofChange tideCrossedWrong)

/- THE SECOND FORM. 'bulk': how many values and letters a reading holds, each counted each time it is reached (what is shared counts as often as it is met; a slice's spare places count too). A statement '..UptoSaid' is the law's where the arguments, and the package variables that the reading takes, are together of bulk at most 1048576: NARROWER than '..Said'. Prove '..Said' where nothing that the law and all that it calls make is longer than what came in: it says more and counts as full. Else prove '..UptoSaid'. A law counts once. -/
mutual
def uptoBulk {H : Type} : DataW H → Nat
  | .lit (.string bytes) => bytes.length + 1
  | .lit _ => 1
  | .nil => 1
  | .ptr d => uptoBulk d + 1
  | .slice elems spare => uptoBulkAll elems + uptoBulkAll spare + 1
  | .agg parts => uptoBulkAll parts + 1
  | .iface _ d => uptoBulk d + 1
  | .map entries => uptoBulkEntries entries + 1
  | .held _ => 1
def uptoBulkAll {H : Type} : List (DataW H) → Nat
  | [] => 0
  | d :: r => uptoBulk d + uptoBulkAll r
def uptoBulkEntries {H : Type} : List (Lit × DataW H) → Nat
  | [] => 0
  | x :: r => uptoBulkEntry x + uptoBulkEntries r
def uptoBulkEntry {H : Type} : Lit × DataW H → Nat
  | (.string bytes, d) => bytes.length + uptoBulk d + 1
  | (_, d) => uptoBulk d + 1
 end
def uptoSmall : (H : Type) → List (DataW H) → Bool := fun _ ds => decide (uptoBulkAll ds ≤ 1048576)
def OpenSpec.upto (s : _root_.Go.ChangeSpec) : _root_.Go.OpenSpec := { _root_.Go.OpenSpec.ofChange s with cond := some uptoSmall }

/-- 'laurellaw01.TideTold', WHERE WHAT IT READS IS OF BULK AT MOST 1048576: true; the input reads as it did. -/
def tideToldUptoRow : OpenClaim := { program := "ytaicfimbclibpaa", sum := "6e0c405b39e6eeb6e8195b692967bac3ea22cba7cc8ea6d2ee343c2b4769cadf", func := "laurel/laurellaw01.TideTold", spec := "tideTold", unfollowed := true, recurses := true, apart := false, narrowed := true }
def TideToldUptoSaid : Prop := tideToldUptoRow.holds Try.pinned (OpenSpec.upto tideToldSpec)

/-- 'laurellaw01.TideHigher', WHERE WHAT IT READS IS OF BULK AT MOST 1048576: true; the input reads as it did. -/
def tideHigherUptoRow : OpenClaim := { program := "ytaicfimbclibpaa", sum := "6e0c405b39e6eeb6e8195b692967bac3ea22cba7cc8ea6d2ee343c2b4769cadf", func := "laurel/laurellaw01.TideHigher", spec := "tideHigher", unfollowed := true, recurses := true, apart := false, narrowed := true }
def TideHigherUptoSaid : Prop := tideHigherUptoRow.holds Try.pinned (OpenSpec.upto tideHigherSpec)

/-- 'laurellaw01.TideChecks', WHERE WHAT IT READS IS OF BULK AT MOST 1048576: true; the input reads as it did. -/
def tideChecksUptoRow : OpenClaim := { program := "ytaicfimbclibpaa", sum := "6e0c405b39e6eeb6e8195b692967bac3ea22cba7cc8ea6d2ee343c2b4769cadf", func := "laurel/laurellaw01.TideChecks", spec := "tideChecks", unfollowed := true, recurses := true, apart := false, narrowed := true }
def TideChecksUptoSaid : Prop := tideChecksUptoRow.holds Try.pinned (OpenSpec.upto tideChecksSpec)

/-- 'laurellaw01.TideShifted', WHERE WHAT IT READS IS OF BULK AT MOST 1048576: true; the input reads as it did. -/
def tideShiftedUptoRow : OpenClaim := { program := "ytaicfimbclibpaa", sum := "6e0c405b39e6eeb6e8195b692967bac3ea22cba7cc8ea6d2ee343c2b4769cadf", func := "laurel/laurellaw01.TideShifted", spec := "tideShifted", unfollowed := true, recurses := true, apart := false, narrowed := true }
def TideShiftedUptoSaid : Prop := tideShiftedUptoRow.holds Try.pinned (OpenSpec.upto tideShiftedSpec)

/-- 'laurellaw01.TideStates', WHERE WHAT IT READS IS OF BULK AT MOST 1048576: true; the input reads as it did. -/
def tideStatesUptoRow : OpenClaim := { program := "ytaicfimbclibpaa", sum := "6e0c405b39e6eeb6e8195b692967bac3ea22cba7cc8ea6d2ee343c2b4769cadf", func := "laurel/laurellaw01.TideStates", spec := "tideStates", unfollowed := true, recurses := true, apart := false, narrowed := true }
def TideStatesUptoSaid : Prop := tideStatesUptoRow.holds Try.pinned (OpenSpec.upto tideStatesSpec)

/-- 'laurellaw01.TideBehind', WHERE WHAT IT READS IS OF BULK AT MOST 1048576: true; the input reads as it did. -/
def tideBehindUptoRow : OpenClaim := { program := "ytaicfimbclibpaa", sum := "6e0c405b39e6eeb6e8195b692967bac3ea22cba7cc8ea6d2ee343c2b4769cadf", func := "laurel/laurellaw01.TideBehind", spec := "tideBehind", unfollowed := true, recurses := true, apart := false, narrowed := true }
def TideBehindUptoSaid : Prop := tideBehindUptoRow.holds Try.pinned (OpenSpec.upto tideBehindSpec)

/-- 'laurellaw01.TideLooks', WHERE WHAT IT READS IS OF BULK AT MOST 1048576: true; the input reads as it did. -/
def tideLooksUptoRow : OpenClaim := { program := "ytaicfimbclibpaa", sum := "6e0c405b39e6eeb6e8195b692967bac3ea22cba7cc8ea6d2ee343c2b4769cadf", func := "laurel/laurellaw01.TideLooks", spec := "tideLooks", unfollowed := true, recurses := true, apart := false, narrowed := true }
def TideLooksUptoSaid : Prop := tideLooksUptoRow.holds Try.pinned (OpenSpec.upto tideLooksSpec)

/-- 'laurellaw01.TideAsks', WHERE WHAT IT READS IS OF BULK AT MOST 1048576: true; the input reads as it did. -/
def tideAsksUptoRow : OpenClaim := { program := "ytaicfimbclibpaa", sum := "6e0c405b39e6eeb6e8195b692967bac3ea22cba7cc8ea6d2ee343c2b4769cadf", func := "laurel/laurellaw01.TideAsks", spec := "tideAsks", unfollowed := true, recurses := true, apart := false, narrowed := true }
def TideAsksUptoSaid : Prop := tideAsksUptoRow.holds Try.pinned (OpenSpec.upto tideAsksSpec)

/-- 'laurellaw01.TideAsked', WHERE WHAT IT READS IS OF BULK AT MOST 1048576: true; the input reads as it did. -/
def tideAskedUptoRow : OpenClaim := { program := "ytaicfimbclibpaa", sum := "6e0c405b39e6eeb6e8195b692967bac3ea22cba7cc8ea6d2ee343c2b4769cadf", func := "laurel/laurellaw01.TideAsked", spec := "tideAsked", unfollowed := true, recurses := true, apart := false, narrowed := true }
def TideAskedUptoSaid : Prop := tideAskedUptoRow.holds Try.pinned (OpenSpec.upto tideAskedSpec)

/-- 'laurellaw01.TideBanks', WHERE WHAT IT READS IS OF BULK AT MOST 1048576: true; the input reads as it did. -/
def tideBanksUptoRow : OpenClaim := { program := "ytaicfimbclibpaa", sum := "6e0c405b39e6eeb6e8195b692967bac3ea22cba7cc8ea6d2ee343c2b4769cadf", func := "laurel/laurellaw01.TideBanks", spec := "tideBanks", unfollowed := true, recurses := true, apart := false, narrowed := true }
def TideBanksUptoSaid : Prop := tideBanksUptoRow.holds Try.pinned (OpenSpec.upto tideBanksSpec)

/-- 'laurellaw01.TideMirrored', WHERE WHAT IT READS IS OF BULK AT MOST 1048576: true; the input reads as it did. -/
def tideMirroredUptoRow : OpenClaim := { program := "ytaicfimbclibpaa", sum := "6e0c405b39e6eeb6e8195b692967bac3ea22cba7cc8ea6d2ee343c2b4769cadf", func := "laurel/laurellaw01.TideMirrored", spec := "tideMirrored", unfollowed := true, recurses := true, apart := false, narrowed := true }
def TideMirroredUptoSaid : Prop := tideMirroredUptoRow.holds Try.pinned (OpenSpec.upto tideMirroredSpec)

/-- 'laurellaw01.TideLooked', WHERE WHAT IT READS IS OF BULK AT MOST 1048576: true; the input reads as it did. -/
def tideLookedUptoRow : OpenClaim := { program := "ytaicfimbclibpaa", sum := "6e0c405b39e6eeb6e8195b692967bac3ea22cba7cc8ea6d2ee343c2b4769cadf", func := "laurel/laurellaw01.TideLooked", spec := "tideLooked", unfollowed := true, recurses := true, apart := false, narrowed := true }
def TideLookedUptoSaid : Prop := tideLookedUptoRow.holds Try.pinned (OpenSpec.upto tideLookedSpec)

/-- 'laurellaw01.TideStays', WHERE WHAT IT READS IS OF BULK AT MOST 1048576: true; the input reads as it did. -/
def tideStaysUptoRow : OpenClaim := { program := "ytaicfimbclibpaa", sum := "6e0c405b39e6eeb6e8195b692967bac3ea22cba7cc8ea6d2ee343c2b4769cadf", func := "laurel/laurellaw01.TideStays", spec := "tideStays", unfollowed := true, recurses := true, apart := false, narrowed := true }
def TideStaysUptoSaid : Prop := tideStaysUptoRow.holds Try.pinned (OpenSpec.upto tideStaysSpec)

/-- 'laurellaw01.TideParted', WHERE WHAT IT READS IS OF BULK AT MOST 1048576: true; the input reads as it did. -/
def tidePartedUptoRow : OpenClaim := { program := "ytaicfimbclibpaa", sum := "6e0c405b39e6eeb6e8195b692967bac3ea22cba7cc8ea6d2ee343c2b4769cadf", func := "laurel/laurellaw01.TideParted", spec := "tideParted", unfollowed := true, recurses := true, apart := false, narrowed := true }
def TidePartedUptoSaid : Prop := tidePartedUptoRow.holds Try.pinned (OpenSpec.upto tidePartedSpec)

/-- 'laurellaw01.TideCrossed', WHERE WHAT IT READS IS OF BULK AT MOST 1048576: true; the input reads as it did. -/
def tideCrossedUptoRow : OpenClaim := { program := "ytaicfimbclibpaa", sum := "6e0c405b39e6eeb6e8195b692967bac3ea22cba7cc8ea6d2ee343c2b4769cadf", func := "laurel/laurellaw01.TideCrossed", spec := "tideCrossed", inPlace := ["slices.overlaps[int]"], unfollowed := true, recurses := true, apart := false, narrowed := true }
def TideCrossedUptoSaid : Prop := tideCrossedUptoRow.holds Try.pinned (OpenSpec.upto tideCrossedSpec)

end Rows
end Go.Proofs.Ytaicfimbclibpaa
