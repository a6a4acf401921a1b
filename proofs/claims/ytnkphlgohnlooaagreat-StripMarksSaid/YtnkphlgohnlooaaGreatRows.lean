/-
  No cell of these rows narrows 'for every input' (looked for: loops, veiled, ifaces, maps, wideKeys, modest, calm, conditions, laid).
  DERIVED. THE GIVEN ROWS OF THIS SEAT. 4 by the template 'for every input the law returns true; each argument reads behind the call as it read before'; 0 by the template 'total and deterministic' (their statements: YtnkphlgohnlooaaGreatTotals.lean).
  GIVEN WITH THE SEED: the statements are not yours to turn. If you find one false, say at which input.
  Laid BY PROGRAM, IN A SANDBOX (cutbox-rows.mjs): the forced cells as the released guide's own fill.sh prints them over the translation 266fe1181ba8d1d4… (all of the seat's roots in one cut). By AI agents, Wed Nov 11 2026. No macro, syntax, notation, axiom, sorry.
-/
import Derived.Test.YtnkphlgohnlooaaGreatChecked
import GoSem.Claim
import GoSem.ClaimJoined
import GoSem.ClaimMapViews
import Derived.JoinedTies
import Derived.KernelRfl
namespace Go.Proofs.YtnkphlgohnlooaaGreat
/- THE CELL 'sum', in the pinned program and in every row, IS THE sha256 OF THE DUMP (.gsa) THAT YtnkphlgohnlooaaGreatProg.lean LOADS. Nothing in Lean hashes anything: it is a label: what it is worth is what the hold of that sum in a sandbox is worth. -/
noncomputable def Tryz.pinned : Pinned := { name := "ytnkphlgohnlooaagreat", sum := "266fe1181ba8d1d44c0520203d7b266e41981f006372fbd76501abb7662a2b2f", checked := Tryz.checked }
namespace Rows
def none {H : Type} : Left H := { results := [], args := [] }

/-- 'laurellaw09.StripMarks': WHATEVER THE INPUT: true; the input reads as it did. -/
def stripMarksSpec : ChangeSpec := { name := "stripMarks", fn := fun _ => fun
  | [d1, d2, d3, d4, d5] => { results := [.lit (.bool true)], args := [d1, d2, d3, d4, d5] }
  | _ => none }
def stripMarksRow : OpenClaim := { program := "ytnkphlgohnlooaagreat", sum := "266fe1181ba8d1d44c0520203d7b266e41981f006372fbd76501abb7662a2b2f", func := "laurel/laurellaw09.StripMarks", spec := "stripMarks", unfollowed := true, recurses := true, plainKeys := false, apart := false }
def StripMarksSaid : Prop := stripMarksRow.holds Tryz.pinned (OpenSpec.ofChange stripMarksSpec)

/-- ITS FALSE NEIGHBOUR: 'it returns false'. Refute it at one input. -/
def stripMarksWrong : ChangeSpec := { name := "stripMarks", fn := fun _ => fun
  | [d1, d2, d3, d4, d5] => { results := [.lit (.bool false)], args := [d1, d2, d3, d4, d5] }
  | _ => none }
def StripMarksWrongFalsely : Prop := stripMarksRow.holds Tryz.pinned (OpenSpec.ofChange stripMarksWrong)

/-- 'laurellaw09.StripTaken': WHATEVER THE INPUT: true; the input reads as it did. -/
def stripTakenSpec : ChangeSpec := { name := "stripTaken", fn := fun _ => fun
  | [d1, d2, d3] => { results := [.lit (.bool true)], args := [d1, d2, d3] }
  | _ => none }
def stripTakenRow : OpenClaim := { program := "ytnkphlgohnlooaagreat", sum := "266fe1181ba8d1d44c0520203d7b266e41981f006372fbd76501abb7662a2b2f", func := "laurel/laurellaw09.StripTaken", spec := "stripTaken", unfollowed := true, recurses := true, plainKeys := false, apart := false }
def StripTakenSaid : Prop := stripTakenRow.holds Tryz.pinned (OpenSpec.ofChange stripTakenSpec)

/-- ITS FALSE NEIGHBOUR: 'it returns false'. Refute it at one input. -/
def stripTakenWrong : ChangeSpec := { name := "stripTaken", fn := fun _ => fun
  | [d1, d2, d3] => { results := [.lit (.bool false)], args := [d1, d2, d3] }
  | _ => none }
def StripTakenWrongFalsely : Prop := stripTakenRow.holds Tryz.pinned (OpenSpec.ofChange stripTakenWrong)

/-- 'laurellaw09.StripChecks': WHATEVER THE INPUT: true; the input reads as it did. -/
def stripChecksSpec : ChangeSpec := { name := "stripChecks", fn := fun _ => fun
  | [d1, d2, d3, d4] => { results := [.lit (.bool true)], args := [d1, d2, d3, d4] }
  | _ => none }
def stripChecksRow : OpenClaim := { program := "ytnkphlgohnlooaagreat", sum := "266fe1181ba8d1d44c0520203d7b266e41981f006372fbd76501abb7662a2b2f", func := "laurel/laurellaw09.StripChecks", spec := "stripChecks", unfollowed := true, recurses := true, plainKeys := false, apart := false }
def StripChecksSaid : Prop := stripChecksRow.holds Tryz.pinned (OpenSpec.ofChange stripChecksSpec)

/-- ITS FALSE NEIGHBOUR: 'it returns false'. Refute it at one input. -/
def stripChecksWrong : ChangeSpec := { name := "stripChecks", fn := fun _ => fun
  | [d1, d2, d3, d4] => { results := [.lit (.bool false)], args := [d1, d2, d3, d4] }
  | _ => none }
def StripChecksWrongFalsely : Prop := stripChecksRow.holds Tryz.pinned (OpenSpec.ofChange stripChecksWrong)

/-- 'laurellaw09.StripSmall': WHATEVER THE INPUT: true; the input reads as it did. -/
def stripSmallSpec : ChangeSpec := { name := "stripSmall", fn := fun _ => fun
  | [] => { results := [.lit (.bool true)], args := [] }
  | _ => none }
def stripSmallRow : OpenClaim := { program := "ytnkphlgohnlooaagreat", sum := "266fe1181ba8d1d44c0520203d7b266e41981f006372fbd76501abb7662a2b2f", func := "laurel/laurellaw09.StripSmall", spec := "stripSmall", unfollowed := true, recurses := true, plainKeys := false, apart := false }
def StripSmallSaid : Prop := stripSmallRow.holds Tryz.pinned (OpenSpec.ofChange stripSmallSpec)

/-- ITS FALSE NEIGHBOUR: 'it returns false'. Refute it at one input. -/
def stripSmallWrong : ChangeSpec := { name := "stripSmall", fn := fun _ => fun
  | [] => { results := [.lit (.bool false)], args := [] }
  | _ => none }
def StripSmallWrongFalsely : Prop := stripSmallRow.holds Tryz.pinned (OpenSpec.ofChange stripSmallWrong)

/- THE SECOND FORM. 'bulk': how many values and letters a reading holds, each counted each time it is reached (what is shared counts as often as it is met; a slice's spare places count too). A statement '..UptoSaid' is the law's where the arguments, and the package variables that the reading takes, are together of bulk at most 1048576: NARROWER than '..Said'. Prove '..Said' where nothing that the law and all that it calls make is longer than what came in: it says more and counts as full. Else prove '..UptoSaid'. A law counts once. -/
mutual
def uptoBulk {H : Type} : DataW H → Nat
  | .lit (.string bytes) => bytes.length + 1
  | .lit _ => 1
  | .nil => 1
  | .ptr d => uptoBulk d + 1
  | .slice elems spare => uptoBulkAll elems + uptoBulkAll spare + 1
  | .agg parts => uptoBulkAll parts + 1
  | .iface _ d => uptoBulk d + 1
  | .map entries => uptoBulkEntries entries + 1
  | .held _ => 1
def uptoBulkAll {H : Type} : List (DataW H) → Nat
  | [] => 0
  | d :: r => uptoBulk d + uptoBulkAll r
def uptoBulkEntries {H : Type} : List (Lit × DataW H) → Nat
  | [] => 0
  | x :: r => uptoBulkEntry x + uptoBulkEntries r
def uptoBulkEntry {H : Type} : Lit × DataW H → Nat
  | (.string bytes, d) => bytes.length + uptoBulk d + 1
  | (_, d) => uptoBulk d + 1
 end
def uptoSmall : (H : Type) → List (DataW H) → Bool := fun _ ds => decide (uptoBulkAll ds ≤ 1048576)
def OpenSpec.upto (s : _root_.Go.ChangeSpec) : _root_.Go.OpenSpec := { _root_.Go.OpenSpec.ofChange s with cond := some uptoSmall }

/-- 'laurellaw09.StripMarks', WHERE WHAT IT READS IS OF BULK AT MOST 1048576: true; the input reads as it did. -/
def stripMarksUptoRow : OpenClaim := { program := "ytnkphlgohnlooaagreat", sum := "266fe1181ba8d1d44c0520203d7b266e41981f006372fbd76501abb7662a2b2f", func := "laurel/laurellaw09.StripMarks", spec := "stripMarks", unfollowed := true, recurses := true, plainKeys := false, apart := false, narrowed := true }
def StripMarksUptoSaid : Prop := stripMarksUptoRow.holds Tryz.pinned (OpenSpec.upto stripMarksSpec)

/-- 'laurellaw09.StripTaken', WHERE WHAT IT READS IS OF BULK AT MOST 1048576: true; the input reads as it did. -/
def stripTakenUptoRow : OpenClaim := { program := "ytnkphlgohnlooaagreat", sum := "266fe1181ba8d1d44c0520203d7b266e41981f006372fbd76501abb7662a2b2f", func := "laurel/laurellaw09.StripTaken", spec := "stripTaken", unfollowed := true, recurses := true, plainKeys := false, apart := false, narrowed := true }
def StripTakenUptoSaid : Prop := stripTakenUptoRow.holds Tryz.pinned (OpenSpec.upto stripTakenSpec)

/-- 'laurellaw09.StripChecks', WHERE WHAT IT READS IS OF BULK AT MOST 1048576: true; the input reads as it did. -/
def stripChecksUptoRow : OpenClaim := { program := "ytnkphlgohnlooaagreat", sum := "266fe1181ba8d1d44c0520203d7b266e41981f006372fbd76501abb7662a2b2f", func := "laurel/laurellaw09.StripChecks", spec := "stripChecks", unfollowed := true, recurses := true, plainKeys := false, apart := false, narrowed := true }
def StripChecksUptoSaid : Prop := stripChecksUptoRow.holds Tryz.pinned (OpenSpec.upto stripChecksSpec)

/-- 'laurellaw09.StripSmall', WHERE WHAT IT READS IS OF BULK AT MOST 1048576: true; the input reads as it did. -/
def stripSmallUptoRow : OpenClaim := { program := "ytnkphlgohnlooaagreat", sum := "266fe1181ba8d1d44c0520203d7b266e41981f006372fbd76501abb7662a2b2f", func := "laurel/laurellaw09.StripSmall", spec := "stripSmall", unfollowed := true, recurses := true, plainKeys := false, apart := false, narrowed := true }
def StripSmallUptoSaid : Prop := stripSmallUptoRow.holds Tryz.pinned (OpenSpec.upto stripSmallSpec)

end Rows
end Go.Proofs.YtnkphlgohnlooaaGreat
