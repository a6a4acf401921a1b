/-
  No cell of these rows narrows 'for every input' (looked for: loops, veiled, ifaces, maps, wideKeys, modest, calm, conditions, laid).
  DERIVED. THE GIVEN ROWS OF THIS SEAT. 9 by the template 'for every input the law returns true; each argument reads behind the call as it read before'; 0 by the template 'total and deterministic' (their statements: YtnkphlgohnlooaaTotals.lean).
  GIVEN WITH THE SEED: the statements are not yours to turn. If you find one false, say at which input.
  Laid BY PROGRAM, IN A SANDBOX (cutbox-rows.mjs): the forced cells as the released guide's own fill.sh prints them over the translation 2058ca0d2800a91e… (all of the seat's roots in one cut). By AI agents, Wed Nov 11 2026. No macro, syntax, notation, axiom, sorry.
-/
import Derived.Test.YtnkphlgohnlooaaChecked
import GoSem.Claim
import GoSem.ClaimJoined
import GoSem.ClaimMapViews
import Derived.JoinedTies
import Derived.KernelRfl
namespace Go.Proofs.Ytnkphlgohnlooaa
/- THE CELL 'sum', in the pinned program and in every row, IS THE sha256 OF THE DUMP (.gsa) THAT YtnkphlgohnlooaaProg.lean LOADS. Nothing in Lean hashes anything: it is a label: what it is worth is what the hold of that sum in a sandbox is worth. -/
noncomputable def Try.pinned : Pinned := { name := "ytnkphlgohnlooaa", sum := "2058ca0d2800a91e171648987f12a2b28d738e702241aaf731a20c785bc1ccc0", checked := Try.checked }
namespace Rows
def none {H : Type} : Left H := { results := [], args := [] }

/-- 'laurellaw09.StripWeighed': WHATEVER THE INPUT: true; the input reads as it did. -/
def stripWeighedSpec : ChangeSpec := { name := "stripWeighed", fn := fun _ => fun
  | [d1, d2, d3] => { results := [.lit (.bool true)], args := [d1, d2, d3] }
  | _ => none }
def stripWeighedRow : OpenClaim := { program := "ytnkphlgohnlooaa", sum := "2058ca0d2800a91e171648987f12a2b28d738e702241aaf731a20c785bc1ccc0", func := "laurel/laurellaw09.StripWeighed", spec := "stripWeighed", unfollowed := true, recurses := true, plainKeys := false, apart := false }
def StripWeighedSaid : Prop := stripWeighedRow.holds Try.pinned (OpenSpec.ofChange stripWeighedSpec)

/-- ITS FALSE NEIGHBOUR: 'it returns false'. Refute it at one input. -/
def stripWeighedWrong : ChangeSpec := { name := "stripWeighed", fn := fun _ => fun
  | [d1, d2, d3] => { results := [.lit (.bool false)], args := [d1, d2, d3] }
  | _ => none }
def StripWeighedWrongFalsely : Prop := stripWeighedRow.holds Try.pinned (OpenSpec.ofChange stripWeighedWrong)

/-- 'laurellaw09.StripShares': WHATEVER THE INPUT: true; the input reads as it did. -/
def stripSharesSpec : ChangeSpec := { name := "stripShares", fn := fun _ => fun
  | [d] => { results := [.lit (.bool true)], args := [d] }
  | _ => none }
def stripSharesRow : OpenClaim := { program := "ytnkphlgohnlooaa", sum := "2058ca0d2800a91e171648987f12a2b28d738e702241aaf731a20c785bc1ccc0", func := "laurel/laurellaw09.StripShares", spec := "stripShares", unfollowed := true, recurses := true, plainKeys := false, apart := false }
def StripSharesSaid : Prop := stripSharesRow.holds Try.pinned (OpenSpec.ofChange stripSharesSpec)

/-- ITS FALSE NEIGHBOUR: 'it returns false'. Refute it at one input. -/
def stripSharesWrong : ChangeSpec := { name := "stripShares", fn := fun _ => fun
  | [d] => { results := [.lit (.bool false)], args := [d] }
  | _ => none }
def StripSharesWrongFalsely : Prop := stripSharesRow.holds Try.pinned (OpenSpec.ofChange stripSharesWrong)

/-- 'laurellaw09.StripLacked': WHATEVER THE INPUT: true; the input reads as it did. -/
def stripLackedSpec : ChangeSpec := { name := "stripLacked", fn := fun _ => fun
  | [d1, d2] => { results := [.lit (.bool true)], args := [d1, d2] }
  | _ => none }
def stripLackedRow : OpenClaim := { program := "ytnkphlgohnlooaa", sum := "2058ca0d2800a91e171648987f12a2b28d738e702241aaf731a20c785bc1ccc0", func := "laurel/laurellaw09.StripLacked", spec := "stripLacked", unfollowed := true, recurses := true, plainKeys := false, apart := false }
def StripLackedSaid : Prop := stripLackedRow.holds Try.pinned (OpenSpec.ofChange stripLackedSpec)

/-- ITS FALSE NEIGHBOUR: 'it returns false'. Refute it at one input. -/
def stripLackedWrong : ChangeSpec := { name := "stripLacked", fn := fun _ => fun
  | [d1, d2] => { results := [.lit (.bool false)], args := [d1, d2] }
  | _ => none }
def StripLackedWrongFalsely : Prop := stripLackedRow.holds Try.pinned (OpenSpec.ofChange stripLackedWrong)

/-- 'laurellaw09.StripSeeded': WHATEVER THE INPUT: true; the input reads as it did. -/
def stripSeededSpec : ChangeSpec := { name := "stripSeeded", fn := fun _ => fun
  | [d1, d2, d3] => { results := [.lit (.bool true)], args := [d1, d2, d3] }
  | _ => none }
def stripSeededRow : OpenClaim := { program := "ytnkphlgohnlooaa", sum := "2058ca0d2800a91e171648987f12a2b28d738e702241aaf731a20c785bc1ccc0", func := "laurel/laurellaw09.StripSeeded", spec := "stripSeeded", unfollowed := true, recurses := true, plainKeys := false, apart := false }
def StripSeededSaid : Prop := stripSeededRow.holds Try.pinned (OpenSpec.ofChange stripSeededSpec)

/-- ITS FALSE NEIGHBOUR: 'it returns false'. Refute it at one input. -/
def stripSeededWrong : ChangeSpec := { name := "stripSeeded", fn := fun _ => fun
  | [d1, d2, d3] => { results := [.lit (.bool false)], args := [d1, d2, d3] }
  | _ => none }
def StripSeededWrongFalsely : Prop := stripSeededRow.holds Try.pinned (OpenSpec.ofChange stripSeededWrong)

/-- 'laurellaw09.StripProved': WHATEVER THE INPUT: true; the input reads as it did. -/
def stripProvedSpec : ChangeSpec := { name := "stripProved", fn := fun _ => fun
  | [d1, d2] => { results := [.lit (.bool true)], args := [d1, d2] }
  | _ => none }
def stripProvedRow : OpenClaim := { program := "ytnkphlgohnlooaa", sum := "2058ca0d2800a91e171648987f12a2b28d738e702241aaf731a20c785bc1ccc0", func := "laurel/laurellaw09.StripProved", spec := "stripProved", unfollowed := true, recurses := true, plainKeys := false, apart := false }
def StripProvedSaid : Prop := stripProvedRow.holds Try.pinned (OpenSpec.ofChange stripProvedSpec)

/-- ITS FALSE NEIGHBOUR: 'it returns false'. Refute it at one input. -/
def stripProvedWrong : ChangeSpec := { name := "stripProved", fn := fun _ => fun
  | [d1, d2] => { results := [.lit (.bool false)], args := [d1, d2] }
  | _ => none }
def StripProvedWrongFalsely : Prop := stripProvedRow.holds Try.pinned (OpenSpec.ofChange stripProvedWrong)

/-- 'laurellaw09.StripHonest': WHATEVER THE INPUT: true; the input reads as it did. -/
def stripHonestSpec : ChangeSpec := { name := "stripHonest", fn := fun _ => fun
  | [d] => { results := [.lit (.bool true)], args := [d] }
  | _ => none }
def stripHonestRow : OpenClaim := { program := "ytnkphlgohnlooaa", sum := "2058ca0d2800a91e171648987f12a2b28d738e702241aaf731a20c785bc1ccc0", func := "laurel/laurellaw09.StripHonest", spec := "stripHonest", unfollowed := true, recurses := true, plainKeys := false, apart := false }
def StripHonestSaid : Prop := stripHonestRow.holds Try.pinned (OpenSpec.ofChange stripHonestSpec)

/-- ITS FALSE NEIGHBOUR: 'it returns false'. Refute it at one input. -/
def stripHonestWrong : ChangeSpec := { name := "stripHonest", fn := fun _ => fun
  | [d] => { results := [.lit (.bool false)], args := [d] }
  | _ => none }
def StripHonestWrongFalsely : Prop := stripHonestRow.holds Try.pinned (OpenSpec.ofChange stripHonestWrong)

/-- 'laurellaw09.StripMissed': WHATEVER THE INPUT: true; the input reads as it did. -/
def stripMissedSpec : ChangeSpec := { name := "stripMissed", fn := fun _ => fun
  | [d] => { results := [.lit (.bool true)], args := [d] }
  | _ => none }
def stripMissedRow : OpenClaim := { program := "ytnkphlgohnlooaa", sum := "2058ca0d2800a91e171648987f12a2b28d738e702241aaf731a20c785bc1ccc0", func := "laurel/laurellaw09.StripMissed", spec := "stripMissed", unfollowed := true, recurses := true, plainKeys := false, apart := false }
def StripMissedSaid : Prop := stripMissedRow.holds Try.pinned (OpenSpec.ofChange stripMissedSpec)

/-- ITS FALSE NEIGHBOUR: 'it returns false'. Refute it at one input. -/
def stripMissedWrong : ChangeSpec := { name := "stripMissed", fn := fun _ => fun
  | [d] => { results := [.lit (.bool false)], args := [d] }
  | _ => none }
def StripMissedWrongFalsely : Prop := stripMissedRow.holds Try.pinned (OpenSpec.ofChange stripMissedWrong)

/-- 'laurellaw09.StripTold': WHATEVER THE INPUT: true; the input reads as it did. -/
def stripToldSpec : ChangeSpec := { name := "stripTold", fn := fun _ => fun
  | [d1, d2] => { results := [.lit (.bool true)], args := [d1, d2] }
  | _ => none }
def stripToldRow : OpenClaim := { program := "ytnkphlgohnlooaa", sum := "2058ca0d2800a91e171648987f12a2b28d738e702241aaf731a20c785bc1ccc0", func := "laurel/laurellaw09.StripTold", spec := "stripTold", unfollowed := true, recurses := true, plainKeys := false, apart := false }
def StripToldSaid : Prop := stripToldRow.holds Try.pinned (OpenSpec.ofChange stripToldSpec)

/-- ITS FALSE NEIGHBOUR: 'it returns false'. Refute it at one input. -/
def stripToldWrong : ChangeSpec := { name := "stripTold", fn := fun _ => fun
  | [d1, d2] => { results := [.lit (.bool false)], args := [d1, d2] }
  | _ => none }
def StripToldWrongFalsely : Prop := stripToldRow.holds Try.pinned (OpenSpec.ofChange stripToldWrong)

/-- 'laurellaw09.StripMirrored': WHATEVER THE INPUT: true; the input reads as it did. -/
def stripMirroredSpec : ChangeSpec := { name := "stripMirrored", fn := fun _ => fun
  | [d1, d2, d3] => { results := [.lit (.bool true)], args := [d1, d2, d3] }
  | _ => none }
def stripMirroredRow : OpenClaim := { program := "ytnkphlgohnlooaa", sum := "2058ca0d2800a91e171648987f12a2b28d738e702241aaf731a20c785bc1ccc0", func := "laurel/laurellaw09.StripMirrored", spec := "stripMirrored", inPlace := ["slices.overlaps[int]"], unfollowed := true, recurses := true, plainKeys := false, apart := false }
def StripMirroredSaid : Prop := stripMirroredRow.holds Try.pinned (OpenSpec.ofChange stripMirroredSpec)

/-- ITS FALSE NEIGHBOUR: 'it returns false'. Refute it at one input. -/
def stripMirroredWrong : ChangeSpec := { name := "stripMirrored", fn := fun _ => fun
  | [d1, d2, d3] => { results := [.lit (.bool false)], args := [d1, d2, d3] }
  | _ => none }
def StripMirroredWrongFalsely : Prop := stripMirroredRow.holds Try.pinned (OpenSpec.ofChange stripMirroredWrong)

/- THE SECOND FORM. 'bulk': how many values and letters a reading holds, each counted each time it is reached (what is shared counts as often as it is met; a slice's spare places count too). A statement '..UptoSaid' is the law's where the arguments, and the package variables that the reading takes, are together of bulk at most 1048576: NARROWER than '..Said'. Prove '..Said' where nothing that the law and all that it calls make is longer than what came in: it says more and counts as full. Else prove '..UptoSaid'. A law counts once. -/
mutual
def uptoBulk {H : Type} : DataW H → Nat
  | .lit (.string bytes) => bytes.length + 1
  | .lit _ => 1
  | .nil => 1
  | .ptr d => uptoBulk d + 1
  | .slice elems spare => uptoBulkAll elems + uptoBulkAll spare + 1
  | .agg parts => uptoBulkAll parts + 1
  | .iface _ d => uptoBulk d + 1
  | .map entries => uptoBulkEntries entries + 1
  | .held _ => 1
def uptoBulkAll {H : Type} : List (DataW H) → Nat
  | [] => 0
  | d :: r => uptoBulk d + uptoBulkAll r
def uptoBulkEntries {H : Type} : List (Lit × DataW H) → Nat
  | [] => 0
  | x :: r => uptoBulkEntry x + uptoBulkEntries r
def uptoBulkEntry {H : Type} : Lit × DataW H → Nat
  | (.string bytes, d) => bytes.length + uptoBulk d + 1
  | (_, d) => uptoBulk d + 1
 end
def uptoSmall : (H : Type) → List (DataW H) → Bool := fun _ ds => decide (uptoBulkAll ds ≤ 1048576)
def OpenSpec.upto (s : _root_.Go.ChangeSpec) : _root_.Go.OpenSpec := { _root_.Go.OpenSpec.ofChange s with cond := some uptoSmall }

/-- 'laurellaw09.StripWeighed', WHERE WHAT IT READS IS OF BULK AT MOST 1048576: true; the input reads as it did. -/
def stripWeighedUptoRow : OpenClaim := { program := "ytnkphlgohnlooaa", sum := "2058ca0d2800a91e171648987f12a2b28d738e702241aaf731a20c785bc1ccc0", func := "laurel/laurellaw09.StripWeighed", spec := "stripWeighed", unfollowed := true, recurses := true, plainKeys := false, apart := false, narrowed := true }
def StripWeighedUptoSaid : Prop := stripWeighedUptoRow.holds Try.pinned (OpenSpec.upto stripWeighedSpec)

/-- 'laurellaw09.StripShares', WHERE WHAT IT READS IS OF BULK AT MOST 1048576: true; the input reads as it did. -/
def stripSharesUptoRow : OpenClaim := { program := "ytnkphlgohnlooaa", sum := "2058ca0d2800a91e171648987f12a2b28d738e702241aaf731a20c785bc1ccc0", func := "laurel/laurellaw09.StripShares", spec := "stripShares", unfollowed := true, recurses := true, plainKeys := false, apart := false, narrowed := true }
def StripSharesUptoSaid : Prop := stripSharesUptoRow.holds Try.pinned (OpenSpec.upto stripSharesSpec)

/-- 'laurellaw09.StripLacked', WHERE WHAT IT READS IS OF BULK AT MOST 1048576: true; the input reads as it did. -/
def stripLackedUptoRow : OpenClaim := { program := "ytnkphlgohnlooaa", sum := "2058ca0d2800a91e171648987f12a2b28d738e702241aaf731a20c785bc1ccc0", func := "laurel/laurellaw09.StripLacked", spec := "stripLacked", unfollowed := true, recurses := true, plainKeys := false, apart := false, narrowed := true }
def StripLackedUptoSaid : Prop := stripLackedUptoRow.holds Try.pinned (OpenSpec.upto stripLackedSpec)

/-- 'laurellaw09.StripSeeded', WHERE WHAT IT READS IS OF BULK AT MOST 1048576: true; the input reads as it did. -/
def stripSeededUptoRow : OpenClaim := { program := "ytnkphlgohnlooaa", sum := "2058ca0d2800a91e171648987f12a2b28d738e702241aaf731a20c785bc1ccc0", func := "laurel/laurellaw09.StripSeeded", spec := "stripSeeded", unfollowed := true, recurses := true, plainKeys := false, apart := false, narrowed := true }
def StripSeededUptoSaid : Prop := stripSeededUptoRow.holds Try.pinned (OpenSpec.upto stripSeededSpec)

/-- 'laurellaw09.StripProved', WHERE WHAT IT READS IS OF BULK AT MOST 1048576: true; the input reads as it did. -/
def stripProvedUptoRow : OpenClaim := { program := "ytnkphlgohnlooaa", sum := "2058ca0d2800a91e171648987f12a2b28d738e702241aaf731a20c785bc1ccc0", func := "laurel/laurellaw09.StripProved", spec := "stripProved", unfollowed := true, recurses := true, plainKeys := false, apart := false, narrowed := true }
def StripProvedUptoSaid : Prop := stripProvedUptoRow.holds Try.pinned (OpenSpec.upto stripProvedSpec)

/-- 'laurellaw09.StripHonest', WHERE WHAT IT READS IS OF BULK AT MOST 1048576: true; the input reads as it did. -/
def stripHonestUptoRow : OpenClaim := { program := "ytnkphlgohnlooaa", sum := "2058ca0d2800a91e171648987f12a2b28d738e702241aaf731a20c785bc1ccc0", func := "laurel/laurellaw09.StripHonest", spec := "stripHonest", unfollowed := true, recurses := true, plainKeys := false, apart := false, narrowed := true }
def StripHonestUptoSaid : Prop := stripHonestUptoRow.holds Try.pinned (OpenSpec.upto stripHonestSpec)

/-- 'laurellaw09.StripMissed', WHERE WHAT IT READS IS OF BULK AT MOST 1048576: true; the input reads as it did. -/
def stripMissedUptoRow : OpenClaim := { program := "ytnkphlgohnlooaa", sum := "2058ca0d2800a91e171648987f12a2b28d738e702241aaf731a20c785bc1ccc0", func := "laurel/laurellaw09.StripMissed", spec := "stripMissed", unfollowed := true, recurses := true, plainKeys := false, apart := false, narrowed := true }
def StripMissedUptoSaid : Prop := stripMissedUptoRow.holds Try.pinned (OpenSpec.upto stripMissedSpec)

/-- 'laurellaw09.StripTold', WHERE WHAT IT READS IS OF BULK AT MOST 1048576: true; the input reads as it did. -/
def stripToldUptoRow : OpenClaim := { program := "ytnkphlgohnlooaa", sum := "2058ca0d2800a91e171648987f12a2b28d738e702241aaf731a20c785bc1ccc0", func := "laurel/laurellaw09.StripTold", spec := "stripTold", unfollowed := true, recurses := true, plainKeys := false, apart := false, narrowed := true }
def StripToldUptoSaid : Prop := stripToldUptoRow.holds Try.pinned (OpenSpec.upto stripToldSpec)

/-- 'laurellaw09.StripMirrored', WHERE WHAT IT READS IS OF BULK AT MOST 1048576: true; the input reads as it did. -/
def stripMirroredUptoRow : OpenClaim := { program := "ytnkphlgohnlooaa", sum := "2058ca0d2800a91e171648987f12a2b28d738e702241aaf731a20c785bc1ccc0", func := "laurel/laurellaw09.StripMirrored", spec := "stripMirrored", inPlace := ["slices.overlaps[int]"], unfollowed := true, recurses := true, plainKeys := false, apart := false, narrowed := true }
def StripMirroredUptoSaid : Prop := stripMirroredUptoRow.holds Try.pinned (OpenSpec.upto stripMirroredSpec)

end Rows
end Go.Proofs.Ytnkphlgohnlooaa
