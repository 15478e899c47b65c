/-
  No cell of these rows narrows 'for every input' (looked for: loops, veiled, ifaces, maps, wideKeys, modest, calm, conditions, laid).
  DERIVED. THE GIVEN ROWS OF THIS SEAT. 7 by the template 'for every input the law returns true; each argument reads behind the call as it read before'; 0 by the template 'total and deterministic' (their statements: YtkecmljalcfhoaaTotals.lean).
  GIVEN WITH THE SEED: the statements are not yours to turn. If you find one false, say at which input.
  Laid BY PROGRAM, IN A SANDBOX (cutbox-rows.mjs): the forced cells as the released guide's own fill.sh prints them over the translation 7a70c2360b652a8f… (all of the seat's roots in one cut). By AI agents, Wed Nov 11 2026. No macro, syntax, notation, axiom, sorry.
-/
import Derived.Test.YtkecmljalcfhoaaChecked
import GoSem.Claim
import GoSem.ClaimJoined
import GoSem.ClaimMapViews
import Derived.JoinedTies
import Derived.KernelRfl
namespace Go.Proofs.Ytkecmljalcfhoaa
/- THE CELL 'sum', in the pinned program and in every row, IS THE sha256 OF THE DUMP (.gsa) THAT YtkecmljalcfhoaaProg.lean LOADS. Nothing in Lean hashes anything: it is a label: what it is worth is what the hold of that sum in a sandbox is worth. -/
noncomputable def Try.pinned : Pinned := { name := "ytkecmljalcfhoaa", sum := "7a70c2360b652a8f0becb8c15ac2c86c618a226955d60f05bba348ad0f385d2d", checked := Try.checked }
namespace Rows
def none {H : Type} : Left H := { results := [], args := [] }

/-- 'cellarlaw12.IndexRises': WHATEVER THE INPUT: true; the input reads as it did. -/
def indexRisesSpec : ChangeSpec := { name := "indexRises", fn := fun _ => fun
  | [d] => { results := [.lit (.bool true)], args := [d] }
  | _ => none }
def indexRisesRow : OpenClaim := { program := "ytkecmljalcfhoaa", sum := "7a70c2360b652a8f0becb8c15ac2c86c618a226955d60f05bba348ad0f385d2d", func := "cellar/cellarlaw12.IndexRises", spec := "indexRises", unfollowed := true, recurses := true, apart := false }
def IndexRisesSaid : Prop := indexRisesRow.holds Try.pinned (OpenSpec.ofChange indexRisesSpec)

/-- ITS FALSE NEIGHBOUR: 'it returns false'. Refute it at one input. -/
def indexRisesWrong : ChangeSpec := { name := "indexRises", fn := fun _ => fun
  | [d] => { results := [.lit (.bool false)], args := [d] }
  | _ => none }
def IndexRisesWrongFalsely : Prop := indexRisesRow.holds Try.pinned (OpenSpec.ofChange indexRisesWrong)

/-- 'cellarlaw12.IndexDoes': WHATEVER THE INPUT: true; the input reads as it did. -/
def indexDoesSpec : ChangeSpec := { name := "indexDoes", fn := fun _ => fun
  | [d] => { results := [.lit (.bool true)], args := [d] }
  | _ => none }
def indexDoesRow : OpenClaim := { program := "ytkecmljalcfhoaa", sum := "7a70c2360b652a8f0becb8c15ac2c86c618a226955d60f05bba348ad0f385d2d", func := "cellar/cellarlaw12.IndexDoes", spec := "indexDoes", unfollowed := true, recurses := true, apart := false }
def IndexDoesSaid : Prop := indexDoesRow.holds Try.pinned (OpenSpec.ofChange indexDoesSpec)

/-- ITS FALSE NEIGHBOUR: 'it returns false'. Refute it at one input. -/
def indexDoesWrong : ChangeSpec := { name := "indexDoes", fn := fun _ => fun
  | [d] => { results := [.lit (.bool false)], args := [d] }
  | _ => none }
def IndexDoesWrongFalsely : Prop := indexDoesRow.holds Try.pinned (OpenSpec.ofChange indexDoesWrong)

/-- 'cellarlaw12.IndexLooks': WHATEVER THE INPUT: true; the input reads as it did. -/
def indexLooksSpec : ChangeSpec := { name := "indexLooks", fn := fun _ => fun
  | [d] => { results := [.lit (.bool true)], args := [d] }
  | _ => none }
def indexLooksRow : OpenClaim := { program := "ytkecmljalcfhoaa", sum := "7a70c2360b652a8f0becb8c15ac2c86c618a226955d60f05bba348ad0f385d2d", func := "cellar/cellarlaw12.IndexLooks", spec := "indexLooks", unfollowed := true, recurses := true, apart := false }
def IndexLooksSaid : Prop := indexLooksRow.holds Try.pinned (OpenSpec.ofChange indexLooksSpec)

/-- ITS FALSE NEIGHBOUR: 'it returns false'. Refute it at one input. -/
def indexLooksWrong : ChangeSpec := { name := "indexLooks", fn := fun _ => fun
  | [d] => { results := [.lit (.bool false)], args := [d] }
  | _ => none }
def IndexLooksWrongFalsely : Prop := indexLooksRow.holds Try.pinned (OpenSpec.ofChange indexLooksWrong)

/-- 'cellarlaw12.IndexApart': WHATEVER THE INPUT: true; the input reads as it did. -/
def indexApartSpec : ChangeSpec := { name := "indexApart", fn := fun _ => fun
  | [d1, d2, d3] => { results := [.lit (.bool true)], args := [d1, d2, d3] }
  | _ => none }
def indexApartRow : OpenClaim := { program := "ytkecmljalcfhoaa", sum := "7a70c2360b652a8f0becb8c15ac2c86c618a226955d60f05bba348ad0f385d2d", func := "cellar/cellarlaw12.IndexApart", spec := "indexApart", unfollowed := true, recurses := true, apart := false }
def IndexApartSaid : Prop := indexApartRow.holds Try.pinned (OpenSpec.ofChange indexApartSpec)

/-- ITS FALSE NEIGHBOUR: 'it returns false'. Refute it at one input. -/
def indexApartWrong : ChangeSpec := { name := "indexApart", fn := fun _ => fun
  | [d1, d2, d3] => { results := [.lit (.bool false)], args := [d1, d2, d3] }
  | _ => none }
def IndexApartWrongFalsely : Prop := indexApartRow.holds Try.pinned (OpenSpec.ofChange indexApartWrong)

/-- 'cellarlaw12.IndexPurged': WHATEVER THE INPUT: true; the input reads as it did. -/
def indexPurgedSpec : ChangeSpec := { name := "indexPurged", fn := fun _ => fun
  | [d1, d2] => { results := [.lit (.bool true)], args := [d1, d2] }
  | _ => none }
def indexPurgedRow : OpenClaim := { program := "ytkecmljalcfhoaa", sum := "7a70c2360b652a8f0becb8c15ac2c86c618a226955d60f05bba348ad0f385d2d", func := "cellar/cellarlaw12.IndexPurged", spec := "indexPurged", unfollowed := true, recurses := true, apart := false }
def IndexPurgedSaid : Prop := indexPurgedRow.holds Try.pinned (OpenSpec.ofChange indexPurgedSpec)

/-- ITS FALSE NEIGHBOUR: 'it returns false'. Refute it at one input. -/
def indexPurgedWrong : ChangeSpec := { name := "indexPurged", fn := fun _ => fun
  | [d1, d2] => { results := [.lit (.bool false)], args := [d1, d2] }
  | _ => none }
def IndexPurgedWrongFalsely : Prop := indexPurgedRow.holds Try.pinned (OpenSpec.ofChange indexPurgedWrong)

/-- 'cellarlaw12.IndexForks': WHATEVER THE INPUT: true; the input reads as it did. -/
def indexForksSpec : ChangeSpec := { name := "indexForks", fn := fun _ => fun
  | [d1, d2] => { results := [.lit (.bool true)], args := [d1, d2] }
  | _ => none }
def indexForksRow : OpenClaim := { program := "ytkecmljalcfhoaa", sum := "7a70c2360b652a8f0becb8c15ac2c86c618a226955d60f05bba348ad0f385d2d", func := "cellar/cellarlaw12.IndexForks", spec := "indexForks", unfollowed := true, recurses := true, apart := false }
def IndexForksSaid : Prop := indexForksRow.holds Try.pinned (OpenSpec.ofChange indexForksSpec)

/-- ITS FALSE NEIGHBOUR: 'it returns false'. Refute it at one input. -/
def indexForksWrong : ChangeSpec := { name := "indexForks", fn := fun _ => fun
  | [d1, d2] => { results := [.lit (.bool false)], args := [d1, d2] }
  | _ => none }
def IndexForksWrongFalsely : Prop := indexForksRow.holds Try.pinned (OpenSpec.ofChange indexForksWrong)

/-- 'cellarlaw12.IndexClosed': WHATEVER THE INPUT: true; the input reads as it did. -/
def indexClosedSpec : ChangeSpec := { name := "indexClosed", fn := fun _ => fun
  | [d] => { results := [.lit (.bool true)], args := [d] }
  | _ => none }
def indexClosedRow : OpenClaim := { program := "ytkecmljalcfhoaa", sum := "7a70c2360b652a8f0becb8c15ac2c86c618a226955d60f05bba348ad0f385d2d", func := "cellar/cellarlaw12.IndexClosed", spec := "indexClosed", unfollowed := true, recurses := true, apart := false }
def IndexClosedSaid : Prop := indexClosedRow.holds Try.pinned (OpenSpec.ofChange indexClosedSpec)

/-- ITS FALSE NEIGHBOUR: 'it returns false'. Refute it at one input. -/
def indexClosedWrong : ChangeSpec := { name := "indexClosed", fn := fun _ => fun
  | [d] => { results := [.lit (.bool false)], args := [d] }
  | _ => none }
def IndexClosedWrongFalsely : Prop := indexClosedRow.holds Try.pinned (OpenSpec.ofChange indexClosedWrong)

/- THE SECOND FORM. 'bulk': how many values and letters a reading holds, each counted each time it is reached (what is shared counts as often as it is met; a slice's spare places count too). A statement '..UptoSaid' is the law's where the arguments, and the package variables that the reading takes, are together of bulk at most 1048576: NARROWER than '..Said'. Prove '..Said' where nothing that the law and all that it calls make is longer than what came in: it says more and counts as full. Else prove '..UptoSaid'. A law counts once. -/
mutual
def uptoBulk {H : Type} : DataW H → Nat
  | .lit (.string bytes) => bytes.length + 1
  | .lit _ => 1
  | .nil => 1
  | .ptr d => uptoBulk d + 1
  | .slice elems spare => uptoBulkAll elems + uptoBulkAll spare + 1
  | .agg parts => uptoBulkAll parts + 1
  | .iface _ d => uptoBulk d + 1
  | .map entries => uptoBulkEntries entries + 1
  | .held _ => 1
def uptoBulkAll {H : Type} : List (DataW H) → Nat
  | [] => 0
  | d :: r => uptoBulk d + uptoBulkAll r
def uptoBulkEntries {H : Type} : List (Lit × DataW H) → Nat
  | [] => 0
  | x :: r => uptoBulkEntry x + uptoBulkEntries r
def uptoBulkEntry {H : Type} : Lit × DataW H → Nat
  | (.string bytes, d) => bytes.length + uptoBulk d + 1
  | (_, d) => uptoBulk d + 1
 end
def uptoSmall : (H : Type) → List (DataW H) → Bool := fun _ ds => decide (uptoBulkAll ds ≤ 1048576)
def OpenSpec.upto (s : _root_.Go.ChangeSpec) : _root_.Go.OpenSpec := { _root_.Go.OpenSpec.ofChange s with cond := some uptoSmall }

/-- 'cellarlaw12.IndexRises', WHERE WHAT IT READS IS OF BULK AT MOST 1048576: true; the input reads as it did. -/
def indexRisesUptoRow : OpenClaim := { program := "ytkecmljalcfhoaa", sum := "7a70c2360b652a8f0becb8c15ac2c86c618a226955d60f05bba348ad0f385d2d", func := "cellar/cellarlaw12.IndexRises", spec := "indexRises", unfollowed := true, recurses := true, apart := false, narrowed := true }
def IndexRisesUptoSaid : Prop := indexRisesUptoRow.holds Try.pinned (OpenSpec.upto indexRisesSpec)

/-- 'cellarlaw12.IndexDoes', WHERE WHAT IT READS IS OF BULK AT MOST 1048576: true; the input reads as it did. -/
def indexDoesUptoRow : OpenClaim := { program := "ytkecmljalcfhoaa", sum := "7a70c2360b652a8f0becb8c15ac2c86c618a226955d60f05bba348ad0f385d2d", func := "cellar/cellarlaw12.IndexDoes", spec := "indexDoes", unfollowed := true, recurses := true, apart := false, narrowed := true }
def IndexDoesUptoSaid : Prop := indexDoesUptoRow.holds Try.pinned (OpenSpec.upto indexDoesSpec)

/-- 'cellarlaw12.IndexLooks', WHERE WHAT IT READS IS OF BULK AT MOST 1048576: true; the input reads as it did. -/
def indexLooksUptoRow : OpenClaim := { program := "ytkecmljalcfhoaa", sum := "7a70c2360b652a8f0becb8c15ac2c86c618a226955d60f05bba348ad0f385d2d", func := "cellar/cellarlaw12.IndexLooks", spec := "indexLooks", unfollowed := true, recurses := true, apart := false, narrowed := true }
def IndexLooksUptoSaid : Prop := indexLooksUptoRow.holds Try.pinned (OpenSpec.upto indexLooksSpec)

/-- 'cellarlaw12.IndexApart', WHERE WHAT IT READS IS OF BULK AT MOST 1048576: true; the input reads as it did. -/
def indexApartUptoRow : OpenClaim := { program := "ytkecmljalcfhoaa", sum := "7a70c2360b652a8f0becb8c15ac2c86c618a226955d60f05bba348ad0f385d2d", func := "cellar/cellarlaw12.IndexApart", spec := "indexApart", unfollowed := true, recurses := true, apart := false, narrowed := true }
def IndexApartUptoSaid : Prop := indexApartUptoRow.holds Try.pinned (OpenSpec.upto indexApartSpec)

/-- 'cellarlaw12.IndexPurged', WHERE WHAT IT READS IS OF BULK AT MOST 1048576: true; the input reads as it did. -/
def indexPurgedUptoRow : OpenClaim := { program := "ytkecmljalcfhoaa", sum := "7a70c2360b652a8f0becb8c15ac2c86c618a226955d60f05bba348ad0f385d2d", func := "cellar/cellarlaw12.IndexPurged", spec := "indexPurged", unfollowed := true, recurses := true, apart := false, narrowed := true }
def IndexPurgedUptoSaid : Prop := indexPurgedUptoRow.holds Try.pinned (OpenSpec.upto indexPurgedSpec)

/-- 'cellarlaw12.IndexForks', WHERE WHAT IT READS IS OF BULK AT MOST 1048576: true; the input reads as it did. -/
def indexForksUptoRow : OpenClaim := { program := "ytkecmljalcfhoaa", sum := "7a70c2360b652a8f0becb8c15ac2c86c618a226955d60f05bba348ad0f385d2d", func := "cellar/cellarlaw12.IndexForks", spec := "indexForks", unfollowed := true, recurses := true, apart := false, narrowed := true }
def IndexForksUptoSaid : Prop := indexForksUptoRow.holds Try.pinned (OpenSpec.upto indexForksSpec)

/-- 'cellarlaw12.IndexClosed', WHERE WHAT IT READS IS OF BULK AT MOST 1048576: true; the input reads as it did. -/
def indexClosedUptoRow : OpenClaim := { program := "ytkecmljalcfhoaa", sum := "7a70c2360b652a8f0becb8c15ac2c86c618a226955d60f05bba348ad0f385d2d", func := "cellar/cellarlaw12.IndexClosed", spec := "indexClosed", unfollowed := true, recurses := true, apart := false, narrowed := true }
def IndexClosedUptoSaid : Prop := indexClosedUptoRow.holds Try.pinned (OpenSpec.upto indexClosedSpec)

end Rows
end Go.Proofs.Ytkecmljalcfhoaa
