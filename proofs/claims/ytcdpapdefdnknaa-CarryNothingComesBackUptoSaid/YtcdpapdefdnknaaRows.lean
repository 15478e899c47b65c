/-
  No cell of these rows narrows 'for every input' (looked for: loops, veiled, ifaces, maps, wideKeys, modest, calm, conditions, laid).
  DERIVED. THE GIVEN ROWS OF THIS SEAT. 5 by the template 'for every input the law returns true; each argument reads behind the call as it read before'; 0 by the template 'total and deterministic' (their statements: YtcdpapdefdnknaaTotals.lean).
  GIVEN WITH THE SEED: the statements are not yours to turn. If you find one false, say at which input.
  Laid BY PROGRAM, IN A SANDBOX (cutbox-rows.mjs): the forced cells as the released guide's own fill.sh prints them over the translation 37b669a3ad78d4e6… (all of the seat's roots in one cut). By AI agents, Wed Nov 11 2026. No macro, syntax, notation, axiom, sorry.
-/
import Derived.Test.YtcdpapdefdnknaaChecked
import GoSem.Claim
import GoSem.ClaimJoined
import GoSem.ClaimMapViews
import Derived.JoinedTies
import Derived.KernelRfl
namespace Go.Proofs.Ytcdpapdefdnknaa
/- THE CELL 'sum', in the pinned program and in every row, IS THE sha256 OF THE DUMP (.gsa) THAT YtcdpapdefdnknaaProg.lean LOADS. Nothing in Lean hashes anything: it is a label: what it is worth is what the hold of that sum in a sandbox is worth. -/
noncomputable def Try.pinned : Pinned := { name := "ytcdpapdefdnknaa", sum := "37b669a3ad78d4e6998ca03adab0542b858c23f971a9260b9d0d5c4dca909b24", checked := Try.checked }
namespace Rows
def none {H : Type} : Left H := { results := [], args := [] }

/-- 'cellarlaw17.CarryChecks': WHATEVER THE INPUT: true; the input reads as it did. -/
def carryChecksSpec : ChangeSpec := { name := "carryChecks", fn := fun _ => fun
  | [d] => { results := [.lit (.bool true)], args := [d] }
  | _ => none }
def carryChecksRow : OpenClaim := { program := "ytcdpapdefdnknaa", sum := "37b669a3ad78d4e6998ca03adab0542b858c23f971a9260b9d0d5c4dca909b24", func := "cellar/cellarlaw17.CarryChecks", spec := "carryChecks", unfollowed := true, recurses := true, apart := false }
def CarryChecksSaid : Prop := carryChecksRow.holds Try.pinned (OpenSpec.ofChange carryChecksSpec)

/-- ITS FALSE NEIGHBOUR: 'it returns false'. Refute it at one input. -/
def carryChecksWrong : ChangeSpec := { name := "carryChecks", fn := fun _ => fun
  | [d] => { results := [.lit (.bool false)], args := [d] }
  | _ => none }
def CarryChecksWrongFalsely : Prop := carryChecksRow.holds Try.pinned (OpenSpec.ofChange carryChecksWrong)

/-- 'cellarlaw17.CarryReclaims': WHATEVER THE INPUT: true; the input reads as it did. -/
def carryReclaimsSpec : ChangeSpec := { name := "carryReclaims", fn := fun _ => fun
  | [d1, d2, d3, d4] => { results := [.lit (.bool true)], args := [d1, d2, d3, d4] }
  | _ => none }
def carryReclaimsRow : OpenClaim := { program := "ytcdpapdefdnknaa", sum := "37b669a3ad78d4e6998ca03adab0542b858c23f971a9260b9d0d5c4dca909b24", func := "cellar/cellarlaw17.CarryReclaims", spec := "carryReclaims", unfollowed := true, recurses := true, apart := false }
def CarryReclaimsSaid : Prop := carryReclaimsRow.holds Try.pinned (OpenSpec.ofChange carryReclaimsSpec)

/-- ITS FALSE NEIGHBOUR: 'it returns false'. Refute it at one input. -/
def carryReclaimsWrong : ChangeSpec := { name := "carryReclaims", fn := fun _ => fun
  | [d1, d2, d3, d4] => { results := [.lit (.bool false)], args := [d1, d2, d3, d4] }
  | _ => none }
def CarryReclaimsWrongFalsely : Prop := carryReclaimsRow.holds Try.pinned (OpenSpec.ofChange carryReclaimsWrong)

/-- 'cellarlaw17.CarryNothingComesBack': WHATEVER THE INPUT: true; the input reads as it did. -/
def carryNothingComesBackSpec : ChangeSpec := { name := "carryNothingComesBack", fn := fun _ => fun
  | [d1, d2, d3, d4] => { results := [.lit (.bool true)], args := [d1, d2, d3, d4] }
  | _ => none }
def carryNothingComesBackRow : OpenClaim := { program := "ytcdpapdefdnknaa", sum := "37b669a3ad78d4e6998ca03adab0542b858c23f971a9260b9d0d5c4dca909b24", func := "cellar/cellarlaw17.CarryNothingComesBack", spec := "carryNothingComesBack", unfollowed := true, recurses := true, apart := false }
def CarryNothingComesBackSaid : Prop := carryNothingComesBackRow.holds Try.pinned (OpenSpec.ofChange carryNothingComesBackSpec)

/-- ITS FALSE NEIGHBOUR: 'it returns false'. Refute it at one input. -/
def carryNothingComesBackWrong : ChangeSpec := { name := "carryNothingComesBack", fn := fun _ => fun
  | [d1, d2, d3, d4] => { results := [.lit (.bool false)], args := [d1, d2, d3, d4] }
  | _ => none }
def CarryNothingComesBackWrongFalsely : Prop := carryNothingComesBackRow.holds Try.pinned (OpenSpec.ofChange carryNothingComesBackWrong)

/-- 'cellarlaw17.CarryOldest': WHATEVER THE INPUT: true; the input reads as it did. -/
def carryOldestSpec : ChangeSpec := { name := "carryOldest", fn := fun _ => fun
  | [d1, d2, d3] => { results := [.lit (.bool true)], args := [d1, d2, d3] }
  | _ => none }
def carryOldestRow : OpenClaim := { program := "ytcdpapdefdnknaa", sum := "37b669a3ad78d4e6998ca03adab0542b858c23f971a9260b9d0d5c4dca909b24", func := "cellar/cellarlaw17.CarryOldest", spec := "carryOldest", unfollowed := true, recurses := true, apart := false }
def CarryOldestSaid : Prop := carryOldestRow.holds Try.pinned (OpenSpec.ofChange carryOldestSpec)

/-- ITS FALSE NEIGHBOUR: 'it returns false'. Refute it at one input. -/
def carryOldestWrong : ChangeSpec := { name := "carryOldest", fn := fun _ => fun
  | [d1, d2, d3] => { results := [.lit (.bool false)], args := [d1, d2, d3] }
  | _ => none }
def CarryOldestWrongFalsely : Prop := carryOldestRow.holds Try.pinned (OpenSpec.ofChange carryOldestWrong)

/-- 'cellarlaw17.CarryFilters': WHATEVER THE INPUT: true; the input reads as it did. -/
def carryFiltersSpec : ChangeSpec := { name := "carryFilters", fn := fun _ => fun
  | [d1, d2, d3, d4, d5] => { results := [.lit (.bool true)], args := [d1, d2, d3, d4, d5] }
  | _ => none }
def carryFiltersRow : OpenClaim := { program := "ytcdpapdefdnknaa", sum := "37b669a3ad78d4e6998ca03adab0542b858c23f971a9260b9d0d5c4dca909b24", func := "cellar/cellarlaw17.CarryFilters", spec := "carryFilters", unfollowed := true, recurses := true, apart := false }
def CarryFiltersSaid : Prop := carryFiltersRow.holds Try.pinned (OpenSpec.ofChange carryFiltersSpec)

/-- ITS FALSE NEIGHBOUR: 'it returns false'. Refute it at one input. -/
def carryFiltersWrong : ChangeSpec := { name := "carryFilters", fn := fun _ => fun
  | [d1, d2, d3, d4, d5] => { results := [.lit (.bool false)], args := [d1, d2, d3, d4, d5] }
  | _ => none }
def CarryFiltersWrongFalsely : Prop := carryFiltersRow.holds Try.pinned (OpenSpec.ofChange carryFiltersWrong)

/- THE SECOND FORM. 'bulk': how many values and letters a reading holds, each counted each time it is reached (what is shared counts as often as it is met; a slice's spare places count too). A statement '..UptoSaid' is the law's where the arguments, and the package variables that the reading takes, are together of bulk at most 1048576: NARROWER than '..Said'. Prove '..Said' where nothing that the law and all that it calls make is longer than what came in: it says more and counts as full. Else prove '..UptoSaid'. A law counts once. -/
mutual
def uptoBulk {H : Type} : DataW H → Nat
  | .lit (.string bytes) => bytes.length + 1
  | .lit _ => 1
  | .nil => 1
  | .ptr d => uptoBulk d + 1
  | .slice elems spare => uptoBulkAll elems + uptoBulkAll spare + 1
  | .agg parts => uptoBulkAll parts + 1
  | .iface _ d => uptoBulk d + 1
  | .map entries => uptoBulkEntries entries + 1
  | .held _ => 1
def uptoBulkAll {H : Type} : List (DataW H) → Nat
  | [] => 0
  | d :: r => uptoBulk d + uptoBulkAll r
def uptoBulkEntries {H : Type} : List (Lit × DataW H) → Nat
  | [] => 0
  | x :: r => uptoBulkEntry x + uptoBulkEntries r
def uptoBulkEntry {H : Type} : Lit × DataW H → Nat
  | (.string bytes, d) => bytes.length + uptoBulk d + 1
  | (_, d) => uptoBulk d + 1
 end
def uptoSmall : (H : Type) → List (DataW H) → Bool := fun _ ds => decide (uptoBulkAll ds ≤ 1048576)
def OpenSpec.upto (s : _root_.Go.ChangeSpec) : _root_.Go.OpenSpec := { _root_.Go.OpenSpec.ofChange s with cond := some uptoSmall }

/-- 'cellarlaw17.CarryChecks', WHERE WHAT IT READS IS OF BULK AT MOST 1048576: true; the input reads as it did. -/
def carryChecksUptoRow : OpenClaim := { program := "ytcdpapdefdnknaa", sum := "37b669a3ad78d4e6998ca03adab0542b858c23f971a9260b9d0d5c4dca909b24", func := "cellar/cellarlaw17.CarryChecks", spec := "carryChecks", unfollowed := true, recurses := true, apart := false, narrowed := true }
def CarryChecksUptoSaid : Prop := carryChecksUptoRow.holds Try.pinned (OpenSpec.upto carryChecksSpec)

/-- 'cellarlaw17.CarryReclaims', WHERE WHAT IT READS IS OF BULK AT MOST 1048576: true; the input reads as it did. -/
def carryReclaimsUptoRow : OpenClaim := { program := "ytcdpapdefdnknaa", sum := "37b669a3ad78d4e6998ca03adab0542b858c23f971a9260b9d0d5c4dca909b24", func := "cellar/cellarlaw17.CarryReclaims", spec := "carryReclaims", unfollowed := true, recurses := true, apart := false, narrowed := true }
def CarryReclaimsUptoSaid : Prop := carryReclaimsUptoRow.holds Try.pinned (OpenSpec.upto carryReclaimsSpec)

/-- 'cellarlaw17.CarryNothingComesBack', WHERE WHAT IT READS IS OF BULK AT MOST 1048576: true; the input reads as it did. -/
def carryNothingComesBackUptoRow : OpenClaim := { program := "ytcdpapdefdnknaa", sum := "37b669a3ad78d4e6998ca03adab0542b858c23f971a9260b9d0d5c4dca909b24", func := "cellar/cellarlaw17.CarryNothingComesBack", spec := "carryNothingComesBack", unfollowed := true, recurses := true, apart := false, narrowed := true }
def CarryNothingComesBackUptoSaid : Prop := carryNothingComesBackUptoRow.holds Try.pinned (OpenSpec.upto carryNothingComesBackSpec)

/-- 'cellarlaw17.CarryOldest', WHERE WHAT IT READS IS OF BULK AT MOST 1048576: true; the input reads as it did. -/
def carryOldestUptoRow : OpenClaim := { program := "ytcdpapdefdnknaa", sum := "37b669a3ad78d4e6998ca03adab0542b858c23f971a9260b9d0d5c4dca909b24", func := "cellar/cellarlaw17.CarryOldest", spec := "carryOldest", unfollowed := true, recurses := true, apart := false, narrowed := true }
def CarryOldestUptoSaid : Prop := carryOldestUptoRow.holds Try.pinned (OpenSpec.upto carryOldestSpec)

/-- 'cellarlaw17.CarryFilters', WHERE WHAT IT READS IS OF BULK AT MOST 1048576: true; the input reads as it did. -/
def carryFiltersUptoRow : OpenClaim := { program := "ytcdpapdefdnknaa", sum := "37b669a3ad78d4e6998ca03adab0542b858c23f971a9260b9d0d5c4dca909b24", func := "cellar/cellarlaw17.CarryFilters", spec := "carryFilters", unfollowed := true, recurses := true, apart := false, narrowed := true }
def CarryFiltersUptoSaid : Prop := carryFiltersUptoRow.holds Try.pinned (OpenSpec.upto carryFiltersSpec)

end Rows
end Go.Proofs.Ytcdpapdefdnknaa
