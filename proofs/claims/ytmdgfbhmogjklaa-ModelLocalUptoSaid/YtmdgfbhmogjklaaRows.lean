/-
  No cell of these rows narrows 'for every input' (looked for: loops, veiled, ifaces, maps, wideKeys, modest, calm, conditions, laid).
  DERIVED. THE GIVEN ROWS OF THIS SEAT. 7 by the template 'for every input the law returns true; each argument reads behind the call as it read before'; 0 by the template 'total and deterministic' (their statements: YtmdgfbhmogjklaaTotals.lean).
  GIVEN WITH THE SEED: the statements are not yours to turn. If you find one false, say at which input.
  Laid BY PROGRAM, IN A SANDBOX (cutbox-rows.mjs): the forced cells as the released guide's own fill.sh prints them over the translation ee4e4d7ab13c200b… (all of the seat's roots in one cut). By AI agents, Wed Nov 11 2026. No macro, syntax, notation, axiom, sorry.
-/
import Derived.Test.YtmdgfbhmogjklaaChecked
import GoSem.Claim
import GoSem.ClaimJoined
import GoSem.ClaimMapViews
import Derived.JoinedTies
import Derived.KernelRfl
namespace Go.Proofs.Ytmdgfbhmogjklaa
/- THE CELL 'sum', in the pinned program and in every row, IS THE sha256 OF THE DUMP (.gsa) THAT YtmdgfbhmogjklaaProg.lean LOADS. Nothing in Lean hashes anything: it is a label: what it is worth is what the hold of that sum in a sandbox is worth. -/
noncomputable def Try.pinned : Pinned := { name := "ytmdgfbhmogjklaa", sum := "ee4e4d7ab13c200bdd528ef1bc796d54e269c2dc8458b580c0b6678750bcc5ea", checked := Try.checked }
namespace Rows
def none {H : Type} : Left H := { results := [], args := [] }

/-- 'cellarlaw23.ModelAccepts': WHATEVER THE INPUT: true; the input reads as it did. -/
def modelAcceptsSpec : ChangeSpec := { name := "modelAccepts", fn := fun _ => fun
  | [d1, d2] => { results := [.lit (.bool true)], args := [d1, d2] }
  | _ => none }
def modelAcceptsRow : OpenClaim := { program := "ytmdgfbhmogjklaa", sum := "ee4e4d7ab13c200bdd528ef1bc796d54e269c2dc8458b580c0b6678750bcc5ea", func := "cellar/cellarlaw23.ModelAccepts", spec := "modelAccepts", unfollowed := true, recurses := true, apart := false }
def ModelAcceptsSaid : Prop := modelAcceptsRow.holds Try.pinned (OpenSpec.ofChange modelAcceptsSpec)

/-- ITS FALSE NEIGHBOUR: 'it returns false'. Refute it at one input. -/
def modelAcceptsWrong : ChangeSpec := { name := "modelAccepts", fn := fun _ => fun
  | [d1, d2] => { results := [.lit (.bool false)], args := [d1, d2] }
  | _ => none }
def ModelAcceptsWrongFalsely : Prop := modelAcceptsRow.holds Try.pinned (OpenSpec.ofChange modelAcceptsWrong)

/-- 'cellarlaw23.ModelDrops': WHATEVER THE INPUT: true; the input reads as it did. -/
def modelDropsSpec : ChangeSpec := { name := "modelDrops", fn := fun _ => fun
  | [d1, d2, d3] => { results := [.lit (.bool true)], args := [d1, d2, d3] }
  | _ => none }
def modelDropsRow : OpenClaim := { program := "ytmdgfbhmogjklaa", sum := "ee4e4d7ab13c200bdd528ef1bc796d54e269c2dc8458b580c0b6678750bcc5ea", func := "cellar/cellarlaw23.ModelDrops", spec := "modelDrops", unfollowed := true, recurses := true, apart := false }
def ModelDropsSaid : Prop := modelDropsRow.holds Try.pinned (OpenSpec.ofChange modelDropsSpec)

/-- ITS FALSE NEIGHBOUR: 'it returns false'. Refute it at one input. -/
def modelDropsWrong : ChangeSpec := { name := "modelDrops", fn := fun _ => fun
  | [d1, d2, d3] => { results := [.lit (.bool false)], args := [d1, d2, d3] }
  | _ => none }
def ModelDropsWrongFalsely : Prop := modelDropsRow.holds Try.pinned (OpenSpec.ofChange modelDropsWrong)

/-- 'cellarlaw23.ModelLocal': WHATEVER THE INPUT: true; the input reads as it did. -/
def modelLocalSpec : ChangeSpec := { name := "modelLocal", fn := fun _ => fun
  | [d] => { results := [.lit (.bool true)], args := [d] }
  | _ => none }
def modelLocalRow : OpenClaim := { program := "ytmdgfbhmogjklaa", sum := "ee4e4d7ab13c200bdd528ef1bc796d54e269c2dc8458b580c0b6678750bcc5ea", func := "cellar/cellarlaw23.ModelLocal", spec := "modelLocal", unfollowed := true, recurses := true, apart := false }
def ModelLocalSaid : Prop := modelLocalRow.holds Try.pinned (OpenSpec.ofChange modelLocalSpec)

/-- ITS FALSE NEIGHBOUR: 'it returns false'. Refute it at one input. -/
def modelLocalWrong : ChangeSpec := { name := "modelLocal", fn := fun _ => fun
  | [d] => { results := [.lit (.bool false)], args := [d] }
  | _ => none }
def ModelLocalWrongFalsely : Prop := modelLocalRow.holds Try.pinned (OpenSpec.ofChange modelLocalWrong)

/-- 'cellarlaw23.ModelInvents': WHATEVER THE INPUT: true; the input reads as it did. -/
def modelInventsSpec : ChangeSpec := { name := "modelInvents", fn := fun _ => fun
  | [d] => { results := [.lit (.bool true)], args := [d] }
  | _ => none }
def modelInventsRow : OpenClaim := { program := "ytmdgfbhmogjklaa", sum := "ee4e4d7ab13c200bdd528ef1bc796d54e269c2dc8458b580c0b6678750bcc5ea", func := "cellar/cellarlaw23.ModelInvents", spec := "modelInvents", unfollowed := true, recurses := true, apart := false }
def ModelInventsSaid : Prop := modelInventsRow.holds Try.pinned (OpenSpec.ofChange modelInventsSpec)

/-- ITS FALSE NEIGHBOUR: 'it returns false'. Refute it at one input. -/
def modelInventsWrong : ChangeSpec := { name := "modelInvents", fn := fun _ => fun
  | [d] => { results := [.lit (.bool false)], args := [d] }
  | _ => none }
def ModelInventsWrongFalsely : Prop := modelInventsRow.holds Try.pinned (OpenSpec.ofChange modelInventsWrong)

/-- 'cellarlaw23.ModelUnsure': WHATEVER THE INPUT: true; the input reads as it did. -/
def modelUnsureSpec : ChangeSpec := { name := "modelUnsure", fn := fun _ => fun
  | [d1, d2, d3] => { results := [.lit (.bool true)], args := [d1, d2, d3] }
  | _ => none }
def modelUnsureRow : OpenClaim := { program := "ytmdgfbhmogjklaa", sum := "ee4e4d7ab13c200bdd528ef1bc796d54e269c2dc8458b580c0b6678750bcc5ea", func := "cellar/cellarlaw23.ModelUnsure", spec := "modelUnsure", unfollowed := true, recurses := true, apart := false }
def ModelUnsureSaid : Prop := modelUnsureRow.holds Try.pinned (OpenSpec.ofChange modelUnsureSpec)

/-- ITS FALSE NEIGHBOUR: 'it returns false'. Refute it at one input. -/
def modelUnsureWrong : ChangeSpec := { name := "modelUnsure", fn := fun _ => fun
  | [d1, d2, d3] => { results := [.lit (.bool false)], args := [d1, d2, d3] }
  | _ => none }
def ModelUnsureWrongFalsely : Prop := modelUnsureRow.holds Try.pinned (OpenSpec.ofChange modelUnsureWrong)

/-- 'cellarlaw23.ModelUnions': WHATEVER THE INPUT: true; the input reads as it did. -/
def modelUnionsSpec : ChangeSpec := { name := "modelUnions", fn := fun _ => fun
  | [d1, d2, d3] => { results := [.lit (.bool true)], args := [d1, d2, d3] }
  | _ => none }
def modelUnionsRow : OpenClaim := { program := "ytmdgfbhmogjklaa", sum := "ee4e4d7ab13c200bdd528ef1bc796d54e269c2dc8458b580c0b6678750bcc5ea", func := "cellar/cellarlaw23.ModelUnions", spec := "modelUnions", unfollowed := true, recurses := true, apart := false }
def ModelUnionsSaid : Prop := modelUnionsRow.holds Try.pinned (OpenSpec.ofChange modelUnionsSpec)

/-- ITS FALSE NEIGHBOUR: 'it returns false'. Refute it at one input. -/
def modelUnionsWrong : ChangeSpec := { name := "modelUnions", fn := fun _ => fun
  | [d1, d2, d3] => { results := [.lit (.bool false)], args := [d1, d2, d3] }
  | _ => none }
def ModelUnionsWrongFalsely : Prop := modelUnionsRow.holds Try.pinned (OpenSpec.ofChange modelUnionsWrong)

/-- 'cellarlaw23.ModelChecks': WHATEVER THE INPUT: true; the input reads as it did. -/
def modelChecksSpec : ChangeSpec := { name := "modelChecks", fn := fun _ => fun
  | [d] => { results := [.lit (.bool true)], args := [d] }
  | _ => none }
def modelChecksRow : OpenClaim := { program := "ytmdgfbhmogjklaa", sum := "ee4e4d7ab13c200bdd528ef1bc796d54e269c2dc8458b580c0b6678750bcc5ea", func := "cellar/cellarlaw23.ModelChecks", spec := "modelChecks", unfollowed := true, recurses := true, apart := false }
def ModelChecksSaid : Prop := modelChecksRow.holds Try.pinned (OpenSpec.ofChange modelChecksSpec)

/-- ITS FALSE NEIGHBOUR: 'it returns false'. Refute it at one input. -/
def modelChecksWrong : ChangeSpec := { name := "modelChecks", fn := fun _ => fun
  | [d] => { results := [.lit (.bool false)], args := [d] }
  | _ => none }
def ModelChecksWrongFalsely : Prop := modelChecksRow.holds Try.pinned (OpenSpec.ofChange modelChecksWrong)

/- THE SECOND FORM. 'bulk': how many values and letters a reading holds, each counted each time it is reached (what is shared counts as often as it is met; a slice's spare places count too). A statement '..UptoSaid' is the law's where the arguments, and the package variables that the reading takes, are together of bulk at most 1048576: NARROWER than '..Said'. Prove '..Said' where nothing that the law and all that it calls make is longer than what came in: it says more and counts as full. Else prove '..UptoSaid'. A law counts once. -/
mutual
def uptoBulk {H : Type} : DataW H → Nat
  | .lit (.string bytes) => bytes.length + 1
  | .lit _ => 1
  | .nil => 1
  | .ptr d => uptoBulk d + 1
  | .slice elems spare => uptoBulkAll elems + uptoBulkAll spare + 1
  | .agg parts => uptoBulkAll parts + 1
  | .iface _ d => uptoBulk d + 1
  | .map entries => uptoBulkEntries entries + 1
  | .held _ => 1
def uptoBulkAll {H : Type} : List (DataW H) → Nat
  | [] => 0
  | d :: r => uptoBulk d + uptoBulkAll r
def uptoBulkEntries {H : Type} : List (Lit × DataW H) → Nat
  | [] => 0
  | x :: r => uptoBulkEntry x + uptoBulkEntries r
def uptoBulkEntry {H : Type} : Lit × DataW H → Nat
  | (.string bytes, d) => bytes.length + uptoBulk d + 1
  | (_, d) => uptoBulk d + 1
 end
def uptoSmall : (H : Type) → List (DataW H) → Bool := fun _ ds => decide (uptoBulkAll ds ≤ 1048576)
def OpenSpec.upto (s : _root_.Go.ChangeSpec) : _root_.Go.OpenSpec := { _root_.Go.OpenSpec.ofChange s with cond := some uptoSmall }

/-- 'cellarlaw23.ModelAccepts', WHERE WHAT IT READS IS OF BULK AT MOST 1048576: true; the input reads as it did. -/
def modelAcceptsUptoRow : OpenClaim := { program := "ytmdgfbhmogjklaa", sum := "ee4e4d7ab13c200bdd528ef1bc796d54e269c2dc8458b580c0b6678750bcc5ea", func := "cellar/cellarlaw23.ModelAccepts", spec := "modelAccepts", unfollowed := true, recurses := true, apart := false, narrowed := true }
def ModelAcceptsUptoSaid : Prop := modelAcceptsUptoRow.holds Try.pinned (OpenSpec.upto modelAcceptsSpec)

/-- 'cellarlaw23.ModelDrops', WHERE WHAT IT READS IS OF BULK AT MOST 1048576: true; the input reads as it did. -/
def modelDropsUptoRow : OpenClaim := { program := "ytmdgfbhmogjklaa", sum := "ee4e4d7ab13c200bdd528ef1bc796d54e269c2dc8458b580c0b6678750bcc5ea", func := "cellar/cellarlaw23.ModelDrops", spec := "modelDrops", unfollowed := true, recurses := true, apart := false, narrowed := true }
def ModelDropsUptoSaid : Prop := modelDropsUptoRow.holds Try.pinned (OpenSpec.upto modelDropsSpec)

/-- 'cellarlaw23.ModelLocal', WHERE WHAT IT READS IS OF BULK AT MOST 1048576: true; the input reads as it did. -/
def modelLocalUptoRow : OpenClaim := { program := "ytmdgfbhmogjklaa", sum := "ee4e4d7ab13c200bdd528ef1bc796d54e269c2dc8458b580c0b6678750bcc5ea", func := "cellar/cellarlaw23.ModelLocal", spec := "modelLocal", unfollowed := true, recurses := true, apart := false, narrowed := true }
def ModelLocalUptoSaid : Prop := modelLocalUptoRow.holds Try.pinned (OpenSpec.upto modelLocalSpec)

/-- 'cellarlaw23.ModelInvents', WHERE WHAT IT READS IS OF BULK AT MOST 1048576: true; the input reads as it did. -/
def modelInventsUptoRow : OpenClaim := { program := "ytmdgfbhmogjklaa", sum := "ee4e4d7ab13c200bdd528ef1bc796d54e269c2dc8458b580c0b6678750bcc5ea", func := "cellar/cellarlaw23.ModelInvents", spec := "modelInvents", unfollowed := true, recurses := true, apart := false, narrowed := true }
def ModelInventsUptoSaid : Prop := modelInventsUptoRow.holds Try.pinned (OpenSpec.upto modelInventsSpec)

/-- 'cellarlaw23.ModelUnsure', WHERE WHAT IT READS IS OF BULK AT MOST 1048576: true; the input reads as it did. -/
def modelUnsureUptoRow : OpenClaim := { program := "ytmdgfbhmogjklaa", sum := "ee4e4d7ab13c200bdd528ef1bc796d54e269c2dc8458b580c0b6678750bcc5ea", func := "cellar/cellarlaw23.ModelUnsure", spec := "modelUnsure", unfollowed := true, recurses := true, apart := false, narrowed := true }
def ModelUnsureUptoSaid : Prop := modelUnsureUptoRow.holds Try.pinned (OpenSpec.upto modelUnsureSpec)

/-- 'cellarlaw23.ModelUnions', WHERE WHAT IT READS IS OF BULK AT MOST 1048576: true; the input reads as it did. -/
def modelUnionsUptoRow : OpenClaim := { program := "ytmdgfbhmogjklaa", sum := "ee4e4d7ab13c200bdd528ef1bc796d54e269c2dc8458b580c0b6678750bcc5ea", func := "cellar/cellarlaw23.ModelUnions", spec := "modelUnions", unfollowed := true, recurses := true, apart := false, narrowed := true }
def ModelUnionsUptoSaid : Prop := modelUnionsUptoRow.holds Try.pinned (OpenSpec.upto modelUnionsSpec)

/-- 'cellarlaw23.ModelChecks', WHERE WHAT IT READS IS OF BULK AT MOST 1048576: true; the input reads as it did. -/
def modelChecksUptoRow : OpenClaim := { program := "ytmdgfbhmogjklaa", sum := "ee4e4d7ab13c200bdd528ef1bc796d54e269c2dc8458b580c0b6678750bcc5ea", func := "cellar/cellarlaw23.ModelChecks", spec := "modelChecks", unfollowed := true, recurses := true, apart := false, narrowed := true }
def ModelChecksUptoSaid : Prop := modelChecksUptoRow.holds Try.pinned (OpenSpec.upto modelChecksSpec)

end Rows
end Go.Proofs.Ytmdgfbhmogjklaa
