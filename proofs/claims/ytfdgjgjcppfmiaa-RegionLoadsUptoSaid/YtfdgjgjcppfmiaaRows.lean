/-
  No cell of these rows narrows 'for every input' (looked for: loops, veiled, ifaces, maps, wideKeys, modest, calm, conditions, laid).
  DERIVED. THE GIVEN ROWS OF THIS SEAT. 6 by the template 'for every input the law returns true; each argument reads behind the call as it read before'; 0 by the template 'total and deterministic' (their statements: YtfdgjgjcppfmiaaTotals.lean).
  GIVEN WITH THE SEED: the statements are not yours to turn. If you find one false, say at which input.
  Laid BY PROGRAM, IN A SANDBOX (cutbox-rows.mjs): the forced cells as the released guide's own fill.sh prints them over the translation 8b35aec85ceb4277… (all of the seat's roots in one cut). By AI agents, Wed Nov 11 2026. No macro, syntax, notation, axiom, sorry.
-/
import Derived.Test.YtfdgjgjcppfmiaaChecked
import GoSem.Claim
import GoSem.ClaimJoined
import GoSem.ClaimMapViews
import Derived.JoinedTies
import Derived.KernelRfl
namespace Go.Proofs.Ytfdgjgjcppfmiaa
/- THE CELL 'sum', in the pinned program and in every row, IS THE sha256 OF THE DUMP (.gsa) THAT YtfdgjgjcppfmiaaProg.lean LOADS. Nothing in Lean hashes anything: it is a label: what it is worth is what the hold of that sum in a sandbox is worth. -/
noncomputable def Try.pinned : Pinned := { name := "ytfdgjgjcppfmiaa", sum := "8b35aec85ceb4277c7e03481b51bc67142eb0a1a15b40a46fd23a37fcbd7c400", checked := Try.checked }
namespace Rows
def none {H : Type} : Left H := { results := [], args := [] }

/-- 'cellarlaw09.RegionRound': WHATEVER THE INPUT: true; the input reads as it did. -/
def regionRoundSpec : ChangeSpec := { name := "regionRound", fn := fun _ => fun
  | [d1, d2] => { results := [.lit (.bool true)], args := [d1, d2] }
  | _ => none }
def regionRoundRow : OpenClaim := { program := "ytfdgjgjcppfmiaa", sum := "8b35aec85ceb4277c7e03481b51bc67142eb0a1a15b40a46fd23a37fcbd7c400", func := "cellar/cellarlaw09.RegionRound", spec := "regionRound", apart := false }
def RegionRoundSaid : Prop := regionRoundRow.holds Try.pinned (OpenSpec.ofChange regionRoundSpec)

/-- ITS FALSE NEIGHBOUR: 'it returns false'. Refute it at one input. -/
def regionRoundWrong : ChangeSpec := { name := "regionRound", fn := fun _ => fun
  | [d1, d2] => { results := [.lit (.bool false)], args := [d1, d2] }
  | _ => none }
def RegionRoundWrongFalsely : Prop := regionRoundRow.holds Try.pinned (OpenSpec.ofChange regionRoundWrong)

/-- 'cellarlaw09.RegionRises': WHATEVER THE INPUT: true; the input reads as it did. -/
def regionRisesSpec : ChangeSpec := { name := "regionRises", fn := fun _ => fun
  | [d1, d2] => { results := [.lit (.bool true)], args := [d1, d2] }
  | _ => none }
def regionRisesRow : OpenClaim := { program := "ytfdgjgjcppfmiaa", sum := "8b35aec85ceb4277c7e03481b51bc67142eb0a1a15b40a46fd23a37fcbd7c400", func := "cellar/cellarlaw09.RegionRises", spec := "regionRises", unfollowed := true, recurses := true, apart := false }
def RegionRisesSaid : Prop := regionRisesRow.holds Try.pinned (OpenSpec.ofChange regionRisesSpec)

/-- ITS FALSE NEIGHBOUR: 'it returns false'. Refute it at one input. -/
def regionRisesWrong : ChangeSpec := { name := "regionRises", fn := fun _ => fun
  | [d1, d2] => { results := [.lit (.bool false)], args := [d1, d2] }
  | _ => none }
def RegionRisesWrongFalsely : Prop := regionRisesRow.holds Try.pinned (OpenSpec.ofChange regionRisesWrong)

/-- 'cellarlaw09.RegionPlays': WHATEVER THE INPUT: true; the input reads as it did. -/
def regionPlaysSpec : ChangeSpec := { name := "regionPlays", fn := fun _ => fun
  | [d1, d2] => { results := [.lit (.bool true)], args := [d1, d2] }
  | _ => none }
def regionPlaysRow : OpenClaim := { program := "ytfdgjgjcppfmiaa", sum := "8b35aec85ceb4277c7e03481b51bc67142eb0a1a15b40a46fd23a37fcbd7c400", func := "cellar/cellarlaw09.RegionPlays", spec := "regionPlays", unfollowed := true, recurses := true, apart := false }
def RegionPlaysSaid : Prop := regionPlaysRow.holds Try.pinned (OpenSpec.ofChange regionPlaysSpec)

/-- ITS FALSE NEIGHBOUR: 'it returns false'. Refute it at one input. -/
def regionPlaysWrong : ChangeSpec := { name := "regionPlays", fn := fun _ => fun
  | [d1, d2] => { results := [.lit (.bool false)], args := [d1, d2] }
  | _ => none }
def RegionPlaysWrongFalsely : Prop := regionPlaysRow.holds Try.pinned (OpenSpec.ofChange regionPlaysWrong)

/-- 'cellarlaw09.RegionStops': WHATEVER THE INPUT: true; the input reads as it did. -/
def regionStopsSpec : ChangeSpec := { name := "regionStops", fn := fun _ => fun
  | [d1, d2, d3] => { results := [.lit (.bool true)], args := [d1, d2, d3] }
  | _ => none }
def regionStopsRow : OpenClaim := { program := "ytfdgjgjcppfmiaa", sum := "8b35aec85ceb4277c7e03481b51bc67142eb0a1a15b40a46fd23a37fcbd7c400", func := "cellar/cellarlaw09.RegionStops", spec := "regionStops", unfollowed := true, recurses := true, apart := false }
def RegionStopsSaid : Prop := regionStopsRow.holds Try.pinned (OpenSpec.ofChange regionStopsSpec)

/-- ITS FALSE NEIGHBOUR: 'it returns false'. Refute it at one input. -/
def regionStopsWrong : ChangeSpec := { name := "regionStops", fn := fun _ => fun
  | [d1, d2, d3] => { results := [.lit (.bool false)], args := [d1, d2, d3] }
  | _ => none }
def RegionStopsWrongFalsely : Prop := regionStopsRow.holds Try.pinned (OpenSpec.ofChange regionStopsWrong)

/-- 'cellarlaw09.RegionNobody': WHATEVER THE INPUT: true; the input reads as it did. -/
def regionNobodySpec : ChangeSpec := { name := "regionNobody", fn := fun _ => fun
  | [d1, d2] => { results := [.lit (.bool true)], args := [d1, d2] }
  | _ => none }
def regionNobodyRow : OpenClaim := { program := "ytfdgjgjcppfmiaa", sum := "8b35aec85ceb4277c7e03481b51bc67142eb0a1a15b40a46fd23a37fcbd7c400", func := "cellar/cellarlaw09.RegionNobody", spec := "regionNobody", unfollowed := true, recurses := true, apart := false }
def RegionNobodySaid : Prop := regionNobodyRow.holds Try.pinned (OpenSpec.ofChange regionNobodySpec)

/-- ITS FALSE NEIGHBOUR: 'it returns false'. Refute it at one input. -/
def regionNobodyWrong : ChangeSpec := { name := "regionNobody", fn := fun _ => fun
  | [d1, d2] => { results := [.lit (.bool false)], args := [d1, d2] }
  | _ => none }
def RegionNobodyWrongFalsely : Prop := regionNobodyRow.holds Try.pinned (OpenSpec.ofChange regionNobodyWrong)

/-- 'cellarlaw09.RegionLoads': WHATEVER THE INPUT: true; the input reads as it did. -/
def regionLoadsSpec : ChangeSpec := { name := "regionLoads", fn := fun _ => fun
  | [d1, d2, d3] => { results := [.lit (.bool true)], args := [d1, d2, d3] }
  | _ => none }
def regionLoadsRow : OpenClaim := { program := "ytfdgjgjcppfmiaa", sum := "8b35aec85ceb4277c7e03481b51bc67142eb0a1a15b40a46fd23a37fcbd7c400", func := "cellar/cellarlaw09.RegionLoads", spec := "regionLoads", unfollowed := true, recurses := true, apart := false }
def RegionLoadsSaid : Prop := regionLoadsRow.holds Try.pinned (OpenSpec.ofChange regionLoadsSpec)

/-- ITS FALSE NEIGHBOUR: 'it returns false'. Refute it at one input. -/
def regionLoadsWrong : ChangeSpec := { name := "regionLoads", fn := fun _ => fun
  | [d1, d2, d3] => { results := [.lit (.bool false)], args := [d1, d2, d3] }
  | _ => none }
def RegionLoadsWrongFalsely : Prop := regionLoadsRow.holds Try.pinned (OpenSpec.ofChange regionLoadsWrong)

/- THE SECOND FORM. 'bulk': how many values and letters a reading holds, each counted each time it is reached (what is shared counts as often as it is met; a slice's spare places count too). A statement '..UptoSaid' is the law's where the arguments, and the package variables that the reading takes, are together of bulk at most 1048576: NARROWER than '..Said'. Prove '..Said' where nothing that the law and all that it calls make is longer than what came in: it says more and counts as full. Else prove '..UptoSaid'. A law counts once. -/
mutual
def uptoBulk {H : Type} : DataW H → Nat
  | .lit (.string bytes) => bytes.length + 1
  | .lit _ => 1
  | .nil => 1
  | .ptr d => uptoBulk d + 1
  | .slice elems spare => uptoBulkAll elems + uptoBulkAll spare + 1
  | .agg parts => uptoBulkAll parts + 1
  | .iface _ d => uptoBulk d + 1
  | .map entries => uptoBulkEntries entries + 1
  | .held _ => 1
def uptoBulkAll {H : Type} : List (DataW H) → Nat
  | [] => 0
  | d :: r => uptoBulk d + uptoBulkAll r
def uptoBulkEntries {H : Type} : List (Lit × DataW H) → Nat
  | [] => 0
  | x :: r => uptoBulkEntry x + uptoBulkEntries r
def uptoBulkEntry {H : Type} : Lit × DataW H → Nat
  | (.string bytes, d) => bytes.length + uptoBulk d + 1
  | (_, d) => uptoBulk d + 1
 end
def uptoSmall : (H : Type) → List (DataW H) → Bool := fun _ ds => decide (uptoBulkAll ds ≤ 1048576)
def OpenSpec.upto (s : _root_.Go.ChangeSpec) : _root_.Go.OpenSpec := { _root_.Go.OpenSpec.ofChange s with cond := some uptoSmall }

/-- 'cellarlaw09.RegionRound', WHERE WHAT IT READS IS OF BULK AT MOST 1048576: true; the input reads as it did. -/
def regionRoundUptoRow : OpenClaim := { program := "ytfdgjgjcppfmiaa", sum := "8b35aec85ceb4277c7e03481b51bc67142eb0a1a15b40a46fd23a37fcbd7c400", func := "cellar/cellarlaw09.RegionRound", spec := "regionRound", apart := false, narrowed := true }
def RegionRoundUptoSaid : Prop := regionRoundUptoRow.holds Try.pinned (OpenSpec.upto regionRoundSpec)

/-- 'cellarlaw09.RegionRises', WHERE WHAT IT READS IS OF BULK AT MOST 1048576: true; the input reads as it did. -/
def regionRisesUptoRow : OpenClaim := { program := "ytfdgjgjcppfmiaa", sum := "8b35aec85ceb4277c7e03481b51bc67142eb0a1a15b40a46fd23a37fcbd7c400", func := "cellar/cellarlaw09.RegionRises", spec := "regionRises", unfollowed := true, recurses := true, apart := false, narrowed := true }
def RegionRisesUptoSaid : Prop := regionRisesUptoRow.holds Try.pinned (OpenSpec.upto regionRisesSpec)

/-- 'cellarlaw09.RegionPlays', WHERE WHAT IT READS IS OF BULK AT MOST 1048576: true; the input reads as it did. -/
def regionPlaysUptoRow : OpenClaim := { program := "ytfdgjgjcppfmiaa", sum := "8b35aec85ceb4277c7e03481b51bc67142eb0a1a15b40a46fd23a37fcbd7c400", func := "cellar/cellarlaw09.RegionPlays", spec := "regionPlays", unfollowed := true, recurses := true, apart := false, narrowed := true }
def RegionPlaysUptoSaid : Prop := regionPlaysUptoRow.holds Try.pinned (OpenSpec.upto regionPlaysSpec)

/-- 'cellarlaw09.RegionStops', WHERE WHAT IT READS IS OF BULK AT MOST 1048576: true; the input reads as it did. -/
def regionStopsUptoRow : OpenClaim := { program := "ytfdgjgjcppfmiaa", sum := "8b35aec85ceb4277c7e03481b51bc67142eb0a1a15b40a46fd23a37fcbd7c400", func := "cellar/cellarlaw09.RegionStops", spec := "regionStops", unfollowed := true, recurses := true, apart := false, narrowed := true }
def RegionStopsUptoSaid : Prop := regionStopsUptoRow.holds Try.pinned (OpenSpec.upto regionStopsSpec)

/-- 'cellarlaw09.RegionNobody', WHERE WHAT IT READS IS OF BULK AT MOST 1048576: true; the input reads as it did. -/
def regionNobodyUptoRow : OpenClaim := { program := "ytfdgjgjcppfmiaa", sum := "8b35aec85ceb4277c7e03481b51bc67142eb0a1a15b40a46fd23a37fcbd7c400", func := "cellar/cellarlaw09.RegionNobody", spec := "regionNobody", unfollowed := true, recurses := true, apart := false, narrowed := true }
def RegionNobodyUptoSaid : Prop := regionNobodyUptoRow.holds Try.pinned (OpenSpec.upto regionNobodySpec)

/-- 'cellarlaw09.RegionLoads', WHERE WHAT IT READS IS OF BULK AT MOST 1048576: true; the input reads as it did. -/
def regionLoadsUptoRow : OpenClaim := { program := "ytfdgjgjcppfmiaa", sum := "8b35aec85ceb4277c7e03481b51bc67142eb0a1a15b40a46fd23a37fcbd7c400", func := "cellar/cellarlaw09.RegionLoads", spec := "regionLoads", unfollowed := true, recurses := true, apart := false, narrowed := true }
def RegionLoadsUptoSaid : Prop := regionLoadsUptoRow.holds Try.pinned (OpenSpec.upto regionLoadsSpec)

end Rows
end Go.Proofs.Ytfdgjgjcppfmiaa
