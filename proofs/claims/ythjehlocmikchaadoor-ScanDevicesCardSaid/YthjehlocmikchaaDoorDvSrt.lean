import Derived.Shelf.SlSortCmp.NoneTotal
import Derived.Test.YthjehlocmikchaaDoorDvSli
namespace Go.Proofs.YthjehlocmikchaaDoor
open Go Go.Shelf Go.Sort
theorem calls_of {P : Program} {f : FuncId} {args : Array Value} {h : Heap} {R : Value → Heap → Prop} (hc : HC P f args h R) {w : World} (hw : w.heap = h) : Calls P f args w fun e w' => ∃ v, e = .returned v ∧ Sim w w' ∧ R v w'.heap := hc w hw
end Go.Proofs.YthjehlocmikchaaDoor
