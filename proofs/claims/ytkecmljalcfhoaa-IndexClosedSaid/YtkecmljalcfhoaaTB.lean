/-
Comparing by hash.
-/
import Derived.Test.YtkecmljalcfhoaaShS
namespace Go.Proofs.Ytkecmljalcfhoaa
open Go RH

theorem cmpU_c (x y : Int) (h : Heap) : HC Try.prog 61 #[.int .u64 x, .int .u64 y] h fun v h' => v = .int .i64 (ucmp x y) ∧ Ext h h' := by
  unfold ucmp
  refine f61_sh _ _ _ _ ⟨fun e _ x => ⟨?_, x⟩, fun e => ⟨fun e2 _ x => ⟨?_, x⟩, fun e2 _ x => ⟨?_, x⟩⟩⟩
  · rw [if_pos (of_decide_eq_true e)]
  · rw [if_neg (of_decide_eq_false e), if_pos (of_decide_eq_true e2)]
  · rw [if_neg (of_decide_eq_false e), if_neg (of_decide_eq_false e2)]
end Go.Proofs.Ytkecmljalcfhoaa
