/-
Lists of calls, read off the memory.
-/
import Derived.Test.YtkecmljalcfhoaaLF
namespace Go.Proofs.Ytkecmljalcfhoaa
namespace Ix
open Go Go.ChangeShapes Go.WideShapes Go.Deep

theorem oOps {H : Type} {enc : TypeId × Value → H} {W : World} {a : Option Addr} {len cap : Nat} {d : DataW H} {p : List MemPlace}
    (h : DataW.Trod enc Try.prog W 0 (fun _ => true) true 22 (.slice a len cap) d p) : ∃ L : List Op, len = L.length ∧ L.length ≤ 9223372036854775807 ∧ Sl eOp W.heap a cap L ∧ ∀ o ∈ L, okOp o := by
  obtain ⟨fuel, h⟩ := h
  obtain ⟨k1, k2, L, rfl, k4, k5⟩ := open_list eOp Try.underlying22 (by kernel_rfl) (by decide) (fun y d => d = dOp y ∧ wfOp y) (fun fuel cs x h => oOp fuel cs x h) h
  have hm : cap ≤ 9223372036854775807 := k2
  refine ⟨L, rfl, by omega, k4, fun o ho => ?_⟩
  obtain ⟨i, hi, hie⟩ := List.getElem_of_mem ho
  rcases k5 with k5 | ⟨es, sp, _, hes, hg⟩
  · omega
  · exact ok_of (hg i o es[i] (by rw [List.getElem?_eq_getElem hi, hie]) (List.getElem?_eq_getElem (by omega))).2
theorem oOp1 {H : Type} {enc : TypeId × Value → H} {W : World} {cs : Array Value} {d : DataW H} {p : List MemPlace}
    (h : DataW.Trod enc Try.prog W 0 (fun _ => true) true 33 (.agg cs) d p) : ∃ o : Op, cs = (eOp.enc o).toArray ∧ okOp o := by
  obtain ⟨fuel, h⟩ := h
  obtain ⟨o, ho, _, hw⟩ := oOp _ _ _ h
  refine ⟨o, ?_, ok_of hw⟩
  have : cs.toList = eOp.enc o := by simpa [Value.cells] using ho
  rw [← this]
end Ix
end Go.Proofs.Ytkecmljalcfhoaa
