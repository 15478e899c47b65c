/-
The regions that Load is handed, read off the memory: their sequences.
-/
import Derived.Test.YtfdgjgjcppfmiaaGO
import Derived.Test.YtfdgjgjcppfmiaaGZ3
namespace Go.Proofs.Ytfdgjgjcppfmiaa
open Go Go.ChangeShapes Go.WideShapes Go.Deep
theorem inf_low {H : Type} {d : DataW H} {L : List Mg.Inf} (g : L.length = 0 ∨ ∃ es sp, d = .slice es sp ∧ es.length = L.length ∧ ∀ (i : Nat) y z, L[i]? = some y → es[i]? = some z → z = dInf y ∧ wfInf y) (i : Nat) : 0 ≤ (Mg.gt L i).sq := by
  by_cases hi : i < L.length
  · rcases g with g | ⟨es, sp, _, he, hs⟩
    · omega
    · have := (hs i L[i] es[i] (List.getElem?_eq_getElem hi) (List.getElem?_eq_getElem (by omega))).2.2.1
      have := bounds_u64 this
      rw [Mg.gt_eq hi]; omega
  · unfold Mg.gt
    rw [List.getD_eq_getElem?_getD, List.getElem?_eq_none (by omega)]
    exact Int.le_refl _
theorem int_low {n : Int} (h : (Lit.int .u64 n).wf = true) : 0 ≤ n := (bounds_u64 h).1
end Go.Proofs.Ytfdgjgjcppfmiaa
