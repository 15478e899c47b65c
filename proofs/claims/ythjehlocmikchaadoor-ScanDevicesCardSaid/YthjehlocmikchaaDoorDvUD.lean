import Derived.Test.YthjehlocmikchaaDoorDvUB
import Derived.Test.YthjehlocmikchaaDoorDvDeq
import Derived.Test.YthjehlocmikchaaDoorDvDrw
import Derived.Test.YthjehlocmikchaaDoorDvRng
import Derived.Test.YthjehlocmikchaaDoorDvTBb
import Derived.Test.YthjehlocmikchaaDoorProg
import Derived.Test.YthjehlocmikchaaDoorDvTE
namespace Go.Proofs.YthjehlocmikchaaDoor
namespace Sc
open Go
section
variable {h : Heap} {a : Option Addr} {c : Nat} {L : List Int}
theorem clone_c (s : Sl eB h a c L) (hl : L.length ≤ 140737488355328) : HC Tryd.prog 48 #[.slice a L.length c] h fun v h' => ∃ a' c', v = .slice a' L.length c' ∧ Ext h h' ∧ Sl eB h' a' c' L ∧ Own eB.k tB h.size h' a' c' := by
 refine f48_sh _ _ _ _ _ ⟨fun e => ?_, fun _ nb h1 en e1 => ?_⟩
 ·have ea : a = none := by cases a; rfl; cases e
  subst ea
  have hL : L = [] := by
   rcases s.ex with q | ⟨_, _, q, _⟩
   ·have := s.le
    exact List.length_eq_zero_iff.1 (by omega)
   ·cases q
  subst hL
  exact ⟨none, 0, rfl, Ext.refl _, Sl.nil _ _, Own.nil _ _ _ _⟩
 ·have x1 : Ext h h1 := by rw [e1]; exact Ext.push _ _
  have hrow : h1[nb]? = some (.cells (([] : List Int).flatMap eB.enc).toArray tB (0, 0)) := by rw [e1]; exact push_new en
  have := app_own (E := eB) (h0 := h) (n := 0) (n2 := L.length) aB x1 (Sl.lit hrow) (Own.lit hrow (by omega)) rfl (s.ext x1) rfl (by omega) (K := fun v h2 => ∃ ap : Option Addr, ∃ ap_n ap_c : Nat, v = (.slice ap ap_n ap_c) ∧ ∃ a' c', (Value.slice ap ap_n ap_c) = .slice a' L.length c' ∧ Ext h h2 ∧ Sl eB h2 a' c' L ∧ Own eB.k tB h.size h2 a' c') fun a' c' h' x' _ s' w' _ => ⟨a', _, c', rfl, a', c', by rw [Nat.zero_add], x', by simpa using s', w'⟩
  exact this
end
end Sc
end Go.Proofs.YthjehlocmikchaaDoor
