/-
Small comparisons.
-/
import Derived.Test.YtebipjmcckkhcaaShR
import Derived.Test.YtebipjmcckkhcaaRefT3
import Derived.Test.YtebipjmcckkhcaaLay
namespace Go.Proofs.Ytebipjmcckkhcaa
open Go RH

theorem isNaN_c (x : Int) (h : Heap) : HC Try.prog 52 #[.int .u64 x] h fun v h' => v = .bool false ∧ Ext h h' :=
  f52_sh _ _ _ ⟨by simp, Ext.refl _⟩
def ucmp (x y : Int) : Int := if x < y then -1 else if y < x then 1 else 0
end Go.Proofs.Ytebipjmcckkhcaa
