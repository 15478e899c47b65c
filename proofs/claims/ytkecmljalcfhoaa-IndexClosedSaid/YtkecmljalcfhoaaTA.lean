/-
Small comparisons.
-/
import Derived.Test.YtkecmljalcfhoaaShR
import Derived.Test.YtkecmljalcfhoaaTL
import Derived.Test.YtkecmljalcfhoaaLay
namespace Go.Proofs.Ytkecmljalcfhoaa
open Go RH

theorem isNaN_c (x : Int) (h : Heap) : HC Try.prog 73 #[.int .u64 x] h fun v h' => v = .bool false ∧ Ext h h' :=
  f73_sh _ _ _ ⟨by simp, Ext.refl _⟩
def ucmp (x y : Int) : Int := if x < y then -1 else if y < x then 1 else 0
end Go.Proofs.Ytkecmljalcfhoaa
