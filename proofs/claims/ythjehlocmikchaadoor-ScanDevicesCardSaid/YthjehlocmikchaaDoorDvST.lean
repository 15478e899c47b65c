import Derived.Test.YthjehlocmikchaaDoorDvSS
namespace Go.Proofs.YthjehlocmikchaaDoor
namespace Sc
open Go
abbrev tF : TypeId := 45
theorem aF : AppT Tryd.prog 32 tF eFo.k 72 := ⟨by kernel_rfl, by kernel_rfl, by kernel_rfl, ⟨.agg #[.int .i64 0, .int .i64 0, .int .i64 0, .int .i64 0, .int .u64 0, .string ByteArray.empty, .string ByteArray.empty], [.int .i64 0, .int .i64 0, .int .i64 0, .int .i64 0, .int .u64 0, .string ByteArray.empty, .string ByteArray.empty], by unfold zeroB; kernel_rfl, rfl, rfl⟩, by decide⟩
def recsOf (g : Geo) (x : Hd) (rg : Int) (L : List Int) : List Fo × Int × Int := goOn g (x.sq % 4294967296) rg L L.length (fst0 g)
theorem goOn_far {g : Geo} {salt rg : Int} {L : List Int} {n : Nat} {p : Int} (h : p > L.length - 48) : goOn g salt rg L n p = ([], p, 4) := by
 cases n with
 | zero => rfl
 | succ n => unfold goOn; rw [if_pos h]
section
variable {h : Heap} {a : Option Addr} {c : Nat} {L : List Int}
def TellL (g : Geo) (L : List Int) (h : Heap) (v : Value) (h' : Heap) : Prop := Ext h h' ∧ match headD g L with
 | none => v = .tuple #[.slice none 0 0, .agg #[.int .i64 0, .int .i64 1]]
 | some x => ∃ a c, v = .tuple #[.slice a (recsOf g x 0 L).1.length c, .agg #[.int .i64 (recsOf g x 0 L).2.1, .int .i64 (recsOf g x 0 L).2.2]] ∧ Sl eFo h' a c (recsOf g x 0 L).1 ∧ Own eFo.k tF h.size h' a c
theorem salt_r (q : Int) (hq : 0 ≤ q ∧ q < 18446744073709551616) (h : Heap) : HC Tryd.prog 40 #[.int .u64 q] h fun v h' => v = .int .u32 (q % 4294967296) ∧ h' = h := by
 refine f40_sh _ _ _ ⟨?_, rfl⟩
 rw [Int.tmod_eq_emod_of_nonneg hq.1, wu32 ⟨by omega, by omega⟩]
theorem salt_m (q : Int) (hq : 0 ≤ q ∧ q < 18446744073709551616) (h : Heap) : HC Tryd.prog 36 #[.int .u64 q] h fun v h' => v = .int .u32 (q % 4294967296) ∧ h' = h := by
 refine f36_sh _ _ _ ⟨?_, rfl⟩
 have : IntKind.u32.wrap q = q % 4294967296 := by unfold IntKind.wrap; simp [IntKind.bits, IntKind.signed]
 rw [this]
end
end Sc
end Go.Proofs.YthjehlocmikchaaDoor
