/-
The lossy map's small functions, told of plain Lean: first part.
-/
import Derived.Test.YtmdgfbhmogjklaaMPure
import Derived.Test.YtmdgfbhmogjklaaShA
namespace Go.Proofs.Ytmdgfbhmogjklaa
open Go Ml

abbrev mvV (m : Mv) : Value := .agg #[.int .i64 m.kind, .string m.key, .string m.val, .int .i64 m.err, .bool m.hit, .int .i64 m.life, .int .i64 m.fr, .int .i64 m.to]
abbrev mtV (x : Mt) : Value := .agg #[.bool x.has, .string x.val]
def eMt : Elt Mt := ⟨2, fun x => [.bool x.has, .string x.val], fun _ => rfl, fun x v hv => by simp at hv; rcases hv with rfl | rfl <;> rfl⟩
def eMv : Elt Mv := ⟨8, fun m => [.int .i64 m.kind, .string m.key, .string m.val, .int .i64 m.err, .bool m.hit, .int .i64 m.life, .int .i64 m.fr, .int .i64 m.to], fun _ => rfl, fun x v hv => by simp at hv; rcases hv with rfl | rfl | rfl | rfl | rfl | rfl | rfl | rfl <;> rfl⟩

theorem returned_c (m : Mv) (h : Heap) : HC Try.prog 36 #[mvV m] h fun v h' => v = .bool (decide (m.to ≥ 0)) ∧ Ext h h' :=
  f36_sh _ _ _ _ _ _ _ _ _ _ fun _ x => ⟨rfl, x⟩
theorem none_c (h : Heap) : HC Try.prog 37 #[] h fun v h' => v = mtV nil ∧ Ext h h' := f37_sh _ _ fun _ x => ⟨rfl, x⟩
theorem keyed_c (m : Mv) (h : Heap) : HC Try.prog 22 #[mvV m] h fun v h' => v = .bool (keyed m) ∧ Ext h h' :=
  f22_sh _ _ _ _ _ _ _ _ _ _ fun _ x => ⟨by simp [keyed, Bool.or_assoc], x⟩
theorem ofKey_c (m : Mv) (h : Heap) : HC Try.prog 24 #[mvV m] h fun v h' => v = .bool (keyed m) ∧ Ext h h' :=
  f24_sh _ _ _ _ _ _ _ _ _ _ fun _ x => ⟨by simp [keyed, Bool.or_assoc], x⟩
theorem before_c (a b : Mt) (h : Heap) : HC Try.prog 29 #[mtV a, mtV b] h fun v h' => v = .bool (mlt a b) ∧ Ext h h' := by
  obtain ⟨a1, a2⟩ := a
  obtain ⟨b1, b2⟩ := b
  refine f29_sh _ _ _ _ _ _ ⟨fun e _ x => ⟨?_, x⟩, fun e _ x => ⟨?_, x⟩⟩
  · cases a1 <;> cases b1 <;> simp at e <;> rfl
  · cases a1 <;> cases b1 <;> simp at e <;> rfl
theorem put_c (k v : Str) (e : Int) (h : Heap) : HC Try.prog 25 #[.string k, .string v, .int .i64 e] h fun u h' => u = mvV ⟨2, k, v, e, false, 0, 0, 1⟩ ∧ Ext h h' :=
  f25_sh _ _ _ _ _ fun _ x => ⟨rfl, x⟩
theorem hit_c (k v : Str) (h : Heap) : HC Try.prog 26 #[.string k, .string v] h fun u h' => u = mvV ⟨1, k, v, 0, true, 0, 0, 1⟩ ∧ Ext h h' :=
  f26_sh _ _ _ _ fun _ x => ⟨rfl, x⟩
theorem isNaN_c (x : Str) (h : Heap) : HC Try.prog 56 #[.string x] h fun v h' => v = .bool false ∧ Ext h h' :=
  f56_sh _ _ _ ⟨by simp, Ext.refl _⟩
end Go.Proofs.Ytmdgfbhmogjklaa
