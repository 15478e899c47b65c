/-
A nil manager.
-/
import Derived.Test.YtfdgjgjcppfmiaaOpn
import Derived.Test.YtfdgjgjcppfmiaaShN
import Derived.Test.YtfdgjgjcppfmiaaShO
namespace Go.Proofs.Ytfdgjgjcppfmiaa
open Go

theorem made_nil (h : Heap) : HC Try.prog 32 #[.pointer none] h fun v h' => v = .bool false ∧ h' = h := f32_shn _ _ ⟨rfl, rfl⟩
theorem at_nil (r s : Int) (h : Heap) : HC Try.prog 31 #[.pointer none, .int .i64 r, .int .i64 s] h fun v h' => v = .tuple #[.pointer none, .int .i64 6] ∧ h' = h :=
  f31_shn _ _ _ _ ⟨false, made_nil h, fun _ => ⟨rfl, rfl⟩, fun h => by simp at h⟩
theorem open_nil (h : Heap) : HC Try.prog 13 #[.pointer none] h fun v h' => v = .tuple #[.int .i64 0, .int .u64 0, .int .i64 6] ∧ h' = h :=
  f13_shn _ _ ⟨false, made_nil h, fun _ => ⟨rfl, rfl⟩, fun h => by simp at h⟩
theorem drain_nil (w r : Int) (h : Heap) : HC Try.prog 21 #[.pointer none, .int .i64 w, .int .i64 r] h fun v h' => v = .tuple #[.bool false, .int .i64 6] ∧ h' = h :=
  f21_shn _ _ _ _ ⟨_, _, at_nil r 4 h, fun _ => ⟨rfl, rfl⟩, fun h => by simp at h⟩
theorem unpin_nil (r : Int) (h : Heap) : HC Try.prog 22 #[.pointer none, .int .i64 r] h fun v h' => v = .tuple #[.slice none 0 0, .int .i64 6] ∧ h' = h :=
  f22_shn _ _ _ ⟨_, _, at_nil r 0 h, fun _ => ⟨rfl, rfl⟩, fun h => by simp at h⟩
theorem seal_nil (h : Heap) : HC Try.prog 23 #[.pointer none] h fun v h' => v = .int .i64 6 ∧ h' = h :=
  f23_shn _ _ ⟨false, made_nil h, fun _ => ⟨rfl, rfl⟩, fun h => by simp at h⟩
theorem mark_nil (r : Int) (h : Heap) : HC Try.prog 24 #[.pointer none, .int .i64 r] h fun v h' => v = .int .i64 6 ∧ h' = h :=
  f24_shn _ _ _ ⟨_, _, at_nil r 3 h, fun h' => h' = h, ⟨fun h => by simp at h, fun _ => rfl⟩, fun h1 e => ⟨rfl, e⟩⟩
theorem free_nil (r : Int) (h : Heap) : HC Try.prog 25 #[.pointer none, .int .i64 r] h fun v h' => v = .int .i64 6 ∧ h' = h :=
  f25_shn _ _ _ ⟨_, _, at_nil r 4 h, fun _ => ⟨rfl, rfl⟩, fun h => by simp at h⟩
theorem pin_nil (r : Int) (h : Heap) : HC Try.prog 26 #[.pointer none, .int .i64 r] h fun v h' => v = .bool false ∧ h' = h :=
  f26_shn _ _ _ ⟨_, _, at_nil r 0 h, true, ⟨fun _ => rfl, fun h => by simp at h⟩, fun _ => ⟨rfl, rfl⟩, fun h => by simp at h⟩
theorem last_nil (h : Heap) : HC Try.prog 15 #[.pointer none] h fun v h' => v = .int .u64 0 ∧ h' = h :=
  f15_shn _ _ ⟨false, made_nil h, fun _ => ⟨rfl, rfl⟩, fun h => by simp at h⟩
theorem current_nil (h : Heap) : HC Try.prog 14 #[.pointer none] h fun v h' => v = .int .i64 (-1) ∧ h' = h :=
  f14_shn _ _ ⟨false, made_nil h, fun _ => ⟨rfl, rfl⟩, fun h => by simp at h⟩
theorem frees_nil (h : Heap) : HC Try.prog 27 #[.pointer none] h fun v h' => v = .slice none 0 0 ∧ h' = h :=
  f27_shn _ _ ⟨false, made_nil h, fun _ => ⟨rfl, rfl⟩, fun h => by simp at h⟩
theorem info_nil (r : Int) (h : Heap) : HC Try.prog 11 #[.pointer none, .int .i64 r] h fun v h' => v = .tuple #[.agg #[.int .i64 0, .int .u64 0, .int .i64 0, .int .i64 0], .bool false] ∧ Ext h h' := by
  refine f11_shn _ _ _ ?_
  intro nb h1 eb e1
  obtain ⟨hw, mk⟩ := rbox eb e1
  refine ⟨_, _, at_nil r 0 h1, fun _ => ⟨hw, ?_⟩, fun h => by simp at h⟩
  intro h3 e3
  obtain ⟨r3, x3⟩ := mk ⟨0, 0, 0, 0⟩ h3 e3
  exact ⟨_, _, _, _, by rw [hcell_row r3]; rfl, by rw [hcell_row r3]; rfl, by rw [hcell_row r3]; rfl, by rw [hcell_row r3]; rfl, rfl, x3⟩

theorem sealed_nil (h : Heap) : HC Try.prog 28 #[.pointer none] h fun v h' => v = .slice none 0 0 ∧ Ext h h' := by
  refine f28_shn _ _ ?_
  intro l h1 el e1
  have x1 : Ext h h1 := by rw [e1]; exact Ext.push _ _
  have c1 : hcell h1 l 0 = some (.slice none 0 0) := by rw [hcell_row (by rw [e1]; exact push_new el)]; rfl
  refine f16_shn _ _ ?_
  intro t h2 et e2
  have x2 : Ext h1 h2 := by rw [e2]; exact Ext.push _ _
  have c2 : hcell h2 t 0 = some (.pointer none) := by rw [hcell_row (by rw [e2]; exact push_new et)]; rfl
  refine ⟨_, rfl, ?_⟩
  intro Lp l1 h3 y stay el1 x3 z3 L3 _
  refine ⟨34, [], [.pointer (some ⟨t, 0, none⟩)], rfl, fun _ _ => Try.call34 _ _, ?_⟩
  refine f34_sho y t 0 h3 _ ⟨_, x3.cell c2, false, made_nil h3, fun _ => ?_, fun h => by simp at h⟩
  refine ⟨.ready, none, L3, by simp, ?_⟩
  intro h6 o6 L6
  have l1lt : l < h1.size := hcell_lt c1
  have hs2 := x2.size
  refine ⟨rfl, none, 0, 0, ?_, ?_⟩
  · have hb := o6.block l (by omega)
    have := (x3.cell (x2.cell c1))
    unfold hcell at this ⊢
    rw [hb]; exact this
  · intro h14 s14
    refine ⟨rfl, ?_⟩
    have x13 := x1.trans (x2.trans x3)
    refine ⟨by rw [s14.size, o6.size]; exact x13.size, fun b hb => ?_⟩
    have hbl : b ≠ l1 := by have := x1.size; omega
    rw [s14.low hb, o6.block b hbl]
    exact x13.block b hb

end Go.Proofs.Ytfdgjgjcppfmiaa
