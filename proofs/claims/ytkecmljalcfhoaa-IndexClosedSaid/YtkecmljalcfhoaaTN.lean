/-
A nil table.
-/
import Derived.Test.YtkecmljalcfhoaaTD
import Derived.Test.YtkecmljalcfhoaaShN
namespace Go.Proofs.Ytkecmljalcfhoaa
open Go RH

theorem mk_box {h h1 : Heap} {b : Nat} (eb : b = Array.size h) (e1 : h1 = Array.push h (.cells #[.int .u64 0, .int .u64 0, .int .u64 0, .int .u8 0] 31)) :
    HWs h1 b 0 4 ∧ ∀ (e : Ent) h2, h2 = hsets h1 b 0 [.int .u64 e.h, .int .u64 e.a, .int .u64 e.v, .int .u8 e.k] → Box h2 b e ∧ Ext h h2 ∧ h.size ≤ b ∧ b < h2.size := by
  have r1 : h1[b]? = some (.cells #[.int .u64 0, .int .u64 0, .int .u64 0, .int .u8 0] 31 (0, 0)) := by rw [e1]; exact push_new eb
  have x1 : Ext h h1 := by rw [e1]; exact Ext.push _ _
  refine ⟨HWs_row r1 (by simp), ?_⟩
  rintro e h2 rfl
  have hb : Box (hsets h1 b 0 [.int .u64 e.h, .int .u64 e.a, .int .u64 e.v, .int .u8 e.k]) b e := by unfold Box; rw [hsets_row _ r1]; rfl
  refine ⟨hb, ?_, by omega, row_lt hb⟩
  exact ((x1.fr (fun i => i = b)).trans (fr_hsets (fun i => i = b) (fun _ => rfl)) (fun _ _ h => h)).ext (fun i hi h' => by omega)
theorem made_no (h : Heap) : HC Try.prog 64 #[.pointer none] h fun v h' => v = .bool false ∧ h' = h := f64_shn _ _ ⟨rfl, rfl⟩
theorem find_no (x : Int) (h : Heap) : HC Try.prog 50 #[.pointer none, .int .u64 x] h fun v h' => v = .int .i64 (-1) ∧ h' = h :=
  f50_sh _ _ _ _ ⟨false, made_no h, fun _ => ⟨rfl, rfl⟩, fun h => by simp at h⟩
theorem layout_no (h : Heap) : HC Try.prog 57 #[.pointer none] h fun v h' => v = .slice none 0 0 ∧ h' = h :=
  f57_shn _ _ ⟨false, made_no h, fun _ => ⟨rfl, rfl⟩, fun h => by simp at h⟩
theorem len_no (h : Heap) : HC Try.prog 48 #[.pointer none] h fun v h' => v = .int .i64 0 ∧ h' = h :=
  f48_shn _ _ ⟨false, made_no h, fun _ => ⟨rfl, rfl⟩, fun h => by simp at h⟩
theorem hit_no (x : Int) (h : Heap) : HC Try.prog 52 #[.pointer none, .int .u64 x] h fun v h' => v = .bool false ∧ h' = h :=
  f52_shn _ _ _ ((find_no x h).mono (by rintro _ h1 ⟨rfl, rfl⟩; exact ⟨_, rfl, fun _ => ⟨rfl, rfl⟩, fun h => by simp at h⟩))
theorem get_no (x : Int) (h : Heap) : HC Try.prog 28 #[.pointer none, .int .u64 x] h fun v h' => v = .tuple #[.agg #[.int .u64 0, .int .u64 0, .int .u64 0, .int .u8 0], .bool false] ∧ Ext h h' := by
  refine f28_shn _ _ _ ?_
  intro nb h1 eb e1
  obtain ⟨hw, mk⟩ := mk_box eb e1
  have x1 : Ext h h1 := by rw [e1]; exact Ext.push _ _
  refine (find_no x h1).mono ?_
  rintro _ _ ⟨rfl, rfl⟩
  refine ⟨_, rfl, fun _ => ⟨hw, ?_⟩, fun h => by simp at h⟩
  intro h3 e3
  obtain ⟨b3, x3, _, _⟩ := mk z0 h3 e3
  exact ⟨_, _, _, _, b3.c0, b3.c1, b3.c2, b3.c3, rfl, x3⟩
theorem remove_no (x : Int) (h : Heap) : HC Try.prog 46 #[.pointer none, .int .u64 x] h fun v h' => v = .tuple #[.agg #[.int .u64 0, .int .u64 0, .int .u64 0, .int .u8 0], .bool false] ∧ Ext h h' := by
  refine f46_shn _ _ _ ?_
  intro nb h1 eb e1
  obtain ⟨hw, mk⟩ := mk_box eb e1
  refine (find_no x h1).mono ?_
  rintro _ _ ⟨rfl, rfl⟩
  refine ⟨_, rfl, fun _ => ⟨hw, ?_⟩, fun h => by simp at h⟩
  intro h3 e3
  obtain ⟨b3, x3, _, _⟩ := mk z0 h3 e3
  exact ⟨_, _, _, _, b3.c0, b3.c1, b3.c2, b3.c3, rfl, x3⟩
end Go.Proofs.Ytkecmljalcfhoaa
