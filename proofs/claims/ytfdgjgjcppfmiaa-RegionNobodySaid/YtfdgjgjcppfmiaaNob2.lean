/-
The law on a nil manager.
-/
import Derived.Test.YtfdgjgjcppfmiaaNob
namespace Go.Proofs.Ytfdgjgjcppfmiaa
open Go

set_option maxHeartbeats 4000000 in
theorem law_nobody (n w : Int) (h : Heap) : HC Try.prog 7 #[.int .i64 n, .int .i64 w] h fun v h' => v = .bool true ∧ Ext h h' := by
  refine f7_shn _ _ _ _ ((open_nil h).mono ?_)
  rintro _ h ⟨rfl, rfl⟩
  refine ⟨_, _, _, rfl, (drain_nil w n h).mono ?_⟩
  rintro _ h ⟨rfl, rfl⟩
  refine ⟨_, _, rfl, (unpin_nil n h).mono ?_⟩
  rintro _ h ⟨rfl, rfl⟩
  refine ⟨_, _, _, _, rfl, (info_nil n h).mono ?_⟩
  rintro _ h4 ⟨rfl, x4⟩
  refine ⟨_, _, _, _, _, rfl, ?_⟩
  intro b h5 eb e5
  obtain ⟨hw, mk⟩ := rbox eb e5
  refine ⟨hw, ?_⟩
  intro h6 e6
  obtain ⟨r6, x6⟩ := mk ⟨0, 0, 0, 0⟩ h6 e6
  refine ⟨fun j h' => j = true ∧ Ext h h', (lives_c h6).mono ?_, fun j h7 ⟨e, x⟩ => ⟨by rw [e], x⟩⟩
  rintro _ h8 ⟨rfl, x8⟩
  have r8 := x8.row r6
  have xall : Ext h h8 := x4.trans (x6.trans x8)
  refine ⟨_, rfl, fun _ => ⟨fun _ => (seal_nil h8).mono ?_, fun h => by simp at h⟩, fun h => by cases h⟩
  rintro _ h8 ⟨rfl, rfl⟩
  refine ⟨_, rfl, fun _ => (mark_nil n h8).mono ?_, fun h => by simp at h⟩
  rintro _ h8 ⟨rfl, rfl⟩
  refine ⟨_, rfl, fun _ => ⟨fun _ => ⟨fun _ => (free_nil n h8).mono ?_, fun h => by simp at h⟩, fun h => by simp at h⟩, fun h => by simp at h⟩
  rintro _ h8 ⟨rfl, rfl⟩
  refine ⟨_, rfl, fun _ => (pin_nil n h8).mono ?_, fun h => by simp at h⟩
  rintro _ h8 ⟨rfl, rfl⟩
  refine ⟨_, rfl, fun _ => ⟨fun _ => ⟨fun _ => ⟨fun _ => ⟨_, _, _, _, by rw [hcell_row r8]; rfl, by rw [hcell_row r8]; rfl, by rw [hcell_row r8]; rfl, by rw [hcell_row r8]; rfl, fun _ => ⟨_, last_nil h8, fun _ => ⟨_, current_nil h8, fun _ => (frees_nil h8).mono ?_, fun h => by simp at h⟩, fun h => by simp at h⟩, fun h => by simp at h⟩, fun h => by simp at h⟩, fun h => by simp at h⟩, fun h => by simp at h⟩, fun h => by simp at h⟩
  rintro _ h8 ⟨rfl, rfl⟩
  refine ⟨_, _, _, rfl, fun _ => (sealed_nil h8).mono ?_, fun h => by simp at h⟩
  rintro _ h14 ⟨rfl, x14⟩
  exact ⟨_, _, _, rfl, rfl, xall.trans x14⟩

end Go.Proofs.Ytfdgjgjcppfmiaa
