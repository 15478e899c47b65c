/-
The lossy map's small functions: second part.
-/
import Derived.Test.YtmdgfbhmogjklaaMA
import Derived.Test.YtmdgfbhmogjklaaShB
namespace Go.Proofs.Ytmdgfbhmogjklaa
open Go Ml

theorem hits_c (m : Mv) (h : Heap) : HC Try.prog 35 #[mvV m] h fun v h' => v = .bool (hits m) ∧ Ext h h' :=
  f35_sh _ _ _ _ _ _ _ _ _ _ fun _ x => ⟨rfl, x⟩
theorem fate_c (m : Mv) (h : Heap) : HC Try.prog 45 #[mvV m] h fun v h' => v = .int .i64 (fate m : Nat) ∧ Ext h h' := by
  refine f45_sh _ _ _ _ _ _ _ _ _ _ ⟨fun e _ x => ⟨?_, x⟩, fun e => ⟨fun e2 _ x => ⟨?_, x⟩, fun e2 => ⟨fun e3 _ x => ⟨?_, x⟩, fun e3 _ x => ⟨?_, x⟩⟩⟩⟩
  all_goals simp at *
  · unfold fate; rw [if_pos (by omega)]; rfl
  · unfold fate; rw [if_neg (by omega), if_pos (by omega)]; rfl
  · unfold fate; rw [if_neg (by omega), if_neg (by omega), if_pos (by omega)]; rfl
  · unfold fate; rw [if_neg (by omega), if_neg (by omega), if_neg (by omega)]; rfl
theorem cmpStr_c (a b : Str) (h : Heap) : HC Try.prog 44 #[.string a, .string b] h fun v h' => v = .int .i64 (scmp a b) ∧ Ext h h' :=
  f44_sh _ _ _ _ ⟨fun e _ x => ⟨by simp [scmp, e], x⟩, fun e => ⟨fun e2 _ x => ⟨by simp [scmp, e, e2], x⟩, fun e2 _ x => ⟨by simp [scmp, e, e2], x⟩⟩⟩
theorem does_c (m : Mv) (h : Heap) : HC Try.prog 38 #[mvV m] h fun v h' => v = .tuple #[.bool (doesR m).1, .bool (doesR m).2.1, .bool (doesR m).2.2] ∧ Ext h h' := by
  refine f38_sh _ _ _ _ _ _ _ _ _ _ ⟨fun e _ x => ⟨?_, x⟩, fun e => ⟨fun e2 _ x => ⟨?_, x⟩, fun e2 => ⟨fun e3 _ x => ⟨?_, x⟩, fun e3 => ⟨fun e4 _ x => ⟨?_, x⟩, fun e4 _ x => ⟨?_, x⟩⟩⟩⟩⟩
  all_goals simp at *
  · unfold doesR; rw [if_pos ⟨e.1, e.2⟩]; exact ⟨rfl, rfl, rfl⟩
  · unfold doesR; rw [if_neg (by omega), if_pos (by omega)]; exact ⟨rfl, rfl, rfl⟩
  · unfold doesR; rw [if_neg (by omega), if_neg (by omega), if_pos (by omega)]; exact ⟨rfl, rfl, rfl⟩
  · unfold doesR; rw [if_neg (by omega), if_neg (by omega), if_neg (by omega), if_pos (by omega)]; exact ⟨rfl, rfl, rfl⟩
  · unfold doesR; rw [if_neg (by omega), if_neg (by omega), if_neg (by omega), if_neg (by omega)]; exact ⟨rfl, rfl, rfl⟩
theorem rcheck_c (m : Mv) (h : Heap) : HC Try.prog 21 #[mvV m] h fun v h' => v = .int .i64 (check m) ∧ Ext h h' := by
  refine f21_sh _ _ _ _ _ _ _ _ _ _ ⟨fun e _ x => ⟨?_, x⟩, fun e => ⟨fun e2 _ x => ⟨?_, x⟩, fun e2 => ⟨fun e3 _ x => ⟨?_, x⟩, fun e3 => ⟨fun e4 _ x => ⟨?_, x⟩, fun e4 => ⟨fun e5 _ x => ⟨?_, x⟩, fun e5 _ x => ⟨?_, x⟩⟩⟩⟩⟩⟩
  all_goals simp at *
  · unfold check; rw [if_pos (by omega)]
  · unfold check; rw [if_pos (.inr (.inl ⟨e2.1, by omega⟩))]
  · unfold check; rw [if_pos (.inr (.inr (.inl ⟨e3.1, e3.2.1, e3.2.2⟩)))]
  · unfold check; rw [if_pos (.inr (.inr (.inr (.inl ⟨e4.1, e4.2⟩))))]
  · unfold check; rw [if_pos (.inr (.inr (.inr (.inr ⟨e5.1, e5.2⟩))))]
  · unfold check
    rw [if_neg ?_]
    rintro (h1 | ⟨h1, h2⟩ | ⟨h1, h2, h3⟩ | ⟨h1, h2⟩ | ⟨h1, h2⟩)
    · omega
    · have := e2 h1; omega
    · exact h3 (e3 h1 h2)
    · exact h2 (e4 h1)
    · exact h2 (e5 h1)
end Go.Proofs.Ytmdgfbhmogjklaa
