/-
The law's helpers: does, lives.
-/
import Derived.Test.YtfdgjgjcppfmiaaReg8
import Derived.Test.YtfdgjgjcppfmiaaShB
namespace Go.Proofs.Ytfdgjgjcppfmiaa
open Go

section
variable {h : Heap} {N0 : Lo} {p q mb n K : Nat} {I : Nat → Info} {fa : Option Addr} {fc : Nat} {L : List Int} {last cur : Int}

theorem After1.pre {h1 h' : Heap} (x : Ext h h1) (a : After1 h1 h' N0 p q mb n K I) : After1 h h' N0 p q mb n K I :=
  let ⟨f, r⟩ := a; ⟨(x.fr _).trans f (fun _ _ h => h), r⟩

theorem does_c (t : Man h N0 p q mb n K I fa fc L last cur) (hK : K + 1 ≤ 2097152) (k r w : Int) : HC Try.prog 12 #[ptr p 0, .agg #[.int .i64 k, .int .i64 r, .int .i64 w]] h fun v h' => (∃ e : Int, v = .int .i64 e) ∧ After1 h h' N0 p q mb n K I := by
  refine f12_sh _ _ _ _ _ _ _ ?_
  intro o h1 eo e1
  have r1 : h1[o]? = some (.cells #[.int .i64 k, .int .i64 r, .int .i64 w] 36 (0, 0)) := by rw [e1]; exact push_new eo
  have x1 : Ext h h1 := by rw [e1]; exact Ext.push _ _
  have t1 := t.ext x1
  have c0 : hcell h1 o 0 = some (.int .i64 k) := by rw [hcell_row r1]; rfl
  have c1 : hcell h1 o 1 = some (.int .i64 r) := by rw [hcell_row r1]; rfl
  have c2 : hcell h1 o 2 = some (.int .i64 w) := by rw [hcell_row r1]; rfl
  refine ⟨fun _ h' => After1 h h' N0 p q mb n K I, ⟨_, c0, fun _ => (open_c t1).mono ?_, fun _ => ⟨fun _ => (seal_c t1).mono ?_, fun _ => ⟨fun _ => ⟨_, c1, (mark_c t1 r).mono ?_⟩, fun _ => ⟨fun _ => ⟨_, c2, _, c1, (drain_c t1 hK w r).mono ?_⟩, fun _ => ⟨fun _ => ⟨_, c1, (free_c t1 hK r).mono ?_⟩, fun _ => ⟨fun _ => ⟨_, c1, (pin_c t1 r).mono ?_⟩, fun _ => ⟨fun _ => ⟨_, c1, (unpin_c t1 r).mono ?_⟩, fun _ => (t1.after.one hK).pre x1⟩⟩⟩⟩⟩⟩⟩, fun e h2 ha => ⟨⟨_, rfl⟩, ha⟩⟩
  · rintro _ h' ⟨⟨a, b, e, rfl⟩, ha⟩; exact ⟨_, _, _, rfl, (ha.one hK).pre x1⟩
  · rintro _ h' ⟨⟨e, rfl⟩, ha⟩; exact ⟨_, rfl, (ha.one hK).pre x1⟩
  · rintro _ h' ⟨⟨e, rfl⟩, ha⟩; exact ⟨_, rfl, (ha.one hK).pre x1⟩
  · rintro _ h' ⟨⟨b, e, rfl⟩, ha⟩; exact ⟨_, _, rfl, ha.pre x1⟩
  · rintro _ h' ⟨⟨e, rfl⟩, ha⟩; exact ⟨_, rfl, ha.pre x1⟩
  · rintro _ h' ⟨⟨b, rfl⟩, ha⟩; exact ⟨_, rfl, fun _ => (ha.one hK).pre x1, fun _ => (ha.one hK).pre x1⟩
  · rintro _ h' ⟨⟨a, m, c, e, rfl⟩, ha⟩; exact ⟨_, _, _, _, rfl, (ha.one hK).pre x1⟩

theorem lives_c (h : Heap) : HC Try.prog 9 #[] h fun v h' => v = .bool true ∧ Ext h h' := by
  refine f9_sh _ _ ((new_c (n := 2) (by omega) (by omega) h).mono ?_)
  rintro _ h1 ⟨p, q, mb, fa, fc, rfl, x1, t1⟩
  refine ⟨_, _, rfl, false, ⟨fun h => by simp at h, fun _ => rfl⟩, fun h => by simp at h, fun _ => ?_⟩
  have t1' : Man h1 ⟨h.size, none⟩ p q mb 2 0 (freeI 2) fa fc ((0 : Int) :: [1]) 0 (-1) := t1
  refine (open_x t1' rfl (by decide)).mono ?_
  rintro _ h2 ⟨rfl, f2, fa2, fc2, t2⟩
  refine ⟨_, _, _, rfl, fun j h' => j = true ∧ Ext h h', ⟨fun _ => ⟨fun _ => ⟨fun _ => (pin_x t2 (r := 0) (by omega) (by decide) (by simp [upI]) (by simp [upI]) (by simp [upI, freeI])).mono ?_, fun h => by simp at h⟩, fun h => by simp at h⟩, fun h => by simp at h⟩, fun j h' ⟨e, x⟩ => ⟨by rw [e], x⟩⟩
  rintro _ h3 ⟨rfl, f3, t3⟩
  refine ⟨_, rfl, fun _ => (seal_x t3 (by decide)).mono ?_, fun h => by cases h⟩
  rintro _ h4 ⟨rfl, f4, t4⟩
  refine ⟨_, rfl, fun _ => (mark_x t4 (r := 0) (by omega) (by decide) (by simp [upI])).mono ?_, fun h => by simp at h⟩
  rintro _ h5 ⟨rfl, f5, t5⟩
  refine ⟨_, rfl, fun _ => (pin_no t5 (r := 0) (by omega) (by decide) (by simp [upI])).mono ?_, fun h => by simp at h⟩
  rintro _ h6 ⟨rfl, rfl⟩
  refine ⟨_, rfl, fun _ => (free_no t5 (r := 0) (by omega) (by decide) (by simp [upI]) (by simp [upI, freeI])).mono ?_, fun h => by simp at h⟩
  rintro _ h7 ⟨rfl, rfl⟩
  refine ⟨_, rfl, rfl, ?_⟩
  have f := ((x1.fr (Lo.ok ⟨h.size, none⟩)).trans f2 (fun _ _ h => h)).trans (f3.trans (f4.trans f5 (fun _ _ h => h)) (fun _ _ h => h)) (fun _ _ h => h)
  exact f.ext (fun i hi h' => by have : h.size ≤ i := h'.1; omega)

end
end Go.Proofs.Ytfdgjgjcppfmiaa
