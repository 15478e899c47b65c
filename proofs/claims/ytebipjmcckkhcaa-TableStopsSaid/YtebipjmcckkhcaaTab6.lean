/-
The law's own helpers: does, lives, right.
-/
import Derived.Test.YtebipjmcckkhcaaTab5
import Derived.Test.YtebipjmcckkhcaaShC
namespace Go.Proofs.Ytebipjmcckkhcaa
open Go RH

section
variable {h : Heap} {p q B m : Nat} {s : Sl}

theorem does_c (t : TabOK h p q B m s) (k : Int) {e : Ent} (hw : e.wf) : HC Try.prog 11 #[ptr p 0, .agg #[.int .i64 k, .int .u64 e.h, .int .u64 e.a, .int .u64 e.v, .int .u8 e.k]] h fun v h' => v = .tuple #[] ∧ Fr (PQ p q) h h' ∧
    ∃ q' B' s', (q' = q ∨ h.size ≤ q') ∧ TabOK h' p q' B' m s' := by
  refine f11_sh _ _ _ _ _ _ _ _ _ ?_
  intro o h1 eo e1
  have r1 : h1[o]? = some (.cells #[.int .i64 k, .int .u64 e.h, .int .u64 e.a, .int .u64 e.v, .int .u8 e.k] 33 (0, 0)) := by rw [e1]; exact push_new eo
  have ex1 : Ext h h1 := by rw [e1]; exact Ext.push _ _
  have t1 := t.ext ex1
  have hs := ex1.size
  clear e1 eo
  have c0 : hcell h1 o 0 = some (.int .i64 k) := by rw [hcell_row r1]; rfl
  have c1 : hcell h1 o 1 = some (.int .u64 e.h) := by rw [hcell_row r1]; rfl
  have c2 : hcell h1 o 2 = some (.int .u64 e.a) := by rw [hcell_row r1]; rfl
  have c3 : hcell h1 o 3 = some (.int .u64 e.v) := by rw [hcell_row r1]; rfl
  have c4 : hcell h1 o 4 = some (.int .u8 e.k) := by rw [hcell_row r1]; rfl
  refine ⟨_, c0, fun _ => ⟨_, _, _, _, c1, c2, c3, c4, (put_c t1 hw).mono ?_⟩, fun _ => ⟨fun _ => ⟨_, c1, (remove_c t1 hw.1).mono ?_⟩, fun _ => ⟨fun _ => ⟨_, c1, (hit_c t1 hw.1).mono ?_⟩, fun _ => ?_⟩⟩⟩
  · rintro v h2 ⟨f2, q', B', s', hq', t2, pr⟩
    have fin : ∃ q' B' s', (q' = q ∨ h.size ≤ q') ∧ TabOK h2 p q' B' m s' := ⟨q', B', s', hq'.imp id (fun h => by omega), t2⟩
    have f3 := (ex1.fr _).trans f2 (fun _ _ h => h)
    cases pr with
    | arg => exact ⟨_, _, _, _, _, _, rfl, rfl, f3, fin⟩
    | had o => exact ⟨_, _, _, _, _, _, rfl, rfl, f3, fin⟩
    | full => exact ⟨_, _, _, _, _, _, rfl, rfl, f3, fin⟩
    | new => exact ⟨_, _, _, _, _, _, rfl, rfl, f3, fin⟩
  · rintro v h2 ⟨f2, s', t2, rr⟩
    have f3 := (ex1.fr _).trans f2 (fun _ _ h => h)
    rcases rr with ⟨o, _, _, rfl, _⟩ | ⟨_, rfl, _⟩
    · exact ⟨_, _, _, _, _, rfl, rfl, f3, q, B, s', .inl rfl, t2⟩
    · exact ⟨_, _, _, _, _, rfl, rfl, f3, q, B, s', .inl rfl, t2⟩
  · rintro v h2 ⟨f2, rr⟩
    have f3 : Fr (PQ p q) h h2 := (ex1.fr _).trans f2 (fun _ _ h => .inr h)
    rcases rr with ⟨o, s', _, _, rfl, t2, _⟩ | ⟨_, rfl, t2⟩
    · exact ⟨_, rfl, rfl, f3, q, B, s', .inl rfl, t2⟩
    · exact ⟨_, rfl, rfl, f3, q, B, s, .inl rfl, t2⟩
  · exact ⟨rfl, ex1.fr _, q, B, s, .inl rfl, t1⟩

theorem fr_new {h h1 h2 : Heap} (e1 : Ext h h1) (hp : h.size ≤ p) (hq : h.size ≤ q) (f : Fr (PQ p q) h1 h2) : Ext h h2 :=
  ((e1.fr (fun _ => False)).trans f (fun i hi h' => by rcases h' with h' | h' <;> omega)).ext (fun _ _ h => h)

theorem lives_c (h : Heap) : HC Try.prog 9 #[] h fun v h' => v = .bool true ∧ Ext h h' := by
  refine f9_sh _ _ ((new_c (bits := 2) (most := 2) (by omega) (by omega) (by omega) h).mono ?_)
  rintro _ h1 ⟨ex1, p, q, rfl, hp, hq, t1⟩
  refine ⟨_, _, rfl, false, ⟨fun h => by simp at h, fun _ => rfl⟩, fun h => by simp at h, fun _ => ?_⟩
  refine (put_c (e := ⟨4611686018427387904, 5, 0, 0⟩) t1 ⟨by decide, by decide, by decide, by decide⟩).mono ?_
  rintro v h2 ⟨f2, q', B', s', hq', t2, pr⟩
  have no : ∀ x, ¬ InT (2 ^ 2) (fun _ => z0) x := by
    rintro x ⟨i, _, hx, ha⟩; subst hx; exact ha rfl
  have c0 : cntO (fun _ => z0) (2 ^ 2) = 0 := cnt_zero _
  cases pr with
  | arg ha _ _ => exact absurd ha (by decide)
  | had o _ ho _ _ _ => exact absurd ho (no _)
  | full _ _ _ hf _ _ => rw [c0] at hf; simp at hf
  | new _ _ hg hi hc =>
    rw [c0] at hg
    rw [if_neg (by decide)] at hg
    subst hg
    rw [c0] at hc
    have hi' : ∀ y, InT (2 ^ 2) s' y ↔ y = ⟨4611686018427387904, 5, 0, 0⟩ := fun y => by
      rw [hi]; exact ⟨fun h => h.resolve_left (no y), .inr⟩
    have ext2 := fr_new ex1 hp hq f2
    have hq2 : h.size ≤ q' := by have := ex1.size; omega
    refine ⟨_, _, _, _, _, _, rfl, ?_⟩
    intro x h3 ex e3
    have r3 : h3[x]? = some (.cells #[.int .u64 0, .int .u64 0, .int .u64 0, .int .u8 0] 31 (0, 0)) := by rw [e3]; exact push_new ex
    have e23 : Ext h2 h3 := by rw [e3]; exact Ext.push _ _
    have hx2 : h2.size ≤ x := by omega
    clear ex e3
    refine ⟨HWs_row r3 (by simp), ?_⟩
    intro h4 e4
    have e24 : Ext h2 h4 := by
      rw [e4]
      exact ((e23.fr (fun b => b = x)).trans (fr_hsets (fun b => b = x) (fun _ => rfl)) (fun _ _ h => h)).ext (fun i hi h' => by omega)
    clear e4
    refine (layout_c (t2.ext e24)).mono ?_
    rintro _ h5 ⟨e5, b, cap, rfl, hb, x5⟩
    have t5 := (t2.ext e24).ext e5
    refine ⟨_, _, _, rfl, ?_⟩
    -- where it lies
    have g := t2.g
    obtain ⟨i, hil, hsi, hia⟩ := (hi' _).2 rfl
    have one : ∀ j, j < 2 ^ 2 → occd s' j → j = i := by
      intro j hj hoj
      have := (hi' (s' j)).1 ⟨j, hj, rfl, hoj⟩
      exact g.uniq j i hj hil hoj (by unfold occd; rw [hsi]; exact hia) (by rw [this, hsi])
    have oi : occd s' i := by unfold occd; rw [hsi]; exact hia
    have i1 : i = 1 := by
      by_cases hd : 0 < ds (2 ^ 2) 2 i (s' i).h
      · have hl := (g.right i hil oi hd).1
        have h4 : pv (2 ^ 2) i < 2 ^ 2 := pv_lt hil
        have := one _ h4 hl
        unfold pv at this
        split at this <;> omega
      · have : (s' i).h = 4611686018427387904 := by rw [hsi]
        rw [this] at hd
        unfold ds df hm at hd
        have e : 4611686018427387904 / 2 ^ (64 - 2) = 1 := by decide
        rw [e] at hd
        split at hd <;> omega
    subst i1
    have h0 : (s' 0).a = 0 := by
      by_cases h0 : occd s' 0
      · have := one 0 (by decide) h0; omega
      · exact Classical.not_not.1 h0
    have extF : Ext h h5 := ext2.trans (e24.trans e5)
    refine ⟨fun j h6 => j = true ∧ h6 = h5, ⟨fun _ => ⟨fun _ => ⟨fun _ => ⟨b, 0, rfl, by decide, by decide, _, x5.e1 (i := 1) (by decide) (by decide), fun _ => ⟨by decide, by decide, _, x5.e1 (i := 0) (by decide) (by decide), fun _ => ?_, fun h => ?_⟩, fun h => ?_⟩, fun h => by simp at h⟩, fun h => by simp at h⟩, fun h => by simp at h⟩, ?_⟩
    · refine (len_c t5).mono ?_
      rintro _ h6 ⟨rfl, rfl⟩
      refine ⟨_, rfl, ?_, rfl⟩
      rw [hc]; rfl
    · have e : (Int.toNat 0) = 0 := rfl
      rw [e, h0] at h; simp at h
    · have e : (Int.toNat 1) = 1 := rfl
      rw [e, hsi] at h; simp at h
    · rintro j h6 ⟨rfl, rfl⟩
      exact ⟨rfl, extF⟩

end
end Go.Proofs.Ytebipjmcckkhcaa
