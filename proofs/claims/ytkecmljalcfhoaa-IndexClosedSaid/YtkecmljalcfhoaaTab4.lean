/-
Putting.
-/
import Derived.Test.YtkecmljalcfhoaaTab3
namespace Go.Proofs.Ytkecmljalcfhoaa
open Go RH

section
variable {h : Heap} {p q B m : Nat} {s : Sl}

/-- Zero, and false. -/
def ev0 : Value := .agg #[.int .u64 0, .int .u64 0, .int .u64 0, .int .u8 0]
def entV (e : Ent) : Value := .agg #[.int .u64 e.h, .int .u64 e.a, .int .u64 e.v, .int .u8 e.k]

/-- What a put does. -/
inductive PutR (B m : Nat) (s : Sl) (e : Ent) (B' : Nat) (s' : Sl) : Value → Prop
  | arg : e.a = 0 → B' = B → s' = s → PutR B m s e B' s' (.tuple #[ev0, .bool false, .int .i64 1])
  | had (o : Ent) : e.a ≠ 0 → InT (2 ^ B) s o → o.h = e.h → B' = B → (∀ y, InT (2 ^ B) s' y ↔ (InT (2 ^ B) s y ∧ y ≠ o) ∨ y = e) → PutR B m s e B' s' (.tuple #[entV o, .bool true, .int .i64 0])
  | full : e.a ≠ 0 → (∀ o, InT (2 ^ B) s o → o.h ≠ e.h) → B = m → 7 * 2 ^ B < 8 * (cntO s (2 ^ B) + 1) → B' = B → s' = s → PutR B m s e B' s' (.tuple #[ev0, .bool false, .int .i64 2])
  | new : e.a ≠ 0 → (∀ o, InT (2 ^ B) s o → o.h ≠ e.h) → (if 7 * 2 ^ B < 8 * (cntO s (2 ^ B) + 1) then B < m ∧ B' = B + 1 else B' = B) → (∀ y, InT (2 ^ B') s' y ↔ InT (2 ^ B) s y ∨ y = e) →
      cntO s' (2 ^ B') = cntO s (2 ^ B) + 1 → PutR B m s e B' s' (.tuple #[ev0, .bool false, .int .i64 0])

set_option maxHeartbeats 4000000 in
theorem put_c (t : TabOK h p q B m s) {e : Ent} (hw : e.wf) : HC Try.prog 51 #[ptr p 0, entV e] h fun v h' => Fr (PQ p q) h h' ∧ ∃ q' B' s', (q' = q ∨ h.size ≤ q') ∧ TabOK h' p q' B' m s' ∧ PutR B m s e B' s' v := by
  obtain ⟨z, hz, hh⟩ := t.hole
  obtain ⟨hpl, hql⟩ := t.lt
  have hle := t.le
  refine f51_sh _ _ _ _ _ _ _ _ ?_
  intro eb h1 e1 e2 ob h2 e3 e4
  subst e1; subst e2; subst e3; subst e4
  have x1 := Box.new (h := h) e rfl
  have ex1 := Ext.push h (.cells #[.int .u64 e.h, .int .u64 e.a, .int .u64 e.v, .int .u8 e.k] 31)
  generalize hg1 : Array.push h (.cells #[.int .u64 e.h, .int .u64 e.a, .int .u64 e.v, .int .u8 e.k] 31) = H1 at *
  have hs1 : H1.size = h.size + 1 := by rw [← hg1]; simp
  have o2 := Box.new (h := H1) z0 rfl
  have ex2 := ex1.trans (Ext.push H1 (.cells #[.int .u64 z0.h, .int .u64 z0.a, .int .u64 z0.v, .int .u8 z0.k] 31))
  have x2 := x1.ext (Ext.push H1 (.cells #[.int .u64 z0.h, .int .u64 z0.a, .int .u64 z0.v, .int .u8 z0.k] 31))
  have hz2 : (Array.push H1 (.cells #[.int .u64 0, .int .u64 0, .int .u64 0, .int .u8 0] 31)) = (Array.push H1 (.cells #[.int .u64 z0.h, .int .u64 z0.a, .int .u64 z0.v, .int .u8 z0.k] 31)) := rfl
  rw [hz2]
  generalize hg2 : Array.push H1 (.cells #[.int .u64 z0.h, .int .u64 z0.a, .int .u64 z0.v, .int .u8 z0.k] 31) = H2 at *
  have hs2 : H2.size = h.size + 2 := by rw [← hg2]; simp [hs1]
  clear hg1 hg2 hz2
  have t2 := t.ext ex2
  obtain ⟨cap, cs, ta2⟩ := t2.at_
  -- what the last stores into the result's block change
  have fin : ∀ {H : Heap} {S : Nat → Prop} (vs : List Value), Fr S h H → Fr S h (hsets H H1.size 0 vs) := by
    intro H S vs hf
    refine hf.trans (fr_hsets (fun b => b = H1.size) (fun _ => rfl)) (fun i hi h' => ?_)
    omega
  have nS : ¬ PQ p q H1.size := by unfold PQ; omega
  have nE : ¬ PQ p q h.size := by unfold PQ; omega
  refine ⟨true, made_c ta2, fun h => by simp at h, fun _ => ⟨_, _, _, _, x2.c0, x2.c1, x2.c2, x2.c3, (empty_c _ _ _ _ _).mono ?_⟩⟩
  rintro _ h4 ⟨rfl, he4⟩
  have x4 := x2.ext he4
  have o4 := o2.ext he4
  have ex4 := ex2.trans he4
  have t4 := t.ext ex4
  refine ⟨_, rfl, fun hemp => ?_, fun hemp => ?_⟩
  · have ha : e.a = 0 := by have := eq_of_beq hemp; omega
    refine ⟨o4.hw, ?_⟩
    intro h5 e5
    have o5 := o4.put z0
    have f5 := fin [.int .u64 z0.h, .int .u64 z0.a, .int .u64 z0.v, .int .u8 z0.k] (ex4.fr (PQ p q))
    have t5 : TabOK (hsets h4 H1.size 0 [.int .u64 z0.h, .int .u64 z0.a, .int .u64 z0.v, .int .u8 z0.k]) p q B m s := t4.fr (fr_hsets (fun b => b = H1.size) (fun _ => rfl)) (by omega) (by omega)
    have e5' : h5 = hsets h4 H1.size 0 [.int .u64 z0.h, .int .u64 z0.a, .int .u64 z0.v, .int .u8 z0.k] := e5
    clear e5
    rw [← e5'] at o5 f5 t5
    clear e5'
    exact ⟨_, _, _, _, o5.c0, o5.c1, o5.c2, o5.c3, f5, q, B, s, .inl rfl, t5, .arg ha rfl rfl⟩
  · have ha : e.a ≠ 0 := fun h => by simp [h] at hemp
    obtain ⟨cap4, cs4, ta4⟩ := t4.at_
    refine ⟨_, x4.c0, (find_c ta4 t.g hz hh hw.1).mono ?_⟩
    rintro _ h6 ⟨he6, hres⟩
    have x6 := x4.ext he6
    have o6 := o4.ext he6
    have ex6 := ex4.trans he6
    have t6 := t.ext ex6
    obtain ⟨cap6, cs6, ta6⟩ := t6.at_
    rcases hres with ⟨i, hi, ho, hix, rfl⟩ | ⟨hno, rfl⟩
    · refine ⟨_, rfl, fun _ => ?_, fun h => by simp only [decide_eq_false_iff_not] at h; omega⟩
      refine ⟨_, _, _, ta6.c0, _, _, rfl, by omega, by omega, _, _, _, _, ta6.e0 (by omega) (by omega), ta6.e1 (by omega) (by omega), ta6.e2 (by omega) (by omega), ta6.e3 (by omega) (by omega), o6.hw, ?_⟩
      intro h7 e7
      have o7 := o6.put (s i)
      have ta7 := ta6.fr (fr_hsets (h := h6) (b := H1.size) (o := 0) (vs := [.int .u64 (s i).h, .int .u64 (s i).a, .int .u64 (s i).v, .int .u8 (s i).k]) (fun b => b = H1.size) (fun _ => rfl)) (by omega) (by omega)
      have x7 := x6.fr (fr_hsets (h := h6) (b := H1.size) (o := 0) (vs := [.int .u64 (s i).h, .int .u64 (s i).a, .int .u64 (s i).v, .int .u8 (s i).k]) (fun b => b = H1.size) (fun _ => rfl)) (by omega)
      have f7 := fin [.int .u64 (s i).h, .int .u64 (s i).a, .int .u64 (s i).v, .int .u8 (s i).k] (ex6.fr (PQ p q))
      have e7' : h7 = hsets h6 H1.size 0 [.int .u64 (s i).h, .int .u64 (s i).a, .int .u64 (s i).v, .int .u8 (s i).k] := e7
      clear e7
      rw [← e7'] at o7 ta7 x7 f7
      clear e7'
      refine ⟨_, _, _, ta7.c0, _, _, _, _, x7.c0, x7.c1, x7.c2, x7.c3, _, _, rfl, by omega, by omega, ta7.hw (by omega) (by omega), ?_⟩
      intro h8 e8
      have ta8 := ta7.put hi e
      have o8 := o7.fr (fr_hsets (h := h7) (b := q) (o := 0 + i * 4) (vs := [.int .u64 e.h, .int .u64 e.a, .int .u64 e.v, .int .u8 e.k]) (fun b => b = q) (fun _ => rfl)) (by omega)
      have f8 : Fr (PQ p q) h (hsets h7 q (0 + i * 4) [.int .u64 e.h, .int .u64 e.a, .int .u64 e.v, .int .u8 e.k]) := f7.trans (fr_hsets (PQ p q) (fun _ => .inr rfl)) (fun _ _ h => h)
      have e8' : h8 = hsets h7 q (0 + i * 4) [.int .u64 e.h, .int .u64 e.a, .int .u64 e.v, .int .u8 e.k] := e8
      clear e8
      rw [← e8'] at ta8 o8 f8
      clear e8'
      refine ⟨_, _, _, _, o8.c0, o8.c1, o8.c2, o8.c3, o8.hw, ?_⟩
      intro h9 e9
      have o9 := o8.put (s i)
      have f9 := fin [.int .u64 (s i).h, .int .u64 (s i).a, .int .u64 (s i).v, .int .u8 (s i).k] f8
      have hN : 2 ^ B * 4 ≤ cs6.size := ta6.len
      have ta9 := ta8.fr (fr_hsets (h := h8) (b := H1.size) (o := 0) (vs := [.int .u64 (s i).h, .int .u64 (s i).a, .int .u64 (s i).v, .int .u8 (s i).k]) (fun b => b = H1.size) (fun _ => rfl)) (by omega) (by omega)
      have e9' : h9 = hsets h8 H1.size 0 [.int .u64 (s i).h, .int .u64 (s i).a, .int .u64 (s i).v, .int .u8 (s i).k] := e9
      clear e9
      rw [← e9'] at o9 ta9 f9
      clear e9'
      refine ⟨_, _, _, _, o9.c0, o9.c1, o9.c2, o9.c3, f9, q, B, stt s i e, .inl rfl, ⟨⟨_, _, by rw [cnt_upd ho ha]; exact ta9⟩, good_upd t.g hi hix.symm hw ho ha, by rw [cnt_upd ho ha]; exact t.room⟩,
        .had (s i) ha ⟨i, hi, rfl, ho⟩ hix rfl (hit_c.upd_in t.g hi ho ha)⟩
    · refine ⟨_, rfl, fun h => by simp at h, fun _ => ?_⟩
      have hno' : ∀ o, InT (2 ^ B) s o → o.h ≠ e.h := by rintro o ⟨i, hi, rfl, hoa⟩; exact hno i hi hoa
      have hcl := cnt_le s (2 ^ B)
      refine ⟨fun h10 => Fr (PQ p q) h h10 ∧ Box h10 h.size e ∧ Box h10 H1.size z0 ∧ ∃ q' B' s', (q' = q ∨ h.size + 2 ≤ q') ∧ TabOK h10 p q' B' m s' ∧ (∀ x, InT (2 ^ B') s' x ↔ InT (2 ^ B) s x) ∧ cntO s' (2 ^ B') = cntO s (2 ^ B) ∧ 8 * (cntO s (2 ^ B) + 1) ≤ 7 * 2 ^ B' ∧
          (if 7 * 2 ^ B < 8 * (cntO s (2 ^ B) + 1) then B < m ∧ B' = B + 1 else B' = B), ⟨_, full_c ta6 hcl, fun hfull => ?_, fun hfull => ?_⟩, ?_⟩
      · have hf := of_decide_eq_true hfull
        refine ⟨_, ta6.c1, _, ta6.c2, fun heq => ?_, fun hne => ?_⟩
        · have hBm : B = m := by have := eq_of_beq heq; omega
          refine ⟨o6.hw, ?_⟩
          intro h11 e11
          have o11 := o6.put z0
          have f11 := fin [.int .u64 z0.h, .int .u64 z0.a, .int .u64 z0.v, .int .u8 z0.k] (ex6.fr (PQ p q))
          have t11 : TabOK (hsets h6 H1.size 0 [.int .u64 z0.h, .int .u64 z0.a, .int .u64 z0.v, .int .u8 z0.k]) p q B m s := t6.fr (fr_hsets (fun b => b = H1.size) (fun _ => rfl)) (by omega) (by omega)
          have e11' : h11 = hsets h6 H1.size 0 [.int .u64 z0.h, .int .u64 z0.a, .int .u64 z0.v, .int .u8 z0.k] := e11
          clear e11
          rw [← e11'] at o11 f11 t11
          clear e11'
          exact ⟨_, _, _, _, o11.c0, o11.c1, o11.c2, o11.c3, f11, q, B, s, .inl rfl, t11, .full ha hno' hBm hf rfl rfl⟩
        · have hBm : B < m := by
            have h1 : B ≠ m := fun h => by simp [h] at hne
            have := t.bnd; omega
          refine (grow_c t6 hBm).mono ?_
          rintro _ h12 ⟨rfl, f12, q', s', hq', t12, i12, c12⟩
          have hpow : 2 ^ (B + 1) = 2 * 2 ^ B := by rw [Nat.pow_succ, Nat.mul_comm]
          have h6s : h.size + 2 ≤ h6.size := by have := he6.size; have := he4.size; omega
          have h4B := pow4 t.bnd.1
          refine ⟨rfl, (ex6.fr (PQ p q)).trans f12 (fun i hi h' => .inl h'), x6.fr f12 (by omega), o6.fr f12 (by omega), q', B + 1, s', .inr (by omega), t12, i12, c12, by omega, ?_⟩
          rw [if_pos hf]; exact ⟨hBm, rfl⟩
      · have hf := of_decide_eq_false hfull
        refine ⟨ex6.fr _, x6, o6, q, B, s, .inl rfl, t6, fun _ => Iff.rfl, rfl, by omega, ?_⟩
        rw [if_neg hf]
      · rintro h10 ⟨f10, x10, o10, q', B', s', hq', t10, i10, c10, hroom, hgrow⟩
        obtain ⟨z', hz', hh'⟩ := t10.hole
        obtain ⟨cap10, cs10, ta10⟩ := t10.at_
        have hcl' := cnt_le s' (2 ^ B')
        have hle' := t10.le
        refine ⟨_, _, _, _, x10.c0, x10.c1, x10.c2, x10.c3, (lay_c ta10 t10.g hz' hh' ha hw ?_ (by omega)).mono ?_⟩
        · intro i hi hoi hx
          exact hno' (s' i) ((i10 _).1 ⟨i, hi, rfl, hoi⟩) hx
        · rintro _ h13 ⟨rfl, cs13, s13, ta13, g13, i13, c13, f13⟩
          have nP : ¬ PQ p q' H1.size := by unfold PQ; omega
          have o13 := o10.fr f13 nP
          refine ⟨rfl, o13.hw, ?_⟩
          intro h14 e14
          have o14 := o13.put z0
          have f14 := fin [.int .u64 z0.h, .int .u64 z0.a, .int .u64 z0.v, .int .u8 z0.k] (f10.trans f13 (fun i hi h' => by
            rcases h' with h' | h'
            · exact .inl h'
            · rcases hq' with hq' | hq'
              · exact .inr (h'.trans hq')
              · omega))
          have ta14 := ta13.fr (fr_hsets (h := h13) (b := H1.size) (o := 0) (vs := [.int .u64 z0.h, .int .u64 z0.a, .int .u64 z0.v, .int .u8 z0.k]) (fun b => b = H1.size) (fun _ => rfl)) (by omega) (by omega)
          have e14' : h14 = hsets h13 H1.size 0 [.int .u64 z0.h, .int .u64 z0.a, .int .u64 z0.v, .int .u8 z0.k] := e14
          clear e14
          rw [← e14'] at o14 f14 ta14
          clear e14'
          refine ⟨_, _, _, _, o14.c0, o14.c1, o14.c2, o14.c3, f14, q', B', s13, hq'.imp id (fun h => by omega), ⟨⟨_, _, by rw [c13]; exact ta14⟩, g13, by omega⟩, .new ha hno' hgrow (fun y => by rw [i13, i10]) (by omega)⟩

end
end Go.Proofs.Ytkecmljalcfhoaa
