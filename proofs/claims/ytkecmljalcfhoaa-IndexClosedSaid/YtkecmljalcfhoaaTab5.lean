/-
Taking out.
-/
import Derived.Test.YtkecmljalcfhoaaTab4
namespace Go.Proofs.Ytkecmljalcfhoaa
open Go RH

section
variable {h : Heap} {p q B m : Nat} {s : Sl}

/-- What taking out does. -/
def RemR (B : Nat) (s : Sl) (x : Nat) (s' : Sl) (v : Value) : Prop :=
  (∃ e, InT (2 ^ B) s e ∧ e.h = x ∧ v = .tuple #[entV e, .bool true] ∧ ∀ y, InT (2 ^ B) s' y ↔ InT (2 ^ B) s y ∧ y ≠ e) ∨
  ((∀ e, InT (2 ^ B) s e → e.h ≠ x) ∧ v = .tuple #[ev0, .bool false] ∧ s' = s)

set_option maxHeartbeats 4000000 in
theorem remove_c (t : TabOK h p q B m s) {x : Nat} (hx : x < 18446744073709551616) : HC Try.prog 46 #[ptr p 0, .int .u64 x] h fun v h' => Fr (PQ p q) h h' ∧ ∃ s', TabOK h' p q B m s' ∧ RemR B s x s' v := by
  obtain ⟨z, hz, hh⟩ := t.hole
  obtain ⟨hpl, hql⟩ := t.lt
  obtain ⟨hb2, hbm, hm16⟩ := t.bnd
  have hB : B ≤ 64 := by omega
  have hle := t.le
  refine f46_sh _ _ _ _ _ ?_
  intro nb h1 e1 e2
  subst e1; subst e2
  have b1 := Box.new (h := h) z0 rfl
  have ex1 := Ext.push h (.cells #[.int .u64 z0.h, .int .u64 z0.a, .int .u64 z0.v, .int .u8 z0.k] 31)
  have hz1 : (Array.push h (.cells #[.int .u64 0, .int .u64 0, .int .u64 0, .int .u8 0] 31)) = (Array.push h (.cells #[.int .u64 z0.h, .int .u64 z0.a, .int .u64 z0.v, .int .u8 z0.k] 31)) := rfl
  rw [hz1]
  generalize hg1 : Array.push h (.cells #[.int .u64 z0.h, .int .u64 z0.a, .int .u64 z0.v, .int .u8 z0.k] 31) = H1 at *
  have hs1 : H1.size = h.size + 1 := by rw [← hg1]; simp
  clear hg1 hz1
  have t1 := t.ext ex1
  obtain ⟨cap, cs, ta1⟩ := t1.at_
  have nN : ¬ PQ p q h.size := by unfold PQ; omega
  refine (find_c ta1 t1.g hz hh hx).mono ?_
  rintro _ h2 ⟨he2, hres⟩
  have b2 := b1.ext he2
  have ex2 := ex1.trans he2
  have ta2 := ta1.ext he2
  have hs2 : H1.size ≤ h2.size := he2.size
  rcases hres with ⟨i, hi, ho, hix, rfl⟩ | ⟨hno, rfl⟩
  case inr =>
    refine ⟨_, rfl, fun _ => ⟨b2.hw, ?_⟩, fun h => by simp at h⟩
    intro h3 e3
    have b3 := b2.put z0
    have f3 : Fr (PQ p q) h (hsets h2 h.size 0 [.int .u64 z0.h, .int .u64 z0.a, .int .u64 z0.v, .int .u8 z0.k]) := (ex2.fr _).trans (fr_hsets (fun b => b = h.size) (fun _ => rfl)) (fun i hi h' => by omega)
    have t3 : TabOK (hsets h2 h.size 0 [.int .u64 z0.h, .int .u64 z0.a, .int .u64 z0.v, .int .u8 z0.k]) p q B m s := (t.ext ex2).fr (fr_hsets (fun b => b = h.size) (fun _ => rfl)) (by omega) (by omega)
    have e3' : h3 = hsets h2 h.size 0 [.int .u64 z0.h, .int .u64 z0.a, .int .u64 z0.v, .int .u8 z0.k] := e3
    clear e3
    rw [← e3'] at b3 f3 t3
    clear e3'
    refine ⟨_, _, _, _, b3.c0, b3.c1, b3.c2, b3.c3, f3, s, t3, .inr ⟨?_, rfl, rfl⟩⟩
    rintro o ⟨i, hi, rfl, hoa⟩
    exact hno i hi hoa
  refine ⟨_, rfl, fun h => by simp only [decide_eq_true_eq] at h; omega, fun _ => ?_⟩
  refine ⟨_, _, _, ta2.c0, _, _, rfl, by omega, by omega, _, _, _, _, ta2.e0 (by omega) (by omega), ta2.e1 (by omega) (by omega), ta2.e2 (by omega) (by omega), ta2.e3 (by omega) (by omega), ?_⟩
  intro out h4 e4 e4h
  simp only [Int.toNat_natCast] at *
  have o4 := Box.new (h := h2) z0 e4
  have ex4 := ex2.trans (Ext.push h2 (.cells #[.int .u64 z0.h, .int .u64 z0.a, .int .u64 z0.v, .int .u8 z0.k] 31))
  have ta4 := ta2.ext (Ext.push h2 (.cells #[.int .u64 z0.h, .int .u64 z0.a, .int .u64 z0.v, .int .u8 z0.k] 31))
  have b4 := b2.ext (Ext.push h2 (.cells #[.int .u64 z0.h, .int .u64 z0.a, .int .u64 z0.v, .int .u8 z0.k] 31))
  have e4h' : h4 = (Array.push h2 (.cells #[.int .u64 z0.h, .int .u64 z0.a, .int .u64 z0.v, .int .u8 z0.k] 31)) := e4h
  clear e4h
  rw [← e4h'] at o4 ex4 ta4 b4
  clear e4h'
  have hout : h.size < out := by omega
  have nO : ¬ PQ p q out := by unfold PQ; omega
  clear e4
  refine ⟨o4.hw, ?_⟩
  intro h5 e5
  have o5 := o4.put (s i)
  have f5 : Fr (PQ p q) h (hsets h4 out 0 [.int .u64 (s i).h, .int .u64 (s i).a, .int .u64 (s i).v, .int .u8 (s i).k]) := (ex4.fr _).trans (fr_hsets (fun b => b = out) (fun _ => rfl)) (fun i hi h' => by omega)
  have ta5 := ta4.fr (fr_hsets (h := h4) (b := out) (o := 0) (vs := [.int .u64 (s i).h, .int .u64 (s i).a, .int .u64 (s i).v, .int .u8 (s i).k]) (fun b => b = out) (fun _ => rfl)) (by omega) (by omega)
  have b5 := b4.fr (fr_hsets (h := h4) (b := out) (o := 0) (vs := [.int .u64 (s i).h, .int .u64 (s i).a, .int .u64 (s i).v, .int .u8 (s i).k]) (fun b => b = out) (fun _ => rfl)) (by omega)
  have e5' : h5 = hsets h4 out 0 [.int .u64 (s i).h, .int .u64 (s i).a, .int .u64 (s i).v, .int .u8 (s i).k] := e5
  clear e5
  rw [← e5'] at o5 f5 ta5 b5
  clear e5'
  clear ta4 b4 o4 ex4 ta2 b2 ex2 he2 ta1 t1 b1 ex1
  refine ⟨fun a h6 => ∃ an : Nat, a = an ∧ ∃ cs' s', TabAt h6 p q B m (cntO s (2 ^ B)) cap cs' s' ∧ RemI (2 ^ B) B s (s i) z s' an ∧ Box h6 out (s i) ∧ Box h6 h.size z0 ∧ Fr (PQ p q) h h6,
    fun a _ => df (2 ^ B) a.toNat z, ⟨i, rfl, cs, s, ta5, RemI.start t.g hz hh hi ho, o5, b5, f5⟩, ?_⟩
  rintro _ h6 ⟨a, rfl, cs6, s6, ta6, r, o6, b6, f6⟩
  have hal := r.at_lt
  have hnl := nx_lt hal
  have hw := r.wf _ hnl
  refine ⟨_, next_c ta6 hal, ?_⟩
  refine ⟨fun j h7 => Ext h6 h7 ∧ (j = true → (¬ occd s6 (nx (2 ^ B) a) ∨ ds (2 ^ B) B (nx (2 ^ B) a) (s6 (nx (2 ^ B) a)).h = 0)) ∧ (j = false → occd s6 (nx (2 ^ B) a) ∧ 0 < ds (2 ^ B) B (nx (2 ^ B) a) (s6 (nx (2 ^ B) a)).h), ?_, ?_⟩
  · refine ⟨_, _, _, ta6.c0, _, _, rfl, by omega, by omega, _, _, _, _, ta6.e0 (by omega) (by omega), ta6.e1 (by omega) (by omega), ta6.e2 (by omega) (by omega), ta6.e3 (by omega) (by omega), (empty_c _ _ _ _ _).mono ?_⟩
    rintro _ h8 ⟨rfl, he8⟩
    simp only [Int.toNat_natCast]
    refine ⟨_, rfl, fun hb => ⟨he8, fun _ => .inl (by unfold occd; simpa using hb), fun h => by simp at h⟩, fun hb => ?_⟩
    have ho6 : occd s6 (nx (2 ^ B) a) := by unfold occd; simpa using hb
    refine ⟨_, dist_c (ta6.ext he8) hnl hw, he8, fun hj => .inr ?_, fun hj => ⟨ho6, ?_⟩⟩
    · have := eq_of_beq hj; omega
    · have h1 : ds (2 ^ B) B (nx (2 ^ B) a) (s6 (nx (2 ^ B) a)).h ≠ 0 := fun h => by simp [h] at hj
      omega
  · rintro j h7 ⟨he7, hj1, hj0⟩
    have ta7 := ta6.ext he7
    have o7 := o6.ext he7
    have b7 := b6.ext he7
    have f7 := f6.trans (he7.fr (PQ p q)) (fun _ _ h => h)
    refine ⟨fun hj => ?_, fun hj => ?_⟩
    · obtain ⟨g', i', c'⟩ := r.done rfl hb2 (hj1 hj)
      refine ⟨_, _, _, ta7.c0, _, _, rfl, by omega, by omega, ta7.hw (by omega) (by omega), ?_⟩
      intro h9 e9
      have ta9 := ta7.put hal z0
      have f9 : Fr (PQ p q) h (hsets h7 q (0 + a * 4) [.int .u64 z0.h, .int .u64 z0.a, .int .u64 z0.v, .int .u8 z0.k]) := f7.trans (fr_hsets (PQ p q) (fun _ => .inr rfl)) (fun _ _ h => h)
      have o9 := o7.fr (fr_hsets (h := h7) (b := q) (o := 0 + a * 4) (vs := [.int .u64 z0.h, .int .u64 z0.a, .int .u64 z0.v, .int .u8 z0.k]) (PQ p q) (fun _ => .inr rfl)) nO
      have b9 := b7.fr (fr_hsets (h := h7) (b := q) (o := 0 + a * 4) (vs := [.int .u64 z0.h, .int .u64 z0.a, .int .u64 z0.v, .int .u8 z0.k]) (PQ p q) (fun _ => .inr rfl)) nN
      have e9' : h9 = hsets h7 q (0 + a * 4) [.int .u64 z0.h, .int .u64 z0.a, .int .u64 z0.v, .int .u8 z0.k] := e9
      clear e9
      rw [← e9'] at ta9 f9 o9 b9
      clear e9'
      refine ⟨_, ta9.c3, ta9.hw3 3 (by omega), ?_⟩
      intro h10 e10
      have hcl := cnt_le s (2 ^ B)
      have ec : IntKind.i64.wrap ((cntO s (2 ^ B) : Int) - 1) = ((cntO (stt s6 a z0) (2 ^ B) : Nat) : Int) := by
        rw [w64 (by omega) (by omega)]; omega
      rw [ec] at e10
      have ta10 := ta9.setN (cntO (stt s6 a z0) (2 ^ B))
      have f10 : Fr (PQ p q) h (hset h9 p 3 (.int .i64 (cntO (stt s6 a z0) (2 ^ B)))) := f9.trans (fr_hset (PQ p q) (fun _ => .inl rfl)) (fun _ _ h => h)
      have o10 := o9.fr (fr_hset (h := h9) (b := p) (o := 3) (v := .int .i64 (cntO (stt s6 a z0) (2 ^ B))) (PQ p q) (fun _ => .inl rfl)) nO
      have b10 := b9.fr (fr_hset (h := h9) (b := p) (o := 3) (v := .int .i64 (cntO (stt s6 a z0) (2 ^ B))) (PQ p q) (fun _ => .inl rfl)) nN
      have e10' : h10 = hset h9 p 3 (.int .i64 (cntO (stt s6 a z0) (2 ^ B))) := e10
      clear e10
      rw [← e10'] at ta10 f10 o10 b10
      clear e10'
      refine ⟨_, _, _, _, o10.c0, o10.c1, o10.c2, o10.c3, b10.hw, ?_⟩
      intro h11 e11
      have b11 := b10.put (s i)
      have f11 : Fr (PQ p q) h (hsets h10 h.size 0 [.int .u64 (s i).h, .int .u64 (s i).a, .int .u64 (s i).v, .int .u8 (s i).k]) := f10.trans (fr_hsets (fun b => b = h.size) (fun _ => rfl)) (fun i hi h' => by omega)
      have ta11 := ta10.fr (fr_hsets (h := h10) (b := h.size) (o := 0) (vs := [.int .u64 (s i).h, .int .u64 (s i).a, .int .u64 (s i).v, .int .u8 (s i).k]) (fun b => b = h.size) (fun _ => rfl)) (by omega) (by omega)
      have e11' : h11 = hsets h10 h.size 0 [.int .u64 (s i).h, .int .u64 (s i).a, .int .u64 (s i).v, .int .u8 (s i).k] := e11
      clear e11
      rw [← e11'] at b11 f11 ta11
      clear e11'
      have hroom := t.room
      exact ⟨_, _, _, _, b11.c0, b11.c1, b11.c2, b11.c3, f11, _, ⟨⟨_, _, ta11⟩, g', by omega⟩, .inl ⟨s i, ⟨i, hi, rfl, ho⟩, hix, rfl, i'⟩⟩
    · obtain ⟨ho6, hd6⟩ := hj0 hj
      refine ⟨_, _, _, ta7.c0, _, _, _, ta7.c0, _, _, rfl, by omega, by omega, _, _, _, _, ta7.e0 (by omega) (by omega), ta7.e1 (by omega) (by omega), ta7.e2 (by omega) (by omega), ta7.e3 (by omega) (by omega), _, _, rfl, by omega, by omega, ta7.hw (by omega) (by omega), ?_⟩
      intro h12 e12
      have ta12 := ta7.put hal (s6 (nx (2 ^ B) a))
      have f12 : Fr (PQ p q) h (hsets h7 q (0 + a * 4) [.int .u64 (s6 (nx (2 ^ B) a)).h, .int .u64 (s6 (nx (2 ^ B) a)).a, .int .u64 (s6 (nx (2 ^ B) a)).v, .int .u8 (s6 (nx (2 ^ B) a)).k]) := f7.trans (fr_hsets (PQ p q) (fun _ => .inr rfl)) (fun _ _ h => h)
      have o12 := o7.fr (fr_hsets (h := h7) (b := q) (o := 0 + a * 4) (vs := [.int .u64 (s6 (nx (2 ^ B) a)).h, .int .u64 (s6 (nx (2 ^ B) a)).a, .int .u64 (s6 (nx (2 ^ B) a)).v, .int .u8 (s6 (nx (2 ^ B) a)).k]) (PQ p q) (fun _ => .inr rfl)) nO
      have b12 := b7.fr (fr_hsets (h := h7) (b := q) (o := 0 + a * 4) (vs := [.int .u64 (s6 (nx (2 ^ B) a)).h, .int .u64 (s6 (nx (2 ^ B) a)).a, .int .u64 (s6 (nx (2 ^ B) a)).v, .int .u8 (s6 (nx (2 ^ B) a)).k]) (PQ p q) (fun _ => .inr rfl)) nN
      have e12' : h12 = hsets h7 q (0 + a * 4) [.int .u64 (s6 (nx (2 ^ B) a)).h, .int .u64 (s6 (nx (2 ^ B) a)).a, .int .u64 (s6 (nx (2 ^ B) a)).v, .int .u8 (s6 (nx (2 ^ B) a)).k] := e12
      clear e12
      rw [← e12'] at ta12 f12 o12 b12
      clear e12'
      refine ⟨⟨_, rfl, _, _, ta12, r.move rfl hb2 hB ho6 hd6, o12, b12, f12⟩, ?_⟩
      exact df_step hz hal (Ne.symm r.z_ne)

end
end Go.Proofs.Ytkecmljalcfhoaa
