/-
Get tells what was put last and not removed.
-/
import Derived.Test.YtebipjmcckkhcaaOpn
import Derived.Test.YtebipjmcckkhcaaShD
namespace Go.Proofs.Ytebipjmcckkhcaa
open Go RH

section
variable {h : Heap} {p q B m : Nat} {s : Sl}

theorem InT.eq (g : RGood (2 ^ B) B s) {x y : Ent} (hx : InT (2 ^ B) s x) (hy : InT (2 ^ B) s y) (e : x.h = y.h) : x = y := by
  obtain ⟨i, hi, rfl, ha⟩ := hx
  obtain ⟨j, hj, rfl, hb⟩ := hy
  rw [g.uniq i j hi hj ha hb e]

theorem get_u (t : TabOK h p q B m s) {x : Nat} (hx : x < 18446744073709551616) : HC Try.prog 15 #[ptr p 0, .int .u64 x] h fun v h' => Ext h h' ∧
    ∃ (e : Ent) (is : Bool), v = .tuple #[.agg #[.int .u64 e.h, .int .u64 e.a, .int .u64 e.v, .int .u8 e.k], .bool is] ∧ (is = true → InT (2 ^ B) s e ∧ e.h = x) ∧ (is = false → e = z0 ∧ ∀ e, InT (2 ^ B) s e → e.h ≠ x) := by
  refine (get_c t hx).mono ?_
  rintro v h' ⟨he, ⟨e, hi, hh, rfl⟩ | ⟨hno, rfl⟩⟩
  · exact ⟨he, e, true, rfl, fun _ => ⟨hi, hh⟩, fun h => (by cases h)⟩
  · exact ⟨he, z0, false, rfl, fun h => (by cases h), fun _ => ⟨rfl, hno⟩⟩

theorem put_u (t : TabOK h p q B m s) {e : Ent} (hw : e.wf) : HC Try.prog 14 #[ptr p 0, .agg #[.int .u64 e.h, .int .u64 e.a, .int .u64 e.v, .int .u8 e.k]] h fun v h' => Fr (PQ p q) h h' ∧ ∃ q' B' s', (q' = q ∨ h.size ≤ q') ∧ TabOK h' p q' B' m s' ∧
    ∃ (o : Ent) (had : Bool) (err : Int), v = .tuple #[.agg #[.int .u64 o.h, .int .u64 o.a, .int .u64 o.v, .int .u8 o.k], .bool had, .int .i64 err] ∧
      ((err = 0 ∧ InT (2 ^ B') s' e ∧ (had = true → o.h = e.h)) ∨ (err ≠ 0 ∧ had = false ∧ (e.a ≠ 0 → ∀ y, InT (2 ^ B') s' y → y.h ≠ e.h))) := by
  refine (put_c t hw).mono ?_
  rintro v h' ⟨hf, q', B', s', hq, t', pr⟩
  refine ⟨hf, q', B', s', hq, t', ?_⟩
  cases pr with
  | arg ha _ _ => exact ⟨z0, false, 1, rfl, .inr ⟨by decide, rfl, fun h => absurd ha h⟩⟩
  | had o _ _ hh hB hi => subst hB; exact ⟨o, true, 0, rfl, .inl ⟨rfl, (hi _).2 (.inr rfl), fun _ => hh⟩⟩
  | full _ hno _ _ hB hs => subst hB; subst hs; exact ⟨z0, false, 2, rfl, .inr ⟨by decide, rfl, fun _ => hno⟩⟩
  | new _ _ _ hi _ => exact ⟨z0, false, 0, rfl, .inl ⟨rfl, (hi _).2 (.inr rfl), fun h => (by cases h)⟩⟩

theorem remove_u (t : TabOK h p q B m s) {x : Nat} (hx : x < 18446744073709551616) : HC Try.prog 16 #[ptr p 0, .int .u64 x] h fun v h' => Fr (PQ p q) h h' ∧ ∃ s', TabOK h' p q B m s' ∧
    ∃ (o : Ent) (had : Bool), v = .tuple #[.agg #[.int .u64 o.h, .int .u64 o.a, .int .u64 o.v, .int .u8 o.k], .bool had] ∧ ∀ y, InT (2 ^ B) s' y → y.h ≠ x := by
  refine (remove_c t hx).mono ?_
  rintro v h' ⟨hf, s', t', rr⟩
  refine ⟨hf, s', t', ?_⟩
  rcases rr with ⟨e, hi, hh, rfl, hs⟩ | ⟨hno, rfl, rfl⟩
  · refine ⟨e, true, rfl, fun y hy hyx => ?_⟩
    have h1 := (hs y).1 hy
    exact h1.2 (InT.eq t.g h1.1 hi (hyx.trans hh.symm))
  · exact ⟨z0, false, rfl, hno⟩

theorem mk_box {h1 : Heap} {b : Nat} (eb : b = Array.size h) (e1 : h1 = Array.push h (.cells #[.int .u64 0, .int .u64 0, .int .u64 0, .int .u8 0] 31)) :
    HWs h1 b 0 4 ∧ ∀ (e : Ent) h2, h2 = hsets h1 b 0 [.int .u64 e.h, .int .u64 e.a, .int .u64 e.v, .int .u8 e.k] → Box h2 b e ∧ Ext h h2 ∧ h.size ≤ b ∧ b < h2.size := by
  have r1 : h1[b]? = some (.cells #[.int .u64 0, .int .u64 0, .int .u64 0, .int .u8 0] 31 (0, 0)) := by rw [e1]; exact push_new eb
  have x1 : Ext h h1 := by rw [e1]; exact Ext.push _ _
  refine ⟨HWs_row r1 (by simp), ?_⟩
  rintro e h2 rfl
  have hb : Box (hsets h1 b 0 [.int .u64 e.h, .int .u64 e.a, .int .u64 e.v, .int .u8 e.k]) b e := by unfold Box; rw [hsets_row _ r1]; rfl
  refine ⟨hb, ?_, by omega, row_lt hb⟩
  exact ((x1.fr (fun i => i = b)).trans (fr_hsets (fun i => i = b) (fun _ => rfl)) (fun _ _ h => h)).ext (fun i hi h' => by omega)

set_option maxHeartbeats 4000000 in
theorem law_maps {bits most : Int} {l : Option Addr} {n c : Nat} {K : Nat → Int} {E : Nat → Ent} (hn : n ≤ 9223372036854775807) (x : OpsAt h l n K E) :
    HC Try.prog 4 #[.int .i64 bits, .int .i64 most, .slice l n c] h fun v h' => v = .bool true ∧ Ext h h' := by
  refine f4_sh _ _ _ _ _ _ _ ((lives_c h).mono ?_)
  rintro _ h1 ⟨rfl, e1⟩
  refine ⟨_, rfl, fun h => by simp at h, fun _ => ?_⟩
  by_cases hv : bits < 2 ∨ most < bits ∨ 16 < most
  · refine (new_no hv h1).mono ?_
    rintro _ h2 ⟨rfl, rfl⟩
    exact ⟨_, _, rfl, fun _ => ⟨rfl, e1⟩, fun h => by simp at h⟩
  obtain ⟨B, rfl⟩ : ∃ B : Nat, bits = B := ⟨bits.toNat, by omega⟩
  obtain ⟨m, rfl⟩ : ∃ m : Nat, most = m := ⟨most.toNat, by omega⟩
  refine (new_c (bits := B) (most := m) (by omega) (by omega) (by omega) h1).mono ?_
  rintro _ h2 ⟨e2, p, q, rfl, hp, hq, t2⟩
  have hs1 := e1.size
  refine ⟨_, _, rfl, fun h => by simp at h, fun _ => ?_⟩
  refine ⟨fun i h3 => ∃ k : Nat, i = k ∧ k ≤ n ∧ Ext h h3 ∧ ∃ q B s, h.size ≤ q ∧ TabOK h3 p q B m s, fun i _ => n - i.toNat, ⟨0, rfl, Nat.zero_le _, e1.trans e2, q, B, _, by omega, t2⟩, ?_⟩
  have hpz : h.size ≤ p := by omega
  clear e1 e2 t2 hq
  rintro _ h3 ⟨k, rfl, hk, e3, q, B, s, hq, t3⟩
  have hk0 : (0 : Int) ≤ (k : Int) := Int.natCast_nonneg _
  refine ⟨fun hlt => ?_, fun hge => ⟨rfl, e3⟩⟩
  have hkn : k < n := by have := of_decide_eq_true hlt; omega
  have hki : (k : Int) < (n : Int) := by omega
  obtain ⟨b, o, rfl, hb, hx⟩ := x (by omega)
  obtain ⟨hw, c0, c1, c2, c3, c4⟩ := hx k hkn
  have rd : ∀ {h' : Heap} {o : Nat} {v : Value}, Ext h h' → hcell h b o = some v → hcell h' b o = some v := fun he hc => (hcell_ext he hb).trans hc
  refine ⟨fun h4 => Ext h h4 ∧ ∃ q B s, h.size ≤ q ∧ TabOK h4 p q B m s, ⟨b, o, rfl, hk0, hki, _, rd e3 c1, hk0, hki, _, rd e3 c0, fun _ => ?_, fun _ => ⟨fun _ => ?_, fun _ => ?_⟩⟩, ?_⟩
  · -- put
    refine ⟨hk0, hki, _, _, _, _, rd e3 c1, rd e3 c2, rd e3 c3, rd e3 c4, (put_u t3 hw).mono ?_⟩
    rintro _ h5 ⟨f5, q', B', s', hq', t5, old, had, err, rfl, hres⟩
    have hs3 := e3.size
    have e5 : Ext h h5 := fr_new e3 hpz hq f5
    have hq'' : h.size ≤ q' := by omega
    refine ⟨_, _, _, _, _, _, rfl, ?_⟩
    intro bo h6 ebo eh6
    obtain ⟨hw6, mk6⟩ := mk_box ebo eh6
    refine ⟨hw6, ?_⟩
    intro h7 e7
    obtain ⟨b7, x7, hb7, _⟩ := mk6 old h7 e7
    have t7 := t5.ext x7
    refine (get_u t7 hw.1).mono ?_
    rintro _ h8 ⟨x8, y, is, rfl, hy1, hy0⟩
    refine ⟨_, _, _, _, _, rfl, ?_⟩
    intro bx h9 ebx eh9
    obtain ⟨hw9, mk9⟩ := mk_box ebx eh9
    refine ⟨hw9, ?_⟩
    intro h10 e10
    obtain ⟨b10, x10, hb10, _⟩ := mk9 y h10 e10
    have e10' : Ext h h10 := e5.trans (x7.trans (x8.trans x10))
    have o10 : Box h10 bo old := (b7.ext x8).ext x10
    have t10 : TabOK h10 p q' B' m s' := (t7.ext x8).ext x10
    refine ⟨false, ⟨fun h0 => ?_, fun h0 => ?_⟩, fun h => (by cases h), fun _ => ⟨e10', q', B', s', hq'', t10⟩⟩
    · have h0' : err = 0 := eq_of_beq h0
      rcases hres with ⟨_, hin, hho⟩ | ⟨hne, _⟩
      · have his : is = true := by
          cases is with
          | true => rfl
          | false => exact absurd rfl ((hy0 rfl).2 _ hin)
        subst his
        obtain ⟨hyin, hyh⟩ := hy1 rfl
        have hye : y = E k := InT.eq t5.g hyin hin hyh
        subst hye
        refine ⟨fun h => by simp at h, fun _ => ⟨_, _, _, _, b10.c0, b10.c1, b10.c2, b10.c3, hk0, hki, _, _, _, _, rd e10' c1, rd e10' c2, rd e10' c3, rd e10' c4, fun h => by simp at h, fun _ => ⟨fun hh => ⟨_, o10.c0, fun h => ?_, fun _ => ⟨fun h => by simp [h0'] at h, fun _ => rfl⟩⟩, fun _ => ⟨fun h => by simp [h0'] at h, fun _ => rfl⟩⟩⟩⟩
        rw [hho hh] at h; simp at h
      · exact absurd h0' hne
    · have h0' : err ≠ 0 := fun h => by simp [h] at h0
      rcases hres with ⟨he0, _⟩ | ⟨_, rfl, hno⟩
      · exact absurd he0 h0'
      · refine ⟨fun _ => ⟨fun h => by simp at h, fun _ => ⟨hk0, hki, _, rd e10' c2, fun ha => ?_, fun _ => rfl⟩⟩, fun _ => rfl⟩
        have ha' : (E k).a ≠ 0 := fun h => by simp [h] at ha
        cases is with
        | false => rfl
        | true => exact absurd (hy1 rfl).2 (hno ha' _ (hy1 rfl).1)
  · -- remove
    refine (remove_u t3 hw.1).mono ?_
    rintro _ h11 ⟨f11, s', t11, old, had, rfl, hno⟩
    have e11 : Ext h h11 := fr_new e3 hpz hq f11
    refine ⟨_, _, _, _, _, rfl, (get_u t11 hw.1).mono ?_⟩
    rintro _ h12 ⟨x12, y, is, rfl, hy1, hy0⟩
    refine ⟨_, _, _, _, _, rfl, ?_⟩
    intro bx h13 ebx eh13
    obtain ⟨hw13, mk13⟩ := mk_box ebx eh13
    refine ⟨hw13, ?_⟩
    intro h14 e14
    obtain ⟨b14, x14, hb14, _⟩ := mk13 y h14 e14
    refine ⟨fun his => absurd (hy1 his).2 (hno _ (hy1 his).1), fun _ => ⟨e11.trans (x12.trans x14), q, B, s', hq, (t11.ext x12).ext x14⟩⟩
  · -- get, hit
    refine (get_u t3 hw.1).mono ?_
    rintro _ h15 ⟨x15, y, is, rfl, hy1, hy0⟩
    refine ⟨_, _, _, _, _, rfl, ?_⟩
    intro bx h16 ebx eh16
    obtain ⟨hw16, mk16⟩ := mk_box ebx eh16
    refine ⟨hw16, ?_⟩
    intro h17 e17
    obtain ⟨b17, x17, hb17, hb17'⟩ := mk16 y h17 e17
    have t17 := (t3.ext x15).ext x17
    have e17' : Ext h h17 := e3.trans (x15.trans x17)
    have hs15 := x15.size
    have hs3 := e3.size
    obtain ⟨hpl, hql⟩ := t3.lt
    have hbq : bx ≠ q := by omega
    refine ⟨false, ⟨fun his => ?_, fun _ => rfl⟩, fun h => (by cases h), fun _ => ?_⟩
    · obtain ⟨hyin, hyh⟩ := hy1 his
      refine ⟨_, b17.c0, fun h => ?_, fun _ => ⟨_, b17.c1, ?_⟩⟩
      · rw [hyh] at h; simp at h
      · obtain ⟨i, hi, hsi, ha⟩ := hyin
        have ha' : y.a ≠ 0 := ha
        simp [ha']
    refine (hit_c t17 hw.1).mono ?_
    rintro v h18 ⟨f18, hres⟩
    have e18 : Ext h h18 := fr_new (p := p) (q := q) e17' hpz hq (f18.mono (fun i _ h => .inr h))
    have b18 := b17.fr f18 hbq
    have key : ∃ s', v = .bool is ∧ TabOK h18 p q B m s' ∧ (is = true → InT (2 ^ B) s' ⟨y.h, y.a, y.v, if y.k < 255 then y.k + 1 else y.k⟩) ∧ (is = false → ∀ e, InT (2 ^ B) s' e → e.h ≠ (E k).h) := by
      rcases hres with ⟨e, s', hin, heh, rfl, t18, hs'⟩ | ⟨hno, rfl, t18⟩
      · have his : is = true := by
          cases is with
          | true => rfl
          | false => exact absurd heh ((hy0 rfl).2 _ hin)
        subst his
        obtain ⟨hyin, hyh⟩ := hy1 rfl
        have hye : y = e := InT.eq t3.g hyin hin (hyh.trans heh.symm)
        subst hye
        exact ⟨s', rfl, t18, fun _ => (hs' _).2 (.inr rfl), fun h => (by cases h)⟩
      · have his : is = false := by
          cases is with
          | false => rfl
          | true => exact absurd (hy1 rfl).2 (hno _ (hy1 rfl).1)
        subst his
        exact ⟨s, rfl, t18, fun h => (by cases h), fun _ => hno⟩
    obtain ⟨s', rfl, t18, hk1, hk0'⟩ := key
    refine ⟨_, rfl, fun h => by simp at h, fun _ => (get_u t18 hw.1).mono ?_⟩
    rintro _ h19 ⟨x19, z, is', rfl, hz1, hz0⟩
    refine ⟨_, _, _, _, _, rfl, ?_⟩
    intro byy h20 eby eh20
    obtain ⟨hw20, mk20⟩ := mk_box eby eh20
    refine ⟨hw20, ?_⟩
    intro h21 e21
    obtain ⟨b21, x21, hb21, _⟩ := mk20 z h21 e21
    have xb21 := (b18.ext x19).ext x21
    have t21 := (t18.ext x19).ext x21
    have e21' : Ext h h21 := e18.trans (x19.trans x21)
    have hbb : bx ≠ byy := by
      have := x19.size
      have := f18.size
      omega
    have hxh : h.size ≤ bx := by omega
    have hbp : bx ≠ p := by omega
    -- what is compared
    have hcmp : is = true → z = ⟨y.h, y.a, y.v, if y.k < 255 then y.k + 1 else y.k⟩ := by
      intro his
      have hin := hk1 his
      have his' : is' = true := by
        cases is' with
        | true => rfl
        | false => exact absurd (hy1 his).2 (fun e => (hz0 rfl).2 _ hin e)
      obtain ⟨hzin, hzh⟩ := hz1 his'
      exact InT.eq t18.g hzin hin (hzh.trans (hy1 his).2.symm)
    have hcmp0 : is = false → z = z0 ∧ y = z0 := by
      intro his
      have his' : is' = false := by
        cases is' with
        | false => rfl
        | true => exact absurd (hz1 rfl).2 (hk0' his _ (hz1 rfl).1)
      exact ⟨(hz0 his').1, (hy0 his).1⟩
    refine ⟨fun h22 => Ext h h22 ∧ TabOK h22 p q B m s' ∧ Box h22 byy z ∧ Box h22 bx z, ⟨is && decide (y.k < 255), ⟨fun his => ⟨_, xb21.c3, ?_⟩, fun his => by rw [his]; rfl⟩, fun hj => ?_, fun hj => ?_⟩, ?_⟩
    · rw [his, Bool.true_and, decide_eq_decide]; omega
    · simp only [Bool.and_eq_true, decide_eq_true_eq] at hj
      obtain ⟨his, hlt⟩ := hj
      refine ⟨_, xb21.c3, HW_row xb21 (by simp), ?_⟩
      intro h23 e23
      have hz := hcmp his
      rw [if_pos hlt] at hz
      have b23 : Box h23 bx z := by
        rw [e23, wu8 (by omega) (by omega)]
        unfold Box
        rw [hset_row xb21, hz]
        rfl
      have f23 : Fr (fun i => i = bx) h21 h23 := by rw [e23]; exact fr_hset (fun i => i = bx) (fun _ => rfl)
      refine ⟨((e21'.fr (fun i => i = bx)).trans f23 (fun _ _ h => h)).ext (fun i hi h' => by omega), t21.fr f23 (fun h => hbp h.symm) (fun h => hbq h.symm), b21.fr f23 (fun h => hbb h.symm), b23⟩
    · refine ⟨e21', t21, b21, ?_⟩
      cases is with
      | true =>
        have hlt : ¬ y.k < 255 := by simpa using hj
        have hz := hcmp rfl
        rw [if_neg hlt] at hz
        rw [hz]; exact xb21
      | false =>
        obtain ⟨h1, h2⟩ := hcmp0 rfl
        rw [h1, ← h2]; exact xb21
    · rintro h22 ⟨e22, t22, bb22, bx22⟩
      exact ⟨_, _, _, _, bb22.c0, bb22.c1, bb22.c2, bb22.c3, _, _, _, _, bx22.c0, bx22.c1, bx22.c2, bx22.c3, fun h => by simp at h, fun _ => ⟨e22, q, B, s', hq, t22⟩⟩
  · rintro h4 ⟨e4, q', B', s', hq', t4⟩
    rw [w64 (by omega) (by omega)]
    refine ⟨⟨k + 1, rfl, hkn, e4, q', B', s', hq', t4⟩, ?_⟩
    show n - Int.toNat ((k : Int) + 1) < n - Int.toNat (k : Int)
    omega

end
end Go.Proofs.Ytebipjmcckkhcaa
