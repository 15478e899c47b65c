/-
The table grows, takes entries, gives them up.
-/
import Derived.Test.YtkecmljalcfhoaaTab2
namespace Go.Proofs.Ytkecmljalcfhoaa
open Go RH

section
variable {h : Heap} {p q B m : Nat} {s : Sl}

theorem cnt_split (s : Sl) (k : Nat) : cntO s (k + 1) = cntO s k + (if occd s k then 1 else 0) := rfl
theorem cnt_mono (s : Sl) {a b : Nat} (hab : a ≤ b) : cntO s a ≤ cntO s b := by
  induction b with
  | zero => have : a = 0 := by omega
            subst this; exact Nat.le_refl _
  | succ b ih =>
    by_cases h : a = b + 1
    · subst h; exact Nat.le_refl _
    · have := ih (by omega); rw [cnt_split]; omega

theorem grow_c (t : TabOK h p q B m s) (hb : B < m) : HC Try.prog 68 #[ptr p 0] h fun v h' => v = .tuple #[] ∧ Fr (fun b => b = p) h h' ∧ ∃ q' s', h.size ≤ q' ∧ TabOK h' p q' (B + 1) m s' ∧
    (∀ x, InT (2 ^ (B + 1)) s' x ↔ InT (2 ^ B) s x) ∧ cntO s' (2 ^ (B + 1)) = cntO s (2 ^ B) := by
  obtain ⟨cap, cs, ta⟩ := t.at_
  have hm := ta.m16
  have hle := ta.le
  have h4 := pow4 ta.b2
  have hpow : 2 ^ (B + 1) = 2 * 2 ^ B := by rw [Nat.pow_succ, Nat.mul_comm]
  obtain ⟨hpl, hql⟩ := ta.lt
  have hpq := ta.ne
  refine f68_sh _ _ _ _ ⟨_, _, _, ta.c0, _, ta.c1, ta.hw3 1 (by omega), ?_⟩
  intro h1 e1
  have r1 : h1[p]? = some (.cells #[.slice (some ⟨q, 0, none⟩) (2 ^ B) cap, .int .i64 ((B + 1 : Nat) : Int), .int .i64 m, .int .i64 (cntO s (2 ^ B))] 87 (0, 0)) := by
    rw [e1, w64 (by omega) (by omega), hset_row ta.tab]; rfl
  have f1 : Fr (fun b => b = p) h h1 := by rw [e1]; exact fr_hset (fun b => b = p) (fun _ => rfl)
  clear e1
  refine ⟨((B + 1 : Nat) : Int), by rw [hcell_row r1]; rfl, by omega, ?_⟩
  rw [pow2_wrap (by omega)]
  have hp0 : (0 : Int) ≤ ((2 ^ (B + 1) : Nat) : Int) := Int.natCast_nonneg _
  have hle2 : 2 ^ (B + 1) ≤ 131072 := by omega
  refine ⟨hp0, by omega, by omega, ?_⟩
  intro nb h2 enb eh2
  rw [Int.toNat_natCast] at eh2 ⊢
  have r2 := (Ext.push h1 (.cells (zcells [.int .u64 0, .int .u64 0, .int .u64 0, .int .u8 0] (2 ^ (B + 1))).toArray 31)).row r1
  have z2 : h2[nb]? = some (.cells (zcells [.int .u64 0, .int .u64 0, .int .u64 0, .int .u8 0] (2 ^ (B + 1))).toArray 31 (0, 0)) := by rw [eh2]; exact push_new enb
  rw [← eh2] at r2
  have f2 : Fr (fun b => b = p) h h2 := by rw [eh2]; exact f1.trans (fr_push _) (fun _ _ h => h)
  have hnb : h.size ≤ nb := by rw [enb]; exact f1.size
  clear enb eh2
  refine ⟨HW_row r2 (by simp), ?_⟩
  intro h3 e3
  have r3 : h3[p]? = some (.cells #[.slice (some ⟨nb, 0, none⟩) (2 ^ (B + 1)) (2 ^ (B + 1)), .int .i64 ((B + 1 : Nat) : Int), .int .i64 m, .int .i64 (cntO s (2 ^ B))] 87 (0, 0)) := by
    rw [e3, hset_row r2]; rfl
  have z3 : h3[nb]? = some (.cells (zcells [.int .u64 0, .int .u64 0, .int .u64 0, .int .u8 0] (2 ^ (B + 1))).toArray 31 (0, 0)) := by rw [e3, hset_ne (by omega)]; exact z2
  have f3 : Fr (fun b => b = p) h h3 := by rw [e3]; exact f2.trans (fr_hset (fun b => b = p) (fun _ => rfl)) (fun _ _ h => h)
  clear e3
  refine ⟨HW_row r3 (by simp), ?_⟩
  intro h4 e4
  have r4 : h4[p]? = some (.cells #[.slice (some ⟨nb, 0, none⟩) (2 ^ (B + 1)) (2 ^ (B + 1)), .int .i64 ((B + 1 : Nat) : Int), .int .i64 m, .int .i64 ((0 : Nat) : Int)] 87 (0, 0)) := by
    rw [e4, hset_row r3]; rfl
  have z4 : h4[nb]? = some (.cells (zcells [.int .u64 0, .int .u64 0, .int .u64 0, .int .u8 0] (2 ^ (B + 1))).toArray 31 (0, 0)) := by rw [e4, hset_ne (by omega)]; exact z3
  have f4 : Fr (fun b => b = p) h h4 := by rw [e4]; exact f3.trans (fr_hset (fun b => b = p) (fun _ => rfl)) (fun _ _ h => h)
  clear e4 r1 r2 r3 z2 z3 f1 f2 f3
  have t4 : TabAt h4 p nb (B + 1) m 0 (2 ^ (B + 1)) (zcells [.int .u64 0, .int .u64 0, .int .u64 0, .int .u8 0] (2 ^ (B + 1))).toArray (fun _ => z0) :=
    ⟨r4, z4, by rw [List.size_toArray, zcells_length]; simp, Nat.le_refl _, zents, by have := ta.b2; omega, by omega, hm⟩
  have x0 : EntsAt h q (2 ^ B) s := ta.entsAt
  let Inv : Nat → Heap → Prop := fun k h5 => k ≤ 2 ^ B ∧ Fr (fun b => b = p) h h5 ∧ ∃ cs' s', TabAt h5 p nb (B + 1) m (cntO s k) (2 ^ (B + 1)) cs' s' ∧ RGood (2 ^ (B + 1)) (B + 1) s' ∧ cntO s' (2 ^ (B + 1)) = cntO s k ∧
    (∀ x, InT (2 ^ (B + 1)) s' x ↔ ∃ i, i < k ∧ s i = x ∧ x.a ≠ 0)
  refine ⟨fun v h5 => ∃ k : Nat, v = k ∧ Inv k h5, fun v _ => 2 ^ B - v.toNat, ⟨0, rfl, Nat.zero_le _, f4, _, _, t4, good_zero, cnt_zero _, fun x => ?_⟩, ?_⟩
  · constructor
    · rintro ⟨i, _, hx, ha⟩; subst hx; exact absurd rfl ha
    · rintro ⟨i, hi, _⟩; omega
  rintro _ h5 ⟨k, rfl, hk, f5, cs', s', t5, g5, c5, i5⟩
  have x5 : EntsAt h5 q (2 ^ B) s := by
    obtain ⟨c, hr, hc⟩ := x0
    exact ⟨c, f5.row hr (fun e => hpq e.symm), hc⟩
  refine ⟨fun hlt => ?_, fun hge => ?_⟩
  · have hk' : k < 2 ^ B := by have := of_decide_eq_true hlt; omega
    have hp0' : (0 : Int) ≤ (k : Int) := Int.natCast_nonneg _
    have hk2 : (k : Int) < ((2 ^ B : Nat) : Int) := by omega
    have hw := t.g.wf k hk'
    refine ⟨fun h6 => Inv (k + 1) h6, ⟨_, _, rfl, hp0', hk2, _, _, _, _, x5.e0 hp0' hk2, x5.e1 hp0' hk2, x5.e2 hp0' hk2, x5.e3 hp0' hk2, ?_⟩, ?_⟩
    · intro eb h7 e1 e2
      subst e1; subst e2
      have b7 := Box.new (h := h5) z0 rfl
      refine ⟨b7.hw, ?_⟩
      intro h8 e8
      have b8 := b7.put (s k)
      rw [show h8 = _ from e8]
      clear e8
      have f8 : Fr (fun b => b = h5.size) h5 (hsets (Array.push h5 (.cells #[.int .u64 z0.h, .int .u64 z0.a, .int .u64 z0.v, .int .u8 z0.k] 31)) h5.size 0 [.int .u64 (s k).h, .int .u64 (s k).a, .int .u64 (s k).v, .int .u8 (s k).k]) :=
        (fr_push _).trans (fr_hsets (fun b => b = h5.size) (fun _ => rfl)) (fun _ _ h => h)
      have ex8 := f8.ext (fun i hi h' => by omega)
      refine ⟨_, _, _, _, b8.c0, b8.c1, b8.c2, b8.c3, (empty_c _ _ _ _ _).mono ?_⟩
      rintro _ h9 ⟨rfl, he9⟩
      have b9 := b8.ext he9
      have ex9 := ex8.trans he9
      have t9 := t5.ext ex9
      have f9 : Fr (fun b => b = p) h h9 := f5.trans (ex9.fr _) (fun _ _ h => h)
      refine ⟨_, rfl, fun hemp => ?_, fun hemp => ?_⟩
      · have ho : ¬ occd s k := by unfold occd; simpa using hemp
        refine ⟨hk', f9, cs', s', ?_, g5, ?_, fun x => ?_⟩
        · rw [cnt_split, if_neg ho]; exact t9
        · rw [cnt_split, if_neg ho]; exact c5
        · rw [i5]
          constructor
          · rintro ⟨i, hi, hx⟩; exact ⟨i, by omega, hx⟩
          · rintro ⟨i, hi, hx, hxa⟩
            refine ⟨i, ?_, hx, hxa⟩
            have : i ≠ k := fun e => ho (by unfold occd; rw [← e, hx]; exact hxa)
            omega
      · have ho : occd s k := by unfold occd; simpa using hemp
        have hcm := cnt_mono s (Nat.le_of_lt hk')
        have hcl := cnt_le s (2 ^ B)
        obtain ⟨z, hz, hh⟩ := cnt_hole (s := s') (2 ^ (B + 1)) (by omega)
        refine ⟨_, _, _, _, b9.c0, b9.c1, b9.c2, b9.c3, (lay_c t9 g5 hz hh ho hw ?_ (by omega)).mono ?_⟩
        · intro i hi hoi hx
          obtain ⟨j, hj, hs, _⟩ := (i5 (s' i)).1 ⟨i, hi, rfl, hoi⟩
          have := t.g.uniq j k (by omega) hk' (by unfold occd; rw [hs]; exact hoi) ho (by rw [hs, hx])
          omega
        · rintro _ h10 ⟨rfl, cs2, s2, t10, g10, i10, c10, f10⟩
          refine ⟨rfl, hk', f9.trans f10 (fun i hi hor => ?_), cs2, s2, ?_, g10, ?_, fun x => ?_⟩
          · rcases hor with h' | h'
            · exact h'
            · omega
          · rw [cnt_split, if_pos ho]; exact t10
          · rw [cnt_split, if_pos ho, c10, c5]
          · rw [i10, i5]
            constructor
            · rintro (⟨i, hi, hx⟩ | rfl)
              · exact ⟨i, by omega, hx⟩
              · exact ⟨k, by omega, rfl, ho⟩
            · rintro ⟨i, hi, hx, hxa⟩
              by_cases hik : i = k
              · subst hik; exact .inr hx.symm
              · exact .inl ⟨i, by omega, hx, hxa⟩
    · intro h6 hi6
      refine ⟨⟨k + 1, ?_, hi6⟩, ?_⟩
      · rw [w64 (by omega) (by omega)]; omega
      · show 2 ^ B - Int.toNat (IntKind.i64.wrap ((k : Int) + 1)) < 2 ^ B - Int.toNat (k : Int)
        rw [w64 (by omega) (by omega)]; omega
  · have hkk : k = 2 ^ B := by have := of_decide_eq_false hge; omega
    subst hkk
    refine ⟨rfl, f5, nb, s', hnb, ⟨⟨_, _, by rw [c5]; exact t5⟩, g5, ?_⟩, fun x => ?_, c5⟩
    · have := t.room; rw [c5]; omega
    · rw [i5]; exact Iff.rfl

end
end Go.Proofs.Ytkecmljalcfhoaa
