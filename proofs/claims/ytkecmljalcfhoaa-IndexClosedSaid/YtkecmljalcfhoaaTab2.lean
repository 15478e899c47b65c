/-
The table's methods.
-/
import Derived.Test.YtkecmljalcfhoaaTab
import Derived.Test.YtkecmljalcfhoaaShB
namespace Go.Proofs.Ytkecmljalcfhoaa
open Go RH

structure TabOK (h : Heap) (p q B m : Nat) (s : Sl) : Prop where
  at_ : ∃ cap cs, TabAt h p q B m (cntO s (2 ^ B)) cap cs s
  g : RGood (2 ^ B) B s
  room : 8 * cntO s (2 ^ B) ≤ 7 * 2 ^ B

/-- Entries in a row. -/
def EntsAt (h : Heap) (b n : Nat) (s : Sl) : Prop := ∃ c, h[b]? = some (.cells c 31 (0, 0)) ∧ n * 4 ≤ c.size ∧ ∀ i, i < n → EntAt c i (s i)
theorem EntsAt.ext {h h' : Heap} (he : Ext h h') {b n : Nat} {s : Sl} : EntsAt h b n s → EntsAt h' b n s := fun ⟨c, h1, h2⟩ => ⟨c, he.row h1, h2⟩
theorem EntsAt.lt {h : Heap} {b n : Nat} {s : Sl} : EntsAt h b n s → b < h.size := fun ⟨_, h1, _⟩ => row_lt h1
theorem EntsAt.e0 {h : Heap} {b n : Nat} {s : Sl} (x : EntsAt h b n s) {i : Int} (h0 : 0 ≤ i) (h1 : i < (n : Int)) : hcell h b (0 + i.toNat * 4) = some (.int .u64 (s i.toNat).h) := by
  obtain ⟨c, r, _, e⟩ := x; rw [hcell_row r, Nat.zero_add]; exact (e i.toNat (by omega)).c0
theorem EntsAt.e1 {h : Heap} {b n : Nat} {s : Sl} (x : EntsAt h b n s) {i : Int} (h0 : 0 ≤ i) (h1 : i < (n : Int)) : hcell h b (0 + i.toNat * 4 + 1) = some (.int .u64 (s i.toNat).a) := by
  obtain ⟨c, r, _, e⟩ := x; rw [hcell_row r, Nat.zero_add]; exact (e i.toNat (by omega)).c1
theorem EntsAt.e2 {h : Heap} {b n : Nat} {s : Sl} (x : EntsAt h b n s) {i : Int} (h0 : 0 ≤ i) (h1 : i < (n : Int)) : hcell h b (0 + i.toNat * 4 + 2) = some (.int .u64 (s i.toNat).v) := by
  obtain ⟨c, r, _, e⟩ := x; rw [hcell_row r, Nat.zero_add]; exact (e i.toNat (by omega)).c2
theorem EntsAt.e3 {h : Heap} {b n : Nat} {s : Sl} (x : EntsAt h b n s) {i : Int} (h0 : 0 ≤ i) (h1 : i < (n : Int)) : hcell h b (0 + i.toNat * 4 + 3) = some (.int .u8 (s i.toNat).k) := by
  obtain ⟨c, r, _, e⟩ := x; rw [hcell_row r, Nat.zero_add]; exact (e i.toNat (by omega)).c3

section
variable {h : Heap} {p q B m : Nat} {s : Sl}

theorem TabOK.hole (t : TabOK h p q B m s) : ∃ z, z < 2 ^ B ∧ ¬ occd s z := by
  obtain ⟨cap, cs, ta⟩ := t.at_
  have h4 := pow4 ta.b2
  have := t.room
  exact cnt_hole _ (by omega)
theorem TabOK.ext (t : TabOK h p q B m s) {h' : Heap} (he : Ext h h') : TabOK h' p q B m s :=
  ⟨let ⟨cap, cs, ta⟩ := t.at_; ⟨cap, cs, ta.ext he⟩, t.g, t.room⟩
theorem TabOK.fr (t : TabOK h p q B m s) {h' : Heap} {S : Nat → Prop} (he : Fr S h h') (hp : ¬ S p) (hq : ¬ S q) : TabOK h' p q B m s :=
  ⟨let ⟨cap, cs, ta⟩ := t.at_; ⟨cap, cs, ta.fr he hp hq⟩, t.g, t.room⟩
theorem TabOK.lt (t : TabOK h p q B m s) : p < h.size ∧ q < h.size := let ⟨_, _, ta⟩ := t.at_; ta.lt
theorem TabOK.bnd (t : TabOK h p q B m s) : 2 ≤ B ∧ B ≤ m ∧ m ≤ 16 := let ⟨_, _, ta⟩ := t.at_; ⟨ta.b2, ta.bm, ta.m16⟩
theorem TabOK.le (t : TabOK h p q B m s) : 2 ^ B ≤ 65536 := let ⟨_, _, ta⟩ := t.at_; ta.le

theorem clone_c {n c : Nat} (x : EntsAt h q n s) (h0 : 0 < n) (hn : n ≤ 65536) : HC Try.prog 65 #[.slice (some ⟨q, 0, none⟩) n c] h fun v h' => Ext h h' ∧ ∃ b cap, v = .slice (some ⟨b, 0, none⟩) n cap ∧ h.size ≤ b ∧ n ≤ cap ∧ EntsAt h' b n s := by
  obtain ⟨cs, hr, hl, he⟩ := x
  refine f65_sh _ _ _ _ _ ⟨fun h => by simp at h, fun _ => ?_⟩
  intro nb h1 e1 e2
  subst e1; subst e2
  have ex1 := Ext.push h (.cells #[] 31)
  have hs : Src (Array.push h (.cells #[] 31)) (.slice (some ⟨q, 0, none⟩) n c) n 4 (cs.toList.take (n * 4)) := by
    refine ⟨by simp; omega, .inr ⟨q, 0, c, rfl, fun j u hu => ?_⟩⟩
    rw [hcell_row (ex1.row hr), Nat.zero_add]
    rw [List.getElem?_take] at hu
    split at hu
    · simpa using hu
    · cases hu
  refine happ_grow (size := 4) (by_ := 32) (zs := [.int .u64 0, .int .u64 0, .int .u64 0, .int .u8 0]) (olds := []) Ty.u47 Ty.sz31 Ty.by31 Ty.z31 rfl ⟨rfl, .inr ⟨_, _, _, rfl, fun j u hu => by simp at hu⟩⟩ hs (by omega) (by omega) (by omega) ?_
  rintro b cap h2 rfl hc1 hc2 rfl
  rw [Nat.zero_add] at hc1
  refine ⟨_, _, _, rfl, ?_⟩
  rw [Nat.zero_add]
  refine ⟨ex1.trans (Ext.push _ _), _, cap, rfl, by simp, hc1, _, push_new rfl, ?_, ?_⟩
  · simp; omega
  · intro i hi
    have h4 : i * 4 + 3 < n * 4 := by omega
    have key : ∀ k, k < 4 → ∀ u, cs[i * 4 + k]? = some u → (([] ++ cs.toList.take (n * 4) ++ (Builtin.zeroCells [Value.int .u64 0, .int .u64 0, .int .u64 0, .int .u8 0].toArray (cap - n)).toList).toArray)[i * 4 + k]? = some u := by
      intro k hk u hu
      rw [List.getElem?_toArray, List.nil_append, List.getElem?_append_left (by simp; omega), List.getElem?_take, if_pos (by omega)]
      simpa using hu
    have hi0 := he i hi
    exact ⟨key 0 (by omega) _ hi0.c0, key 1 (by omega) _ hi0.c1, key 2 (by omega) _ hi0.c2, key 3 (by omega) _ hi0.c3⟩

theorem TabAt.entsAt {n cap : Nat} {cs : Array Value} (t : TabAt h p q B m n cap cs s) : EntsAt h q (2 ^ B) s := ⟨cs, t.row, t.len, t.ents⟩

theorem layout_c (t : TabOK h p q B m s) : HC Try.prog 57 #[ptr p 0] h fun v h' => Ext h h' ∧ ∃ b cap, v = .slice (some ⟨b, 0, none⟩) ((2 ^ B : Nat)) cap ∧ h.size ≤ b ∧ EntsAt h' b (2 ^ B) s := by
  obtain ⟨cap, cs, ta⟩ := t.at_
  have h4 := pow4 ta.b2
  refine f57_sh _ _ _ _ ⟨true, made_c ta, fun h => by simp at h, fun _ => ⟨_, _, _, ta.c0, (clone_c ta.entsAt (by omega) ta.le).mono ?_⟩⟩
  rintro _ h1 ⟨he, b, cap', rfl, hb, _, hx⟩
  exact ⟨_, _, _, rfl, he, b, cap', rfl, hb, hx⟩

theorem len_c (t : TabOK h p q B m s) : HC Try.prog 48 #[ptr p 0] h fun v h' => h' = h ∧ v = .int .i64 (cntO s (2 ^ B)) := by
  obtain ⟨cap, cs, ta⟩ := t.at_
  exact f48_sh _ _ _ _ ⟨true, made_c ta, fun h => by simp at h, fun _ => ⟨_, ta.c3, rfl, rfl⟩⟩

theorem zents {n : Nat} : ∀ i, i < n → EntAt (zcells [.int .u64 0, .int .u64 0, .int .u64 0, .int .u8 0] n).toArray i z0 := by
  intro i hi
  have key : ∀ k, k < 4 → (zcells [Value.int .u64 0, .int .u64 0, .int .u64 0, .int .u8 0] n).toArray[i * 4 + k]? = [Value.int .u64 0, .int .u64 0, .int .u64 0, .int .u8 0][k]? := by
    intro k hk
    rw [List.getElem?_toArray, zcells_getElem _ _ _ (by simp only [List.length_cons, List.length_nil]; omega)]
    simp only [List.length_cons, List.length_nil]
    have : (i * 4 + k) % (0 + 1 + 1 + 1 + 1) = k := by omega
    rw [this]
  exact ⟨key 0 (by omega), key 1 (by omega), key 2 (by omega), key 3 (by omega)⟩

theorem pow2_wrap {b : Nat} (hb : b ≤ 17) : IntKind.i64.wrap (1 * 2 ^ min (Int.toNat (b : Int)) 64) = ((2 ^ b : Nat) : Int) := by
  have h1 : 2 ^ b ≤ 2 ^ 17 := Nat.pow_le_pow_right (by omega) hb
  have h2 : (2 : Nat) ^ 17 = 131072 := rfl
  have e1 : min (Int.toNat (b : Int)) 64 = b := by omega
  have e2 : ((2 : Int) ^ b) = ((2 ^ b : Nat) : Int) := by norm_cast
  rw [e1, e2, Int.one_mul]
  generalize 2 ^ b = N at *
  rw [w64 (by omega) (by omega)]

theorem new_c {bits most : Nat} (h1 : 2 ≤ bits) (h2 : bits ≤ most) (h3 : most ≤ 16) (h : Heap) :
    HC Try.prog 49 #[.int .i64 bits, .int .i64 most] h fun v h' => Ext h h' ∧ ∃ p q, v = .tuple #[ptr p 0, .int .i64 0] ∧ h.size ≤ p ∧ h.size ≤ q ∧ TabOK h' p q bits most (fun _ => z0) := by
  have hle : 2 ^ bits ≤ 65536 := pow_le (by omega)
  refine f49_sh _ _ _ _ ⟨false, ⟨fun h => ?_, fun _ => ⟨fun h => ?_, fun _ => ?_⟩⟩, fun h => by simp at h, fun _ => ⟨by omega, ?_⟩⟩
  · simp only [decide_eq_true_eq] at h; omega
  · simp only [decide_eq_true_eq] at h; omega
  · exact (decide_eq_false (by omega)).symm
  rw [pow2_wrap (by omega)]
  have hp0 : (0 : Int) ≤ ((2 ^ bits : Nat) : Int) := Int.natCast_nonneg _
  refine ⟨hp0, by omega, by omega, ?_⟩
  rintro nb ha rfl rfl nb' hb rfl rfl
  rw [Int.toNat_natCast]
  refine ⟨(Ext.push _ _).trans (Ext.push _ _), _, _, rfl, by simp, Nat.le_refl _, ⟨2 ^ bits, (zcells [.int .u64 0, .int .u64 0, .int .u64 0, .int .u8 0] (2 ^ bits)).toArray, ?_⟩, good_zero, by rw [cnt_zero]; omega⟩
  rw [cnt_zero]
  exact ⟨push_new rfl, (Ext.push _ _).row (push_new rfl), by rw [List.size_toArray, zcells_length]; simp, Nat.le_refl _, zents, h1, h2, h3⟩

theorem new_no {bits most : Int} (hn : bits < 2 ∨ most < bits ∨ 16 < most) (h : Heap) : HC Try.prog 49 #[.int .i64 bits, .int .i64 most] h fun v h' => h' = h ∧ v = .tuple #[.pointer none, .int .i64 110] := by
  refine f49_sh _ _ _ _ ⟨true, ⟨fun _ => rfl, fun ha => ⟨fun _ => rfl, fun hb => ?_⟩⟩, fun _ => ⟨rfl, rfl⟩, fun h => by simp at h⟩
  simp only [decide_eq_false_iff_not] at ha hb
  exact (decide_eq_true (by omega)).symm

theorem get_c (t : TabOK h p q B m s) {x : Nat} (hx : x < 18446744073709551616) : HC Try.prog 28 #[ptr p 0, .int .u64 x] h fun v h' => Ext h h' ∧
    ((∃ e, InT (2 ^ B) s e ∧ e.h = x ∧ v = .tuple #[.agg #[.int .u64 e.h, .int .u64 e.a, .int .u64 e.v, .int .u8 e.k], .bool true]) ∨
      ((∀ e, InT (2 ^ B) s e → e.h ≠ x) ∧ v = .tuple #[.agg #[.int .u64 0, .int .u64 0, .int .u64 0, .int .u8 0], .bool false])) := by
  obtain ⟨z, hz, hh⟩ := t.hole
  refine f28_sh _ _ _ _ _ ?_
  rintro nb h1 rfl rfl
  have x1 := Box.new (h := h) z0 rfl
  have t1 := t.ext (Ext.push h (.cells #[.int .u64 z0.h, .int .u64 z0.a, .int .u64 z0.v, .int .u8 z0.k] 31))
  have e1 := Ext.push h (.cells #[.int .u64 z0.h, .int .u64 z0.a, .int .u64 z0.v, .int .u8 z0.k] 31)
  obtain ⟨cap, cs, ta⟩ := t1.at_
  refine (find_c ta t1.g hz hh hx).mono ?_
  rintro _ h2 ⟨he, hres⟩
  have x2 := x1.ext he
  have ee : ∀ vs, Ext h (hsets h2 h.size 0 vs) := fun vs => (e1.trans he |>.fr (fun b => b = h.size)).trans (fr_hsets (fun b => b = h.size) (fun _ => rfl)) (fun _ _ h => h) |>.ext (fun i hi h' => by omega)
  rcases hres with ⟨i, hi, ho, hix, rfl⟩ | ⟨hno, rfl⟩
  · refine ⟨_, rfl, fun h => by simp only [decide_eq_true_eq] at h; omega, fun _ => ?_⟩
    have t2 := ta.ext he
    refine ⟨_, _, _, t2.c0, _, _, rfl, by omega, by omega, _, _, _, _, t2.e0 (by omega) (by omega), t2.e1 (by omega) (by omega), t2.e2 (by omega) (by omega), t2.e3 (by omega) (by omega), x2.hw, ?_⟩
    intro h4 e4
    have x4 := x2.put (s i)
    rw [show h4 = _ from e4]
    refine ⟨_, _, _, _, x4.c0, x4.c1, x4.c2, x4.c3, ee _, .inl ⟨s i, ⟨i, hi, rfl, ho⟩, hix, rfl⟩⟩
  · refine ⟨_, rfl, fun _ => ⟨x2.hw, ?_⟩, fun h => by simp at h⟩
    intro h3 e3
    have x3 := x2.put z0
    rw [show h3 = _ from e3]
    refine ⟨_, _, _, _, x3.c0, x3.c1, x3.c2, x3.c3, ee _, .inr ⟨?_, rfl⟩⟩
    rintro e ⟨i, hi, hs, hea⟩
    subst hs
    exact hno i hi hea

theorem hit_c (t : TabOK h p q B m s) {x : Nat} (hx : x < 18446744073709551616) : HC Try.prog 52 #[ptr p 0, .int .u64 x] h fun v h' => Fr (fun b => b = q) h h' ∧
    ((∃ e s', InT (2 ^ B) s e ∧ e.h = x ∧ v = .bool true ∧ TabOK h' p q B m s' ∧ (∀ y, InT (2 ^ B) s' y ↔ (InT (2 ^ B) s y ∧ y ≠ e) ∨ y = ⟨e.h, e.a, e.v, if e.k < 255 then e.k + 1 else e.k⟩)) ∨
      ((∀ e, InT (2 ^ B) s e → e.h ≠ x) ∧ v = .bool false ∧ TabOK h' p q B m s)) := by
  obtain ⟨z, hz, hh⟩ := t.hole
  obtain ⟨cap, cs, ta⟩ := t.at_
  refine f52_sh _ _ _ _ _ ((find_c ta t.g hz hh hx).mono ?_)
  rintro _ h1 ⟨he, ⟨i, hi, ho, hix, rfl⟩ | ⟨hno, rfl⟩⟩
  · refine ⟨_, rfl, fun h => by simp only [decide_eq_true_eq] at h; omega, fun _ => ?_⟩
    have t1 := ta.ext he
    have hw := t.g.wf i hi
    refine ⟨fun h' => Fr (fun b => b = q) h h' ∧ ∃ s', TabOK h' p q B m s' ∧ (∀ y, InT (2 ^ B) s' y ↔ (InT (2 ^ B) s y ∧ y ≠ s i) ∨ y = ⟨(s i).h, (s i).a, (s i).v, if (s i).k < 255 then (s i).k + 1 else (s i).k⟩),
      ⟨_, _, _, t1.c0, _, _, rfl, by omega, by omega, _, t1.e3 (by omega) (by omega), fun hlt => ?_, fun hge => ?_⟩, ?_⟩
    · have hk : (s i).k < 255 := by have := of_decide_eq_true hlt; simp only [Int.toNat_natCast] at this; omega
      refine ⟨_, _, _, t1.c0, _, _, rfl, by omega, by omega, _, t1.e3 (by omega) (by omega), by omega, by omega, HW_row t1.row (by have := t1.len; simp only [Int.toNat_natCast]; omega), ?_⟩
      intro h3 e3
      rw [show h3 = _ from e3]
      simp only [Int.toNat_natCast]
      rw [wu8 (by omega) (by omega)]
      have ec : (((s i).k : Int) + 1) = (((s i).k + 1 : Nat) : Int) := by omega
      rw [ec]
      let e' : Ent := ⟨(s i).h, (s i).a, (s i).v, (s i).k + 1⟩
      have hw' : e'.wf := ⟨hw.1, hw.2.1, hw.2.2.1, by show (s i).k + 1 < 256; omega⟩
      refine ⟨(he.fr _).trans (fr_hset (fun b => b = q) (fun _ => rfl)) (fun _ _ h => h), stt s i e', ⟨⟨cap, cs.setIfInBounds (0 + i * 4 + 3) (.int .u8 (((s i).k + 1 : Nat) : Int)), ?_⟩, good_upd t.g hi rfl hw' ho ho, by rw [cnt_upd (e := e') ho ho]; exact t.room⟩, ?_⟩
      · rw [cnt_upd (e := e') ho ho]
        refine ⟨by rw [hset_ne t1.ne]; exact t1.tab, hset_row t1.row, by simpa using t1.len, t1.cap, ?_, t1.b2, t1.bm, t1.m16⟩
        intro j hj
        have hj0 := t1.ents j hj
        have hlen := t1.len
        by_cases hji : j = i
        · subst hji
          rw [st_same]
          refine ⟨?_, ?_, ?_, ?_⟩
          · rw [Array.getElem?_setIfInBounds_ne (by omega)]; exact hj0.c0
          · rw [Array.getElem?_setIfInBounds_ne (by omega)]; exact hj0.c1
          · rw [Array.getElem?_setIfInBounds_ne (by omega)]; exact hj0.c2
          · have e0 : 0 + j * 4 + 3 = j * 4 + 3 := by omega
            rw [e0, Array.getElem?_setIfInBounds]
            have : j * 4 + 3 < cs.size := by omega
            simp [this, e']
        · rw [st_ne _ _ hji]
          refine ⟨?_, ?_, ?_, ?_⟩
          · rw [Array.getElem?_setIfInBounds_ne (by omega)]; exact hj0.c0
          · rw [Array.getElem?_setIfInBounds_ne (by omega)]; exact hj0.c1
          · rw [Array.getElem?_setIfInBounds_ne (by omega)]; exact hj0.c2
          · rw [Array.getElem?_setIfInBounds_ne (by omega)]; exact hj0.c3
      · rw [if_pos hk]; exact upd_in t.g hi ho ho
    · have hk : ¬ (s i).k < 255 := by have := of_decide_eq_false hge; simp only [Int.toNat_natCast] at this; omega
      refine ⟨he.fr _, s, t.ext he, fun y => ?_⟩
      rw [if_neg hk]
      have hs : (⟨(s i).h, (s i).a, (s i).v, (s i).k⟩ : Ent) = s i := rfl
      rw [hs]
      constructor
      · intro hy
        by_cases hys : y = s i
        · exact .inr hys
        · exact .inl ⟨hy, hys⟩
      · rintro (⟨hy, _⟩ | rfl)
        · exact hy
        · exact ⟨i, hi, rfl, ho⟩
    · rintro h2 ⟨hf, s', hs'⟩
      exact ⟨hf, .inl ⟨s i, s', ⟨i, hi, rfl, ho⟩, hix, rfl, hs'⟩⟩
  · refine ⟨_, rfl, fun _ => ⟨he.fr _, .inr ⟨?_, rfl, t.ext he⟩⟩, fun h => by simp at h⟩
    rintro e ⟨i, hi, hs, hea⟩
    subst hs
    exact hno i hi hea
where
  upd_in {B : Nat} {s : Sl} (g : RGood (2 ^ B) B s) {i : Nat} (hi : i < 2 ^ B) (ho : occd s i) {e : Ent} (ha : e.a ≠ 0) : ∀ y, InT (2 ^ B) (stt s i e) y ↔ (InT (2 ^ B) s y ∧ y ≠ s i) ∨ y = e := by
    intro y
    rw [in_st hi ha]
    constructor
    · rintro (rfl | ⟨j, hj, hji, hy, hya⟩)
      · exact .inr rfl
      · refine .inl ⟨⟨j, hj, hy, hya⟩, fun hq => hji (g.uniq j i hj hi ?_ ho (by rw [hy, hq]))⟩
        unfold occd; rw [hy]; exact hya
    · rintro (⟨⟨j, hj, hy, hya⟩, hq⟩ | rfl)
      · exact .inr ⟨j, hj, fun h => hq (by rw [← hy, h]), hy, hya⟩
      · exact .inl rfl

end
end Go.Proofs.Ytkecmljalcfhoaa
