/-
The document's table: put, taken out, new.
-/
import Derived.Test.YtebipjmcckkhcaaRefT
namespace Go.Proofs.Ytebipjmcckkhcaa
open Go RH

theorem kp_of {bs : List Nat} {h0 h h' : Heap} (e : Ext h0 h) (e' : Ext h0 h') (hb : ∀ b ∈ bs, b < h0.size) : Kp bs h h' :=
  fun b hm _ => (e'.block b (hb b hm)).trans (e.block b (hb b hm)).symm
theorem fit_fr (S : Nat → Prop) : Fit (Fr S) := ⟨fun _ _ x => x.fr S, fun _ _ _ f g => f.trans g fun _ _ h => h⟩
theorem seven {B : Nat} (hb : B ≤ 16) : IntKind.i64.wrap (7 * 2 ^ min (Int.toNat (B : Int)) 64) = ((7 * 2 ^ B : Nat) : Int) := by
  have h1 := pow_le hb
  have e1 : min (Int.toNat (B : Int)) 64 = B := by omega
  have e2 : ((2 : Int) ^ B) = ((2 ^ B : Nat) : Int) := by norm_cast
  rw [e1, e2]
  generalize 2 ^ B = P at *
  rw [w64 (by omega) (by omega)]; omega

/-- What a put does. -/
inductive PutL (B m : Nat) (L : List Ent) (e : Ent) (B' : Nat) (L' : List Ent) : Value → Prop
  | arg : e.a = 0 → B' = B → L' = L → PutL B m L e B' L' (.tuple #[ev0, .bool false, .int .i64 1])
  | had (o : Ent) : e.a ≠ 0 → o ∈ L → o.h = e.h → B' = B → (∀ y, y ∈ L' ↔ (y ∈ L ∧ y ≠ o) ∨ y = e) → PutL B m L e B' L' (.tuple #[entV o, .bool true, .int .i64 0])
  | full : e.a ≠ 0 → (∀ o ∈ L, o.h ≠ e.h) → B = m → 7 * 2 ^ B < 8 * (L.length + 1) → B' = B → L' = L → PutL B m L e B' L' (.tuple #[ev0, .bool false, .int .i64 2])
  | new : e.a ≠ 0 → (∀ o ∈ L, o.h ≠ e.h) → (if 7 * 2 ^ B < 8 * (L.length + 1) then B < m ∧ B' = B + 1 else B' = B) → (∀ y, y ∈ L' ↔ y ∈ L ∨ y = e) → PutL B m L e B' L' (.tuple #[ev0, .bool false, .int .i64 0])

section
variable {N : Nat} {h : Heap} {x : Nat} {a : Option Addr} {c B m : Nat} {L : List Ent}

theorem ent_lit {nb : Nat} {h h' : Heap} (eb : nb = h.size) (eh : h' = h.push (.cells #[] 31)) : Sl eEnt h' (some ⟨nb, 0, none⟩) 0 [] ∧ Own eEnt.k 31 h.size h' (some ⟨nb, 0, none⟩) 0 ∧ Ext h h' := by
  obtain ⟨a1, c1, e1, x1, s1, w1⟩ := New.lit (E := eEnt) (h0 := h) (n := 0) (L := ([] : List Ent)) (Ext.refl h) eb eh rfl rfl
  cases e1; exact ⟨s1, w1, x1⟩

set_option maxHeartbeats 4000000 in
theorem put_r (t : RT N h x a c B m L) {e : Ent} (hw : e.wf) : HC Try.prog 37 #[ptr x 0, entV e] h fun r h' => Fr (RS x a) h h' ∧ ∃ a' c' B' L',
    RT N h' x a' c' B' m L' ∧ (∀ b, RS x a' b → RS x a b ∨ h.size ≤ b) ∧ PutL B m L e B' L' r := by
  have hsm := t.small
  refine f37_sh _ _ _ _ _ _ _ _ ⟨fun q h3 x3 => ?_, fun q ev pb h2 lo1 lt1 lo2 lt2 x2 => ?_⟩
  · exact ⟨x3.fr _, a, c, B, L, t.ext x3, fun b hb => .inl hb, .arg (by have := eq_of_beq q; omega) rfl rfl⟩
  have hea : e.a ≠ 0 := by have := beq_eq_false_iff_ne.1 q; omega
  have t2 := t.ext x2
  obtain ⟨i, is, hc, p⟩ := find_r t2 e.h
  have hle := p.le
  have hsl := t.sl.le
  refine ⟨_, _, hc, fun q1 => ?_, fun q1 => ?_⟩
  · obtain ⟨y, hy, hyv⟩ := p.yes q1
    obtain ⟨hi, hy'⟩ := List.getElem?_eq_some_iff.1 hy
    obtain ⟨b, o, ea, d0, d1, d2, d3⟩ := t2.at hi
    rw [hy'] at d0 d1 d2 d3
    subst ea
    have hbl := t.own.low (blkA_of rfl)
    have hne : x ≠ b := fun g => t.ne (by rw [g]; exact blkA_of rfl)
    refine ⟨_, _, _, t2.c2, b, o, rfl, by omega, by omega, _, _, _, _, d0, d1, d2, d3, fun old h5 lo5 lt5 x5 => ?_⟩
    have t5 := t2.ext x5
    have hs2 := x2.size
    obtain ⟨k1, k2, k3⟩ := t5.sl.put t5.own hi e
    refine ⟨k1, fun p' hp' => ?_, ?_⟩
    · simp only [List.mem_cons, List.not_mem_nil, or_false] at hp'
      rcases hp' with rfl | rfl | rfl <;> omega
    rintro h6 rfl h7 f7
    have hset := set_ok t.srt hy (e := e) hyv.symm
    have f6 : Fr (RS x (some ⟨b, o, none⟩)) h (hsets h5 b (o + i * 4) [.int .u64 e.h, .int .u64 e.a, .int .u64 e.v, .int .u8 e.k]) :=
      ((x2.trans x5).fr _).trans (fr_hsets (fun i => i = b) fun _ => rfl) fun i _ g => .inr (by rw [g]; exact blkA_of rfl)
    refine ⟨f6.trans f7 fun i hi g => by omega, _, c, B, L.set i e, ?_, fun b' hb' => .inl hb', .had y hea (List.mem_of_getElem? hy) hyv rfl hset.2⟩
    have t6 : RT N (hsets h5 b (o + i * 4) [.int .u64 e.h, .int .u64 e.a, .int .u64 e.v, .int .u8 e.k]) x (some ⟨b, o, none⟩) c B m (L.set i e) :=
      ⟨by rw [hsets_ne _ hne, List.length_set]; exact t5.row, k2, k3, t.lo, t.ne, hset.1, fun z hz => by
        rcases (hset.2 z).1 hz with g | g
        · exact t.wf z g.1
        · subst g; exact ⟨hw, hea⟩, t.b2, t.bm, t.m16, by simpa using t.len⟩
    refine t6.fr f7 fun b' hb' g => ?_
    subst g
    have := t.lt (b := b') hb'
    omega
  · have hno := p.no q1
    have his : is = false := q1
    subst his
    have hb16 : B ≤ 16 := Nat.le_trans t.bm t.m16
    have ec : decide (IntKind.i64.wrap (8 * IntKind.i64.wrap ((L.length : Int) + 1)) > IntKind.i64.wrap (7 * 2 ^ min (Int.toNat (B : Int)) 64)) = decide (7 * 2 ^ B < 8 * (L.length + 1)) := by
      rw [seven hb16, wadd _ (by omega), w64 (x := 8 * ((L.length + 1 : Nat) : Int)) (by omega) (by omega)]
      rw [decide_eq_decide]; omega
    refine ⟨fun h8 => Fr (fun b => b = x) h2 h8 ∧ ∃ B', (if 7 * 2 ^ B < 8 * (L.length + 1) then B < m ∧ B' = B + 1 else B' = B) ∧ h8[x]? = some (.cells #[.int .i64 B', .int .i64 m, .slice a L.length c] 55 (0, 0)),
      ⟨_, _, _, t2.c2, _, t2.c0, by omega, fun g => ⟨_, t2.c1, fun g2 => fun h9 f9 => ?_, fun g2 => ?_⟩, fun g => ?_⟩, ?_⟩
    · rw [ec] at g
      have hfull := of_decide_eq_true g
      refine ⟨(x2.fr _).trans f9 fun i hi g => by omega, a, c, B, L, ?_, fun b hb => .inl hb, .full hea hno (by have := eq_of_beq g2; omega) hfull rfl rfl⟩
      refine t2.fr f9 fun b hb g => ?_
      have := t.lt hb; omega
    · rw [ec] at g
      have hfull := of_decide_eq_true g
      have hne : B ≠ m := fun k => by rw [k] at g2; simp at g2
      have hbm := t.bm
      refine ⟨HW_row t2.row (by simp), fun p' hp' => ?_, ?_⟩
      · have := row_lt t.row
        simp only [List.mem_cons, List.not_mem_nil, or_false] at hp'
        rcases hp' with rfl | rfl <;> omega
      rintro h10 rfl
      refine ⟨fr_hset _ fun _ => rfl, B + 1, by rw [if_pos hfull]; exact ⟨by omega, rfl⟩, ?_⟩
      rw [hset_row t2.row, wadd B (by omega)]; rfl
    · rw [ec] at g
      exact ⟨Fr.refl _ _, B, by rw [if_neg (of_decide_eq_false g)], t2.row⟩
    rintro h8 ⟨f8, B', hB', r8⟩ nb h11 eb eh
    obtain ⟨s0, w0, x0⟩ := ent_lit eb eh
    have x28 := f8.size
    have hxl := row_lt t.row
    have hs2 := x2.size
    have sa8 : Sl eEnt h8 a c L := t2.sl.fr f8 fun b hb g => t.ne (by rw [← g]; exact hb)
    have c2 : ∀ {h'}, Ext h8 h' → hcell h' x 2 = some (.slice a L.length c) := fun e' => by rw [hcell_row (e'.row r8)]; rfl
    refine ⟨_, _, _, c2 x0, by omega, by omega, by omega, ?_⟩
    rintro sl rfl
    have s1 := (sa8.ext x0).cut (l := 0) (r := i) (Nat.zero_le _) hle
    refine app_own (n := 0) aEnt x0 s0 w0 rfl s1 (by simp; omega) (by simp; omega) ?_
    intro a1 c1 h12 x12 _ s12 w12 _
    refine ⟨kp_of x0 x12 (by simp; omega), _, _, _, rfl, fun nb1 h13 eb1 eh1 => ?_⟩
    have x13 : Ext h8 h13 := x12.trans (by rw [eh1]; exact Ext.push _ _)
    refine app_one (x := e) aEnt eb1 eh1 rfl x12 s12 w12 (by simp; omega) (by simp; omega) ?_
    intro a2 c2' h14 x14 _ s14 w14 _
    refine ⟨kp_of x13 x14 (by simp; omega), _, _, _, rfl, _, _, _, c2 x14, by omega, by omega, by omega, ?_⟩
    rintro sl1 rfl
    have s15 := (sa8.ext x14).cut (l := i) (r := L.length) hle (Nat.le_refl _)
    refine app_own aEnt x14 s14 w14 (by simp; omega) s15 (by simp) (by simp; omega) ?_
    intro a3 c3 h15 x15 _ s16 w16 _
    refine ⟨kp_of x14 x15 (by simp; omega), _, _, _, rfl, HW_row (x15.row r8) (by simp), by simp [Off]; omega, ?_⟩
    rintro h16 rfl h17 f17
    have hins := ins_ok t.srt p (e := e) rfl
    have eL : ([] ++ List.drop 0 (List.take i L) ++ [e] ++ List.drop i (List.take L.length L)) = L.take i ++ e :: L.drop i := by simp
    rw [eL] at s16
    have hlen : (L.take i ++ e :: L.drop i).length = L.length + 1 := by simp; omega
    have en : (0 + (Int.toNat (i : Int) - Int.toNat 0) + 1 + (Int.toNat (L.length : Int) - Int.toNat (i : Int))) = (L.take i ++ e :: L.drop i).length := by rw [hlen]; simp; omega
    have hNh : N ≤ h8.size := by have := t.lo; omega
    have hbx : ¬ blkA a3 x := fun g => by have := (w16.low g).1; omega
    have t16 : RT N (hset h15 x 2 (.slice a3 (0 + (Int.toNat (i : Int) - Int.toNat 0) + 1 + (Int.toNat (L.length : Int) - Int.toNat (i : Int))) c3)) x a3 c3 B' m (L.take i ++ e :: L.drop i) := by
      have fx : Fr (fun b => b = x) h15 (hset h15 x 2 (.slice a3 (0 + (Int.toNat (i : Int) - Int.toNat 0) + 1 + (Int.toNat (L.length : Int) - Int.toNat (i : Int))) c3)) := fr_hset _ fun _ => rfl
      refine ⟨?_, s16.fr fx fun b hb g => hbx (by rw [← g]; exact hb), (w16.down hNh).fr fx fun b hb g => hbx (by rw [← g]; exact hb), t.lo, hbx, hins.1, fun z hz => ?_, ?_, ?_, t.m16, ?_⟩
      · rw [hset_row (x15.row r8), en]; rfl
      · rcases (hins.2 z).1 hz with g | g
        · exact t.wf z g
        · subst g; exact ⟨hw, hea⟩
      · have := t.b2; split at hB' <;> omega
      · have := t.bm; split at hB' <;> omega
      · rw [hlen]
        split at hB'
        · rw [hB'.2, Nat.pow_succ]; have := t.len; have := t.b2; have := pow4 t.b2; omega
        · rw [hB']; omega
    have f15 : Fr (RS x a) h h15 := ((x2.fr _).trans f8 fun i _ g => .inl g).trans (x15.fr (fun _ => False)) fun _ _ g => g.elim
    refine ⟨(f15.trans (fr_hset (fun b => b = x) fun _ => rfl) fun i _ g => .inl g).trans f17 fun i hi g => by omega, a3, c3, B', _, t16.fr f17 fun b hb g => ?_, fun b hb => ?_, .new hea hno hB' hins.2⟩
    · subst g
      rcases hb with g | g
      · omega
      · have := (w16.low g).1; omega
    · rcases hb with g | g
      · exact .inl (.inl g)
      · have := (w16.low g).1; exact .inr (by omega)

theorem remove_r (t : RT N h x a c B m L) (v : Nat) : HC Try.prog 39 #[ptr x 0, .int .u64 v] h fun r h' => Fr (RS x a) h h' ∧ ∃ a' c' L',
    RT N h' x a' c' B m L' ∧ (∀ b, RS x a' b → RS x a b ∨ h.size ≤ b) ∧ ((∃ e, e ∈ L ∧ e.h = v ∧ r = .tuple #[entV e, .bool true] ∧ ∀ y, y ∈ L' ↔ y ∈ L ∧ y ≠ e) ∨ ((∀ e ∈ L, e.h ≠ v) ∧ r = .tuple #[ev0, .bool false] ∧ L' = L)) := by
  have hsm := t.small
  refine f39_sh _ _ _ _ _ fun pb h1 lo1 lt1 x1 => ?_
  have t1 := t.ext x1
  obtain ⟨i, is, hc, p⟩ := find_r t1 v
  have hle := p.le
  have hsl := t.sl.le
  have hs1 := x1.size
  have hxl := row_lt t.row
  refine ⟨_, _, hc, fun q => fun h2 f => ?_, fun q => ?_⟩
  · have his : is = false := by simpa using q
    exact ⟨(x1.fr _).trans f fun i hi g => by omega, a, c, L, t1.fr f fun b hb g => by have := t.lt hb; omega, fun b hb => .inl hb, .inr ⟨p.no his, rfl, rfl⟩⟩
  · have his : is = true := by simpa using q
    obtain ⟨y, hy, hyv⟩ := p.yes his
    obtain ⟨hi, hy'⟩ := List.getElem?_eq_some_iff.1 hy
    obtain ⟨b, o, ea, d0, d1, d2, d3⟩ := t1.at hi
    rw [hy'] at d0 d1 d2 d3
    subst ea
    refine ⟨_, _, _, t1.c2, b, o, rfl, by omega, by omega, _, _, _, _, d0, d1, d2, d3, Fr (fun b => h1.size ≤ b), fit_fr _, by omega, by omega, by omega, ?_⟩
    rintro sl rfl e h4 lo4 lt4 x4
    have t4 := t1.ext x4
    have c2 : ∀ {h'}, Ext h4 h' → hcell h' x 2 = some (.slice (some ⟨b, o, none⟩) L.length c) := fun e' => (t4.ext e').c2
    have hs4 := x4.size
    rw [wadd i (by omega)]
    refine ⟨_, _, _, fun hx e' => by rw [hcell_row (e'.row t4.row (by omega))]; rfl, by omega, by omega, by omega, ?_⟩
    rintro sl1 rfl nb h5 eb eh
    obtain ⟨s0, w0, x0⟩ := ent_lit eb eh
    have s1 := (t4.sl.ext x0).cut (l := 0) (r := i) (Nat.zero_le _) hle
    refine app_own (n := 0) aEnt x0 s0 w0 rfl s1 (by simp; omega) (by simp; omega) ?_
    intro a1 c1 h6 x6 f6 s6 w6 _
    refine ⟨f6.mono fun j _ g => by have := (w0.low g).1; omega, kp_of x0 x6 (by simp; omega), _, _, _, rfl, ?_⟩
    have s7 := (t4.sl.ext x6).cut (l := i + 1) (r := L.length) (by omega) (Nat.le_refl _)
    refine app_own aEnt x6 s6 w6 (by simp; omega) s7 (by simp) (by simp; omega) ?_
    intro a2 c2' h7 x7 _ s8 w8 _
    refine ⟨kp_of x6 x7 (by simp; omega), _, _, _, rfl, HW_row (x7.row t4.row) (by simp), by simp [Off]; omega, ?_⟩
    rintro h8 rfl h9 f9
    have hdel := del_ok t.srt hy
    have eL : ([] ++ List.drop 0 (List.take i L) ++ List.drop (i + 1) (List.take L.length L)) = L.take i ++ L.drop (i + 1) := by simp
    rw [eL] at s8
    have hlen : (L.take i ++ L.drop (i + 1)).length = L.length - 1 := by simp; omega
    have en : (0 + (Int.toNat (i : Int) - Int.toNat 0) + (Int.toNat (L.length : Int) - Int.toNat ((i + 1 : Nat) : Int))) = (L.take i ++ L.drop (i + 1)).length := by rw [hlen]; simp; omega
    have hNh : N ≤ h4.size := by have := t.lo; omega
    have hbx : ¬ blkA a2 x := fun g => by have := (w8.low g).1; omega
    have r7 := x7.row t4.row
    generalize hK : (0 + (Int.toNat (i : Int) - Int.toNat 0) + (Int.toNat (L.length : Int) - Int.toNat ((i + 1 : Nat) : Int))) = K at *
    have t8 : RT N (hset h7 x 2 (.slice a2 K c2')) x a2 c2' B m (L.take i ++ L.drop (i + 1)) := by
      have fx : Fr (fun b => b = x) h7 (hset h7 x 2 (.slice a2 K c2')) := fr_hset _ fun _ => rfl
      refine ⟨?_, s8.fr fx fun b hb g => hbx (by rw [← g]; exact hb), (w8.down hNh).fr fx fun b hb g => hbx (by rw [← g]; exact hb), t.lo, hbx, hdel.1, fun z hz => t.wf z ((hdel.2 z).1 hz).1, t.b2, t.bm, t.m16, ?_⟩
      · rw [hset_row r7, en]; rfl
      · rw [hlen]; have := t.len; omega
    have f7 : Fr (RS x (some ⟨b, o, none⟩)) h h7 := ((x1.trans x4).trans x7).fr _
    refine ⟨(f7.trans (fr_hset (fun b => b = x) fun _ => rfl) fun i _ g => .inl g).trans f9 fun i hi g => by omega, a2, c2', _, t8.fr f9 fun b hb g => ?_, fun b hb => ?_, .inl ⟨y, List.mem_of_getElem? hy, hyv, rfl, hdel.2⟩⟩
    · subst g
      rcases hb with g | g
      · omega
      · have := (w8.low g).1; omega
    · rcases hb with g | g
      · exact .inl (.inl g)
      · have := (w8.low g).1; exact .inr (by omega)
end
end Go.Proofs.Ytebipjmcckkhcaa
