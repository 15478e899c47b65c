/-
The document's table: how it lies.
-/
import Derived.Test.YtebipjmcckkhcaaRefT2
import Derived.Test.YtebipjmcckkhcaaShQ
namespace Go.Proofs.Ytebipjmcckkhcaa
open Go RH

theorem EntsAt.set {h : Heap} {b n : Nat} {s : RH.Sl} (x : EntsAt h b n s) {j : Nat} (hj : j < n) (e : Ent) :
    HWs h b (0 + j * 4) 4 ∧ EntsAt (hsets h b (0 + j * 4) [.int .u64 e.h, .int .u64 e.a, .int .u64 e.v, .int .u8 e.k]) b n (stt s j e) := by
  obtain ⟨c, r, hl, he⟩ := x
  exact ⟨HWs_row r (by omega), _, hsets_row _ r, by rw [sets_size]; exact hl, ents_set hl he hj e⟩
theorem EntsAt.fr {h h' : Heap} {S : Nat → Prop} (f : Fr S h h') {b n : Nat} {s : RH.Sl} (hn : ¬ S b) : EntsAt h b n s → EntsAt h' b n s := fun ⟨c, h1, h2⟩ => ⟨c, f.row h1 hn, h2⟩
theorem EntsAt.sl {h : Heap} {b n c : Nat} {s : RH.Sl} (x : EntsAt h b n s) (hc : n ≤ c) : Sl eEnt h (some ⟨b, 0, none⟩) c (lay n s) := by
  obtain ⟨cs, r, hl, he⟩ := x
  refine ⟨by rw [lay_len]; exact hc, .inr ⟨b, 0, rfl, fun i y hy => ?_⟩⟩
  have hi : i < n := by have := (List.getElem?_eq_some_iff.1 hy).1; rwa [lay_len] at this
  rw [lay_get _ _ hi] at hy
  cases hy
  have e := he i hi
  have e0 : 0 + i * 4 = i * 4 := by omega
  have q0 : hcell h b (0 + i * 4) = some (.int .u64 (s i).h) := by rw [hcell_row r, e0]; exact e.c0
  have q1 : hcell h b (0 + i * 4 + 1) = some (.int .u64 (s i).a) := by rw [hcell_row r, e0]; exact e.c1
  have q2 : hcell h b (0 + i * 4 + 1 + 1) = some (.int .u64 (s i).v) := by rw [hcell_row r, e0]; exact e.c2
  have q3 : hcell h b (0 + i * 4 + 1 + 1 + 1) = some (.int .u8 (s i).k) := by rw [hcell_row r, e0]; exact e.c3
  exact ⟨q0, q1, q2, q3, trivial⟩
theorem nx_expr {N i : Nat} (hi : i < N) (hN : N ≤ 65536) : Int.tmod (IntKind.i64.wrap ((i : Int) + 1)) (N : Int) = (nx N i : Int) := by
  rw [w64 (by omega) (by omega)]
  have e : ((i : Int) + 1) = ((i + 1 : Nat) : Int) := by omega
  rw [e, tmod_nat]
  unfold nx
  split
  · rename_i h1; rw [h1, Nat.mod_self]
  · rename_i h1; rw [Nat.mod_eq_of_lt (by omega)]
theorem take_mem {L : List Ent} {k : Nat} (hk : k < L.length) {y : Ent} : y ∈ L.take (k + 1) ↔ y ∈ L.take k ∨ y = L[k] := by
  have e : L.take (k + 1) = L.take k ++ [L[k]] := by rw [List.take_add_one, List.getElem?_eq_getElem hk]; rfl
  rw [e, List.mem_append, List.mem_singleton]

section
variable {N : Nat} {h : Heap} {x : Nat} {a : Option Addr} {c B m : Nat} {L : List Ent}

set_option maxHeartbeats 4000000 in
theorem layout_r (t : RT N h x a c B m L) : HC Try.prog 25 #[ptr x 0] h fun v h' => Ext h h' ∧ ∃ b s, v = .slice (some ⟨b, 0, none⟩) ((2 ^ B : Nat)) ((2 ^ B : Nat)) ∧ h.size ≤ b ∧ EntsAt h' b (2 ^ B) s ∧ RGood (2 ^ B) B s ∧ Rel B s L := by
  have hB : B ≤ 16 := Nat.le_trans t.bm t.m16
  have hB64 : B ≤ 64 := by omega
  have hle := pow_le hB
  have hlen := t.len
  have h4 := pow4 t.b2
  have hsl := t.sl.le
  refine f25_sh _ _ _ _ ⟨_, t.c0, by omega, ?_⟩
  rw [pow2_wrap (by omega)]
  simp only [Int.toNat_natCast]
  refine ⟨by omega, by omega, by omega, ?_⟩
  intro nb h1 eb eh
  have x1 : Ext h h1 := by rw [eh]; exact Ext.push _ _
  have s1 : EntsAt h1 nb (2 ^ B) (fun _ => z0) := ⟨_, by rw [eh]; exact push_new eb, by rw [List.size_toArray, zcells_length]; simp, zents⟩
  refine ⟨fun i h2 => ∃ (k : Nat) (s : RH.Sl), i = k ∧ k ≤ L.length ∧ Ext h h2 ∧ EntsAt h2 nb (2 ^ B) s ∧ RGood (2 ^ B) B s ∧ (∀ e, InT (2 ^ B) s e ↔ e ∈ L.take k) ∧ cntO s (2 ^ B) = k,
    fun i _ => L.length - i.toNat, ⟨0, _, rfl, Nat.zero_le _, x1, s1, good_zero, fun e => ⟨fun ⟨_, _, h, ha⟩ => by subst h; exact absurd rfl ha, fun h => by simp at h⟩, cnt_zero _⟩, ?_⟩
  rintro _ h2 ⟨k, s, rfl, hk, x2, s2, g2, m2, c2⟩
  have t2 := t.ext x2
  refine ⟨_, _, _, t2.c2, fun hlt => ?_, fun hge => ?_⟩
  · have hkl := lt_of_dec hlt
    obtain ⟨b, o, ea, d0, d1, d2, d3⟩ := t2.at hkl
    refine ⟨b, o, ea, by omega, hkl |> fun _ => by omega, _, _, _, _, d0, d1, d2, d3, fun ev h3 lo3 lt3 x3 => ?_⟩
    have t3 := t2.ext x3
    have hwk := t.wf L[k] (List.getElem_mem hkl)
    obtain ⟨z, hz, hh⟩ := cnt_hole (s := s) (2 ^ B) (by omega)
    have hfresh : ∀ i, i < 2 ^ B → occd s i → (s i).h ≠ L[k].h := by
      intro i hi ho he
      have hin := (m2 (s i)).1 ⟨i, hi, rfl, ho⟩
      have hsp := t.srt
      rw [split_at (List.getElem?_eq_getElem hkl)] at hsp
      exact mid_ne hsp (.inl hin) (t.srt.eq (List.mem_of_mem_take hin) (List.getElem_mem hkl) he)
    refine ⟨_, home_r t3 hwk.1.1, fun atv far c0 c1 c2' c3 h5 => ∃ (an fn : Nat) (s' : RH.Sl) (e' : Ent), atv = an ∧ far = fn ∧ c0 = e'.h ∧ c1 = e'.a ∧ c2' = e'.v ∧ c3 = e'.k ∧ Ext h h5 ∧ h3.size ≤ h5.size ∧ EntsAt h5 nb (2 ^ B) s' ∧ LayI (2 ^ B) B s L[k] z s' an fn e',
      fun atv _ _ _ _ _ _ => df (2 ^ B) atv.toNat z, ⟨_, 0, s, L[k], rfl, rfl, rfl, rfl, rfl, rfl, x2.trans x3, Nat.le_refl _, s2.ext x3, LayI.start rfl hB64 g2 hz hh hwk.2 hwk.1 hfresh⟩, ?_⟩
    rintro _ _ _ _ _ _ h5 ⟨an, fn, s', e', rfl, rfl, rfl, rfl, rfl, rfl, x5, hs5, s5, l⟩
    have hal := l.at_lt
    have hnbl := s2.lt
    have hs23 := x3.size
    refine ⟨by omega, by omega, _, s5.e1 (by omega) (by omega), fun hne => ?_, fun he => ?_⟩
    · have ho : occd s' an := by unfold occd; intro q; simp [q] at hne
      refine ⟨_, _, _, _, s5.e0 (by omega) (by omega), s5.e1 (by omega) (by omega), s5.e2 (by omega) (by omega), s5.e3 (by omega) (by omega), fun ov h7 lo7 lt7 x7 => ?_⟩
      have x57 := x5.trans x7
      have s7 := s5.ext x7
      have hwa := l.g.wf an hal
      have hzne : an ≠ z := fun e => l.hole (e ▸ ho)
      have hds := df_step l.z_lt hal hzne
      have hfs := l.far_succ rfl hB64 ho
      have hml := hm_lt (N := 2 ^ B) rfl hB64 hwa.1
      have hdl := df_lt (N := 2 ^ B) hml hal
      simp only [Int.toNat_natCast]
      refine ⟨_, home_r (t.ext x57) hwa.1, by omega, ?_⟩
      rw [df_expr hal hml hle]
      refine ⟨fun far c0 c1 c2' c3 h8 => ∃ (fn : Nat) (s2 : RH.Sl) (e2 : Ent), far = fn ∧ fn < 2 ^ B ∧ c0 = e2.h ∧ c1 = e2.a ∧ c2' = e2.v ∧ c3 = e2.k ∧ Ext h h8 ∧ h3.size ≤ h8.size ∧ EntsAt h8 nb (2 ^ B) s2 ∧ LayI (2 ^ B) B s L[k] z s2 (nx (2 ^ B) an) (fn + 1) e2,
        ⟨fun hc => ?_, fun hc => ?_⟩, ?_⟩
      · have hsw : ds (2 ^ B) B an (s' an).h < fn ∨ fn = ds (2 ^ B) B an (s' an).h ∧ e'.h < (s' an).h := by
          unfold ds
          simp only [Bool.or_eq_true, Bool.and_eq_true, decide_eq_true_eq, beq_iff_eq] at hc
          omega
        obtain ⟨k1, k2⟩ := s7.set hal e'
        have hs7 := x7.size
        refine ⟨k1, by simp [Off]; omega, ?_⟩
        rintro h9 rfl h10 f10
        have xx : Ext h (hsets h7 nb (0 + an * 4) [.int .u64 e'.h, .int .u64 e'.a, .int .u64 e'.v, .int .u8 e'.k]) := ext_hsets rfl x57 (by omega)
        have hs0 := x2.size
        refine ⟨_, _, s' an, rfl, hdl, rfl, rfl, rfl, rfl, ext_of_fr f10 xx (by omega), ?_, k2.fr f10 (by omega), l.swap rfl hB64 ho hsw⟩
        have := f10.size
        rw [hsets_size] at this
        omega
      · have hsw : ¬ (ds (2 ^ B) B an (s' an).h < fn ∨ fn = ds (2 ^ B) B an (s' an).h ∧ e'.h < (s' an).h) := by
          unfold ds
          simp only [Bool.or_eq_false_iff, Bool.and_eq_false_iff, decide_eq_false_iff_not, beq_eq_false_iff_ne, ne_eq] at hc
          omega
        have hs7 := x7.size
        exact ⟨fn, s', e', rfl, by omega, rfl, rfl, rfl, rfl, x57, by omega, s7, l.pass rfl hB64 ho (by omega) (fun q => by omega)⟩
      · rintro _ _ _ _ _ h8 ⟨f', s2', e2, rfl, hfl, rfl, rfl, rfl, rfl, x8, hs8, s8, l8⟩
        rw [nx_expr hal hle, wadd f' (by omega)]
        exact ⟨by omega, ⟨_, f' + 1, s2', e2, rfl, rfl, rfl, rfl, rfl, rfl, x8, hs8, s8, l8⟩, by simpa using hds⟩
    · have ho : ¬ occd s' an := by unfold occd; intro q; have := bne_eq_false_iff_eq.1 he; simp only [Int.toNat_natCast] at this; omega
      obtain ⟨k1, k2, k3⟩ := l.put rfl hB64 ho
      obtain ⟨j1, j2⟩ := s5.set hal e'
      simp only [Int.toNat_natCast]
      refine ⟨j1, ?_⟩
      rintro h11 rfl
      rw [wadd k (by omega)]
      refine ⟨⟨k + 1, _, rfl, hkl, ext_hsets rfl x5 (by omega), j2, k1, fun e => ?_, by rw [k3, c2]⟩, by simp only [Int.toNat_natCast]; omega⟩
      rw [k2 e, m2 e, take_mem hkl]
  · have hkl : k = L.length := by have := ge_of_dec hge; omega
    subst hkl
    rw [List.take_length] at m2
    exact ⟨x2, nb, s, rfl, by omega, s2, g2, t.srt, m2⟩

theorem new_r {bits most : Int} (h0 : Heap) : HC Try.prog 21 #[.int .i64 bits, .int .i64 most] h0 fun r h' => Ext h0 h' ∧
    ((∃ (b k : Nat) (y : Nat), bits = b ∧ most = k ∧ r = .tuple #[ptr y 0, .int .i64 0] ∧ RT h0.size h' y none 0 b k []) ∨ ((bits < 2 ∨ most < bits ∨ 16 < most) ∧ r = .tuple #[.pointer none, .int .i64 110])) := by
  refine f21_sh _ _ _ _ ⟨fun q => ?_, fun q nb h1 eb eh => ?_⟩
  · refine ⟨Ext.refl _, .inr ⟨?_, rfl⟩⟩
    simpa using q
  · simp only [Bool.or_eq_false_iff, decide_eq_false_iff_not] at q
    refine ⟨by rw [eh]; exact Ext.push _ _, .inl ⟨bits.toNat, most.toNat, nb, by omega, by omega, rfl, ?_⟩⟩
    have e1 : ((bits.toNat : Nat) : Int) = bits := by omega
    have e2 : ((most.toNat : Nat) : Int) = most := by omega
    refine ⟨by rw [eh, push_new eb, e1, e2]; rfl, Sl.nil _ _, Own.nil _ _ _ _, by omega, blkA_none, List.Pairwise.nil, fun e he => by simp at he, by omega, by omega, by omega, by simp⟩

theorem same_r {a' : Option Addr} {c' : Nat} {L' : List Ent} (s : Sl eEnt h a c L) (s' : Sl eEnt h a' c' L') (hl : L.length ≤ 1099511627776) :
    HC Try.prog 20 #[.slice a L.length c, .slice a' L'.length c'] h fun r h' => r = .bool (decide (L = L')) ∧ h' = h := by
  refine f20_sh _ _ _ _ _ _ _ _ ⟨fun q => ⟨?_, rfl⟩, fun q => ?_⟩
  · have : L ≠ L' := fun e => by rw [e] at q; simp at q
    rw [decide_eq_false this]
  have hle : L.length = L'.length := by have := bne_eq_false_iff_eq.1 q; omega
  refine ⟨fun i => ∃ k : Nat, i = k ∧ k ≤ L.length ∧ L.take k = L'.take k, fun i => L.length - i.toNat, ⟨0, rfl, Nat.zero_le _, by simp⟩, ?_⟩
  rintro _ ⟨k, rfl, hk, ht⟩
  refine ⟨fun hlt => ?_, fun hge => ?_⟩
  · have hkl := lt_of_dec hlt
    have hkl' : k < L'.length := by omega
    obtain ⟨b1, o1, e1, d1⟩ := s.at (List.getElem?_eq_getElem hkl)
    obtain ⟨b2, o2, e2, d2⟩ := s'.at (List.getElem?_eq_getElem hkl')
    have ec : ((!((L[k].h : Int) == L'[k].h && ((L[k].a : Int) == L'[k].a && ((L[k].v : Int) == L'[k].v && ((L[k].k : Int) == L'[k].k && true)))))) = decide (L[k] ≠ L'[k]) := by
      generalize L[k] = y
      generalize L'[k] = z
      obtain ⟨y1, y2, y3, y4⟩ := y
      obtain ⟨z1, z2, z3, z4⟩ := z
      rw [Bool.eq_iff_iff]
      simp
      constructor <;> intro g <;> omega
    refine ⟨b1, o1, e1, by omega, by omega, _, _, _, _, d1.1, d1.2.1, d1.2.2.1, d1.2.2.2.1, b2, o2, e2, by omega, by omega, _, _, _, _, d2.1, d2.2.1, d2.2.2.1, d2.2.2.2.1, fun g => ⟨?_, rfl⟩, fun g => ?_⟩
    · rw [ec] at g
      have hne := of_decide_eq_true g
      have : L ≠ L' := fun e => hne (by simp [e])
      rw [decide_eq_false this]
    · rw [ec] at g
      have he : L[k] = L'[k] := by have := of_decide_eq_false g; exact Decidable.not_not.1 this
      rw [wadd k (by omega)]
      refine ⟨⟨k + 1, rfl, hkl, ?_⟩, by simp only [Int.toNat_natCast]; omega⟩
      rw [List.take_add_one, List.take_add_one, ht, List.getElem?_eq_getElem hkl, List.getElem?_eq_getElem hkl', he]
  · have hkl : k = L.length := by have := ge_of_dec hge; omega
    subst hkl
    rw [List.take_length, hle, List.take_length] at ht
    exact ⟨by rw [decide_eq_true ht], rfl⟩
end
end Go.Proofs.Ytebipjmcckkhcaa
