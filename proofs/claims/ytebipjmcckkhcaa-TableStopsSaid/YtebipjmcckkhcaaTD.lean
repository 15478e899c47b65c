/-
The table's Longest, Fork and All.
-/
import Derived.Test.YtebipjmcckkhcaaTC
import Derived.Test.YtebipjmcckkhcaaTab5
namespace Go.Proofs.Ytebipjmcckkhcaa
open Go RH

def lng (N B : Nat) (s : RH.Sl) : Nat → Nat
  | 0 => 0
  | n + 1 => if occd s n ∧ lng N B s n < ds N B n (s n).h then ds N B n (s n).h else lng N B s n
theorem lng_congr {N B : Nat} {s s' : RH.Sl} : ∀ n, (∀ i, i < n → s i = s' i) → lng N B s n = lng N B s' n
  | 0, _ => rfl
  | n + 1, h => by
    have h1 := lng_congr (N := N) (B := B) n fun i hi => h i (by omega)
    have h2 := h n (by omega)
    have ho : occd s n ↔ occd s' n := by unfold occd; rw [h2]
    simp only [lng, h1, h2]
    by_cases q : occd s' n ∧ lng N B s' n < ds N B n (s' n).h
    · rw [if_pos q, if_pos ⟨ho.2 q.1, q.2⟩]
    · rw [if_neg q, if_neg fun g => q ⟨ho.1 g.1, g.2⟩]
theorem lng_lt {N B : Nat} (hN : N = 2 ^ B) (hB : B ≤ 64) {s : RH.Sl} (g : RGood N B s) : ∀ n, n ≤ N → 0 < N → lng N B s n < N
  | 0, _, h => h
  | n + 1, h, h0 => by
    have h1 := lng_lt hN hB g n (by omega) h0
    have h2 := df_lt (N := N) (hm_lt hN hB (g.wf n (by omega)).1) (show n < N by omega)
    simp only [lng]; split
    · exact h2
    · exact h1
theorem lay_inj {N : Nat} {s s' : RH.Sl} (h : lay N s = lay N s') : ∀ i, i < N → s i = s' i := fun i hi => by
  have := lay_get N s hi
  rw [h, lay_get N s' hi] at this
  exact (Option.some.inj this).symm

section
variable {h : Heap} {p q B m : Nat} {s : RH.Sl} {L : List Ent}

theorem clone_n {n c : Nat} (x : EntsAt h q n s) (hc : n ≤ c) (hn : n ≤ 65536) : HC Try.prog 29 #[.slice (some ⟨q, 0, none⟩) n c] h fun v h' => New eEnt 31 h h' v (lay n s) := by
  refine f29_sh _ _ _ _ _ ⟨fun h => by simp at h, fun _ nb h1 eb eh => ?_⟩
  obtain ⟨s0, w0, x0⟩ := ent_lit eb eh
  refine app_own (n := 0) aEnt x0 s0 w0 rfl ((x.ext x0).sl hc) (lay_len _ _).symm (by omega) ?_
  intro a1 c1 h2 x2 _ s2 w2 _
  refine ⟨_, _, _, rfl, a1, c1, ?_, x2, s2.cast (by simp), w2⟩
  rw [lay_len, Nat.zero_add]
theorem layout_n (t : TabOK h p q B m s) : HC Try.prog 13 #[ptr p 0] h fun v h' => New eEnt 31 h h' v (lay (2 ^ B) s) := by
  obtain ⟨cap, cs, ta⟩ := t.at_
  refine f13_sh _ _ _ _ ⟨true, made_c ta, fun h => by simp at h, fun _ => ⟨_, _, _, ta.c0, (clone_n ta.entsAt ta.cap ta.le).mono ?_⟩⟩
  rintro _ h1 ⟨a, c, rfl, x⟩
  exact ⟨_, _, _, rfl, a, c, rfl, x⟩

theorem longest_c (t : TabOK h p q B m s) : HC Try.prog 26 #[ptr p 0] h fun v h' => v = .int .i64 (lng (2 ^ B) B s (2 ^ B)) ∧ Ext h h' := by
  obtain ⟨cap, cs, ta⟩ := t.at_
  have hle := ta.le
  refine f26_sh _ _ _ _ ⟨true, made_c ta, fun h => by simp at h, fun _ => ⟨_, _, _, ta.c0,
    fun m v h1 => ∃ k : Nat, v = k ∧ m = (lng (2 ^ B) B s k : Nat) ∧ k ≤ 2 ^ B ∧ Ext h h1, fun _ v _ => 2 ^ B - v.toNat, ⟨0, rfl, rfl, Nat.zero_le _, Ext.refl _⟩, ?_⟩⟩
  rintro _ _ h1 ⟨k, rfl, rfl, hk, x1⟩
  refine ⟨fun hlt => ?_, fun hge => ?_⟩
  · have hkl : k < 2 ^ B := lt_of_dec hlt
    have t1 := ta.ext x1
    refine ⟨fun m h3 => m = (lng (2 ^ B) B s (k + 1) : Nat) ∧ Ext h h3, ⟨q, 0, rfl, by omega, by omega, _, _, _, _, t1.e0 (by omega) (by omega), t1.e1 (by omega) (by omega), t1.e2 (by omega) (by omega), t1.e3 (by omega) (by omega), fun h4 x4 => (empty_c _ _ _ _ _).mono ?_⟩, ?_⟩
    · rintro _ h5 ⟨rfl, x5⟩
      have t5 := t1.ext (x4.trans x5)
      have xx := x1.trans (x4.trans x5)
      simp only [Int.toNat_natCast]
      refine ⟨x5, _, rfl, fun e => ?_, fun e => ?_⟩
      · have ho : occd s k := by unfold occd; simpa using e
        refine ⟨_, dist_c t5 hkl (t.g.wf k hkl), ?_, xx⟩
        simp only [lng]
        split
        · rename_i g; rw [if_pos ⟨ho, by omega⟩]
        · rename_i g; rw [if_neg fun q => g (by omega)]
      · have ho : ¬ occd s k := by unfold occd; simpa using e
        refine ⟨?_, xx⟩
        simp only [lng]
        rw [if_neg fun q => ho q.1]
    · rintro _ h2 ⟨rfl, x2⟩
      rw [wadd k (by omega)]
      exact ⟨⟨k + 1, rfl, rfl, hkl, x2⟩, by simp only [Int.toNat_natCast]; omega⟩
  · have hkl : k = 2 ^ B := by have := ge_of_dec hge; omega
    exact ⟨by rw [hkl], x1⟩

theorem longest_r {N x c : Nat} {a : Option Addr} (t : RT N h x a c B m L) (g : RGood (2 ^ B) B s) (r : Rel B s L) : HC Try.prog 27 #[ptr x 0] h fun v h' => v = .int .i64 (lng (2 ^ B) B s (2 ^ B)) ∧ Ext h h' := by
  have hB : B ≤ 16 := Nat.le_trans t.bm t.m16
  have hle := pow_le hB
  have h4 := pow4 t.b2
  refine f27_sh _ _ _ _ ((layout_r t).mono ?_)
  rintro _ h1 ⟨x1, b, s', rfl, lo, at1, g', r'⟩
  have hl : L.length < 2 ^ B := by have := t.len; omega
  have heq := lay_inj (r.uniq (by omega) r' g g' hl)
  refine ⟨_, _, _, rfl, fun far i => ∃ k : Nat, i = k ∧ far = (lng (2 ^ B) B s' k : Nat) ∧ k ≤ 2 ^ B, fun _ i => 2 ^ B - i.toNat, ⟨0, rfl, rfl, Nat.zero_le _⟩, ?_⟩
  rintro _ _ ⟨k, rfl, rfl, hk⟩
  refine ⟨fun hlt => ?_, fun hge => ?_⟩
  · have hkl : k < 2 ^ B := lt_of_dec hlt
    have hwk := g'.wf k hkl
    have hml := hm_lt (N := 2 ^ B) rfl (by omega) hwk.1
    have e1 := at1.e1 (i := (k : Int)) (by omega) (by omega)
    refine ⟨(lng (2 ^ B) B s' (k + 1) : Nat), ⟨b, 0, rfl, by omega, by omega, _, at1.e0 (by omega) (by omega), _, home_r (t.ext x1) hwk.1, by omega, ?_⟩, ?_⟩
    · simp only [Int.toNat_natCast] at e1 ⊢
      simp only [df_expr hkl hml hle]
      refine ⟨decide (occd s' k ∧ lng (2 ^ B) B s' k < ds (2 ^ B) B k (s' k).h), ⟨_, e1, fun e => ?_, fun e => ?_⟩, fun e => ?_, fun e => ?_⟩
      · have ho : occd s' k := by unfold occd; intro q; simp [q] at e
        unfold ds
        rw [decide_eq_decide]
        constructor
        · intro q; omega
        · intro q; exact ⟨ho, by omega⟩
      · have ho : ¬ occd s' k := by unfold occd; intro q; have := bne_eq_false_iff_eq.1 e; omega
        exact decide_eq_false fun q => ho q.1
      · simp only [lng]; rw [if_pos (of_decide_eq_true e)]; rfl
      · simp only [lng]; rw [if_neg (of_decide_eq_false e)]
    · rw [wadd k (by omega)]
      exact ⟨⟨k + 1, rfl, rfl, hkl⟩, by simp only [Int.toNat_natCast]; omega⟩
  · have hkl : k = 2 ^ B := by have := ge_of_dec hge; omega
    refine ⟨?_, x1⟩
    rw [hkl, ← lng_congr (2 ^ B) heq]

theorem fork_c (t : TabOK h p q B m s) : HC Try.prog 24 #[ptr p 0] h fun v h' => Ext h h' ∧ ∃ p' q', v = ptr p' 0 ∧ h.size ≤ p' ∧ h.size ≤ q' ∧ TabOK h' p' q' B m s := by
  obtain ⟨cap, cs, ta⟩ := t.at_
  have h4 := pow4 ta.b2
  have hpl := ta.lt.1
  refine f24_sh _ _ _ _ ⟨true, made_c ta, fun h => by simp at h, fun _ => ⟨_, _, _, _, _, _, ta.c0, ta.c1, ta.c2, ta.c3, fun out h1 eo eh => ?_⟩⟩
  have x1 : Ext h h1 := by rw [eh]; exact Ext.push _ _
  have r1 : h1[out]? = some (.cells #[.slice none 0 0, .int .i64 0, .int .i64 0, .int .i64 0] 60 (0, 0)) := by rw [eh]; exact push_new eo
  refine ⟨HWs_row r1 (by simp), ?_⟩
  rintro h2 rfl
  have r2 : (hsets h1 out 0 [.slice (some ⟨q, 0, none⟩) (2 ^ B) cap, .int .i64 B, .int .i64 m, .int .i64 (cntO s (2 ^ B))])[out]? = some (.cells #[.slice (some ⟨q, 0, none⟩) (2 ^ B) cap, .int .i64 B, .int .i64 m, .int .i64 (cntO s (2 ^ B))] 60 (0, 0)) := by
    rw [hsets_row _ r1]; rfl
  have x2 := ext_hsets (vs := [.slice (some ⟨q, 0, none⟩) (2 ^ B) cap, .int .i64 B, .int .i64 m, .int .i64 (cntO s (2 ^ B))]) (o := 0) rfl x1 (by omega : h.size ≤ out)
  generalize hsets h1 out 0 [.slice (some ⟨q, 0, none⟩) (2 ^ B) cap, .int .i64 B, .int .i64 m, .int .i64 (cntO s (2 ^ B))] = h2 at *
  have t2 := ta.ext x2
  refine ⟨_, _, _, t2.c0, (clone_c t2.entsAt (by omega) t2.le).mono ?_⟩
  rintro _ h3 ⟨x3, b, cap', rfl, lo, hc, ⟨c3, r3, l3, e3⟩⟩
  refine ⟨_, _, _, rfl, HW_row (x3.row r2) (by simp), ?_⟩
  rintro h4 rfl
  have hol := row_lt r2
  have hs2 := x2.size
  refine ⟨ext_hset rfl (x2.trans x3) (by omega), out, b, rfl, by omega, by omega, ⟨cap', c3, ?_⟩, t.g, t.room⟩
  exact ⟨by rw [hset_row (x3.row r2)]; rfl, by rw [hset_ne (by omega)]; exact r3, l3, hc, e3, ta.b2, ta.bm, ta.m16⟩

/-- What a yield may write to: not what the iterator sorted. -/
def Yw (h h3 : Heap) (b : Nat) : Prop := b < h.size ∨ h3.size ≤ b
set_option maxHeartbeats 4000000 in
theorem all_it {cb : Nat} {y : Value} {R : Value → Heap → Prop} (t : TabOK h p q B m s) (r : Rel B s L) (hc : hcell h cb 0 = some (ptr p 0)) (hl : L.length ≤ 65536)
    (hs : ∀ h3, Ext h h3 → ∃ J : Nat → Heap → Prop, J 0 h3 ∧
      (∀ k (hk : k < L.length) h4, Fr (Yw h h3) h3 h4 → J k h4 → ∀ h6, Ext h4 h6 → HCV Try.prog y [.agg #[.int .u64 L[k].h, .int .u64 L[k].a, .int .u64 L[k].v, .int .u8 L[k].k]] h6 fun vv h7 => Fr (Yw h h3) h6 h7 ∧
        ∃ b : Bool, vv = .bool b ∧ (b = false → R (.tuple #[]) h7) ∧ (b = true → J (k + 1) h7)) ∧
      (∀ h4, Fr (Yw h h3) h3 h4 → J L.length h4 → R (.tuple #[]) h4)) :
    HC Try.prog 41 #[y, ptr cb 0] h R := by
  have hle := t.le
  refine f41_sh _ _ _ _ _ ⟨_, hc, (layout_n t).mono ?_⟩
  rintro _ h1 ⟨a1, c1, rfl, x1, s1, w1⟩
  refine ⟨_, _, _, rfl, (delf_c s1 w1 (by rw [lay_len]; omega)).mono ?_⟩
  rintro _ h2 ⟨f2, a2, c2, rfl, s2, w2, b2⟩
  have ho : (lay (2 ^ B) s).filter isE = oc (2 ^ B) s := rfl
  rw [ho] at s2 ⊢
  have hlen : (oc (2 ^ B) s).length = L.length := (r.perm t.g).length_eq
  refine ⟨_, _, _, rfl, (sort_c s2 w2 (by omega)).mono ?_⟩
  rintro _ h3 ⟨rfl, f3, L', hp, hsrt, s3, w3⟩
  have e := r.sorted t.g hp hsrt
  subst e
  have x2 := w1.grown x1 f2
  have x3 := w2.grown x2 f3
  obtain ⟨J, j0, jstep, jend⟩ := hs h3 x3
  have hout : ∀ b, blkA a2 b → ¬ Yw h h3 b := fun b hb g => by
    have := w3.low hb
    rcases g with g | g <;> omega
  rw [hlen]
  refine ⟨rfl, fun v h4 => ∃ k : Nat, v = k ∧ k ≤ L'.length ∧ Fr (Yw h h3) h3 h4 ∧ J k h4, fun v _ => L'.length - v.toNat, ⟨0, rfl, Nat.zero_le _, Fr.refl _ _, j0⟩, ?_⟩
  rintro _ h4 ⟨k, rfl, hk, f4, j4⟩
  refine ⟨fun hlt => ?_, fun hge => ?_⟩
  · have hkl := lt_of_dec hlt
    obtain ⟨b, o, ea, d⟩ := (s3.fr f4 hout).at (List.getElem?_eq_getElem hkl)
    refine ⟨b, o, ea, by omega, by omega, _, _, _, _, d.1, d.2.1, d.2.2.1, d.2.2.2.1, fun h6 x6 => ?_⟩
    refine HCV.mono (jstep k hkl h4 f4 j4 h6 x6) ?_
    rintro _ h7 ⟨f7, b', rfl, k1, k2⟩
    refine ⟨b', rfl, fun q => k1 (by simpa using q), fun q => ?_⟩
    rw [wadd k (by omega)]
    refine ⟨⟨k + 1, rfl, hkl, (f4.trans (x6.fr (Yw h h3)) fun _ _ g => g).trans f7 fun _ _ g => g, k2 (by simpa using q)⟩, by simp only [Int.toNat_natCast]; omega⟩
  · have hkl : k = L'.length := by have := ge_of_dec hge; omega
    subst hkl
    exact jend h4 f4 j4
end
end Go.Proofs.Ytebipjmcckkhcaa
