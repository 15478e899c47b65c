/-
The table's Longest, Fork and All.
-/
import Derived.Test.YtkecmljalcfhoaaTC
import Derived.Test.YtkecmljalcfhoaaTab5
namespace Go.Proofs.Ytkecmljalcfhoaa
open Go RH

theorem lay_inj {N : Nat} {s s' : RH.Sl} (h : lay N s = lay N s') : ∀ i, i < N → s i = s' i := fun i hi => by
  have := lay_get N s hi
  rw [h, lay_get N s' hi] at this
  exact (Option.some.inj this).symm

section
variable {h : Heap} {p q B m : Nat} {s : RH.Sl} {L : List Ent}

theorem clone_n {n c : Nat} (x : EntsAt h q n s) (hc : n ≤ c) (hn : n ≤ 65536) : HC Try.prog 65 #[.slice (some ⟨q, 0, none⟩) n c] h fun v h' => New eEnt 31 h h' v (lay n s) := by
  refine f65_sh _ _ _ _ _ ⟨fun h => by simp at h, fun _ nb h1 eb eh => ?_⟩
  obtain ⟨s0, w0, x0⟩ := ent_lit eb eh
  refine app_own (n := 0) aEnt x0 s0 w0 rfl ((x.ext x0).sl hc) (lay_len _ _).symm (by omega) ?_
  intro a1 c1 h2 x2 _ s2 w2 _
  refine ⟨_, _, _, rfl, a1, c1, ?_, x2, s2.cast (by simp), w2⟩
  rw [lay_len, Nat.zero_add]
theorem layout_n (t : TabOK h p q B m s) : HC Try.prog 57 #[ptr p 0] h fun v h' => New eEnt 31 h h' v (lay (2 ^ B) s) := by
  obtain ⟨cap, cs, ta⟩ := t.at_
  refine f57_sh _ _ _ _ ⟨true, made_c ta, fun h => by simp at h, fun _ => ⟨_, _, _, ta.c0, (clone_n ta.entsAt ta.cap ta.le).mono ?_⟩⟩
  rintro _ h1 ⟨a, c, rfl, x⟩
  exact ⟨_, _, _, rfl, a, c, rfl, x⟩

theorem fork_c (t : TabOK h p q B m s) : HC Try.prog 47 #[ptr p 0] h fun v h' => Ext h h' ∧ ∃ p' q', v = ptr p' 0 ∧ h.size ≤ p' ∧ h.size ≤ q' ∧ TabOK h' p' q' B m s := by
  obtain ⟨cap, cs, ta⟩ := t.at_
  have h4 := pow4 ta.b2
  have hpl := ta.lt.1
  refine f47_sh _ _ _ _ ⟨true, made_c ta, fun h => by simp at h, fun _ => ⟨_, _, _, _, _, _, ta.c0, ta.c1, ta.c2, ta.c3, fun out h1 eo eh => ?_⟩⟩
  have x1 : Ext h h1 := by rw [eh]; exact Ext.push _ _
  have r1 : h1[out]? = some (.cells #[.slice none 0 0, .int .i64 0, .int .i64 0, .int .i64 0] 87 (0, 0)) := by rw [eh]; exact push_new eo
  refine ⟨HWs_row r1 (by simp), ?_⟩
  rintro h2 rfl
  have r2 : (hsets h1 out 0 [.slice (some ⟨q, 0, none⟩) (2 ^ B) cap, .int .i64 B, .int .i64 m, .int .i64 (cntO s (2 ^ B))])[out]? = some (.cells #[.slice (some ⟨q, 0, none⟩) (2 ^ B) cap, .int .i64 B, .int .i64 m, .int .i64 (cntO s (2 ^ B))] 87 (0, 0)) := by
    rw [hsets_row _ r1]; rfl
  have x2 := ext_hsets (vs := [.slice (some ⟨q, 0, none⟩) (2 ^ B) cap, .int .i64 B, .int .i64 m, .int .i64 (cntO s (2 ^ B))]) (o := 0) rfl x1 (by omega : h.size ≤ out)
  generalize hsets h1 out 0 [.slice (some ⟨q, 0, none⟩) (2 ^ B) cap, .int .i64 B, .int .i64 m, .int .i64 (cntO s (2 ^ B))] = h2 at *
  have t2 := ta.ext x2
  refine ⟨_, _, _, t2.c0, (clone_c t2.entsAt (by omega) t2.le).mono ?_⟩
  rintro _ h3 ⟨x3, b, cap', rfl, lo, hc, ⟨c3, r3, l3, e3⟩⟩
  refine ⟨_, _, _, rfl, HW_row (x3.row r2) (by simp), ?_⟩
  rintro h4 rfl
  have hol := row_lt r2
  have hs2 := x2.size
  refine ⟨ext_hset rfl (x2.trans x3) (by omega), out, b, rfl, by omega, by omega, ⟨cap', c3, ?_⟩, t.g, t.room⟩
  exact ⟨by rw [hset_row (x3.row r2)]; rfl, by rw [hset_ne (by omega)]; exact r3, l3, hc, e3, ta.b2, ta.bm, ta.m16⟩

/-- What a yield may write to: not what the iterator sorted. -/
def Yw (h h3 : Heap) (b : Nat) : Prop := b < h.size ∨ h3.size ≤ b
set_option maxHeartbeats 4000000 in
theorem all_it {cb : Nat} {y : Value} {R : Value → Heap → Prop} (t : TabOK h p q B m s) (r : Rel B s L) (hc : hcell h cb 0 = some (ptr p 0)) (hl : L.length ≤ 65536)
    (hs : ∀ h3, Ext h h3 → ∃ J : Nat → Heap → Prop, J 0 h3 ∧
      (∀ k (hk : k < L.length) h4, Fr (Yw h h3) h3 h4 → J k h4 → ∀ h6, Ext h4 h6 → HCV Try.prog y [.agg #[.int .u64 L[k].h, .int .u64 L[k].a, .int .u64 L[k].v, .int .u8 L[k].k]] h6 fun vv h7 => Fr (Yw h h3) h6 h7 ∧
        ∃ b : Bool, vv = .bool b ∧ (b = false → R (.tuple #[]) h7) ∧ (b = true → J (k + 1) h7)) ∧
      (∀ h4, Fr (Yw h h3) h3 h4 → J L.length h4 → R (.tuple #[]) h4)) :
    HC Try.prog 55 #[y, ptr cb 0] h R := by
  have hle := t.le
  refine f55_sh _ _ _ _ _ ⟨_, hc, (layout_n t).mono ?_⟩
  rintro _ h1 ⟨a1, c1, rfl, x1, s1, w1⟩
  refine ⟨_, _, _, rfl, (delf_c s1 w1 (by rw [lay_len]; omega)).mono ?_⟩
  rintro _ h2 ⟨f2, a2, c2, rfl, s2, w2, b2⟩
  have ho : (lay (2 ^ B) s).filter isE = oc (2 ^ B) s := rfl
  rw [ho] at s2 ⊢
  have hlen : (oc (2 ^ B) s).length = L.length := (r.perm t.g).length_eq
  refine ⟨_, _, _, rfl, (sort_c s2 w2 (by omega)).mono ?_⟩
  rintro _ h3 ⟨rfl, f3, L', hp, hsrt, s3, w3⟩
  have e := r.sorted t.g hp hsrt
  subst e
  have x2 := w1.grown x1 f2
  have x3 := w2.grown x2 f3
  obtain ⟨J, j0, jstep, jend⟩ := hs h3 x3
  have hout : ∀ b, blkA a2 b → ¬ Yw h h3 b := fun b hb g => by
    have := w3.low hb
    rcases g with g | g <;> omega
  rw [hlen]
  refine ⟨rfl, fun v h4 => ∃ k : Nat, v = k ∧ k ≤ L'.length ∧ Fr (Yw h h3) h3 h4 ∧ J k h4, fun v _ => L'.length - v.toNat, ⟨0, rfl, Nat.zero_le _, Fr.refl _ _, j0⟩, ?_⟩
  rintro _ h4 ⟨k, rfl, hk, f4, j4⟩
  refine ⟨fun hlt => ?_, fun hge => ?_⟩
  · have hkl := lt_of_dec hlt
    obtain ⟨b, o, ea, d⟩ := (s3.fr f4 hout).at (List.getElem?_eq_getElem hkl)
    refine ⟨b, o, ea, by omega, by omega, _, _, _, _, d.1, d.2.1, d.2.2.1, d.2.2.2.1, fun h6 x6 => ?_⟩
    refine HCV.mono (jstep k hkl h4 f4 j4 h6 x6) ?_
    rintro _ h7 ⟨f7, b', rfl, k1, k2⟩
    refine ⟨b', rfl, fun q => k1 (by simpa using q), fun q => ?_⟩
    rw [wadd k (by omega)]
    refine ⟨⟨k + 1, rfl, hkl, (f4.trans (x6.fr (Yw h h3)) fun _ _ g => g).trans f7 fun _ _ g => g, k2 (by simpa using q)⟩, by simp only [Int.toNat_natCast]; omega⟩
  · have hkl : k = L'.length := by have := ge_of_dec hge; omega
    subst hkl
    exact jend h4 f4 j4
end
end Go.Proofs.Ytkecmljalcfhoaa
