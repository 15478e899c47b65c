/-
The document's table in memory, and what its methods do.
-/
import Derived.Test.YtebipjmcckkhcaaRHu
import Derived.Test.YtebipjmcckkhcaaTab7
import Derived.Test.YtebipjmcckkhcaaSrt
import Derived.Test.YtebipjmcckkhcaaShP
namespace Go.Proofs.Ytebipjmcckkhcaa
open Go RH

def eEnt : Elt Ent := ⟨4, fun e => [.int .u64 e.h, .int .u64 e.a, .int .u64 e.v, .int .u8 e.k], fun _ => rfl, fun x v hv => by simp at hv; rcases hv with rfl | rfl | rfl | rfl <;> rfl⟩
theorem aEnt : AppT Try.prog 35 31 eEnt.k 32 := ⟨by kernel_rfl, by kernel_rfl, by kernel_rfl, ⟨.agg #[.int .u64 0, .int .u64 0, .int .u64 0, .int .u8 0], [.int .u64 0, .int .u64 0, .int .u64 0, .int .u8 0], by unfold zeroB; kernel_rfl, rfl, rfl⟩, by decide⟩
instance : Inhabited Ent := ⟨z0⟩

/-- One cell of an element is written. -/
theorem Sl.set1 {α : Type} {E : Elt α} {h : Heap} {b o c : Nat} {L : List α} {T : TypeId} {N : Nat} (s : Sl E h (some ⟨b, o, none⟩) c L) (w : Own E.k T N h (some ⟨b, o, none⟩) c) {i r : Nat} {x x' : α} {v : Value} (hx : L[i]? = some x) (hr : r < E.k) (he : E.enc x' = (E.enc x).set r v) :
    Sl E (hset h b (o + i * E.k + r) v) (some ⟨b, o, none⟩) c (L.set i x') := by
  obtain ⟨cs, hrow, hcs, _⟩ := w.row
  have hi := (List.getElem?_eq_some_iff.1 hx).1
  have hle := s.le
  have f1 : (i + 1) * E.k ≤ c * E.k := Nat.mul_le_mul_right _ (by omega)
  rw [Nat.add_mul] at f1
  have hat : hcell (hset h b (o + i * E.k + r) v) b (o + i * E.k + r) = some v := by
    have hb : o + i * E.k + r < cs.size := by omega
    rw [hcell_row (hset_row hrow), Array.getElem?_setIfInBounds]; simp [hb]
  refine ⟨by simpa using s.le, .inr ⟨b, o, rfl, fun j y hy => ?_⟩⟩
  rw [List.getElem?_set] at hy
  split at hy
  · rename_i hij
    subst hij
    cases hy
    obtain ⟨b', o', e, hc⟩ := s.at hx
    cases e
    refine HCells.mk fun q u hu => ?_
    rw [he, List.getElem?_set] at hu
    split at hu
    · rename_i hq
      subst hq
      rw [if_pos (by rw [E.len]; exact hr)] at hu
      cases hu; exact hat
    · rename_i hq
      rw [hcell_hset_ne (by omega)]
      exact hc.get hu
  · rename_i hij
    obtain ⟨b', o', e, hc⟩ := s.at hy
    cases e
    refine HCells.mk fun q u hu => ?_
    have hq := (List.getElem?_eq_some_iff.1 hu).1
    rw [E.len] at hq
    rw [hcell_hset_ne ?_]
    · exact hc.get hu
    · rcases Nat.lt_or_gt_of_ne hij with g | g
      · have : (i + 1) * E.k ≤ j * E.k := Nat.mul_le_mul_right _ g
        rw [Nat.add_mul] at this; omega
      · have : (j + 1) * E.k ≤ i * E.k := Nat.mul_le_mul_right _ g
        rw [Nat.add_mul] at this; omega

structure RT (N : Nat) (h : Heap) (x : Nat) (a : Option Addr) (c B m : Nat) (L : List Ent) : Prop where
  row : h[x]? = some (.cells #[.int .i64 B, .int .i64 m, .slice a L.length c] 55 (0, 0))
  sl : Sl eEnt h a c L
  own : Own eEnt.k 31 N h a c
  lo : N ≤ x
  ne : ¬ blkA a x
  srt : Srt L
  wf : ∀ e ∈ L, e.wf ∧ e.a ≠ 0
  b2 : 2 ≤ B
  bm : B ≤ m
  m16 : m ≤ 16
  len : 8 * L.length ≤ 7 * 2 ^ B
/-- Its blocks. -/
def RS (x : Nat) (a : Option Addr) (b : Nat) : Prop := b = x ∨ blkA a b

section
variable {N : Nat} {h : Heap} {x : Nat} {a : Option Addr} {c B m : Nat} {L : List Ent}

theorem RT.fr (t : RT N h x a c B m L) {h' : Heap} {S : Nat → Prop} (f : Fr S h h') (hn : ∀ b, RS x a b → ¬ S b) : RT N h' x a c B m L :=
  ⟨f.row t.row (hn x (.inl rfl)), t.sl.fr f fun b hb => hn b (.inr hb), t.own.fr f fun b hb => hn b (.inr hb), t.lo, t.ne, t.srt, t.wf, t.b2, t.bm, t.m16, t.len⟩
theorem RT.ext (t : RT N h x a c B m L) {h' : Heap} (f : Ext h h') : RT N h' x a c B m L := t.fr (f.fr (fun _ => False)) fun _ _ h => h
theorem RT.lt (t : RT N h x a c B m L) {b : Nat} (hb : RS x a b) : N ≤ b ∧ b < h.size := by
  rcases hb with rfl | hb
  · exact ⟨t.lo, row_lt t.row⟩
  · exact t.own.low hb
theorem RT.c0 (t : RT N h x a c B m L) : hcell h x 0 = some (.int .i64 B) := by rw [hcell_row t.row]; rfl
theorem RT.c1 (t : RT N h x a c B m L) : hcell h x 1 = some (.int .i64 m) := by rw [hcell_row t.row]; rfl
theorem RT.c2 (t : RT N h x a c B m L) : hcell h x 2 = some (.slice a L.length c) := by rw [hcell_row t.row]; rfl
theorem RT.small (t : RT N h x a c B m L) : 2 ^ B ≤ 65536 ∧ L.length < 65536 := by
  have h1 := pow_le (Nat.le_trans t.bm t.m16)
  have := t.len
  omega

theorem pos_ex : ∀ {L : List Ent}, Srt L → ∀ v : Nat, ∃ i is, Pos L v i is
  | [], _, v => ⟨0, false, by simp, by simp, by simp, by simp, by simp⟩
  | e :: L, hL, v => by
    have l1 := List.pairwise_cons.1 hL
    rcases Nat.lt_trichotomy e.h v with g | g | g
    · obtain ⟨i, is, p⟩ := pos_ex l1.2 v
      refine ⟨i + 1, is, by simpa using p.le, fun y hy => ?_, fun y hy => p.hi y (by simpa using hy), fun q => by simpa using p.yes q, fun q y hy => ?_⟩
      · rcases List.mem_cons.1 (by simpa using hy) with r | r
        · rw [r]; exact g
        · exact p.lo y r
      · rcases List.mem_cons.1 hy with r | r
        · rw [r]; omega
        · exact p.no q y r
    · refine ⟨0, true, by simp, by simp, fun y hy => ?_, fun _ => ⟨e, by simp, g⟩, fun q => by cases q⟩
      rcases List.mem_cons.1 (by simpa using hy) with r | r
      · rw [r]; omega
      · have := l1.1 y r; omega
    · refine ⟨0, false, by simp, by simp, fun y hy => ?_, (fun q => by cases q), fun _ y hy => ?_⟩
      · rcases List.mem_cons.1 (by simpa using hy) with r | r
        · rw [r]; omega
        · have := l1.1 y r; omega
      · rcases List.mem_cons.1 hy with r | r
        · rw [r]; omega
        · have := l1.1 y r; omega

theorem RT.at (t : RT N h x a c B m L) {j : Nat} (hj : j < L.length) : ∃ b o, a = some ⟨b, o, none⟩ ∧ hcell h b (o + j * 4) = some (.int .u64 L[j].h) ∧ hcell h b (o + j * 4 + 1) = some (.int .u64 L[j].a) ∧ hcell h b (o + j * 4 + 2) = some (.int .u64 L[j].v) ∧ hcell h b (o + j * 4 + 3) = some (.int .u8 L[j].k) := by
  obtain ⟨b, o, e, d⟩ := t.sl.at (List.getElem?_eq_getElem hj)
  exact ⟨b, o, e, d.1, d.2.1, d.2.2.1, d.2.2.2.1⟩

theorem home_r (t : RT N h x a c B m L) {v : Nat} (hv : v < 18446744073709551616) : HC Try.prog 46 #[ptr x 0, .int .u64 v] h fun r h' => r = .int .i64 (hm B v) ∧ h' = h := by
  have h1 := t.b2
  have h2 := t.bm
  have h3 := t.m16
  exact f46_sh _ _ _ _ _ ⟨_, t.c0, by rw [w64 (by omega) (by omega)]; omega, by rw [hm_expr h1 (Nat.le_trans h2 h3) hv], rfl⟩

theorem find_r (t : RT N h x a c B m L) (v : Nat) : ∃ (i : Nat) (is : Bool), HC Try.prog 48 #[ptr x 0, .int .u64 v] h (fun r h' => r = .tuple #[.int .i64 i, .bool is] ∧ h' = h) ∧ Pos L v i is := by
  obtain ⟨i, is, p⟩ := pos_ex t.srt v
  have hsm := t.small
  have hle := p.le
  refine ⟨i, is, f48_sh _ _ _ _ _ ⟨fun k => ∃ n : Nat, k = n ∧ n ≤ i, fun k => L.length - k.toNat, ⟨0, rfl, Nat.zero_le _⟩, ?_⟩, p⟩
  rintro _ ⟨n, rfl, hn⟩
  have hlow : ∀ (hj : n < L.length), n < i → L[n].h < v := fun hj g => p.lo _ (List.mem_take_iff_getElem.2 ⟨n, by omega, rfl⟩)
  have hhigh : ∀ (hj : n < L.length), n = i → v ≤ L[n].h := fun hj g => p.hi _ (List.mem_drop_iff_getElem.2 ⟨0, by omega, by simp [← g]⟩)
  by_cases hj : n < L.length
  · obtain ⟨b, o, e, d0, _⟩ := t.at hj
    refine ⟨decide ((L[n].h : Int) < v), ⟨_, _, _, t.c2, fun _ => ⟨b, o, e, by omega, by omega, _, d0, rfl⟩, fun q => by simp at q; omega⟩, fun q => ?_, fun q => ?_⟩
    · have hlt : L[n].h < v := by have := of_decide_eq_true q; omega
      have hni : n ≠ i := fun g => by have := hhigh hj g; omega
      rw [wadd n (by omega)]
      exact ⟨⟨n + 1, rfl, by omega⟩, by simp only [Int.toNat_natCast]; omega⟩
    · have hge : ¬ L[n].h < v := by have := of_decide_eq_false q; omega
      have hni : n = i := by
        rcases Nat.lt_or_ge n i with g | g
        · exact absurd (hlow hj g) hge
        · omega
      subst hni
      refine ⟨is, ⟨_, _, _, t.c2, fun _ => ⟨b, o, e, by omega, by omega, _, d0, ?_⟩, fun q => by simp at q; omega⟩, rfl, rfl⟩
      cases his : is with
      | true =>
        obtain ⟨y, hy, hyv⟩ := p.yes his
        rw [List.getElem?_eq_getElem hj] at hy
        cases hy
        simp [hyv]
      | false =>
        have := p.no his _ (List.getElem_mem hj)
        exact (beq_eq_false_iff_ne.2 (by omega)).symm
  · have hni : n = i := by omega
    subst hni
    refine ⟨false, ⟨_, _, _, t.c2, fun q => absurd (lt_of_dec q) hj, fun _ => rfl⟩, fun q => (by cases q), fun _ => ?_⟩
    refine ⟨is, ⟨_, _, _, t.c2, fun q => absurd (lt_of_dec q) hj, fun _ => ?_⟩, rfl, rfl⟩
    cases his : is with
    | true =>
      obtain ⟨y, hy, _⟩ := p.yes his
      exact absurd (List.getElem?_eq_some_iff.1 hy).1 hj
    | false => rfl

theorem get_r (t : RT N h x a c B m L) (v : Nat) : HC Try.prog 38 #[ptr x 0, .int .u64 v] h fun r h' => Ext h h' ∧
    ((∃ e, e ∈ L ∧ e.h = v ∧ r = .tuple #[entV e, .bool true]) ∨ ((∀ e ∈ L, e.h ≠ v) ∧ r = .tuple #[ev0, .bool false])) := by
  refine f38_sh _ _ _ _ _ fun pb h1 lo1 lt1 x1 => ?_
  obtain ⟨i, is, hc, p⟩ := find_r (t.ext x1) v
  refine ⟨_, _, hc, fun q => fun h2 f => ?_, fun q => ?_⟩
  · have his : is = false := by simpa using q
    exact ⟨ext_of_fr f x1 lo1, .inr ⟨p.no his, rfl⟩⟩
  · have his : is = true := by simpa using q
    obtain ⟨y, hy, hyv⟩ := p.yes his
    obtain ⟨hi, hy'⟩ := List.getElem?_eq_some_iff.1 hy
    obtain ⟨b, o, e, d0, d1, d2, d3⟩ := (t.ext x1).at hi
    refine ⟨_, _, _, (t.ext x1).c2, b, o, e, by omega, by omega, _, _, _, _, d0, d1, d2, d3, fun h3 f => ⟨ext_of_fr f x1 lo1, .inl ⟨L[i], List.getElem_mem hi, by rw [hy']; exact hyv, rfl⟩⟩⟩

theorem hit_r (t : RT N h x a c B m L) (v : Nat) : HC Try.prog 40 #[ptr x 0, .int .u64 v] h fun r h' => Fr (RS x a) h h' ∧ ∃ L',
    RT N h' x a c B m L' ∧ ((∃ e, e ∈ L ∧ e.h = v ∧ r = .bool true ∧ ∀ y, y ∈ L' ↔ (y ∈ L ∧ y ≠ e) ∨ y = ⟨e.h, e.a, e.v, if e.k < 255 then e.k + 1 else e.k⟩) ∨
      ((∀ e ∈ L, e.h ≠ v) ∧ r = .bool false ∧ L' = L)) := by
  obtain ⟨i, is, hc, p⟩ := find_r t v
  cases his : is with
  | false =>
    subst his
    refine f40_sh _ _ _ _ _ ⟨_, _, hc, fun h' => h' = h, ⟨false, ⟨fun q => (by cases q), fun _ => rfl⟩, fun q => (by cases q), fun _ => rfl⟩, ?_⟩
    rintro _ rfl
    exact ⟨Fr.refl _ _, L, t, .inr ⟨p.no rfl, rfl, rfl⟩⟩
  | true =>
    subst his
    obtain ⟨y, hy, hyv⟩ := p.yes rfl
    obtain ⟨hi, hy'⟩ := List.getElem?_eq_some_iff.1 hy
    obtain ⟨b, o, e, d0, d1, d2, d3⟩ := t.at hi
    rw [hy'] at d0 d1 d2 d3
    have hw := t.wf y (List.mem_of_getElem? hy)
    refine f40_sh _ _ _ _ _ ⟨_, _, hc, fun h' => Fr (RS x a) h h' ∧ ∃ L', RT N h' x a c B m L' ∧ ∀ z, z ∈ L' ↔ (z ∈ L ∧ z ≠ y) ∨ z = ⟨y.h, y.a, y.v, if y.k < 255 then y.k + 1 else y.k⟩,
      ⟨decide ((y.k : Int) < 255), ⟨fun _ => ⟨_, _, _, t.c2, b, o, e, by omega, by omega, _, d3, rfl⟩, fun q => (by cases q)⟩, fun q => ?_, fun q => ?_⟩, ?_⟩
    · have hk : y.k < 255 := by have := of_decide_eq_true q; omega
      subst e
      obtain ⟨cs, hrow, hcs, _⟩ := t.own.row
      have hsl := t.sl.le
      have ek : eEnt.k = 4 := rfl
      rw [ek] at hcs
      refine ⟨_, _, _, t.c2, b, o, rfl, by omega, by omega, _, d3, HW_row hrow (by omega), ?_⟩
      rintro h2 rfl
      rw [wu8 (by omega) (by omega), Int.toNat_natCast]
      have ec : ((y.k : Int) + 1) = ((y.k + 1 : Nat) : Int) := by omega
      rw [ec]
      have hset := set_ok t.srt hy (e := ⟨y.h, y.a, y.v, y.k + 1⟩) rfl
      have hs' := t.sl.set1 t.own hy (r := 3) (x' := ⟨y.h, y.a, y.v, y.k + 1⟩) (v := .int .u8 ((y.k + 1 : Nat) : Int)) (by decide) rfl
      have hne : x ≠ b := fun q => t.ne (by rw [q]; exact blkA_of rfl)
      refine ⟨fr_hset _ fun _ => .inr (blkA_of rfl), L.set i ⟨y.h, y.a, y.v, y.k + 1⟩, ⟨?_, hs', ?_, t.lo, t.ne, hset.1, fun z hz => ?_, t.b2, t.bm, t.m16, by simpa using t.len⟩, fun z => ?_⟩
      · rw [hset_ne hne, List.length_set]; exact t.row
      · exact Own.hsets t.own b (o + i * 4 + 3) [.int .u8 ((y.k + 1 : Nat) : Int)]
      · rcases (hset.2 z).1 hz with g | g
        · exact t.wf z g.1
        · subst g; exact ⟨⟨hw.1.1, hw.1.2.1, hw.1.2.2.1, by show y.k + 1 < 256; omega⟩, hw.2⟩
      · rw [if_pos hk]; exact hset.2 z
    · have hk : ¬ y.k < 255 := by have := of_decide_eq_false q; omega
      refine ⟨Fr.refl _ _, L, t, fun z => ?_⟩
      rw [if_neg hk]
      constructor
      · intro hz
        by_cases g : z = y
        · exact .inr g
        · exact .inl ⟨hz, g⟩
      · rintro (g | g)
        · exact g.1
        · rw [g]; exact List.mem_of_getElem? hy
    · rintro h1 ⟨f, L', t', hm⟩
      exact ⟨f, L', t', .inl ⟨y, List.mem_of_getElem? hy, hyv, rfl, hm⟩⟩
end
end Go.Proofs.Ytebipjmcckkhcaa
