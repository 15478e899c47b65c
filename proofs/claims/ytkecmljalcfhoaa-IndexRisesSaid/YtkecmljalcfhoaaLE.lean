/-
The law IndexRises, over heaps.
-/
import Derived.Test.YtkecmljalcfhoaaLD
import Derived.Test.YtkecmljalcfhoaaShL
import Derived.Test.YtkecmljalcfhoaaLO
namespace Go.Proofs.Ytkecmljalcfhoaa
namespace Ix
open Go RH

theorem Has.mono {W W' : Nat → Prop} {h : Heap} {x m : Nat} {Ls : List (List Ent)} (a : Has W h x m Ls) (hw : ∀ b, W b → W' b) (hl : ∀ b, W' b → b < h.size) : Has W' h x m Ls := by
  obtain ⟨Ts, I, e⟩ := a
  exact ⟨Ts, I.mono hw hl, e⟩
theorem Has.srt {W : Nat → Prop} {h : Heap} {x m : Nat} {Ls : List (List Ent)} (a : Has W h x m Ls) (v : Nat) : Srt (str Ls v) := by
  obtain ⟨Ts, I, rfl⟩ := a
  obtain ⟨t, ht, _⟩ := I.get v
  rw [str_eq ht]
  exact (I.ok t (List.mem_of_getElem? ht)).2.srt
/-- A call behind which only blocks of the caller's own are written. -/
theorem Aft.wrap {W : Nat → Prop} {h h1 h2 h3 : Heap} {x m : Nat} {Ls : List (List Ent)} (lw : ∀ b, W b → b < h.size) (e1 : Ext h h1) (a : Aft W h1 x m Ls h2) {S : Nat → Prop} (f : Fr S h2 h3) (hS : ∀ b, S b → h.size ≤ b ∧ b < h1.size) : Aft W h x m Ls h3 := by
  have s1 := e1.size
  have s2 := a.1.size
  have s3 := f.size
  refine ⟨((e1.fr _).trans a.1 fun _ _ g => g).trans f fun b hb g => by have := (hS b g).1; omega, (a.2.fr f fun b g q => ?_).mono (fun b g => ?_) (fun b g => ?_)⟩
  · have := hS b q
    rcases g with g | g
    · have := lw b g; omega
    · omega
  · rcases g with g | g
    · exact .inl g
    · exact .inr ⟨by omega, by omega⟩
  · rcases g with g | g
    · have := lw b g; omega
    · exact g.2
theorem str_set {Ls : List (List Ent)} {v : Nat} {L' : List Ent} (hl : 1 ≤ Ls.length) : str (Ls.set (v % Ls.length) L') v = L' := by
  have hm := Nat.mod_lt v (show 0 < Ls.length by omega)
  unfold str
  rw [List.length_set, List.getD_eq_getElem?_getD, List.getElem?_set_self hm]; rfl
theorem look_put {L : List Ent} (hL : Srt L) (e : Ent) : look (putS L e) e.h = some e := (look_some (putS_srt hL e)).2 ⟨putS_mem.2 (.inr rfl), rfl⟩

/-- The version of a hash's entry does not fall. -/
def Rises (Ls Ls' : List (List Ent)) (v : Nat) : Prop := ∀ y, look (str Ls v) v = some y → ∃ y', look (str Ls' v) v = some y' ∧ y.v ≤ y'.v
theorem rises_refl {Ls : List (List Ent)} {v : Nat} : Rises Ls Ls v := fun y hy => ⟨y, hy, Nat.le_refl _⟩
theorem rises_put {Ls : List (List Ent)} (hl : 1 ≤ Ls.length) {m : Nat} {e : Ent} (hs : Srt (str Ls e.h)) : Rises Ls (Ls.set (e.h % Ls.length) (mPut m (str Ls e.h) e).2) e.h := by
  intro y hy
  rw [str_set hl]
  unfold mPut
  split
  · exact ⟨y, hy, Nat.le_refl _⟩
  · rw [hy]
    simp only
    split
    · exact ⟨y, hy, Nat.le_refl _⟩
    · exact ⟨e, look_put hs e, by omega⟩
theorem rises_move {Ls : List (List Ent)} (hl : 1 ≤ Ls.length) {v fr to : Nat} (hs : Srt (str Ls v)) : Rises Ls (Ls.set (v % Ls.length) (mMove (str Ls v) v fr to).2) v := by
  intro y hy
  rw [str_set hl]
  unfold mMove
  rw [hy]
  simp only
  have hh := ((look_some hs).1 hy).2
  split
  · exact ⟨⟨y.h, to, y.v, y.k⟩, by have := look_put hs ⟨y.h, to, y.v, y.k⟩; simp only at this; rw [hh] at this ⊢; exact this, Nat.le_refl _⟩
  · exact ⟨y, hy, Nat.le_refl _⟩
theorem rises_hit {Ls : List (List Ent)} (hl : 1 ≤ Ls.length) {v : Nat} (hs : Srt (str Ls v)) : Rises Ls (Ls.set (v % Ls.length) (mHit (str Ls v) v).2) v := by
  intro y hy
  rw [str_set hl]
  unfold mHit
  rw [hy]
  simp only
  have hh := ((look_some hs).1 hy).2
  refine ⟨up y, ?_, Nat.le_refl _⟩
  have := look_put hs (up y)
  have e : (up y).h = v := hh
  rw [e] at this; exact this

def Told (v : Value) : Prop := ∃ (a1 a2 a3 a4 b1 b2 b3 b4 : Int) (i1 i2 : Bool) (e f n : Int), v = .agg #[.int .u64 a1, .int .u64 a2, .int .u64 a3, .int .u8 a4, .int .u64 b1, .int .u64 b2, .int .u64 b3, .int .u8 b4, .bool i1, .bool i2, .int .i64 e, .int .i64 f, .int .i64 n]

theorem aft_ext {W : Nat → Prop} {h h' : Heap} {x m : Nat} {Ls : List (List Ent)} (a : Has W h x m Ls) (e : Ext h h') : Aft W h x m Ls h' := by
  obtain ⟨Ts, I, rfl⟩ := a
  exact Aft.ofExt I e

set_option maxHeartbeats 16000000 in
theorem one_c {W : Nat → Prop} {h : Heap} {x m : Nat} {Ls : List (List Ent)} (hx : Has W h x m Ls) (k : Int) {e : Ent} (hw : e.wf) {at_ : Nat} (n q : Int) (hq : q ≤ 9223372036854775807) :
    HC Try.prog 12 #[ptr x 0, .agg #[.int .i64 k, .int .u64 e.h, .int .u64 e.a, .int .u64 e.v, .int .u8 e.k, .int .u64 at_, .int .i64 n, .int .i64 q]] h fun v h' => Told v ∧ ∃ Ls', Aft W h x m Ls' h' ∧ (k ≠ 2 → k ≠ 3 → k ≠ 6 → Rises Ls Ls' e.h) := by
  have lw := hx.lt
  have hl := (hx.lens).1
  have hs := hx.srt e.h
  have nw : ∀ {o}, h.size ≤ o → ¬ W o := fun lo g => by have := lw _ g; omega
  refine f12_sh _ _ _ _ _ _ _ _ _ _ _ _ ⟨fun _ _ _ _ _ _ _ pb t h4 => ∃ h3 h5 Ls', Ext h h3 ∧ Aft W h3 x m Ls' h5 ∧ Fr (fun b => b = t) h5 h4 ∧ (h.size ≤ pb ∧ pb < h3.size) ∧ (h.size ≤ t ∧ t < h3.size) ∧ (k ≠ 2 → k ≠ 3 → k ≠ 6 → Rises Ls Ls' e.h),
    ⟨fun g => ?_, fun _ => ⟨fun g => ?_, fun _ => ⟨fun g => ?_, fun _ => ⟨fun g => ?_, fun _ => ⟨fun g => ?_, fun _ => ⟨fun g => ?_, fun _ => ?_⟩⟩⟩⟩⟩⟩, ?_⟩
  · intro o pb t h3 lo1 lt1 lo2 lt2 lo3 lt3 x3
    refine (put_l (hx.ext x3) hw).mono ?_
    rintro _ h5 ⟨rfl, a5⟩
    exact ⟨a5.1.kp (by simpa using ⟨nw lo1, nw lo2, nw lo3⟩), _, _, _, _, _, _, rfl, fun h6 f6 h7 f7 h8 f8 => ⟨h3, h5, _, x3, a5, (f6.trans f7 fun _ _ q => q).trans f8 fun _ _ q => q, ⟨lo2, lt2⟩, ⟨lo3, lt3⟩, fun _ _ _ => rises_put hl hs⟩⟩
  · intro o pb t h3 lo1 lt1 lo2 lt2 lo3 lt3 x3
    refine (remove_l (hx.ext x3) hw.1).mono ?_
    rintro _ h5 ⟨rfl, a5⟩
    exact ⟨a5.1.kp (by simpa using ⟨nw lo1, nw lo2, nw lo3⟩), _, _, _, _, _, rfl, fun h6 f6 h7 f7 => ⟨h3, h5, _, x3, a5, f6.trans f7 fun _ _ q => q, ⟨lo2, lt2⟩, ⟨lo3, lt3⟩, fun q => absurd (eq_of_beq g) q⟩⟩
  · intro o pb t h3 lo1 lt1 lo2 lt2 lo3 lt3 x3
    refine (removeIf_l (hx.ext x3) hw.1).mono ?_
    rintro _ h5 ⟨rfl, a5⟩
    exact ⟨a5.1.kp (by simpa using ⟨nw lo1, nw lo2, nw lo3⟩), _, rfl, fun h6 f6 => ⟨h3, h5, _, x3, a5, f6, ⟨lo2, lt2⟩, ⟨lo3, lt3⟩, fun _ q => absurd (eq_of_beq g) q⟩⟩
  · intro o pb t h3 lo1 lt1 lo2 lt2 lo3 lt3 x3
    refine (move_l (hx.ext x3) hw.1 hw.2.1).mono ?_
    rintro _ h5 ⟨rfl, a5⟩
    exact ⟨a5.1.kp (by simpa using ⟨nw lo1, nw lo2, nw lo3⟩), _, rfl, fun h6 f6 => ⟨h3, h5, _, x3, a5, f6, ⟨lo2, lt2⟩, ⟨lo3, lt3⟩, fun _ _ _ => rises_move hl hs⟩⟩
  · intro o pb t h3 lo1 lt1 lo2 lt2 lo3 lt3 x3
    refine (hit_l (hx.ext x3) hw.1).mono ?_
    rintro _ h5 ⟨rfl, a5⟩
    exact ⟨a5.1.kp (by simpa using ⟨nw lo1, nw lo2, nw lo3⟩), _, rfl, fun h6 f6 => ⟨h3, h5, _, x3, a5, f6, ⟨lo2, lt2⟩, ⟨lo3, lt3⟩, fun _ _ _ => rises_hit hl hs⟩⟩
  · intro o pb t h3 lo1 lt1 lo2 lt2 lo3 lt3 x3
    refine (purge_l (hx.ext x3) n q hq).mono ?_
    rintro _ h5 ⟨rfl, a5⟩
    exact ⟨a5.1.kp (by simpa using ⟨nw lo1, nw lo2, nw lo3⟩), _, rfl, fun h6 f6 => ⟨h3, h5, _, x3, a5, f6, ⟨lo2, lt2⟩, ⟨lo3, lt3⟩, fun _ _ q => absurd (eq_of_beq g) q⟩⟩
  · intro pb t h3 lo2 lt2 lo3 lt3 x3
    refine (get_l (hx.ext x3) hw.1).mono ?_
    rintro _ h5 ⟨rfl, x5⟩
    exact ⟨x5.kp _, _, _, _, _, _, rfl, fun h6 f6 h7 f7 => ⟨h3, h5, Ls, x3, aft_ext (hx.ext x3) x5, f6.trans f7 fun _ _ q => q, ⟨lo2, lt2⟩, ⟨lo3, lt3⟩, fun _ _ _ => rises_refl⟩⟩
  · rintro c1 c2 c3 c4 c5 c6 c7 pb t h4 ⟨h3, h5, Ls', x3, a5, f4, hp, ht, hr⟩ _ _ _ _ h23 f23
    refine ⟨⟨_, _, _, _, _, _, _, _, _, _, _, _, _, rfl⟩, Ls', Aft.wrap (S := fun b => b = t ∨ b = pb) lw x3 a5 ((f4.mono fun _ _ q => .inl q).trans f23 fun _ _ q => .inr q) fun b q => ?_, hr⟩
    rcases q with rfl | rfl
    · exact ht
    · exact hp

theorem get_o {W : Nat → Prop} {h : Heap} {x m : Nat} {Ls : List (List Ent)} (hx : Has W h x m Ls) {v : Int} (h0 : 0 ≤ v ∧ v < 18446744073709551616) : HC Try.prog 11 #[.pointer (some ⟨x, 0, none⟩), .int .u64 v] h fun z h' => z = v2 (mGet (str Ls v.toNat) v.toNat) ∧ Ext h h' := by
  have := get_l hx (v := v.toNat) (by omega)
  rw [Int.toNat_of_nonneg h0.1] at this
  exact this
theorem one_o {W : Nat → Prop} {h : Heap} {x m : Nat} {Ls : List (List Ent)} (hx : Has W h x m Ls) {o : Op} (ho : okOp o) :
    HC Try.prog 12 #[.pointer (some ⟨x, 0, none⟩), .agg #[.int .i64 o.kind, .int .u64 o.entry.h, .int .u64 o.entry.a, .int .u64 o.entry.v, .int .u8 o.entry.k, .int .u64 o.at_, .int .i64 o.n, .int .i64 o.m]] h fun v h' => Told v ∧ ∃ Ls', Aft W h x m Ls' h' ∧ (o.kind ≠ 2 → o.kind ≠ 3 → o.kind ≠ 6 → Rises Ls Ls' o.entry.h.toNat) := by
  obtain ⟨kind, ⟨eh, ea, ev, ek⟩, at_, n, mm⟩ := o
  obtain ⟨h1, h2, h3, h4, h5, h6⟩ := ho
  simp only at h1 h2 h3 h4 h5 h6
  obtain ⟨eh, rfl⟩ : ∃ k : Nat, eh = k := ⟨eh.toNat, by omega⟩
  obtain ⟨ea, rfl⟩ : ∃ k : Nat, ea = k := ⟨ea.toNat, by omega⟩
  obtain ⟨ev, rfl⟩ : ∃ k : Nat, ev = k := ⟨ev.toNat, by omega⟩
  obtain ⟨ek, rfl⟩ : ∃ k : Nat, ek = k := ⟨ek.toNat, by omega⟩
  obtain ⟨at_, rfl⟩ : ∃ k : Nat, at_ = k := ⟨at_.toNat, by omega⟩
  exact one_c (e := ⟨eh, ea, ev, ek⟩) hx kind ⟨by show eh < _; omega, by show ea < _; omega, by show ev < _; omega, by show ek < _; omega⟩ n mm h6

theorem law_rises {h : Heap} {a : Option Addr} {c : Nat} {L : List Op} {n bits most : Int} (s : Sl eOp h a c L) (hl : L.length ≤ 9223372036854775807) (hok : ∀ o ∈ L, okOp o) :
    HC Try.prog 3 #[.agg #[.int .i64 n, .int .i64 bits, .int .i64 most, .slice a L.length c]] h fun v h' => v = .bool true ∧ Ext h h' := by
  refine f3_sh _ _ _ _ _ _ _ _ fun sv h1 lo1 lt1 x1 => (begin_c n bits most a L.length c h1).mono ?_
  rintro v h2 ⟨x2, hres⟩
  refine ⟨x2.kp _, ?_⟩
  rcases hres with rfl | ⟨x, r, rfl, b2⟩
  · exact ⟨_, _, _, rfl, fun _ => ⟨rfl, x1.trans x2⟩, fun g => by simp at g⟩
  obtain ⟨W, V, hx2, _, _, hw2, _⟩ := b2
  refine ⟨_, _, _, rfl, fun g => by simp at g, fun _ => ⟨fun i h3 => ∃ (k : Nat) (W : Nat → Prop) (Ls : List (List Ent)), i = k ∧ k ≤ L.length ∧ Has W h3 x most.toNat Ls ∧ (∀ b, W b → h1.size ≤ b) ∧ Ext h1 h3, fun i _ => L.length - i.toNat, ⟨0, W, _, rfl, Nat.zero_le _, hx2, hw2, x2⟩, ?_⟩⟩
  rintro _ h3 ⟨k, W, Ls, rfl, hk, hx, hw, x3⟩
  refine ⟨fun hlt => ?_, fun hge => ⟨rfl, x1.trans x3⟩⟩
  have hkl := lt_of_dec hlt
  have ho := hok _ (List.getElem_mem hkl)
  obtain ⟨b, o, e, d⟩ := (s.ext (x1.trans x3)).at (List.getElem?_eq_getElem hkl)
  refine ⟨b, o, e, by omega, by omega, _, _, _, _, _, _, _, _, d.1, d.2.1, d.2.2.1, d.2.2.2.1, d.2.2.2.2.1, d.2.2.2.2.2.1, d.2.2.2.2.2.2.1, d.2.2.2.2.2.2.2.1, fun ob h5 lo5 lt5 x5 => (get_o (hx.ext x5) ho.1).mono ?_⟩
  rintro _ h6 ⟨rfl, x6⟩
  refine ⟨x6.kp _, _, _, _, _, _, rfl, fun wb h8 lo8 lt8 x8 => ?_⟩
  have x38 := x5.trans (x6.trans x8)
  have hx8 := hx.ext x38
  refine (one_o hx8 ho).mono ?_
  rintro _ h9 ⟨⟨_, _, _, _, _, _, _, _, _, _, _, _, _, rfl⟩, Ls', a9, hr⟩
  have lw := hx.lt
  have s5 := x5.size
  have s6 := x6.size
  refine ⟨a9.1.kp (by
    intro b' hb' q
    have := lw b' q
    simp only [List.mem_cons, List.not_mem_nil, or_false] at hb'
    rcases hb' with rfl | rfl <;> omega), _, _, _, _, _, _, _, _, _, _, _, _, _, rfl, (get_o a9.2 ho.1).mono ?_⟩
  rintro _ h10 ⟨rfl, x10⟩
  refine ⟨x10.kp _, _, _, _, _, _, rfl, fun g => ?_, fun _ h12 x12 => ?_⟩
  · exfalso
    simp only [Bool.and_eq_true, bne_iff_ne, ne_eq, Bool.or_eq_true, Bool.not_eq_true', decide_eq_true_eq] at g
    obtain ⟨g1, g2, g3, g4, g5⟩ := g
    have hri := hr g1 g2 g3
    unfold mGet at g4 g5
    cases hy : look (str Ls (L[k]).entry.h.toNat) (L[k]).entry.h.toNat with
    | none => rw [hy] at g4; cases g4
    | some y =>
      obtain ⟨y', hy', hle⟩ := hri y hy
      rw [hy, hy'] at g5
      simp only at g5
      rcases g5 with g5 | g5
      · cases g5
      · omega
  · rw [wadd' k (by omega)]
    obtain ⟨x19, hw9⟩ := a9.ext (x3.trans x38) hw
    exact ⟨⟨k + 1, _, Ls', rfl, hkl, a9.2.ext (x10.trans x12), hw9, x19.trans (x10.trans x12)⟩, by simp only [Int.toNat_natCast]; omega⟩
end Ix
end Go.Proofs.Ytkecmljalcfhoaa
