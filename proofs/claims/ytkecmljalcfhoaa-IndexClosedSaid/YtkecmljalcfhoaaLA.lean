/-
The laws of the index: how they begin.
-/
import Derived.Test.YtkecmljalcfhoaaRE
import Derived.Test.YtkecmljalcfhoaaShK
namespace Go.Proofs.Ytkecmljalcfhoaa
namespace Ix
open Go RH

theorem Aft.ext {W : Nat → Prop} {h0 h h' : Heap} {x m : Nat} {Ls : List (List Ent)} (e : Ext h0 h) (hw : ∀ b, W b → h0.size ≤ b) (a : Aft W h x m Ls h') : Ext h0 h' ∧ ∀ b, grown W h h' b → h0.size ≤ b := by
  refine ⟨((e.fr _).trans a.1 fun _ _ g => g).ext fun b hb g => by have := hw b g; omega, fun b g => ?_⟩
  rcases g with g | g
  · exact hw b g
  · have := e.size; omega
theorem Has.lens {W : Nat → Prop} {h : Heap} {x m : Nat} {Ls : List (List Ent)} (a : Has W h x m Ls) : 1 ≤ Ls.length ∧ Ls.length ≤ 64 := by
  obtain ⟨Ts, I, e⟩ := a
  rw [← e, List.length_map]; exact I.len

/-- The index over lists alone. -/
theorem put_l {W : Nat → Prop} {h : Heap} {x m : Nat} {Ls : List (List Ent)} (a : Has W h x m Ls) {e : Ent} (hw : e.wf) : HC Try.prog 29 #[.pointer (some ⟨x, 0, none⟩), .agg #[.int .u64 e.h, .int .u64 e.a, .int .u64 e.v, .int .u8 e.k]] h fun r h' =>
    r = v3 (mPut m (str Ls e.h) e).1 ∧ Aft W h x m (Ls.set (e.h % Ls.length) (mPut m (str Ls e.h) e).2) h' := by
  obtain ⟨Ts, I, rfl⟩ := a
  rw [List.length_map]; exact put_i I hw
theorem Has.ext {W : Nat → Prop} {h h' : Heap} {x m : Nat} {Ls : List (List Ent)} (a : Has W h x m Ls) (e : Ext h h') : Has W h' x m Ls := by
  obtain ⟨Ts, I, q⟩ := a
  exact ⟨Ts, I.ext e, q⟩
theorem Has.fr {W : Nat → Prop} {h h' : Heap} {x m : Nat} {Ls : List (List Ent)} (a : Has W h x m Ls) {S : Nat → Prop} (f : Fr S h h') (hn : ∀ b, W b → ¬ S b) : Has W h' x m Ls := by
  obtain ⟨Ts, I, q⟩ := a
  exact ⟨Ts, I.fr f hn, q⟩
theorem HasR.ext {W : Nat → Prop} {h h' : Heap} {x m : Nat} {Ls : List (List Ent)} (a : HasR W h x m Ls) (e : Ext h h') : HasR W h' x m Ls := by
  obtain ⟨ab, ao, ac, Rs, I, q⟩ := a
  exact ⟨ab, ao, ac, Rs, I.ext e, q⟩
theorem HasR.fr {W : Nat → Prop} {h h' : Heap} {x m : Nat} {Ls : List (List Ent)} (a : HasR W h x m Ls) {S : Nat → Prop} (f : Fr S h h') (hn : ∀ b, W b → ¬ S b) : HasR W h' x m Ls := by
  obtain ⟨ab, ao, ac, Rs, I, q⟩ := a
  exact ⟨ab, ao, ac, Rs, I.fr f hn, q⟩
theorem Has.lt {W : Nat → Prop} {h : Heap} {x m : Nat} {Ls : List (List Ent)} (a : Has W h x m Ls) : ∀ b, W b → b < h.size := by
  obtain ⟨Ts, I, _⟩ := a; exact I.lt
theorem HasR.lt {W : Nat → Prop} {h : Heap} {x m : Nat} {Ls : List (List Ent)} (a : HasR W h x m Ls) : ∀ b, W b → b < h.size := by
  obtain ⟨ab, ao, ac, Rs, I, _⟩ := a; exact I.lt

def e1 : Ent := ⟨5, 281474976710656, 3, 0⟩
def e2 : Ent := ⟨5, 562949953421312, 2, 0⟩
theorem awake_c (h : Heap) : HC Try.prog 22 #[] h fun v h' => v = .bool true ∧ Ext h h' := by
  refine f22_sh _ _ ((new_i 2 2 4 h).mono ?_)
  rintro v h1 ⟨x1, hres⟩
  obtain ⟨_, x, rfl, hx⟩ := hres.resolve_right fun g => g.1 (by unfold newOK; omega)
  have hf : ∀ b, fresh h h1 b → h.size ≤ b := fun b g => g.1
  have hx' : Has (fresh h h1) h1 x 4 [[], []] := hx
  refine ⟨_, _, rfl, fun g => by simp at g, fun _ => (put_l hx' (e := e1) (by unfold Ent.wf e1; decide)).mono ?_⟩
  rintro _ h2 ⟨rfl, a2⟩
  obtain ⟨x2, hf2⟩ := a2.ext x1 hf
  refine ⟨_, _, _, _, _, _, rfl, fun h4 x4 => ?_⟩
  have hx4 := a2.2.ext x4
  refine (put_l hx4 (e := e2) (by unfold Ent.wf e2; decide)).mono ?_
  rintro _ h5 ⟨rfl, a5⟩
  obtain ⟨x5, hf5⟩ := a5.ext (x2.trans x4) hf2
  refine ⟨_, _, _, _, _, _, rfl, fun h7 x7 => ?_⟩
  obtain ⟨Ts, I7, hL⟩ := a5.2.ext x7
  have hlen := congrArg List.length hL
  rw [List.length_map] at hlen
  have hlen2 : Ts.length = 2 := hlen
  refine (get_i I7 (v := 5) (by omega)).mono ?_
  rintro _ h8 ⟨rfl, x8⟩
  rw [hL]
  refine ⟨_, _, _, _, _, rfl, true, ⟨fun _ => ⟨fun _ => ⟨fun _ => ⟨fun _ => ⟨fun _ h10 x10 => ⟨1, ?_, fun _ => ⟨1, ?_, rfl⟩, fun g => by simp at g⟩, fun g => ?_⟩, fun g => ?_⟩, fun g => ?_⟩, fun g => ?_⟩, fun g => ?_⟩, fun h10 x10 => ⟨rfl, x5.trans (x7.trans (x8.trans x10))⟩⟩
  · have := stripe_i (I7.ext (x8.trans x10)) 5
    rw [hlen2] at this; exact this
  · have := len_i (I7.ext (x8.trans x10)) 1
    rw [hL] at this; exact this
  · exact absurd g (by decide)
  · exact absurd g (by decide)
  · exact absurd g (by decide)
  · exact absurd g (by decide)
  · exact absurd g (by decide)

/-- Both indexes, and the same in both. -/
def Both (N : Nat) (h : Heap) (x r m : Nat) (Ls : List (List Ent)) : Prop := ∃ W V, Has W h x m Ls ∧ HasR V h r m Ls ∧ (∀ b, W b → ¬ V b) ∧ (∀ b, W b → N ≤ b) ∧ ∀ b, V b → N ≤ b
theorem begin_c (n bits most : Int) (a : Option Addr) (an ac : Nat) (h : Heap) : HC Try.prog 10 #[.agg #[.int .i64 n, .int .i64 bits, .int .i64 most, .slice a an ac]] h fun v h' => Ext h h' ∧
    ((v = .tuple #[.pointer none, .pointer none, .bool true]) ∨ ∃ x r, v = .tuple #[ptr x 0, ptr r 0, .bool true] ∧ Both h.size h' x r most.toNat (List.replicate n.toNat [])) := by
  refine f10_sh _ _ _ _ _ _ _ _ fun sv h1 lo1 lt1 x1 => (new_i n bits most h1).mono ?_
  rintro v h2 ⟨x2, hres⟩
  refine ⟨x2.kp _, ?_⟩
  have fin : ∀ {h3} (_ : Ext h2 h3) {p q : Option Addr} {i j : Int}, i = j → (p.isSome == q.isSome) = true → (∀ h5, Ext h3 h5 → (Ext h h5 ∧ ((Value.tuple #[.pointer p, .pointer q, .bool true] = .tuple #[.pointer none, .pointer none, .bool true]) ∨ ∃ x r, Value.tuple #[.pointer p, .pointer q, .bool true] = .tuple #[ptr x 0, ptr r 0, .bool true] ∧ Both h.size h5 x r most.toNat (List.replicate n.toNat [])))) →
      (∃ A9 : Bool → Heap → Prop, HC Try.prog 22 #[] h3 (fun vv h5 => ∃ r : Bool, vv = (.bool r) ∧ ((r = true → (((i == j) = true → (A9 (p.isSome == q.isSome) h5)) ∧ ((i == j) = false → (A9 false h5)))) ∧ (r = false → (A9 false h5)))) ∧
      (∀ (ok : Bool) (h4 : Heap), A9 ok h4 → (Ext h h4 ∧ ((Value.tuple #[.pointer p, .pointer q, .bool ok] = .tuple #[.pointer none, .pointer none, .bool true]) ∨ ∃ x r, Value.tuple #[.pointer p, .pointer q, .bool ok] = .tuple #[ptr x 0, ptr r 0, .bool true] ∧ Both h.size h4 x r most.toNat (List.replicate n.toNat []))))) := by
    intro h3 x3 p q i j hij hpq hk
    refine ⟨fun ok h5 => ok = true ∧ Ext h3 h5, (awake_c h3).mono ?_, ?_⟩
    · rintro _ h5 ⟨rfl, x5⟩
      exact ⟨true, rfl, fun _ => ⟨fun _ => ⟨hpq, x5⟩, fun g => by simp [hij] at g⟩, fun g => by cases g⟩
    · rintro _ h4 ⟨rfl, x4⟩
      exact hk h4 x4
  rcases hres with ⟨hok, x, rfl, hx⟩ | ⟨hno, rfl⟩
  · refine ⟨_, _, rfl, (new_r n bits most h2).mono ?_⟩
    rintro v h3 ⟨x3, hres⟩
    obtain ⟨_, r, rfl, hr⟩ := hres.resolve_right fun g => g.1 hok
    refine ⟨_, _, rfl, fin x3 rfl rfl fun h5 x5 => ⟨x1.trans (x2.trans (x3.trans x5)), .inr ⟨x, r, rfl, fresh h1 h2, fresh h2 h3, hx.ext (x3.trans x5), hr.ext x5, fun b g1 g2 => ?_, fun b g => ?_, fun b g => ?_⟩⟩⟩
    · have := g1.2; have := g2.1; omega
    · have := g.1; have := x1.size; omega
    · have := g.1; have := x1.size; have := x2.size; omega
  · refine ⟨_, _, rfl, (new_r n bits most h2).mono ?_⟩
    rintro v h3 ⟨x3, hres⟩
    obtain ⟨_, rfl⟩ := hres.resolve_left fun g => hno g.1
    exact ⟨_, _, rfl, fin x3 rfl rfl fun h5 x5 => ⟨x1.trans (x2.trans (x3.trans x5)), .inl rfl⟩⟩
end Ix
end Go.Proofs.Ytkecmljalcfhoaa
