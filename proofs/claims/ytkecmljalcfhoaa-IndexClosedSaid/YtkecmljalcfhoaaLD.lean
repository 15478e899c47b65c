/-
The laws IndexDoes and IndexLooks, over heaps.
-/
import Derived.Test.YtkecmljalcfhoaaLC
namespace Go.Proofs.Ytkecmljalcfhoaa
namespace Ix
open Go RH

structure En where
  h : Int
  a : Int
  v : Int
  k : Int
structure Op where
  kind : Int
  entry : En
  at_ : Int
  n : Int
  m : Int
instance : Inhabited En := ⟨⟨0, 0, 0, 0⟩⟩
instance : Inhabited Op := ⟨⟨0, default, 0, 0, 0⟩⟩
def eEn : Elt En := ⟨4, fun e => [.int .u64 e.h, .int .u64 e.a, .int .u64 e.v, .int .u8 e.k], fun _ => rfl, fun x v hv => by simp at hv; rcases hv with rfl | rfl | rfl | rfl <;> rfl⟩
def eOp : Elt Op := ⟨8, fun o => [.int .i64 o.kind, .int .u64 o.entry.h, .int .u64 o.entry.a, .int .u64 o.entry.v, .int .u8 o.entry.k, .int .u64 o.at_, .int .i64 o.n, .int .i64 o.m], fun _ => rfl,
  fun x v hv => by simp at hv; rcases hv with rfl | rfl | rfl | rfl | rfl | rfl | rfl | rfl <;> rfl⟩
def okOp (o : Op) : Prop := (0 ≤ o.entry.h ∧ o.entry.h < 18446744073709551616) ∧ (0 ≤ o.entry.a ∧ o.entry.a < 18446744073709551616) ∧ (0 ≤ o.entry.v ∧ o.entry.v < 18446744073709551616) ∧ (0 ≤ o.entry.k ∧ o.entry.k < 256) ∧ (0 ≤ o.at_ ∧ o.at_ < 18446744073709551616) ∧ o.m ≤ 9223372036854775807

theorem does_o {N : Nat} {h : Heap} {x r m : Nat} {Ls : List (List Ent)} (b : Both N h x r m Ls) {o : Op} (ho : okOp o) :
    HC Try.prog 13 #[.pointer (some ⟨x, 0, none⟩), .pointer (some ⟨r, 0, none⟩), .agg #[.int .i64 o.kind, .int .u64 o.entry.h, .int .u64 o.entry.a, .int .u64 o.entry.v, .int .u8 o.entry.k, .int .u64 o.at_, .int .i64 o.n, .int .i64 o.m]] h fun v h' => v = .bool true ∧ ∃ Ls', Aft2 N h x r m Ls' h' := by
  obtain ⟨kind, ⟨eh, ea, ev, ek⟩, at_, n, mm⟩ := o
  obtain ⟨h1, h2, h3, h4, h5, h6⟩ := ho
  simp only at h1 h2 h3 h4 h5 h6
  obtain ⟨eh, rfl⟩ : ∃ k : Nat, eh = k := ⟨eh.toNat, by omega⟩
  obtain ⟨ea, rfl⟩ : ∃ k : Nat, ea = k := ⟨ea.toNat, by omega⟩
  obtain ⟨ev, rfl⟩ : ∃ k : Nat, ev = k := ⟨ev.toNat, by omega⟩
  obtain ⟨ek, rfl⟩ : ∃ k : Nat, ek = k := ⟨ek.toNat, by omega⟩
  obtain ⟨at_, rfl⟩ : ∃ k : Nat, at_ = k := ⟨at_.toNat, by omega⟩
  exact does_c (e := ⟨eh, ea, ev, ek⟩) b kind ⟨by show eh < _; omega, by show ea < _; omega, by show ev < _; omega, by show ek < _; omega⟩ n mm h6

section
variable {h : Heap} {a : Option Addr} {c : Nat} {L : List Op}
theorem wadd' (n : Nat) (hn : n < 9223372036854775807) : IntKind.i64.wrap ((n : Int) + 1) = ((n + 1 : Nat) : Int) := by rw [w64 (by omega) (by omega)]; omega

theorem law_does {n bits most : Int} (s : Sl eOp h a c L) (hl : L.length ≤ 9223372036854775807) (hok : ∀ o ∈ L, okOp o) :
    HC Try.prog 4 #[.agg #[.int .i64 n, .int .i64 bits, .int .i64 most, .slice a L.length c]] h fun v h' => v = .bool true ∧ Ext h h' := by
  refine f4_sh _ _ _ _ _ _ _ _ fun sv h1 lo1 lt1 x1 => (begin_c n bits most a L.length c h1).mono ?_
  rintro v h2 ⟨x2, hres⟩
  refine ⟨x2.kp _, ?_⟩
  rcases hres with rfl | ⟨x, r, rfl, b2⟩
  · exact ⟨_, _, _, rfl, fun _ => ⟨rfl, x1.trans x2⟩, fun g => by simp at g⟩
  refine ⟨_, _, _, rfl, fun g => by simp at g, fun _ => ⟨fun i h3 => ∃ (k : Nat) (Ls : List (List Ent)), i = k ∧ k ≤ L.length ∧ Both h1.size h3 x r most.toNat Ls ∧ Ext h1 h3, fun i _ => L.length - i.toNat, ⟨0, _, rfl, Nat.zero_le _, b2, x2⟩, ?_⟩⟩
  rintro _ h3 ⟨k, Ls, rfl, hk, b3, x3⟩
  refine ⟨fun hlt => ?_, fun hge => (same_c b3).mono ?_⟩
  · have hkl := lt_of_dec hlt
    obtain ⟨b, o, e, d⟩ := (s.ext (x1.trans x3)).at (List.getElem?_eq_getElem hkl)
    refine ⟨b, o, e, by omega, by omega, _, _, _, _, _, _, _, _, d.1, d.2.1, d.2.2.1, d.2.2.2.1, d.2.2.2.2.1, d.2.2.2.2.2.1, d.2.2.2.2.2.2.1, d.2.2.2.2.2.2.2.1, fun h5 x5 => ?_⟩
    refine (does_o (both_ext b3 x5).1 (hok _ (List.getElem_mem hkl))).mono ?_
    rintro _ h6 ⟨rfl, Ls', b6, f6⟩
    refine ⟨true, rfl, fun g => (by cases g), fun _ => ?_⟩
    rw [wadd' k (by omega)]
    refine ⟨⟨k + 1, Ls', rfl, hkl, b6, (((x3.trans x5).fr _).trans f6 fun _ _ g => g).ext fun b hb g => by omega⟩, by simp only [Int.toNat_natCast]; omega⟩
  · rintro _ h7 ⟨rfl, x7⟩
    exact ⟨true, rfl, rfl, x1.trans (x3.trans x7)⟩

theorem law_looks {n bits most : Int} (s : Sl eOp h a c L) (hl : L.length ≤ 9223372036854775807) (hok : ∀ o ∈ L, okOp o) :
    HC Try.prog 5 #[.agg #[.int .i64 n, .int .i64 bits, .int .i64 most, .slice a L.length c]] h fun v h' => v = .bool true ∧ Ext h h' := by
  refine f5_sh _ _ _ _ _ _ _ _ fun sv h1 lo1 lt1 x1 => (begin_c n bits most a L.length c h1).mono ?_
  rintro v h2 ⟨x2, hres⟩
  refine ⟨x2.kp _, ?_⟩
  rcases hres with rfl | ⟨x, r, rfl, b2⟩
  · exact ⟨_, _, _, rfl, fun _ => ⟨rfl, x1.trans x2⟩, fun g => by simp at g⟩
  refine ⟨_, _, _, rfl, fun g => by simp at g, fun _ => ⟨fun i h3 => ∃ (k : Nat) (Ls : List (List Ent)), i = k ∧ k ≤ L.length ∧ Both h1.size h3 x r most.toNat Ls ∧ Ext h1 h3, fun i _ => L.length - i.toNat, ⟨0, _, rfl, Nat.zero_le _, b2, x2⟩, ?_⟩⟩
  rintro _ h3 ⟨k, Ls, rfl, hk, b3, x3⟩
  refine ⟨fun hlt => ?_, fun hge => ⟨rfl, x1.trans x3⟩⟩
  have hkl := lt_of_dec hlt
  obtain ⟨b, o, e, d⟩ := (s.ext (x1.trans x3)).at (List.getElem?_eq_getElem hkl)
  refine ⟨b, o, e, by omega, by omega, _, _, _, _, _, _, _, _, d.1, d.2.1, d.2.2.1, d.2.2.2.1, d.2.2.2.2.1, d.2.2.2.2.2.1, d.2.2.2.2.2.2.1, d.2.2.2.2.2.2.2.1, fun j h6 => j = false ∧ ∃ Ls, Both h1.size h6 x r most.toNat Ls ∧ Ext h1 h6, fun h5 x5 => ?_, ?_⟩
  · refine (does_o (both_ext b3 x5).1 (hok _ (List.getElem_mem hkl))).mono ?_
    rintro _ h6 ⟨rfl, Ls', b6, f6⟩
    have x6 : Ext h1 h6 := (((x3.trans x5).fr _).trans f6 fun _ _ g => g).ext fun b hb g => by omega
    refine ⟨true, rfl, fun g => (by cases g), fun _ => (same_c b6).mono ?_⟩
    rintro _ h7 ⟨rfl, x7⟩
    exact ⟨true, rfl, rfl, Ls', (both_ext b6 x7).1, x6.trans x7⟩
  · rintro _ h6 ⟨rfl, Ls', b6, x6⟩
    refine ⟨fun g => (by cases g), fun _ => ?_⟩
    rw [wadd' k (by omega)]
    exact ⟨⟨k + 1, Ls', rfl, hkl, b6, x6⟩, by simp only [Int.toNat_natCast]; omega⟩
end
end Ix
end Go.Proofs.Ytkecmljalcfhoaa
