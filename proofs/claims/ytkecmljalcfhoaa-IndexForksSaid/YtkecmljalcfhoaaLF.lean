/-
The law IndexForks, over heaps: two pairs of indexes that go on by themselves.
-/
import Derived.Test.YtkecmljalcfhoaaLO
import Derived.Test.YtkecmljalcfhoaaShM
namespace Go.Proofs.Ytkecmljalcfhoaa
namespace Ix
open Go RH

theorem does_ou {U : Nat → Prop} {h : Heap} {x r m : Nat} {Ls : List (List Ent)} (b : BothU U h x r m Ls) {o : Op} (ho : okOp o) :
    HC Try.prog 13 #[.pointer (some ⟨x, 0, none⟩), .pointer (some ⟨r, 0, none⟩), .agg #[.int .i64 o.kind, .int .u64 o.entry.h, .int .u64 o.entry.a, .int .u64 o.entry.v, .int .u8 o.entry.k, .int .u64 o.at_, .int .i64 o.n, .int .i64 o.m]] h fun v h' => v = .bool true ∧ ∃ Ls', AftU U h x r m Ls' h' := by
  obtain ⟨kind, ⟨eh, ea, ev, ek⟩, at_, n, mm⟩ := o
  obtain ⟨h1, h2, h3, h4, h5, h6⟩ := ho
  simp only at h1 h2 h3 h4 h5 h6
  obtain ⟨eh, rfl⟩ : ∃ k : Nat, eh = k := ⟨eh.toNat, by omega⟩
  obtain ⟨ea, rfl⟩ : ∃ k : Nat, ea = k := ⟨ea.toNat, by omega⟩
  obtain ⟨ev, rfl⟩ : ∃ k : Nat, ev = k := ⟨ev.toNat, by omega⟩
  obtain ⟨ek, rfl⟩ : ∃ k : Nat, ek = k := ⟨ek.toNat, by omega⟩
  obtain ⟨at_, rfl⟩ : ∃ k : Nat, at_ = k := ⟨at_.toNat, by omega⟩
  exact does_u (e := ⟨eh, ea, ev, ek⟩) b kind ⟨by show eh < _; omega, by show ea < _; omega, by show ev < _; omega, by show ek < _; omega⟩ n mm h6

theorem fork_l {W : Nat → Prop} {h : Heap} {x m : Nat} {Ls : List (List Ent)} (a : Has W h x m Ls) : HC Try.prog 20 #[.pointer (some ⟨x, 0, none⟩)] h fun v h' => Ext h h' ∧ ∃ y, v = ptr y 0 ∧ Has (fresh h h') h' y m Ls := by
  obtain ⟨Ts, I, rfl⟩ := a
  exact fork_i I
theorem fork_m {W : Nat → Prop} {h : Heap} {x m : Nat} {Ls : List (List Ent)} (a : HasR W h x m Ls) : HC Try.prog 21 #[ptr x 0] h fun v h' => Ext h h' ∧ ∃ y, v = ptr y 0 ∧ HasR (fresh h h') h' y m Ls := by
  obtain ⟨ab, ao, ac, Rs, I, rfl⟩ := a
  exact fork_r I

/-- Two pairs, apart. -/
def Two (N : Nat) (h : Heap) (x r y t m : Nat) : Prop :=
  N ≤ h.size ∧ ∃ U V Ls Ms, BothU U h x r m Ls ∧ BothU V h y t m Ms ∧ (∀ b, U b → ¬ V b) ∧ (∀ b, U b → N ≤ b ∧ b < h.size) ∧ ∀ b, V b → N ≤ b ∧ b < h.size
section
variable {N : Nat} {h : Heap} {x r y t m : Nat}
theorem Two.symm (T : Two N h x r y t m) : Two N h y t x r m := by
  obtain ⟨hN, U, V, Ls, Ms, b1, b2, hd, hu, hv⟩ := T
  exact ⟨hN, V, U, Ms, Ls, b2, b1, fun b g q => hd b q g, hv, hu⟩
theorem Two.ext (T : Two N h x r y t m) {h' : Heap} (e : Ext h h') : Two N h' x r y t m := by
  obtain ⟨hN, U, V, Ls, Ms, b1, b2, hd, hu, hv⟩ := T
  have := e.size
  exact ⟨by omega, U, V, Ls, Ms, b1.ext e, b2.ext e, hd, fun b g => ⟨(hu b g).1, by have := (hu b g).2; omega⟩, fun b g => ⟨(hv b g).1, by have := (hv b g).2; omega⟩⟩
theorem Two.does (T : Two N h x r y t m) {h1 : Heap} (e : Ext h h1) {o : Op} (ho : okOp o) :
    HC Try.prog 13 #[.pointer (some ⟨x, 0, none⟩), .pointer (some ⟨r, 0, none⟩), .agg #[.int .i64 o.kind, .int .u64 o.entry.h, .int .u64 o.entry.a, .int .u64 o.entry.v, .int .u8 o.entry.k, .int .u64 o.at_, .int .i64 o.n, .int .i64 o.m]] h1 fun v h' => v = .bool true ∧ Two N h' x r y t m ∧ Fr (fun b => N ≤ b ∧ b < h.size) h1 h' := by
  obtain ⟨hN, U, V, Ls, Ms, b1, b2, hd, hu, hv⟩ := T
  have s1 := e.size
  refine (does_ou (b1.ext e) ho).mono ?_
  rintro _ h' ⟨rfl, Ls', a, f⟩
  have s2 := f.size
  refine ⟨rfl, ⟨by omega, grown U h1 h', V, Ls', Ms, a, (b2.ext e).fr f (fun b g q => hd b q g), fun b g q => ?_, fun b g => ?_, fun b g => ?_⟩, f.mono fun b _ g => hu b g⟩
  · rcases g with g | g
    · exact hd b g q
    · have := (hv b q).2; omega
  · rcases g with g | g
    · have := hu b g; omega
    · omega
  · have := hv b g; omega
theorem Two.same (T : Two N h x r y t m) : HC Try.prog 14 #[ptr x 0, ptr r 0] h fun v h' => v = .bool true ∧ Ext h h' := by
  obtain ⟨hN, U, V, Ls, Ms, b1, b2, hd, hu, hv⟩ := T
  exact same_c (N := N) (b1.mono fun b g => (hu b g).1)
end

set_option maxHeartbeats 4000000 in
theorem law_forks {h : Heap} {a : Option Addr} {c : Nat} {L : List Op} {am : Option Addr} {cm : Nat} {M : List Op} {n bits most : Int} (s : Sl eOp h a c L) (hl : L.length ≤ 9223372036854775807) (hok : ∀ o ∈ L, okOp o)
    (sm : Sl eOp h am cm M) (hlm : M.length ≤ 9223372036854775807) (hokm : ∀ o ∈ M, okOp o) :
    HC Try.prog 8 #[.agg #[.int .i64 n, .int .i64 bits, .int .i64 most, .slice a L.length c], .slice am M.length cm] h fun v h' => v = .bool true ∧ Ext h h' := by
  refine f8_sh _ _ _ _ _ _ _ _ _ _ _ fun sv h1 lo1 lt1 x1 => (begin_c n bits most a L.length c h1).mono ?_
  rintro v h2 ⟨x2, hres⟩
  refine ⟨x2.kp _, ?_⟩
  rcases hres with rfl | ⟨x, r, rfl, b2⟩
  · exact ⟨_, _, _, rfl, fun _ => ⟨rfl, x1.trans x2⟩, fun g => by simp at g⟩
  refine ⟨_, _, _, rfl, fun g => by simp at g, fun _ => ⟨fun i h3 => ∃ (k : Nat) (Ls : List (List Ent)), i = k ∧ k ≤ L.length ∧ Both h1.size h3 x r most.toNat Ls ∧ Ext h1 h3, fun i _ => L.length - i.toNat, ⟨0, _, rfl, Nat.zero_le _, b2, x2⟩, ?_⟩⟩
  rintro _ h3 ⟨k, Ls, rfl, hk, b3, x3⟩
  refine ⟨fun hlt => ?_, fun hge => ?_⟩
  · have hkl := lt_of_dec hlt
    obtain ⟨b, o, e, d⟩ := (s.ext (x1.trans x3)).at (List.getElem?_eq_getElem hkl)
    refine ⟨b, o, e, by omega, by omega, _, _, _, _, _, _, _, _, d.1, d.2.1, d.2.2.1, d.2.2.2.1, d.2.2.2.2.1, d.2.2.2.2.2.1, d.2.2.2.2.2.2.1, d.2.2.2.2.2.2.2.1, fun h5 x5 => ?_⟩
    refine (does_o (both_ext b3 x5).1 (hok _ (List.getElem_mem hkl))).mono ?_
    rintro _ h6 ⟨rfl, Ls', b6, f6⟩
    refine ⟨true, rfl, fun g => (by cases g), fun _ => ?_⟩
    rw [wadd' k (by omega)]
    refine ⟨⟨k + 1, Ls', rfl, hkl, b6, (((x3.trans x5).fr _).trans f6 fun _ _ g => g).ext fun b hb g => by omega⟩, by simp only [Int.toNat_natCast]; omega⟩
  obtain ⟨W, V, hx, hr, hd, hw, hv⟩ := b3
  have lw := hx.lt
  have lv := hr.lt
  refine (fork_l hx).mono ?_
  rintro _ h7 ⟨x7, y, rfl, hy⟩
  refine ⟨_, rfl, (fork_m (hr.ext x7)).mono ?_⟩
  rintro _ h8 ⟨x8, t, rfl, ht⟩
  refine ⟨_, rfl, fun g => by simp at g, fun _ => ?_⟩
  have s3 := x3.size
  have s7 := x7.size
  have s8 := x8.size
  have T8 : Two h1.size h8 x r y t most.toNat := by
    refine ⟨by omega, fun b => W b ∨ V b, fun b => fresh h3 h7 b ∨ fresh h7 h8 b, Ls, Ls, ⟨W, V, hx.ext (x7.trans x8), hr.ext (x7.trans x8), hd, fun b g => .inl g, fun b g => .inr g⟩,
      ⟨fresh h3 h7, fresh h7 h8, hy.ext x8, ht, fun b g q => ?_, fun b g => .inl g, fun b g => .inr g⟩, fun b g q => ?_, fun b g => ?_, fun b g => ?_⟩
    · have := g.2; have := q.1; omega
    · have h4 : b < h3.size := g.elim (lw b) (lv b)
      rcases q with q | q <;> have := q.1 <;> omega
    · have h4 : b < h3.size := g.elim (lw b) (lv b)
      have h5 : h1.size ≤ b := g.elim (hw b) (hv b)
      omega
    · rcases g with g | g <;> have := g.1 <;> have := g.2 <;> omega
  refine ⟨fun i h9 => ∃ k : Nat, i = k ∧ k ≤ M.length ∧ Two h1.size h9 x r y t most.toNat ∧ Ext h1 h9, fun i _ => M.length - i.toNat, ⟨0, rfl, Nat.zero_le _, T8, x3.trans (x7.trans x8)⟩, ?_⟩
  rintro _ h9 ⟨k, rfl, hk, T9, x9⟩
  have s9 := x9.size
  refine ⟨fun hlt => ?_, fun _ => ⟨fun j h' => j = true ∧ Ext h1 h', T9.same.mono ?_, ?_⟩⟩
  · have hkl := lt_of_dec hlt
    have ho := hokm _ (List.getElem_mem hkl)
    obtain ⟨b, o, e, d⟩ := (sm.ext (x1.trans x9)).at (List.getElem?_eq_getElem hkl)
    have up : ∀ {h11 h13 : Heap}, Ext h9 h11 → Fr (fun b => h1.size ≤ b ∧ b < h9.size) h11 h13 → Ext h1 h13 := fun e11 f => (((x9.trans e11).fr _).trans f fun _ _ g => g).ext fun b hb g => by omega
    refine ⟨b, o, e, by omega, by omega, _, _, _, _, _, _, _, _, d.1, d.2.1, d.2.2.1, d.2.2.2.1, d.2.2.2.2.1, d.2.2.2.2.2.1, d.2.2.2.2.2.2.1, d.2.2.2.2.2.2.2.1,
      fun j h' => j = false ∧ Two h1.size h' x r y t most.toNat ∧ Ext h1 h', ⟨fun g1 o h11 lo11 lt11 x11 => ?_, fun _ => ⟨fun _ h11 x11 => ?_, fun _ h11 x11 => ⟨rfl, T9.ext x11, x9.trans x11⟩⟩⟩, ?_⟩
    · refine (T9.does x11 ho).mono ?_
      rintro _ h13 ⟨rfl, T13, f13⟩
      refine ⟨f13.kp (by simpa using fun _ => lo11), true, rfl, fun g => (by cases g), fun _ => ⟨fun g2 => ?_, fun _ => ⟨rfl, T13, up x11 f13⟩⟩⟩
      have := eq_of_beq g1; have := eq_of_beq g2; omega
    · refine (T9.symm.does x11 ho).mono ?_
      rintro _ h13 ⟨rfl, T13, f13⟩
      exact ⟨true, rfl, rfl, T13.symm, up x11 f13⟩
    · rintro _ h12 ⟨rfl, T12, x12⟩
      refine ⟨fun g => (by cases g), fun _ => ?_⟩
      rw [wadd' k (by omega)]
      exact ⟨⟨k + 1, rfl, hkl, T12, x12⟩, by simp only [Int.toNat_natCast]; omega⟩
  · rintro _ h17 ⟨rfl, x17⟩
    refine ⟨true, rfl, fun _ => ((T9.ext x17).symm.same).mono ?_, fun g => by cases g⟩
    rintro _ h18 ⟨rfl, x18⟩
    exact ⟨true, rfl, rfl, x9.trans (x17.trans x18)⟩
  · rintro _ h16 ⟨rfl, x16⟩
    exact ⟨rfl, x1.trans x16⟩
end Ix
end Go.Proofs.Ytkecmljalcfhoaa
