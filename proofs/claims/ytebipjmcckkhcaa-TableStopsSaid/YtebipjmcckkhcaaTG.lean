/-
The laws TablePlays and TableOneWay, over heaps.
-/
import Derived.Test.YtebipjmcckkhcaaTF
import Derived.Test.YtebipjmcckkhcaaShU
import Derived.Test.YtebipjmcckkhcaaOpn
namespace Go.Proofs.Ytebipjmcckkhcaa
open Go RH

section
variable {h : Heap} {p q B m : Nat} {s : RH.Sl} {L : List Ent} {N x c : Nat} {a : Option Addr}

theorem Stp.ext' {h0 h' : Heap} (e : Ext h0 h) (T : Two h0.size h p q x a c B m s L) (st : Stp h0.size h p q x a m h') : Ext h0 h' :=
  ((e.fr _).trans st.1 fun _ _ g => g).ext fun b hb g => by have := (T.lt g).1; omega

theorem two_new {bits most : Nat} {h0 h2 h3 : Heap} {p q y : Nat} (e2 : Ext h0 h2) (hp : h0.size ≤ p) (hq : h0.size ≤ q) (t2 : TabOK h2 p q bits most fun _ => z0) (x3 : Ext h2 h3) (t3 : RT h2.size h3 y none 0 bits most []) : Two h0.size h3 p q y none 0 bits most (fun _ => z0) [] := by
  have := e2.size
  have hl := t2.lt
  refine ⟨t2.ext x3, ⟨t3.row, t3.sl, t3.own.down this, by have := t3.lo; omega, t3.ne, t3.srt, t3.wf, t3.b2, t3.bm, t3.m16, t3.len⟩, rel_empty _, hp, hq, fun b g1 g2 => ?_⟩
  rcases g1 with rfl | g1
  · have := t3.lo; rcases g2 with rfl | rfl <;> omega
  · exact blkA_none g1

set_option maxHeartbeats 8000000 in
theorem law_plays {bits most : Int} {l : Option Addr} {n c : Nat} {K : Nat → Int} {E : Nat → Ent} (hn : n ≤ 9223372036854775807) (x : OpsAt h l n K E) :
    HC Try.prog 7 #[.int .i64 bits, .int .i64 most, .slice l n c] h fun v h' => v = .bool true ∧ Ext h h' := by
  refine f7_sh _ _ _ _ _ _ _ ((lives_c h).mono ?_)
  rintro _ h1 ⟨rfl, e1⟩
  refine ⟨_, rfl, fun h => by simp at h, fun _ => ?_⟩
  by_cases hv : bits < 2 ∨ most < bits ∨ 16 < most
  · refine (new_no hv h1).mono ?_
    rintro _ h2 ⟨rfl, rfl⟩
    refine ⟨_, _, rfl, (new_r h2).mono ?_⟩
    rintro _ h3 ⟨x3, ⟨b, k, y, rfl, rfl, rfl, t3⟩ | ⟨_, rfl⟩⟩
    · have := t3.b2; have := t3.bm; have := t3.m16; omega
    · exact ⟨_, _, rfl, fun g => by simp at g, fun _ => ⟨fun _ => ⟨rfl, e1.trans x3⟩, fun g => by simp at g⟩⟩
  obtain ⟨B, rfl⟩ : ∃ B : Nat, bits = B := ⟨bits.toNat, by omega⟩
  obtain ⟨m, rfl⟩ : ∃ m : Nat, most = m := ⟨most.toNat, by omega⟩
  refine (new_c (bits := B) (most := m) (by omega) (by omega) (by omega) h1).mono ?_
  rintro _ h2 ⟨e2, p, q, rfl, hp, hq, t2⟩
  have hs1 := e1.size
  refine ⟨_, _, rfl, (new_r h2).mono ?_⟩
  rintro _ h3 ⟨x3, hres⟩
  obtain ⟨b, k, y, eb, em, rfl, t3⟩ := hres.resolve_right fun g => hv g.1
  have eb' : b = B := by omega
  have em' : k = m := by omega
  subst eb'; subst em'
  have T3 := two_new (e1.trans e2) (by omega) (by omega) t2 x3 t3
  refine ⟨_, _, rfl, fun g => by simp at g, fun _ => ⟨fun g => by simp at g, fun _ => ?_⟩⟩
  refine ⟨fun t i h4 => ∃ (j p q : Nat) (a : Option Addr) (c B : Nat) (s : RH.Sl) (L : List Ent), i = j ∧ j ≤ n ∧ t = some ⟨p, 0, none⟩ ∧ Ext h h4 ∧ Two h.size h4 p q y a c B k s L,
    fun _ i _ => n - i.toNat, ⟨0, p, q, none, 0, b, _, [], rfl, Nat.zero_le _, rfl, e1.trans (e2.trans x3), T3⟩, ?_⟩
  rintro _ _ h4 ⟨j, p, q, a, c2, B, s, L, rfl, hj, rfl, e4, T⟩
  have hs4 := e4.size
  refine ⟨fun hlt => ?_, fun hge => ?_⟩
  · have hjn : j < n := by have := of_decide_eq_true hlt; omega
    obtain ⟨lb, lo, rfl, hb, hx⟩ := x.ext e4 (by omega)
    obtain ⟨hw, c0, c1, c2', c3, c4⟩ := hx j hjn
    refine ⟨fun t h5 => ∃ (p q : Nat) (a : Option Addr) (c B : Nat) (s : RH.Sl) (L : List Ent), t = some ⟨p, 0, none⟩ ∧ Ext h h5 ∧ Two h.size h5 p q y a c B k s L, ⟨lb, lo, rfl, by omega, by omega, _, c0, fun _ => ?_, fun _ => ?_⟩, ?_⟩
    · refine (fork_c T.t).mono ?_
      rintro _ h6 ⟨x6, p', q', rfl, lp, lq, tf⟩
      refine ⟨_, rfl, fun g => by simp at g, fun _ => ?_⟩
      have T6 := T.ext x6
      have hpl := T.t.lt
      have hsm := T.r.small
      refine ⟨fun k2 h7 => ∃ (i2 : Nat) (s2 : RH.Sl), k2 = i2 ∧ i2 ≤ L.length ∧ Ext h h7 ∧ TabOK h7 p q B k s2 ∧ TabOK h7 p' q' B k s ∧ RT h.size h7 y a c2 B k L,
        fun k2 _ => L.length - k2.toNat, ⟨0, s, rfl, Nat.zero_le _, e4.trans x6, T6.t, tf, T6.r⟩, ?_⟩
      rintro _ h7 ⟨i2, s2, rfl, hi2, e7, ta, tb, tr⟩
      refine ⟨y, 0, rfl, _, _, _, tr.c2, fun hlt2 => ?_, fun hge2 => ?_⟩
      · have hil := lt_of_dec hlt2
        obtain ⟨ab, ao, ea, d0, _⟩ := tr.at hil
        have hwl := (tr.wf L[i2] (List.getElem_mem hil)).1.1
        refine ⟨ab, ao, ea, by omega, by omega, _, d0, (remove_c ta hwl).mono ?_⟩
        rintro v h8 ⟨f8, s8, t8, hv⟩
        have ht : Tup2 v := by
          rcases hv with ⟨y, _, _, rfl, _⟩ | ⟨_, rfl, _⟩
          · exact ⟨y, true, rfl⟩
          · exact ⟨z0, false, rfl⟩
        obtain ⟨oe, ob, ev⟩ := ht
        rw [wadd i2 (by omega)]
        refine ⟨_, _, _, _, _, ev, ⟨i2 + 1, s8, rfl, hil, fr_new e7 T.lop T.loq f8, t8, tb.fr f8 (fun g => by rcases g with g | g <;> omega) (fun g => by rcases g with g | g <;> omega), tr.fr f8 T.ne⟩, by simp only [Int.toNat_natCast]; omega⟩
      · refine ⟨p', q', a, c2, B, s, L, rfl, e7, tb, tr, T.rel, by omega, by omega, fun b g1 g2 => ?_⟩
        have := T.r.lt g1
        rcases g2 with rfl | rfl <;> omega
    · refine ⟨_, _, _, _, _, c0, c1, c2', c3, c4, (step_c T (K j) hw).mono ?_⟩
      rintro _ h9 ⟨rfl, st⟩
      refine ⟨_, rfl, fun g => by simp at g, fun _ => ?_⟩
      have e9 := st.ext' e4 T
      obtain ⟨f, q2, a2, c3', B2, s2, L2, T2, _⟩ := st
      exact ⟨p, q2, a2, c3', B2, s2, L2, rfl, e9, T2⟩
    · rintro _ h5 ⟨p, q, a, c2, B, s, L, rfl, e5, T5⟩
      rw [w64 (by omega) (by omega)]
      refine ⟨⟨j + 1, p, q, a, c2, B, s, L, rfl, hjn, rfl, e5, T5⟩, ?_⟩
      show n - Int.toNat ((j : Int) + 1) < n - Int.toNat (j : Int)
      omega
  · have hsm := T.r.small
    have hle := T.t.le
    have h4' := pow4 T.r.b2
    refine ⟨fun j h10 => j = true ∧ Ext h h10, ⟨Ext, ⟨fun _ _ x => x, fun _ _ _ => Ext.trans⟩, (layout_n T.t).mono ?_⟩, ?_⟩
    · rintro _ h11 ⟨a1, c1, rfl, x11, s11, w11⟩
      refine ⟨x11, _, _, _, rfl, (layout_r (T.r.ext x11)).mono ?_⟩
      rintro _ h12 ⟨x12, b2, s', rfl, lo2, at2, g', r'⟩
      have heq := T.rel.uniq (by have := T.t.bnd; omega) r' T.t.g g' (by have := T.r.len; omega)
      have hdec : decide (lay (2 ^ B) s = lay (2 ^ B) s') = true := decide_eq_true heq
      refine ⟨x12, _, _, _, rfl, true, fun h17 x17 => ?_, fun _ => ?_, fun g => by cases g⟩
      · have hcmp := same_r (s11.ext (x12.trans x17)) ((at2.ext x17).sl (Nat.le_refl _)) (by rw [lay_len]; omega)
        rw [hdec] at hcmp
        rw [lay_len] at hcmp ⊢
        rw [lay_len] at hcmp
        exact hcmp
      · have T12 := T.ext (x11.trans x12)
        refine ⟨y, 0, rfl, _, _, _, fun hx f => (T12.ext f).r.c2, (all_c T12.t T.rel (by omega)).mono ?_⟩
        rintro _ h13 ⟨a3, c3, rfl, x13, s13, w13⟩
        refine ⟨x13, _, _, _, rfl, true, fun h16 x16 => ?_, fun _ => ?_, fun g => by cases g⟩
        · have := same_r (s13.ext x16) (T12.ext (x13.trans x16)).r.sl (by omega)
          rw [decide_eq_true rfl] at this
          exact this
        · have T13 := T12.ext x13
          refine (longest_c T13.t).mono ?_
          rintro _ h14 ⟨rfl, x14⟩
          refine ⟨_, rfl, (longest_r (T13.ext x14).r T.t.g T.rel).mono ?_⟩
          rintro _ h15 ⟨rfl, x15⟩
          exact ⟨_, rfl, by simp, e4.trans (x11.trans (x12.trans (x13.trans (x14.trans x15))))⟩
    · rintro _ h10 ⟨rfl, e10⟩
      exact ⟨rfl, e10⟩
end
end Go.Proofs.Ytebipjmcckkhcaa
