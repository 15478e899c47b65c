/-
The laws of the lossy map, over heaps.
-/
import Derived.Test.YtmdgfbhmogjklaaML
import Derived.Test.YtmdgfbhmogjklaaShF
namespace Go.Proofs.Ytmdgfbhmogjklaa
open Go Ml

def Yes (h : Heap) (v : Value) (h' : Heap) : Prop := v = .bool true ∧ Ext h h'
theorem mv_eq (x y : Mv) : (x.kind == y.kind && (x.key == y.key && (x.val == y.val && (x.err == y.err && (x.hit == y.hit && (x.life == y.life && (x.fr == y.fr && (x.to == y.to && true)))))))) = decide (x = y) := by
  obtain ⟨a1, a2, a3, a4, a5, a6, a7, a8⟩ := x
  obtain ⟨b1, b2, b3, b4, b5, b6, b7, b8⟩ := y
  rw [Bool.eq_iff_iff]
  simp [ba_beq]
theorem fit_ext : Fit Ext := ⟨fun _ _ x => x, fun _ _ _ => Ext.trans⟩

theorem law_checks (m : Mv) (h : Heap) : HC Try.prog 9 #[mvV m] h (Yes h) :=
  f9_sh _ _ _ _ _ _ _ _ _ _ fun _ x => ⟨by simp, x⟩

theorem law_accepts {h : Heap} {a : Option Addr} {c : Nat} {L : List Mv} (s : Sl eMv h a c L) (hl : L.length ≤ 1048576) (key : Str) :
    HC Try.prog 3 #[.slice a L.length c, .string key] h (Yes h) := by
  refine f3_sh _ _ _ _ _ _ fun nb h1 eb eh => ?_
  obtain ⟨a1, c1, e1, x1, s1, w1⟩ := New.lit (E := eMv) (h0 := h) (n := 0) (L := ([] : List Mv)) (Ext.refl h) eb eh rfl rfl
  cases e1
  refine app_own (n := 0) aMv x1 s1 w1 rfl (s.ext x1) rfl (by omega) ?_
  intro a2 c2 h2 x2 _ s2 _ _
  have s2' : Sl eMv h2 a2 c2 L := s2.cast (by simp)
  have hll : 0 + L.length = L.length := by omega
  rw [hll]
  refine ⟨a2, _, c2, rfl, ?_⟩
  refine (accepts_c s2' (by omega)).mono ?_
  rintro _ h3 ⟨x3, ok, n, rfl, acc⟩
  refine ⟨_, _, rfl, (raccepts_c (s.ext (x2.trans x3)) (by omega)).mono ?_⟩
  rintro _ h4 ⟨x4, ok', n', rfl, acc'⟩
  obtain ⟨rfl, rfl⟩ := acc.unique acc'
  have x34 := x3.trans x4
  refine ⟨_, _, rfl, fun b h' => b = false ∧ Ext h4 h', ⟨fun e => by simp at e, fun _ => ⟨fun e => by simp at e, fun _ h6 x6 => ?_⟩⟩, ?_⟩
  · refine (ends_c (s2'.ext (x34.trans x6)) (by omega) key).mono ?_
    rintro _ h7 ⟨x7, a7, c7, rfl, s7⟩
    refine ⟨a7, _, c7, rfl, (rends_c (s.ext (x2.trans (x34.trans (x6.trans x7)))) (by omega) key).mono ?_⟩
    rintro _ h8 ⟨x8, a8, c8, rfl, s8⟩
    refine ⟨a8, _, c8, rfl, (same_c (s7.ext x8) s8 (by have := ends_len L key; omega)).mono ?_⟩
    rintro _ h9 ⟨rfl, rfl⟩
    exact ⟨_, rfl, by simp, x6.trans (x7.trans x8)⟩
  · rintro _ h5 ⟨rfl, x5⟩
    refine ⟨fun e => (by cases e), fun _ => ?_⟩
    refine ⟨fun i h' => ∃ j : Nat, i = j ∧ j ≤ L.length ∧ Ext h4 h', fun i _ => L.length - i.toNat, ⟨0, rfl, Nat.zero_le _, x5⟩, ?_⟩
    rintro _ h10 ⟨j, rfl, hj, x10⟩
    refine ⟨fun hlt => ?_, fun _ => ⟨rfl, x2.trans (x34.trans x10)⟩⟩
    have hjl := lt_of_dec hlt
    have sO := s2'.ext (x34.trans x10)
    have sI := s.ext (x2.trans (x34.trans x10))
    obtain ⟨b1, o1, e1, d1⟩ := sO.at (List.getElem?_eq_getElem hjl)
    obtain ⟨b2, o2, e2, d2⟩ := sI.at (List.getElem?_eq_getElem hjl)
    refine ⟨fun b h' => b = false ∧ Ext h4 h', ⟨Ext, fit_ext, b1, o1, e1, by omega, by omega, L[j].kind, L[j].key, L[j].val, L[j].err, L[j].hit, L[j].life, L[j].fr, L[j].to, d1.1, d1.2.1, d1.2.2.1, d1.2.2.2.1, d1.2.2.2.2.1, d1.2.2.2.2.2.1, d1.2.2.2.2.2.2.1, d1.2.2.2.2.2.2.2.1,
      b2, o2, e2, by omega, by omega, L[j].kind, L[j].key, L[j].val, L[j].err, L[j].hit, L[j].life, L[j].fr, L[j].to, d2.1, d2.2.1, d2.2.2.1, d2.2.2.2.1, d2.2.2.2.2.1, d2.2.2.2.2.2.1, d2.2.2.2.2.2.2.1, d2.2.2.2.2.2.2.2.1, fun e => ?_, fun _ => ?_⟩, ?_⟩
    · rw [mv_eq] at e; simp at e
    · refine ⟨L[j].key, fun hx x => x.cell d2.2.1, ?_⟩
      rw [← e1]
      refine (ends_c sO (by omega) L[j].key).mono ?_
      rintro _ h12 ⟨x12, a12, c12, rfl, s12⟩
      refine ⟨x12, a12, _, c12, rfl, ?_⟩
      rw [← e2]
      refine (rends_c (sI.ext x12) (by omega) L[j].key).mono ?_
      rintro _ h13 ⟨x13, a13, c13, rfl, s13⟩
      refine ⟨a13, _, c13, rfl, (same_c (s12.ext x13) s13 (by have := ends_len L L[j].key; omega)).mono ?_⟩
      rintro _ h14 ⟨rfl, rfl⟩
      exact ⟨_, rfl, by simp, x10.trans (x12.trans x13)⟩
    · rintro _ h11 ⟨rfl, x11⟩
      refine ⟨fun e => (by cases e), fun _ => ?_⟩
      rw [wadd j (by omega)]
      exact ⟨⟨j + 1, rfl, hjl, x11⟩, by simp only [Int.toNat_natCast]; omega⟩

theorem at_mod {n : Nat} (hn : 0 < n) (hb : n ≤ 4611686018427387904) (x : Int) : ∃ k : Nat, k < n ∧ (bif decide (Int.tmod x (n : Int) < 0) then IntKind.i64.wrap (Int.tmod x (n : Int) + (n : Int)) else Int.tmod x (n : Int)) = (k : Int) := by
  have h1 : Int.tmod x (n : Int) < n := by
    have := Int.tmod_lt_of_pos x (show (0 : Int) < n by omega); exact this
  have h2 : -(n : Int) < Int.tmod x (n : Int) := by
    rcases Int.le_total 0 x with hx | hx
    · have := Int.tmod_nonneg (n : Int) hx; omega
    · have h3 := Int.tmod_lt_of_pos (-x) (show (0 : Int) < n by omega)
      have h4 : Int.tmod x n = - Int.tmod (-x) n := by rw [Int.neg_tmod, Int.neg_neg]
      omega
  by_cases h : Int.tmod x (n : Int) < 0
  · refine ⟨(Int.tmod x (n : Int) + n).toNat, by omega, ?_⟩
    simp only [h, decide_true, cond_true]
    rw [w64 (by omega) (by omega)]; omega
  · refine ⟨(Int.tmod x (n : Int)).toNat, by omega, ?_⟩
    simp only [h, decide_false, cond_false]; omega

theorem law_unsure {h : Heap} {a : Option Addr} {c : Nat} {L : List Mv} (s : Sl eMv h a c L) (hl : L.length ≤ 1048576) (at_ : Int) (pending : Bool) :
    HC Try.prog 7 #[.slice a L.length c, .int .i64 at_, .bool pending] h (Yes h) := by
  refine f7_sh _ _ _ _ _ _ _ fun h1 x1 => ?_
  refine (accepts_c (s.ext x1) (by omega)).mono ?_
  rintro _ h2 ⟨x2, ok, n, rfl, acc⟩
  refine ⟨_, _, rfl, fun e => ⟨?_, x1.trans x2⟩, fun e => ?_⟩
  · rcases acc with ⟨rfl, rfl, _⟩ | ⟨rfl, i, rfl, hi, _, _⟩
    · rfl
    · simp; omega
  have hok : ok = true := by cases ok <;> simp at e ⊢
  have hA := acc.ok_iff.1 hok
  have hpos : 0 < L.length := by
    rcases Nat.eq_zero_or_pos L.length with h0 | h0
    · rw [h0, hok] at e; simp at e
    · exact h0
  obtain ⟨k, hk, ek⟩ := at_mod hpos (by omega) at_
  refine ⟨by omega, fun kk ekk => ?_⟩
  rw [ek] at ekk
  subst ekk
  intro nb h3 eb eh
  obtain ⟨a3, c3, e3, x3, s3, w3⟩ := New.lit (E := eMv) (h0 := h) (n := 0) (L := ([] : List Mv)) (x1.trans x2) eb eh rfl rfl
  cases e3
  refine app_own (n := 0) aMv x3 s3 w3 rfl (s.ext x3) rfl (by omega) ?_
  intro a4 c4 h4 x4 _ s4 w4 _
  have s4' : Sl eMv h4 a4 c4 L := s4.cast (by simp)
  have hll : 0 + L.length = L.length := by omega
  rw [hll]
  obtain ⟨b, o, e0, d⟩ := s4'.at (List.getElem?_eq_getElem hk)
  refine ⟨a4, _, c4, rfl, L[k].hit || (L[k].err != 0), ⟨b, o, e0, by omega, by omega, L[k].hit, d.2.2.2.2.1, fun e => by rw [e]; rfl, fun e => ⟨L[k].err, d.2.2.2.1, by rw [e]; rfl⟩⟩, fun _ => ⟨rfl, x4⟩, fun e4 => ?_⟩
  have hh : L[k].hit = false := by cases q : L[k].hit <;> simp [q] at e4 ⊢
  have he : L[k].err = 0 := by rw [hh] at e4; simpa using e4
  -- one cell written
  have put : ∀ (q : Nat) (v : Value) (m' : Mv), (eMv.enc L[k]).set q v = eMv.enc m' → q < 8 → oneC v = true → ∀ h6, h6 = hset h4 b (o + k * 8 + q) v → Ext h h6 ∧ Sl eMv h6 a4 c4 (L.set k m') ∧ True := by
    intro q v m' hq hq8 _ h6 eh6
    subst e0
    obtain ⟨cs, r1, r2, r3⟩ := w4.row
    have hle := s4'.le
    have k8 : eMv.k = 8 := rfl
    rw [k8] at r2
    refine ⟨w4.grown x4 (by rw [eh6]; exact fr_hset _ fun _ => blkA_of rfl), ?_, trivial⟩
    rw [eh6]
    have hrow := hset_row (o := o + k * 8 + q) (v := v) r1
    refine ⟨by simpa using hle, .inr ⟨b, o, rfl, fun i x hx => HCells.mk fun r u hu => ?_⟩⟩
    have hr8 : r < 8 := by have := (List.getElem?_eq_some_iff.1 hu).1; rw [eMv.len] at this; exact this
    have hil : i < L.length := by have := (List.getElem?_eq_some_iff.1 hx).1; simpa using this
    by_cases hik : i = k
    · subst hik
      rw [List.getElem?_set_self hil] at hx; cases hx
      rw [← hq] at hu
      by_cases hrq : r = q
      · subst hrq
        rw [List.getElem?_set_self (by rw [eMv.len]; exact hr8)] at hu
        cases hu
        rw [k8, hcell_row hrow, Array.getElem?_setIfInBounds]
        simp; omega
      · rw [List.getElem?_set_ne (Ne.symm hrq)] at hu
        rw [k8, hcell_hset_ne (by omega)]
        exact d.get hu
    · rw [List.getElem?_set_ne (Ne.symm hik)] at hx
      rw [k8, hcell_hset_ne (by omega)]
      obtain ⟨b', o', e', d'⟩ := s4'.at hx
      cases e'
      exact d'.get hu
  have hwq : ∀ q, q < 8 → HW h4 b (o + k * 8 + q) := by
    intro q hq
    subst e0
    obtain ⟨cs, r1, r2, r3⟩ := w4.row
    have hle := s4'.le
    have k8 : eMv.k = 8 := rfl
    rw [k8] at r2
    exact HW_row r1 (by omega)
  refine ⟨fun h' => ∃ m' : Mv, m'.kind = L[k].kind ∧ m'.key = L[k].key ∧ m'.val = L[k].val ∧ m'.hit = false ∧ (m'.to < 0 ∨ m'.err = 5) ∧ Ext h h' ∧ Sl eMv h' a4 c4 (L.set k m'), ⟨fun _ => ?_, fun _ => ?_⟩, ?_⟩
  · refine ⟨b, o, e0, by omega, by omega, hwq 7 (by omega), fun h6 eh6 => ?_⟩
    obtain ⟨p1, p2, _⟩ := put 7 (.int .i64 (-1)) ⟨L[k].kind, L[k].key, L[k].val, L[k].err, L[k].hit, L[k].life, L[k].fr, -1⟩ rfl (by omega) rfl h6 eh6
    exact ⟨⟨L[k].kind, L[k].key, L[k].val, L[k].err, L[k].hit, L[k].life, L[k].fr, -1⟩, rfl, rfl, rfl, hh, .inl (by show (-1 : Int) < 0; omega), p1, p2⟩
  · refine ⟨b, o, e0, by omega, by omega, hwq 3 (by omega), fun h6 eh6 => ?_⟩
    obtain ⟨p1, p2, _⟩ := put 3 (.int .i64 5) ⟨L[k].kind, L[k].key, L[k].val, 5, L[k].hit, L[k].life, L[k].fr, L[k].to⟩ rfl (by omega) rfl h6 eh6
    exact ⟨⟨L[k].kind, L[k].key, L[k].val, 5, L[k].hit, L[k].life, L[k].fr, L[k].to⟩, rfl, rfl, rfl, hh, .inr rfl, p1, p2⟩
  · rintro h5 ⟨m', e1, e2, e3, e5, e6, x5, s5⟩
    have hA' := acc_unsure hk e1 e2 e3 hh e5 he e6 hA
    have hlen : L.length = (L.set k m').length := by simp
    rw [hlen]
    refine (accepts_c s5 (by simp; omega)).mono ?_
    rintro _ h8 ⟨x8, ok', n', rfl, acc'⟩
    exact ⟨_, _, rfl, by rw [acc'.ok_iff.2 hA'], x5.trans x8⟩

theorem law_local {h : Heap} {a : Option Addr} {c : Nat} {L : List Mv} (s : Sl eMv h a c L) (hl : L.length ≤ 1048576) :
    HC Try.prog 5 #[.slice a L.length c] h (Yes h) := by
  refine f5_sh _ _ _ _ _ fun h1 x1 => ?_
  refine ⟨fun all i h' => ∃ j : Nat, i = j ∧ j ≤ L.length ∧ Ext h h' ∧ (all = true ↔ ∀ m ∈ L.take j, Acc (ofKey L m.key)), fun _ i _ => L.length - i.toNat, ⟨0, rfl, Nat.zero_le _, x1, by simp⟩, ?_⟩
  rintro all _ h2 ⟨j, rfl, hj, x2, hall⟩
  refine ⟨fun hlt => ?_, fun hge => ?_⟩
  · have hjl := lt_of_dec hlt
    obtain ⟨b, o, e0, d⟩ := (s.ext x2).at (List.getElem?_eq_getElem hjl)
    refine ⟨fun b h' => Ext h h' ∧ (b = true ↔ ∀ m ∈ L.take (j + 1), Acc (ofKey L m.key)), ⟨b, o, e0, by omega, by omega, L[j].key, d.2.1, ?_⟩, ?_⟩
    · rw [← e0]
      refine (of_c (s.ext x2) (by omega) L[j].key).mono ?_
      rintro _ h4 ⟨a4, c4, rfl, x4, s4, _⟩
      have hbl : (ofKey L L[j].key).length ≤ L.length := List.length_filter_le _ _
      refine ⟨a4, _, c4, rfl, (accepts_c s4 (by omega)).mono ?_⟩
      rintro _ h5 ⟨x5, ok, n, rfl, acc⟩
      have x25 := x2.trans (x4.trans x5)
      have key : ∀ b : Bool, (b = true ↔ ((all = true) ∧ ok = true)) → Ext h h5 ∧ (b = true ↔ ∀ m ∈ L.take (j + 1), Acc (ofKey L m.key)) := by
        intro b hb
        refine ⟨x25, ?_⟩
        rw [hb, hall, acc.ok_iff, take_snoc L j hjl]
        simp only [List.mem_append, List.mem_singleton]
        constructor
        · rintro ⟨h1, h2⟩ m (hm | rfl)
          · exact h1 m hm
          · exact h2
        · exact fun h => ⟨fun m hm => h m (.inl hm), h _ (.inr rfl)⟩
      refine ⟨_, _, rfl, fun e => key false ?_, fun e => key all ?_⟩
      · have : ok = false := by simpa using e
        rw [this]; simp
      · have : ok = true := by simpa using e
        rw [this]; simp
    · rintro b h3 ⟨x3, hb⟩
      rw [wadd j (by omega)]
      exact ⟨⟨j + 1, rfl, hjl, x3, hb⟩, by simp only [Int.toNat_natCast]; omega⟩
  · have hjl : j = L.length := by have := ge_of_dec hge; omega
    subst hjl
    rw [List.take_length] at hall
    refine (accepts_c (s.ext x2) (by omega)).mono ?_
    rintro _ h6 ⟨x6, ok, n, rfl, acc⟩
    refine ⟨_, _, rfl, ?_, x2.trans x6⟩
    have : ok = true ↔ all = true := by rw [acc.ok_iff, hall, acc_local]
    have : ok = all := by cases ok <;> cases all <;> simp at this ⊢
    rw [this]; simp
end Go.Proofs.Ytmdgfbhmogjklaa
