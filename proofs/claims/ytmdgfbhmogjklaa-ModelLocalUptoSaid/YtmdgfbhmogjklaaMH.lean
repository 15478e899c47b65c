/-
What the laws lean on: a list that every program must tell as told; lists without one move, and of one key.
-/
import Derived.Test.YtmdgfbhmogjklaaMG
namespace Go.Proofs.Ytmdgfbhmogjklaa
open Go Ml

def kS : Str := ByteArray.mk #[107]
def aS : Str := ByteArray.mk #[97]
def bS : Str := ByteArray.mk #[98]
def l4 : List Mv := [⟨2, kS, aS, 0, false, 0, 0, 1⟩, ⟨2, kS, bS, 5, false, 0, 0, 1⟩, ⟨1, kS, bS, 0, true, 0, 0, 1⟩, ⟨1, kS, aS, 0, true, 0, 0, 1⟩]
theorem l4_bad : bad l4 3 = true := by decide +kernel
theorem l4_ok : ∀ j, j < 3 → bad l4 j = false := by decide +kernel
theorem l3_ok : ∀ j, j < 3 → bad (l4.take 3) j = false := by decide +kernel
theorem l2_ends : ends (l4.take 2) kS = [nil, ⟨true, aS⟩, ⟨true, bS⟩] := by decide +kernel
theorem acc4 : AccR l4 false 3 := .inr ⟨rfl, 3, rfl, by decide, l4_bad, l4_ok⟩
theorem acc3 : AccR (l4.take 3) true 0 := .inl ⟨rfl, rfl, fun i => by
  by_cases hi : i < 3
  · exact l3_ok i hi
  · exact bad_over _ _ (by simp [l4]; omega)⟩

theorem lives_c (h : Heap) : HC Try.prog 12 #[] h fun v h' => v = .bool true ∧ Ext h h' := by
  refine f12_sh _ _ fun h4 x4 nb h5 eb eh => ?_
  obtain ⟨a5, c5, e5, x5, s5, _⟩ := New.lit (E := eMv) (h0 := h) (n := 4) (L := l4) x4 eb eh rfl rfl
  cases e5
  refine (accepts_c s5 (by decide)).mono ?_
  rintro _ h6 ⟨x6, ok, n, rfl, acc⟩
  obtain ⟨rfl, rfl⟩ := acc.unique acc4
  refine ⟨_, _, rfl, by omega, by omega, by omega, fun sl es => ?_⟩
  have s6 := (s5.ext x6).cut (l := 0) (r := 3) (Nat.zero_le _) (by decide)
  rw [es]
  refine (accepts_c (L := (l4.take 3).drop 0) s6 (by decide)).mono ?_
  rintro _ h7 ⟨x7, ok, n, rfl, acc⟩
  obtain ⟨rfl, rfl⟩ := acc.unique acc3
  refine ⟨_, _, rfl, fun b h' => b = true ∧ Ext h h', ⟨fun _ => ⟨fun _ => ⟨fun _ => (start_c h7).mono ?_, fun e => by cases e⟩, fun e => by cases e⟩, fun e => by cases e⟩, ?_⟩
  · rintro _ h9 ⟨a9, c9, rfl, x9, s9, _⟩
    refine ⟨a9, _, c9, rfl, fun nb1 h10 eb1 eh1 => ?_⟩
    obtain ⟨a10, c10, e10, x10, s10, _⟩ := New.lit (E := eMt) (h0 := h9) (n := 1) (L := Ml.start) (Ext.refl h9) eb1 eh1 rfl rfl
    cases e10
    refine (same_c (s9.ext x10) s10 (by decide)).mono ?_
    rintro _ h11 ⟨rfl, rfl⟩
    refine ⟨_, rfl, fun _ => ⟨by omega, by omega, by omega, fun sl1 es1 => ?_⟩, fun e => by simp at e⟩
    have x11 := x6.trans (x7.trans (x9.trans x10))
    have s11 := (s5.ext x11).cut (l := 0) (r := 2) (Nat.zero_le _) (by decide)
    rw [es1]
    refine (ends_c (L := (l4.take 2).drop 0) s11 (by decide) kS).mono ?_
    rintro _ h12 ⟨x12, a12, c12, rfl, s12⟩
    have e2 : ends ((l4.take 2).drop 0) kS = [nil, ⟨true, aS⟩, ⟨true, bS⟩] := l2_ends
    refine ⟨a12, _, c12, rfl, fun nb2 h13 eb2 eh2 => ?_⟩
    obtain ⟨a13, c13, e13, x13, s13, _⟩ := New.lit (E := eMt) (h0 := h12) (n := 3) (L := [nil, ⟨true, aS⟩, ⟨true, bS⟩]) (Ext.refl h12) eb2 eh2 rfl rfl
    cases e13
    refine (same_c (s12.ext x13) s13 (by rw [e2]; decide)).mono ?_
    rintro _ h14 ⟨rfl, rfl⟩
    exact ⟨_, rfl, decide_eq_true e2, x5.trans (x11.trans (x12.trans x13))⟩
  · rintro _ h8 ⟨rfl, x8⟩
    exact ⟨rfl, x8⟩

theorem without_c {h : Heap} {a : Option Addr} {c : Nat} {L : List Mv} (s : Sl eMv h a c L) (hl : L.length ≤ 16777216) {k : Nat} (hk : k < L.length) :
    HC Try.prog 16 #[.slice a L.length c, .int .i64 k] h fun v h' => New eMv tMv h h' v (L.take k ++ L.drop (k + 1)) := by
  have hle := s.le
  refine f16_sh _ _ _ _ _ _ fun nb h1 eb eh => ?_
  obtain ⟨a1, c1, e1, x1, s1, w1⟩ := New.lit (E := eMv) (h0 := h) (n := 0) (L := ([] : List Mv)) (Ext.refl h) eb eh rfl rfl
  cases e1
  rw [wadd k (by omega)]
  refine ⟨by omega, by omega, by omega, fun sl es => ?_⟩
  rw [es]
  refine app_own aMv x1 s1 w1 rfl ((s.ext x1).cut (l := 0) (r := k) (Nat.zero_le _) (by omega)) (by simp; omega) (by simp; omega) ?_
  intro a2 c2 h2 x2 _ s2 w2 _
  refine ⟨a2, _, c2, rfl, by omega, by omega, by omega, fun sl1 es1 => ?_⟩
  rw [es1]
  refine app_own aMv x2 s2 w2 (by simp; omega) ((s.ext x2).cut (l := k + 1) (r := L.length) (by omega) (Nat.le_refl _)) (by simp) (by simp; omega) ?_
  intro a3 c3 h3 x3 _ s3 w3 _
  refine ⟨a3, _, c3, rfl, a3, c3, ?_, x3, s3.cast (by simp), w3⟩
  congr 1; simp; omega

/-- The moves of a key. -/
def ofKey (L : List Mv) (key : Str) : List Mv := L.filter fun m => keyed m && decide (m.key = key)
theorem ofKey_snoc (L : List Mv) (m : Mv) (key : Str) : ofKey (L ++ [m]) key = ofKey L key ++ (if (keyed m && decide (m.key = key)) = true then [m] else []) := by
  unfold ofKey; rw [List.filter_append]; congr 1
  cases h : (keyed m && decide (m.key = key)) <;> simp only [List.filter_cons, List.filter_nil, h, if_true, if_false, Bool.false_eq_true]
theorem of_c {h : Heap} {a : Option Addr} {c : Nat} {L : List Mv} (s : Sl eMv h a c L) (hl : L.length ≤ 16777216) (key : Str) :
    HC Try.prog 17 #[.slice a L.length c, .string key] h fun v h' => New eMv tMv h h' v (ofKey L key) := by
  refine f17_sh _ _ _ _ _ _ ⟨fun a' n' c' v h2 => ∃ j : Nat, v = j ∧ j ≤ L.length ∧ n' = (ofKey (L.take j) key).length ∧ Ext h h2 ∧ Sl eMv h2 a' c' (ofKey (L.take j) key) ∧ Own eMv.k tMv h.size h2 a' c', fun _ _ _ v _ => L.length - v.toNat,
    ⟨0, rfl, Nat.zero_le _, rfl, Ext.refl _, Sl.nil _ _, Own.nil _ _ _ _⟩, ?_⟩
  rintro out _ c' _ h1 ⟨j, rfl, hj, rfl, x1, s1, w1⟩
  refine ⟨fun hlt => ?_, fun hge => ?_⟩
  · have hjl := lt_of_dec hlt
    have eS := take_snoc L j hjl
    have bl : (ofKey (L.take j) key).length ≤ L.length := Nat.le_trans (List.length_filter_le _ _) (by simp; omega)
    obtain ⟨b, o, e0, hc⟩ := (s.ext x1).at (List.getElem?_eq_getElem hjl)
    refine ⟨fun a' n' c' h3 => n' = (ofKey (L.take (j + 1)) key).length ∧ Ext h h3 ∧ Sl eMv h3 a' c' (ofKey (L.take (j + 1)) key) ∧ Own eMv.k tMv h.size h3 a' c',
      ⟨keyed L[j] && decide (L[j].key = key), ⟨b, o, e0, by omega, by omega, L[j].kind, L[j].key, L[j].val, L[j].err, L[j].hit, L[j].life, L[j].fr, L[j].to, hc.1, hc.2.1, hc.2.2.1, hc.2.2.2.1, hc.2.2.2.2.1, hc.2.2.2.2.2.1, hc.2.2.2.2.2.2.1, hc.2.2.2.2.2.2.2.1, fun e => ?_, fun e => ?_⟩, fun e => ?_, fun e h6 x6 => ?_⟩, ?_⟩
    · have : keyed L[j] = true := e
      rw [this]; rfl
    · have : keyed L[j] = false := e
      rw [this]; rfl
    · refine ⟨b, o, e0, by omega, by omega, L[j].kind, L[j].key, L[j].val, L[j].err, L[j].hit, L[j].life, L[j].fr, L[j].to, hc.1, hc.2.1, hc.2.2.1, hc.2.2.2.1, hc.2.2.2.2.1, hc.2.2.2.2.2.1, hc.2.2.2.2.2.2.1, hc.2.2.2.2.2.2.2.1, fun h3 x3 nb h5 eb eh => ?_⟩
      refine app_one (x := L[j]) aMv eb eh rfl (x1.trans x3) (s1.ext x3) (w1.ext x3) rfl (by omega) ?_
      intro a6 c6 h6 x6 _ s6 w6 _
      rw [eS, ofKey_snoc, if_pos e]
      exact ⟨a6, _, c6, rfl, by simp, x6, s6, w6⟩
    · rw [eS, ofKey_snoc, if_neg (by rw [e]; simp), List.append_nil]
      exact ⟨rfl, x1.trans x6, s1.ext x6, w1.ext x6⟩
    · rintro a3 _ c3 h3 ⟨rfl, x3, s3, w3⟩
      rw [wadd j (by omega)]
      exact ⟨⟨j + 1, rfl, hjl, rfl, x3, s3, w3⟩, by simp only [Int.toNat_natCast]; omega⟩
  · have hjl : j = L.length := by have := ge_of_dec hge; omega
    subst hjl
    rw [List.take_length] at *
    exact ⟨out, c', rfl, x1, s1, w1⟩
end Go.Proofs.Ytmdgfbhmogjklaa
