/-
Lists of moves: what each key may be in the end, and which lists may be told: the program's way, and the document's.
-/
import Derived.Test.YtmdgfbhmogjklaaShE
namespace Go.Proofs.Ytmdgfbhmogjklaa
open Go Ml

theorem dec_key (x y : Str) (b : Bool) : (b && decide (x = y)) = true ↔ b = true ∧ x = y := by simp
theorem take_snoc {β : Type} (L : List β) (j : Nat) (h : j < L.length) : L.take (j + 1) = L.take j ++ [L[j]] := by
  rw [List.take_add_one, List.getElem?_eq_getElem h]; rfl
theorem bad_at (L : List Mv) (j : Nat) (h : j < L.length) : bad L j = (keyed L[j] && (ends (L.take (j + 1)) L[j].key).isEmpty) := by
  unfold bad; rw [List.getElem?_eq_getElem h]
theorem bad_over (L : List Mv) (j : Nat) (h : L.length ≤ j) : bad L j = false := by
  unfold bad; rw [List.getElem?_eq_none h]
theorem ends_bound (L : List Mv) (j : Nat) (key : Str) (hl : L.length ≤ 16777216) : (ends (L.take j) key).length ≤ 33554433 := by
  have h1 := ends_len (L.take j) key
  have h2 : (L.take j).length ≤ L.length := by simp; omega
  omega

theorem ends_c {h : Heap} {a : Option Addr} {c : Nat} {L : List Mv} (s : Sl eMv h a c L) (hl : L.length ≤ 16777216) (key : Str) :
    HC Try.prog 14 #[.slice a L.length c, .string key] h fun v h' => Ext h h' ∧ Rd eMt h' v (ends L key) := by
  refine f14_sh _ _ _ _ _ _ ((start_c h).mono ?_)
  rintro _ h1 ⟨a1, c1, rfl, x1, s1, _⟩
  refine ⟨a1, _, c1, rfl, fun a' n' c' v h2 => ∃ j : Nat, v = j ∧ j ≤ L.length ∧ n' = (ends (L.take j) key).length ∧ Ext h h2 ∧ Sl eMt h2 a' c' (ends (L.take j) key), fun _ _ _ v _ => L.length - v.toNat, ⟨0, rfl, Nat.zero_le _, rfl, x1, s1⟩, ?_⟩
  rintro out _ c' _ h2 ⟨j, rfl, hj, rfl, x2, s2⟩
  refine ⟨fun hlt => ?_, fun hge => ?_⟩
  · have hjl := lt_of_dec hlt
    have eS := take_snoc L j hjl
    obtain ⟨b, o, e0, hc⟩ := (s.ext x2).at (List.getElem?_eq_getElem hjl)
    refine ⟨fun a' n' c' h3 => n' = (ends (L.take (j + 1)) key).length ∧ Ext h h3 ∧ Sl eMt h3 a' c' (ends (L.take (j + 1)) key), ⟨b, o, e0, by omega, by omega, L[j].kind, L[j].key, L[j].val, L[j].err, L[j].hit, L[j].life, L[j].fr, L[j].to, hc.1, hc.2.1, hc.2.2.1, hc.2.2.2.1, hc.2.2.2.2.1, hc.2.2.2.2.2.1, hc.2.2.2.2.2.2.1, hc.2.2.2.2.2.2.2.1, fun e h6 x6 => ?_, fun e h6 x6 => ?_⟩, ?_⟩
    · have e' : keyed L[j] = true ∧ L[j].key = key := (dec_key _ _ _).1 e
      refine (next_c (s2.ext x6) (by have := ends_bound L j key hl; omega) L[j]).mono ?_
      rintro _ h8 ⟨a8, c8, rfl, x8, s8, _⟩
      refine ⟨a8, _, c8, rfl, ?_, x2.trans (x6.trans x8), ?_⟩
      · rw [eS, ends_snoc, if_pos e']
      · rw [eS, ends_snoc, if_pos e']; exact s8
    · have e' : ¬ (keyed L[j] = true ∧ L[j].key = key) := fun h => by
        have := (dec_key _ _ _).2 h
        rw [show (keyed L[j] && decide (L[j].key = key)) = false from e] at this; cases this
      rw [eS, ends_snoc, if_neg e']
      exact ⟨rfl, x2.trans x6, s2.ext x6⟩
    · rintro a3 _ c3 h3 ⟨rfl, x3, s3⟩
      rw [wadd j (by omega)]
      exact ⟨⟨j + 1, rfl, hjl, rfl, x3, s3⟩, by simp only [Int.toNat_natCast]; omega⟩
  · have hjl : j = L.length := by have := ge_of_dec hge; omega
    subst hjl
    rw [List.take_length] at *
    exact ⟨x2, out, c', rfl, s2⟩

theorem rends_c {h : Heap} {a : Option Addr} {c : Nat} {L : List Mv} (s : Sl eMv h a c L) (hl : L.length ≤ 16777216) (key : Str) :
    HC Try.prog 15 #[.slice a L.length c, .string key] h fun v h' => Ext h h' ∧ Rd eMt h' v (ends L key) := by
  refine f15_sh _ _ _ _ _ _ ((rstart_c h).mono ?_)
  rintro _ h1 ⟨a1, c1, rfl, x1, s1, _⟩
  refine ⟨a1, _, c1, rfl, fun a' n' c' v h2 => ∃ j : Nat, v = j ∧ j ≤ L.length ∧ n' = (ends (L.take j) key).length ∧ Ext h h2 ∧ Sl eMt h2 a' c' (ends (L.take j) key), fun _ _ _ v _ => L.length - v.toNat, ⟨0, rfl, Nat.zero_le _, rfl, x1, s1⟩, ?_⟩
  rintro out _ c' _ h2 ⟨j, rfl, hj, rfl, x2, s2⟩
  refine ⟨fun hlt => ?_, fun hge => ?_⟩
  · have hjl := lt_of_dec hlt
    have eS := take_snoc L j hjl
    obtain ⟨b, o, e0, hc⟩ := (s.ext x2).at (List.getElem?_eq_getElem hjl)
    refine ⟨fun a' n' c' h3 => n' = (ends (L.take (j + 1)) key).length ∧ Ext h h3 ∧ Sl eMt h3 a' c' (ends (L.take (j + 1)) key),
      ⟨keyed L[j] && decide (L[j].key = key), ⟨b, o, e0, by omega, by omega, L[j].kind, L[j].key, L[j].val, L[j].err, L[j].hit, L[j].life, L[j].fr, L[j].to, hc.1, hc.2.1, hc.2.2.1, hc.2.2.2.1, hc.2.2.2.2.1, hc.2.2.2.2.2.1, hc.2.2.2.2.2.2.1, hc.2.2.2.2.2.2.2.1, fun e => ?_, fun e => ?_⟩, fun e => ?_, fun e h6 x6 => ?_⟩, ?_⟩
    · have : keyed L[j] = true := e
      rw [this]; rfl
    · have : keyed L[j] = false := e
      rw [this]; rfl
    · have e' : keyed L[j] = true ∧ L[j].key = key := (dec_key _ _ _).1 e
      refine ⟨b, o, e0, by omega, by omega, L[j].kind, L[j].key, L[j].val, L[j].err, L[j].hit, L[j].life, L[j].fr, L[j].to, hc.1, hc.2.1, hc.2.2.1, hc.2.2.2.1, hc.2.2.2.2.1, hc.2.2.2.2.2.1, hc.2.2.2.2.2.2.1, hc.2.2.2.2.2.2.2.1, fun h6 x6 => ?_⟩
      refine (rnext_c (s2.ext x6) (by have := ends_bound L j key hl; omega) (ends_nm _ _) L[j]).mono ?_
      rintro _ h8 ⟨x8, a8, c8, rfl, s8⟩
      refine ⟨a8, _, c8, rfl, ?_, x2.trans (x6.trans x8), ?_⟩
      · rw [eS, ends_snoc, if_pos e']
      · rw [eS, ends_snoc, if_pos e']; exact s8
    · have e' : ¬ (keyed L[j] = true ∧ L[j].key = key) := fun h => by
        rw [(dec_key _ _ _).2 h] at e; cases e
      rw [eS, ends_snoc, if_neg e']
      exact ⟨rfl, x2.trans x6, s2.ext x6⟩
    · rintro a3 _ c3 h3 ⟨rfl, x3, s3⟩
      rw [wadd j (by omega)]
      exact ⟨⟨j + 1, rfl, hjl, rfl, x3, s3⟩, by simp only [Int.toNat_natCast]; omega⟩
  · have hjl : j = L.length := by have := ge_of_dec hge; omega
    subst hjl
    rw [List.take_length] at *
    exact ⟨x2, out, c', rfl, s2⟩

/-- What the map of the keys holds behind some moves. -/
def Knows (h : Heap) (kv : List (ByteArray × Value)) (L : List Mv) : Prop :=
  ∀ key, (lk kv key = none → ends L key = Ml.start) ∧ ∀ v, lk kv key = some v → Rd eMt h v (ends L key)

theorem accepts_c {h : Heap} {a : Option Addr} {c : Nat} {L : List Mv} (s : Sl eMv h a c L) (hl : L.length ≤ 16777216) :
    HC Try.prog 10 #[.slice a L.length c] h fun v h' => Ext h h' ∧ ∃ ok n, v = .tuple #[.bool ok, .int .i64 n] ∧ AccR L ok n := by
  refine f10_sh _ _ _ _ _ fun mb h1 eb x1 _ m1 => ?_
  refine ⟨fun v h2 => ∃ (j : Nat) (kv : List (ByteArray × Value)), v = j ∧ j ≤ L.length ∧ Ext h h2 ∧ MapL h2 mb Value.string kv ∧ Knows h2 kv (L.take j) ∧ ∀ i, i < j → bad L i = false, fun v _ => L.length - v.toNat,
    ⟨0, [], rfl, Nat.zero_le _, x1, m1, fun key => ⟨fun _ => rfl, fun v hv => by cases hv⟩, fun i hi => by omega⟩, ?_⟩
  rintro _ h2 ⟨j, kv, rfl, hj, x2, m2, kn, hb⟩
  have hmb : h.size ≤ mb := by omega
  refine ⟨fun hlt => ?_, fun hge => ?_⟩
  · have hjl := lt_of_dec hlt
    have eS := take_snoc L j hjl
    obtain ⟨b, o, e0, hc⟩ := (s.ext x2).at (List.getElem?_eq_getElem hjl)
    refine ⟨fun h3 => ∃ kv, Ext h h3 ∧ MapL h3 mb Value.string kv ∧ Knows h3 kv (L.take (j + 1)) ∧ bad L j = false, ⟨b, o, e0, by omega, by omega, L[j].kind, L[j].key, L[j].val, L[j].err, L[j].hit, L[j].life, L[j].fr, L[j].to, hc.1, hc.2.1, hc.2.2.1, hc.2.2.2.1, hc.2.2.2.2.1, hc.2.2.2.2.2.1, hc.2.2.2.2.2.2.1, hc.2.2.2.2.2.2.2.1, fun e h6 x6 => ?_, fun e => ?_⟩, ?_⟩
    · have e' : keyed L[j] = false := by
        have : (!keyed L[j]) = true := e
        simpa using this
      refine ⟨kv, x2.trans x6, m2.ext x6, fun key => ?_, by rw [bad_at L j hjl, e']; rfl⟩
      rw [eS, ends_snoc, if_neg (fun h => by rw [e'] at h; cases h.1)]
      exact ⟨(kn key).1, fun v hv => let ⟨a, c, e, s⟩ := (kn key).2 v hv; ⟨a, c, e, s.ext x6⟩⟩
    · have e' : keyed L[j] = true := by
        have : (!keyed L[j]) = false := e
        simpa using this
      have eE : ends (L.take (j + 1)) L[j].key = next (ends (L.take j) L[j].key) L[j] := by rw [eS, ends_snoc, if_pos ⟨e', rfl⟩]
      have hbd := ends_bound L j L[j].key hl
      -- what it was
      have was : ∃ a7 n7 c7, (lk kv L[j].key).getD (.slice none 0 0) = .slice a7 n7 c7 ∧ (lk kv L[j].key ≠ none → n7 = (ends (L.take j) L[j].key).length ∧ Sl eMt h2 a7 c7 (ends (L.take j) L[j].key)) := by
        cases hk : lk kv L[j].key with
        | none => exact ⟨none, 0, 0, rfl, fun h => absurd rfl h⟩
        | some v =>
          obtain ⟨a7, c7, e7, s7⟩ := (kn L[j].key).2 v hk
          exact ⟨a7, _, c7, e7, fun _ => ⟨rfl, s7⟩⟩
      obtain ⟨a7, n7, c7, ew, hw⟩ := was
      refine ⟨kv, m2, a7, n7, c7, ew, fun a' n' c' h7 => n' = (ends (L.take j) L[j].key).length ∧ Ext h2 h7 ∧ Sl eMt h7 a' c' (ends (L.take j) L[j].key), ⟨fun hk m_b h6 _ _ x6 => ?_, fun hk h6 x6 => ?_⟩, ?_⟩
      · have hk' : lk kv L[j].key = none := by
          cases hq : lk kv L[j].key with
          | none => rfl
          | some v =>
            have : (!(lk kv L[j].key).isSome) = true := hk
            rw [hq] at this; cases this
        rw [(kn L[j].key).1 hk']
        refine (start_c h6).mono ?_
        rintro _ h8 ⟨a8, c8, rfl, x8, s8, _⟩
        exact ⟨x8.kp _, a8, _, c8, rfl, rfl, x6.trans x8, s8⟩
      · have hk' : lk kv L[j].key ≠ none := fun hq => by
          have : (!(lk kv L[j].key).isSome) = false := hk
          rw [hq] at this; cases this
        obtain ⟨e1, e2⟩ := hw hk'
        exact ⟨e1, x6, e2.ext x6⟩
      · rintro a8 _ c8 h7 ⟨rfl, x7, s7⟩ m_b lo lt
        refine (next_c s7 (by omega) L[j]).mono ?_
        rintro _ h9 ⟨a9, c9, rfl, x9, s9, _⟩
        refine ⟨x9.kp _, a9, _, c9, rfl, fun e0 => ?_, fun e0 => ?_⟩
        · refine ⟨x2.trans (x7.trans x9), false, j, rfl, .inr ⟨rfl, j, rfl, hjl, ?_, hb⟩⟩
          rw [bad_at L j hjl, e', eE]
          have : (next (ends (L.take j) L[j].key) L[j]).length = 0 := by simp at e0; simp [e0]
          rw [List.length_eq_zero_iff.1 this]; rfl
        · have m9 := m2.ext (x7.trans x9)
          refine ⟨kv, m9, fun h10 o10 m10 => ⟨_, ext_only (x2.trans (x7.trans x9)) o10 hmb, m10, fun key => ?_, ?_⟩⟩
          · rw [lk_kput]
            by_cases hk : key = L[j].key
            · subst hk
              rw [if_pos rfl, eE]
              exact ⟨fun h => (by cases h), fun v hv => (by cases hv; exact ⟨a9, c9, rfl, s9.only o10 m9⟩)⟩
            · rw [if_neg hk, eS, ends_snoc, if_neg (fun h => hk h.2.symm)]
              exact ⟨(kn key).1, fun v hv => let ⟨a, c, e, s⟩ := (kn key).2 v hv; ⟨a, c, e, (s.ext (x7.trans x9)).only o10 m9⟩⟩
          · rw [bad_at L j hjl, e', eE]
            cases hq : next (ends (L.take j) L[j].key) L[j] with
            | nil => rw [hq] at e0; simp at e0
            | cons y ys => rfl
    · rintro h3 ⟨kv3, x3, m3, kn3, hb3⟩
      rw [wadd j (by omega)]
      refine ⟨⟨j + 1, kv3, rfl, hjl, x3, m3, kn3, fun i hi => ?_⟩, by simp only [Int.toNat_natCast]; omega⟩
      by_cases hij : i = j
      · subst hij; exact hb3
      · exact hb i (by omega)
  · have hjl := ge_of_dec hge
    refine ⟨x2, true, 0, rfl, .inl ⟨rfl, rfl, fun i => ?_⟩⟩
    by_cases hi : i < j
    · exact hb i hi
    · exact bad_over L i (by omega)

theorem raccepts_c {h : Heap} {a : Option Addr} {c : Nat} {L : List Mv} (s : Sl eMv h a c L) (hl : L.length ≤ 16777216) :
    HC Try.prog 11 #[.slice a L.length c] h fun v h' => Ext h h' ∧ ∃ ok n, v = .tuple #[.bool ok, .int .i64 n] ∧ AccR L ok n := by
  have hle := s.le
  refine f11_sh _ _ _ _ _ ⟨fun v h2 => ∃ j : Nat, v = j ∧ j ≤ L.length ∧ Ext h h2 ∧ ∀ i, i < j → bad L i = false, fun v _ => L.length - v.toNat, ⟨0, rfl, Nat.zero_le _, Ext.refl _, fun i hi => by omega⟩, ?_⟩
  rintro _ h1 ⟨j, rfl, hj, x1, hb⟩
  refine ⟨fun hlt => ?_, fun hge => ?_⟩
  · have hjl := lt_of_dec hlt
    rw [wadd j (by omega)]
    obtain ⟨b, o, e0, hc⟩ := (s.ext x1).at (List.getElem?_eq_getElem hjl)
    refine ⟨fun q h2 => q = bad L j ∧ Ext h h2, ⟨b, o, e0, by omega, by omega, L[j].kind, L[j].key, L[j].val, L[j].err, L[j].hit, L[j].life, L[j].fr, L[j].to, hc.1, hc.2.1, hc.2.2.1, hc.2.2.2.1, hc.2.2.2.2.1, hc.2.2.2.2.2.1, hc.2.2.2.2.2.2.1, hc.2.2.2.2.2.2.2.1, fun e => ?_, fun e h3 x3 => ?_⟩, ?_⟩
    · have e' : keyed L[j] = true := e
      refine ⟨by omega, by omega, by omega, fun sl es h3 x3 => ?_⟩
      rw [← e0] at es
      have s3 := (s.ext (x1.trans x3)).cut (l := 0) (r := j + 1) (Nat.zero_le _) hjl
      have en : Int.toNat ((j + 1 : Nat) : Int) - Int.toNat 0 = ((L.take (j + 1)).drop 0).length := by simp; omega
      rw [es, en]
      refine (rends_c s3 (by simp; omega) L[j].key).mono ?_
      rintro _ h4 ⟨x4, a4, c4, rfl, s4⟩
      refine ⟨a4, _, c4, rfl, ?_, x1.trans (x3.trans x4)⟩
      rw [bad_at L j hjl, e', List.drop_zero]
      cases ends (L.take (j + 1)) L[j].key with
      | nil => rfl
      | cons y ys => simp; omega
    · have e' : keyed L[j] = false := e
      exact ⟨by rw [bad_at L j hjl, e']; rfl, x1.trans x3⟩
    · rintro _ h2 ⟨rfl, x2⟩
      refine ⟨fun e => ?_, fun e => ?_⟩
      · exact ⟨x2, false, j, rfl, .inr ⟨rfl, j, rfl, hjl, e, hb⟩⟩
      · refine ⟨⟨j + 1, rfl, hjl, x2, fun i hi => ?_⟩, by simp only [Int.toNat_natCast]; omega⟩
        by_cases hij : i = j
        · subst hij; exact e
        · exact hb i (by omega)
  · have hjl := ge_of_dec hge
    refine ⟨x1, true, 0, rfl, .inl ⟨rfl, rfl, fun i => ?_⟩⟩
    by_cases hi : i < j
    · exact hb i hi
    · exact bad_over L i (by omega)
end Go.Proofs.Ytmdgfbhmogjklaa
