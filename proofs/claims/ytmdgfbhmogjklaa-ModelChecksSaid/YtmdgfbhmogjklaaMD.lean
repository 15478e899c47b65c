/-
The lossy map's functions: fourth part: lists in order.
-/
import Derived.Test.YtmdgfbhmogjklaaMC
namespace Go.Proofs.Ytmdgfbhmogjklaa
open Go Ml

theorem mt_eq (x y : Mt) : (x.has == y.has && (x.val == y.val && true)) = decide (x = y) := by
  obtain ⟨a, b⟩ := x; obtain ⟨c, d⟩ := y
  rw [Bool.eq_iff_iff]
  simp [ba_beq]

theorem same_c {h : Heap} {a b : Option Addr} {c d : Nat} {L M : List Mt} (s : Sl eMt h a c L) (t : Sl eMt h b d M) (hl : L.length ≤ 1099511627776) :
    HC Try.prog 13 #[.slice a L.length c, .slice b M.length d] h fun v h' => v = .bool (decide (L = M)) ∧ h' = h := by
  refine f13_sh _ _ _ _ _ _ _ _ ⟨fun e => ⟨?_, rfl⟩, fun e => ⟨fun i => ∃ j : Nat, i = j ∧ j ≤ L.length ∧ L.take j = M.take j, fun i => L.length - i.toNat, ⟨0, rfl, Nat.zero_le _, by simp⟩, ?_⟩⟩
  · have : L ≠ M := fun h => by subst h; simp at e
    simp [this]
  · have hlm : L.length = M.length := by simp at e; omega
    rintro _ ⟨j, rfl, hj, ht⟩
    refine ⟨fun hlt => ?_, fun hge => ⟨?_, rfl⟩⟩
    · have hjl := lt_of_dec hlt
      have hjm : j < M.length := by omega
      obtain ⟨b1, o1, rfl, c1⟩ := s.at (List.getElem?_eq_getElem hjl)
      obtain ⟨b2, o2, rfl, c2⟩ := t.at (List.getElem?_eq_getElem hjm)
      refine ⟨b1, o1, rfl, by omega, by omega, L[j].has, L[j].val, c1.1, c1.2.1, b2, o2, rfl, by omega, by omega, M[j].has, M[j].val, c2.1, c2.2.1, fun e2 => ⟨?_, rfl⟩, fun e2 => ?_⟩
      · rw [mt_eq] at e2
        have hne : ¬ L[j] = M[j] := by simpa using e2
        have : L ≠ M := fun h => by subst h; exact hne rfl
        simp [this]
      · rw [mt_eq] at e2
        have he : L[j] = M[j] := by simpa using e2
        rw [wadd j (by omega)]
        refine ⟨⟨j + 1, rfl, hjl, ?_⟩, by simp only [Int.toNat_natCast]; omega⟩
        rw [List.take_add_one, List.take_add_one, ht, List.getElem?_eq_getElem hjl, List.getElem?_eq_getElem hjm, he]
    · have hjl := ge_of_dec hge
      rw [List.take_of_length_le hjl, List.take_of_length_le (by omega)] at ht
      simp [ht]

theorem with_c {h : Heap} {a : Option Addr} {c : Nat} {L : List Mt} (s : Sl eMt h a c L) (hl : L.length ≤ 1099511627776) (m : Mt) :
    HC Try.prog 18 #[.slice a L.length c, mtV m] h fun v h' => Ext h h' ∧ Rd eMt h' v (insW L (norm m)) := by
  have hle := s.le
  refine f18_sh _ _ _ _ _ _ _ ⟨fun i => ∃ j : Nat, i = j ∧ j ≤ L.length ∧ ∀ t x, t < j → L[t]? = some x → mlt x (norm m) = true, fun i => L.length - i.toNat, ⟨0, rfl, Nat.zero_le _, fun t x ht => by omega⟩, ?_⟩
  rintro _ ⟨j, rfl, hj, hb⟩
  have fin : (∀ y, L[j]? = some y → mlt y (norm m) = false ∧ y ≠ norm m) → ∀ (m_b : Nat) (h5 : Heap), Array.size h ≤ m_b → m_b < Array.size h5 → Ext h h5 → ∀ nb h7, nb = Array.size h5 → h7 = Array.push h5 (.cells #[] tMt) →
      (0 ≤ (0 : Int) ∧ (0 : Int) ≤ (j : Int) ∧ (j : Int) ≤ (c : Int) ∧ ∀ sl : Option Addr, sl = slA a (Int.toNat 0) 2 c →
        HAppend Try.prog tMts tMts (.slice (some ⟨nb, 0, none⟩) 0 0) (.slice sl (Int.toNat (j : Int) - Int.toNat 0) (c - Int.toNat 0)) h7 (fun vv h8 => Kp [m_b] h7 h8 ∧ ∃ ap : Option Addr, ∃ ap_n ap_c : Nat, vv = (.slice ap ap_n ap_c) ∧
          (∀ nb_1 h9, nb_1 = Array.size h8 → h9 = Array.push h8 (.cells #[(.bool m.has), (.string (bif !m.has then ByteArray.empty else m.val))] tMt) →
            HAppend Try.prog tMts tMts (.slice ap ap_n ap_c) (.slice (some ⟨nb_1, 0, none⟩) 1 1) h9 (fun vv h10 => ∃ ap_1 : Option Addr, ∃ ap_n_1 ap_c_1 : Nat, vv = (.slice ap_1 ap_n_1 ap_c_1) ∧
              (0 ≤ (j : Int) ∧ (j : Int) ≤ (L.length : Int) ∧ (L.length : Int) ≤ (c : Int) ∧ ∀ sl_1 : Option Addr, sl_1 = slA a (Int.toNat (j : Int)) 2 c →
                HAppend Try.prog tMts tMts (.slice ap_1 ap_n_1 ap_c_1) (.slice sl_1 (Int.toNat (L.length : Int) - Int.toNat (j : Int)) (c - Int.toNat (j : Int))) h10 (fun vv h11 => ∃ ap_2 : Option Addr, ∃ ap_n_2 ap_c_2 : Nat, vv = (.slice ap_2 ap_n_2 ap_c_2) ∧ (Ext h h11 ∧ Rd eMt h11 (.slice ap_2 ap_n_2 ap_c_2) (insW L (norm m))))))))) := by
    intro hn m_b h5 lo lt5 x5 nb h7 eb eh
    have hmb : m_b ≠ nb := by omega
    refine ⟨by omega, by omega, by omega, fun sl es => ?_⟩
    subst es
    obtain ⟨a0, c0, e0, x0, s0, w0⟩ := New.lit (E := eMt) (h0 := h) (n := 0) (L := ([] : List Mt)) x5 eb eh rfl rfl
    cases e0
    refine app_own aMt x0 s0 w0 rfl ((s.ext x0).cut (l := 0) (r := j) (Nat.zero_le _) hj) (by simp; omega) (by simp; omega) ?_
    intro a1 c1 h8 x8 f8 s8 w8 _
    refine ⟨f8.kp fun b hb => by simp at hb; subst hb; rw [blkA_some]; exact hmb, a1, _, c1, rfl, ?_⟩
    intro nb1 h9 eb1 eh1
    refine app_one (x := norm m) aMt eb1 eh1 rfl x8 s8 w8 (by simp; omega) (by simp; omega) ?_
    intro a2 c2 h10 x10 _ s10 w10 _
    refine ⟨a2, _, c2, rfl, by omega, by omega, by omega, fun sl1 es1 => ?_⟩
    subst es1
    refine app_own aMt x10 s10 w10 (by simp; omega) ((s.ext x10).cut (l := j) (r := L.length) hj (Nat.le_refl _)) (by simp) (by simp; omega) ?_
    intro a3 c3 h11 x11 _ s11 _ _
    refine ⟨a3, _, c3, rfl, x11, a3, c3, ?_, s11.cast ?_⟩
    · rw [insW_at L (norm m) j hj hb (fun y hy => (hn y hy).1), if_neg (fun h => (hn _ h).2 rfl)]
      congr 1; simp; omega
    · rw [insW_at L (norm m) j hj hb (fun y hy => (hn y hy).1), if_neg (fun h => (hn _ h).2 rfl)]
      simp
  by_cases hjl : j < L.length
  · have hx := List.getElem?_eq_getElem hjl
    obtain ⟨b, o, e0, hc⟩ := s.at hx
    refine ⟨mlt L[j] (norm m), ⟨fun _ => ⟨b, o, e0, by omega, by omega, L[j].has, L[j].val, hc.1, hc.2.1, rfl⟩, fun e => absurd (ge_of_dec e) (by omega)⟩, fun e => ?_, fun e => ?_⟩
    · rw [wadd j (by omega)]
      refine ⟨⟨j + 1, rfl, hjl, fun t x ht hx' => ?_⟩, by simp only [Int.toNat_natCast]; omega⟩
      by_cases htj : t = j
      · subst htj; rw [hx] at hx'; cases hx'; exact e
      · exact hb t x (by omega) hx'
    · refine ⟨decide (L[j] = norm m), ⟨fun _ => ⟨b, o, e0, by omega, by omega, L[j].has, L[j].val, hc.1, hc.2.1, (mt_eq L[j] (norm m)).symm⟩, fun e => absurd (ge_of_dec e) (by omega)⟩, fun e2 h5 x5 => ?_, fun e2 => ?_⟩
      · have he : L[j] = norm m := by simpa using e2
        have := insW_at L (norm m) j hj hb (fun y hy => by rw [hx] at hy; cases hy; exact e)
        rw [hx, he, if_pos rfl] at this
        rw [this]
        exact ⟨x5, a, c, rfl, s.ext x5⟩
      · have hne : ¬ L[j] = norm m := by simpa using e2
        exact fin fun y hy => by rw [hx] at hy; cases hy; exact ⟨e, hne⟩
  · refine ⟨false, ⟨fun e => absurd (lt_of_dec e) hjl, fun _ => rfl⟩, fun e => (by cases e), fun _ => ⟨false, ⟨fun e => absurd (lt_of_dec e) hjl, fun _ => rfl⟩, fun e => (by cases e), fun _ => ?_⟩⟩
    exact fin fun y hy => absurd (List.getElem?_eq_some_iff.1 hy).1 hjl
end Go.Proofs.Ytmdgfbhmogjklaa
