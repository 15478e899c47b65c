import Derived.Test.YthjehlocmikchaaDoorDvUA
namespace Go.Proofs.YthjehlocmikchaaDoor
namespace Sc
open Go
theorem ba_refl (a : ByteArray) : (a == a) = true := by
 obtain ⟨x⟩ := a
 show (x == x) = true
 simp
section
variable {h : Heap} {a b : Option Addr} {c d : Nat}
theorem copied_c {L : List Int} (s : Sl eB h a c L) (hl : L.length ≤ 140737488355328) : HC Tryd.prog 11 #[.slice a L.length c] h fun v h' => ∃ a' c', v = .slice a' L.length c' ∧ Ext h h' ∧ Sl eB h' a' c' L ∧ Own eB.k tB h.size h' a' c' := by
 refine f11_sh _ _ _ _ _ fun nb h1 en e1 => ?_
 have x1 : Ext h h1 := by rw [e1]; exact Ext.push _ _
 have hrow : h1[nb]? = some (.cells (([] : List Int).flatMap eB.enc).toArray tB (0, 0)) := by rw [e1]; exact push_new en
 have := app_own (E := eB) (h0 := h) (n := 0) (n2 := L.length) aB x1 (Sl.lit hrow) (Own.lit hrow (by omega)) rfl (s.ext x1) rfl (by omega) (K := fun v h2 => ∃ ap : Option Addr, ∃ ap_n ap_c : Nat, v = (.slice ap ap_n ap_c) ∧ ∃ a' c', (Value.slice ap ap_n ap_c) = .slice a' L.length c' ∧ Ext h h2 ∧ Sl eB h2 a' c' L ∧ Own eB.k tB h.size h2 a' c') fun a' c' h' x' _ s' w' _ => ⟨a', _, c', rfl, a', c', by rw [Nat.zero_add], x', by simpa using s', w'⟩
 exact this
theorem found_eq {L : List Fo} (s : Sl eFo h a c L) (t : Sl eFo h b d L) (hl : L.length ≤ 4611686018427387903) : HC Tryd.prog 19 #[.slice a L.length c, .slice b L.length d] h fun v h' => v = .bool true ∧ h' = h := by
 refine f19_sh _ _ _ _ _ _ _ _ ⟨fun e => (by simp at e), fun _ => ⟨fun v => ∃ k : Nat, v = k ∧ k ≤ L.length, fun v => L.length - v.toNat, ⟨0, rfl, Nat.zero_le _⟩, ?_⟩⟩
 rintro _ ⟨k, rfl, hk⟩
 refine ⟨fun e => ?_, fun _ => ⟨rfl, rfl⟩⟩
 have hkl := lt_of_dec e
 obtain ⟨b1, o1, e1, d1⟩ := s.at (List.getElem?_eq_getElem hkl)
 obtain ⟨b2, o2, e2, d2⟩ := t.at (List.getElem?_eq_getElem hkl)
 refine ⟨b1, o1, e1, by omega, by omega, _, _, _, _, _, _, _, d1.1, d1.2.1, d1.2.2.1, d1.2.2.2.1, d1.2.2.2.2.1, d1.2.2.2.2.2.1, d1.2.2.2.2.2.2.1, b2, o2, e2, by omega, by omega, _, _, _, _, _, _, _, d2.1, d2.2.1, d2.2.2.1, d2.2.2.2.1, d2.2.2.2.2.1, d2.2.2.2.2.2.1, d2.2.2.2.2.2.2.1, fun e => ?_, fun _ => ?_⟩
 ·simp [ba_refl] at e
 ·rw [wadd k (by omega)]
  exact ⟨⟨k + 1, rfl, hkl⟩, by simp only [Int.toNat_natCast]; omega⟩
theorem same_eq {S : Su} (s : Sl eFo h a c S.recs) (t : Sl eFo h b d S.recs) (hl : S.recs.length ≤ 4611686018427387903) : HC Tryd.prog 14 #[.agg (S.cs a S.recs.length c).toArray, .agg (S.cs b S.recs.length d).toArray] h fun v h' => v = .bool true ∧ Ext h h' := by
 refine f14_sh _ _ _ _ _ _ _ _ _ _ _ _ _ _ _ _ _ _ _ _ _ _ _ _ ⟨true, ⟨fun _ => ⟨fun _ => ⟨fun _ p q h2 _ _ _ _ x2 => ⟨true, found_eq (s.ext x2) (t.ext x2) hl, fun _ => ⟨fun _ => by simp, fun e => by simp at e⟩, fun e => by cases e⟩, fun e => by simp at e⟩, fun e => by simp at e⟩, fun e => by simp at e⟩, fun h2 x2 => ⟨rfl, x2⟩⟩
end
theorem sur_len {g : Geo} {rg : Int} {L : List Int} : (surOf g rg L).1.recs.length ≤ L.length := by
 unfold surOf
 split
 ·exact Nat.zero_le _
 ·split
  ·exact Nat.zero_le _
  ·split
   ·exact Nat.zero_le _
   ·split
    ·exact Nat.zero_le _
    ·exact goOn_len _ _ _ _ _ _
end Sc
end Go.Proofs.YthjehlocmikchaaDoor
