import Derived.Test.YthjehlocmikchaaDoorDvSli
import Derived.Test.YthjehlocmikchaaDoorDvPrv
namespace Go.Proofs.YthjehlocmikchaaDoor
open Go
theorem Sl.set1 {α : Type} {E : Elt α} {h : Heap} {b o c : Nat} {L : List α} {T : TypeId} {N : Nat} (s : Sl E h (some ⟨b, o, none⟩) c L) (w : Own E.k T N h (some ⟨b, o, none⟩) c) {i r : Nat} {x x' : α} {v : Value} (hx : L[i]? = some x) (hr : r < E.k) (he : E.enc x' = (E.enc x).set r v) :
    Sl E (hset h b (o + i * E.k + r) v) (some ⟨b, o, none⟩) c (L.set i x') := by
  obtain ⟨cs, hrow, hcs, _⟩ := w.row
  have hi := (List.getElem?_eq_some_iff.1 hx).1
  have hle := s.le
  have f1 : (i + 1) * E.k ≤ c * E.k := Nat.mul_le_mul_right _ (by omega)
  rw [Nat.add_mul] at f1
  have hat : hcell (hset h b (o + i * E.k + r) v) b (o + i * E.k + r) = some v := by
    have hb : o + i * E.k + r < cs.size := by omega
    rw [hcell_row (hset_row hrow), Array.getElem?_setIfInBounds]; simp [hb]
  refine ⟨by simpa using s.le, .inr ⟨b, o, rfl, fun j y hy => ?_⟩⟩
  rw [List.getElem?_set] at hy
  split at hy
  · rename_i hij
    subst hij
    cases hy
    obtain ⟨b', o', e, hc⟩ := s.at hx
    cases e
    refine HCells.mk fun q u hu => ?_
    rw [he, List.getElem?_set] at hu
    split at hu
    · rename_i hq
      subst hq
      rw [if_pos (by rw [E.len]; exact hr)] at hu
      cases hu; exact hat
    · rename_i hq
      rw [hcell_hset_ne (by omega)]
      exact hc.get hu
  · rename_i hij
    obtain ⟨b', o', e, hc⟩ := s.at hy
    cases e
    refine HCells.mk fun q u hu => ?_
    have hq := (List.getElem?_eq_some_iff.1 hu).1
    rw [E.len] at hq
    rw [hcell_hset_ne ?_]
    · exact hc.get hu
    · rcases Nat.lt_or_gt_of_ne hij with g | g
      · have : (i + 1) * E.k ≤ j * E.k := Nat.mul_le_mul_right _ g
        rw [Nat.add_mul] at this; omega
      · have : (j + 1) * E.k ≤ i * E.k := Nat.mul_le_mul_right _ g
        rw [Nat.add_mul] at this; omega
theorem Sl.word {α : Type} {E : Elt α} {h : Heap} {b o c : Nat} {L : List α} {T : TypeId} {N : Nat} (s : Sl E h (some ⟨b, o, none⟩) c L) (w : Own E.k T N h (some ⟨b, o, none⟩) c) {i r : Nat} {x' : α} {v : Value} (hi : i < L.length) (hr : r < E.k) (he : E.enc x' = (E.enc L[i]).set r v) {p : Nat} (hp : p = o + i * E.k + r) :
    HW h b p ∧ ∀ h', h' = hset h b p v → Sl E h' (some ⟨b, o, none⟩) c (L.set i x') ∧ Own E.k T N h' (some ⟨b, o, none⟩) c ∧ Fr (fun x => x = b) h h' := by
  subst hp
  obtain ⟨cs, h1, h2, _⟩ := w.row
  have hle := s.le
  have f1 : L.length * E.k ≤ c * E.k := Nat.mul_le_mul_right _ hle
  have f2 : (i + 1) * E.k ≤ L.length * E.k := Nat.mul_le_mul_right _ hi
  rw [Nat.add_mul] at f2
  refine ⟨HW_row h1 (by omega), ?_⟩
  rintro h' rfl
  exact ⟨s.set1 w (List.getElem?_eq_getElem hi) hr he, Own.hsets w b _ [v], fr_hset _ fun _ => rfl⟩
end Go.Proofs.YthjehlocmikchaaDoor
