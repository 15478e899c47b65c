/-
slices.SortFunc at elements of one cell, told of heaps.
-/
import Derived.Test.YtfdgjgjcppfmiaaSrt
namespace Go.Proofs.Ytfdgjgjcppfmiaa
open Go Go.Shelf Go.Sort

section
variable {α : Type} [Inhabited α]
/-- Elements of one cell. -/
def eOne (enc : α → Value) (h1 : OneCell enc) : Elt α := ⟨1, fun x => [enc x], fun _ => rfl, fun x v hv => by simp at hv; subst hv; rw [← one_eq]; exact h1 x⟩

theorem holds1 {enc : α → Value} {h1 : OneCell enc} {T : TypeId} {N : Nat} {b o c : Nat} {L : List α} {w : World} (s : Sl (eOne enc h1) w.heap (some ⟨b, o, none⟩) c L) (ow : Own 1 T N w.heap (some ⟨b, o, none⟩) c) : Holds enc w b o L.toArray := by
  intro j hj
  have hj' : j < L.length := by simpa using hj
  obtain ⟨b', o', e, hc⟩ := s.at (List.getElem?_eq_getElem hj')
  cases e
  have h2 : hcell w.heap b (o + j * 1) = some (enc L[j]) := hc.1
  rw [Nat.mul_one] at h2
  have e1 : L.toArray[j]! = L[j] := by simp [hj']
  rw [e1]
  refine ⟨by rw [cell_hcell]; exact h2, ?_⟩
  rcases ow with ⟨e, _⟩ | ⟨b2, o2, cs, e, _, h2, _⟩
  · cases e
  · cases e
    unfold World.frozen?
    simp only [h2]
    simp

theorem heap_sort1 {enc : α → Value} {h1 : OneCell enc} {T : TypeId} {N : Nat} {b o c : Nat} {L : List α} {w : World} (s : Sl (eOne enc h1) w.heap (some ⟨b, o, none⟩) c L) (ow : Own 1 T N w.heap (some ⟨b, o, none⟩) c) {d : Array α} (hd : d.size = L.length) (m : Nat) (os : Array Obj) :
    Fr (· = b) w.heap (sortWorld enc w b o m d os).heap ∧ Sl (eOne enc h1) (sortWorld enc w b o m d os).heap (some ⟨b, o, none⟩) c d.toList ∧ Own 1 T N (sortWorld enc w b o m d os).heap (some ⟨b, o, none⟩) c ∧ Sim w (sortWorld enc w b o m d os) := by
  rcases ow with ⟨e, _⟩ | ⟨b2, o2, cs, e, hlow, h2, h3⟩
  · cases e
  cases e
  have hh : (sortWorld enc w b o m d os).heap = (w.heap.modify b (onCells (putCells enc o d))) ++ os := rfl
  have hlt := row_lt h2
  have hrow : (sortWorld enc w b o m d os).heap[b]? = some (.cells (putCells enc o d cs) T (0, 0)) := by
    rw [hh, Array.getElem?_append, if_pos (by simpa using hlt), Array.getElem?_modify, if_pos rfl, h2]; rfl
  have hother : ∀ i, i < w.heap.size → i ≠ b → (sortWorld enc w b o m d os).heap[i]? = w.heap[i]? := fun i hi hn => by
    rw [hh, Array.getElem?_append, if_pos (by simpa using hi), Array.getElem?_modify, if_neg (Ne.symm hn)]
  have hle := s.le
  refine ⟨⟨by rw [hh]; simp, fun i hi hn => hother i hi hn⟩, Sl.of_row hrow (by simpa [hd] using hle) fun j v hv => ?_, .inr ⟨b, o, _, rfl, hlow, hrow, by simpa [putCells] using h3⟩, ⟨rfl, rfl, rfl, Nat.le_add_right _ _, by rw [hh]; simp, fun i hi => ?_⟩⟩
  · obtain ⟨i, x, r, h4, h5, e⟩ := flat_inv (eOne enc h1) d.toList j v hv
    have hr := (List.getElem?_eq_some_iff.1 h5).1
    rw [(eOne enc h1).len] at hr
    have hr0 : r = 0 := by have : (eOne enc h1).k = 1 := rfl; omega
    subst hr0
    have ei : j = i := by have : (eOne enc h1).k = 1 := rfl; rw [this] at e; omega
    subst ei
    have hjd : j < d.size := by have := (List.getElem?_eq_some_iff.1 h4).1; simpa using this
    have hv' : v = enc x := by simpa [eOne] using h5.symm
    subst hv'
    have hjc : o + j < cs.size := by omega
    have h6 : d[j]? = some x := by simpa using h4
    have e3 : d[j]! = x := by
      obtain ⟨h7, h8⟩ := Array.getElem?_eq_some_iff.1 h6
      rw [getElem!_pos d j h7, h8]
    unfold putCells
    rw [Array.getElem?_mapIdx, Array.getElem?_eq_getElem hjc, Option.map_some, if_pos ⟨by omega, by omega⟩, show o + j - o = j by omega, e3]
  · by_cases hib : i = b
    · subst hib; rw [h2] at hi; cases hi
    · rw [hother i (row_lt hi) hib]; exact hi

theorem hc_sort1 {P : Program} {ρ : Ren} (L0 : SlLaysF.n6 P ρ) (enc : α → Value) (h1 : OneCell enc) (cf : α → α → Int) (hO : SWO (ltOf cf)) (g : Nat) (cb : Array Value)
    (eg : ∀ args w, (callFunc g args).run P w = .ok (.enter g args) w) {h : Heap} {a : Option Addr} {c N : Nat} {T : TypeId} {L : List α} (s : Sl (eOne enc h1) h a c L) (ow : Own 1 T N h a c)
    (hcmp : ∀ h1, Fr (blkA a) h h1 → ∀ x y, HC P g (#[enc x, enc y] ++ cb) h1 fun v h2 => v = .int .i64 (cf x y) ∧ Ext h1 h2) (hsz : L.length < 4611686018427387904) :
    HC P (ρ.f 6) #[.slice a L.length c, .func (.func g) #[] cb] h fun v h' => v = .tuple #[] ∧ Fr (blkA a) h h' ∧ ∃ L', L'.Perm L ∧ L'.Pairwise (fun x y => ltOf cf y x = false) ∧ Sl (eOne enc h1) h' a c L' ∧ Own 1 T N h' a c := by
  by_cases hl : L = []
  · subst hl
    intro w hw
    refine (AnyF.slices_SortFunc_none { L0 with } a c (.func (.func g) #[] cb) w).mono ?_
    rintro e w' ⟨rfl, rfl⟩
    exact ⟨_, rfl, Sim.refl _, rfl, by rw [hw]; exact Fr.refl _ _, [], List.Perm.refl _, List.Pairwise.nil, by rw [hw]; exact s, by rw [hw]; exact ow⟩
  · obtain ⟨b, o, rfl, _⟩ := s.addr (List.length_pos_iff.2 hl)
    intro w hw
    subst hw
    have hb : b < w.heap.size := (ow.low (blkA_of rfl)).2
    have hsz' : L.toArray.size = L.length := by simp
    have hcl : CmpLays1 P g cb enc cf b o L.toArray.size w := by
      intro m os dk hdk x y
      obtain ⟨f1, _, _, s1⟩ := heap_sort1 s ow (d := dk) (by simpa using hdk) m os
      refine (hcmp _ (f1.mono fun i _ e => blkA_some.2 e) x y _ rfl).mono ?_
      rintro e w' ⟨v, rfl, hs, rfl, he⟩
      exact ⟨rfl, grown_of hs he⟩
    have hcon := Any.slices_SortFunc L0 enc h1 cf hO g cb b o c L.toArray w eg hcl (holds1 s ow) hb (by simpa using hsz)
    rw [hsz'] at hcon
    refine hcon.mono ?_
    rintro e w' ⟨rfl, d', n, os, hp, hs, rfl⟩
    obtain ⟨q1, q2⟩ := perm_of (d := L.toArray) (d' := d') (by rw [hsz']; exact hp)
    obtain ⟨f1, s1, o1, m1⟩ := heap_sort1 s ow (d := d') (by simpa using q1) n os
    exact ⟨_, rfl, m1, rfl, f1.mono fun i _ e => blkA_some.2 e, d'.toList, by simpa using q2, sorted_of (by simpa using q1) hs, s1, o1⟩
end
end Go.Proofs.Ytfdgjgjcppfmiaa
