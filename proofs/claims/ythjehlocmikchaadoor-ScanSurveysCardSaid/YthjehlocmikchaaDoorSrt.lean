/-
slices.SortFunc: the library's contract, told of heaps.
-/
import Derived.Test.YthjehlocmikchaaDoorSli
import Derived.Shelf.SlSortCmp.NoneTotal
namespace Go.Proofs.YthjehlocmikchaaDoor
open Go Go.Shelf Go.Sort

theorem one_eq : ∀ v : Value, v.oneCell' = oneC v := fun v => by cases v <;> rfl

/-- What only adds blocks, and draws. -/
theorem grown_of {w w' : World} (hs : Sim w w') (he : Ext w.heap w'.heap) : ∃ q os', w' = grow (w.drewN q) os' := by
  refine ⟨w'.drawn - w.drawn, w'.heap.extract w.heap.size w'.heap.size, ?_⟩
  obtain ⟨h1, t1, d1, o1, u1⟩ := w
  obtain ⟨h2, t2, d2, o2, u2⟩ := w'
  have e1 := hs.os; have e2 := hs.tape; have e3 := hs.output; have e4 := hs.drawn
  simp only at e1 e2 e3 e4 he
  subst e1; subst e2; subst e3
  unfold grow World.drewN
  simp only [World.mk.injEq, true_and, and_true]
  refine ⟨?_, by omega⟩
  apply Array.ext_getElem?
  intro i
  rw [Array.getElem?_append]
  split
  · rename_i hi; exact he.block i hi
  · rename_i hi
    rw [Array.getElem?_extract]
    have hsz := he.size
    by_cases h3 : i < h2.size
    · rw [if_pos (by omega)]; congr 1; omega
    · rw [if_neg (by omega)]; exact Array.getElem?_eq_none (by omega)

theorem calls_of {P : Program} {f : FuncId} {args : Array Value} {h : Heap} {R : Value → Heap → Prop} (hc : HC P f args h R) {w : World} (hw : w.heap = h) : Calls P f args w fun e w' => ∃ v, e = .returned v ∧ Sim w w' ∧ R v w'.heap := hc w hw

section
variable {α : Type} [Inhabited α]

theorem holds_of {E : Elt α} {T : TypeId} {N : Nat} {b o c : Nat} {L : List α} {w : World} (s : Sl E w.heap (some ⟨b, o, none⟩) c L) (ow : Own E.k T N w.heap (some ⟨b, o, none⟩) c) : HoldsK E.enc E.k w b o L.toArray := by
  intro j hj
  rw [size_flatK] at hj
  simp only [List.size_toArray] at hj
  have hk : 0 < E.k := by rcases Nat.eq_zero_or_pos E.k with h | h; · rw [h] at hj; omega
                          · exact h
  have hi : j / E.k < L.length := by rw [Nat.div_lt_iff_lt_mul hk]; exact hj
  have hr : j % E.k < E.k := Nat.mod_lt _ hk
  rw [get_flatK _ _ _ _ (by simpa using hj)]
  have hx : L[j / E.k]? = some L[j / E.k] := List.getElem?_eq_getElem hi
  have e1 : L.toArray[j / E.k]! = L[j / E.k] := by simp [hi]
  rw [e1]
  have hlen : j % E.k < (E.enc L[j / E.k]).length := by rw [E.len]; exact hr
  have hv : (E.enc L[j / E.k])[j % E.k]? = some (E.enc L[j / E.k])[j % E.k] := List.getElem?_eq_getElem hlen
  have e2 : (E.enc L[j / E.k])[j % E.k]! = (E.enc L[j / E.k])[j % E.k] := by simp [hlen]
  rw [e2]
  obtain ⟨b', o', e, hc⟩ := s.at hx
  cases e
  have h1 := hc.get hv
  have hd : j / E.k * E.k + j % E.k = j := by rw [Nat.mul_comm]; exact Nat.div_add_mod j E.k
  rw [Nat.add_assoc, hd] at h1
  refine ⟨by rw [cell_hcell]; exact h1, ?_⟩
  rcases ow with ⟨e, _⟩ | ⟨b2, o2, cs, e, _, h2, _⟩
  · cases e
  · cases e
    unfold World.frozen?
    simp only [h2]
    simp

theorem heap_sort {E : Elt α} {T : TypeId} {N : Nat} {b o c : Nat} {L : List α} {w : World} (s : Sl E w.heap (some ⟨b, o, none⟩) c L) (ow : Own E.k T N w.heap (some ⟨b, o, none⟩) c) {d : Array α} (hd : d.size = L.length) (m : Nat) (os : Array Obj) :
    Fr (· = b) w.heap (sortWorldK E.enc E.k w b o m d os).heap ∧ Sl E (sortWorldK E.enc E.k w b o m d os).heap (some ⟨b, o, none⟩) c d.toList ∧ Own E.k T N (sortWorldK E.enc E.k w b o m d os).heap (some ⟨b, o, none⟩) c ∧ Sim w (sortWorldK E.enc E.k w b o m d os) := by
  rcases ow with ⟨e, _⟩ | ⟨b2, o2, cs, e, hlow, h2, h3⟩
  · cases e
  cases e
  have hh : (sortWorldK E.enc E.k w b o m d os).heap = (w.heap.modify b (onCells (putCells id o (flatK E.enc E.k d)))) ++ os := rfl
  have hlt := row_lt h2
  have hrow : (sortWorldK E.enc E.k w b o m d os).heap[b]? = some (.cells (putCells id o (flatK E.enc E.k d) cs) T (0, 0)) := by
    rw [hh, Array.getElem?_append, if_pos (by simpa using hlt), Array.getElem?_modify, if_pos rfl, h2]; rfl
  have hother : ∀ i, i < w.heap.size → i ≠ b → (sortWorldK E.enc E.k w b o m d os).heap[i]? = w.heap[i]? := fun i hi hn => by
    rw [hh, Array.getElem?_append, if_pos (by simpa using hi), Array.getElem?_modify, if_neg (Ne.symm hn)]
  have hle := s.le
  have hfit : L.length * E.k ≤ c * E.k := Nat.mul_le_mul_right _ hle
  refine ⟨⟨by rw [hh]; simp, fun i hi hn => hother i hi hn⟩, Sl.of_row hrow (by simpa [hd] using hle) fun j v hv => ?_, .inr ⟨b, o, _, rfl, hlow, hrow, by simpa [putCells] using h3⟩, ⟨rfl, rfl, rfl, Nat.le_add_right _ _, by rw [hh]; simp, fun i hi => ?_⟩⟩
  · have hj := (List.getElem?_eq_some_iff.1 hv).1
    rw [flat_len, Array.length_toList, hd] at hj
    have hk : 0 < E.k := by rcases Nat.eq_zero_or_pos E.k with h | h; · rw [h] at hj; omega
                            · exact h
    have hjc : o + j < cs.size := by omega
    unfold putCells
    rw [Array.getElem?_mapIdx, Array.getElem?_eq_getElem hjc, Option.map_some, if_pos ⟨by omega, by rw [size_flatK, hd]; omega⟩, show o + j - o = j by omega, get_flatK _ _ _ _ (by rw [hd]; exact hj)]
    obtain ⟨i, x, r, h4, h5, rfl⟩ := flat_inv E d.toList j v hv
    have hr := (List.getElem?_eq_some_iff.1 h5).1
    rw [E.len] at hr
    have e1 : (i * E.k + r) / E.k = i := by rw [Nat.mul_comm, Nat.mul_add_div hk, Nat.div_eq_of_lt hr]; rfl
    have e2 : (i * E.k + r) % E.k = r := by rw [Nat.mul_comm, Nat.mul_add_mod, Nat.mod_eq_of_lt hr]
    rw [e1, e2]
    have h6 : d[i]? = some x := by simpa using h4
    have e3 : d[i]! = x := by
      obtain ⟨h7, h8⟩ := Array.getElem?_eq_some_iff.1 h6
      rw [getElem!_pos d i h7, h8]
    rw [e3]
    simp [h5]
  · by_cases hib : i = b
    · subst hib; rw [h2] at hi; cases hi
    · rw [hother i (row_lt hi) hib]; exact hi

theorem perm_of {d d' : Array α} (hp : PermIn 0 d.size d d') : d'.size = d.size ∧ d'.toList.Perm d.toList := by
  obtain ⟨h1, _, h3⟩ := hp
  refine ⟨h1, ?_⟩
  have e : ∀ x : Array α, (x.extract 0 x.size).toList = x.toList := fun x => by rw [Array.extract_size]
  have h4 : (d'.extract 0 d.size).toList = d'.toList := by rw [← h1]; exact e d'
  rw [h4, e d] at h3; exact h3
theorem sorted_of {lt : α → α → Bool} {d : Array α} {n : Nat} (hn : d.size = n) (hs : SortedIn lt 0 n d) : d.toList.Pairwise (fun x y => lt y x = false) := by
  rw [List.pairwise_iff_getElem]
  intro i j hi hj hij
  have hi' : i < d.size := by simpa using hi
  have hj' : j < d.size := by simpa using hj
  have := hs i j (Nat.zero_le _) hij (by omega)
  simpa [hi', hj'] using this

theorem hc_sort {P : Program} {ρ : Ren} (L0 : SlLaysF0.n6 P ρ) (E : Elt α) (aE : ∀ w, (isAgg (ρ.t 24)).run P w = .ok true w) (zE : ∀ w, (Go.sizeOf (ρ.t 24)).run P w = .ok E.k w) (cf : α → α → Int) (hO : SWO (ltOf cf)) (g : Nat) (cb : Array Value)
    (eg : ∀ args w, (callFunc g args).run P w = .ok (.enter g args) w) {h : Heap} {a : Option Addr} {c N : Nat} {T : TypeId} {L : List α} (s : Sl E h a c L) (ow : Own E.k T N h a c)
    (hcmp : ∀ h1, Fr (blkA a) h h1 → ∀ x y, HC P g (#[.agg (E.enc x).toArray, .agg (E.enc y).toArray] ++ cb) h1 fun v h2 => v = .int .i64 (cf x y) ∧ Ext h1 h2) (hsz : L.length < 4611686018427387904) :
    HC P (ρ.f 6) #[.slice a L.length c, .func (.func g) #[] cb] h fun v h' => v = .tuple #[] ∧ Fr (blkA a) h h' ∧ ∃ L', L'.Perm L ∧ L'.Pairwise (fun x y => ltOf cf y x = false) ∧ Sl E h' a c L' ∧ Own E.k T N h' a c := by
  by_cases hl : L = []
  · subst hl
    intro w hw
    refine (AnyF.slices_SortFunc_none L0 a c (.func (.func g) #[] cb) w).mono ?_
    rintro e w' ⟨rfl, rfl⟩
    exact ⟨_, rfl, Sim.refl _, rfl, by rw [hw]; exact Fr.refl _ _, [], List.Perm.refl _, List.Pairwise.nil, by rw [hw]; exact s, by rw [hw]; exact ow⟩
  · obtain ⟨b, o, rfl, _⟩ := s.addr (List.length_pos_iff.2 hl)
    intro w hw
    subst hw
    have hb : b < w.heap.size := (ow.low (blkA_of rfl)).2
    have hsz' : L.toArray.size = L.length := by simp
    have hcl : CmpLays P g cb E.enc E.k cf b o L.toArray.size w := by
      intro m os dk hdk x y
      obtain ⟨f1, _, _, s1⟩ := heap_sort s ow (d := dk) (by simpa using hdk) m os
      refine (hcmp _ (f1.mono fun i _ e => blkA_some.2 e) x y _ rfl).mono ?_
      rintro e w' ⟨v, rfl, hs, rfl, he⟩
      exact ⟨rfl, grown_of hs he⟩
    have hcon := AnyQ.slices_SortFunc L0 E.k aE zE E.enc E.len (fun x v hv => by rw [one_eq]; exact E.one x v hv) cf hO g cb b o c L.toArray w eg hcl (holds_of s ow) hb (by simpa using hsz)
    rw [hsz'] at hcon
    refine hcon.mono ?_
    rintro e w' ⟨rfl, d', n, os, hp, hs, rfl⟩
    obtain ⟨q1, q2⟩ := perm_of (d := L.toArray) (d' := d') (by rw [hsz']; exact hp)
    obtain ⟨f1, s1, o1, m1⟩ := heap_sort s ow (d := d') (by simpa using q1) n os
    exact ⟨_, rfl, m1, rfl, f1.mono fun i _ e => blkA_some.2 e, d'.toList, by simpa using q2, sorted_of (by simpa using q1) hs, s1, o1⟩
end
end Go.Proofs.YthjehlocmikchaaDoor
