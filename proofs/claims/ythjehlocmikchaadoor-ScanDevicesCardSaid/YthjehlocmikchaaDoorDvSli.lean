import Derived.Test.YthjehlocmikchaaDoorDvMor
namespace Go.Proofs.YthjehlocmikchaaDoor
open Go
structure Elt (α : Type) where
  k : Nat
  enc : α → List Value
  len : ∀ x, (enc x).length = k
  one : ∀ x, ∀ v ∈ enc x, oneC v = true
def blkA (a : Option Addr) (b : Nat) : Prop := ∃ x, a = some x ∧ x.block = b
theorem blkA_some {b o b' : Nat} : blkA (some ⟨b, o, none⟩) b' ↔ b' = b := ⟨fun ⟨_, e, h⟩ => by cases e; exact h.symm, fun e => ⟨_, rfl, e.symm⟩⟩
theorem blkA_none {b : Nat} : ¬ blkA none b := fun ⟨_, e, _⟩ => by cases e
theorem blkA_of {b o : Nat} {a : Option Addr} (e : a = some ⟨b, o, none⟩) : blkA a b := ⟨_, e, rfl⟩
theorem HCells.get {h : Heap} {b : Nat} : ∀ {vs : List Value} {o : Nat}, HCells h b o vs → ∀ {j : Nat} {v : Value}, vs[j]? = some v → hcell h b (o + j) = some v
  | [], _, _, _, _, hj => by simp at hj
  | u :: us, o, hc, 0, v, hj => by simp at hj; subst hj; exact hc.1
  | u :: us, o, hc, j + 1, v, hj => by
    have := HCells.get hc.2 (j := j) (v := v) (by simpa using hj)
    rw [show o + (j + 1) = o + 1 + j by omega]; exact this
theorem HCells.mk {h : Heap} {b : Nat} : ∀ {vs : List Value} {o : Nat}, (∀ j v, vs[j]? = some v → hcell h b (o + j) = some v) → HCells h b o vs
  | [], _, _ => trivial
  | u :: us, o, hc => ⟨hc 0 u rfl, HCells.mk fun j v hj => by
    have := hc (j + 1) v (by simpa using hj)
    rw [show o + 1 + j = o + (j + 1) by omega]; exact this⟩
theorem HCells.fr {h h' : Heap} {S : Nat → Prop} (f : Fr S h h') {b o : Nat} {vs : List Value} (hc : HCells h b o vs) (hn : ¬ S b) : HCells h' b o vs :=
  HCells.mk fun j v hj => by
    have h1 := hc.get hj
    have h2 := f.block b (hcell_lt h1) hn
    unfold hcell at *; rw [h2]; exact h1
theorem HCells.row {h : Heap} {b o : Nat} {vs : List Value} {cs : Array Value} {T : TypeId} {fr : Nat × Nat} (hr : h[b]? = some (.cells cs T fr)) (hv : ∀ j v, vs[j]? = some v → cs[o + j]? = some v) : HCells h b o vs :=
  HCells.mk fun j v hj => by rw [hcell_row hr]; exact hv j v hj
section
variable {α : Type}
theorem flat_len (E : Elt α) : ∀ L : List α, (L.flatMap E.enc).length = L.length * E.k
  | [] => by simp
  | x :: l => by rw [List.flatMap_cons, List.length_append, flat_len E l, E.len, List.length_cons, Nat.add_mul, Nat.one_mul, Nat.add_comm]
theorem flat_get (E : Elt α) : ∀ (L : List α) (i : Nat) (x : α) (r : Nat) (v : Value), L[i]? = some x → (E.enc x)[r]? = some v → (L.flatMap E.enc)[i * E.k + r]? = some v
  | [], i, x, r, v, h, _ => by simp at h
  | y :: l, 0, x, r, v, h, hr => by
    simp at h; subst h
    have := (List.getElem?_eq_some_iff.1 hr).1
    rw [List.flatMap_cons, Nat.zero_mul, Nat.zero_add, List.getElem?_append_left this]; exact hr
  | y :: l, i + 1, x, r, v, h, hr => by
    have := flat_get E l i x r v (by simpa using h) hr
    rw [List.flatMap_cons, List.getElem?_append_right (by rw [E.len, Nat.add_mul]; omega), E.len]
    rw [show (i + 1) * E.k + r - E.k = i * E.k + r by rw [Nat.add_mul]; omega]; exact this
theorem flat_inv (E : Elt α) : ∀ (L : List α) (j : Nat) (v : Value), (L.flatMap E.enc)[j]? = some v → ∃ i x r, L[i]? = some x ∧ (E.enc x)[r]? = some v ∧ j = i * E.k + r
  | [], j, v, h => by simp at h
  | y :: l, j, v, h => by
    rw [List.flatMap_cons] at h
    by_cases hj : j < E.k
    · rw [List.getElem?_append_left (by rw [E.len]; exact hj)] at h
      exact ⟨0, y, j, rfl, h, by omega⟩
    · rw [List.getElem?_append_right (by rw [E.len]; omega), E.len] at h
      obtain ⟨i, x, r, h1, h2, h3⟩ := flat_inv E l _ v h
      exact ⟨i + 1, x, r, by simpa using h1, h2, by rw [Nat.add_mul]; omega⟩
theorem flat_one (E : Elt α) (L : List α) : ∀ v ∈ L.flatMap E.enc, oneC v = true := fun v hv => by
  obtain ⟨x, _, h⟩ := List.mem_flatMap.1 hv
  exact E.one x v h
structure Sl (E : Elt α) (h : Heap) (a : Option Addr) (c : Nat) (L : List α) : Prop where
  le : L.length ≤ c
  ex : c = 0 ∨ ∃ b o, a = some ⟨b, o, none⟩ ∧ ∀ i x, L[i]? = some x → HCells h b (o + i * E.k) (E.enc x)
def Own (k : Nat) (T : TypeId) (N : Nat) (h : Heap) (a : Option Addr) (c : Nat) : Prop :=
  (a = none ∧ c = 0) ∨ ∃ b o cs, a = some ⟨b, o, none⟩ ∧ N ≤ b ∧ h[b]? = some (.cells cs T (0, 0)) ∧ o + c * k ≤ cs.size
theorem Sl.nil (E : Elt α) (h : Heap) : Sl E h none 0 [] := ⟨Nat.le_refl _, .inl rfl⟩
theorem Own.nil (k : Nat) (T : TypeId) (N : Nat) (h : Heap) : Own k T N h none 0 := .inl ⟨rfl, rfl⟩
variable {E : Elt α} {h h' : Heap} {a : Option Addr} {c : Nat} {L : List α} {k : Nat} {T : TypeId} {N : Nat}
theorem Sl.fr {S : Nat → Prop} (s : Sl E h a c L) (f : Fr S h h') (hn : ∀ b, blkA a b → ¬ S b) : Sl E h' a c L :=
  ⟨s.le, s.ex.imp id fun ⟨b, o, e, hc⟩ => ⟨b, o, e, fun i x hx => (hc i x hx).fr f (hn b (blkA_of e))⟩⟩
theorem Sl.ext (s : Sl E h a c L) (f : Ext h h') : Sl E h' a c L := s.fr (f.fr (fun _ => False)) (fun _ _ h => h)
theorem Own.fr {S : Nat → Prop} (s : Own k T N h a c) (f : Fr S h h') (hn : ∀ b, blkA a b → ¬ S b) : Own k T N h' a c :=
  s.imp id fun ⟨b, o, cs, e, h1, h2, h3⟩ => ⟨b, o, cs, e, h1, f.row h2 (hn b (blkA_of e)), h3⟩
theorem Own.ext (s : Own k T N h a c) (f : Ext h h') : Own k T N h' a c := s.fr (f.fr (fun _ => False)) (fun _ _ h => h)
theorem Own.low (s : Own k T N h a c) {b : Nat} (hb : blkA a b) : N ≤ b ∧ b < h.size := by
  obtain ⟨x, e, rfl⟩ := hb
  rcases s with ⟨h1, _⟩ | ⟨b', o', cs, h1, h2, h3, _⟩
  · rw [h1] at e; cases e
  · rw [h1] at e; cases e; exact ⟨h2, row_lt h3⟩
theorem Own.down {N' : Nat} (s : Own k T N h a c) (hN : N' ≤ N) : Own k T N' h a c :=
  s.imp id fun ⟨b, o, cs, e, h1, h2⟩ => ⟨b, o, cs, e, Nat.le_trans hN h1, h2⟩
theorem Sl.at (s : Sl E h a c L) {i : Nat} {x : α} (hx : L[i]? = some x) : ∃ b o, a = some ⟨b, o, none⟩ ∧ HCells h b (o + i * E.k) (E.enc x) := by
  rcases s.ex with e | ⟨b, o, e, hc⟩
  · have := (List.getElem?_eq_some_iff.1 hx).1
    have := s.le; omega
  · exact ⟨b, o, e, hc i x hx⟩
theorem Sl.addr (s : Sl E h a c L) (hp : 0 < L.length) : ∃ b o, a = some ⟨b, o, none⟩ ∧ ∀ i x, L[i]? = some x → HCells h b (o + i * E.k) (E.enc x) := by
  rcases s.ex with e | ⟨b, o, e, hc⟩
  · have := s.le; omega
  · exact ⟨b, o, e, hc⟩
theorem Sl.src (s : Sl E h a c L) : Src h (.slice a L.length c) L.length E.k (L.flatMap E.enc) := by
  refine ⟨flat_len E L, ?_⟩
  rcases s.ex with e2 | ⟨b, o, e, hc⟩
  · have := s.le
    have e0 : L.length = 0 := by omega
    exact .inl ⟨a, c, rfl, e0⟩
  · refine .inr ⟨b, o, c, by rw [e], fun j u hu => ?_⟩
    obtain ⟨i, x, r, h1, h2, rfl⟩ := flat_inv E L j u hu
    rw [← Nat.add_assoc]; exact (hc i x h1).get h2
theorem Sl.of_row {b o : Nat} {cs : Array Value} {T : TypeId} {fr : Nat × Nat} (hr : h[b]? = some (.cells cs T fr)) (hle : L.length ≤ c) (hc : ∀ j v, (L.flatMap E.enc)[j]? = some v → cs[o + j]? = some v) : Sl E h (some ⟨b, o, none⟩) c L :=
  ⟨hle, .inr ⟨b, o, rfl, fun i x hx => HCells.row hr fun r v hv => by rw [Nat.add_assoc]; exact hc _ _ (flat_get E L i x r v hx hv)⟩⟩
theorem Sl.lit {b : Nat} {T : TypeId} (hr : h[b]? = some (.cells (L.flatMap E.enc).toArray T (0, 0))) : Sl E h (some ⟨b, 0, none⟩) L.length L :=
  Sl.of_row hr (Nat.le_refl _) fun j v hv => by rw [Nat.zero_add]; simpa using hv
theorem Own.lit {b : Nat} {T : TypeId} (hr : h[b]? = some (.cells (L.flatMap E.enc).toArray T (0, 0))) (hN : N ≤ b) : Own E.k T N h (some ⟨b, 0, none⟩) L.length :=
  .inr ⟨b, 0, _, rfl, hN, hr, by rw [List.size_toArray, flat_len]; omega⟩
structure AppT (P : Program) (t T : TypeId) (k by_ : Nat) : Prop where
  hu : P.underlying t = some (.slice T)
  hz : szB P T = some k
  hby : byB P T = some by_
  ex : ∃ (z : Value) (zs : List Value), zeroB P T z ∧ z.cells = zs.toArray ∧ zs.length = k
  pos : 0 < by_
theorem app_sl {P : Program} {t : TypeId} {by_ : Nat} (A : AppT P t T E.k by_)
    {a2 : Option Addr} {c2 : Nat} {L2 : List α} (s : Sl E h a c L) (w : Own E.k T N h a c) (s2 : Sl E h a2 c2 L2) (hN : N ≤ h.size) (hsz : (L.length + L2.length) * by_ ≤ 140737488355328) {K : Value → Heap → Prop}
    (hk : ∀ a' c' h', Fr (blkA a) h h' → Sl E h' a' c' (L ++ L2) → Own E.k T N h' a' c' → (∀ b, blkA a' b → blkA a b ∨ h.size ≤ b) → K (.slice a' (L.length + L2.length) c') h') :
    HAppend P t t (.slice a L.length c) (.slice a2 L2.length c2) h K := by
  obtain ⟨hu, hz, hby, ⟨z, zs, hzv, hzc, hzl⟩, hb0⟩ := A
  by_cases hroom : L.length + L2.length ≤ c
  · rcases w with ⟨e1, e2⟩ | ⟨b, o, cs, rfl, hlow, hr, hcs⟩
    · have e3 : L.length = 0 := by omega
      have e4 : L2.length = 0 := by omega
      have el : L = [] := List.length_eq_zero_iff.1 e3
      have el2 : L2 = [] := List.length_eq_zero_iff.1 e4
      subst el; subst el2; subst e1; subst e2
      refine happ_zero hu hz ?_ (Nat.le_refl _) ?_
      · simpa using s2.src
      · exact hk _ _ _ (Fr.refl _ _) (by simpa using s) (Own.nil _ _ _ _) (fun b hb => .inl hb)
    · have hfit : (L.length + L2.length) * E.k ≤ c * E.k := Nat.mul_le_mul_right _ hroom
      rw [Nat.add_mul] at hfit
      refine happ_room hu hz s2.src hroom (flat_one E L2) (fun j hj => HW_row hr ?_) ?_
      · rw [flat_len] at hj; omega
      have hrow : (hsets h b (o + L.length * E.k) (L2.flatMap E.enc))[b]? = some (.cells (sets cs (o + L.length * E.k) (L2.flatMap E.enc)) T (0, 0)) := hsets_row _ hr
      have hget := sets_get (L2.flatMap E.enc) cs (o + L.length * E.k)
      refine hk _ _ _ (fr_hsets _ fun _ => blkA_of rfl) (Sl.of_row hrow (by simpa using hroom) fun j v hv => ?_) (.inr ⟨b, o, _, rfl, hlow, hrow, by rw [sets_size]; exact hcs⟩) (fun b hb => .inl hb)
      rw [hget _ (by rw [flat_len]; omega)]
      rw [List.flatMap_append] at hv
      have hl1 := flat_len E L
      by_cases hj : j < L.length * E.k
      · rw [if_neg (by omega)]
        rw [List.getElem?_append_left (by omega)] at hv
        have := s.src.2
        rcases this with ⟨_, _, _, e⟩ | ⟨b', o', c', e, hc⟩
        · rw [e] at hj; omega
        · cases e
          have := hc j v hv
          rw [hcell_row hr] at this; exact this
      · rw [List.getElem?_append_right (by omega), hl1] at hv
        have h2 := (List.getElem?_eq_some_iff.1 hv).1
        rw [if_pos (by omega)]
        rw [show o + j - (o + L.length * E.k) = j - L.length * E.k by omega]; exact hv
  · have h47 : L.length + L2.length ≤ 140737488355328 := Nat.le_trans (Nat.le_mul_of_pos_right _ hb0) hsz
    refine happ_grow hu hz hby hzv hzc s.src s2.src (by omega) hsz (by omega) ?_
    intro b cap h' eb h1 h2 eh
    have hrow := push_new (h := h) (o := .cells (L.flatMap E.enc ++ L2.flatMap E.enc ++ (Builtin.zeroCells zs.toArray (cap - (L.length + L2.length))).toList).toArray T) eb
    rw [← eh] at hrow
    have hx : Ext h h' := by rw [eh]; exact Ext.push _ _
    refine hk _ _ _ (hx.fr _) (Sl.of_row hrow (by simpa using h1) fun j v hv => ?_) (.inr ⟨b, 0, _, rfl, by omega, hrow, ?_⟩) (fun b' hb' => .inr ?_)
    · rw [Nat.zero_add, List.getElem?_toArray, ← List.flatMap_append]
      rw [List.getElem?_append_left (List.getElem?_eq_some_iff.1 hv).1]; exact hv
    · have e1 := flat_len E L
      have e2 := flat_len E L2
      have e3 : (Builtin.zeroCells zs.toArray (cap - (L.length + L2.length))).size = (cap - (L.length + L2.length)) * E.k := by
        unfold Builtin.zeroCells; simp [hzl]
      have e4 : cap * E.k = (L.length + L2.length) * E.k + (cap - (L.length + L2.length)) * E.k := by rw [← Nat.add_mul]; congr 1; omega
      simp only [List.size_toArray, List.length_append, e1, e2, Array.length_toList, e3, Nat.zero_add, e4, Nat.add_mul]
      exact Nat.le_refl _
    · rw [blkA_some] at hb'; omega
theorem Own.grown {h0 : Heap} (w : Own k T h0.size h a c) (x : Ext h0 h) (f : Fr (blkA a) h h') : Ext h0 h' :=
  ⟨Nat.le_trans x.size f.size, fun i hi => (f.block i (Nat.lt_of_lt_of_le hi x.size) (fun hb => absurd (w.low hb).1 (Nat.not_le_of_lt hi))).trans (x.block i hi)⟩
theorem app_own {P : Program} {t : TypeId} {by_ : Nat} (A : AppT P t T E.k by_) {h0 : Heap} {n n2 : Nat}
    {a2 : Option Addr} {c2 : Nat} {L2 : List α} (x0 : Ext h0 h) (s : Sl E h a c L) (w : Own E.k T h0.size h a c) (hn : n = L.length) (s2 : Sl E h a2 c2 L2) (hn2 : n2 = L2.length) (hsz : (n + n2) * by_ ≤ 140737488355328) {K : Value → Heap → Prop}
    (hk : ∀ a' c' h', Ext h0 h' → Fr (blkA a) h h' → Sl E h' a' c' (L ++ L2) → Own E.k T h0.size h' a' c' → (∀ b, blkA a' b → blkA a b ∨ h.size ≤ b) → K (.slice a' (n + n2) c') h') :
    HAppend P t t (.slice a n c) (.slice a2 n2 c2) h K := by
  subst hn; subst hn2
  exact app_sl A s w s2 x0.size hsz fun a' c' h' f s' w' bl => hk a' c' h' (w.grown x0 f) f s' w' bl
theorem app_one {P : Program} {t : TypeId} {by_ : Nat} (A : AppT P t T E.k by_) {h0 h1 : Heap} {nb n : Nat} {cs : Array Value} {x : α} (eb : nb = h.size) (eh : h1 = h.push (.cells cs T)) (ec : (E.enc x).toArray = cs)
    (x0 : Ext h0 h) (s : Sl E h a c L) (w : Own E.k T h0.size h a c) (hn : n = L.length) (hsz : (n + 1) * by_ ≤ 140737488355328) {K : Value → Heap → Prop}
    (hk : ∀ a' c' h', Ext h0 h' → Fr (blkA a) h h' → Sl E h' a' c' (L ++ [x]) → Own E.k T h0.size h' a' c' → (∀ b, blkA a' b → blkA a b ∨ h.size ≤ b) → K (.slice a' (n + 1) c') h') :
    HAppend P t t (.slice a n c) (.slice (some ⟨nb, 0, none⟩) 1 1) h1 K := by
  have xe : Ext h h1 := by rw [eh]; exact Ext.push _ _
  have hrow : h1[nb]? = some (.cells ([x].flatMap E.enc).toArray T (0, 0)) := by rw [eh, ← ec]; simp only [List.flatMap_cons, List.flatMap_nil, List.append_nil]; exact push_new eb
  refine app_own A (x0.trans xe) (s.ext xe) (w.ext xe) hn (Sl.lit (L := [x]) hrow) rfl hsz fun a' c' h' e f s' w' bl => hk a' c' h' e ((xe.fr (blkA a)).trans f (fun _ _ q => q)) s' w' fun b hb => ?_
  rcases bl b hb with q | q
  · exact .inl q
  · exact .inr (Nat.le_trans xe.size q)
theorem wadd (n : Nat) (hn : n ≤ 4611686018427387904) : IntKind.i64.wrap ((n : Int) + 1) = ((n + 1 : Nat) : Int) := by rw [w64 (by omega) (by omega)]; omega
theorem lt_of_dec {j n : Nat} (h : decide ((j : Int) < (n : Int)) = true) : j < n := by have := of_decide_eq_true h; omega
theorem ge_of_dec {j n : Nat} (h : decide ((j : Int) < (n : Int)) = false) : n ≤ j := by have := of_decide_eq_false h; omega
theorem slA_some {b o l sz m : Nat} : ∃ o', slA (some ⟨b, o, none⟩) l sz m = some ⟨b, o', none⟩ ∧ (l ≠ m → o' = o + l * sz) := by
  unfold slA
  by_cases e : m = l
  · rw [if_pos e]; exact ⟨o, rfl, fun h => absurd e.symm h⟩
  · rw [if_neg e]; exact ⟨o + l * sz, by simp [add_lit], fun _ => rfl⟩
theorem slA_none {l sz m : Nat} : slA none l sz m = none := by unfold slA; split <;> rfl
theorem Sl.cut (s : Sl E h a c L) {l r : Nat} (hlr : l ≤ r) (hr : r ≤ L.length) : Sl E h (slA a l E.k c) (c - l) ((L.take r).drop l) := by
  refine ⟨by have := s.le; simp; omega, ?_⟩
  rcases s.ex with e2 | ⟨b, o, rfl, hc⟩
  · exact .inl (by omega)
  · obtain ⟨o', e, ho⟩ := slA_some (b := b) (o := o) (l := l) (sz := E.k) (m := c)
    refine .inr ⟨b, o', e, fun i x hx => ?_⟩
    rw [List.getElem?_drop] at hx
    have hlt := (List.getElem?_eq_some_iff.1 hx).1
    simp at hlt
    rw [List.getElem?_take, if_pos (by omega)] at hx
    have := hc _ _ hx
    rw [ho (by have := s.le; omega), Nat.add_assoc, ← Nat.add_mul]; exact this
theorem Own.cut (w : Own k T N h a c) {l : Nat} (hl : l ≤ c) : Own k T N h (slA a l k c) (c - l) := by
  rcases w with ⟨rfl, e2⟩ | ⟨b, o, cs, rfl, h1, h2, h3⟩
  · exact .inl ⟨slA_none, by omega⟩
  · obtain ⟨o', e, ho⟩ := slA_some (b := b) (o := o) (l := l) (sz := k) (m := c)
    refine .inr ⟨b, o', cs, e, h1, h2, ?_⟩
    by_cases hc : l = c
    · subst hc
      have : o' ≤ o + l * k := by
        unfold slA at e; rw [if_pos rfl] at e; cases e; omega
      simp; omega
    · rw [ho hc, Nat.add_assoc, ← Nat.add_mul, show l + (c - l) = c by omega]; exact h3
theorem Sl.set {b o : Nat} (s : Sl E h (some ⟨b, o, none⟩) c L) {cs : Array Value} (hr : h[b]? = some (.cells cs T (0, 0))) (hcs : o + L.length * E.k ≤ cs.size) {i : Nat} (hi : i < L.length) (x : α) : Sl E (hsets h b (o + i * E.k) (E.enc x)) (some ⟨b, o, none⟩) c (L.set i x) := by
  have hrow := hsets_row (E.enc x) (o := o + i * E.k) hr
  have hik : (i + 1) * E.k ≤ L.length * E.k := Nat.mul_le_mul_right _ hi
  rw [Nat.add_mul] at hik
  refine ⟨by simpa using s.le, .inr ⟨b, o, rfl, fun j y hy => HCells.row hrow fun r v hv => ?_⟩⟩
  have hrk := (List.getElem?_eq_some_iff.1 hv).1
  rw [E.len] at hrk
  rw [sets_get _ _ _ _ (by rw [E.len]; omega), E.len]
  by_cases e : i = j
  · subst e
    rw [List.getElem?_set_self hi] at hy
    cases hy
    rw [if_pos (by omega), show o + i * E.k + r - (o + i * E.k) = r by omega]; exact hv
  · rw [List.getElem?_set_ne e] at hy
    have hc := s.ex
    rcases hc with e1 | ⟨b', o', e1, hc⟩
    · have := s.le; omega
    · cases e1
      have := (hc j y hy).get hv
      rw [hcell_row hr] at this
      rw [if_neg ?_]
      · exact this
      · rintro ⟨h1, h2⟩
        rcases Nat.lt_or_gt_of_ne e with hlt | hlt
        · have : (i + 1) * E.k ≤ j * E.k := Nat.mul_le_mul_right _ hlt
          rw [Nat.add_mul] at this; omega
        · have : (j + 1) * E.k ≤ i * E.k := Nat.mul_le_mul_right _ hlt
          rw [Nat.add_mul] at this; omega
end
theorem hcell_hset_ne {h : Heap} {b o o' : Nat} {v : Value} (n : o' ≠ o) : hcell (hset h b o v) b o' = hcell h b o' := by
  unfold hcell hset
  rw [Array.getElem?_modify, if_pos rfl]
  cases h[b]? with
  | none => rfl
  | some x => cases x <;> simp [Array.getElem?_setIfInBounds_ne (Ne.symm n)]
theorem hcell_hsets_lt {b o' : Nat} : ∀ (vs : List Value) {h : Heap} {o : Nat}, o' < o → hcell (hsets h b o vs) b o' = hcell h b o'
  | [], _, _, _ => rfl
  | v :: vs, h, o, hl => by rw [hsets, hcell_hsets_lt vs (by omega), hcell_hset_ne (by omega)]
theorem Own.hsets {k : Nat} {T : TypeId} {N : Nat} {h : Heap} {a : Option Addr} {c : Nat} (w : Own k T N h a c) (b o : Nat) (vs : List Value) : Own k T N (hsets h b o vs) a c := by
  rcases w with e | ⟨b', o', cs, e, h1, h2, h3⟩
  · exact .inl e
  · by_cases hb : b' = b
    · subst hb
      exact .inr ⟨b', o', _, e, h1, hsets_row vs h2, by rw [sets_size]; exact h3⟩
    · exact .inr ⟨b', o', cs, e, h1, by rw [hsets_ne vs hb]; exact h2, h3⟩
theorem Sl.before {α : Type} {E : Elt α} {h : Heap} {b o c : Nat} {L : List α} (s : Sl E h (some ⟨b, o, none⟩) c L) {j p : Nat} (hp : o + j * E.k ≤ p) (vs : List Value) : Sl E (hsets h b p vs) (some ⟨b, o, none⟩) c (L.take j) := by
  refine ⟨by have := s.le; simp; omega, .inr ⟨b, o, rfl, fun i x hx => ?_⟩⟩
  rw [List.getElem?_take] at hx
  split at hx
  · rename_i hi
    obtain ⟨b', o', e, hc⟩ := s.at hx
    cases e
    refine HCells.mk fun r v hv => ?_
    have hr := (List.getElem?_eq_some_iff.1 hv).1
    rw [E.len] at hr
    have : (i + 1) * E.k ≤ j * E.k := Nat.mul_le_mul_right _ hi
    rw [Nat.add_mul] at this
    rw [hcell_hsets_lt vs (by omega)]
    exact hc.get hv
  · cases hx
theorem Own.row {k : Nat} {T : TypeId} {N : Nat} {h : Heap} {b o c : Nat} (w : Own k T N h (some ⟨b, o, none⟩) c) : ∃ cs, h[b]? = some (.cells cs T (0, 0)) ∧ o + c * k ≤ cs.size ∧ N ≤ b := by
  rcases w with ⟨e, _⟩ | ⟨b', o', cs, e, h1, h2, h3⟩
  · cases e
  · cases e; exact ⟨cs, h2, h3, h1⟩
theorem Sl.put {α : Type} {E : Elt α} {T : TypeId} {N : Nat} {h : Heap} {b o c : Nat} {L : List α} (s : Sl E h (some ⟨b, o, none⟩) c L) (w : Own E.k T N h (some ⟨b, o, none⟩) c) {i : Nat} (hi : i < L.length) (x : α) :
    HWs h b (o + i * E.k) E.k ∧ Sl E (hsets h b (o + i * E.k) (E.enc x)) (some ⟨b, o, none⟩) c (L.set i x) ∧ Own E.k T N (hsets h b (o + i * E.k) (E.enc x)) (some ⟨b, o, none⟩) c := by
  obtain ⟨cs, h1, h2, _⟩ := w.row
  have hle := s.le
  have f1 : L.length * E.k ≤ c * E.k := Nat.mul_le_mul_right _ hle
  have f2 : (i + 1) * E.k ≤ L.length * E.k := Nat.mul_le_mul_right _ hi
  rw [Nat.add_mul] at f2
  exact ⟨HWs_row h1 (by omega), s.set h1 (by omega) hi x, Own.hsets w _ _ _⟩
def eInt (k : IntKind) : Elt Int := ⟨1, fun x => [.int k x], fun _ => rfl, fun x v hv => by simp at hv; subst hv; rfl⟩
def eBool : Elt Bool := ⟨1, fun x => [.bool x], fun _ => rfl, fun x v hv => by simp at hv; subst hv; rfl⟩
end Go.Proofs.YthjehlocmikchaaDoor
