import Derived.Test.YthjehlocmikchaaDoorDvApp
namespace Go.Proofs.YthjehlocmikchaaDoor
open Go
theorem hcell_row {h : Heap} {b o : Nat} {c : Array Value} {T : TypeId} {fr : Nat × Nat} (hr : h[b]? = some (.cells c T fr)) : hcell h b o = c[o]? := by
  unfold hcell; rw [hr]
theorem push_new {h : Heap} {o : Obj} {b : Nat} (hb : b = h.size) : (Array.push h o)[b]? = some o := by subst hb; simp
theorem row_lt {h : Heap} {b : Nat} {o : Obj} (hr : h[b]? = some o) : b < h.size := (Array.getElem?_eq_some_iff.1 hr).1
theorem HW_row {h : Heap} {b o : Nat} {c : Array Value} {T : TypeId} (hr : h[b]? = some (.cells c T (0, 0))) (ho : o < c.size) : HW h b o := ⟨c, T, (0, 0), hr, ho, by simp⟩
theorem HWs_row {h : Heap} {b o n : Nat} {c : Array Value} {T : TypeId} (hr : h[b]? = some (.cells c T (0, 0))) (ho : o + n ≤ c.size) : HWs h b o n := fun j hj => HW_row hr (by omega)
theorem hset_row {h : Heap} {b o : Nat} {v : Value} {c : Array Value} {T : TypeId} {fr : Nat × Nat} (hr : h[b]? = some (.cells c T fr)) : (hset h b o v)[b]? = some (.cells (c.setIfInBounds o v) T fr) := by
  unfold hset; rw [Array.getElem?_modify]; simp [hr]
theorem hset_ne {h : Heap} {b b' o : Nat} {v : Value} (hb : b' ≠ b) : (hset h b o v)[b']? = h[b']? := by
  unfold hset; rw [Array.getElem?_modify, if_neg (Ne.symm hb)]
theorem hset_size {h : Heap} {b o : Nat} {v : Value} : Array.size (hset h b o v) = Array.size h := by unfold hset; simp
def sets (c : Array Value) : Nat → List Value → Array Value
  | _, [] => c
  | o, v :: vs => sets (c.setIfInBounds o v) (o + 1) vs
theorem sets_size : ∀ (vs : List Value) (c : Array Value) (o : Nat), (sets c o vs).size = c.size
  | [], _, _ => rfl
  | v :: vs, c, o => by rw [sets, sets_size vs]; simp
theorem sets_get : ∀ (vs : List Value) (c : Array Value) (o j : Nat), o + vs.length ≤ c.size → (sets c o vs)[j]? = if o ≤ j ∧ j < o + vs.length then vs[j - o]? else c[j]?
  | [], c, o, j, _ => by rw [sets, if_neg (by simp only [List.length_nil]; omega)]
  | v :: vs, c, o, j, hs => by
    simp only [List.length_cons] at hs ⊢
    rw [sets, sets_get vs _ _ _ (by simp; omega)]
    by_cases h1 : j = o
    · subst h1
      rw [if_neg (by omega), if_pos (by omega), Nat.sub_self, Array.getElem?_setIfInBounds]
      have : j < c.size := by omega
      simp [this]
    · by_cases h2 : o + 1 ≤ j ∧ j < o + 1 + vs.length
      · rw [if_pos h2, if_pos (by omega)]
        have : j - o = (j - (o + 1)) + 1 := by omega
        rw [this, List.getElem?_cons_succ]
      · rw [if_neg h2, if_neg (by omega), Array.getElem?_setIfInBounds_ne (Ne.symm h1)]
theorem hsets_row : ∀ (vs : List Value) {h : Heap} {b o : Nat} {c : Array Value} {T : TypeId} {fr : Nat × Nat}, h[b]? = some (.cells c T fr) → (hsets h b o vs)[b]? = some (.cells (sets c o vs) T fr)
  | [], _, _, _, _, _, _, hr => hr
  | v :: vs, _, _, _, _, _, _, hr => by rw [hsets, sets]; exact hsets_row vs (hset_row hr)
theorem hsets_ne : ∀ (vs : List Value) {h : Heap} {b b' o : Nat}, b' ≠ b → (hsets h b o vs)[b']? = h[b']?
  | [], _, _, _, _, _ => rfl
  | v :: vs, _, _, _, _, hb => by rw [hsets, hsets_ne vs hb, hset_ne hb]
theorem hsets_size : ∀ (vs : List Value) {h : Heap} {b o : Nat}, Array.size (hsets h b o vs) = Array.size h
  | [], _, _, _ => rfl
  | v :: vs, _, _, _ => by rw [hsets, hsets_size vs, hset_size]
structure Fr (S : Nat → Prop) (h h' : Heap) : Prop where
  size : h.size ≤ h'.size
  block : ∀ b, b < h.size → ¬ S b → h'[b]? = h[b]?
theorem Fr.refl (S : Nat → Prop) (h : Heap) : Fr S h h := ⟨Nat.le_refl _, fun _ _ _ => rfl⟩
theorem Fr.trans {S S' : Nat → Prop} {a b c : Heap} (h : Fr S a b) (k : Fr S' b c) (hs : ∀ i, i < a.size → S' i → S i) : Fr S a c :=
  ⟨Nat.le_trans h.size k.size, fun i hi hn => (k.block i (Nat.lt_of_lt_of_le hi h.size) fun h' => hn (hs i hi h')).trans (h.block i hi hn)⟩
theorem Fr.mono {S S' : Nat → Prop} {a b : Heap} (h : Fr S a b) (hs : ∀ i, i < a.size → S i → S' i) : Fr S' a b := ⟨h.size, fun i hi hn => h.block i hi fun h' => hn (hs i hi h')⟩
theorem Ext.fr {h h' : Heap} (he : Ext h h') (S : Nat → Prop) : Fr S h h' := ⟨he.size, fun b hb _ => he.block b hb⟩
theorem Fr.ext {S : Nat → Prop} {h h' : Heap} (he : Fr S h h') (hs : ∀ i, i < h.size → ¬ S i) : Ext h h' := ⟨he.size, fun b hb => he.block b hb (hs b hb)⟩
theorem fr_hset (S : Nat → Prop) {h : Heap} {b o : Nat} {v : Value} (hS : b < h.size → S b) : Fr S h (hset h b o v) :=
  ⟨Nat.le_of_eq hset_size.symm, fun i hi hn => hset_ne fun e => hn (by subst e; exact hS hi)⟩
theorem fr_hsets (S : Nat → Prop) {h : Heap} {b o : Nat} {vs : List Value} (hS : b < h.size → S b) : Fr S h (hsets h b o vs) :=
  ⟨Nat.le_of_eq (hsets_size vs).symm, fun i hi hn => hsets_ne vs fun e => hn (by subst e; exact hS hi)⟩
theorem Ext.row {h h' : Heap} (he : Ext h h') {b : Nat} {o : Obj} (hr : h[b]? = some o) : h'[b]? = some o := (he.block b (row_lt hr)).trans hr
theorem Fr.row {S : Nat → Prop} {h h' : Heap} (he : Fr S h h') {b : Nat} {o : Obj} (hr : h[b]? = some o) (hn : ¬ S b) : h'[b]? = some o := (he.block b (row_lt hr) hn).trans hr
theorem w64 {x : Int} (h1 : -9223372036854775808 ≤ x) (h2 : x ≤ 9223372036854775807) : IntKind.i64.wrap x = x := by
  simp [IntKind.wrap, IntKind.bits, IntKind.signed]; omega
theorem wu64 {x : Int} (h1 : 0 ≤ x) (h2 : x < 18446744073709551616) : IntKind.u64.wrap x = x := by
  simp [IntKind.wrap, IntKind.bits, IntKind.signed]; omega
end Go.Proofs.YthjehlocmikchaaDoor
