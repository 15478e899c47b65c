import Derived.Test.YthjehlocmikchaaDoorDvSli
namespace Go.Proofs.YthjehlocmikchaaDoor
open Go
theorem rowcell {h : Heap} {b o : Nat} {c : Array Value} {T : TypeId} {fr : Nat × Nat} {v : Value} (hr : h[b]? = some (.cells c T fr)) (hv : c[o]? = some v) : hcell h b o = some v := by rw [hcell_row hr]; exact hv
theorem row_hset_ne {h h1 : Heap} {b o p : Nat} {v : Value} {x : Obj} (e : h1 = hset h b o v) (n : p ≠ b) (r : h[p]? = some x) : h1[p]? = some x := by rw [e, hset_ne n]; exact r
theorem row_hsets_ne {h h1 : Heap} {b o p : Nat} {vs : List Value} {x : Obj} (e : h1 = hsets h b o vs) (n : p ≠ b) (r : h[p]? = some x) : h1[p]? = some x := by rw [e, hsets_ne vs n]; exact r
theorem row_hset_eq {h h1 : Heap} {b o : Nat} {v : Value} {c c' : Array Value} {T : TypeId} {fr : Nat × Nat} (e : h1 = hset h b o v) (r : h[b]? = some (.cells c T fr)) (q : c.setIfInBounds o v = c') : h1[b]? = some (.cells c' T fr) := by rw [e, hset_row r, q]
theorem row_hsets_eq {h h1 : Heap} {b o : Nat} {vs : List Value} {c c' : Array Value} {T : TypeId} {fr : Nat × Nat} (e : h1 = hsets h b o vs) (r : h[b]? = some (.cells c T fr)) (q : sets c o vs = c') : h1[b]? = some (.cells c' T fr) := by rw [e, hsets_row vs r, q]
theorem fr_hset_of {h h1 : Heap} {b o : Nat} {v : Value} (e : h1 = hset h b o v) : Fr (fun i => i = b) h h1 := by rw [e]; exact fr_hset _ fun _ => rfl
theorem fr_hsets_of {h h1 : Heap} {b o : Nat} {vs : List Value} (e : h1 = hsets h b o vs) : Fr (fun i => i = b) h h1 := by rw [e]; exact fr_hsets _ fun _ => rfl
theorem ext_of_fr {w h h1 : Heap} {b : Nat} (f : Fr (fun i => i = b) h h1) (x : Ext w h) (lo : w.size ≤ b) : Ext w h1 :=
  ⟨Nat.le_trans x.size f.size, fun i hi => (f.block i (Nat.lt_of_lt_of_le hi x.size) (by omega)).trans (x.block i hi)⟩
theorem ext_hset {w h h1 : Heap} {b o : Nat} {v : Value} (e : h1 = hset h b o v) (x : Ext w h) (lo : w.size ≤ b) : Ext w h1 := ext_of_fr (fr_hset_of e) x lo
theorem ext_hsets {w h h1 : Heap} {b o : Nat} {vs : List Value} (e : h1 = hsets h b o vs) (x : Ext w h) (lo : w.size ≤ b) : Ext w h1 := ext_of_fr (fr_hsets_of e) x lo
def Kp (bs : List Nat) (h h' : Heap) : Prop := ∀ b ∈ bs, b < h.size → h'[b]? = h[b]?
theorem Kp.row {bs : List Nat} {h h' : Heap} (k : Kp bs h h') {b : Nat} (hb : b ∈ bs) {x : Obj} (r : h[b]? = some x) : h'[b]? = some x := (k b hb (row_lt r)).trans r
theorem Ext.kp {h h' : Heap} (x : Ext h h') (bs : List Nat) : Kp bs h h' := fun b _ hb => x.block b hb
theorem Fr.kp {S : Nat → Prop} {h h' : Heap} (x : Fr S h h') {bs : List Nat} (hn : ∀ b ∈ bs, ¬ S b) : Kp bs h h' := fun b hm hb => x.block b hb (hn b hm)
theorem Sl.only {α κ : Type} {E : Elt α} {h h' : Heap} {mb : Nat} {enc : κ → Value} {l : List (κ × Value)} {a : Option Addr} {c : Nat} {L : List α} (s : Sl E h a c L) (o : Only mb h h') (m : MapL h mb enc l) : Sl E h' a c L := by
  refine ⟨s.le, s.ex.imp id fun ⟨b, q, e, hc⟩ => ⟨b, q, e, fun i x hx => HCells.mk fun j v hj => ?_⟩⟩
  have h1 := (hc i x hx).get hj
  have hne : b ≠ mb := fun e => by
    obtain ⟨es, cl, h2, _⟩ := m
    unfold hcell at h1; rw [e, h2] at h1; cases h1
  have hs : h'[b]? = h[b]? := o.block b hne
  unfold hcell at *; rw [hs]; exact h1
def Off (b : Nat) (bs : List Nat) : Prop := ∀ p ∈ bs, p ≠ b
end Go.Proofs.YthjehlocmikchaaDoor
