/-
Entries in slices; what the table's texts share.
-/
import Derived.Test.YtkecmljalcfhoaaRHu
import Derived.Test.YtkecmljalcfhoaaTab5
import Derived.Test.YtkecmljalcfhoaaSrt
import Derived.Test.YtkecmljalcfhoaaPrv
namespace Go.Proofs.Ytkecmljalcfhoaa
open Go RH

def eEnt : Elt Ent := ⟨4, fun e => [.int .u64 e.h, .int .u64 e.a, .int .u64 e.v, .int .u8 e.k], fun _ => rfl, fun x v hv => by simp at hv; rcases hv with rfl | rfl | rfl | rfl <;> rfl⟩
theorem aEnt : AppT Try.prog 47 31 eEnt.k 32 := ⟨by kernel_rfl, by kernel_rfl, by kernel_rfl, ⟨.agg #[.int .u64 0, .int .u64 0, .int .u64 0, .int .u8 0], [.int .u64 0, .int .u64 0, .int .u64 0, .int .u8 0], by unfold zeroB; kernel_rfl, rfl, rfl⟩, by decide⟩
instance : Inhabited Ent := ⟨z0⟩

/-- One cell of an element is written. -/
theorem Sl.set1 {α : Type} {E : Elt α} {h : Heap} {b o c : Nat} {L : List α} {T : TypeId} {N : Nat} (s : Sl E h (some ⟨b, o, none⟩) c L) (w : Own E.k T N h (some ⟨b, o, none⟩) c) {i r : Nat} {x x' : α} {v : Value} (hx : L[i]? = some x) (hr : r < E.k) (he : E.enc x' = (E.enc x).set r v) :
    Sl E (hset h b (o + i * E.k + r) v) (some ⟨b, o, none⟩) c (L.set i x') := by
  obtain ⟨cs, hrow, hcs, _⟩ := w.row
  have hi := (List.getElem?_eq_some_iff.1 hx).1
  have hle := s.le
  have f1 : (i + 1) * E.k ≤ c * E.k := Nat.mul_le_mul_right _ (by omega)
  rw [Nat.add_mul] at f1
  have hat : hcell (hset h b (o + i * E.k + r) v) b (o + i * E.k + r) = some v := by
    have hb : o + i * E.k + r < cs.size := by omega
    rw [hcell_row (hset_row hrow), Array.getElem?_setIfInBounds]; simp [hb]
  refine ⟨by simpa using s.le, .inr ⟨b, o, rfl, fun j y hy => ?_⟩⟩
  rw [List.getElem?_set] at hy
  split at hy
  · rename_i hij
    subst hij
    cases hy
    obtain ⟨b', o', e, hc⟩ := s.at hx
    cases e
    refine HCells.mk fun q u hu => ?_
    rw [he, List.getElem?_set] at hu
    split at hu
    · rename_i hq
      subst hq
      rw [if_pos (by rw [E.len]; exact hr)] at hu
      cases hu; exact hat
    · rename_i hq
      rw [hcell_hset_ne (by omega)]
      exact hc.get hu
  · rename_i hij
    obtain ⟨b', o', e, hc⟩ := s.at hy
    cases e
    refine HCells.mk fun q u hu => ?_
    have hq := (List.getElem?_eq_some_iff.1 hu).1
    rw [E.len] at hq
    rw [hcell_hset_ne ?_]
    · exact hc.get hu
    · rcases Nat.lt_or_gt_of_ne hij with g | g
      · have : (i + 1) * E.k ≤ j * E.k := Nat.mul_le_mul_right _ g
        rw [Nat.add_mul] at this; omega
      · have : (j + 1) * E.k ≤ i * E.k := Nat.mul_le_mul_right _ g
        rw [Nat.add_mul] at this; omega
theorem pos_ex : ∀ {L : List Ent}, Srt L → ∀ v : Nat, ∃ i is, Pos L v i is
  | [], _, v => ⟨0, false, by simp, by simp, by simp, by simp, by simp⟩
  | e :: L, hL, v => by
    have l1 := List.pairwise_cons.1 hL
    rcases Nat.lt_trichotomy e.h v with g | g | g
    · obtain ⟨i, is, p⟩ := pos_ex l1.2 v
      refine ⟨i + 1, is, by simpa using p.le, fun y hy => ?_, fun y hy => p.hi y (by simpa using hy), fun q => by simpa using p.yes q, fun q y hy => ?_⟩
      · rcases List.mem_cons.1 (by simpa using hy) with r | r
        · rw [r]; exact g
        · exact p.lo y r
      · rcases List.mem_cons.1 hy with r | r
        · rw [r]; omega
        · exact p.no q y r
    · refine ⟨0, true, by simp, by simp, fun y hy => ?_, fun _ => ⟨e, by simp, g⟩, fun q => by cases q⟩
      rcases List.mem_cons.1 (by simpa using hy) with r | r
      · rw [r]; omega
      · have := l1.1 y r; omega
    · refine ⟨0, false, by simp, by simp, fun y hy => ?_, (fun q => by cases q), fun _ y hy => ?_⟩
      · rcases List.mem_cons.1 (by simpa using hy) with r | r
        · rw [r]; omega
        · have := l1.1 y r; omega
      · rcases List.mem_cons.1 hy with r | r
        · rw [r]; omega
        · have := l1.1 y r; omega
theorem kp_of {bs : List Nat} {h0 h h' : Heap} (e : Ext h0 h) (e' : Ext h0 h') (hb : ∀ b ∈ bs, b < h0.size) : Kp bs h h' :=
  fun b hm _ => (e'.block b (hb b hm)).trans (e.block b (hb b hm)).symm
theorem fit_fr (S : Nat → Prop) : Fit (Fr S) := ⟨fun _ _ x => x.fr S, fun _ _ _ f g => f.trans g fun _ _ h => h⟩
theorem ent_lit {nb : Nat} {h h' : Heap} (eb : nb = h.size) (eh : h' = h.push (.cells #[] 31)) : Sl eEnt h' (some ⟨nb, 0, none⟩) 0 [] ∧ Own eEnt.k 31 h.size h' (some ⟨nb, 0, none⟩) 0 ∧ Ext h h' := by
  obtain ⟨a1, c1, e1, x1, s1, w1⟩ := New.lit (E := eEnt) (h0 := h) (n := 0) (L := ([] : List Ent)) (Ext.refl h) eb eh rfl rfl
  cases e1; exact ⟨s1, w1, x1⟩
theorem EntsAt.set {h : Heap} {b n : Nat} {s : RH.Sl} (x : EntsAt h b n s) {j : Nat} (hj : j < n) (e : Ent) :
    HWs h b (0 + j * 4) 4 ∧ EntsAt (hsets h b (0 + j * 4) [.int .u64 e.h, .int .u64 e.a, .int .u64 e.v, .int .u8 e.k]) b n (stt s j e) := by
  obtain ⟨c, r, hl, he⟩ := x
  exact ⟨HWs_row r (by omega), _, hsets_row _ r, by rw [sets_size]; exact hl, ents_set hl he hj e⟩
theorem EntsAt.fr {h h' : Heap} {S : Nat → Prop} (f : Fr S h h') {b n : Nat} {s : RH.Sl} (hn : ¬ S b) : EntsAt h b n s → EntsAt h' b n s := fun ⟨c, h1, h2⟩ => ⟨c, f.row h1 hn, h2⟩
theorem EntsAt.sl {h : Heap} {b n c : Nat} {s : RH.Sl} (x : EntsAt h b n s) (hc : n ≤ c) : Sl eEnt h (some ⟨b, 0, none⟩) c (lay n s) := by
  obtain ⟨cs, r, hl, he⟩ := x
  refine ⟨by rw [lay_len]; exact hc, .inr ⟨b, 0, rfl, fun i y hy => ?_⟩⟩
  have hi : i < n := by have := (List.getElem?_eq_some_iff.1 hy).1; rwa [lay_len] at this
  rw [lay_get _ _ hi] at hy
  cases hy
  have e := he i hi
  have e0 : 0 + i * 4 = i * 4 := by omega
  have q0 : hcell h b (0 + i * 4) = some (.int .u64 (s i).h) := by rw [hcell_row r, e0]; exact e.c0
  have q1 : hcell h b (0 + i * 4 + 1) = some (.int .u64 (s i).a) := by rw [hcell_row r, e0]; exact e.c1
  have q2 : hcell h b (0 + i * 4 + 1 + 1) = some (.int .u64 (s i).v) := by rw [hcell_row r, e0]; exact e.c2
  have q3 : hcell h b (0 + i * 4 + 1 + 1 + 1) = some (.int .u8 (s i).k) := by rw [hcell_row r, e0]; exact e.c3
  exact ⟨q0, q1, q2, q3, trivial⟩
theorem take_mem {L : List Ent} {k : Nat} (hk : k < L.length) {y : Ent} : y ∈ L.take (k + 1) ↔ y ∈ L.take k ∨ y = L[k] := by
  have e : L.take (k + 1) = L.take k ++ [L[k]] := by rw [List.take_add_one, List.getElem?_eq_getElem hk]; rfl
  rw [e, List.mem_append, List.mem_singleton]
theorem fr_new {h h1 h2 : Heap} {p q : Nat} (e1 : Ext h h1) (hp : h.size ≤ p) (hq : h.size ≤ q) (f : Fr (PQ p q) h1 h2) : Ext h h2 :=
  ((e1.fr (fun _ => False)).trans f (fun i hi h' => by rcases h' with h' | h' <;> omega)).ext (fun _ _ h => h)
theorem app_at {α : Type} {E : Elt α} {T : TypeId} {N : Nat} {h : Heap} {a : Option Addr} {c : Nat} {L : List α} {P : Program} {t : TypeId} {by_ : Nat} (A : AppT P t T E.k by_) {n n2 : Nat}
    {a2 : Option Addr} {c2 : Nat} {L2 : List α} (s : Sl E h a c L) (w : Own E.k T N h a c) (hn : n = L.length) (s2 : Sl E h a2 c2 L2) (hn2 : n2 = L2.length) (hN : N ≤ h.size) (hsz : (n + n2) * by_ ≤ 140737488355328) {K : Value → Heap → Prop}
    (hk : ∀ a' c' h', Fr (blkA a) h h' → Sl E h' a' c' (L ++ L2) → Own E.k T N h' a' c' → (∀ b, blkA a' b → blkA a b ∨ h.size ≤ b) → K (.slice a' (n + n2) c') h') :
    HAppend P t t (.slice a n c) (.slice a2 n2 c2) h K := by
  subst hn; subst hn2; exact app_sl A s w s2 hN hsz hk
theorem ent_eq (y z : Ent) : ((y.h : Int) == z.h && ((y.a : Int) == z.a && ((y.v : Int) == z.v && ((y.k : Int) == z.k && true)))) = decide (y = z) := by
  obtain ⟨y1, y2, y3, y4⟩ := y
  obtain ⟨z1, z2, z3, z4⟩ := z
  rw [Bool.eq_iff_iff]
  simp
  omega
theorem srt_ex : ∀ M : List Ent, M.Pairwise (fun a b => a.h ≠ b.h) → ∃ L, Srt L ∧ ∀ e, e ∈ L ↔ e ∈ M
  | [], _ => ⟨[], List.Pairwise.nil, fun _ => Iff.rfl⟩
  | e :: M, h => by
    have h1 := List.pairwise_cons.1 h
    obtain ⟨L, hL, hm⟩ := srt_ex M h1.2
    obtain ⟨i, is, p⟩ := pos_ex hL e.h
    cases is with
    | true =>
      obtain ⟨y, hy, hyh⟩ := p.yes rfl
      exact absurd hyh.symm (h1.1 y ((hm y).1 (List.mem_of_getElem? hy)))
    | false =>
      obtain ⟨k1, k2⟩ := ins_ok hL p (e := e) rfl
      refine ⟨_, k1, fun y => ?_⟩
      rw [k2 y, hm y, List.mem_cons]
      exact or_comm
theorem rel_ex {B : Nat} {s : RH.Sl} (g : RGood (2 ^ B) B s) : ∃ L, Rel B s L := by
  obtain ⟨L, h1, h2⟩ := srt_ex _ (oc_ne g.uniq)
  exact ⟨L, h1, fun e => in_oc.symm.trans (h2 e).symm⟩
end Go.Proofs.Ytkecmljalcfhoaa
