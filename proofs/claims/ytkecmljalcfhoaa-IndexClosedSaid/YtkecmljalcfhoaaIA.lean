/-
The index in memory, and what its methods do.
-/
import Derived.Test.YtkecmljalcfhoaaIM
import Derived.Test.YtkecmljalcfhoaaShI
namespace Go.Proofs.Ytkecmljalcfhoaa
namespace Ix
open Go RH

/-- A stripe's table. -/
structure Tb where
  p : Nat
  q : Nat
  B : Nat
  s : RH.Sl
  L : List Ent

def ePtr : Elt Nat := ⟨1, fun p => [ptr p 0], fun _ => rfl, fun x v hv => by simp at hv; subst hv; rfl⟩

structure Idx (W : Nat → Prop) (h : Heap) (x m : Nat) (Ts : List Tb) : Prop where
  ex : ∃ la lc, h[x]? = some (.cells #[.slice la Ts.length lc] 61 (0, 0)) ∧ Sl ePtr h la lc (Ts.map Tb.p) ∧ ∀ b, blkA la b → W b ∧ ∀ t ∈ Ts, ¬ PQ t.p t.q b
  wx : W x
  nx : ∀ t ∈ Ts, ¬ PQ t.p t.q x
  ok : ∀ t ∈ Ts, TabOK h t.p t.q t.B m t.s ∧ Rel t.B t.s t.L
  wt : ∀ t ∈ Ts, W t.p ∧ W t.q
  sep : Ts.Pairwise fun t u => ∀ b, PQ t.p t.q b → ¬ PQ u.p u.q b
  len : 1 ≤ Ts.length ∧ Ts.length ≤ 64
  lt : ∀ b, W b → b < h.size
def Has (W : Nat → Prop) (h : Heap) (x m : Nat) (Ls : List (List Ent)) : Prop := ∃ Ts, Idx W h x m Ts ∧ Ts.map Tb.L = Ls
def grown (W : Nat → Prop) (h h' : Heap) (b : Nat) : Prop := W b ∨ (h.size ≤ b ∧ b < h'.size)
/-- What a call leaves. -/
def Aft (W : Nat → Prop) (h : Heap) (x m : Nat) (Ls : List (List Ent)) (h' : Heap) : Prop := Fr W h h' ∧ Has (grown W h h') h' x m Ls

section
variable {W : Nat → Prop} {h : Heap} {x m : Nat} {Ts : List Tb} {Ls : List (List Ent)}

theorem Idx.fr (I : Idx W h x m Ts) {h' : Heap} {S : Nat → Prop} (f : Fr S h h') (hn : ∀ b, W b → ¬ S b) : Idx W h' x m Ts := by
  obtain ⟨la, lc, h1, h2, h3⟩ := I.ex
  refine ⟨⟨la, lc, f.row h1 (hn _ I.wx), h2.fr f fun b hb => hn b (h3 b hb).1, h3⟩, I.wx, I.nx, fun t ht => ?_, I.wt, I.sep, I.len, fun b hb => Nat.lt_of_lt_of_le (I.lt b hb) f.size⟩
  obtain ⟨k1, k2⟩ := I.ok t ht
  exact ⟨k1.fr f (hn _ (I.wt t ht).1) (hn _ (I.wt t ht).2), k2⟩
theorem Idx.ext (I : Idx W h x m Ts) {h' : Heap} (f : Ext h h') : Idx W h' x m Ts := I.fr (f.fr (fun _ => False)) fun _ _ h => h
theorem Idx.mono (I : Idx W h x m Ts) {W' : Nat → Prop} (hw : ∀ b, W b → W' b) (hl : ∀ b, W' b → b < h.size) : Idx W' h x m Ts := by
  obtain ⟨la, lc, h1, h2, h3⟩ := I.ex
  exact ⟨⟨la, lc, h1, h2, fun b hb => ⟨hw b (h3 b hb).1, (h3 b hb).2⟩⟩, hw _ I.wx, I.nx, I.ok, fun t ht => ⟨hw _ (I.wt t ht).1, hw _ (I.wt t ht).2⟩, I.sep, I.len, hl⟩
theorem Idx.grow (I : Idx W h x m Ts) {h' : Heap} (f : Ext h h') : Idx (grown W h h') h' x m Ts :=
  (I.ext f).mono (fun _ g => .inl g) fun b g => by
    rcases g with g | g
    · exact Nat.lt_of_lt_of_le (I.lt b g) f.size
    · exact g.2
theorem Aft.ofExt (I : Idx W h x m Ts) {h' : Heap} (f : Ext h h') : Aft W h x m (Ts.map Tb.L) h' := ⟨f.fr _, Ts, I.grow f, rfl⟩

/-- One table is changed. -/
theorem Idx.set (I : Idx W h x m Ts) {h' : Heap} {i : Nat} {t : Tb} (hi : Ts[i]? = some t) (f : Fr (PQ t.p t.q) h h') {q' B' : Nat} {s' : RH.Sl} {L' : List Ent} (hq : q' = t.q ∨ h.size ≤ q') (ok : TabOK h' t.p q' B' m s') (rel : Rel B' s' L') :
    Idx (fun b => W b ∨ b = q') h' x m (Ts.set i ⟨t.p, q', B', s', L'⟩) := by
  obtain ⟨la, lc, h1, h2, h3⟩ := I.ex
  have ht := List.mem_of_getElem? hi
  obtain ⟨hil, hie⟩ := List.getElem?_eq_some_iff.1 hi
  have hwp := I.wt t ht
  -- who is not t has none of its blocks
  have hsep : ∀ j u, Ts[j]? = some u → j ≠ i → ∀ b, PQ u.p u.q b → ¬ PQ t.p t.q b := by
    intro j u hj hji b g1 g2
    obtain ⟨hjl, hje⟩ := List.getElem?_eq_some_iff.1 hj
    rcases Nat.lt_or_gt_of_ne hji with g | g
    · have := List.pairwise_iff_getElem.1 I.sep j i hjl hil g
      rw [hje, hie] at this; exact this b g1 g2
    · have := List.pairwise_iff_getElem.1 I.sep i j hil hjl g
      rw [hie, hje] at this; exact this b g2 g1
  have hold : ∀ u ∈ Ts, ∀ b, PQ u.p u.q b → b < h.size := fun u hu b g => by
    rcases g with rfl | rfl
    · exact I.lt _ (I.wt u hu).1
    · exact I.lt _ (I.wt u hu).2
  have hmem : ∀ u, u ∈ Ts.set i ⟨t.p, q', B', s', L'⟩ → u = ⟨t.p, q', B', s', L'⟩ ∨ ∃ j, Ts[j]? = some u ∧ j ≠ i := by
    intro u hu
    obtain ⟨j, hj, he⟩ := List.getElem_of_mem hu
    rw [List.getElem_set] at he
    split at he
    · exact .inl he.symm
    · rename_i hne
      exact .inr ⟨j, by rw [← he]; exact List.getElem?_eq_getElem _, fun q => hne q.symm⟩
  have hnew : ∀ b, PQ t.p q' b → PQ t.p t.q b ∨ h.size ≤ b := fun b g => by
    rcases g with rfl | rfl
    · exact .inl (.inl rfl)
    · rcases hq with g | g
      · rw [g]; exact .inl (.inr rfl)
      · exact .inr g
  have hxl := I.lt _ I.wx
  refine ⟨⟨la, lc, ?_, ?_, fun b hb => ⟨.inl (h3 b hb).1, fun u hu g => ?_⟩⟩, .inl I.wx, fun u hu g => ?_, fun u hu => ?_, fun u hu => ?_, ?_, by simpa using I.len, fun b g => ?_⟩
  · rw [List.length_set]; exact f.row h1 (I.nx t ht)
  · have e : (Ts.set i ⟨t.p, q', B', s', L'⟩).map Tb.p = Ts.map Tb.p := by
      rw [List.map_set]
      refine List.ext_getElem? fun j => ?_
      rw [List.getElem?_set]
      split
      · rename_i hij; subst hij; simp [hil, hie]
      · rfl
    rw [e]
    exact h2.fr f fun b hb => (h3 b hb).2 t ht
  · rcases hmem u hu with rfl | ⟨j, hj, _⟩
    · rcases hnew b g with g | g
      · exact (h3 b hb).2 t ht g
      · have := I.lt b (h3 b hb).1; omega
    · exact (h3 b hb).2 u (List.mem_of_getElem? hj) g
  · rcases hmem u hu with rfl | ⟨j, hj, _⟩
    · rcases hnew x g with g | g
      · exact I.nx t ht g
      · omega
    · exact I.nx u (List.mem_of_getElem? hj) g
  · rcases hmem u hu with rfl | ⟨j, hj, hji⟩
    · exact ⟨ok, rel⟩
    · have hu' := List.mem_of_getElem? hj
      obtain ⟨k1, k2⟩ := I.ok u hu'
      exact ⟨k1.fr f (fun g => hsep j u hj hji _ (.inl rfl) g) (fun g => hsep j u hj hji _ (.inr rfl) g), k2⟩
  · rcases hmem u hu with rfl | ⟨j, hj, hji⟩
    · exact ⟨.inl hwp.1, .inr rfl⟩
    · exact ⟨.inl (I.wt u (List.mem_of_getElem? hj)).1, .inl (I.wt u (List.mem_of_getElem? hj)).2⟩
  · refine List.pairwise_iff_getElem.2 fun j k hj hk hjk b g1 g2 => ?_
    simp only [List.length_set] at hj hk
    rw [List.getElem_set] at g1 g2
    split at g1 <;> split at g2
    · omega
    · rename_i e1 e2
      subst e1
      rcases hnew b g1 with g | g
      · exact hsep k _ (List.getElem?_eq_getElem hk) (by omega) b g2 g
      · have := hold _ (List.getElem_mem hk) b g2; omega
    · rename_i e1 e2
      subst e2
      rcases hnew b g2 with g | g
      · exact hsep j _ (List.getElem?_eq_getElem hj) (by omega) b g1 g
      · have := hold _ (List.getElem_mem hj) b g1; omega
    · have := List.pairwise_iff_getElem.1 I.sep j k hj hk hjk
      exact this b g1 g2
  · rcases g with g | g
    · exact Nat.lt_of_lt_of_le (I.lt b g) f.size
    · subst g; exact ok.lt.2

theorem Idx.c0 (I : Idx W h x m Ts) : ∃ la lc, hcell h x 0 = some (.slice la Ts.length lc) ∧ ∀ i t, Ts[i]? = some t → ∃ b o, la = some ⟨b, o, none⟩ ∧ hcell h b (o + i * 1) = some (.pointer (some ⟨t.p, 0, none⟩)) := by
  obtain ⟨la, lc, h1, h2, h3⟩ := I.ex
  refine ⟨la, lc, by rw [hcell_row h1]; rfl, fun i t hi => ?_⟩
  obtain ⟨b, o, e, d⟩ := h2.at (i := i) (x := t.p) (by rw [List.getElem?_map, hi]; rfl)
  exact ⟨b, o, e, d.1⟩

theorem stripes_i (I : Idx W h x m Ts) : HC Try.prog 17 #[.pointer (some ⟨x, 0, none⟩)] h fun v h' => v = .int .i64 (Ts.length : Int) ∧ h' = h := by
  obtain ⟨la, lc, c0, _⟩ := I.c0
  exact f17_sh _ _ _ ⟨fun g => by simp at g, fun _ => ⟨x, 0, rfl, _, _, _, c0, rfl, rfl⟩⟩
theorem tmod_nat' (a b : Nat) : Int.tmod (a : Int) (b : Int) = ((a % b : Nat) : Int) := tmod_nat a b
theorem stripe_i (I : Idx W h x m Ts) (v : Nat) : HC Try.prog 24 #[.pointer (some ⟨x, 0, none⟩), .int .u64 v] h fun r h' => r = .int .i64 ((v % Ts.length : Nat) : Int) ∧ h' = h := by
  obtain ⟨la, lc, c0, _⟩ := I.c0
  have hl := I.len
  have hm := Nat.mod_lt v (show 0 < Ts.length by omega)
  have e : IntKind.u64.wrap (Ts.length : Int) = (Ts.length : Int) := wu64 (by omega) (by omega)
  refine f24_sh _ _ _ _ ⟨_, stripes_i I, fun g => ?_, fun _ => ⟨x, 0, rfl, _, _, _, c0, ?_, ?_, rfl⟩⟩
  · have := eq_of_beq g; omega
  · rw [e]; omega
  · rw [e, tmod_nat, w64 (by omega) (by omega)]
theorem at_i (I : Idx W h x m Ts) (v : Nat) {t : Tb} (ht : Ts[v % Ts.length]? = some t) : HC Try.prog 27 #[.pointer (some ⟨x, 0, none⟩), .int .u64 v] h fun r h' => r = .pointer (some ⟨t.p, 0, none⟩) ∧ h' = h := by
  obtain ⟨la, lc, c0, cs⟩ := I.c0
  have hl := I.len
  have hm := Nat.mod_lt v (show 0 < Ts.length by omega)
  obtain ⟨b, o, e, d⟩ := cs _ _ ht
  refine f27_sh _ _ _ _ ⟨_, stripes_i I, fun g => ?_, fun _ => ⟨x, 0, rfl, _, _, _, c0, _, fun h1 x1 => stripe_i (I.ext x1) v, b, o, e, by omega, by omega, _, d, rfl, rfl⟩⟩
  have := eq_of_beq g; omega
theorem Idx.get (I : Idx W h x m Ts) (v : Nat) : ∃ t, Ts[v % Ts.length]? = some t ∧ (Ts.map Tb.L)[v % Ts.length]? = some t.L := by
  have hl := I.len
  have hm := Nat.mod_lt v (show 0 < Ts.length by omega)
  exact ⟨Ts[v % Ts.length], List.getElem?_eq_getElem hm, by rw [List.getElem?_map, List.getElem?_eq_getElem hm]; rfl⟩

/-- The list of a hash's stripe. -/
def str (Ls : List (List Ent)) (v : Nat) : List Ent := Ls.getD (v % Ls.length) []
theorem str_eq {t : Tb} {v : Nat} (ht : Ts[v % Ts.length]? = some t) : str (Ts.map Tb.L) v = t.L := by
  unfold str
  rw [List.length_map, List.getD_eq_getElem?_getD, List.getElem?_map, ht]; rfl

theorem get_i (I : Idx W h x m Ts) {v : Nat} (hv : v < 18446744073709551616) : HC Try.prog 11 #[.pointer (some ⟨x, 0, none⟩), .int .u64 v] h fun r h' => r = v2 (mGet (str (Ts.map Tb.L) v) v) ∧ Ext h h' := by
  obtain ⟨t, ht, _⟩ := I.get v
  rw [str_eq ht]
  refine f11_sh _ _ _ _ fun pb h1 lo1 lt1 x1 => ⟨_, at_i (I.ext x1) v ht, ?_⟩
  obtain ⟨ok, rel⟩ := (I.ext x1).ok t (List.mem_of_getElem? ht)
  refine (get_c ok hv).mono ?_
  rintro r h2 ⟨x2, hr⟩
  have e : r = v2 (mGet t.L v) := by
    unfold mGet
    rcases hr with ⟨y, hy, hyh, rfl⟩ | ⟨hno, rfl⟩
    · rw [(look_some rel.srt).2 ⟨(rel.mem y).1 hy, hyh⟩]; rfl
    · rw [look_none.2 fun y hy => hno y ((rel.mem y).2 hy)]; rfl
  subst e
  exact ⟨x2.kp _, _, _, _, _, _, rfl, fun h3 f3 => ⟨rfl, ext_of_fr f3 (x1.trans x2) lo1⟩⟩
end
end Ix
end Go.Proofs.Ytkecmljalcfhoaa
