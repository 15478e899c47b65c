/-
The manager of regions in memory.
-/
import Derived.Test.YtfdgjgjcppfmiaaGA
import Derived.Test.YtfdgjgjcppfmiaaQA
namespace Go.Proofs.Ytfdgjgjcppfmiaa
namespace Mg
open Go

structure Dr where
  a : Option Addr
  c : Nat
  L : List Int
abbrev tI : TypeId := 31
abbrev tM : TypeId := 67

structure Mem (W : Nat → Prop) (h : Heap) (p : Nat) (S : Rg) (ra fa : Option Addr) (qc fc mb : Nat) (kv : List (Int × Value)) (Ds : List Dr) : Prop where
  row : h[p]? = some (.cells #[.slice ra S.I.length qc, .slice fa S.Q.length fc, .int .u64 S.last, .int .i64 S.cur, .map (some mb)] tM (0, 0))
  si : Sl eInf h ra qc S.I
  oi : Own eInf.k tI 0 h ra qc
  sq : Sl eI h fa fc S.Q
  oq : Own eI.k 3 0 h fa fc
  mp : MapL h mb (Value.int .i64) kv
  dk : ∀ (r : Nat) d, Ds[r]? = some d → (lk kv (r : Int)).getD (.slice none 0 0) = .slice d.a d.L.length d.c
  ds : ∀ d ∈ Ds, Sl eI h d.a d.c d.L ∧ Own eI.k 3 0 h d.a d.c
  eD : Ds.map Dr.L = S.D
  sep : Ds.Pairwise fun d e => ∀ b, blkA d.a b → ¬ blkA e.a b
  sf : ∀ d ∈ Ds, ∀ b, blkA d.a b → ¬ blkA fa b
  wp : W p
  wm : W mb
  wi : ∀ b, blkA ra b → W b
  wq : ∀ b, blkA fa b → W b
  wd : ∀ d ∈ Ds, ∀ b, blkA d.a b → W b
  lt : ∀ b, W b → b < h.size
def HasM (W : Nat → Prop) (h : Heap) (p : Nat) (S : Rg) : Prop := ∃ ra fa qc fc mb kv Ds, Mem W h p S ra fa qc fc mb kv Ds
def grown (W : Nat → Prop) (h h' : Heap) (b : Nat) : Prop := W b ∨ (h.size ≤ b ∧ b < h'.size)
def AftM (W : Nat → Prop) (h : Heap) (p : Nat) (S' : Rg) (h' : Heap) : Prop := Fr W h h' ∧ HasM (grown W h h') h' p S'

theorem own_ne {k : Nat} {T T' : TypeId} {N : Nat} {h : Heap} {a : Option Addr} {c p : Nat} {cs : Array Value} {fr : Nat × Nat} (w : Own k T N h a c) (hr : h[p]? = some (.cells cs T' fr)) (hT : T' ≠ T) : ¬ blkA a p := fun hb => by
  rcases w with ⟨e, _⟩ | ⟨b', o', cs', e, _, r1, _⟩
  · rw [e] at hb; exact blkA_none hb
  · rw [e, blkA_some] at hb; subst hb; rw [hr] at r1; simp at r1; exact hT r1.2.1
theorem own_ne2 {k k' : Nat} {T T' : TypeId} {N N' : Nat} {h : Heap} {a a' : Option Addr} {c c' : Nat} (w : Own k T N h a c) (w' : Own k' T' N' h a' c') (hT : T' ≠ T) : ∀ b, blkA a' b → ¬ blkA a b := fun b hb => by
  rcases w' with ⟨e, _⟩ | ⟨b', o', cs', e, _, r1, _⟩
  · rw [e] at hb; exact (blkA_none hb).elim
  · rw [e, blkA_some] at hb; subst hb; exact own_ne w r1 hT
theorem own_map {k : Nat} {T : TypeId} {N : Nat} {h : Heap} {a : Option Addr} {c mb : Nat} {kv : List (Int × Value)} (w : Own k T N h a c) (m : MapL h mb (Value.int .i64) kv) : ¬ blkA a mb := fun hb => by
  obtain ⟨_, _, r2, _⟩ := m
  rcases w with ⟨e, _⟩ | ⟨b', o', cs', e, _, r1, _⟩
  · rw [e] at hb; exact blkA_none hb
  · rw [e, blkA_some] at hb; subst hb; rw [r2] at r1; simp at r1
theorem row_map {h : Heap} {p mb : Nat} {cs : Array Value} {T : TypeId} {fr : Nat × Nat} {kv : List (Int × Value)} (hr : h[p]? = some (.cells cs T fr)) (m : MapL h mb (Value.int .i64) kv) : p ≠ mb := fun e => by
  obtain ⟨_, _, r2, _⟩ := m
  subst e; rw [hr] at r2; simp at r2

section
variable {W : Nat → Prop} {h h' : Heap} {p : Nat} {S : Rg} {ra fa : Option Addr} {qc fc mb : Nat} {kv : List (Int × Value)} {Ds : List Dr} {K : Nat}

theorem Mem.fr (M : Mem W h p S ra fa qc fc mb kv Ds) {Z : Nat → Prop} (f : Fr Z h h') (hn : ∀ b, W b → ¬ Z b) : Mem W h' p S ra fa qc fc mb kv Ds :=
  { M with
    row := f.row M.row (hn _ M.wp)
    si := M.si.fr f fun b hb => hn b (M.wi b hb)
    oi := M.oi.fr f fun b hb => hn b (M.wi b hb)
    sq := M.sq.fr f fun b hb => hn b (M.wq b hb)
    oq := M.oq.fr f fun b hb => hn b (M.wq b hb)
    mp := M.mp.fr f (hn _ M.wm)
    ds := fun d hd => ⟨(M.ds d hd).1.fr f fun b hb => hn b (M.wd d hd b hb), (M.ds d hd).2.fr f fun b hb => hn b (M.wd d hd b hb)⟩
    lt := fun b hb => Nat.lt_of_lt_of_le (M.lt b hb) f.size }
theorem Mem.ext (M : Mem W h p S ra fa qc fc mb kv Ds) (x : Ext h h') : Mem W h' p S ra fa qc fc mb kv Ds := M.fr (x.fr (fun _ => False)) fun _ _ g => g
theorem Mem.mono (M : Mem W h p S ra fa qc fc mb kv Ds) {W' : Nat → Prop} (hw : ∀ b, W b → W' b) (hl : ∀ b, W' b → b < h.size) : Mem W' h p S ra fa qc fc mb kv Ds :=
  { M with wp := hw _ M.wp, wm := hw _ M.wm, wi := fun b g => hw b (M.wi b g), wq := fun b g => hw b (M.wq b g), wd := fun d hd b g => hw b (M.wd d hd b g), lt := hl }
theorem HasM.fr (H : HasM W h p S) {Z : Nat → Prop} (f : Fr Z h h') (hn : ∀ b, W b → ¬ Z b) : HasM W h' p S := let ⟨ra, fa, qc, fc, mb, kv, Ds, M⟩ := H; ⟨ra, fa, qc, fc, mb, kv, Ds, M.fr f hn⟩
theorem HasM.ext (H : HasM W h p S) (x : Ext h h') : HasM W h' p S := H.fr (x.fr (fun _ => False)) fun _ _ g => g
theorem HasM.lt (H : HasM W h p S) : ∀ b, W b → b < h.size := let ⟨_, _, _, _, _, _, _, M⟩ := H; M.lt
theorem Mem.aft (M : Mem W h p S ra fa qc fc mb kv Ds) (x : Ext h h') : AftM W h p S h' :=
  ⟨x.fr _, ra, fa, qc, fc, mb, kv, Ds, (M.ext x).mono (fun _ g => .inl g) fun b g => g.elim (fun g => Nat.lt_of_lt_of_le (M.lt b g) x.size) fun g => g.2⟩
/-- From a memory of ours behind. -/
theorem Mem.aft' (M : Mem W h p S ra fa qc fc mb kv Ds) {S' : Rg} {ra' fa' : Option Addr} {qc' fc' mb' : Nat} {kv' : List (Int × Value)} {Ds' : List Dr} (f : Fr W h h') {W' : Nat → Prop} (M' : Mem W' h' p S' ra' fa' qc' fc' mb' kv' Ds') (hw : ∀ b, W' b → W b ∨ h.size ≤ b) : AftM W h p S' h' :=
  ⟨f, ra', fa', qc', fc', mb', kv', Ds', M'.mono (fun b g => (hw b g).imp id fun k => ⟨k, M'.lt b g⟩) fun b g => g.elim (fun g => Nat.lt_of_lt_of_le (M.lt b g) f.size) fun g => g.2⟩

/-! ### what is written -/
theorem Mem.setI (M : Mem W h p S ra fa qc fc mb kv Ds) {I' : List Inf} (hl : I'.length = S.I.length) (f : Fr (blkA ra) h h') (s : Sl eInf h' ra qc I') (w : Own eInf.k tI 0 h' ra qc) : Mem W h' p { S with I := I' } ra fa qc fc mb kv Ds :=
  { M with
    row := by show h'[p]? = some (.cells #[.slice ra I'.length qc, _, _, _, _] tM (0, 0)); rw [hl]; exact f.row M.row (own_ne M.oi M.row (by decide))
    si := s
    oi := w
    sq := M.sq.fr f (own_ne2 M.oi M.oq (by decide))
    oq := M.oq.fr f (own_ne2 M.oi M.oq (by decide))
    mp := M.mp.fr f (own_map M.oi M.mp)
    ds := fun d hd => ⟨(M.ds d hd).1.fr f (own_ne2 M.oi (M.ds d hd).2 (by decide)), (M.ds d hd).2.fr f (own_ne2 M.oi (M.ds d hd).2 (by decide))⟩
    lt := fun b hb => Nat.lt_of_lt_of_le (M.lt b hb) f.size }
theorem Mem.setP (M : Mem W h p S ra fa qc fc mb kv Ds) {last cur : Int} (f : Fr (fun b => b = p) h h') (r : h'[p]? = some (.cells #[.slice ra S.I.length qc, .slice fa S.Q.length fc, .int .u64 last, .int .i64 cur, .map (some mb)] tM (0, 0))) : Mem W h' p { S with last := last, cur := cur } ra fa qc fc mb kv Ds :=
  have n1 : ∀ b, blkA ra b → ¬ b = p := fun b hb e => own_ne M.oi M.row (by decide) (e ▸ hb)
  have n2 : ∀ b, blkA fa b → ¬ b = p := fun b hb e => own_ne M.oq M.row (by decide) (e ▸ hb)
  have n3 : ∀ d ∈ Ds, ∀ b, blkA d.a b → ¬ b = p := fun d hd b hb e => own_ne (M.ds d hd).2 M.row (by decide) (e ▸ hb)
  { M with
    row := r
    si := M.si.fr f n1
    oi := M.oi.fr f n1
    sq := M.sq.fr f n2
    oq := M.oq.fr f n2
    mp := M.mp.fr f (row_map M.row M.mp).symm
    ds := fun d hd => ⟨(M.ds d hd).1.fr f (n3 d hd), (M.ds d hd).2.fr f (n3 d hd)⟩
    lt := fun b hb => Nat.lt_of_lt_of_le (M.lt b hb) f.size }
/-- The free list is another one; it is written into its cell. -/
theorem Mem.setQ (M : Mem W h p S ra fa qc fc mb kv Ds) {h1 : Heap} {a' : Option Addr} {c' n' : Nat} {Q' : List Int} (f1 : Fr (blkA fa) h h1) (s1 : Sl eI h1 a' c' Q') (w1 : Own eI.k 3 0 h1 a' c') (hb : ∀ b, blkA a' b → blkA fa b ∨ h.size ≤ b) (hn : n' = Q'.length) :
    HW h1 p 1 ∧ ∀ h', h' = hset h1 p 1 (.slice a' n' c') → Mem (grown W h h') h' p { S with Q := Q' } ra a' qc c' mb kv Ds ∧ Fr W h h' := by
  subst hn
  have r1 := f1.row M.row (own_ne M.oq M.row (by decide))
  refine ⟨HW_row r1 (by simp), fun h' e => ?_⟩
  have f2 := fr_hset_of e
  have f : Fr (fun b => blkA fa b ∨ b = p) h h' := (f1.mono fun _ _ s => .inl s).trans f2 fun _ _ s => .inr s
  have r2 : h'[p]? = some (.cells #[.slice ra S.I.length qc, .slice a' Q'.length c', .int .u64 S.last, .int .i64 S.cur, .map (some mb)] tM (0, 0)) := by rw [e, hset_row r1]; rfl
  have s1' := s1.fr f2 fun b g q => own_ne w1 r1 (by decide) (q ▸ g)
  have w1' := w1.fr f2 fun b g q => own_ne w1 r1 (by decide) (q ▸ g)
  have n1 : ∀ b, blkA ra b → ¬ (blkA fa b ∨ b = p) := fun b g q => q.elim (own_ne2 M.oq M.oi (by decide) b g) fun q => own_ne M.oi M.row (by decide) (q ▸ g)
  have n3 : ∀ d ∈ Ds, ∀ b, blkA d.a b → ¬ (blkA fa b ∨ b = p) := fun d hd b g q => q.elim (M.sf d hd b g) fun q => own_ne (M.ds d hd).2 M.row (by decide) (q ▸ g)
  have hs := f.size
  refine ⟨{ row := r2, si := M.si.fr f n1, oi := M.oi.fr f n1, sq := s1', oq := w1', mp := M.mp.fr f fun q => q.elim (own_map M.oq M.mp) fun q => row_map M.row M.mp q.symm, dk := M.dk,
            ds := fun d hd => ⟨(M.ds d hd).1.fr f (n3 d hd), (M.ds d hd).2.fr f (n3 d hd)⟩, eD := M.eD, sep := M.sep, sf := fun d hd b g q => ?_, wp := .inl M.wp, wm := .inl M.wm, wi := fun b g => .inl (M.wi b g), wq := fun b g => ?_, wd := fun d hd b g => .inl (M.wd d hd b g), lt := fun b g => ?_ }, f.mono fun b _ s => s.elim (M.wq b) fun e => e ▸ M.wp⟩
  · rcases hb b q with q | q
    · exact M.sf d hd b g q
    · have := M.lt b (M.wd d hd b g); omega
  · rcases hb b g with q | q
    · exact .inl (M.wq b q)
    · exact .inr ⟨q, (w1'.low g).2⟩
  · rcases g with g | g
    · have := M.lt b g; omega
    · exact g.2
/-- Who waits for one region is another list; it is put into the map. -/
theorem Mem.setM (M : Mem W h p S ra fa qc fc mb kv Ds) {i : Nat} {d d' : Dr} (hi : Ds[i]? = some d) {h1 : Heap} (f1 : Fr (blkA d.a) h h1) (s1 : Sl eI h1 d'.a d'.c d'.L) (w1 : Own eI.k 3 0 h1 d'.a d'.c) (hb : ∀ b, blkA d'.a b → blkA d.a b ∨ h.size ≤ b)
    (o : Only mb h1 h') {kv' : List (Int × Value)} (m' : MapL h' mb (Value.int .i64) kv') (hk : ∀ s : Nat, (lk kv' (s : Int)).getD (.slice none 0 0) = if s = i then .slice d'.a d'.L.length d'.c else (lk kv (s : Int)).getD (.slice none 0 0)) :
    Mem (grown W h h') h' p (S.setD i d'.L) ra fa qc fc mb kv' (Ds.set i d') ∧ Fr W h h' := by
  have hd := List.mem_of_getElem? hi
  obtain ⟨hil, hie⟩ := List.getElem?_eq_some_iff.1 hi
  have m1 := M.mp.fr f1 (own_map (M.ds d hd).2 M.mp)
  have f2 := o.fr
  have f : Fr (fun b => blkA d.a b ∨ b = mb) h h' := (f1.mono fun _ _ s => .inl s).trans f2 fun _ _ s => .inr s
  have hs := f.size
  have s1' := s1.fr f2 fun b g q => own_map w1 m1 (q ▸ g)
  have w1' := w1.fr f2 fun b g q => own_map w1 m1 (q ▸ g)
  have n0 : ¬ (blkA d.a p ∨ p = mb) := fun q => q.elim (own_ne (M.ds d hd).2 M.row (by decide)) (row_map M.row M.mp)
  have n1 : ∀ b, blkA ra b → ¬ (blkA d.a b ∨ b = mb) := fun b g q => q.elim (own_ne2 (M.ds d hd).2 M.oi (by decide) b g) fun q => own_map M.oi M.mp (q ▸ g)
  have n2 : ∀ b, blkA fa b → ¬ (blkA d.a b ∨ b = mb) := fun b g q => q.elim (fun q => M.sf d hd b q g) fun q => own_map M.oq M.mp (q ▸ g)
  have hsep : ∀ j e, Ds[j]? = some e → j ≠ i → ∀ b, blkA e.a b → ¬ blkA d.a b := by
    intro j e hj hji b g1 g2
    obtain ⟨hjl, hje⟩ := List.getElem?_eq_some_iff.1 hj
    rcases Nat.lt_or_gt_of_ne hji with g | g
    · have := List.pairwise_iff_getElem.1 M.sep j i hjl hil g
      rw [hje, hie] at this; exact this b g1 g2
    · have := List.pairwise_iff_getElem.1 M.sep i j hil hjl g
      rw [hie, hje] at this; exact this b g2 g1
  have hmem : ∀ u, u ∈ Ds.set i d' → u = d' ∨ ∃ j, Ds[j]? = some u ∧ j ≠ i := by
    intro u hu
    obtain ⟨j, hj, he⟩ := List.getElem_of_mem hu
    rw [List.getElem_set] at he
    split at he
    · exact .inl he.symm
    · rename_i hne
      exact .inr ⟨j, by rw [← he]; exact List.getElem?_eq_getElem _, fun q => hne q.symm⟩
  have n3 : ∀ j e, Ds[j]? = some e → j ≠ i → ∀ b, blkA e.a b → ¬ (blkA d.a b ∨ b = mb) := fun j e hj hji b g q => q.elim (hsep j e hj hji b g) fun q => own_map (M.ds e (List.mem_of_getElem? hj)).2 M.mp (q ▸ g)
  have hlt : ∀ e ∈ Ds, ∀ b, blkA e.a b → b < h.size := fun e he b g => M.lt b (M.wd e he b g)
  refine ⟨{ row := f.row M.row n0, si := M.si.fr f n1, oi := M.oi.fr f n1, sq := M.sq.fr f n2, oq := M.oq.fr f n2, mp := m', dk := fun r e he => ?_,
            ds := fun u hu => ?_, eD := ?_, sep := ?_, sf := fun u hu b g q => ?_, wp := .inl M.wp, wm := .inl M.wm, wi := fun b g => .inl (M.wi b g), wq := fun b g => .inl (M.wq b g), wd := fun u hu b g => ?_, lt := fun b g => ?_ }, f.mono fun b _ s => s.elim (M.wd d hd b) fun e => e ▸ M.wm⟩
  · rw [hk r]
    rw [List.getElem?_set] at he
    by_cases hri : i = r
    · subst hri
      rw [if_pos rfl, if_pos hil] at he; cases he
      rw [if_pos rfl]
    · rw [if_neg hri] at he
      rw [if_neg (Ne.symm hri)]; exact M.dk r e he
  · rcases hmem u hu with rfl | ⟨j, hj, hji⟩
    · exact ⟨s1', w1'⟩
    · obtain ⟨k1, k2⟩ := M.ds u (List.mem_of_getElem? hj)
      exact ⟨k1.fr f (n3 j u hj hji), k2.fr f (n3 j u hj hji)⟩
  · rw [List.map_set, M.eD]; rfl
  · refine List.pairwise_iff_getElem.2 fun j k hj hk' hjk b g1 g2 => ?_
    simp only [List.length_set] at hj hk'
    rw [List.getElem_set] at g1 g2
    split at g1 <;> split at g2
    · omega
    · rename_i e1 e2
      subst e1
      rcases hb b g1 with g | g
      · exact hsep k _ (List.getElem?_eq_getElem hk') (by omega) b g2 g
      · have := hlt _ (List.getElem_mem hk') b g2; omega
    · rename_i e1 e2
      subst e2
      rcases hb b g2 with g | g
      · exact hsep j _ (List.getElem?_eq_getElem hj) (by omega) b g1 g
      · have := hlt _ (List.getElem_mem hj) b g1; omega
    · have := List.pairwise_iff_getElem.1 M.sep j k hj hk' hjk
      exact this b g1 g2
  · rcases hmem u hu with rfl | ⟨j, hj, hji⟩
    · rcases hb b g with g | g
      · exact M.sf d hd b g q
      · have := M.lt b (M.wq b q); omega
    · exact M.sf u (List.mem_of_getElem? hj) b g q
  · rcases hmem u hu with rfl | ⟨j, hj, hji⟩
    · rcases hb b g with k | k
      · exact .inl (M.wd d hd b k)
      · exact .inr ⟨k, (w1'.low g).2⟩
    · exact .inl (M.wd u (List.mem_of_getElem? hj) b g)
  · rcases g with g | g
    · have := M.lt b g; omega
    · exact g.2
end
end Mg
end Go.Proofs.Ytfdgjgjcppfmiaa
