/-
The document's manager in memory.
-/
import Derived.Test.YtfdgjgjcppfmiaaGE
import Derived.Test.YtfdgjgjcppfmiaaQB
namespace Go.Proofs.Ytfdgjgjcppfmiaa
namespace Mg
open Go

abbrev tR : TypeId := 78
abbrev tS : TypeId := 50
def eDr : Elt Dr := ⟨1, fun d => [.slice d.a d.L.length d.c], fun _ => rfl, fun x v hv => by simp at hv; subst hv; rfl⟩
structure Rm (W : Nat → Prop) (h : Heap) (x : Nat) (S : Rg) (la qa da : Option Addr) (lc qc dc : Nat) (Ds : List Dr) : Prop where
  row : h[x]? = some (.cells #[.slice la S.I.length lc, .slice qa S.Q.length qc, .int .u64 S.last, .int .i64 S.cur, .slice da Ds.length dc] tR (0, 0))
  si : Sl eInf h la lc S.I
  oi : Own eInf.k tI 0 h la lc
  sq : Sl eI h qa qc S.Q
  oq : Own eI.k 3 0 h qa qc
  sd : Sl eDr h da dc Ds
  od : Own eDr.k tS 0 h da dc
  ds : ∀ d ∈ Ds, Sl eI h d.a d.c d.L ∧ Own eI.k 3 0 h d.a d.c
  eD : Ds.map Dr.L = S.D
  sep : Ds.Pairwise fun d e => ∀ b, blkA d.a b → ¬ blkA e.a b
  sf : ∀ d ∈ Ds, ∀ b, blkA d.a b → ¬ blkA qa b
  wp : W x
  wi : ∀ b, blkA la b → W b
  wq : ∀ b, blkA qa b → W b
  ws : ∀ b, blkA da b → W b
  wd : ∀ d ∈ Ds, ∀ b, blkA d.a b → W b
  lt : ∀ b, W b → b < h.size
def HasR (W : Nat → Prop) (h : Heap) (x : Nat) (S : Rg) : Prop := ∃ la qa da lc qc dc Ds, Rm W h x S la qa da lc qc dc Ds
def AftR (W : Nat → Prop) (h : Heap) (x : Nat) (S' : Rg) (h' : Heap) : Prop := Fr W h h' ∧ HasR (grown W h h') h' x S'

section
variable {W : Nat → Prop} {h h' : Heap} {x : Nat} {S : Rg} {la qa da : Option Addr} {lc qc dc : Nat} {Ds : List Dr} {K : Nat}

theorem Rm.fr (M : Rm W h x S la qa da lc qc dc Ds) {Z : Nat → Prop} (f : Fr Z h h') (hn : ∀ b, W b → ¬ Z b) : Rm W h' x S la qa da lc qc dc Ds :=
  { M with
    row := f.row M.row (hn _ M.wp)
    si := M.si.fr f fun b hb => hn b (M.wi b hb)
    oi := M.oi.fr f fun b hb => hn b (M.wi b hb)
    sq := M.sq.fr f fun b hb => hn b (M.wq b hb)
    oq := M.oq.fr f fun b hb => hn b (M.wq b hb)
    sd := M.sd.fr f fun b hb => hn b (M.ws b hb)
    od := M.od.fr f fun b hb => hn b (M.ws b hb)
    ds := fun d hd => ⟨(M.ds d hd).1.fr f fun b hb => hn b (M.wd d hd b hb), (M.ds d hd).2.fr f fun b hb => hn b (M.wd d hd b hb)⟩
    lt := fun b hb => Nat.lt_of_lt_of_le (M.lt b hb) f.size }
theorem Rm.ext (M : Rm W h x S la qa da lc qc dc Ds) (e : Ext h h') : Rm W h' x S la qa da lc qc dc Ds := M.fr (e.fr (fun _ => False)) fun _ _ g => g
theorem Rm.mono (M : Rm W h x S la qa da lc qc dc Ds) {W' : Nat → Prop} (hw : ∀ b, W b → W' b) (hl : ∀ b, W' b → b < h.size) : Rm W' h x S la qa da lc qc dc Ds :=
  { M with wp := hw _ M.wp, wi := fun b g => hw b (M.wi b g), wq := fun b g => hw b (M.wq b g), ws := fun b g => hw b (M.ws b g), wd := fun d hd b g => hw b (M.wd d hd b g), lt := hl }
theorem HasR.fr (H : HasR W h x S) {Z : Nat → Prop} (f : Fr Z h h') (hn : ∀ b, W b → ¬ Z b) : HasR W h' x S := let ⟨la, qa, da, lc, qc, dc, Ds, M⟩ := H; ⟨la, qa, da, lc, qc, dc, Ds, M.fr f hn⟩
theorem HasR.ext (H : HasR W h x S) (e : Ext h h') : HasR W h' x S := H.fr (e.fr (fun _ => False)) fun _ _ g => g
theorem HasR.lt (H : HasR W h x S) : ∀ b, W b → b < h.size := let ⟨_, _, _, _, _, _, _, M⟩ := H; M.lt
theorem Rm.aft (M : Rm W h x S la qa da lc qc dc Ds) (e : Ext h h') : AftR W h x S h' :=
  ⟨e.fr _, la, qa, da, lc, qc, dc, Ds, (M.ext e).mono (fun _ g => .inl g) fun b g => g.elim (fun g => Nat.lt_of_lt_of_le (M.lt b g) e.size) fun g => g.2⟩
theorem Rm.aft' (M : Rm W h x S la qa da lc qc dc Ds) {S' : Rg} {la' qa' da' : Option Addr} {lc' qc' dc' : Nat} {Ds' : List Dr} (f : Fr W h h') {W' : Nat → Prop} (M' : Rm W' h' x S' la' qa' da' lc' qc' dc' Ds') (hw : ∀ b, W' b → W b ∨ h.size ≤ b) : AftR W h x S' h' :=
  ⟨f, la', qa', da', lc', qc', dc', Ds', M'.mono (fun b g => (hw b g).imp id fun k => ⟨k, M'.lt b g⟩) fun b g => g.elim (fun g => Nat.lt_of_lt_of_le (M.lt b g) f.size) fun g => g.2⟩

theorem Rm.setI (M : Rm W h x S la qa da lc qc dc Ds) {I' : List Inf} (hl : I'.length = S.I.length) (f : Fr (blkA la) h h') (s : Sl eInf h' la lc I') (w : Own eInf.k tI 0 h' la lc) : Rm W h' x { S with I := I' } la qa da lc qc dc Ds :=
  { M with
    row := by show h'[x]? = some (.cells #[.slice la I'.length lc, _, _, _, _] tR (0, 0)); rw [hl]; exact f.row M.row (own_ne M.oi M.row (by decide))
    si := s
    oi := w
    sq := M.sq.fr f (own_ne2 M.oi M.oq (by decide))
    oq := M.oq.fr f (own_ne2 M.oi M.oq (by decide))
    sd := M.sd.fr f (own_ne2 M.oi M.od (by decide))
    od := M.od.fr f (own_ne2 M.oi M.od (by decide))
    ds := fun d hd => ⟨(M.ds d hd).1.fr f (own_ne2 M.oi (M.ds d hd).2 (by decide)), (M.ds d hd).2.fr f (own_ne2 M.oi (M.ds d hd).2 (by decide))⟩
    lt := fun b hb => Nat.lt_of_lt_of_le (M.lt b hb) f.size }
theorem Rm.setP (M : Rm W h x S la qa da lc qc dc Ds) {last cur : Int} (f : Fr (fun b => b = x) h h') (r : h'[x]? = some (.cells #[.slice la S.I.length lc, .slice qa S.Q.length qc, .int .u64 last, .int .i64 cur, .slice da Ds.length dc] tR (0, 0))) : Rm W h' x { S with last := last, cur := cur } la qa da lc qc dc Ds :=
  have n1 : ∀ b, blkA la b → ¬ b = x := fun b hb e => own_ne M.oi M.row (by decide) (e ▸ hb)
  have n2 : ∀ b, blkA qa b → ¬ b = x := fun b hb e => own_ne M.oq M.row (by decide) (e ▸ hb)
  have n3 : ∀ d ∈ Ds, ∀ b, blkA d.a b → ¬ b = x := fun d hd b hb e => own_ne (M.ds d hd).2 M.row (by decide) (e ▸ hb)
  have n4 : ∀ b, blkA da b → ¬ b = x := fun b hb e => own_ne M.od M.row (by decide) (e ▸ hb)
  { M with
    row := r
    si := M.si.fr f n1
    oi := M.oi.fr f n1
    sq := M.sq.fr f n2
    oq := M.oq.fr f n2
    sd := M.sd.fr f n4
    od := M.od.fr f n4
    ds := fun d hd => ⟨(M.ds d hd).1.fr f (n3 d hd), (M.ds d hd).2.fr f (n3 d hd)⟩
    lt := fun b hb => Nat.lt_of_lt_of_le (M.lt b hb) f.size }
/-- The queue is another one; it is written into its cell. -/
theorem Rm.setQ (M : Rm W h x S la qa da lc qc dc Ds) {h1 : Heap} {a' : Option Addr} {c' n' : Nat} {Q' : List Int} (f1 : Fr (blkA qa) h h1) (s1 : Sl eI h1 a' c' Q') (w1 : Own eI.k 3 0 h1 a' c') (hb : ∀ b, blkA a' b → blkA qa b ∨ h.size ≤ b) (hn : n' = Q'.length) :
    HW h1 x 1 ∧ ∀ h', h' = hset h1 x 1 (.slice a' n' c') → Rm (grown W h h') h' x { S with Q := Q' } la a' da lc c' dc Ds ∧ Fr W h h' := by
  subst hn
  have r1 := f1.row M.row (own_ne M.oq M.row (by decide))
  refine ⟨HW_row r1 (by simp), fun h' e => ?_⟩
  have f2 := fr_hset_of e
  have f : Fr (fun b => blkA qa b ∨ b = x) h h' := (f1.mono fun _ _ s => .inl s).trans f2 fun _ _ s => .inr s
  have r2 : h'[x]? = some (.cells #[.slice la S.I.length lc, .slice a' Q'.length c', .int .u64 S.last, .int .i64 S.cur, .slice da Ds.length dc] tR (0, 0)) := by rw [e, hset_row r1]; rfl
  have s1' := s1.fr f2 fun b g q => own_ne w1 r1 (by decide) (q ▸ g)
  have w1' := w1.fr f2 fun b g q => own_ne w1 r1 (by decide) (q ▸ g)
  have n1 : ∀ b, blkA la b → ¬ (blkA qa b ∨ b = x) := fun b g q => q.elim (own_ne2 M.oq M.oi (by decide) b g) fun q => own_ne M.oi M.row (by decide) (q ▸ g)
  have n4 : ∀ b, blkA da b → ¬ (blkA qa b ∨ b = x) := fun b g q => q.elim (own_ne2 M.oq M.od (by decide) b g) fun q => own_ne M.od M.row (by decide) (q ▸ g)
  have n3 : ∀ d ∈ Ds, ∀ b, blkA d.a b → ¬ (blkA qa b ∨ b = x) := fun d hd b g q => q.elim (M.sf d hd b g) fun q => own_ne (M.ds d hd).2 M.row (by decide) (q ▸ g)
  have hs := f.size
  refine ⟨{ row := r2, si := M.si.fr f n1, oi := M.oi.fr f n1, sq := s1', oq := w1', sd := M.sd.fr f n4, od := M.od.fr f n4,
            ds := fun d hd => ⟨(M.ds d hd).1.fr f (n3 d hd), (M.ds d hd).2.fr f (n3 d hd)⟩, eD := M.eD, sep := M.sep, sf := fun d hd b g q => ?_, wp := .inl M.wp, wi := fun b g => .inl (M.wi b g), wq := fun b g => ?_, ws := fun b g => .inl (M.ws b g), wd := fun d hd b g => .inl (M.wd d hd b g), lt := fun b g => ?_ }, f.mono fun b _ s => s.elim (M.wq b) fun e => e ▸ M.wp⟩
  · rcases hb b q with q | q
    · exact M.sf d hd b g q
    · have := M.lt b (M.wd d hd b g); omega
  · rcases hb b g with q | q
    · exact .inl (M.wq b q)
    · exact .inr ⟨q, (w1'.low g).2⟩
  · rcases g with g | g
    · have := M.lt b g; omega
    · exact g.2
/-- Who waits for one region is another list; it is written into its cell. -/
theorem Rm.setD {db do_ : Nat} (M : Rm W h x S la qa (some ⟨db, do_, none⟩) lc qc dc Ds) {i : Nat} {d d' : Dr} (hi : Ds[i]? = some d) {h1 : Heap} (f1 : Fr (blkA d.a) h h1) (s1 : Sl eI h1 d'.a d'.c d'.L) (w1 : Own eI.k 3 0 h1 d'.a d'.c) (hb : ∀ b, blkA d'.a b → blkA d.a b ∨ h.size ≤ b) {n' : Nat} (hn : n' = d'.L.length) {p : Nat} (hp : p = do_ + i * 1) :
    HW h1 db p ∧ ∀ h', h' = hset h1 db p (.slice d'.a n' d'.c) → Rm (grown W h h') h' x (S.setD i d'.L) la qa (some ⟨db, do_, none⟩) lc qc dc (Ds.set i d') ∧ Fr W h h' := by
  subst hn
  have hd := List.mem_of_getElem? hi
  obtain ⟨hil, hie⟩ := List.getElem?_eq_some_iff.1 hi
  have sd1 := M.sd.fr f1 (own_ne2 (M.ds d hd).2 M.od (by decide))
  have od1 := M.od.fr f1 (own_ne2 (M.ds d hd).2 M.od (by decide))
  obtain ⟨k1, k2⟩ := sd1.word od1 hil (r := 0) (x' := d') (v := .slice d'.a d'.L.length d'.c) (by decide) rfl (p := p) hp
  refine ⟨k1, fun h' e => ?_⟩
  obtain ⟨sd2, od2, f2⟩ := k2 h' e
  have f : Fr (fun b => blkA d.a b ∨ b = db) h h' := (f1.mono fun _ _ s => .inl s).trans f2 fun _ _ s => .inr s
  have hs := f.size
  have nd : ∀ {k : Nat} {T : TypeId} {N : Nat} {h2 : Heap} {a : Option Addr} {c : Nat}, Own eDr.k tS 0 h2 (some ⟨db, do_, none⟩) dc → Own k T N h2 a c → T ≠ tS → ∀ b, blkA a b → ¬ b = db := fun o w hT b g q => own_ne2 o w hT b g (blkA_some.2 q)
  have s1' := s1.fr f2 (nd od1 w1 (by decide))
  have w1' := w1.fr f2 (nd od1 w1 (by decide))
  have n0 : ¬ (blkA d.a x ∨ x = db) := fun q => q.elim (own_ne (M.ds d hd).2 M.row (by decide)) fun q => own_ne M.od M.row (by decide) (blkA_some.2 q)
  have n1 : ∀ b, blkA la b → ¬ (blkA d.a b ∨ b = db) := fun b g q => q.elim (own_ne2 (M.ds d hd).2 M.oi (by decide) b g) (nd M.od M.oi (by decide) b g)
  have n2 : ∀ b, blkA qa b → ¬ (blkA d.a b ∨ b = db) := fun b g q => q.elim (fun q => M.sf d hd b q g) (nd M.od M.oq (by decide) b g)
  have hsep : ∀ j e, Ds[j]? = some e → j ≠ i → ∀ b, blkA e.a b → ¬ blkA d.a b := by
    intro j e hj hji b g1 g2
    obtain ⟨hjl, hje⟩ := List.getElem?_eq_some_iff.1 hj
    rcases Nat.lt_or_gt_of_ne hji with g | g
    · have := List.pairwise_iff_getElem.1 M.sep j i hjl hil g
      rw [hje, hie] at this; exact this b g1 g2
    · have := List.pairwise_iff_getElem.1 M.sep i j hil hjl g
      rw [hie, hje] at this; exact this b g2 g1
  have hmem : ∀ u, u ∈ Ds.set i d' → u = d' ∨ ∃ j, Ds[j]? = some u ∧ j ≠ i := by
    intro u hu
    obtain ⟨j, hj, he⟩ := List.getElem_of_mem hu
    rw [List.getElem_set] at he
    split at he
    · exact .inl he.symm
    · rename_i hne
      exact .inr ⟨j, by rw [← he]; exact List.getElem?_eq_getElem _, fun q => hne q.symm⟩
  have n3 : ∀ j e, Ds[j]? = some e → j ≠ i → ∀ b, blkA e.a b → ¬ (blkA d.a b ∨ b = db) := fun j e hj hji b g q => q.elim (hsep j e hj hji b g) (nd M.od (M.ds e (List.mem_of_getElem? hj)).2 (by decide) b g)
  have hlt : ∀ e ∈ Ds, ∀ b, blkA e.a b → b < h.size := fun e he b g => M.lt b (M.wd e he b g)
  refine ⟨{ row := by rw [List.length_set]; exact f.row M.row n0, si := M.si.fr f n1, oi := M.oi.fr f n1, sq := M.sq.fr f n2, oq := M.oq.fr f n2, sd := sd2, od := od2,
            ds := fun u hu => ?_, eD := ?_, sep := ?_, sf := fun u hu b g q => ?_, wp := .inl M.wp, wi := fun b g => .inl (M.wi b g), wq := fun b g => .inl (M.wq b g), ws := fun b g => .inl (M.ws b g), wd := fun u hu b g => ?_, lt := fun b g => ?_ }, f.mono fun b _ s => s.elim (M.wd d hd b) fun e => e ▸ M.ws _ (blkA_some.2 rfl)⟩
  · rcases hmem u hu with rfl | ⟨j, hj, hji⟩
    · exact ⟨s1', w1'⟩
    · obtain ⟨k1, k2⟩ := M.ds u (List.mem_of_getElem? hj)
      exact ⟨k1.fr f (n3 j u hj hji), k2.fr f (n3 j u hj hji)⟩
  · rw [List.map_set, M.eD]; rfl
  · refine List.pairwise_iff_getElem.2 fun j k hj hk' hjk b g1 g2 => ?_
    simp only [List.length_set] at hj hk'
    rw [List.getElem_set] at g1 g2
    split at g1 <;> split at g2
    · omega
    · rename_i e1 e2
      subst e1
      rcases hb b g1 with g | g
      · exact hsep k _ (List.getElem?_eq_getElem hk') (by omega) b g2 g
      · have := hlt _ (List.getElem_mem hk') b g2; omega
    · rename_i e1 e2
      subst e2
      rcases hb b g2 with g | g
      · exact hsep j _ (List.getElem?_eq_getElem hj) (by omega) b g1 g
      · have := hlt _ (List.getElem_mem hj) b g1; omega
    · have := List.pairwise_iff_getElem.1 M.sep j k hj hk' hjk
      exact this b g1 g2
  · rcases hmem u hu with rfl | ⟨j, hj, hji⟩
    · rcases hb b g with g | g
      · exact M.sf d hd b g q
      · have := M.lt b (M.wq b q); omega
    · exact M.sf u (List.mem_of_getElem? hj) b g q
  · rcases hmem u hu with rfl | ⟨j, hj, hji⟩
    · rcases hb b g with k | k
      · exact .inl (M.wd d hd b k)
      · exact .inr ⟨k, (w1'.low g).2⟩
    · exact .inl (M.wd u (List.mem_of_getElem? hj) b g)
  · rcases g with g | g
    · have := M.lt b g; omega
    · exact g.2

theorem Rm.la_some (M : Rm W h x S la qa da lc qc dc Ds) (w : WF K S) : ∃ rb ro, la = some ⟨rb, ro, none⟩ := by
  obtain ⟨b, o, e, _⟩ := M.si.addr (by have := w.n; omega)
  exact ⟨b, o, e⟩
theorem Rm.da_some (M : Rm W h x S la qa da lc qc dc Ds) (w : WF K S) : ∃ rb ro, da = some ⟨rb, ro, none⟩ := by
  have : Ds.length = S.D.length := by rw [← M.eD, List.length_map]
  obtain ⟨b, o, e, _⟩ := M.sd.addr (by have := w.n; have := w.d; omega)
  exact ⟨b, o, e⟩
theorem Rm.cell {rb ro : Nat} (M : Rm W h x S (some ⟨rb, ro, none⟩) qa da lc qc dc Ds) {r : Int} (hr : S.inn r) : HCells h rb (ro + r.toNat * 4) (eInf.enc (S.at r)) := by
  obtain ⟨hi, e⟩ := at_get hr
  obtain ⟨b, o, e2, d⟩ := M.si.at (List.getElem?_eq_getElem hi)
  cases e2
  rw [e]; exact d
theorem Rm.word {rb ro : Nat} (M : Rm W h x S (some ⟨rb, ro, none⟩) qa da lc qc dc Ds) {r : Int} (hr : S.inn r) {j : Nat} {u : Value} {x' : Inf} (hj : j < 4) (he : eInf.enc x' = (eInf.enc (S.at r)).set j u) {q : Nat} (hq : q = ro + r.toNat * 4 + j) :
    HW h rb q ∧ ∀ h', h' = hset h rb q u → Rm W h' x (S.set r x') (some ⟨rb, ro, none⟩) qa da lc qc dc Ds ∧ Fr W h h' := by
  obtain ⟨hi, e⟩ := at_get hr
  rw [e] at he
  obtain ⟨k1, k2⟩ := M.si.word M.oi hi hj he (p := q) hq
  refine ⟨k1, fun h' e' => ?_⟩
  obtain ⟨s, w, f⟩ := k2 h' e'
  have f' : Fr (blkA (some ⟨rb, ro, none⟩)) h h' := f.mono fun _ _ e => blkA_some.2 e
  exact ⟨M.setI (by simp) f' s w, f'.mono fun b _ g => M.wi b g⟩
theorem Rm.words {rb ro : Nat} (M : Rm W h x S (some ⟨rb, ro, none⟩) qa da lc qc dc Ds) {r : Int} (hr : S.inn r) (x' : Inf) {q : Nat} (hq : q = ro + r.toNat * 4) :
    HWs h rb q 4 ∧ ∀ h', h' = hsets h rb q (eInf.enc x') → Rm W h' x (S.set r x') (some ⟨rb, ro, none⟩) qa da lc qc dc Ds ∧ Fr W h h' := by
  obtain ⟨hi, e⟩ := at_get hr
  obtain ⟨k1, k2⟩ := M.si.words M.oi hi x' (p := q) hq
  refine ⟨k1, fun h' e' => ?_⟩
  obtain ⟨s, w, f⟩ := k2 h' e'
  have f' : Fr (blkA (some ⟨rb, ro, none⟩)) h h' := f.mono fun _ _ e => blkA_some.2 e
  exact ⟨M.setI (by simp) f' s w, f'.mono fun b _ g => M.wi b g⟩
theorem Rm.dat {db do_ : Nat} (M : Rm W h x S la qa (some ⟨db, do_, none⟩) lc qc dc Ds) (hD : S.D.length = S.I.length) {r : Int} (hr : S.inn r) : ∃ d, Ds[r.toNat]? = some d ∧ S.dr r = d.L ∧ ((r.toNat : Nat) : Int) = r ∧ hcell h db (do_ + r.toNat * 1) = some (.slice d.a d.L.length d.c) ∧ (r : Int) < Ds.length := by
  have h1 := hr.1; have h2 := hr.2
  have h4 : Ds.length = S.D.length := by rw [← M.eD, List.length_map]
  have hl : r.toNat < Ds.length := by omega
  obtain ⟨b, o, e, d⟩ := M.sd.at (List.getElem?_eq_getElem hl)
  cases e
  refine ⟨Ds[r.toNat], List.getElem?_eq_getElem hl, ?_, by omega, d.1, by omega⟩
  unfold Rg.dr
  rw [List.getD_eq_getElem?_getD, ← M.eD, List.getElem?_map, List.getElem?_eq_getElem hl]; rfl
end
end Mg
end Go.Proofs.Ytfdgjgjcppfmiaa
