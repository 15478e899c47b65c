/-
Robin Hood's order: there is but one way to lie; entries as lists.
-/
import Derived.Test.YtkecmljalcfhoaaRH
namespace Go.Proofs.Ytkecmljalcfhoaa
namespace RH
section
variable {N B : Nat}

theorem chain2 {s : Sl} (g : RGood N B s) {i d x : Nat} (hN0 : 0 < N) (hi : i < N) (hd : d < N) (hl : 0 < d → LinkR N B s (pv N i) d x) :
    ∀ k, 1 ≤ k → k ≤ d → occd s (bk N i k) ∧ d ≤ ds N B (bk N i k) (s (bk N i k)).h + k ∧ (d = ds N B (bk N i k) (s (bk N i k)).h + k → (s (bk N i k)).h < x)
  | 0, h, _ => absurd h (by omega)
  | 1, _, h => by
    obtain ⟨h1, h2, h3⟩ := hl (by omega)
    have : bk N i 1 = pv N i := by unfold bk pv; split <;> split <;> omega
    rw [this]; exact ⟨h1, h2, h3⟩
  | k + 2, _, h => by
    obtain ⟨h1, h2, h5⟩ := chain2 g hN0 hi hd hl (k + 1) (by omega) (by omega)
    have hb : bk N i (k + 1) < N := by unfold bk; split <;> omega
    obtain ⟨h3, h4, h6⟩ := g.right _ hb h1 (by omega)
    have : pv N (bk N i (k + 1)) = bk N i (k + 2) := by unfold bk pv; split <;> split <;> split <;> omega
    rw [this] at h3 h4 h6
    refine ⟨h3, by omega, fun hq => ?_⟩
    have e1 := h5 (by omega)
    have e2 := h6 (by omega)
    omega

theorem no_later (hN : N = 2 ^ B) (hB : B ≤ 64) {s s' : Sl} (g : RGood N B s) (g' : RGood N B s') (hs : ∀ e, InT N s' e → InT N s e) {z : Nat} (hz : z < N) (hh : ¬ occd s' z) :
    ∀ n p q, df N z p = n → p < N → q < N → occd s p → s' q = s p → ds N B p (s p).h < ds N B q (s p).h → False := by
  intro n
  induction n using Nat.strongRecOn with
  | ind n ih =>
    intro p q hn hp hq ho he hlt
    have h0 : 0 < N := by omega
    have hx := (g.wf p hp).1
    have hmq := hm_lt hN hB hx
    have hoq : occd s' q := by unfold occd; rw [he]; exact ho
    have hd : ds N B q (s p).h < N := df_lt hmq hq
    have hl : 0 < ds N B q (s p).h → LinkR N B s' (pv N q) (ds N B q (s p).h) (s p).h := fun h => by
      have := g'.right q hq hoq (by rw [he]; exact h)
      rw [he] at this; exact this
    have hb : bk N q (ds N B q (s p).h - ds N B p (s p).h) = p := bk_df hmq hq hp rfl (Nat.le_of_lt hlt)
    obtain ⟨c1, c2, c3⟩ := chain2 g' h0 hq hd hl (ds N B q (s p).h - ds N B p (s p).h) (by omega) (by omega)
    rw [hb] at c1 c2 c3
    obtain ⟨p2, hp2, e2, ha2⟩ := hs (s' p) ⟨p, hp, rfl, c1⟩
    have hx2 := (g'.wf p hp).1
    have hm2 := hm_lt hN hB hx2
    have hop2 : occd s p2 := by unfold occd; rw [e2]; exact ha2
    have hd1 : ds N B p (s' p).h < N := df_lt hm2 hp
    have hd2 : ds N B p2 (s' p).h < N := df_lt hm2 hp2
    rcases Nat.lt_trichotomy (ds N B p2 (s' p).h) (ds N B p (s' p).h) with hc | hc | hc
    · have hz1 : ds N B p (s' p).h < df N z p := by
        refine Nat.lt_of_not_le fun hle => ?_
        have hzp : z ≠ p := fun h => hh (h ▸ c1)
        have hpos : 1 ≤ df N z p := by unfold df; split <;> omega
        have hl' : 0 < ds N B p (s' p).h → LinkR N B s' (pv N p) (ds N B p (s' p).h) (s' p).h := fun h => g'.right p hp c1 h
        have := (chain2 g' h0 hp hd1 hl' (df N z p) hpos hle).1
        have hbz : bk N p (df N z p) = z := by unfold bk df; (repeat' split) <;> omega
        rw [hbz] at this
        exact hh this
      refine ih (df N z p2) ?_ p2 p rfl hp2 hp hop2 e2.symm (by rw [e2]; exact hc)
      rw [← hn]
      unfold ds at hc hz1
      have a1 := df_cases (N := N) z p
      have a2 := df_cases (N := N) z p2
      have a3 := df_cases (N := N) (hm B (s' p).h) p
      have a4 := df_cases (N := N) (hm B (s' p).h) p2
      generalize hm B (s' p).h = m at *
      omega
    · have : p2 = p := df_inj hm2 hp2 hp hc
      subst this
      have hqp := g'.uniq q p2 hq hp hoq c1 (by rw [he, e2])
      subst hqp
      omega
    · have hl2 : 0 < ds N B p2 (s' p).h → LinkR N B s (pv N p2) (ds N B p2 (s' p).h) (s' p).h := fun h => by
        have := g.right p2 hp2 hop2 (by rw [e2]; exact h)
        rw [e2] at this; exact this
      have hb2 : bk N p2 (ds N B p2 (s' p).h - ds N B p (s' p).h) = p := bk_df hm2 hp2 hp rfl (Nat.le_of_lt hc)
      obtain ⟨d1, d2, d3⟩ := chain2 g h0 hp2 hd2 hl2 (ds N B p2 (s' p).h - ds N B p (s' p).h) (by omega) (by omega)
      rw [hb2] at d1 d2 d3
      have k1 := c3 (by omega)
      have k2 := d3 (by omega)
      omega

theorem layout_one (hN : N = 2 ^ B) (hB : B ≤ 64) {s s' : Sl} (g : RGood N B s) (g' : RGood N B s') (he : ∀ e, InT N s e ↔ InT N s' e) {z z' : Nat} (hz : z < N) (hh : ¬ occd s z) (hz' : z' < N) (hh' : ¬ occd s' z') :
    ∀ i, i < N → s i = s' i := by
  have key : ∀ i, i < N → occd s i → s' i = s i := by
    intro i hi ho
    obtain ⟨q, hq, e, ha⟩ := (he (s i)).1 ⟨i, hi, rfl, ho⟩
    have hm := hm_lt hN hB (g.wf i hi).1
    have hoq : occd s' q := by unfold occd; rw [e]; exact ha
    rcases Nat.lt_trichotomy (ds N B i (s i).h) (ds N B q (s i).h) with hc | hc | hc
    · exact (no_later hN hB g g' (fun e h => (he e).2 h) hz' hh' _ i q rfl hi hq ho e hc).elim
    · have := df_inj hm hi hq hc
      subst this; exact e
    · exact (no_later hN hB g' g (fun e h => (he e).1 h) hz hh _ q i rfl hq hi hoq e.symm (by rw [e]; exact hc)).elim
  intro i hi
  by_cases ho : occd s i
  · exact (key i hi ho).symm
  · by_cases ho' : occd s' i
    · obtain ⟨p, hp, e, ha⟩ := (he (s' i)).2 ⟨i, hi, rfl, ho'⟩
      have hop : occd s p := by unfold occd; rw [e]; exact ha
      have := key p hp hop
      rw [e] at this
      have hpi := g'.uniq p i hp hi (by unfold occd; rw [this]; exact ha) ho' (by rw [this])
      subst hpi; exact absurd hop ho
    · rw [g.zero i hi ho, g'.zero i hi ho']

/-! ### lists -/
def Srt (L : List Ent) : Prop := L.Pairwise fun a b => a.h < b.h
theorem srt_ext : ∀ {L M : List Ent}, Srt L → Srt M → (∀ e, e ∈ L ↔ e ∈ M) → L = M
  | [], [], _, _, _ => rfl
  | [], b :: M, _, _, h => absurd ((h b).2 (by simp)) (by simp)
  | a :: L, [], _, _, h => absurd ((h a).1 (by simp)) (by simp)
  | a :: L, b :: M, hL, hM, h => by
    have l1 := List.pairwise_cons.1 hL
    have m1 := List.pairwise_cons.1 hM
    have hab : a = b := by
      rcases List.mem_cons.1 ((h a).1 (by simp)) with e | e
      · exact e
      · rcases List.mem_cons.1 ((h b).2 (by simp)) with e' | e'
        · exact e'.symm
        · have := m1.1 a e; have := l1.1 b e'; omega
    subst hab
    congr 1
    refine srt_ext l1.2 m1.2 fun e => ⟨fun he => ?_, fun he => ?_⟩
    · rcases List.mem_cons.1 ((h e).1 (by simp [he])) with r | r
      · subst r; have := l1.1 _ he; omega
      · exact r
    · rcases List.mem_cons.1 ((h e).2 (by simp [he])) with r | r
      · subst r; have := m1.1 _ he; omega
      · exact r
theorem Srt.eq {L : List Ent} (hL : Srt L) {a b : Ent} (ha : a ∈ L) (hb : b ∈ L) (h : a.h = b.h) : a = b := by
  induction L with
  | nil => cases ha
  | cons c L ih =>
    have l1 := List.pairwise_cons.1 hL
    rcases List.mem_cons.1 ha with e1 | e1 <;> rcases List.mem_cons.1 hb with e2 | e2
    · rw [e1, e2]
    · have := l1.1 _ e2; rw [← e1] at this; omega
    · have := l1.1 _ e1; rw [← e2] at this; omega
    · exact ih l1.2 e1 e2

def lay (N : Nat) (s : Sl) : List Ent := (List.range N).map s
def oc (N : Nat) (s : Sl) : List Ent := (lay N s).filter fun e => e.a != 0
theorem lay_len (N : Nat) (s : Sl) : (lay N s).length = N := by simp [lay]
theorem lay_get (N : Nat) (s : Sl) {i : Nat} (hi : i < N) : (lay N s)[i]? = some (s i) := by simp [lay, hi]
theorem in_oc {N : Nat} {s : Sl} {e : Ent} : e ∈ oc N s ↔ InT N s e := by
  simp only [oc, lay, List.mem_filter, List.mem_map, List.mem_range, bne_iff_ne, ne_eq]
  constructor
  · rintro ⟨⟨i, hi, rfl⟩, ha⟩; exact ⟨i, hi, rfl, ha⟩
  · rintro ⟨i, hi, rfl, ha⟩; exact ⟨⟨i, hi, rfl⟩, ha⟩
theorem oc_len (s : Sl) : ∀ N, (oc N s).length = cntO s N
  | 0 => rfl
  | N + 1 => by
    have := oc_len s N
    unfold oc lay at *
    rw [List.range_succ, List.map_append, List.filter_append, List.length_append, this]
    simp only [cntO, List.map_cons, List.map_nil, List.filter_cons, List.filter_nil]
    by_cases ho : occd s N
    · rw [if_pos ho, if_pos (by simpa [occd] using ho)]; rfl
    · rw [if_neg ho, if_neg (by simpa [occd] using ho)]; rfl
theorem oc_ne {N : Nat} {s : Sl} (g : ∀ i j, i < N → j < N → occd s i → occd s j → (s i).h = (s j).h → i = j) : (oc N s).Pairwise fun a b => a.h ≠ b.h := by
  unfold oc lay
  rw [List.pairwise_filter, List.pairwise_map]
  refine List.Pairwise.imp_of_mem ?_ List.pairwise_lt_range
  intro i j hi hj hij h1 h2 he
  have := g i j (List.mem_range.1 hi) (List.mem_range.1 hj) (by simpa [occd] using h1) (by simpa [occd] using h2) he
  omega

/-- What is laid out, and the list that rises. -/
structure Rel (B : Nat) (s : Sl) (L : List Ent) : Prop where
  srt : Srt L
  mem : ∀ e, InT (2 ^ B) s e ↔ e ∈ L
theorem Srt.nodup {L : List Ent} (h : Srt L) : L.Nodup := h.imp fun {a b} h e => by rw [e] at h; omega
theorem Rel.perm {B : Nat} {s : Sl} {L : List Ent} (r : Rel B s L) (g : RGood (2 ^ B) B s) : (oc (2 ^ B) s).Perm L :=
  (List.perm_ext_iff_of_nodup ((oc_ne g.uniq).imp fun {a b} h e => h (by rw [e])) r.srt.nodup).2 fun e => in_oc.trans (r.mem e)
theorem Rel.len {B : Nat} {s : Sl} {L : List Ent} (r : Rel B s L) (g : RGood (2 ^ B) B s) : cntO s (2 ^ B) = L.length := by
  rw [← oc_len]; exact (r.perm g).length_eq
/-- Sorted by hash: the list. -/
theorem Rel.sorted {B : Nat} {s : Sl} {L M : List Ent} (r : Rel B s L) (g : RGood (2 ^ B) B s) (hp : M.Perm (oc (2 ^ B) s)) (hs : M.Pairwise fun a b => a.h ≤ b.h) : M = L := by
  refine srt_ext ?_ r.srt fun e => hp.mem_iff.trans (in_oc.trans (r.mem e))
  have h1 : M.Pairwise fun a b => a.h ≠ b.h := (hp.pairwise_iff (fun {a b} h e => h e.symm)).2 (oc_ne g.uniq)
  exact (List.Pairwise.and hs h1).imp fun {a b} h => Nat.lt_of_le_of_ne h.1 h.2
theorem rel_empty (B : Nat) : Rel B (fun _ => z0) [] := ⟨List.Pairwise.nil, fun e => ⟨fun ⟨_, _, h, ha⟩ => by subst h; exact absurd rfl ha, fun h => by cases h⟩⟩
theorem Rel.uniq {B : Nat} {s s' : Sl} {L : List Ent} (hB : B ≤ 64) (r : Rel B s L) (r' : Rel B s' L) (g : RGood (2 ^ B) B s) (g' : RGood (2 ^ B) B s') (hl : L.length < 2 ^ B) : lay (2 ^ B) s = lay (2 ^ B) s' := by
  obtain ⟨z, hz, hh⟩ := cnt_hole (s := s) (2 ^ B) (by rw [r.len g]; exact hl)
  obtain ⟨z', hz', hh'⟩ := cnt_hole (s := s') (2 ^ B) (by rw [r'.len g']; exact hl)
  have := layout_one rfl hB g g' (fun e => (r.mem e).trans (r'.mem e).symm) hz hh hz' hh'
  unfold lay
  exact List.map_congr_left fun i hi => this i (List.mem_range.1 hi)

/-! ### the rising list: put, taken out, changed -/
/-- Where a hash is, or would be. -/
structure Pos (L : List Ent) (x i : Nat) (is : Bool) : Prop where
  le : i ≤ L.length
  lo : ∀ e ∈ L.take i, e.h < x
  hi : ∀ e ∈ L.drop i, x ≤ e.h
  yes : is = true → ∃ e, L[i]? = some e ∧ e.h = x
  no : is = false → ∀ e ∈ L, e.h ≠ x
theorem split_at {L : List Ent} {i : Nat} {o : Ent} (h : L[i]? = some o) : L = L.take i ++ o :: L.drop (i + 1) := by
  have := (List.getElem?_eq_some_iff.1 h)
  obtain ⟨hi, e⟩ := this
  rw [← e, List.getElem_cons_drop, List.take_append_drop]
theorem ins_ok {L : List Ent} (hL : Srt L) {x i : Nat} (p : Pos L x i false) {e : Ent} (he : e.h = x) : Srt (L.take i ++ e :: L.drop i) ∧ (∀ y, y ∈ L.take i ++ e :: L.drop i ↔ y ∈ L ∨ y = e) := by
  have hno := p.no rfl
  have hs := hL
  rw [← List.take_append_drop i L] at hs
  have h3 := List.pairwise_append.1 hs
  refine ⟨List.pairwise_append.2 ⟨h3.1, List.pairwise_cons.2 ⟨fun b hb => ?_, h3.2.1⟩, fun a ha b hb => ?_⟩, fun y => ?_⟩
  · have := p.hi b hb; have := hno b (List.mem_of_mem_drop hb); omega
  · rcases List.mem_cons.1 hb with r | r
    · subst r; have := p.lo a ha; omega
    · exact h3.2.2 a ha b r
  · have hm : y ∈ L ↔ y ∈ L.take i ∨ y ∈ L.drop i := by rw [← List.mem_append, List.take_append_drop]
    simp only [List.mem_append, List.mem_cons, hm]
    constructor
    · rintro (h | h | h)
      · exact .inl (.inl h)
      · exact .inr h
      · exact .inl (.inr h)
    · rintro ((h | h) | h)
      · exact .inl h
      · exact .inr (.inr h)
      · exact .inr (.inl h)
theorem mid_ne {A C : List Ent} {o : Ent} (h : Srt (A ++ o :: C)) {y : Ent} (hy : y ∈ A ∨ y ∈ C) : y ≠ o := by
  have h3 := List.pairwise_append.1 h
  have h4 := List.pairwise_cons.1 h3.2.1
  intro e
  rcases hy with r | r
  · have := h3.2.2 y r o (by simp); rw [e] at this; omega
  · have := h4.1 y r; rw [e] at this; omega
theorem del_ok {L : List Ent} (hL : Srt L) {i : Nat} {o : Ent} (h : L[i]? = some o) : Srt (L.take i ++ L.drop (i + 1)) ∧ (∀ y, y ∈ L.take i ++ L.drop (i + 1) ↔ y ∈ L ∧ y ≠ o) := by
  have e := split_at h
  have hs := hL
  rw [e] at hs
  have h3 := List.pairwise_append.1 hs
  have h4 := List.pairwise_cons.1 h3.2.1
  refine ⟨List.pairwise_append.2 ⟨h3.1, h4.2, fun a ha b hb => h3.2.2 a ha b (List.mem_cons_of_mem _ hb)⟩, fun y => ?_⟩
  have hm : y ∈ L ↔ y ∈ L.take i ∨ y = o ∨ y ∈ L.drop (i + 1) := by
    conv => lhs; rw [e]
    simp
  rw [List.mem_append, hm]
  constructor
  · intro q; exact ⟨q.elim .inl fun r => .inr (.inr r), mid_ne hs q⟩
  · rintro ⟨q | q | q, hne⟩
    · exact .inl q
    · exact absurd q hne
    · exact .inr q
theorem set_split {L : List Ent} {i : Nat} {o : Ent} (h : L[i]? = some o) (e : Ent) : L.set i e = L.take i ++ e :: L.drop (i + 1) := by
  rw [List.set_eq_take_append_cons_drop, if_pos (List.getElem?_eq_some_iff.1 h).1]
theorem set_ok {L : List Ent} (hL : Srt L) {i : Nat} {o e : Ent} (h : L[i]? = some o) (he : e.h = o.h) : Srt (L.set i e) ∧ (∀ y, y ∈ L.set i e ↔ (y ∈ L ∧ y ≠ o) ∨ y = e) := by
  have hd := del_ok hL h
  have hs := hL
  rw [split_at h] at hs
  have h3 := List.pairwise_append.1 hs
  have h4 := List.pairwise_cons.1 h3.2.1
  rw [set_split h]
  refine ⟨List.pairwise_append.2 ⟨h3.1, List.pairwise_cons.2 ⟨fun b hb => by rw [he]; exact h4.1 b hb, h4.2⟩, fun a ha b hb => ?_⟩, fun y => ?_⟩
  · rcases List.mem_cons.1 hb with r | r
    · subst r; rw [he]; exact h3.2.2 a ha o (by simp)
    · exact h3.2.2 a ha b (List.mem_cons_of_mem _ r)
  · rw [← hd.2 y]
    simp only [List.mem_append, List.mem_cons]
    constructor
    · rintro (q | q | q)
      · exact .inl (.inl q)
      · exact .inr q
      · exact .inl (.inr q)
    · rintro ((q | q) | q)
      · exact .inl q
      · exact .inr (.inr q)
      · exact .inr (.inl q)
end
end RH
end Go.Proofs.Ytkecmljalcfhoaa
