/-
The document's index: new, forked.
-/
import Derived.Test.YtkecmljalcfhoaaRD
namespace Go.Proofs.Ytkecmljalcfhoaa
namespace Ix
open Go RH

structure BldR (h0 h : Heap) (nb m : Nat) (Us : List Rb) : Prop where
  ex : ∃ a c, h[nb]? = some (.cells #[.int .i64 m, .slice a Us.length c] 80 (0, 0)) ∧ Sl eRb h a c Us ∧ Own eRb.k 47 h0.size h a c ∧ ∀ b, blkA a b → b ≠ nb ∧ ∀ t ∈ Us, ¬ blkA t.a b
  lo : h0.size ≤ nb
  nx : ∀ t ∈ Us, ¬ blkA t.a nb
  ok : ∀ t ∈ Us, Sl eEnt h t.a t.c t.L ∧ Own eEnt.k 31 h0.size h t.a t.c ∧ Srt t.L ∧ 8 * t.L.length ≤ 7 * 2 ^ m ∧ ∀ e ∈ t.L, e.wf ∧ e.a ≠ 0
  sep : Us.Pairwise fun t u => ∀ b, blkA t.a b → ¬ blkA u.a b
  x : Ext h0 h
theorem BldR.has {h0 h : Heap} {nb m : Nat} {Us : List Rb} (b : BldR h0 h nb m Us) (hl : 1 ≤ Us.length ∧ Us.length ≤ 64) (hm : 2 ≤ m ∧ m ≤ 16) : HasR (fresh h0 h) h nb m (Us.map Rb.L) := by
  obtain ⟨a, c, r, s, w, hb⟩ := b.ex
  obtain ⟨ab, ao, rfl, _⟩ := s.addr (by omega)
  obtain ⟨k1, k2⟩ := w.low (blkA_of rfl)
  exact ⟨ab, ao, c, Us, ⟨r, s, w.down (Nat.zero_le _), ⟨⟨b.lo, row_lt r⟩, ⟨k1, k2⟩, fun g => (hb ab (blkA_of rfl)).1 g.symm⟩, fun t ht => let ⟨j1, j2, j3⟩ := b.ok t ht; ⟨j1, j2.down (Nat.zero_le _), j3⟩,
    fun t ht z hz => ⟨(b.ok t ht).2.1.low hz, fun g => b.nx t ht (by rw [← g]; exact hz), fun g => (hb ab (blkA_of rfl)).2 t ht (by rw [← g]; exact hz)⟩, b.sep, hl, hm, fun z hz => hz.2⟩, rfl⟩

theorem zc_rep (n : Nat) : (List.replicate n (⟨none, 0, []⟩ : Rb)).flatMap eRb.enc = zcells [.slice none 0 0] n := by
  induction n with
  | zero => rfl
  | succ n ih =>
    rw [List.replicate_succ, List.flatMap_cons, ih]
    unfold zcells
    rw [List.replicate_succ]; rfl
theorem new_r (n bits most : Int) (h : Heap) : HC Try.prog 26 #[.int .i64 n, .int .i64 bits, .int .i64 most] h fun v h' => Ext h h' ∧
    ((newOK n bits most ∧ ∃ x, v = .tuple #[ptr x 0, .int .i64 0] ∧ HasR (fresh h h') h' x most.toNat (List.replicate n.toNat [])) ∨
      (¬ newOK n bits most ∧ v = .tuple #[.pointer none, .int .i64 (if n < 1 ∨ 64 < n then 1 else 110)])) := by
  unfold newOK
  refine f26_sh _ _ _ _ _ ⟨fun g => ?_, fun g => ⟨fun g2 => ?_, fun g2 => ⟨?_, ?_, ?_, fun nb h1 en eh nb1 h2 en1 eh1 => ?_⟩⟩⟩
  · simp only [Bool.or_eq_true, decide_eq_true_eq] at g
    exact ⟨Ext.refl _, .inr ⟨by omega, by rw [if_pos (by omega)]⟩⟩
  · simp only [Bool.or_eq_false_iff, decide_eq_false_iff_not] at g
    simp only [Bool.or_eq_true, decide_eq_true_eq] at g2
    exact ⟨Ext.refl _, .inr ⟨by omega, by rw [if_neg (by omega)]⟩⟩
  all_goals simp only [Bool.or_eq_false_iff, decide_eq_false_iff_not] at g g2
  · omega
  · omega
  · omega
  have x1 : Ext h h1 := by rw [eh]; exact Ext.push _ _
  have x2 : Ext h1 h2 := by rw [eh1]; exact Ext.push _ _
  have r1 : h1[nb]? = some (.cells ((List.replicate n.toNat (⟨none, 0, []⟩ : Rb)).flatMap eRb.enc).toArray 47 (0, 0)) := by rw [zc_rep, eh]; exact push_new en
  have e2 : ((most.toNat : Nat) : Int) = most := by omega
  have r2 : h2[nb1]? = some (.cells #[.int .i64 (most.toNat : Nat), .slice (some ⟨nb, 0, none⟩) n.toNat n.toNat] 80 (0, 0)) := by rw [e2, eh1]; exact push_new en1
  have hl : (List.replicate n.toNat (⟨none, 0, []⟩ : Rb)).length = n.toNat := List.length_replicate
  have hs1 := x1.size
  have hnl := row_lt r1
  have hmem : ∀ t, t ∈ List.replicate n.toNat (⟨none, 0, []⟩ : Rb) → t = ⟨none, 0, []⟩ := fun t ht => List.eq_of_mem_replicate ht
  have b : BldR h h2 nb1 most.toNat (List.replicate n.toNat ⟨none, 0, []⟩) := by
    refine ⟨⟨some ⟨nb, 0, none⟩, n.toNat, by rw [hl]; exact r2, ?_, ?_, fun b hb => ⟨by rw [blkA_some.1 hb]; omega, fun t ht => by rw [hmem t ht]; exact blkA_none⟩⟩, by omega, fun t ht => by rw [hmem t ht]; exact blkA_none, fun t ht => by
      rw [hmem t ht]; exact ⟨Sl.nil _ _, Own.nil _ _ _ _, List.Pairwise.nil, by simp, fun e he => by simp at he⟩, ?_, x1.trans x2⟩
    · have := Sl.lit (E := eRb) (x2.row r1)
      rw [hl] at this; exact this
    · have := Own.lit (E := eRb) (N := h.size) (x2.row r1) (by omega)
      rw [hl] at this; exact this
    · exact List.pairwise_replicate.2 (.inr fun b hb => (blkA_none hb).elim)
  refine ⟨x1.trans x2, .inl ⟨by omega, nb1, rfl, ?_⟩⟩
  have := b.has (by rw [hl]; omega) (by omega)
  rw [List.map_replicate] at this
  exact this

theorem aRb : AppT Try.prog 78 47 eRb.k 24 := ⟨by kernel_rfl, by kernel_rfl, by kernel_rfl, ⟨.slice none 0 0, [.slice none 0 0], by unfold zeroB; kernel_rfl, rfl, rfl⟩, by decide⟩

set_option maxHeartbeats 4000000 in
theorem fork_r {W : Nat → Prop} {h : Heap} {r ab ao ac m : Nat} {Rs : List Rb} (I : Ref W h r ab ao ac m Rs) : HC Try.prog 21 #[ptr r 0] h fun v h' => Ext h h' ∧ ∃ y, v = ptr y 0 ∧ HasR (fresh h h') h' y m (Rs.map Rb.L) := by
  have hlen := I.len
  refine f21_sh _ _ _ _ ⟨_, I.c0, fun nb h1 e1 e2 => ?_⟩
  have x1 : Ext h h1 := by rw [e2]; exact Ext.push _ _
  have r1 : h1[nb]? = some (.cells #[.int .i64 m, .slice none 0 0] 80 (0, 0)) := by rw [e2]; exact push_new e1
  have b1 : BldR h h1 nb m [] := ⟨⟨none, 0, r1, Sl.nil _ _, Own.nil _ _ _ _, fun b hb => (blkA_none hb).elim⟩, by omega, fun t ht => (by cases ht), fun t ht => (by cases ht), List.Pairwise.nil, x1⟩
  refine ⟨_, _, _, (I.ext x1).c1, fun v h2 => ∃ (k : Nat) (Us : List Rb), v = k ∧ k ≤ Rs.length ∧ BldR h h2 nb m Us ∧ Us.length = k ∧ Us.map Rb.L = (Rs.map Rb.L).take k, fun v _ => Rs.length - v.toNat, ⟨0, [], rfl, by omega, b1, rfl, rfl⟩, ?_⟩
  rintro _ h2 ⟨k, Us, rfl, hk, bd, hl, hm⟩
  refine ⟨fun hlt => ?_, fun hge => ?_⟩
  · have hkl := lt_of_dec hlt
    have I2 := I.ext bd.x
    have ht := List.getElem?_eq_getElem hkl
    have htm := List.getElem_mem hkl
    obtain ⟨a, c, ra, s, w, hb⟩ := bd.ex
    have hsm := I.small htm
    obtain ⟨_, _, q3, q4, q5⟩ := I.ok _ htm
    refine ⟨ab, ao, rfl, by omega, by omega, _, _, _, I2.cs ht, Fr (fun b => h2.size ≤ b), fit_fr _, a, Us.length, c, fun hx f => by rw [hcell_row (f.row ra (by have := row_lt ra; omega))]; rfl, fun nb1 h3 en eh => ?_⟩
    obtain ⟨s0, w0, x0⟩ := ent_lit en eh
    refine app_own (n := 0) aEnt x0 s0 w0 rfl ((I2.ext x0).ok _ htm).1 rfl (by omega) ?_
    intro a4 c4 h4 x4 f4 s4 w4 _
    refine ⟨f4.mono fun b _ g => by have := (w0.low g).1; omega, _, _, _, rfl, fun nb2 h5 en2 eh2 => ?_⟩
    have x45 : Ext h4 h5 := by rw [eh2]; exact Ext.push _ _
    have x25 := x4.trans x45
    have s4' : Sl eEnt h4 a4 c4 Rs[k].L := s4.cast (by simp)
    let u : Rb := ⟨a4, c4, Rs[k].L⟩
    have hen : [Value.slice a4 (0 + Rs[k].L.length) c4] = eRb.enc u := by show _ = [Value.slice a4 Rs[k].L.length c4]; rw [Nat.zero_add]
    have hrow : h5[nb2]? = some (.cells ([u].flatMap eRb.enc).toArray 47 (0, 0)) := by
      rw [eh2]
      simp only [List.flatMap_cons, List.flatMap_nil, List.append_nil, ← hen]
      exact push_new en2
    have hs4 := x4.size
    have hs5 := x45.size
    have hs0 := bd.x.size
    refine app_at (L2 := [u]) aRb (s.ext x25) (w.ext x25) rfl (Sl.lit (L := [u]) hrow) rfl (by omega) (by show (Us.length + 1) * 24 ≤ _; omega) ?_
    intro a6 c6 h6 f6 s6 w6 b6
    have hnl := row_lt ra
    have hna : ¬ blkA a nb := fun g => (hb nb g).1 rfl
    have r6 := f6.row (x25.row ra) hna
    have hs6 := f6.size
    have ha6 : ∀ z, blkA a6 z → z ≠ nb := fun z hz g => by
      rcases b6 z hz with k' | k'
      · exact (hb z k').1 g
      · omega
    refine ⟨_, _, _, rfl, HW_row r6 (by simp), ?_⟩
    rintro h7 e7
    have f7 : Fr (fun z => z = nb) h6 h7 := fr_hset_of e7
    have r7 : h7[nb]? = some (.cells #[.int .i64 m, .slice a6 (Us.length + 1) c6] 80 (0, 0)) := by rw [e7, hset_row r6]; rfl
    clear e7
    have hold : ∀ t ∈ Us, ∀ z, blkA t.a z → z < h2.size := fun t ht z g => ((bd.ok t ht).2.1.low g).2
    have hnew : ∀ z, blkA a4 z → h2.size ≤ z ∧ z < h4.size := fun z g => w4.low g
    rw [wadd k (by omega)]
    refine ⟨⟨k + 1, Us ++ [u], rfl, hkl, ⟨⟨a6, c6, by rw [List.length_append]; exact r7, s6.fr f7 ha6, w6.fr f7 ha6, fun z hz => ⟨ha6 z hz, fun t ht g => ?_⟩⟩, bd.lo, fun t ht g => ?_, fun t ht => ?_, ?_, ?_⟩, by simp [hl], ?_⟩, by simp only [Int.toNat_natCast]; omega⟩
    · rcases List.mem_append.1 ht with j | j
      · rcases b6 z hz with j2 | j2
        · exact (hb z j2).2 t j g
        · have := hold t j z g; omega
      · have e := List.mem_singleton.1 j
        subst e
        have := hnew z g
        rcases b6 z hz with j2 | j2
        · have := (w.low j2).2; omega
        · omega
    · rcases List.mem_append.1 ht with j | j
      · exact bd.nx t j g
      · have e := List.mem_singleton.1 j
        subst e
        have := hnew nb g; omega
    · rcases List.mem_append.1 ht with j | j
      · obtain ⟨j1, j2, j3⟩ := bd.ok t j
        have n1 : ∀ z, blkA t.a z → ¬ blkA a z := fun z g q => (hb z q).2 t j g
        have n2 : ∀ z, blkA t.a z → ¬ z = nb := fun z g q => bd.nx t j (by rw [← q]; exact g)
        exact ⟨((j1.ext x25).fr f6 n1).fr f7 n2, ((j2.ext x25).fr f6 n1).fr f7 n2, j3⟩
      · have e := List.mem_singleton.1 j
        subst e
        have n1 : ∀ z, blkA a4 z → ¬ blkA a z := fun z g q => by have := hnew z g; have := (w.low q).2; omega
        have n2 : ∀ z, blkA a4 z → ¬ z = nb := fun z g q => by have := hnew z g; omega
        exact ⟨((s4'.ext x45).fr f6 n1).fr f7 n2, (((w4.ext x45).fr f6 n1).fr f7 n2).down hs0, q3, q4, q5⟩
    · refine List.pairwise_append.2 ⟨bd.sep, List.pairwise_singleton _ _, fun t ht w' hw' z g1 g2 => ?_⟩
      have e := List.mem_singleton.1 hw'
      subst e
      have := hold t ht z g1
      have := hnew z g2
      omega
    · have k1 : Ext h h6 := (w.ext x25).grown (bd.x.trans x25) f6
      have hlo := bd.lo
      exact ((k1.fr (fun z => z = nb)).trans f7 fun _ _ g => g).ext fun i hi g => by omega
    · rw [List.map_append, hm, List.take_add_one, List.getElem?_map, ht]; rfl
  · have hkl : k = Rs.length := by have := ge_of_dec hge; omega
    refine ⟨bd.x, nb, rfl, ?_⟩
    have := bd.has (by omega) I.m16
    rw [hm, hkl, List.take_of_length_le (by simp)] at this
    exact this
end Ix
end Go.Proofs.Ytkecmljalcfhoaa
