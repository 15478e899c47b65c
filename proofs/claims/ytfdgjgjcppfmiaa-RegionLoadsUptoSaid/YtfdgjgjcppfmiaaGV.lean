/-
The sealed regions: the document's; what the law has of the manager's; comparing.
-/
import Derived.Test.YtfdgjgjcppfmiaaGU
namespace Go.Proofs.Ytfdgjgjcppfmiaa
namespace Mg
open Go

section
variable {W V : Nat → Prop} {h h' : Heap} {p x : Nat} {S : Rg} {ra fa la qa da : Option Addr} {qc fc mb lc dc : Nat} {kv : List (Int × Value)} {Ds : List Dr} {K : Nat}

theorem same_ints {a b : Option Addr} {c d : Nat} {L M : List Int} (s : Sl eI h a c L) (t : Sl eI h b d M) (hl : L.length ≤ 4194304) : HC Try.prog 46 #[.slice a L.length c, .slice b M.length d] h fun v h' => v = .bool (decide (L = M)) ∧ h' = h := by
  refine f46_sh _ _ _ _ _ _ _ _ ⟨fun g => ⟨?_, rfl⟩, fun g => ⟨fun v => ∃ k : Nat, v = k ∧ k ≤ L.length ∧ L.take k = M.take k, fun v => L.length - v.toNat, ⟨0, rfl, Nat.zero_le _, by simp⟩, ?_⟩⟩
  · rw [decide_eq_false]
    rintro rfl
    simp at g
  · have hlen : L.length = M.length := by
      have : (L.length : Int) = M.length := by simpa using g
      omega
    rintro _ ⟨k, rfl, hk, ht⟩
    refine ⟨fun hlt => ?_, fun hge => ⟨?_, rfl⟩⟩
    · have hkl := lt_of_dec hlt
      have hkm : k < M.length := by omega
      obtain ⟨b1, o1, e1, d1⟩ := s.at (List.getElem?_eq_getElem hkl)
      obtain ⟨b2, o2, e2, d2⟩ := t.at (List.getElem?_eq_getElem hkm)
      refine ⟨b1, o1, e1, by omega, by omega, _, d1.1, b2, o2, e2, by omega, by omega, _, d2.1, fun g2 => ⟨?_, rfl⟩, fun g2 => ?_⟩
      · rw [decide_eq_false]
        rintro rfl
        simp at g2
      · rw [wadd k (by omega)]
        have e : L[k] = M[k] := by simpa using g2
        refine ⟨⟨k + 1, rfl, hkl, ?_⟩, by simp only [Int.toNat_natCast]; omega⟩
        rw [List.take_add_one, List.take_add_one, List.getElem?_eq_getElem hkl, List.getElem?_eq_getElem hkm, ht, e]
    · have hkl : k = L.length := by have := ge_of_dec hge; omega
      subst hkl
      rw [List.take_length, hlen, List.take_length] at ht
      rw [ht]; simp

/-- The place that is free stands at k. -/
structure Gap (S : Rg) (i : Int) (L X : List Int) (k : Nat) : Prop where
  le : k ≤ L.length
  ex : ∃ g, X = L.take k ++ g :: L.drop k
  up : ∀ y ∈ L.drop k, (S.at i).sq < (S.at y).sq
theorem Gap.len {i : Int} {L X : List Int} {k : Nat} (g : Gap S i L X k) : X.length = L.length + 1 := by
  obtain ⟨z, rfl⟩ := g.ex
  have := g.le
  simp; omega
theorem Gap.prev {i : Int} {L X : List Int} {k : Nat} (g : Gap S i L X k) (hk : 0 < k) : ∃ hj : k - 1 < L.length, X[k - 1]? = some L[k - 1] := by
  obtain ⟨z, rfl⟩ := g.ex
  have := g.le
  refine ⟨by omega, ?_⟩
  rw [List.getElem?_append_left (by rw [List.length_take]; omega), List.getElem?_take, if_pos (by omega), List.getElem?_eq_getElem (by omega)]
theorem Gap.move {i : Int} {L X : List Int} {k : Nat} (g : Gap S i L X k) (hk : 0 < k) (hj : k - 1 < L.length) (hu : (S.at i).sq < (S.at L[k - 1]).sq) : Gap S i L (X.set k L[k - 1]) (k - 1) := by
  obtain ⟨z, rfl⟩ := g.ex
  have hle := g.le
  refine ⟨by omega, ⟨L[k - 1], ?_⟩, fun y hy => ?_⟩
  · rw [List.set_append_right _ _ (by rw [List.length_take]; omega), List.length_take, Nat.min_eq_left hle, Nat.sub_self, List.set_cons_zero]
    have e1 : L.take k = L.take (k - 1) ++ [L[k - 1]] := by
      conv => lhs; rw [show k = k - 1 + 1 by omega]
      rw [List.take_add_one, List.getElem?_eq_getElem hj]; rfl
    have e2 : L.drop (k - 1) = L[k - 1] :: L.drop k := by
      rw [← List.getElem_cons_drop hj, show k - 1 + 1 = k by omega]
    rw [e1, e2, List.append_assoc]; rfl
  · rw [← List.getElem_cons_drop hj, show k - 1 + 1 = k by omega] at hy
    rcases List.mem_cons.1 hy with e | e
    · rw [e]; exact hu
    · exact g.up y e
theorem Gap.fill {i : Int} {L X : List Int} {k : Nat} (g : Gap S i L X k) : X.set k i = L.take k ++ i :: L.drop k := by
  obtain ⟨z, rfl⟩ := g.ex
  have hle := g.le
  rw [List.set_append_right _ _ (by rw [List.length_take]; omega), List.length_take, Nat.min_eq_left hle, Nat.sub_self, List.set_cons_zero]
theorem seal_ins {n : Nat} {L : List Int} (w : WF K S) (s : Seal S n L) (hn : n < S.I.length) (hst : (S.at n).st = 3) {k : Nat} (hk : k ≤ L.length) (hup : ∀ y ∈ L.drop k, (S.at n).sq < (S.at y).sq) (hlo : k = 0 ∨ ∃ hj : k - 1 < L.length, ¬ (S.at n).sq < (S.at L[k - 1]).sq) : Seal S (n + 1) (L.take k ++ (n : Int) :: L.drop k) := by
  refine ⟨?_, ?_⟩
  · rw [sealedTo_succ, if_pos hst]
    refine List.perm_middle.trans ?_
    rw [List.take_append_drop]
    exact ((List.perm_cons _).2 s.perm).trans (List.perm_append_singleton _ _).symm
  · have hu := s.up
    rw [← List.take_append_drop k L] at hu
    obtain ⟨u1, u2, u3⟩ := List.pairwise_append.1 hu
    have hlow : ∀ y ∈ L.take k, (S.at y).sq < (S.at n).sq := by
      intro y hy
      rcases hlo with e | ⟨hj, hnl⟩
      · subst e; simp at hy
      · have hne : L[k - 1] ≠ (n : Int) := fun e => by
          have := (s.mem.1 (List.getElem_mem hj)).1
          rw [e] at this; omega
        have hm := s.mem.1 (List.getElem_mem hj)
        have h1 : (S.at L[k - 1]).sq < (S.at n).sq := by
          have := w.uq L[k - 1] n ⟨hm.1.1, by omega⟩ ⟨by omega, by omega⟩ hne (by rw [hm.2]; decide) (by rw [hst]; decide)
          omega
        obtain ⟨j, hjl, rfl⟩ := List.getElem_of_mem hy
        rw [List.length_take] at hjl
        rw [List.getElem_take]
        by_cases e : j = k - 1
        · subst e; exact h1
        · exact Int.lt_trans (List.pairwise_iff_getElem.1 s.up j (k - 1) (by omega) hj (by omega)) h1
    refine List.pairwise_append.2 ⟨u1, List.pairwise_cons.2 ⟨hup, u2⟩, fun a ha b hb => ?_⟩
    rcases List.mem_cons.1 hb with e | e
    · rw [e]; exact hlow a ha
    · exact u3 a ha b e

set_option maxHeartbeats 3200000 in
theorem sealed_r (M : Rm V h x S la qa da lc qc dc Ds) (w : WF K S) : HC Try.prog 20 #[ptr x 0] h fun v h' => ∃ L, Seal S S.I.length L ∧ New eI 3 h h' v L := by
  obtain ⟨rb, ro, rfl⟩ := M.la_some w
  have hn := w.n
  refine f20_sh _ _ _ _ ⟨fun a n c v h1 => ∃ (k : Nat) (L : List Int), v = k ∧ k ≤ S.I.length ∧ Seal S k L ∧ n = L.length ∧ Ext h h1 ∧ Sl eI h1 a c L ∧ Own eI.k 3 h.size h1 a c, fun _ _ _ v _ => S.I.length - v.toNat,
    ⟨0, [], rfl, Nat.zero_le _, ⟨List.Perm.refl _, List.Pairwise.nil⟩, rfl, Ext.refl _, Sl.nil _ _, Own.nil _ _ _ _⟩, ?_⟩
  rintro a _ c _ h1 ⟨k, L, rfl, hk, hL, rfl, x1, s1, w1⟩
  have M1 := M.ext x1
  refine ⟨_, _, _, by rw [hcell_row M1.row]; rfl, fun hlt => ?_, fun hge => ?_⟩
  · have hkl := lt_of_dec hlt
    have hi : S.inn (k : Int) := ⟨by omega, by omega⟩
    have hll : L.length ≤ 256 := by have := sealedTo_len (S := S) (n := k); rw [hL.perm.length_eq]; omega
    refine ⟨fun a' n' c' h2 => ∃ L', Seal S (k + 1) L' ∧ n' = L'.length ∧ Ext h h2 ∧ Sl eI h2 a' c' L' ∧ Own eI.k 3 h.size h2 a' c', ⟨rb, ro, rfl, hi.1, hi.2, _, (M1.cell hi).1, fun g => ?_, fun g nb h3 en eh => ?_⟩, ?_⟩
    · have hst : ¬ (S.at (k : Int)).st = 3 := by simpa using g
      refine ⟨L, ⟨?_, hL.up⟩, rfl, x1, s1, w1⟩
      rw [sealedTo_succ, if_neg hst, List.append_nil]; exact hL.perm
    · have hst : (S.at (k : Int)).st = 3 := by simpa using g
      refine app_one (x := (k : Int)) aI en eh rfl x1 s1 w1 rfl (by omega) fun a' c' h4 x4 f4 s4 w4 b4 => ⟨_, _, _, rfl, ?_⟩
      have hlm : (L ++ [(k : Int)]).length = L.length + 1 := by simp
      refine ⟨fun v h5 => ∃ (j : Nat) (X : List Int), v = j ∧ Gap S k L X j ∧ Ext h h5 ∧ Sl eI h5 a' c' X ∧ Own eI.k 3 h.size h5 a' c', fun v _ => v.toNat, ⟨L.length, _, rfl, ⟨Nat.le_refl _, ⟨(k : Int), by simp⟩, by simp⟩, x4, s4, w4⟩, ?_⟩
      rintro _ h5 ⟨j, X, rfl, gp, x5, s5, w5⟩
      have M5 := M.ext x5
      have hXl := gp.len
      have hjle := gp.le
      have hj1 : 0 < j → IntKind.i64.wrap ((j : Int) - 1) = ((j - 1 : Nat) : Int) := fun hj => wsub j (by omega) (by omega)
      have hcond : 0 < j → ∀ hj : j - 1 < L.length, S.inn L[j - 1] := fun _ hj => by have := (hL.mem.1 (List.getElem_mem hj)).1; exact ⟨this.1, by omega⟩
      refine ⟨decide (∃ (_ : 0 < j) (hj : j - 1 < L.length), (S.at (k : Int)).sq < (S.at L[j - 1]).sq), ⟨fun g2 => ⟨_, _, _, by rw [hcell_row M5.row]; rfl, ?_⟩, fun g2 => ?_⟩, fun g2 => ?_, fun g2 => ?_⟩
      · have hj : 0 < j := by have := of_decide_eq_true g2; omega
        obtain ⟨hjl, hX⟩ := gp.prev hj
        obtain ⟨b, o, e, d⟩ := s5.at hX
        have hin := hcond hj hjl
        rw [hj1 hj]
        refine ⟨b, o, e, by omega, by omega, _, d.1, rb, ro, rfl, hin.1, hin.2, _, (M5.cell hin).2.1, hi.1, hi.2, _, (M5.cell hi).2.1, ?_⟩
        rw [Bool.eq_iff_iff]
        simp only [decide_eq_true_eq]
        exact ⟨fun ⟨_, _, q⟩ => q, fun q => ⟨hj, hjl, q⟩⟩
      · have hj : ¬ 0 < j := by have := of_decide_eq_false g2; omega
        exact decide_eq_false fun ⟨q, _⟩ => hj q
      · obtain ⟨hj, hjl, hu⟩ := of_decide_eq_true g2
        obtain ⟨_, hX⟩ := gp.prev hj
        obtain ⟨b, o, rfl, hc⟩ := s5.addr (by omega)
        have d := hc _ _ hX
        rw [hj1 hj]
        obtain ⟨k1, k2⟩ := s5.words w5 (i := j) (by omega) (L[j - 1]) (p := o + j * 1) rfl
        refine ⟨b, o, rfl, by omega, by omega, _, d.1, by omega, by omega, k1 0 (by decide), fun h6 e6 => ?_⟩
        obtain ⟨s6, w6, f6⟩ := k2 h6 (by rw [e6]; rfl)
        refine ⟨⟨j - 1, _, rfl, gp.move hj hjl hu, ext_of_fr f6 x5 ?_, s6, w6⟩, by simp only [Int.toNat_natCast]; omega⟩
        exact (w5.low (blkA_some.2 rfl)).1
      · have hlo : j = 0 ∨ ∃ hj : j - 1 < L.length, ¬ (S.at (k : Int)).sq < (S.at L[j - 1]).sq := by
          by_cases h0 : j = 0
          · exact .inl h0
          · have hj : 0 < j := by omega
            obtain ⟨hjl, _⟩ := gp.prev hj
            exact .inr ⟨hjl, fun q => absurd (show ∃ (_ : 0 < j) (hj : j - 1 < L.length), (S.at (k : Int)).sq < (S.at L[j - 1]).sq from ⟨hj, hjl, q⟩) (of_decide_eq_false g2)⟩
        obtain ⟨b, o, rfl, hc⟩ := s5.addr (by omega)
        obtain ⟨k1, k2⟩ := s5.words w5 (i := j) (by omega) (k : Int) (p := o + j * 1) rfl
        refine ⟨b, o, rfl, by omega, by omega, k1 0 (by decide), fun h7 e7 => ?_⟩
        obtain ⟨s7, w7, f7⟩ := k2 h7 (by rw [e7]; rfl)
        rw [gp.fill] at s7
        refine ⟨_, seal_ins w hL hkl hst gp.le gp.up hlo, ?_, ext_of_fr f7 x5 (w5.low (blkA_some.2 rfl)).1, s7, w7⟩
        rw [← gp.fill, List.length_set, gp.len]
    · rintro a' _ c' h2 ⟨L', hL', rfl, x2, s2, w2⟩
      rw [wadd k (by omega)]
      exact ⟨⟨k + 1, L', rfl, hkl, hL', rfl, x2, s2, w2⟩, by simp only [Int.toNat_natCast]; omega⟩
  · have hkl : k = S.I.length := by have := ge_of_dec hge; omega
    subst hkl
    exact ⟨L, hL, a, c, rfl, x1, s1, w1⟩

/-- Going over the sealed ones, by a loop of a law. -/
theorem range_sealed {Lp : LoopState → Option Code → Heap → Prop} {l cb : Nat} {h13 h14 : Heap} {y : Value} {OUT : Option Code → Heap → Prop}
    (stay : ∀ s p h h', Lp s p h → h'[l]? = h[l]? → Lp s p h') (el : l = h13.size + 1) (z14 : h14.size = h13.size + 2) (L14 : Lp .ready none h14)
    (M : Mem W h14 p S ra fa qc fc mb kv Ds) (w : WF K S) (hc : hcell h14 cb 0 = some (.pointer (some ⟨p, 0, none⟩))) (hcb : cb < h14.size) (J : List Int → (Nat → Prop) → Nat → Heap → Prop) (Q : List Int → (Nat → Prop) → Heap → Prop) (ex : Code)
    (j0 : ∀ L h3, Seal S S.I.length L → Ext h14 h3 → J L (fun b => b = l ∨ (h14.size ≤ b ∧ b < h3.size)) 0 h3) (jst : ∀ L Z k h h', Z l → J L Z k h → Fr (fun b => b = l) h h' → J L Z k h') (qst : ∀ L Z h h', Z l → Q L Z h → Fr (fun b => b = l) h h' → Q L Z h')
    (step : ∀ L Z k (hk : k < L.length) h15 (K : Value → Heap → Prop), Seal S S.I.length L → Z l → (∀ b, Z b → b < h15.size) → Lp .ready none h15 → J L Z k h15 → (∀ h', J L Z (k + 1) h' → Lp .ready none h' → Fr (fun b => ¬ Z b ∨ b = l) h15 h' → K (.bool true) h') →
      (∀ h', Q L Z h' → Lp .done (some ex) h' → Fr (fun b => ¬ Z b ∨ b = l) h15 h' → K (.bool false) h') → HCV Try.prog y [.int .i64 L[k]] h15 K)
    (fin : ∀ L Z h, Seal S S.I.length L → h14.size ≤ h.size → J L Z L.length h → OUT none h) (fin2 : ∀ L Z h, Seal S S.I.length L → h14.size ≤ h.size → Q L Z h → OUT (some ex) h) :
    HCF Try.prog (.func (.func 34) #[] #[ptr cb 0]) [y] h14 (fun _ h16 => ∃ (st : LoopState) (pend : Option Code), Lp st pend h16 ∧ st ≠ .busy ∧ ∀ h17, Only l h16 h17 → Lp .exhausted pend h17 → OUT pend h17) := by
  refine sealed_go M w hc hcb fun L hL h3 x3 => ?_
  have s3 := x3.size
  have yw : ∀ {b : Nat}, ¬ (b = l ∨ (h14.size ≤ b ∧ b < h3.size)) ∨ b = l → Yw h14 h3 b := fun {b} g => by
    by_cases hb : b < h14.size
    · exact .inl hb
    · refine .inr (Nat.le_of_not_lt fun q => ?_)
      rcases g with g | g
      · exact g (.inr ⟨by omega, q⟩)
      · omega
  refine ⟨fun k h => Lp .ready none h ∧ J L (fun b => b = l ∨ (h14.size ≤ b ∧ b < h3.size)) k h, ⟨stay _ _ _ _ L14 (x3.block l (by omega)), j0 L h3 hL x3⟩, ?_, ?_⟩
  · rintro k hk h4 f4 ⟨lp, jk⟩
    have s4 := f4.size
    refine step L _ k hk h4 _ hL (.inl rfl) (fun b g => by rcases g with g | g <;> omega) lp jk (fun h' j' lp' f' => ?_) (fun h' q' lp' f' => ?_)
    · exact ⟨f'.mono fun b _ g => yw g, true, rfl, fun g => (by cases g), fun _ => ⟨lp', j'⟩⟩
    · have s' := f'.size
      exact ⟨f'.mono fun b _ g => yw g, false, rfl, fun _ => ⟨.done, some ex, lp', by simp, fun h17 o17 _ => fin2 L _ h17 hL (by have := o17.size; omega) (qst L _ _ _ (.inl rfl) q' o17.fr)⟩, fun g => by cases g⟩
  · rintro h4 f4 ⟨lp, jk⟩
    have s4 := f4.size
    exact ⟨.ready, none, lp, by simp, fun h17 o17 _ => fin L _ h17 hL (by have := o17.size; omega) (jst L _ _ _ _ (.inl rfl) jk o17.fr)⟩
end
end Mg
end Go.Proofs.Ytfdgjgjcppfmiaa
