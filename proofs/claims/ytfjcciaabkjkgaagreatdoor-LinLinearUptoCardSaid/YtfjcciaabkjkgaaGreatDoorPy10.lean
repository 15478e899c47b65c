import Derived.Test.YtfjcciaabkjkgaaGreatDoorPy1
import Derived.Test.YtfjcciaabkjkgaaGreatDoorPy7
import Derived.Test.YtfjcciaabkjkgaaGreatDoorPy9
namespace Go.Proofs.YtfjcciaabkjkgaaGreatDoor
open Go Ml
namespace Ml
def cutJ (l : List Mv) (n : Int) (j : Nat) : List Mv := cutL (l.take j) n
theorem cutL_app {a b : List Mv} {n : Int} : cutL (a ++ b) n = cutL a n ++ cutL b n := by unfold cutL; rw [List.filter_append, List.map_append]
theorem cutJ_succ {l : List Mv} {n : Int} {j : Nat} (hj : j < l.length) : cutJ l n (j + 1) = cutJ l n j ++ if decide (l[j].fr ≤ n) = true then [cutM n l[j]] else [] := by
  unfold cutJ
  rw [List.take_add_one, List.getElem?_eq_getElem hj, cutL_app]
  congr 1
  unfold cutL
  show List.map (cutM n) (List.filter (fun x => decide (x.fr ≤ n)) [l[j]]) = _
  by_cases q : decide (l[j].fr ≤ n) = true
  · rw [if_pos q, List.filter_cons, if_pos q]; rfl
  · rw [if_neg q, List.filter_cons, if_neg q]; rfl
theorem cutJ_len {l : List Mv} {n : Int} {j : Nat} : (cutJ l n j).length ≤ j := by
  unfold cutJ cutL
  rw [List.length_map]
  exact Nat.le_trans (List.length_filter_le ..) (by rw [List.length_take]; omega)
theorem cutM_val {n : Int} {m : Mv} : (cutM n m).val.size ≤ m.val.size := by
  unfold cutM
  split
  · simp only; split
    · exact Nat.le_refl _
    · show 0 ≤ _; omega
  · exact Nat.le_refl _
theorem cutL_vals {l : List Mv} {n : Int} {B : Nat} (h : ∀ m ∈ l, m.val.size ≤ B) : ∀ m ∈ cutL l n, m.val.size ≤ B := fun m hm => by
  unfold cutL at hm
  obtain ⟨x, hx, rfl⟩ := List.mem_map.1 hm
  exact Nat.le_trans cutM_val (h x (List.mem_filter.1 hx).1)
theorem cutL_chk {l : List Mv} {n : Int} (h : chkL l = 0) : chkL (cutL l n) = 0 := by
  have hc : ∀ x ∈ l, check x = 0 := by
    unfold chkL at h
    split at h
    · assumption
    · exact absurd h (by decide)
  unfold chkL
  rw [if_pos]
  intro m hm
  unfold cutL at hm
  obtain ⟨x, hx, rfl⟩ := List.mem_map.1 hm
  exact check_cut (hc x (List.mem_filter.1 hx).1)
theorem cutL_len {l : List Mv} {n : Int} : (cutL l n).length ≤ l.length := by
  unfold cutL
  rw [List.length_map]
  exact List.length_filter_le ..
theorem cut_ofN {l : List Mv} {n : Int} (key : Str) : (ofN (cutL l n) key).length ≤ (ofN l key).length := by
  have := nodup_gen (L := (ofN (cutL l n) key).map (was l n)) (S := ofN l key) ?_ ?_
  · simpa using this
  · unfold List.Nodup
    rw [List.pairwise_map]
    refine List.Pairwise.imp_of_mem ?_ (lt_nodup (ofN_lt key))
    intro a b ha hb hne e
    exact hne (was_inj (ofN_in a ha) (ofN_in b hb) e)
  · intro x hx
    obtain ⟨j, hj, rfl⟩ := List.mem_map.1 hx
    have hjl := ofN_in j hj
    unfold ofN at hj ⊢
    rw [List.mem_filter] at hj ⊢
    have hm := mv_cut hjl
    have e1 : keyed (cutM n (mv l (was l n j))) = keyed (mv l (was l n j)) ∧ (cutM n (mv l (was l n j))).key = (mv l (was l n j)).key := by
      unfold cutM
      split
      · exact ⟨rfl, rfl⟩
      · exact ⟨rfl, rfl⟩
    rw [hm, e1.1, e1.2] at hj
    exact ⟨List.mem_range.2 (was_mem hjl).1, hj.2⟩
end Ml
section
variable {h : Heap} {la : Option Addr} {lc : Nat} {l : List Mv}
set_option maxHeartbeats 4000000 in
theorem cut_c (sl : Sl eMv h la lc l) (hl : l.length ≤ 1048576) (n : Int) :
    HC Tryz.prog 37 #[.slice la l.length lc, .int .i64 n] h fun v h' => Ext h h' ∧ ∃ a c, v = .slice a (cutL l n).length c ∧ Sl eMv h' a c (cutL l n) := by
  refine f37_sh _ _ _ _ _ _ ⟨fun out m c v hh => ∃ j : Nat, v = j ∧ j ≤ l.length ∧ m = (cutJ l n j).length ∧ Ext h hh ∧ Sl eMv hh out c (cutJ l n j) ∧ Own eMv.k tMv h.size hh out c, fun _ _ _ v _ => l.length - v.toNat, ⟨0, rfl, Nat.zero_le _, rfl, Ext.refl _, Sl.nil _ _, Own.nil _ _ _ _⟩, ?_⟩
  rintro out _ c _ h1 ⟨j, rfl, hj, rfl, x1, s1, w1⟩
  refine ⟨fun hlt => ?_, fun hge => ?_⟩
  · have hjl := lt_of_dec hlt
    obtain ⟨lb, lo, ela, dl⟩ := (sl.ext x1).at (List.getElem?_eq_getElem hjl)
    have hJ := cutJ_len (l := l) (n := n) (j := j)
    refine ⟨fun out' m' c' hh => m' = (cutJ l n (j + 1)).length ∧ Ext h hh ∧ Sl eMv hh out' c' (cutJ l n (j + 1)) ∧ Own eMv.k tMv h.size hh out' c', ⟨lb, lo, ela, by omega, by omega, _, _, _, _, _, _, _, _, dl.1, dl.2.1, dl.2.2.1, dl.2.2.2.1, dl.2.2.2.2.1, dl.2.2.2.2.2.1, dl.2.2.2.2.2.2.1, dl.2.2.2.2.2.2.2.1, fun g h4 x4 => ?_, fun g mc emc mc1 emc1 mc3 emc3 h5 x5 nb h10 e10 eh10 => ?_⟩, ?_⟩
    · have g := of_decide_eq_true g
      have e : cutJ l n (j + 1) = cutJ l n j := by rw [cutJ_succ hjl, if_neg (by simp; omega), List.append_nil]
      rw [e]
      exact ⟨rfl, x1.trans x4, s1.ext x4, w1.ext x4⟩
    · have g := of_decide_eq_false g
      have e : cutJ l n (j + 1) = cutJ l n j ++ [cutM n l[j]] := by rw [cutJ_succ hjl, if_pos (by simp; omega)]
      have ec : (eMv.enc (cutM n l[j])).toArray = #[.int .i64 l[j].kind, .string l[j].key, .string mc, .int .i64 mc1, .bool (!(decide (l[j].to > n)) && l[j].hit), .int .i64 l[j].life, .int .i64 l[j].fr, .int .i64 mc3] := by
        rw [emc, emc1, emc3]
        unfold cutM
        by_cases q : l[j].to > n
        · rw [if_pos q, decide_eq_true q]
          by_cases k2 : l[j].kind = 2
          · simp [eMv, k2]
          · have k3 : (l[j].kind != 2) = true := by simp [k2]
            rw [k3]
            simp [eMv, k2]
        · rw [if_neg q, decide_eq_false q]
          simp [eMv]
      refine app_one (x := cutM n l[j]) aMv e10 eh10 ec (x1.trans x5) (s1.ext x5) (w1.ext x5) rfl (by omega) fun a' c' h11 x11 f11 s11 w11 _ => ⟨a', _, c', rfl, ?_⟩
      rw [← e] at s11
      exact ⟨by rw [e]; simp, x11, s11, w11⟩
    · rintro out' _ c' h2 ⟨rfl, x2, s2, w2⟩
      rw [wadd j (by omega)]
      exact ⟨⟨j + 1, rfl, hjl, rfl, x2, s2, w2⟩, by simp only [Int.toNat_natCast]; omega⟩
  · have hjl : j = l.length := by have := ge_of_dec hge; omega
    subst hjl
    have e : cutJ l n l.length = cutL l n := by unfold cutJ; rw [List.take_length]
    rw [e] at s1 ⊢
    exact ⟨x1, out, c, rfl, s1⟩
set_option maxHeartbeats 4000000 in
theorem rcut_c (sl : Sl eMv h la lc l) (hl : l.length ≤ 1048576) (hc : chkL l = 0) (n : Int) :
    HC Tryz.prog 20 #[.slice la l.length lc, .int .i64 n] h fun v h' => Ext h h' ∧ ∃ a c, v = .slice a (cutL l n).length c ∧ Sl eMv h' a c (cutL l n) := by
  have hch := chk_all hc
  refine f20_sh _ _ _ _ _ _ ⟨fun out m c v hh => ∃ j : Nat, v = j ∧ j ≤ l.length ∧ m = (cutJ l n j).length ∧ Ext h hh ∧ Sl eMv hh out c (cutJ l n j) ∧ Own eMv.k tMv h.size hh out c, fun _ _ _ v _ => l.length - v.toNat, ⟨0, rfl, Nat.zero_le _, rfl, Ext.refl _, Sl.nil _ _, Own.nil _ _ _ _⟩, ?_⟩
  rintro out _ c _ h1 ⟨j, rfl, hj, rfl, x1, s1, w1⟩
  refine ⟨fun hlt => ?_, fun hge => ?_⟩
  · have hjl := lt_of_dec hlt
    obtain ⟨lb, lo, ela, dl⟩ := (sl.ext x1).at (List.getElem?_eq_getElem hjl)
    have hJ := cutJ_len (l := l) (n := n) (j := j)
    refine ⟨fun out' m' c' hh => m' = (cutJ l n (j + 1)).length ∧ Ext h hh ∧ Sl eMv hh out' c' (cutJ l n (j + 1)) ∧ Own eMv.k tMv h.size hh out' c', ⟨lb, lo, ela, by omega, by omega, _, _, _, _, _, _, _, _, dl.1, dl.2.1, dl.2.2.1, dl.2.2.2.1, dl.2.2.2.2.1, dl.2.2.2.2.2.1, dl.2.2.2.2.2.2.1, dl.2.2.2.2.2.2.2.1, fun g h4 x4 => ?_, fun g mc emc mc1 emc1 mc3 emc3 h5 x5 nb h10 e10 eh10 => ?_⟩, ?_⟩
    · have g := of_decide_eq_true g
      have e : cutJ l n (j + 1) = cutJ l n j := by rw [cutJ_succ hjl, if_neg (by simp; omega), List.append_nil]
      rw [e]
      exact ⟨rfl, x1.trans x4, s1.ext x4, w1.ext x4⟩
    · have g := of_decide_eq_false g
      have e : cutJ l n (j + 1) = cutJ l n j ++ [cutM n l[j]] := by rw [cutJ_succ hjl, if_pos (by simp; omega)]
      have ec : (eMv.enc (cutM n l[j])).toArray = #[.int .i64 l[j].kind, .string l[j].key, .string mc, .int .i64 mc1, .bool (!(decide (l[j].to > n)) && l[j].hit), .int .i64 l[j].life, .int .i64 l[j].fr, .int .i64 mc3] := by
        rw [emc, emc1, emc3]
        unfold cutM
        by_cases q : l[j].to > n
        · rw [if_pos q, decide_eq_true q]
          have hz := check_zero.1 (hch _ (List.getElem_mem hjl))
          by_cases k1 : l[j].kind = 1
          · simp [eMv, k1]
          · by_cases k2 : l[j].kind = 2
            · simp [eMv, k2]
            · have hv : l[j].val = ByteArray.empty := Classical.byContradiction fun r => hz (by
                by_cases k0 : l[j].kind < 1
                · exact .inl (.inl k0)
                · exact .inr (.inr (.inr (.inl ⟨by omega, r⟩))))
              simp [eMv, k1, k2, hv]
        · rw [if_neg q, decide_eq_false q]
          simp [eMv]
      refine app_one (x := cutM n l[j]) aMv e10 eh10 ec (x1.trans x5) (s1.ext x5) (w1.ext x5) rfl (by omega) fun a' c' h11 x11 f11 s11 w11 _ => ⟨a', _, c', rfl, ?_⟩
      rw [← e] at s11
      exact ⟨by rw [e]; simp, x11, s11, w11⟩
    · rintro out' _ c' h2 ⟨rfl, x2, s2, w2⟩
      rw [wadd j (by omega)]
      exact ⟨⟨j + 1, rfl, hjl, rfl, x2, s2, w2⟩, by simp only [Int.toNat_natCast]; omega⟩
  · have hjl : j = l.length := by have := ge_of_dec hge; omega
    subst hjl
    have e : cutJ l n l.length = cutL l n := by unfold cutJ; rw [List.take_length]
    rw [e] at s1 ⊢
    exact ⟨x1, out, c, rfl, s1⟩
end
end Go.Proofs.YtfjcciaabkjkgaaGreatDoor
namespace Go.Proofs.YtfjcciaabkjkgaaGreatDoor
namespace Ml
def stepsL (l : List Mv) : List Int := l.flatMap fun x => x.fr :: if 0 ≤ x.to then [x.to] else []
theorem steps_mem {l : List Mv} {v : Int} : v ∈ stepsL l ↔ ∃ x ∈ l, v = x.fr ∨ (0 ≤ x.to ∧ v = x.to) := by
  unfold stepsL
  rw [List.mem_flatMap]
  refine exists_congr fun x => and_congr_right fun _ => ?_
  rw [List.mem_cons]
  refine or_congr Iff.rfl ?_
  split
  · next h => rw [List.mem_singleton]; exact ⟨fun e => ⟨h, e⟩, fun e => e.2⟩
  · next h => exact ⟨fun e => absurd e (List.not_mem_nil), fun e => absurd e.1 h⟩
theorem steps_nonneg {l : List Mv} (hc : ∀ x ∈ l, check x = 0) {v : Int} (h : v ∈ stepsL l) : 0 ≤ v := by
  obtain ⟨x, hx, e⟩ := steps_mem.1 h
  have := (check_okT (hc x hx)).2
  rcases e with e | ⟨e1, e2⟩ <;> omega
def ShR (l : List Mv) (r : Int) : Prop := (r = -1 ∧ ∀ v ∈ stepsL l, LinP (cutL l v)) ∨ (r ∈ stepsL l ∧ ¬ LinP (cutL l r) ∧ ∀ v ∈ stepsL l, v < r → LinP (cutL l v))
theorem ShR.unique {l : List Mv} {a b : Int} (p : ShR l a) (q : ShR l b) : a = b := by
  rcases p with ⟨p1, p2⟩ | ⟨p1, p2, p3⟩ <;> rcases q with ⟨q1, q2⟩ | ⟨q1, q2, q3⟩
  · rw [p1, q1]
  · exact absurd (p2 b q1) q2
  · exact absurd (q2 a p1) p2
  · rcases Int.lt_trichotomy a b with e | e | e
    · exact absurd (q3 a p1 e) p2
    · exact e
    · exact absurd (p3 b q1 e) q2
theorem shR_sorted {l : List Mv} {S : List Int} (hm : ∀ v, v ∈ S ↔ v ∈ stepsL l) (hs : S.Pairwise (· ≤ ·)) {i : Nat} (hi : i < S.length) (hb : ¬ LinP (cutL l S[i])) (hf : ∀ j (hj : j < S.length), j < i → LinP (cutL l S[j])) : ShR l S[i] := by
  refine .inr ⟨(hm _).1 (List.getElem_mem hi), hb, fun v hv hlt => ?_⟩
  obtain ⟨j, hj, rfl⟩ := List.getElem_of_mem ((hm v).2 hv)
  refine hf j hj ?_
  rcases Nat.lt_or_ge j i with q | q
  · exact q
  · rcases Nat.lt_or_ge i j with q2 | q2
    · have := List.pairwise_iff_getElem.1 hs i j hi hj q2; omega
    · have : i = j := by omega
      subst this; omega
theorem shR_none {l : List Mv} {S : List Int} (hm : ∀ v, v ∈ S ↔ v ∈ stepsL l) (h : ∀ j (hj : j < S.length), LinP (cutL l S[j])) : ShR l (-1) :=
  .inl ⟨rfl, fun v hv => by obtain ⟨j, hj, rfl⟩ := List.getElem_of_mem ((hm v).2 hv); exact h j hj⟩
def Best (l : List Mv) (D : List Int) (best : Int) : Prop := (best = -1 ∧ ∀ v ∈ D, LinP (cutL l v)) ∨ (0 ≤ best ∧ best ∈ D ∧ ¬ LinP (cutL l best) ∧ ∀ v ∈ D, v < best → LinP (cutL l v))
theorem best_nil {l : List Mv} : Best l [] (-1) := .inl ⟨rfl, fun v h => by cases h⟩
theorem best_skip {l : List Mv} {D : List Int} {best v : Int} (h : Best l D best) (hv : best ≥ 0 ∧ v ≥ best) : Best l (D ++ [v]) best := by
  rcases h with ⟨h1, _⟩ | ⟨h1, h2, h3, h4⟩
  · omega
  · refine .inr ⟨h1, by simp [h2], h3, fun x hx hlt => ?_⟩
    rcases List.mem_append.1 hx with q | q
    · exact h4 x q hlt
    · have := List.mem_singleton.1 q; omega
theorem best_yes {l : List Mv} {D : List Int} {best v : Int} (h : Best l D best) (hl : LinP (cutL l v)) : Best l (D ++ [v]) best := by
  rcases h with ⟨h1, h2⟩ | ⟨h1, h2, h3, h4⟩
  · refine .inl ⟨h1, fun x hx => ?_⟩
    rcases List.mem_append.1 hx with q | q
    · exact h2 x q
    · rw [List.mem_singleton.1 q]; exact hl
  · refine .inr ⟨h1, by simp [h2], h3, fun x hx hlt => ?_⟩
    rcases List.mem_append.1 hx with q | q
    · exact h4 x q hlt
    · rw [List.mem_singleton.1 q]; exact hl
theorem best_no {l : List Mv} {D : List Int} {best v : Int} (h : Best l D best) (h0 : 0 ≤ v) (hv : best < 0 ∨ v < best) (hl : ¬ LinP (cutL l v)) : Best l (D ++ [v]) v := by
  refine .inr ⟨h0, by simp, hl, fun x hx hlt => ?_⟩
  rcases List.mem_append.1 hx with q | q
  · rcases h with ⟨_, h2⟩ | ⟨_, _, _, h4⟩
    · exact h2 x q
    · exact h4 x q (by omega)
  · have := List.mem_singleton.1 q; omega
theorem best_all {l : List Mv} {D : List Int} {best : Int} (hm : ∀ v, v ∈ D ↔ v ∈ stepsL l) (h : Best l D best) : ShR l best := by
  rcases h with ⟨h1, h2⟩ | ⟨_, h2, h3, h4⟩
  · exact .inl ⟨h1, fun v hv => h2 v ((hm v).2 hv)⟩
  · exact .inr ⟨(hm _).1 h2, h3, fun v hv => h4 v ((hm v).2 hv)⟩
end Ml
end Go.Proofs.YtfjcciaabkjkgaaGreatDoor
namespace Go.Proofs.YtfjcciaabkjkgaaGreatDoor
open Go Ml Go.Shelf Go.Sort
theorem one_I : OneCell (Value.int .i64) := fun _ => rfl
section
variable {h : Heap} {a : Option Addr} {c N : Nat} {L : List Int} {f : Value} {Q : Int → Prop}
theorem sortI_c (s : Sl eZ h a c L) (w : Own eZ.k 3 N h a c) (h0 : L ≠ []) (hl : L.length < 4611686018427387904) :
    HC Tryz.prog 34 #[.slice a L.length c] h fun v h' => v = .tuple #[] ∧ Fr (blkA a) h h' ∧ ∃ L', L'.Perm L ∧ L'.Pairwise (· ≤ ·) ∧ Sl eZ h' a c L' ∧ Own eZ.k 3 N h' a c := by
  obtain ⟨b, o, rfl, _⟩ := s.addr (List.length_pos_iff.2 h0)
  intro w0 hw
  subst hw
  have hb : b < w0.heap.size := (w.low (blkA_of rfl)).2
  have s' : Sl (eOne (Value.int .i64) one_I) w0.heap (some ⟨b, o, none⟩) c L := s
  have w' : Own 1 3 N w0.heap (some ⟨b, o, none⟩) c := w
  have hH : Holds (Value.int .i64) w0 b o L.toArray := holds1 s' w'
  refine (Any.slices_Sort_int Lay.sortI b o c L w0 hH hb hl).mono ?_
  rintro e w1 ⟨rfl, n, os, rfl⟩
  have hp := List.mergeSort_perm L (fun x y => decide (x ≤ y))
  have hsrt := List.pairwise_mergeSort (le := fun x y : Int => decide (x ≤ y)) (fun x y z h1 h2 => by simp only [decide_eq_true_eq] at *; omega) (fun x y => by simp only [Bool.or_eq_true, decide_eq_true_eq]; omega) L
  generalize hM : (L.mergeSort fun x y => decide (x ≤ y)) = M at *
  obtain ⟨f1, s1, o1, m1⟩ := heap_sort1 s' w' (d := M.toArray) (by simp [hp.length_eq]) n os
  have s2 : Sl (eOne (Value.int .i64) one_I) (sortWorld (Value.int .i64) w0 b o n M.toArray os).heap (some ⟨b, o, none⟩) c M := by simpa using s1
  exact ⟨_, rfl, m1, rfl, f1.mono fun i _ e => blkA_some.2 e, M, hp, hsrt.imp fun h => of_decide_eq_true h, s2, o1⟩
theorem idx_z (s : Sl eZ h a c L) (hl : L.length ≤ 1099511627776) (hf : ∀ h' x, Ext h h' → x ∈ L → HCV Tryz.prog f [.int .i64 x] h' fun v h2 => (∃ r : Bool, v = .bool r ∧ (r = false ↔ Q x)) ∧ Ext h' h2) :
    HC Tryz.prog 35 #[.slice a L.length c, f] h fun v h' => Ext h h' ∧ ((v = .int .i64 (-1) ∧ ∀ j (hj : j < L.length), Q L[j]) ∨ ∃ k, v = .int .i64 (k : Nat) ∧ ∃ hk : k < L.length, ¬ Q L[k] ∧ ∀ j (hj : j < L.length), j < k → Q L[j]) := by
  refine f35_sh _ _ _ _ _ _ ⟨fun i h1 => ∃ k : Nat, i = k ∧ k ≤ L.length ∧ Ext h h1 ∧ ∀ j (hj : j < L.length), j < k → Q L[j], fun i _ => L.length - i.toNat, ⟨0, rfl, Nat.zero_le _, Ext.refl _, fun j _ q => by omega⟩, ?_⟩
  rintro _ h1 ⟨k, rfl, hk, x1, hI⟩
  refine ⟨fun hlt => ?_, fun hge => ?_⟩
  · have hkl := lt_of_dec hlt
    obtain ⟨b, o, e, d⟩ := (s.ext x1).at (List.getElem?_eq_getElem hkl)
    refine ⟨b, o, e, by omega, by omega, _, d.1, (hf h1 L[k] x1 (List.getElem_mem hkl)).mono ?_⟩
    rintro _ h2 ⟨⟨r, rfl, hr⟩, x2⟩
    refine ⟨r, rfl, fun q => ⟨x1.trans x2, .inr ⟨k, rfl, hkl, fun g => ?_, hI⟩⟩, fun q => ?_⟩
    · rw [hr.2 g] at q; cases q
    · rw [wadd k (by omega)]
      refine ⟨⟨k + 1, rfl, hkl, x1.trans x2, fun j hj hjk => ?_⟩, by simp only [Int.toNat_natCast]; omega⟩
      rcases Nat.lt_or_ge j k with g | g
      · exact hI j hj g
      · have : j = k := by omega
        subst this
        exact hr.1 q
  · have hkl : k = L.length := by have := ge_of_dec hge; omega
    exact ⟨x1, .inl ⟨rfl, fun j hj => hI j hj (by omega)⟩⟩
end
namespace Ml
theorem linK_iff {l : List Mv} {ok : Bool} {k : Str} (a : LinK l ok k) : ok = true ↔ LinP l := by
  rcases a with ⟨q, _, p⟩ | ⟨q, p, _⟩
  · exact ⟨fun _ => p, fun _ => q⟩
  · exact ⟨fun r => (by rw [q] at r; cases r), fun r => absurd (r k) p⟩
theorem lin_iff {l : List Mv} {ok : Bool} {k : Str} {e : Int} (a : LinearR l ok k e) (h0 : chkL l = 0) (h24 : ∀ key, (ofN l key).length ≤ 24) : ok = true ↔ LinP l := by
  rcases a with ⟨q, _⟩ | ⟨_, ⟨key, q⟩, _⟩ | ⟨_, _, _, q2⟩
  · exact absurd h0 q
  · have := h24 key; omega
  · exact linK_iff q2
theorem lin_not {l : List Mv} {k : Str} (a : LinearR l false k 0) : chkL l = 0 ∧ (∀ key, (ofN l key).length ≤ 24) ∧ ¬ LinP l := by
  rcases a with ⟨_, _, _, q⟩ | ⟨_, _, _, _, q⟩ | ⟨q0, q1, _, q2⟩
  · cases q
  · cases q
  · exact ⟨q0, q1, fun p => by have := (linK_iff q2).2 p; cases this⟩
theorem linP_nil : LinP [] := fun k => cmp_open 0 (L := []) List.nodup_nil rfl (fun i => ⟨fun q => absurd (show i < 0 from q.1) (Nat.not_lt_zero i), fun q => by cases q⟩) (fun i q => absurd (show i < 0 from q.1) (Nat.not_lt_zero i)) stX_ne
def ShE (l : List Mv) (a b : Int) : Prop := ∃ ok k e, LinearR l ok k e ∧ ((ok = true ∧ a = -1 ∧ b = 0) ∨ (ok = false ∧ e ≠ 0 ∧ a = 0 ∧ b = e) ∨ (ok = false ∧ e = 0 ∧ b = 0 ∧ ShR l a))
theorem ShE.unique {l : List Mv} {a b a' b' : Int} (p : ShE l a b) (q : ShE l a' b') : a = a' ∧ b = b' := by
  obtain ⟨ok, k, e, p0, p1⟩ := p
  obtain ⟨ok', k', e', q0, q1⟩ := q
  obtain ⟨rfl, rfl, rfl⟩ := p0.unique q0
  rcases p1 with ⟨p1, p2, p3⟩ | ⟨p1, p2, p3, p4⟩ | ⟨p1, p2, p3, p4⟩ <;> rcases q1 with ⟨q1, q2, q3⟩ | ⟨q1, q2, q3, q4⟩ | ⟨q1, q2, q3, q4⟩
  · omega
  · rw [p1] at q1; cases q1
  · rw [p1] at q1; cases q1
  · rw [p1] at q1; cases q1
  · omega
  · exact absurd q2 p2
  · rw [p1] at q1; cases q1
  · exact absurd p2 q2
  · exact ⟨p4.unique q4, by omega⟩
def stp (l : List Mv) (i : Nat) : Int := if i % 2 = 1 then (mv l (i / 2)).to else (mv l (i / 2)).fr
def stpD (l : List Mv) (j : Nat) : List Int := ((List.range j).map (stp l)).filter fun v => decide (0 ≤ v)
theorem stpD_succ {l : List Mv} {j : Nat} : stpD l (j + 1) = stpD l j ++ if 0 ≤ stp l j then [stp l j] else [] := by
  unfold stpD
  rw [List.range_succ, List.map_append, List.filter_append]
  congr 1
  show List.filter (fun v => decide (0 ≤ v)) [stp l j] = _
  by_cases q : 0 ≤ stp l j
  · rw [if_pos q, List.filter_cons, if_pos (decide_eq_true q)]; rfl
  · rw [if_neg q, List.filter_cons, if_neg (by simpa using q)]; rfl
theorem stpD_all {l : List Mv} (hc : ∀ x ∈ l, check x = 0) (v : Int) : v ∈ stpD l (2 * l.length) ↔ v ∈ stepsL l := by
  constructor
  · intro h
    unfold stpD at h
    obtain ⟨h1, h2⟩ := List.mem_filter.1 h
    obtain ⟨i, hi, rfl⟩ := List.mem_map.1 h1
    have hi := List.mem_range.1 hi
    have hk : i / 2 < l.length := by omega
    refine steps_mem.2 ⟨mv l (i / 2), by rw [mv_at hk]; exact List.getElem_mem hk, ?_⟩
    have h2 := of_decide_eq_true h2
    unfold stp at h2 ⊢
    split
    · next q => rw [if_pos q] at h2; exact .inr ⟨h2, rfl⟩
    · exact .inl rfl
  · intro h
    have h0 := steps_nonneg hc h
    obtain ⟨x, hx, e⟩ := steps_mem.1 h
    obtain ⟨k, hk, rfl⟩ := List.getElem_of_mem hx
    unfold stpD
    refine List.mem_filter.2 ⟨List.mem_map.2 ?_, decide_eq_true h0⟩
    rcases e with e | ⟨_, e⟩
    · refine ⟨2 * k, List.mem_range.2 (by omega), ?_⟩
      unfold stp
      rw [if_neg (by omega), show 2 * k / 2 = k by omega, mv_at hk, e]
    · refine ⟨2 * k + 1, List.mem_range.2 (by omega), ?_⟩
      unfold stp
      rw [if_pos (by omega), show (2 * k + 1) / 2 = k by omega, mv_at hk, e]
theorem stepsL_len {l : List Mv} : (stepsL l).length ≤ 2 * l.length := by
  unfold stepsL
  induction l with
  | nil => simp
  | cons x l ih =>
    rw [List.flatMap_cons, List.length_append, List.length_cons, List.length_cons]
    have : (if 0 ≤ x.to then [x.to] else []).length ≤ 1 := by split <;> simp
    omega
theorem stepsL_succ {l : List Mv} {j : Nat} (hj : j < l.length) : stepsL (l.take (j + 1)) = (stepsL (l.take j) ++ [l[j].fr]) ++ if 0 ≤ l[j].to then [l[j].to] else [] := by
  unfold stepsL
  rw [List.take_add_one, List.getElem?_eq_getElem hj, List.flatMap_append, List.append_assoc]
  congr 1
  show List.flatMap _ [l[j]] = _
  rw [List.flatMap_cons, List.flatMap_nil, List.append_nil]; rfl
theorem stepsL_ne {l : List Mv} (h : l ≠ []) : stepsL l ≠ [] := by
  cases l with
  | nil => exact absurd rfl h
  | cons x l => unfold stepsL; rw [List.flatMap_cons]; simp
end Ml
section
variable {h : Heap} {la : Option Addr} {lc : Nat} {l : List Mv}
theorem cbSh : CallB Tryz.prog 36 := fun _ _ => Tryz.call36 _ _
theorem upTo_v {T : Go.Lib.PrintTabs} {h0 : Heap} {p : Nat} (t : TabsH T h0 h) (r : hcell h p 0 = some (.slice la l.length lc)) (sl : Sl eMv h la lc l) (hl : l.length ≤ 524288) (hv : ∀ m ∈ l, m.val.size ≤ 1048576) (h24 : ∀ key, (ofN l key).length ≤ 24) (n : Int) :
    HCV Tryz.prog (.func (.func 36) #[] #[ptr p 0]) [.int .i64 n] h fun v h2 => (∃ r : Bool, v = .bool r ∧ (r = false ↔ LinP (cutL l n))) ∧ Ext h h2 := by
  refine .inl ⟨_, [], [ptr p 0], rfl, cbSh, ?_⟩
  refine f36_sh _ _ _ _ _ ⟨la, _, lc, r, (cut_c sl (by omega) n).mono ?_⟩
  rintro _ h1 ⟨x1, ca, cc, rfl, sc⟩
  have hle := cutL_len (l := l) (n := n)
  refine ⟨ca, _, cc, rfl, (linear_c (Tb := TabsH T h0) (nmr_c (Nat.le_trans t.2.size x1.size) (by omega) (cutL_vals hv)) (tabs_ext x1 t) sc (by omega) (fun key => Nat.le_trans (cut_ofN key) (h24 key))).mono ?_⟩
  rintro _ h2 ⟨x2, ok, k, rfl, hk⟩
  refine ⟨ok, k, rfl, ⟨_, rfl, ?_⟩, x1.trans x2⟩
  rw [← linK_iff hk]
  cases ok <;> simp
set_option maxHeartbeats 4000000 in
theorem shortest_t {T : Go.Lib.PrintTabs} {h0 : Heap} (t : TabsH T h0 h) (sl : Sl eMv h la lc l) (hl : l.length ≤ 524288) (hv : ∀ m ∈ l, m.val.size ≤ 1048576) :
    HC Tryz.prog 21 #[.slice la l.length lc] h fun v h' => Ext h h' ∧ ∃ a b, v = .tuple #[.int .i64 a, .int .i64 b] ∧ ShE l a b := by
  refine f21_sh _ _ _ _ _ fun p h1 ep eh1 => ?_
  have x1 : Ext h h1 := by rw [eh1]; exact Ext.push _ _
  have r1 : h1[p]? = some (.cells #[.slice la l.length lc] 22 (0, 0)) := by rw [eh1]; exact push_new ep
  refine ⟨la, _, lc, by rw [hcell_row r1]; rfl, (Linear_t (tabs_ext x1 t) (sl.ext x1) hl hv).mono ?_⟩
  rintro _ h2 ⟨x2, ok, k, e, rfl, hR⟩
  have x02 := x1.trans x2
  refine ⟨ok, k, e, rfl, fun g => ⟨fun g2 => ⟨x02, _, _, rfl, ok, k, e, hR, .inl ⟨g2, rfl, rfl⟩⟩, fun g2 => ⟨x02, _, _, rfl, ok, k, e, hR, .inr (.inl ⟨g2, ?_, rfl, rfl⟩)⟩⟩, fun g => ?_⟩
  · rw [g2, Bool.or_false] at g
    simpa using g
  rw [Bool.or_eq_false_iff] at g
  obtain ⟨g1, rfl⟩ := g
  have g1 : e = 0 := by simpa using g1
  subst g1
  obtain ⟨hc0, h24, hnP⟩ := lin_not hR
  have hne : l ≠ [] := fun q => by subst q; exact hnP linP_nil
  have done : ∀ {r : Int}, ShR l r → ShE l r 0 := fun q => ⟨false, k, 0, hR, .inr (.inr ⟨rfl, rfl, rfl, q⟩)⟩
  refine ⟨la, _, lc, by rw [hcell_row (x2.row r1)]; rfl, fun a n c v hh => ∃ j : Nat, v = j ∧ j ≤ l.length ∧ n = (stepsL (l.take j)).length ∧ Ext h2 hh ∧ Sl eZ hh a c (stepsL (l.take j)) ∧ Own eZ.k 3 h2.size hh a c, fun _ _ _ v _ => l.length - v.toNat, ⟨0, rfl, Nat.zero_le _, rfl, Ext.refl _, Sl.nil _ _, Own.nil _ _ _ _⟩, ?_⟩
  rintro a _ c _ h3 ⟨j, rfl, hj, rfl, x3, s3, w3⟩
  have hJ := stepsL_len (l := l.take j)
  rw [List.length_take] at hJ
  refine ⟨fun hlt => ?_, fun hge => ?_⟩
  · have hjl := lt_of_dec hlt
    obtain ⟨lb, lo, ela, dl⟩ := (sl.ext (x02.trans x3)).at (List.getElem?_eq_getElem hjl)
    refine ⟨fun a n c hh => n = (stepsL (l.take (j + 1))).length ∧ Ext h2 hh ∧ Sl eZ hh a c (stepsL (l.take (j + 1))) ∧ Own eZ.k 3 h2.size hh a c, ⟨lb, lo, ela, by omega, by omega, _, _, _, _, _, _, _, _, dl.1, dl.2.1, dl.2.2.1, dl.2.2.2.1, dl.2.2.2.2.1, dl.2.2.2.2.2.1, dl.2.2.2.2.2.2.1, dl.2.2.2.2.2.2.2.1, fun m h6 m1 m2 x6 nb h7 e7 eh7 => ?_⟩, ?_⟩
    · have x7 : Ext h6 h7 := by rw [eh7]; exact Ext.push _ _
      refine app_one (x := l[j].fr) aZ e7 eh7 rfl (x3.trans x6) (s3.ext x6) (w3.ext x6) rfl (by omega) fun a8 c8 h8 x8 f8 s8 w8 _ => ⟨fun b hm hb => ?_, a8, _, c8, rfl, fun g nb1 h9 e9 eh9 => ?_, fun g => ?_⟩
      · have hbm : b = m := by simpa using hm
        subst hbm
        rw [f8.block _ m2 fun q => (by have := (w3.low q).2; omega), x7.block _ m2]
      · have g : 0 ≤ l[j].to := of_decide_eq_true g
        have e := stepsL_succ hjl
        rw [if_pos g] at e
        refine app_one (x := l[j].to) aZ e9 eh9 rfl x8 s8 w8 (by simp) (by omega) fun a10 c10 h10 x10 f10 s10 w10 _ => ⟨a10, _, c10, rfl, ?_⟩
        rw [← e] at s10
        exact ⟨by rw [e]; simp, x10, s10, w10⟩
      · have g := of_decide_eq_false g
        have e := stepsL_succ hjl
        rw [if_neg (by omega), List.append_nil] at e
        rw [← e] at s8
        exact ⟨by rw [e]; simp, x8, s8, w8⟩
    · rintro a4 _ c4 h4 ⟨rfl, x4, s4, w4⟩
      rw [wadd j (by omega)]
      exact ⟨⟨j + 1, rfl, hjl, rfl, x4, s4, w4⟩, by simp only [Int.toNat_natCast]; omega⟩
  have hjl : j = l.length := by have := ge_of_dec hge; omega
  subst hjl
  rw [List.take_length] at s3 ⊢
  have hS := stepsL_len (l := l)
  refine (sortI_c s3 w3 (stepsL_ne hne) (by omega)).mono ?_
  rintro _ h11 ⟨rfl, f11, S, pS, qS, s11, w11⟩
  have x11 : Ext h2 h11 := w3.grown x3 f11
  have eS : (stepsL l).length = S.length := pS.length_eq.symm
  have r11 := x11.row (x2.row r1)
  have mS : ∀ v, v ∈ S ↔ v ∈ stepsL l := fun v => pS.mem_iff
  rw [eS]
  refine ⟨rfl, (idx_z (Q := fun v => LinP (cutL l v)) s11 (by omega) fun h' x x' _ => upTo_v (tabs_ext ((x02.trans x11).trans x') t) (by rw [hcell_row (x'.row r11)]; rfl) (sl.ext ((x02.trans x11).trans x')) hl hv h24 x).mono ?_⟩
  rintro _ h12 ⟨x12, ⟨rfl, hA⟩ | ⟨i, rfl, hi, hB, hF⟩⟩
  · exact ⟨_, rfl, fun _ => ⟨(x02.trans x11).trans x12, _, _, rfl, done (shR_none mS hA)⟩, fun g => by simp at g⟩
  · obtain ⟨b, o, ea, d⟩ := (s11.ext x12).at (List.getElem?_eq_getElem hi)
    exact ⟨_, rfl, fun g => (by have := of_decide_eq_true g; omega), fun _ => ⟨b, o, ea, by omega, by omega, _, d.1, (x02.trans x11).trans x12, _, _, rfl, done (shR_sorted mS qS hi hB hF)⟩⟩
set_option maxHeartbeats 4000000 in
theorem rshortest_c (sl : Sl eMv h la lc l) (hl : l.length ≤ 1048576) :
    HC Tryz.prog 22 #[.slice la l.length lc] h fun v h' => Ext h h' ∧ ∃ a b, v = .tuple #[.int .i64 a, .int .i64 b] ∧ ShE l a b := by
  refine f22_sh _ _ _ _ _ ((rlinear_c sl hl).mono ?_)
  rintro _ h1 ⟨x1, ok, k, e, rfl, hR⟩
  refine ⟨ok, k, e, rfl, fun g => ⟨x1, _, _, rfl, ok, k, e, hR, ?_⟩, fun g => ⟨fun g2 => ⟨x1, _, _, rfl, ok, k, e, hR, .inl ⟨g2, rfl, rfl⟩⟩, fun g2 => ?_⟩⟩
  · have g : e ≠ 0 := by simpa using g
    refine .inr (.inl ⟨?_, g, rfl, rfl⟩)
    rcases hR with ⟨_, q, _⟩ | ⟨_, _, q, _⟩ | ⟨_, _, q, _⟩
    · exact q
    · exact q
    · exact absurd q g
  have g : e = 0 := by simpa using g
  subst g
  subst g2
  obtain ⟨hc0, h24, _⟩ := lin_not hR
  have e3 : IntKind.i64.wrap (2 * (l.length : Int)) = ((2 * l.length : Nat) : Int) := by rw [w64 (by omega) (by omega)]; omega
  rw [e3]
  refine ⟨fun best i hh => ∃ j : Nat, i = j ∧ j ≤ 2 * l.length ∧ Ext h hh ∧ Best l (stpD l j) best, fun _ i _ => 2 * l.length - i.toNat, ⟨0, rfl, Nat.zero_le _, x1, best_nil⟩, ?_⟩
  rintro best _ h2 ⟨j, rfl, hj, x2, hB⟩
  refine ⟨fun hlt => ?_, fun hge => ?_⟩
  · have hjl := lt_of_dec hlt
    have hk : j / 2 < l.length := by omega
    have e1 : IntKind.i64.wrap (Int.tdiv (j : Int) 2) = ((j / 2 : Nat) : Int) := by
      rw [show Int.tdiv (j : Int) 2 = ((j / 2 : Nat) : Int) from rfl, w64 (by omega) (by omega)]
    have e2 : Int.tmod (j : Int) 2 = ((j % 2 : Nat) : Int) := rfl
    rw [e1, e2]
    obtain ⟨lb, lo, ela, dl⟩ := (sl.ext x2).at (List.getElem?_eq_getElem hk)
    have em : mv l (j / 2) = l[j / 2] := mv_at hk
    refine ⟨fun b hh => Ext h hh ∧ Best l (stpD l (j + 1)) b, ⟨lb, lo, ela, by omega, by omega, _, dl.2.2.2.2.2.2.1, stp l j, ⟨fun g => ⟨_, dl.2.2.2.2.2.2.2.1, ?_⟩, fun g => ?_⟩, fun g => ⟨x2, ?_⟩, fun g => ?_⟩, ?_⟩
    · have g := eq_of_beq g
      unfold stp
      rw [if_pos (by omega), em]
    · have g : ((j % 2 : Nat) : Int) ≠ 1 := by simpa using g
      unfold stp
      rw [if_neg (by omega), em]
    · rw [stpD_succ]
      by_cases q : 0 ≤ stp l j
      · rw [if_pos q]
        have g : best ≥ 0 ∧ stp l j ≥ best := by
          rw [decide_eq_false (by omega), Bool.false_or, Bool.and_eq_true] at g
          exact ⟨of_decide_eq_true g.1, of_decide_eq_true g.2⟩
        exact best_skip hB g
      · rw [if_neg q, List.append_nil]; exact hB
    · rw [Bool.or_eq_false_iff] at g
      have q : 0 ≤ stp l j := by have := of_decide_eq_false g.1; omega
      have q2 : best < 0 ∨ stp l j < best := by
        rcases Bool.and_eq_false_iff.1 g.2 with r | r
        · have := of_decide_eq_false r; omega
        · have := of_decide_eq_false r; omega
      have sl2 : Sl eMv h2 (some ⟨lb, lo, none⟩) lc l := by rw [← ela]; exact sl.ext x2
      refine (rcut_c sl2 hl hc0 (stp l j)).mono ?_
      rintro _ h4 ⟨x4, ca, cc, rfl, sc⟩
      refine ⟨ca, _, cc, rfl, (rlinear_c sc (Nat.le_trans cutL_len hl)).mono ?_⟩
      rintro _ h5 ⟨x5, ok5, k5, e5, rfl, hR5⟩
      have hi := lin_iff hR5 (cutL_chk hc0) (fun key => Nat.le_trans (cut_ofN key) (h24 key))
      refine ⟨ok5, k5, e5, rfl, fun r => ⟨(x2.trans x4).trans x5, ?_⟩, fun r => ⟨(x2.trans x4).trans x5, ?_⟩⟩
      · rw [stpD_succ, if_pos q]
        exact best_no hB q q2 fun p => by rw [hi.2 p] at r; cases r
      · rw [stpD_succ, if_pos q]
        exact best_yes hB (hi.1 (by simpa using r))
    · rintro b3 h3 ⟨x3, hB3⟩
      rw [wadd j (by omega)]
      exact ⟨⟨j + 1, rfl, hjl, x3, hB3⟩, by simp only [Int.toNat_natCast]; omega⟩
  · have hjl : j = 2 * l.length := by have := ge_of_dec hge; omega
    subst hjl
    exact ⟨x2, _, _, rfl, false, k, 0, hR, .inr (.inr ⟨rfl, rfl, rfl, best_all (stpD_all (chk_all hc0)) hB⟩)⟩
theorem law_linear {T : Go.Lib.PrintTabs} (t : TabsH T h h) (sl : Sl eMv h la lc l) (hl : l.length ≤ 524288) (hv : ∀ m ∈ l, m.val.size ≤ 1048576) :
    HC Tryz.prog 7 #[.slice la l.length lc] h fun v h' => v = .bool true ∧ Ext h h' := by
  refine f7_sh _ _ _ _ _ ((lives_t t).mono ?_)
  rintro _ h1 ⟨rfl, x1⟩
  refine ⟨true, rfl, fun q => (by cases q), fun _ => (Linear_t (tabs_ext x1 t) (sl.ext x1) hl hv).mono ?_⟩
  rintro _ h2 ⟨x2, ok, k, e, rfl, hR⟩
  have x02 := x1.trans x2
  refine ⟨ok, k, e, rfl, (rlinear_c (sl.ext x02) (by omega)).mono ?_⟩
  rintro _ h3 ⟨x3, ok', k', e', rfl, hR'⟩
  obtain ⟨rfl, rfl, rfl⟩ := hR'.unique hR
  have x03 := x02.trans x3
  refine ⟨ok', k', e', rfl, fun g => by simp at g, fun _ => (shortest_t (tabs_ext x03 t) (sl.ext x03) hl hv).mono ?_⟩
  rintro _ h4 ⟨x4, a, b, rfl, hS⟩
  have x04 := x03.trans x4
  refine ⟨a, b, rfl, (rshortest_c (sl.ext x04) (by omega)).mono ?_⟩
  rintro _ h5 ⟨x5, a', b', rfl, hS'⟩
  obtain ⟨rfl, rfl⟩ := hS'.unique hS
  exact ⟨a', b', rfl, by simp, x04.trans x5⟩
end
end Go.Proofs.YtfjcciaabkjkgaaGreatDoor
