/-
The document's index: purged, new, forked.
-/
import Derived.Test.YtkecmljalcfhoaaRC
namespace Go.Proofs.Ytkecmljalcfhoaa
namespace Ix
open Go RH

section
variable {W : Nat → Prop} {h : Heap} {r ab ao ac m : Nat} {Rs : List Rb}

set_option maxHeartbeats 8000000 in
theorem purge_r (I : Ref W h r ab ao ac m Rs) (n q : Int) (hq : q ≤ 9223372036854775807) : HC Try.prog 41 #[ptr r 0, .int .i64 n, .int .i64 q] h fun z h' =>
    z = .int .i64 ((mPurge (ent (Rs.map Rb.L) n) q).1 : Int) ∧ AftR W h r m (if 0 ≤ n ∧ n < Rs.length then (Rs.map Rb.L).set n.toNat (mPurge (ent (Rs.map Rb.L) n) q).2 else Rs.map Rb.L) h' := by
  by_cases hin : 0 ≤ n ∧ n < Rs.length
  · obtain ⟨t, ht, hm, he⟩ := I.in_ hin.1 hin.2
    have hs := (I.ok t hm).2.2.1
    have hwf := (I.ok t hm).2.2.2.2
    have h8 := (I.ok t hm).2.2.2.1
    have hsm := I.small hm
    rw [he, if_pos hin]
    by_cases hq0 : q < 0
    · have e1 : mPurge t.L q = (0, t.L) := by
        have hg : ∀ e, gone q e = false := fun e => by unfold gone; exact decide_eq_false (by omega)
        unfold mPurge
        rw [List.filter_eq_nil_iff.2 fun e _ => by rw [hg e]; simp, List.filter_eq_self.2 fun e _ => by rw [hg e]; rfl]; rfl
      rw [e1]
      refine f41_sh _ _ _ _ _ _ ⟨true, ⟨fun _ => rfl, fun g => ⟨_, _, _, I.c1, fun _ => rfl, fun _ => (decide_eq_true hq0).symm⟩⟩, fun _ => ⟨rfl, ?_⟩, fun g => (by cases g)⟩
      rw [map_sameR ht]; exact AftR.ofExt I (Ext.refl _)
    refine f41_sh _ _ _ _ _ _ ⟨false, ⟨fun g => by have := of_decide_eq_true g; omega, fun _ => ⟨_, _, _, I.c1, fun g => by have := of_decide_eq_true g; omega, fun _ => (decide_eq_false hq0).symm⟩⟩, fun g => (by cases g), fun _ => ⟨_, _, _, I.c1, ab, ao, rfl, by omega, by omega, _, _, _, I.cs ht, ?_⟩⟩
    refine ⟨fun left left_n left_c cnt v h1 => ∃ k : Nat, v = k ∧ k ≤ t.L.length ∧ cnt = (((t.L.take k).filter (gone q)).length : Int) ∧ left_n = ((t.L.take k).filter fun e => !gone q e).length ∧ Ext h h1 ∧ Sl eEnt h1 left left_c ((t.L.take k).filter fun e => !gone q e) ∧ Own eEnt.k 31 h.size h1 left left_c,
      fun _ _ _ _ v _ => t.L.length - v.toNat, ⟨0, rfl, Nat.zero_le _, by simp, by simp, Ext.refl _, by simpa using Sl.nil eEnt h, Own.nil _ _ _ _⟩, ?_⟩
    rintro left _ left_c _ _ h1 ⟨k, rfl, hk, rfl, rfl, x1, s1, w1⟩
    have I1 := I.ext x1
    have hcnt : ∀ p : Ent → Bool, ((t.L.take k).filter p).length ≤ k := fun p => Nat.le_trans (List.length_filter_le _ _) (by rw [List.length_take]; omega)
    have c1' := hcnt (gone q)
    have c2' := hcnt fun e => !gone q e
    refine ⟨fun hlt => ?_, fun hge => ?_⟩
    · have hkl := lt_of_dec hlt
      obtain ⟨b, o, eta, d0, d1, d2, d3⟩ := I1.at hm hkl
      have hg : ((Int.fdiv ((t.L[k]).a : Int) (2 ^ min (Int.toNat 48) 64)) == IntKind.u64.wrap q) = gone q t.L[k] := by
        rw [fdiv48, wu64 (by omega) (by omega)]
        unfold gone
        rw [Bool.eq_iff_iff]
        simp only [beq_iff_eq, decide_eq_true_eq]
        omega
      refine ⟨fun left left_n left_c cnt h2 => cnt = (((t.L.take (k + 1)).filter (gone q)).length : Int) ∧ left_n = ((t.L.take (k + 1)).filter fun e => !gone q e).length ∧ Ext h h2 ∧ Sl eEnt h2 left left_c ((t.L.take (k + 1)).filter fun e => !gone q e) ∧ Own eEnt.k 31 h.size h2 left left_c, ⟨b, o, eta, by omega, by omega, _, _, _, _, d0, d1, d2, d3, fun g h4 x4 => ?_, fun g h4 x4 nb h5 en eh => ?_⟩, ?_⟩
      · rw [hg] at g
        rw [wadd _ (by omega)]
        have f1 : (t.L.take (k + 1)).filter (gone q) = (t.L.take k).filter (gone q) ++ [t.L[k]] := by rw [fil_take hkl, g]; rfl
        have f2 : ((t.L.take (k + 1)).filter fun e => !gone q e) = (t.L.take k).filter fun e => !gone q e := by rw [fil_take hkl, g]; simp
        rw [f1, f2]
        exact ⟨by simp, rfl, x1.trans x4, s1.ext x4, w1.ext x4⟩
      · rw [hg] at g
        have f1 : (t.L.take (k + 1)).filter (gone q) = (t.L.take k).filter (gone q) := by rw [fil_take hkl, g]; simp
        have f2 : ((t.L.take (k + 1)).filter fun e => !gone q e) = ((t.L.take k).filter fun e => !gone q e) ++ [t.L[k]] := by rw [fil_take hkl, g]; rfl
        rw [f1, f2]
        refine app_one (x := t.L[k]) aEnt en eh rfl (x1.trans x4) (s1.ext x4) (w1.ext x4) rfl (by omega) ?_
        intro a' c' h6 x6 _ s6 w6 _
        exact ⟨_, _, _, rfl, rfl, by simp, x6, s6, w6⟩
      · rintro l2 n2 c2 cnt h2 ⟨rfl, rfl, x2, s2, w2⟩
        rw [wadd k (by omega)]
        exact ⟨⟨k + 1, rfl, hkl, rfl, rfl, x2, s2, w2⟩, by simp only [Int.toNat_natCast]; omega⟩
    · have hkl : k = t.L.length := by have := ge_of_dec hge; omega
      subst hkl
      rw [List.take_length] at s1 ⊢
      have hfl : (t.L.filter fun e => !gone q e).length ≤ t.L.length := List.length_filter_le _ _
      obtain ⟨o1, o2⟩ := I.other (h6 := hset h1 ab (ao + n.toNat * 1) (.slice left (t.L.filter fun e => !gone q e).length left_c)) ht x1 rfl s1 w1 (hs.filter _) (by omega) fun y hy => hwf y (List.mem_filter.1 hy).1
      refine ⟨_, _, _, I1.c1, ab, ao, rfl, by omega, by omega, o1, ?_⟩
      rintro h7 rfl
      obtain ⟨f7, I7⟩ := o2 rfl
      refine ⟨rfl, AftR.mk' I.lt ((x1.fr _).trans f7 fun b' _ g => by rw [g]; exact I.wr.2.1) I7 (fun b' g => ?_) (Fr.refl (fun _ => False) _) (fun _ g => g.elim) map_putR⟩
      rcases g with g | g
      · exact .inl g
      · exact .inr (w1.low g).1
  · rw [if_neg hin, ent_out (by rw [List.length_map]; omega)]
    refine f41_sh _ _ _ _ _ _ ⟨true, ⟨fun _ => rfl, fun g => ⟨_, _, _, I.c1, fun _ => rfl, fun g2 => ?_⟩⟩, fun _ => ⟨rfl, AftR.ofExt I (Ext.refl _)⟩, fun g => (by cases g)⟩
    have := of_decide_eq_false g
    have := of_decide_eq_false g2
    omega
end
end Ix
end Go.Proofs.Ytkecmljalcfhoaa
