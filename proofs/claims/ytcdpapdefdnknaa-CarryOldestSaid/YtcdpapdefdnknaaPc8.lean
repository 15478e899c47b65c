import Derived.WalkKit
import Derived.ProofKit
import Derived.OpenShut
import Derived.ShutString
import Derived.ChangeOld
import Derived.Below
import Derived.Carry
import Derived.Deep.Slices
import Derived.Deep.Fields
import Derived.Test.YtcdpapdefdnknaaRows
import Derived.Test.YtcdpapdefdnknaaPc1
import Derived.Test.YtcdpapdefdnknaaPc7
namespace Go.Proofs.Ytcdpapdefdnknaa
namespace Cy
open Go
theorem isT_len {F : ByteArray → Bool} {X D : List Rc} (t : IsT F X D) (hv : ∀ r ∈ X, 0 ≤ r.ver) : D.length ≤ X.length := by
  rw [t.eq (isT_live hv)]
  exact Nat.le_trans (live_len _) (tl_len _ _)
theorem but_split {L : List Sf} {n : Nat} (hn : n < L.length) : (allR (but L n)).length + (L[n]'hn).recs.length = (allR L).length := by
  have e : L = L.take n ++ L[n] :: L.drop (n + 1) := (List.take_append_drop n L).symm.trans (by rw [List.drop_eq_getElem_cons hn])
  have : (allR L).length = (allR (L.take n ++ L[n] :: L.drop (n + 1))).length := congrArg (fun x => (allR x).length) e
  rw [this]
  unfold allR but
  simp only [List.flatMap_append, List.flatMap_cons, List.length_append]
  omega
theorem Rec.nil {L : List Sf} {at_ bits hashes e : Int} {Y : List Sf} (r : Rec L at_ bits hashes e Y) (he : e ≠ 0) : Y = [] := by
  rcases r with ⟨_, _, q⟩ | ⟨_, _, _, q⟩ | ⟨_, _, _, _, q⟩ | ⟨_, _, _, D, _, r⟩
  · exact q
  · exact q
  · exact q
  · rcases r with ⟨_, q, _⟩ | ⟨_, _, _, q⟩ | ⟨_, _, q, _⟩
    · exact absurd q he
    · exact q
    · exact absurd q he
theorem Rec.bd {L : List Sf} {at_ bits hashes e : Int} {Y : List Sf} (r : Rec L at_ bits hashes e Y) (hb : Bd L) (hw : Wf L) : Bd Y ∧ Wf Y ∧ (allR Y).length ≤ (allR L).length ∧ (e = 0 → Y.length ≤ L.length ∧ L.length ≤ Y.length + 1) := by
  by_cases he : e = 0
  · obtain ⟨g, gY, hr, F, D, hlow, hD, hY, hc⟩ := r.good he
    have hnl : at_.toNat < L.length := by omega
    have hgl : getS L at_ = L[at_.toNat] := by
      have := getS_get hr.1 hr.2
      rw [List.getElem?_eq_getElem hnl] at this
      exact (Option.some.inj this).symm
    have hm := getS_mem hr.1 hr.2
    have hv : ∀ r ∈ (getS L at_).recs, 0 ≤ r.ver := fun r hr => (hw.ver _ hm r hr).1
    have hDl := isT_len hD hv
    have hsp := but_split hnl
    have hbl : (but L at_.toNat).length + 1 = L.length := by
      unfold but; rw [List.length_append, List.length_take, List.length_drop]; omega
    have hb1 := hb.len
    have hbut : Bd (but L at_.toNat) := ⟨by omega, fun S hS => hb.recs S (but_mem hS)⟩
    have wbut : Wf (but L at_.toNat) := ⟨fun S hS => hw.seq S (but_mem hS), fun S hS => hw.ver S (but_mem hS)⟩
    rcases hc with ⟨rfl, rfl⟩ | ⟨rfl, hM⟩
    · exact ⟨hbut, wbut, by omega, fun _ => ⟨by omega, by omega⟩⟩
    · have c2 : ∀ S, S ∈ but L at_.toNat ++ [⟨mostS L + 1, D⟩] → S ∈ but L at_.toNat ∨ S = ⟨mostS L + 1, D⟩ := fun S h => by simpa using h
      refine ⟨⟨by rw [List.length_append]; simp; omega, fun S hS => ?_⟩, ⟨fun S hS => ?_, fun S hS x hx => ?_⟩, ?_, fun _ => ⟨by rw [List.length_append]; simp; omega, by rw [List.length_append]; simp; omega⟩⟩
      · rcases c2 S hS with q | rfl
        · exact hbut.recs S q
        · have := hb.recs _ hm
          show D.length * 48 ≤ _; omega
      · rcases c2 S hS with q | rfl
        · exact wbut.seq S q
        · have h1 := mostS_nn L
          have h2 : mostS L < 18446744073709551616 := mostS_lt (by decide) fun S hS => (hw.seq S hS).2
          exact ⟨by show 0 ≤ mostS L + 1; omega, by show mostS L + 1 < _; omega⟩
      · rcases c2 S hS with q | rfl
        · exact wbut.ver S q x hx
        · obtain ⟨_, _, _, _, e5⟩ := (hD.mem x).1 hx
          rw [e5]
          exact ⟨mxv_nn _ _, mxv_lt (by decide) fun r hr => (hw.ver _ hm r hr).2⟩
      · rw [hgl] at hDl
        unfold allR at hsp ⊢
        rw [List.flatMap_append, List.length_append]
        simp only [List.flatMap_cons, List.flatMap_nil, List.append_nil]
        omega
  · have := r.nil he
    subst this
    exact ⟨⟨by decide, fun S hS => (by simp at hS)⟩, ⟨fun S hS => (by simp at hS), fun S hS => (by simp at hS)⟩, by simp [allR], fun q => absurd q he⟩
section
variable {h : Heap} {a b : Option Addr} {c d : Nat} {L : List Sf}
theorem lives_c (h : Heap) : HC Try.prog 9 #[] h fun v h' => v = .bool true ∧ Ext h h' := by
  refine f9_sh _ _ ((two_c h).mono ?_)
  rintro _ h1 ⟨x1, ta, tc, rfl, s1⟩
  refine ⟨x1, ta, _, tc, rfl, (reclaim_m s1 two_bd two_wf 1 64 2).mono ?_⟩
  rintro _ h2 ⟨x2, e, Y, ya, yc, hR, rfl, oY⟩
  obtain ⟨rfl, D, rfl, t, ht, t1, t2, t3⟩ := rec_two hR
  obtain ⟨bdY, wfY, lnY, _⟩ := hR.bd two_bd two_wf
  refine ⟨x2, ya, _, yc, 0, rfl, fun j hh => j = true ∧ Ext h hh, (two_c h2).mono ?_, fun j h3 ⟨q1, q2⟩ => ⟨by rw [q1], q2⟩⟩
  rintro _ h4 ⟨x4, ua, uc, rfl, s4⟩
  refine ⟨x4, ua, _, uc, rfl, (told_c s4 two_bd (by decide)).mono ?_⟩
  rintro _ h5 ⟨x5, Lo, va, vc, hO, rfl, s5⟩
  rw [told_two hO] at s5 ⊢
  refine ⟨x5, va, _, vc, rfl, fun nb h6 en e6 => ?_⟩
  have x6 : Ext h5 h6 := by rw [e6]; exact Ext.push _ _
  have r6 : h6[nb]? = some (.cells (([rB] : List Rc).flatMap ePr.enc).toArray tPa (0, 0)) := by rw [e6]; exact push_new en
  have x26 := x4.trans (x5.trans x6)
  refine ⟨true, (pairs_same (s5.ext x6) (Sl.lit r6) (by decide)).mono ?_, fun _ => ⟨fun _ => ⟨fun _ => ?_, fun e => (by simp at e)⟩, fun e => (by simp at e)⟩, fun e => (by cases e)⟩
  · rintro _ _ ⟨⟨r, rfl, hr⟩, rfl⟩
    rw [hr rfl]; exact ⟨rfl, rfl⟩
  have sY := oY.shs.ext x26
  obtain ⟨yb, yo, ra, rc, rfl, c1, c2, sr⟩ := sY.at_ (i := 1) (by decide) (by simp)
  refine ⟨yb, yo, rfl, by decide, by simp, _, c1, fun _ => (told_c sY bdY ?_).mono ?_, fun e => absurd e (by simp [getS])⟩
  · have : (allR twoL).length = 2 := by decide
    omega
  rintro _ h7 ⟨x7, Lo', wa, wc, hO', rfl, s7⟩
  refine ⟨x7, wa, _, wc, rfl, ?_, x1.trans (x2.trans (x26.trans x7))⟩
  have hgY := (hR.good rfl).2.1
  have : toldL (liveL (recsIn [⟨1, [rA]⟩, ⟨3, D⟩] Lo')) = [] := by
    refine List.eq_nil_iff_forall_not_mem.2 fun x hx => ?_
    rw [told_iff (hgY.flat hO'), newP_congr (fun r => recsIn_mem hO')] at hx
    obtain ⟨q1, q2, q3⟩ := hx
    have hm : ∀ r, r ∈ allR [⟨1, [rA]⟩, ⟨3, D⟩] ↔ r = rA ∨ r ∈ D := fun r => by simp [allR]
    rcases (hm x).1 q1 with rfl | q
    · rcases q3 t ((hm t).2 (.inr ht)) t1 with q | q
      · rw [q] at t3; exact absurd t3 (by decide)
      · have : rA.ver = 1 := rfl
        omega
    · obtain ⟨F, D', hD⟩ : ∃ F D', IsT F [rB] D' ∧ D' = D := by
        obtain ⟨_, _, _, F, D', _, hD, _, hc⟩ := hR.good rfl
        refine ⟨F, D', hD, ?_⟩
        rcases hc with ⟨_, q⟩ | ⟨q, _⟩
        · exact absurd (congrArg List.length q) (by simp [but, twoL])
        · have : but twoL (Int.toNat 1) ++ [⟨mostS twoL + 1, D'⟩] = [⟨1, [rA]⟩, ⟨3, D'⟩] := by
            rw [show mostS twoL = 2 by decide]; rfl
          rw [this] at q
          simp only [List.cons.injEq, Sf.mk.injEq, true_and, and_true] at q
          exact q.symm
      obtain ⟨hT, rfl⟩ := hD
      have := ((hT.mem x).1 q).1
      omega
  rw [this]; rfl
theorem law_checks (s : Shs h a c L) (hb : Bd L) (hw : Wf L) : HC Try.prog 3 #[.slice a L.length c] h fun v h' => v = .bool true ∧ Ext h h' := by
  refine f3_sh _ _ _ _ _ ((copied_c s hb).mono ?_)
  rintro _ h1 ⟨x1, oa, oc, rfl, o1⟩
  refine ⟨x1, oa, _, oc, rfl, fun j hh => j = true ∧ Ext h hh, (lives_c h1).mono ?_, fun j h3 ⟨q1, q2⟩ => ⟨by rw [q1], q2⟩⟩
  rintro _ h3 ⟨rfl, x3⟩
  refine ⟨x3, true, rfl, fun _ => (check_m (o1.shs.ext x3) hb hw).mono ?_, fun e => (by cases e)⟩
  rintro _ h4 ⟨rfl, x4⟩
  have x14 := x1.trans (x3.trans x4)
  refine ⟨x4, _, rfl, (check_r (s.ext x14) hb).mono ?_⟩
  rintro _ h5 ⟨rfl, x5⟩
  exact ⟨x5, _, rfl, fun _ => ⟨true, shelves_same (o1.shs.ext (x3.trans (x4.trans x5))) (s.ext (x14.trans x5)) hb, rfl, x14.trans x5⟩, fun e => by simp at e⟩
set_option maxHeartbeats 1600000 in
theorem law_reclaims (s : Shs h a c L) (hb : Bd L) (hw : Wf L) (at_ bits hashes : Int) : HC Try.prog 4 #[.slice a L.length c, .int .i64 at_, .int .i64 bits, .int .i64 hashes] h fun v h' => v = .bool true ∧ Ext h h' := by
  refine f4_sh _ _ _ _ _ _ _ _ ((lives_c h).mono ?_)
  rintro _ h1 ⟨rfl, x1⟩
  refine ⟨x1, true, rfl, fun e => (by simp at e), fun _ => (copied_c (s.ext x1) hb).mono ?_⟩
  rintro _ h2 ⟨x2, oa, oc, rfl, o2⟩
  refine ⟨x2, oa, _, oc, rfl, (reclaim_m o2.shs hb hw at_ bits hashes).mono ?_⟩
  rintro _ h3 ⟨x3, e, Y, ya, yc, hR, rfl, oY⟩
  have x13 := x1.trans (x2.trans x3)
  refine ⟨x3, ya, _, yc, e, rfl, (reclaim_r (s.ext x13) hb hw at_ bits hashes).mono ?_⟩
  rintro _ h4 ⟨x4, e', Y', za, zc, hR', rfl, oZ⟩
  obtain ⟨rfl, rfl⟩ := hR.eq hR'
  obtain ⟨bdY, _, _, _⟩ := hR.bd hb hw
  have x24 := x3.trans x4
  have x04 := x13.trans x4
  refine ⟨x4, za, _, zc, e, rfl, false, ⟨fun q => (by simp at q), fun _ => ⟨true, shelves_same (oY.shs.ext x4) oZ.shs bdY, fun q => (by simp at q), fun _ => ⟨true, shelves_same (o2.shs.ext x24) (s.ext x04) hb, rfl⟩⟩⟩, fun q => (by cases q), fun _ => ?_⟩
  obtain ⟨K, oK⟩ := oY.ext x4
  have hKl := oK.len
  have hbY := bdY.len
  have hrn : ∀ x ∈ K, x.rn ≤ x.rc ∧ x.rn * 48 ≤ 140737488351232 ∧ Own eRc.k tRc h2.size h4 x.ra x.rc := fun x hx => by
    obtain ⟨i, hi⟩ := List.mem_iff_getElem?.1 hx
    have hiK := (List.getElem?_eq_some_iff.1 hi).1
    have hS : Y[i]? = some (Y[i]'(by omega)) := List.getElem?_eq_getElem (by omega)
    obtain ⟨ra, rc, e1, q1, q2⟩ := oK.recs_ i x _ hi hS
    subst e1
    exact ⟨q1.le, bdY.recs _ (List.getElem_mem _), q2⟩
  let W : Heap → Prop := fun hh => Sl eKw hh ya yc K ∧ Own eKw.k tSf h2.size hh ya yc ∧ (∀ x ∈ K, Own eRc.k tRc h2.size hh x.ra x.rc) ∧ Ext h2 hh
  refine ⟨fun v hh => ∃ k : Nat, v = k ∧ k ≤ Y.length ∧ W hh, fun v _ => Y.length - v.toNat, ⟨0, rfl, Nat.zero_le _, oK.sl, oK.own, fun x hx => (hrn x hx).2.2, x24⟩, ?_⟩
  rintro _ h5 ⟨k, rfl, hk, w5⟩
  refine ⟨fun q => ?_, fun q => ?_⟩
  rotate_left
  · have x25 := w5.2.2.2
    exact ⟨true, shelves_same (o2.shs.ext x25) (s.ext ((x1.trans x2).trans x25)) hb, rfl, (x1.trans x2).trans x25⟩
  have hkl := lt_of_dec q
  have hkK : k < K.length := by omega
  have hmx := hrn K[k] (List.getElem_mem hkK)
  refine ⟨fun v hh => ∃ j : Nat, v = j ∧ j ≤ K[k].rn ∧ W hh, fun v _ => K[k].rn - v.toNat, ⟨0, rfl, Nat.zero_le _, w5⟩, ?_⟩
  rintro _ h6 ⟨j, rfl, hj, w6⟩
  obtain ⟨sK, wK, wR, x6⟩ := w6
  obtain ⟨kb, ko, rfl, dk⟩ := sK.at (sl_get hkK)
  refine ⟨kb, ko, rfl, by omega, by omega, K[k].ra, K[k].rn, K[k].rc, dk.2.1, fun q2 => ?_, fun q2 => ?_⟩
  · have hjl := lt_of_dec q2
    have wk := wR _ (List.getElem_mem hkK)
    rcases wk with ⟨_, e0⟩ | ⟨rb, ro, cs, er, hlo, hrow, hsz⟩
    · omega
    have e4 : eRc.k = 4 := rfl
    rw [e4] at hsz
    refine ⟨rb, ro, er, by omega, by omega, HW_row hrow (by omega), fun h7 e7 => ?_⟩
    rw [wadd j (by omega)]
    have hh : h7 = hsets h6 rb (ro + (Int.toNat (j : Int)) * 4 + 2) [.string (ByteArray.mk #[111, 116, 104, 101, 114])] := e7
    have f7 : Fr (· = rb) h6 h7 := fr_hset_of e7
    have nk : ∀ b, blkA (some ⟨kb, ko, none⟩) b → ¬ b = rb := fun b hb q => own_ne wK hrow (by decide) (q ▸ hb)
    refine ⟨⟨j + 1, rfl, hjl, sK.fr f7 nk, wK.fr f7 nk, fun x hx => ?_, ((x6.fr _).trans f7 fun _ _ q => q).ext fun i hi q => by omega⟩, by show _ - Int.toNat _ < _ - Int.toNat _; omega⟩
    rw [hh]; exact (wR x hx).hsets _ _ _
  · rw [wadd k (by omega)]
    exact ⟨⟨k + 1, rfl, hkl, sK, wK, wR, x6⟩, by show Y.length - Int.toNat _ < Y.length - Int.toNat _; omega⟩
theorem Bd.sub {M : List Sf} (hb : Bd L) (s : M.Sublist L) : Bd M := ⟨by have := hb.len; have := s.length_le; omega, fun S hS => hb.recs S (s.subset hS)⟩
theorem Shs.cut (s : Shs h a c L) {l r : Nat} (hlr : l ≤ r) (hr : r ≤ L.length) : Shs h (slA a l 2 c) (c - l) ((L.take r).drop l) := by
  obtain ⟨K, s⟩ := s
  have hl := s.len
  refine ⟨(K.take r).drop l, s.sl.cut hlr (by omega), by simp [hl], fun i x S hx hS => ?_⟩
  rw [List.getElem?_drop, List.getElem?_take] at hx hS
  split at hx
  · rename_i hi
    rw [if_pos hi] at hS
    exact s.recs_ _ x S hx hS
  · cases hx
theorem ShO.cat {N N' : Nat} {M : List Sf} {t : TypeId} (ht : t = 22) (o : ShO N h a c L) (s : ShO N' h b d M) (hN : N ≤ h.size) (hsz : (L.length + M.length) * 32 ≤ 140737488355328) {K : Value → Heap → Prop}
    (hk : ∀ a' c' h', Fr (blkA a) h h' → Shs h' a' c' (L ++ M) → K (.slice a' (L.length + M.length) c') h') : HAppend Try.prog t t (.slice a L.length c) (.slice b M.length d) h K := by
  subst ht
  obtain ⟨K1, o⟩ := o
  obtain ⟨K2, s⟩ := s
  have h1 := o.len
  have h2 := s.len
  rw [← h1, ← h2]
  refine app_sl aKw o.sl o.own s.sl hN (by rw [h1, h2]; exact hsz) fun a' c' h' f s' w' bl => ?_
  rw [h1, h2]
  refine hk a' c' h' f ⟨_, s', by simp [h1, h2], fun i x S hx hS => ?_⟩
  by_cases hi : i < K1.length
  · rw [List.getElem?_append_left hi] at hx
    rw [List.getElem?_append_left (by omega)] at hS
    obtain ⟨ra, rc, e, p, q⟩ := o.recs_ i x S hx hS
    exact ⟨ra, rc, e, p.fr f fun b hb z => own_ne2 q o.own (by decide) hb z⟩
  · rw [List.getElem?_append_right (by omega)] at hx hS
    rw [h1] at hx
    obtain ⟨ra, rc, e, p, q⟩ := s.recs_ _ x S hx hS
    exact ⟨ra, rc, e, p.fr f fun b hb z => own_ne2 q o.own (by decide) hb z⟩
set_option maxHeartbeats 1600000 in
theorem law_oldest (s : Shs h a c L) (hb : Bd L) (hw : Wf L) (bits hashes : Int) : HC Try.prog 6 #[.slice a L.length c, .int .i64 bits, .int .i64 hashes] h fun v h' => v = .bool true ∧ Ext h h' := by
  have hb1 := hb.len
  refine f6_sh _ _ _ _ _ _ _ ((lives_c h).mono ?_)
  rintro _ h1 ⟨rfl, x1⟩
  refine ⟨x1, true, rfl, fun e => (by simp at e), fun _ => ⟨fun j hh => Ext h hh ∧ (j = true → ¬ (Good L ∧ 0 < L.length)) ∧ (j = false → Good L ∧ 0 < L.length), (check_r (s.ext x1) hb).mono ?_, ?_⟩⟩
  · rintro _ h3 ⟨rfl, x3⟩
    refine ⟨x3, _, rfl, fun e => ⟨x1.trans x3, fun _ g => ?_, fun q => (by cases q)⟩, fun e => ⟨x1.trans x3, fun q g => ?_, fun q => ⟨chk_ok.1 (by simpa using e), ?_⟩⟩⟩
    · rw [chk_yes g.1] at e; simp at e
    · have : (L.length : Int) = 0 := eq_of_beq q
      omega
    · have : ¬ (L.length : Int) = 0 := by simpa using q
      omega
  rintro j h2 ⟨x2, hj1, hj2⟩
  have s2 := s.ext x2
  refine ⟨fun e => (reclaim_m s2 hb hw 0 bits hashes).mono ?_, fun e => ?_⟩
  · rintro _ h4 ⟨x4, e', Y, ya, yc, hR, rfl, oY⟩
    refine ⟨x4, ya, _, yc, e', rfl, ?_, x2.trans x4⟩
    have : e' ≠ 0 := fun q => by
      obtain ⟨g, _, hr, _⟩ := hR.good q
      exact hj1 e ⟨g, by omega⟩
    congr 1
    simpa using this
  obtain ⟨hg, hl0⟩ := hj2 e
  refine ⟨fun k i => ∃ (k' i' : Nat), k = k' ∧ i = i' ∧ k' < L.length ∧ i' ≤ L.length ∧ ∀ q : Nat, q < i' → (getS L k').seq ≤ (getS L q).seq, fun _ i => L.length - i.toNat, ⟨0, 0, rfl, rfl, hl0, Nat.zero_le _, fun q hq => by omega⟩, ?_⟩
  rintro _ _ ⟨k, i, rfl, rfl, hk, hi, hmin⟩
  refine ⟨fun e2 => ?_, fun e2 => ?_⟩
  · have hil := lt_of_dec e2
    obtain ⟨lb, lo, _, _, el, c1, _, _⟩ := s2.at_ (i := i) (by omega) (by omega)
    obtain ⟨lb', lo', _, _, el', d1, _, _⟩ := s2.at_ (i := k) (by omega) (by omega)
    rw [el] at el'; cases el'
    refine ⟨if (getS L i).seq < (getS L k).seq then i else k, ⟨lb, lo, el, by omega, by omega, _, c1, by omega, by omega, _, d1, fun e3 => ?_, fun e3 => ?_⟩, ?_⟩
    · rw [if_pos (of_decide_eq_true e3)]
    · rw [if_neg (of_decide_eq_false e3)]
    · rw [wadd i (by omega)]
      refine ⟨?_, by show L.length - Int.toNat _ < L.length - Int.toNat _; omega⟩
      by_cases hlt : (getS L i).seq < (getS L k).seq
      · rw [if_pos hlt]
        refine ⟨i, i + 1, rfl, rfl, hil, by omega, fun q hq => ?_⟩
        by_cases eq_ : q = i
        · subst eq_; exact Int.le_refl _
        · have := hmin q (by omega); omega
      · rw [if_neg hlt]
        refine ⟨k, i + 1, rfl, rfl, hk, by omega, fun q hq => ?_⟩
        by_cases eq_ : q = i
        · subst eq_; omega
        · exact hmin q (by omega)
  · have hie : i = L.length := by have := ge_of_dec e2; omega
    subst hie
    refine (reclaim_m s2 hb hw k bits hashes).mono ?_
    rintro _ h5 ⟨x5, e', Y, ya, yc, hR, rfl, oY⟩
    have x05 := x2.trans x5
    refine ⟨x5, ya, _, yc, e', rfl, fun e3 => ?_, fun e3 => ?_⟩
    · have := hR.nil (by simpa using e3)
      subst this
      exact ⟨rfl, x05⟩
    have he0 : e' = 0 := by simpa using e3
    have hY : Y = but L k := by
      rcases hR with ⟨q, _⟩ | ⟨_, _, q, _⟩ | ⟨_, _, _, q, _⟩ | ⟨_, _, _, D, hD, r⟩
      · exact absurd hg q
      · omega
      · omega
      have hlow : lowG bits.toNat hashes.toNat L (getS L k).seq = [] := by
        unfold lowG
        rw [List.filter_eq_nil_iff.2 fun S hS => ?_]
        · rfl
        · obtain ⟨q, q0, q1, rfl⟩ := mem_getS hS
          have := hmin q.toNat (by omega)
          rw [show ((q.toNat : Nat) : Int) = q by omega] at this
          simp; omega
      rw [hlow] at hD
      have hD0 : D = [] := hD.nil_of fun r _ => rfl
      rcases r with ⟨_, _, q⟩ | ⟨q, _⟩ | ⟨q, _⟩
      · rw [Int.toNat_natCast] at q; exact q
      · exact absurd hD0 q
      · exact absurd hD0 q
    have hle := s2.le
    refine ⟨by decide, by omega, by omega, fun sl es => ?_⟩
    rw [wadd k (by omega)]
    refine ⟨by omega, by omega, by omega, fun sl1 es1 => ?_⟩
    have sa := (s2.ext x5).cut (l := 0) (r := k) (Nat.zero_le _) (by omega)
    have sb := (s2.ext x5).cut (l := k + 1) (r := L.length) (by omega) (Nat.le_refl _)
    rw [List.drop_zero] at sa
    rw [List.take_length] at sb
    have es' : sl = slA a 0 2 c := es
    rw [← es'] at sa
    rw [Int.toNat_natCast] at es1
    rw [← es1] at sb
    have n0 : Int.toNat (k : Int) - Int.toNat 0 = (L.take k).length := by rw [List.length_take]; omega
    have n1 : Int.toNat (L.length : Int) - Int.toNat ((k + 1 : Nat) : Int) = (L.drop (k + 1)).length := by rw [List.length_drop]; omega
    rw [n0, n1, Int.toNat_natCast]
    refine (copied_c (c := c - Int.toNat 0) sa (hb.sub (List.take_sublist _ _))).mono ?_
    rintro _ h6 ⟨x6, pa, pc, rfl, o6⟩
    refine ⟨x6, pa, _, pc, rfl, (copied_c (sb.ext x6) (hb.sub (List.drop_sublist _ _))).mono ?_⟩
    rintro _ h7 ⟨x7, qa, qc, rfl, o7⟩
    refine ⟨x7, qa, _, qc, rfl, ?_⟩
    have o67 := o6.ext x7
    obtain ⟨K6, q6⟩ := o67
    refine ShO.cat rfl ⟨K6, q6⟩ o7 (by have := x6.size; have := x7.size; omega) (by rw [List.length_take, List.length_drop]; omega) fun a8 c8 h8 f8 s8 => ⟨a8, _, c8, rfl, true, ?_, rfl, ?_⟩
    · have xx : Ext h5 h8 := (((x6.trans x7).fr _).trans f8 fun _ _ q => q).ext fun i hi q => by have := (q6.own.low q).1; omega
      have sY : Shs h8 ya yc Y := oY.shs.ext xx
      have := shelves_same (h := h8) sY (by rw [hY]; exact s8) (by rw [hY]; exact hb.sub (but_sub L k))
      rw [hY] at this ⊢
      have e : (but L k).length = (L.take k).length + (L.drop (k + 1)).length := by unfold but; rw [List.length_append]
      rw [← e]; exact this
    · exact ((x05.trans (x6.trans x7)).fr _ |>.trans f8 fun _ _ q => q).ext fun i hi q => by have := (q6.own.low q).1; have := x05.size; omega
end
end Cy
end Go.Proofs.Ytcdpapdefdnknaa
namespace Go.Proofs.Ytcdpapdefdnknaa
open Go Go.ChangeShapes Go.WideShapes Go.Deep
section
variable {H : Type} {enc : TypeId × Value → H} {W : World} {P : Program}
theorem hcell_of {a : Addr} {v : Value} (h : W.cell? a = some v) : a.spot = none ∧ hcell W.heap a.block a.off = some v := by
  unfold World.cell? at h
  unfold hcell
  split at h
  · rename_i hb
    rw [hb]
    split at h
    · cases h
    · rename_i hs
      exact ⟨by simpa using hs, h⟩
  · cases h
theorem add_spot (a : Addr) (n : Nat) (h : a.spot = none) : (a.add n).spot = none ∧ (a.add n).block = a.block ∧ (a.add n).off = a.off + n := by
  unfold Addr.add
  by_cases hn : n = 0
  · subst hn; exact ⟨h, rfl, rfl⟩
  · rw [if_neg hn]; exact ⟨rfl, rfl, rfl⟩
theorem open_list {α : Type} [Inhabited α] (E : Elt α) {e t : TypeId} (ht : P.underlying t = some (.slice e)) (hc : P.cellsOf e = E.k) (hk : 0 < E.k) (good : α → DataW H → Prop)
    (each : ∀ fuel cs (x : DataW H × List MemPlace), DataW.trod enc P W 0 (fun _ => true) true fuel e cs = some x → ∃ y : α, cs = E.enc y ∧ good y x.1)
    {fuel : Nat} {a0 : Option Addr} {len cap : Nat} {x : DataW H × List MemPlace} (h : DataW.trod enc P W 0 (fun _ => true) true fuel t [.slice a0 len cap] = some x) :
    len ≤ cap ∧ cap ≤ maxLen ∧ ∃ L : List α, L.length = len ∧ Sl E W.heap a0 cap L ∧ (len = 0 ∨ ∃ es sp, x.1 = .slice es sp ∧ es.length = len ∧ ∀ (i : Nat) y z, L[i]? = some y → es[i]? = some z → good y z) := by
  rcases open_slice ht h with ⟨hcs, _⟩ | ⟨a, len', cap', m, n, D, Pl, hcs, _, hl, hm, hmm, hx, hx'⟩
  · simp at hcs
    obtain ⟨rfl, rfl, rfl⟩ := hcs
    exact ⟨Nat.le_refl _, Nat.zero_le _, [], rfl, Sl.nil _ _, .inl rfl⟩
  · simp at hcs
    obtain ⟨rfl, rfl, rfl⟩ := hcs
    have hmc : m = cap := by simpa using hmm
    subst hmc
    have each' : ∀ i, ∃ q : α, i < m → good q (D i) ∧ ∀ j u, (E.enc q)[j]? = some u → W.cell? (a.add (i * E.k + j)) = some u := by
      intro i
      by_cases hi : i < m
      · obtain ⟨cs', h1, h2⟩ := hx' i hi
        obtain ⟨y, rfl, hg⟩ := each _ _ _ h2
        refine ⟨y, fun _ => ⟨hg, fun j u hj => ?_⟩⟩
        rw [hc] at h1
        obtain ⟨_, _, hcell⟩ := World.cells?_some h1
        have hjk : j < E.k := by have := (List.getElem?_eq_some_iff.1 hj).1; rw [E.len] at this; exact this
        have := hcell j hjk
        rw [Go.Deep.add_add] at this
        rw [this]; exact hj
      · exact ⟨default, fun h => absurd h hi⟩
    refine ⟨hl, hm, (List.range len).map fun i => Classical.choose (each' i), by simp, ⟨by simpa using hl, ?_⟩, .inr ⟨_, _, by rw [hx], by simp, fun i y z hy hz => ?_⟩⟩
    · rcases Nat.eq_zero_or_pos m with h0 | hpos
      · exact .inl h0
      · right
        have all := fun i => Classical.choose_spec (each' i)
        have sp : a.spot = none := by
          have h0 : 0 < (E.enc (Classical.choose (each' 0))).length := by rw [E.len]; exact hk
          have := (all 0 hpos).2 0 _ (List.getElem?_eq_getElem h0)
          have h1 := (hcell_of this).1
          simpa [Addr.add] using h1
        refine ⟨a.block, a.off, by rw [← sp], fun i x hx => HCells.mk fun j v hj => ?_⟩
        rw [List.getElem?_map] at hx
        cases hr : (List.range len)[i]? with
        | none => rw [hr] at hx; cases hx
        | some i' =>
          rw [hr] at hx
          simp only [Option.map_some, Option.some.injEq] at hx
          obtain ⟨hi, he⟩ := List.getElem?_eq_some_iff.1 hr
          have hi' : i' = i := by simpa using he.symm
          subst hi'
          subst hx
          have hil : i' < len := by simpa using hi
          have h1 := (hcell_of ((all i' (by omega)).2 j v hj)).2
          rw [(add_spot a _ sp).2.1, (add_spot a _ sp).2.2, ← Nat.add_assoc] at h1
          exact h1
    · rw [List.getElem?_map] at hy hz
      cases hr : (List.range len)[i]? with
      | none => rw [hr] at hy; cases hy
      | some i' =>
        rw [hr] at hy hz
        simp only [Option.map_some, Option.some.injEq] at hy hz
        obtain ⟨hi, he⟩ := List.getElem?_eq_some_iff.1 hr
        have hi' : i' = i := by simpa using he.symm
        subst hi'
        subst hy; subst hz
        have hil : i' < len := by simpa using hi
        exact ((Classical.choose_spec (each' i')) (by omega)).1
theorem open_listT {α : Type} [Inhabited α] (E : Elt α) {e t : TypeId} (ht : P.underlying t = some (.slice e)) (hc : P.cellsOf e = E.k) (hk : 0 < E.k) (good : α → DataW H → Prop)
    (each : ∀ fuel cs (x : DataW H × List MemPlace), DataW.trod enc P W 0 (fun _ => true) true fuel e cs = some x → ∃ y : α, cs = E.enc y ∧ good y x.1)
    {a0 : Option Addr} {len cap : Nat} {d : DataW H} {p : List MemPlace} (h : DataW.Trod enc P W 0 (fun _ => true) true t (.slice a0 len cap) d p) :
    len ≤ cap ∧ cap ≤ maxLen ∧ ∃ L : List α, L.length = len ∧ Sl E W.heap a0 cap L ∧ (len = 0 ∨ ∃ es sp, d = .slice es sp ∧ es.length = len ∧ ∀ (i : Nat) y z, L[i]? = some y → es[i]? = some z → good y z) := by
  obtain ⟨fuel, h⟩ := h
  exact open_list E ht hc hk good each (x := (d, p)) h
theorem below_of {w w' : World} (hs : Sim w w') (he : Ext w.heap w'.heap) : RowKit.Below w.heap.size w w' := ⟨hs.os, hs.tape, hs.output, he.size, fun k hk => he.block k hk⟩
end
end Go.Proofs.Ytcdpapdefdnknaa
namespace Go.Proofs.Ytcdpapdefdnknaa
namespace Cy
open Go Go.ChangeShapes Go.WideShapes Go.Deep
def dRc {H : Type} (y : Rc) : DataW H := .agg [.lit (.int .i64 y.kind), .lit (.int .u64 y.ver), .lit (.string y.key.data.toList), .lit (.string y.val.data.toList)]
def wfRc (y : Rc) : Prop := (Lit.int .i64 y.kind).wf = true ∧ (Lit.int .u64 y.ver).wf = true ∧ y.key.size ≤ maxLen ∧ y.val.size ≤ maxLen ∧ True
set_option maxRecDepth 100000 in
theorem oRc {H : Type} {enc : TypeId × Value → H} {W : World} (fuel : Nat) (cs : List Value) (x : DataW H × List MemPlace) (h : DataW.trod enc Try.prog W 0 (fun _ => true) true fuel 36 cs = some x) :
    ∃ y : Rc, cs = eRc.enc y ∧ (x.1 = dRc y ∧ wfRc y) := by
  obtain ⟨ys, n, _, hx, hl, hyl, hf⟩ := DataW.trod_struct Try.underlying36 h
  rw [show Try.prog.cellsOf 36 = 4 by kernel_rfl] at hl
  match cs, hl with
  | [c0, c1, c2, c3], _ =>
    have g0 : DataW.trod enc Try.prog W 0 (fun _ => true) true n 3 (([c0, c1, c2, c3].drop 0).take (Try.prog.cellsOf 3)) = ys[0]? := hf 0 _ rfl
    rw [show Try.prog.cellsOf 3 = 1 by kernel_rfl] at g0
    have g1 : DataW.trod enc Try.prog W 0 (fun _ => true) true n 31 (([c0, c1, c2, c3].drop 1).take (Try.prog.cellsOf 31)) = ys[1]? := hf 1 _ rfl
    rw [show Try.prog.cellsOf 31 = 1 by kernel_rfl] at g1
    have g2 : DataW.trod enc Try.prog W 0 (fun _ => true) true n 9 (([c0, c1, c2, c3].drop 2).take (Try.prog.cellsOf 9)) = ys[2]? := hf 2 _ rfl
    rw [show Try.prog.cellsOf 9 = 1 by kernel_rfl] at g2
    have g3 : DataW.trod enc Try.prog W 0 (fun _ => true) true n 9 (([c0, c1, c2, c3].drop 3).take (Try.prog.cellsOf 9)) = ys[3]? := hf 3 _ rfl
    rw [show Try.prog.cellsOf 9 = 1 by kernel_rfl] at g3
    match ys, hyl with
    | [y0, y1, y2, y3], _ =>
      obtain ⟨n0, e0, x0, w0⟩ := DataW.trod_int Try.underlying3 (x := y0) g0
      obtain ⟨n1, e1, x1, w1⟩ := DataW.trod_int Try.underlying31 (x := y1) g1
      obtain ⟨n2, e2, x2, w2⟩ := DataW.trod_string Try.underlying9 (x := y2) g2
      obtain ⟨n3, e3, x3, w3⟩ := DataW.trod_string Try.underlying9 (x := y3) g3
      refine ⟨⟨n0, n1, n2, n3⟩, ?_, ?_, ⟨w0, w1, w2, w3, trivial⟩⟩
      · show (([c0, c1, c2, c3].drop 0).take 1) ++ (([c0, c1, c2, c3].drop 1).take 1) ++ (([c0, c1, c2, c3].drop 2).take 1) ++ (([c0, c1, c2, c3].drop 3).take 1) = _
        rw [e0, e1, e2, e3]
        rfl
      · rw [hx]
        simp only [List.map_cons, List.map_nil, x0, x1, x2, x3]
        rfl
theorem wf_u64 {x : Int} (h : (Lit.int .u64 x).wf = true) : 0 ≤ x ∧ x < 18446744073709551616 := by
  simp [Lit.wf, IntKind.min, IntKind.max, IntKind.bits, IntKind.signed] at h; omega
theorem bulk_pos {H : Type} (d : DataW H) : 1 ≤ Rows.uptoBulk d := by
  cases d with
  | lit l => cases l <;> simp [Rows.uptoBulk]
  | _ => simp [Rows.uptoBulk]
theorem bulk_len {H : Type} : ∀ es : List (DataW H), es.length ≤ Rows.uptoBulkAll es
  | [] => Nat.zero_le _
  | d :: es => by
    have := bulk_pos d
    have := bulk_len es
    simp only [Rows.uptoBulkAll, List.length_cons]; omega
theorem bulk_at {H : Type} : ∀ {es : List (DataW H)} {i : Nat} {d : DataW H}, es[i]? = some d → Rows.uptoBulk d ≤ Rows.uptoBulkAll es
  | e :: es, 0, d, h => by
    simp at h; subst h; simp only [Rows.uptoBulkAll]; omega
  | e :: es, i + 1, d, h => by
    have := bulk_at (es := es) (i := i) (d := d) (by simpa using h)
    simp only [Rows.uptoBulkAll]; omega
theorem c_slice {H : Type} {enc : TypeId × Value → H} {W : World} {P : Program} {t e : TypeId} (ht : P.underlying t = some (.slice e)) {n : Nat} {c : Value} {y : DataW H × List MemPlace} (g : DataW.trod enc P W 0 (fun _ => true) true n t [c] = some y) : ∃ a len cap, c = .slice a len cap := by
  rcases open_slice ht g with ⟨hcs, _⟩ | ⟨a, len', cap', m, n, D, Pl, hcs, _⟩
  · simp at hcs; exact ⟨_, _, _, hcs⟩
  · simp at hcs; exact ⟨_, _, _, hcs⟩
def gRc {H : Type} (y : Rc) (d : DataW H) : Prop := (0 ≤ y.ver ∧ y.ver < 18446744073709551616) ∧ y.key.size ≤ Rows.uptoBulk d
theorem o_recs {H : Type} {enc : TypeId × Value → H} {W : World} {n : Nat} {c : Value} {y : DataW H × List MemPlace} (g : DataW.trod enc Try.prog W 0 (fun _ => true) true n 32 [c] = some y) :
    ∃ a cap, ∃ X : List Rc, c = .slice a X.length cap ∧ Sl eRc W.heap a cap X ∧ (∀ r ∈ X, 0 ≤ r.ver ∧ r.ver < 18446744073709551616) ∧ X.length ≤ Rows.uptoBulk y.1 ∧ (∀ r ∈ X, r.key.size ≤ Rows.uptoBulk y.1) ∧ (X.length = 0 ∨ ∃ es sp, y.1 = .slice es sp ∧ es.length = X.length) := by
  obtain ⟨a, len, cap, rfl⟩ := c_slice Try.underlying32 g
  obtain ⟨k1, k2, X, rfl, k4, k5⟩ := open_list eRc Try.underlying32 (by kernel_rfl) (by decide) (fun y d => gRc y d) (fun fuel cs x h => by
    obtain ⟨y, e, e1, w⟩ := oRc fuel cs x h
    refine ⟨y, e, wf_u64 w.2.1, ?_⟩
    rw [e1]
    simp only [dRc, Rows.uptoBulk, Rows.uptoBulkAll]
    have : y.key.data.toList.length = y.key.size := rfl
    simp [this]
    omega) g
  have hr : ∀ r ∈ X, gRc r y.1 := fun r hr => by
    obtain ⟨i, hi, hie⟩ := List.getElem_of_mem hr
    rcases k5 with k5 | ⟨es, sp, e, hes, hg⟩
    · omega
    · have := hg i r es[i] (by rw [List.getElem?_eq_getElem hi, hie]) (List.getElem?_eq_getElem (by omega))
      refine ⟨this.1, Nat.le_trans this.2 ?_⟩
      have hb := bulk_at (List.getElem?_eq_getElem (show i < es.length by omega))
      rw [e]
      simp only [Rows.uptoBulk]
      omega
  refine ⟨a, cap, X, rfl, k4, fun r h => (hr r h).1, ?_, fun r h => (hr r h).2, k5.imp id fun ⟨es, sp, e, hes, _⟩ => ⟨es, sp, e, hes⟩⟩
  rcases k5 with k5 | ⟨es, sp, e, hes, _⟩
  · omega
  · have := bulk_len es
    rw [e]
    simp only [Rows.uptoBulk]
    omega
instance : Inhabited Kw := ⟨⟨0, none, 0, 0⟩⟩
def gSh {H : Type} (W : World) (y : Kw) (d : DataW H) : Prop := ∃ (S : Sf) (ra : Option Addr) (rc : Nat), y = ⟨S.seq, ra, S.recs.length, rc⟩ ∧ Sl eRc W.heap ra rc S.recs ∧ (0 ≤ S.seq ∧ S.seq < 18446744073709551616) ∧ (∀ r ∈ S.recs, 0 ≤ r.ver ∧ r.ver < 18446744073709551616) ∧ S.recs.length ≤ Rows.uptoBulk d ∧ (S.recs.length = 0 ∨ S.recs.length * 48 ∈ d.weights Try.prog 34 ∨ ∃ m, S.recs.length ≤ m ∧ m * 48 ∈ d.weights Try.prog 34)
set_option maxRecDepth 100000 in
theorem oSh {H : Type} {enc : TypeId × Value → H} {W : World} (fuel : Nat) (cs : List Value) (x : DataW H × List MemPlace) (h : DataW.trod enc Try.prog W 0 (fun _ => true) true fuel 34 cs = some x) :
    ∃ y : Kw, cs = eKw.enc y ∧ gSh W y x.1 := by
  obtain ⟨ys, n, _, hx, hl, hyl, hf⟩ := DataW.trod_struct Try.underlying34 h
  rw [show Try.prog.cellsOf 34 = 2 by kernel_rfl] at hl
  match cs, hl with
  | [c0, c1], _ =>
    have g0 : DataW.trod enc Try.prog W 0 (fun _ => true) true n 31 (([c0, c1].drop 0).take (Try.prog.cellsOf 31)) = ys[0]? := hf 0 _ rfl
    have g1 : DataW.trod enc Try.prog W 0 (fun _ => true) true n 32 (([c0, c1].drop 1).take (Try.prog.cellsOf 32)) = ys[1]? := hf 1 _ rfl
    rw [show Try.prog.cellsOf 31 = 1 by kernel_rfl] at g0
    rw [show Try.prog.cellsOf 32 = 1 by kernel_rfl] at g1
    match ys, hyl with
    | [y0, y1], _ =>
      obtain ⟨n0, e0, _, w0⟩ := DataW.trod_int Try.underlying31 (x := y0) g0
      have g1' : DataW.trod enc Try.prog W 0 (fun _ => true) true n 32 [c1] = some y1 := g1
      obtain ⟨a, cap, X, rfl, k1, k2, k3, k4, k5⟩ := o_recs g1'
      simp only [List.drop_zero, List.take_succ_cons, List.take_zero, List.cons.injEq, and_true] at e0
      subst e0
      refine ⟨⟨n0, a, X.length, cap⟩, rfl, ⟨n0, X⟩, a, cap, rfl, k1, wf_u64 w0, k2, ?_, ?_⟩
      · rw [hx]
        simp only [List.map_cons, List.map_nil, Rows.uptoBulk, Rows.uptoBulkAll]
        show X.length ≤ _
        omega
      · rcases k5 with k5 | ⟨es, sp, e, hes⟩
        · exact .inl k5
        · refine .inr (.inr ⟨es.length + sp.length, by show X.length ≤ _; omega, ?_⟩)
          rw [hx]
          simp only [List.map_cons, List.map_nil, DataW.weights, Try.underlying34]
          simp [DataW.weightsEach, DataW.weights, e, Try.underlying32]
          right; left
          rw [show Try.prog.bytesOf 36 = 48 by kernel_rfl]
theorem pick_sh {H : Type} {W : World} : ∀ {K : List Kw} {es : List (DataW H)}, es.length = K.length → (∀ (i : Nat) y z, K[i]? = some y → es[i]? = some z → gSh W y z) →
    ∃ L : List Sf, K.length = L.length ∧ (∀ (i : Nat) x S, K[i]? = some x → L[i]? = some S → ∃ ra rc, x = ⟨S.seq, ra, S.recs.length, rc⟩ ∧ Sl eRc W.heap ra rc S.recs) ∧ Wf L ∧ (allR L).length ≤ Rows.uptoBulkAll es ∧
      ((∀ w ∈ DataW.weightsAll Try.prog 34 es, w ≤ reachBytes) → ∀ S ∈ L, S.recs.length * 48 ≤ 140737488351232)
  | [], [], _, _ => ⟨[], rfl, fun i x S h => (by rw [List.getElem?_nil] at h; cases h), ⟨fun S h => (by simp at h), fun S h => (by simp at h)⟩, Nat.zero_le _, fun _ S h => (by simp at h)⟩
  | y :: K, d :: es, hl, hg => by
    obtain ⟨L, k1, k2, k3, k4, k5⟩ := pick_sh (K := K) (es := es) (by simpa using hl) fun i y z h1 h2 => hg (i + 1) y z (by simpa using h1) (by simpa using h2)
    obtain ⟨S, ra, rc, e, s, w1, w2, b, hw⟩ := hg 0 y d rfl rfl
    refine ⟨S :: L, by simp [k1], fun i x S' h1 h2 => ?_, ⟨fun T hT => ?_, fun T hT r hr => ?_⟩, ?_, fun hall T hT => ?_⟩
    · cases i with
      | zero => simp at h1 h2; subst h1; subst h2; exact ⟨ra, rc, e, s⟩
      | succ i => exact k2 i x S' (by simpa using h1) (by simpa using h2)
    · rcases List.mem_cons.1 hT with rfl | hT
      · exact w1
      · exact k3.seq T hT
    · rcases List.mem_cons.1 hT with rfl | hT
      · exact w2 r hr
      · exact k3.ver T hT r hr
    · unfold allR at k4 ⊢
      simp only [List.flatMap_cons, List.length_append, Rows.uptoBulkAll]; omega
    · simp only [DataW.weightsAll, List.mem_append] at hall
      have hr : reachBytes = 140737488351232 := rfl
      rcases List.mem_cons.1 hT with rfl | hT
      · rcases hw with q | q | ⟨m, hm, q⟩
        · omega
        · have := hall _ (.inl q); omega
        · have := hall _ (.inl q); omega
      · exact k5 (fun w h => hall w (.inr h)) T hT
theorem sh_of {H : Type} {enc : TypeId × Value → H} {W : World} {a : Option Addr} {len cap : Nat} {d : DataW H} {p : List MemPlace} (h : DataW.Trod enc Try.prog W 0 (fun _ => true) true 22 (.slice a len cap) d p) :
    ∃ L, len = L.length ∧ Shs W.heap a cap L ∧ Wf L ∧ (allR L).length ≤ Rows.uptoBulk d ∧ L.length ≤ Rows.uptoBulk d ∧ (∀ (ts : List TypeId) (ds : List (DataW H)), (DataW.weightsEach Try.prog (22 :: ts) (d :: ds)).all (· ≤ reachBytes) = true → Bd L) := by
  obtain ⟨k1, k2, K, rfl, k4, k5⟩ := open_listT eKw Try.underlying22 (by kernel_rfl) (by decide) (gSh W) (fun fuel cs x h => oSh fuel cs x h) h
  rcases k5 with k5 | ⟨es, sp, rfl, hes, hg⟩
  · have : K = [] := List.length_eq_zero_iff.1 k5
    subst this
    exact ⟨[], rfl, ⟨[], k4, rfl, fun i x S h => (by rw [List.getElem?_nil] at h; cases h)⟩, ⟨fun S h => (by simp at h), fun S h => (by simp at h)⟩, Nat.zero_le _, Nat.zero_le _, fun _ _ _ => ⟨by decide, fun S h => (by simp at h)⟩⟩
  · obtain ⟨L, m1, m2, m3, m4, m5⟩ := pick_sh hes hg
    have := bulk_len es
    refine ⟨L, m1, ⟨K, k4, m1, m2⟩, m3, by simp only [Rows.uptoBulk]; omega, by simp only [Rows.uptoBulk]; omega, fun ts ds hz => ?_⟩
    have hr : reachBytes = 140737488351232 := rfl
    have hall := List.all_eq_true.1 hz
    simp only [DataW.weightsEach, DataW.weights, Try.underlying22, List.mem_append, List.mem_cons, decide_eq_true_eq] at hall
    refine ⟨?_, m5 fun w hw => hall w (.inl (.inr (.inl hw)))⟩
    have := hall _ (.inl (.inl rfl))
    rw [show Try.prog.bytesOf 34 = 32 by kernel_rfl] at this
    omega
end Cy
end Go.Proofs.Ytcdpapdefdnknaa
