/-
The document's index: removed, moved, hit, purged, and what it has.
-/
import Derived.Test.YtkecmljalcfhoaaRB
namespace Go.Proofs.Ytkecmljalcfhoaa
namespace Ix
open Go RH

section
variable {W : Nat → Prop} {h : Heap} {r ab ao ac m : Nat} {Rs : List Rb}

set_option maxHeartbeats 8000000 in
theorem remove_r (I : Ref W h r ab ao ac m Rs) (v : Nat) : HC Try.prog 37 #[ptr r 0, .int .u64 v] h fun z h' =>
    z = v2 (mDel (str (Rs.map Rb.L) v) v).1 ∧ AftR W h r m ((Rs.map Rb.L).set (v % Rs.length) (mDel (str (Rs.map Rb.L) v) v).2) h' := by
  obtain ⟨t, ht, hm, hlt⟩ := I.get v
  rw [strR ht]
  have stay : ∀ {h'}, Ext h h' → AftR W h r m ((Rs.map Rb.L).set (v % Rs.length) t.L) h' := fun x' => by rw [map_sameR ht]; exact AftR.ofExt I x'
  refine f37_sh _ _ _ _ _ fun pb h1 lo1 lt1 x1 => ?_
  have I1 := I.ext x1
  obtain ⟨i, is, p, hc⟩ := find_r I1 v ht
  have hs := (I.ok t hm).2.2.1
  have hwf := (I.ok t hm).2.2.2.2
  have h8 := (I.ok t hm).2.2.2.1
  obtain ⟨pl1, pl2⟩ := pos_look hs p
  have hsm := I.small hm
  refine hc.mono ?_
  rintro _ h2 ⟨rfl, x2⟩
  have x02 := x1.trans x2
  have I2 := I1.ext x2
  have hs1 := x1.size
  have hs2 := x2.size
  have hWp : ¬ W pb := fun q => by have := I.lt pb q; omega
  refine ⟨x2.kp _, _, _, _, rfl, fun g h3 f3 => ?_, fun g => ?_⟩
  · have e1 : mDel t.L v = ((z0, false), t.L) := by unfold mDel; rw [pl2 (by simpa using g)]
    rw [e1]
    exact ⟨rfl, stay (ext_of_fr f3 x02 lo1)⟩
  · obtain ⟨hi, hl, hh⟩ := pl1 (by simpa using g)
    have e1 : mDel t.L v = ((t.L[i], true), delS t.L v) := by unfold mDel; rw [hl]
    rw [e1]
    obtain ⟨b, o, eta, d0, d1, d2, d3⟩ := I2.at hm hi
    have hsl := (I2.ok t hm).1.le
    have hW2 : ∀ b, W b → ¬ h2.size ≤ b := fun b g q => by have := I.lt b g; omega
    refine ⟨_, _, _, I2.c1, ab, ao, rfl, by omega, by omega, _, _, _, I2.cs ht, b, o, eta, by omega, by omega, _, _, _, _, d0, d1, d2, d3, Fr (fun b => h2.size ≤ b), fit_fr _, fun old h5 lo5 lt5 x5 => ?_⟩
    have I5 := I2.ext x5
    have x05 := x02.trans x5
    have hs5 := x5.size
    rw [wadd i (by omega)]
    refine ⟨_, _, _, fun hx f => (I5.fr f hW2).c1, _, _, _, I5.c1, ab, ao, rfl, by omega, by omega, _, _, _, I5.cs ht, by omega, by omega, by omega, ?_⟩
    rintro sl rfl
    refine ⟨_, _, _, fun hx f => (I5.fr f hW2).c1, ab, ao, rfl, by omega, by omega, _, _, _, fun hx f => (I5.fr f hW2).cs ht, by omega, by omega, by omega, ?_⟩
    rintro sl1 rfl nb h6 en eh
    obtain ⟨s0, w0, x0⟩ := ent_lit en eh
    have I6 := I5.ext x0
    have s1 := (I6.ok t hm).1.cut (l := 0) (r := i) (Nat.zero_le _) (Nat.le_of_lt hi)
    refine app_own (n := 0) aEnt x0 s0 w0 rfl s1 (by simp; omega) (by simp; omega) ?_
    intro a1 c1 h7 x7 f7 s7 w7 _
    refine ⟨f7.mono fun b _ g => by have := (w0.low g).1; omega, kp_of x0 x7 (by simp; omega), _, _, _, rfl, ?_⟩
    have s8 := ((I5.ext x7).ok t hm).1.cut (l := i + 1) (r := t.L.length) (by omega) (Nat.le_refl _)
    refine app_own aEnt x7 s7 w7 (by simp; omega) s8 (by simp) (by simp; omega) ?_
    intro a2 c2' h8 x8 f8 s9 w9 _
    have hdd : List.take i t.L ++ List.drop (i + 1) t.L = delS t.L v := by rw [← hh]; exact del_del hs (List.getElem?_eq_getElem hi)
    have eL : ([] ++ List.drop 0 (List.take i t.L) ++ List.drop (i + 1) (List.take t.L.length t.L)) = delS t.L v := by rw [← hdd]; simp
    rw [eL] at s9
    have hlen : (delS t.L v).length = t.L.length - 1 := by rw [← hdd]; simp; omega
    obtain ⟨o1, o2⟩ := I5.other (h6 := hset h8 ab (ao + (v % Rs.length) * 1) (.slice a2 (0 + (Int.toNat (i : Int) - Int.toNat 0) + (Int.toNat (t.L.length : Int) - Int.toNat ((i + 1 : Nat) : Int))) c2')) ht x8 (n' := (0 + (Int.toNat (i : Int) - Int.toNat 0) + (Int.toNat (t.L.length : Int) - Int.toNat ((i + 1 : Nat) : Int)))) (by rw [hlen]; simp; omega) s9 w9 (delS_srt hs v) (by rw [hlen]; omega) fun y hy => hwf y (delS_mem.1 hy).1
    refine ⟨f8.mono fun b _ g => by have := (w7.low g).1; omega, kp_of x7 x8 (by simp; omega), _, _, _, rfl, ab, ao, rfl, by omega, by omega, o1, by simp [Off]; have := I.lt _ I.wr.2.1; omega, ?_⟩
    rintro h9 rfl h10 f10
    obtain ⟨f9, I9⟩ := o2 rfl
    refine ⟨rfl, AftR.mk' I.lt (((x05.trans x8).fr _).trans f9 fun b' _ g => by rw [g]; exact I.wr.2.1) I9 (fun b' g => ?_) f10 (fun b' g => ⟨by omega, fun q => ?_⟩) map_putR⟩
    · rcases g with g | g
      · exact .inl g
      · have := (w9.low g).1; exact .inr (by omega)
    · rcases q with q | q
      · exact hWp (by rw [← g]; exact q)
      · have := (w9.low q).1; omega

theorem removeIf_r (I : Ref W h r ab ao ac m Rs) (v at_ : Nat) : HC Try.prog 38 #[ptr r 0, .int .u64 v, .int .u64 at_] h fun z h' =>
    z = .bool (mDelIf (str (Rs.map Rb.L) v) v at_).1 ∧ AftR W h r m ((Rs.map Rb.L).set (v % Rs.length) (mDelIf (str (Rs.map Rb.L) v) v at_).2) h' := by
  obtain ⟨t, ht, hm, hlt⟩ := I.get v
  refine f38_sh _ _ _ _ _ _ ((get_r I v).mono ?_)
  rintro _ h1 ⟨rfl, x1⟩
  refine ⟨_, _, _, _, _, rfl, fun g h3 x3 => ?_, fun g h3 x3 => (remove_r (I.ext (x1.trans x3)) v).mono ?_⟩
  · rw [strR ht] at g ⊢
    have e : mDelIf t.L v at_ = (false, t.L) := by
      unfold mDelIf mGet at *
      cases hl : look t.L v with
      | none => rfl
      | some y => rw [hl] at g; simp at g; simp only; rw [if_neg (by omega)]
    rw [e]
    exact ⟨rfl, by rw [map_sameR ht]; exact AftR.ofExt I (x1.trans x3)⟩
  · rintro _ h4 ⟨rfl, a4⟩
    rw [strR ht] at *
    obtain ⟨y, hl, hy⟩ : ∃ y, look t.L v = some y ∧ y.a = at_ := by
      unfold mGet at g
      cases hl : look t.L v with
      | none => rw [hl] at g; simp at g
      | some y => rw [hl] at g; simp at g; exact ⟨y, rfl, by omega⟩
    have e : mDelIf t.L v at_ = (true, delS t.L v) := by unfold mDelIf; rw [hl]; simp only; rw [if_pos hy]
    have e' : mDel t.L v = ((y, true), delS t.L v) := by unfold mDel; rw [hl]
    rw [e'] at a4 ⊢
    rw [e]
    exact ⟨_, _, _, _, _, rfl, rfl, AftR.pre I.lt (x1.trans x3) a4⟩

/-- One cell of an entry is written in its place. -/
theorem Ref.cell (I : Ref W h r ab ao ac m Rs) {i j : Nat} {t : Rb} (ht : Rs[j]? = some t) (hi : i < t.L.length) {y : Ent} {q : Nat} {u : Value} (hq : q < 4) (he : eEnt.enc y = (eEnt.enc t.L[i]).set q u) (hh : y.h = t.L[i].h) (hy : y.wf ∧ y.a ≠ 0) {b o : Nat} (eta : t.a = some ⟨b, o, none⟩) :
    HW h b (o + i * 4 + q) ∧ ∀ h2, h2 = hset h b (o + i * 4 + q) u → AftR W h r m ((Rs.map Rb.L).set j (putS t.L y)) h2 := by
  have hm := List.mem_of_getElem? ht
  obtain ⟨s, w, hs, h8, hwf⟩ := I.ok t hm
  have hw0 := w
  rw [eta] at s w
  obtain ⟨cs, hrow, hcs, _⟩ := w.row
  have hsl := s.le
  have ek : eEnt.k = 4 := rfl
  rw [ek] at hcs
  refine ⟨HW_row hrow (by omega), ?_⟩
  rintro h2 e2
  have s2 := s.set1 w (List.getElem?_eq_getElem hi) hq he
  have w2 : Own eEnt.k 31 0 h2 (some ⟨b, o, none⟩) t.c := by rw [e2]; exact Own.hsets w b (o + i * 4 + q) [u]
  have f2 : Fr (blkA t.a) h h2 := by rw [e2, eta]; exact fr_hset _ fun _ => blkA_of rfl
  have e2' : hset h b (o + i * eEnt.k + q) u = h2 := e2.symm
  rw [e2'] at s2
  rw [← eta] at s2 w2
  have hpt := set_put hs (List.getElem?_eq_getElem hi) (e := y) hh
  have I2 := I.inPlace (L' := t.L.set i y) ht f2 (by simp) s2 w2 (by rw [hpt]; exact putS_srt hs y) fun z hz => by
    rw [hpt] at hz
    rcases putS_mem.1 hz with k | k
    · exact hwf z k.1
    · subst k; exact hy
  exact AftR.mk' I.lt (f2.mono fun b' _ g => (I.bl t hm b' g).1) I2 (fun _ g => .inl g) (Fr.refl (fun _ => False) _) (fun _ g => g.elim) (by rw [map_putR, hpt])

theorem hit_r (I : Ref W h r ab ao ac m Rs) (v : Nat) : HC Try.prog 40 #[ptr r 0, .int .u64 v] h fun z h' =>
    z = .bool (mHit (str (Rs.map Rb.L) v) v).1 ∧ AftR W h r m ((Rs.map Rb.L).set (v % Rs.length) (mHit (str (Rs.map Rb.L) v) v).2) h' := by
  obtain ⟨t, ht, hm, hlt⟩ := I.get v
  rw [strR ht]
  have hs := (I.ok t hm).2.2.1
  obtain ⟨i, is, p, hc⟩ := find_r I v ht
  obtain ⟨pl1, pl2⟩ := pos_look hs p
  refine f40_sh _ _ _ _ _ (hc.mono ?_)
  rintro _ h1 ⟨rfl, x1⟩
  have I1 := I.ext x1
  refine ⟨_, _, _, rfl, fun g => ?_, fun g => ?_⟩
  · have e1 : mHit t.L v = (false, t.L) := by unfold mHit; rw [pl2 (by simpa using g)]
    rw [e1]
    exact ⟨rfl, by rw [map_sameR ht]; exact AftR.ofExt I x1⟩
  · obtain ⟨hi, hl, hh⟩ := pl1 (by simpa using g)
    have e1 : mHit t.L v = (true, putS t.L (up t.L[i])) := by unfold mHit; rw [hl]
    rw [e1]
    obtain ⟨b, o, eta, d0, d1, d2, d3⟩ := I1.at hm hi
    have hwy := (I.ok t hm).2.2.2.2 _ (List.getElem_mem hi)
    refine ⟨fun h2 => AftR W h r m ((Rs.map Rb.L).set (v % Rs.length) (putS t.L (up t.L[i]))) h2, ⟨_, _, _, I1.c1, ab, ao, rfl, by omega, by omega, _, _, _, I1.cs ht, b, o, eta, by omega, by omega, _, d3, fun hk => ?_, fun hk => ?_⟩, fun h2 a2 => ⟨rfl, a2⟩⟩
    · have hk' : (t.L[i]).k < 255 := by have := of_decide_eq_true hk; omega
      have hup : up t.L[i] = ⟨(t.L[i]).h, (t.L[i]).a, (t.L[i]).v, (t.L[i]).k + 1⟩ := by unfold up; rw [if_pos hk']
      rw [wu8 (by omega) (by omega)]
      have ec : (((t.L[i]).k : Int) + 1) = (((t.L[i]).k + 1 : Nat) : Int) := by omega
      rw [ec]
      obtain ⟨k1, k2⟩ := I1.cell (y := up t.L[i]) (q := 3) (u := .int .u8 (((t.L[i]).k + 1 : Nat) : Int)) ht hi (by decide) (by rw [hup]; rfl) rfl (by rw [hup]; exact ⟨⟨hwy.1.1, hwy.1.2.1, hwy.1.2.2.1, by show (t.L[i]).k + 1 < 256; omega⟩, hwy.2⟩) eta
      exact ⟨k1, fun h3 e3 => AftR.pre I.lt x1 (k2 h3 e3)⟩
    · have hk' : ¬ (t.L[i]).k < 255 := by have := of_decide_eq_false hk; omega
      have hup : up t.L[i] = t.L[i] := by unfold up; rw [if_neg hk']
      have hpt : putS t.L (up t.L[i]) = t.L := by
        rw [hup, ← set_put hs (List.getElem?_eq_getElem hi) rfl]; simp
      rw [hpt, map_sameR ht]
      exact AftR.ofExt I x1

theorem move_r (I : Ref W h r ab ao ac m Rs) {v fr to : Nat} (hto : to < 18446744073709551616) : HC Try.prog 39 #[ptr r 0, .int .u64 v, .int .u64 fr, .int .u64 to] h fun z h' =>
    z = .bool (mMove (str (Rs.map Rb.L) v) v fr to).1 ∧ AftR W h r m ((Rs.map Rb.L).set (v % Rs.length) (mMove (str (Rs.map Rb.L) v) v fr to).2) h' := by
  obtain ⟨t, ht, hm, hlt⟩ := I.get v
  rw [strR ht]
  have hs := (I.ok t hm).2.2.1
  obtain ⟨i, is, p, hc⟩ := find_r I v ht
  obtain ⟨pl1, pl2⟩ := pos_look hs p
  refine f39_sh _ _ _ _ _ _ _ (hc.mono ?_)
  rintro _ h1 ⟨rfl, x1⟩
  have I1 := I.ext x1
  have stay : AftR W h r m ((Rs.map Rb.L).set (v % Rs.length) t.L) h1 := by rw [map_sameR ht]; exact AftR.ofExt I x1
  cases his : is with
  | false =>
    have e1 : mMove t.L v fr to = (false, t.L) := by unfold mMove; rw [pl2 his]
    rw [e1]
    exact ⟨_, _, _, rfl, true, ⟨fun _ => rfl, fun g => (by cases g)⟩, fun _ => ⟨rfl, stay⟩, fun g => (by cases g)⟩
  | true =>
    obtain ⟨hi, hl, hh⟩ := pl1 his
    obtain ⟨b, o, eta, d0, d1, d2, d3⟩ := I1.at hm hi
    have hwy := (I.ok t hm).2.2.2.2 _ (List.getElem_mem hi)
    refine ⟨_, _, _, rfl, !decide ((t.L[i]).a = fr ∧ to ≠ 0), ⟨fun g => (by cases g), fun _ => ⟨_, _, _, I1.c1, ab, ao, rfl, by omega, by omega, _, _, _, I1.cs ht, b, o, eta, by omega, by omega, _, d1, fun g => ?_, fun g => ?_⟩⟩, fun g => ?_, fun g => ?_⟩
    · have : (t.L[i]).a ≠ fr := fun q => by rw [q] at g; simp at g
      rw [decide_eq_false (fun q => this q.1)]; rfl
    · have h1' : (t.L[i]).a = fr := by have := bne_eq_false_iff_eq.1 g; omega
      rw [Bool.eq_iff_iff]
      simp [h1']
    · have hn : ¬ ((t.L[i]).a = fr ∧ to ≠ 0) := by rintro ⟨q1, q2⟩; simp [q1, q2] at g
      have e1 : mMove t.L v fr to = (false, t.L) := by unfold mMove; rw [hl]; simp only; rw [if_neg hn]
      rw [e1]
      exact ⟨rfl, stay⟩
    · have hy : (t.L[i]).a = fr ∧ to ≠ 0 := by simpa using g
      have e1 : mMove t.L v fr to = (true, putS t.L ⟨(t.L[i]).h, to, (t.L[i]).v, (t.L[i]).k⟩) := by unfold mMove; rw [hl]; simp only; rw [if_pos hy]
      rw [e1]
      obtain ⟨k1, k2⟩ := I1.cell (y := ⟨(t.L[i]).h, to, (t.L[i]).v, (t.L[i]).k⟩) (q := 1) (u := .int .u64 (to : Int)) ht hi (by decide) rfl rfl ⟨⟨hwy.1.1, hto, hwy.1.2.2.1, hwy.1.2.2.2⟩, hy.2⟩ eta
      exact ⟨_, _, _, I1.c1, ab, ao, rfl, by omega, by omega, _, _, _, I1.cs ht, b, o, eta, by omega, by omega, k1, fun h2 e2 => ⟨rfl, AftR.pre I.lt x1 (k2 h2 e2)⟩⟩

theorem Ref.in_ (_I : Ref W h r ab ao ac m Rs) {n : Int} (h0 : 0 ≤ n) (h1 : n < Rs.length) : ∃ t, Rs[n.toNat]? = some t ∧ t ∈ Rs ∧ ent (Rs.map Rb.L) n = t.L := by
  have hlt : n.toNat < Rs.length := by omega
  refine ⟨Rs[n.toNat], List.getElem?_eq_getElem hlt, List.getElem_mem hlt, ?_⟩
  unfold ent
  rw [if_pos h0, List.getD_eq_getElem?_getD, List.getElem?_map, List.getElem?_eq_getElem hlt]; rfl
theorem len_r (I : Ref W h r ab ao ac m Rs) (n : Int) : HC Try.prog 43 #[ptr r 0, .int .i64 n] h fun z h' => z = .int .i64 ((ent (Rs.map Rb.L) n).length : Int) ∧ h' = h := by
  by_cases hin : 0 ≤ n ∧ n < Rs.length
  · obtain ⟨t, ht, hm, he⟩ := I.in_ hin.1 hin.2
    rw [he]
    refine f43_sh _ _ _ _ _ ⟨false, ⟨fun g => ?_, fun _ => ⟨_, _, _, I.c1, ?_⟩⟩, fun g => (by cases g), fun _ => ⟨_, _, _, I.c1, ab, ao, rfl, by omega, by omega, _, _, _, I.cs ht, rfl, rfl⟩⟩
    · have := of_decide_eq_true g; omega
    · exact (decide_eq_false (by omega)).symm
  · rw [ent_out (by rw [List.length_map]; omega)]
    refine f43_sh _ _ _ _ _ ⟨true, ⟨fun _ => rfl, fun g => ⟨_, _, _, I.c1, ?_⟩⟩, fun _ => ⟨rfl, rfl⟩, fun g => (by cases g)⟩
    have := of_decide_eq_false g
    exact (decide_eq_true (by omega)).symm
theorem entries_r (I : Ref W h r ab ao ac m Rs) (n : Int) : HC Try.prog 54 #[ptr r 0, .int .i64 n] h fun z h' => New eEnt 31 h h' z (ent (Rs.map Rb.L) n) := by
  by_cases hin : 0 ≤ n ∧ n < Rs.length
  · obtain ⟨t, ht, hm, he⟩ := I.in_ hin.1 hin.2
    rw [he]
    refine f54_sh _ _ _ _ _ ⟨false, ⟨fun g => ?_, fun _ => ⟨_, _, _, I.c1, ?_⟩⟩, fun g => (by cases g), fun _ nb h1 en eh => ?_⟩
    · have := of_decide_eq_true g; omega
    · exact (decide_eq_false (by omega)).symm
    obtain ⟨s0, w0, x0⟩ := ent_lit en eh
    have I1 := I.ext x0
    have hsm := I.small hm
    refine ⟨_, _, _, I1.c1, ab, ao, rfl, by omega, by omega, _, _, _, I1.cs ht, app_own (n := 0) aEnt x0 s0 w0 rfl (I1.ok t hm).1 rfl (by omega) ?_⟩
    intro a1 c1 h2 x2 _ s2 w2 _
    exact ⟨_, _, _, rfl, a1, c1, by rw [Nat.zero_add], x2, s2.cast (by simp), w2⟩
  · rw [ent_out (by rw [List.length_map]; omega)]
    refine f54_sh _ _ _ _ _ ⟨true, ⟨fun _ => rfl, fun g => ⟨_, _, _, I.c1, ?_⟩⟩, fun _ => New.nil (Ext.refl _), fun g => (by cases g)⟩
    have := of_decide_eq_false g
    exact (decide_eq_true (by omega)).symm
end
end Ix
end Go.Proofs.Ytkecmljalcfhoaa
