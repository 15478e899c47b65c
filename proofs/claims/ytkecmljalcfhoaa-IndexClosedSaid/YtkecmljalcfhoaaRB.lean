/-
The document's index: put, removed, moved, hit.
-/
import Derived.Test.YtkecmljalcfhoaaRA
namespace Go.Proofs.Ytkecmljalcfhoaa
namespace Ix
open Go RH

theorem set_put {L : List Ent} (hL : Srt L) {i : Nat} {o e : Ent} (hi : L[i]? = some o) (he : e.h = o.h) : L.set i e = putS L e := by
  obtain ⟨h1, h2⟩ := set_ok hL hi he
  refine is_put hL h1 fun y => ?_
  rw [h2 y]
  have ho := List.mem_of_getElem? hi
  constructor
  · rintro (⟨k1, k2⟩ | k1)
    · exact .inl ⟨k1, fun q => k2 (hL.eq k1 ho (q.trans he))⟩
    · exact .inr k1
  · rintro (⟨k1, k2⟩ | k1)
    · exact .inl ⟨k1, fun q => k2 (by rw [q, he])⟩
    · exact .inr k1
theorem ins_put {L : List Ent} (hL : Srt L) {e : Ent} {i : Nat} (p : Pos L e.h i false) : L.take i ++ e :: L.drop i = putS L e := by
  obtain ⟨h1, h2⟩ := ins_ok hL p (e := e) rfl
  refine is_put hL h1 fun y => ?_
  rw [h2 y]
  have hno := p.no rfl
  constructor
  · rintro (k | k)
    · exact .inl ⟨k, hno y k⟩
    · exact .inr k
  · rintro (⟨k, _⟩ | k)
    · exact .inl k
    · exact .inr k
theorem del_del {L : List Ent} (hL : Srt L) {i : Nat} {o : Ent} (hi : L[i]? = some o) : L.take i ++ L.drop (i + 1) = delS L o.h := by
  obtain ⟨h1, h2⟩ := del_ok hL hi
  refine is_del hL h1 fun y => ?_
  rw [h2 y]
  have ho := List.mem_of_getElem? hi
  constructor
  · rintro ⟨k1, k2⟩; exact ⟨k1, fun q => k2 (hL.eq k1 ho q)⟩
  · rintro ⟨k1, k2⟩; exact ⟨k1, fun q => k2 (by rw [q])⟩

section
variable {W : Nat → Prop} {h : Heap} {r ab ao ac m : Nat} {Rs : List Rb}

theorem map_putR {i : Nat} {u : Rb} : (Rs.set i u).map Rb.L = (Rs.map Rb.L).set i u.L := List.map_set
theorem AftR.mk' (hlt : ∀ b, W b → b < h.size) {h2 h3 : Heap} {W2 S : Nat → Prop} {Rs' : List Rb} {Ls' : List (List Ent)} (f12 : Fr W h h2) (I2 : Ref W2 h2 r ab ao ac m Rs') (hw : ∀ b, W2 b → W b ∨ h.size ≤ b) (f3 : Fr S h2 h3) (hS : ∀ b, S b → h.size ≤ b ∧ ¬ W2 b) (e : Rs'.map Rb.L = Ls') : AftR W h r m Ls' h3 := by
  have I3 := I2.fr f3 fun b g q => (hS b q).2 g
  refine ⟨f12.trans f3 fun b hb g => by have := (hS b g).1; omega, ab, ao, ac, Rs', I3.mono (fun b g => ?_) (fun b g => ?_), e⟩
  · rcases hw b g with k | k
    · exact .inl k
    · exact .inr ⟨k, I3.lt b g⟩
  · rcases g with g | g
    · have h1 := f12.size
      have h2 := f3.size
      have := hlt b g
      omega
    · exact g.2
theorem AftR.pre (hlt : ∀ b, W b → b < h.size) {h1 h2 : Heap} (x1 : Ext h h1) {Ls' : List (List Ent)} (a : AftR W h1 r m Ls' h2) : AftR W h r m Ls' h2 := by
  obtain ⟨f, ab, ao, ac, Rs', I', e⟩ := a
  have s1 := x1.size
  have s2 := f.size
  refine ⟨(x1.fr _).trans f fun _ _ g => g, ab, ao, ac, Rs', I'.mono (fun b g => ?_) (fun b g => ?_), e⟩
  · rcases g with g | g
    · exact .inl g
    · exact .inr ⟨by omega, g.2⟩
  · rcases g with g | g
    · have := hlt b g; omega
    · exact g.2

set_option maxHeartbeats 8000000 in
theorem put_r (I : Ref W h r ab ao ac m Rs) {e : Ent} (hw : e.wf) : HC Try.prog 34 #[ptr r 0, .agg #[.int .u64 e.h, .int .u64 e.a, .int .u64 e.v, .int .u8 e.k]] h fun z h' =>
    z = v3 (mPut m (str (Rs.map Rb.L) e.h) e).1 ∧ AftR W h r m ((Rs.map Rb.L).set (e.h % Rs.length) (mPut m (str (Rs.map Rb.L) e.h) e).2) h' := by
  obtain ⟨t, ht, hm, hlt⟩ := I.get e.h
  rw [strR ht]
  have stay : ∀ {h'}, Ext h h' → AftR W h r m ((Rs.map Rb.L).set (e.h % Rs.length) t.L) h' := fun x' => by rw [map_sameR ht]; exact AftR.ofExt I x'
  refine f34_sh _ _ _ _ _ _ _ _ ⟨fun g h3 x3 => ?_, fun g ev pb h2 lo1 lt1 lo2 lt2 x2 => ?_⟩
  · have ha : e.a = 0 := by have := eq_of_beq g; omega
    unfold mPut; rw [if_pos ha]
    exact ⟨rfl, stay x3⟩
  have ha : e.a ≠ 0 := by have := beq_eq_false_iff_ne.1 g; omega
  have I2 := I.ext x2
  obtain ⟨i, is, p, hc⟩ := find_r I2 e.h ht
  have hs := (I.ok t hm).2.2.1
  have hwf := (I.ok t hm).2.2.2.2
  have h8 := (I.ok t hm).2.2.2.1
  obtain ⟨pl1, pl2⟩ := pos_look hs p
  have hle := p.le
  have hsm := I.small hm
  have hm16 := I.m16
  refine hc.mono ?_
  rintro _ h4 ⟨rfl, x4⟩
  have x04 := x2.trans x4
  have I4 := I2.ext x4
  have hs2 := x2.size
  have hs4 := x4.size
  have hWp : ¬ W pb := fun q => by have := I.lt pb q; omega
  refine ⟨x4.kp _, _, _, _, rfl, fun g2 => ?_, fun g2 => ?_⟩
  · obtain ⟨hi, hl, hh⟩ := pl1 g2
    obtain ⟨b, o, eta, d0, d1, d2, d3⟩ := I4.at hm hi
    refine ⟨_, _, _, I4.c1, ab, ao, rfl, by omega, by omega, _, _, _, I4.cs ht, b, o, eta, by omega, by omega, _, _, _, _, d0, d1, d2, d3, fun g3 old h6 lo6 lt6 x6 h7 f7 => ?_, fun g3 old h6 lo6 lt6 x6 => ?_⟩
    · have hv : e.v < (t.L[i]).v := by have := of_decide_eq_true g3; omega
      have e1 : mPut m t.L e = ((z0, false, 120), t.L) := by
        unfold mPut; rw [if_neg ha, hl]; simp only; rw [if_pos hv]
      rw [e1]
      exact ⟨rfl, stay (ext_of_fr f7 (x04.trans x6) lo2)⟩
    · have hv : ¬ e.v < (t.L[i]).v := by have := of_decide_eq_false g3; omega
      have e1 : mPut m t.L e = ((t.L[i], true, 0), putS t.L e) := by
        unfold mPut; rw [if_neg ha, hl]; simp only; rw [if_neg hv]
      rw [e1]
      have I6 := I4.ext x6
      obtain ⟨s6, w6, _⟩ := I6.ok t hm
      rw [eta] at s6 w6
      have hb := I.lt b (I.bl t hm b (by rw [eta]; exact blkA_of rfl)).1
      obtain ⟨k1, k2, k3⟩ := s6.put w6 hi e
      refine ⟨k1, by simp [Off]; omega, ?_⟩
      rintro h8 e8 h9 f9
      have e8' : h8 = hsets h6 b (o + i * eEnt.k) (eEnt.enc e) := e8
      rw [← e8'] at k2 k3
      have f8 : Fr (blkA t.a) h6 h8 := by rw [eta, e8]; exact fr_hsets _ fun _ => blkA_of rfl
      rw [← eta] at k2 k3
      have hpt := set_put hs (List.getElem?_eq_getElem hi) (e := e) hh.symm
      have I8 := I6.inPlace (L' := t.L.set i e) ht f8 (by simp) k2 k3 (by rw [hpt]; exact putS_srt hs e) fun y hy => by
        rw [hpt] at hy
        rcases putS_mem.1 hy with q | q
        · exact hwf y q.1
        · subst q; exact ⟨hw, ha⟩
      refine ⟨rfl, AftR.mk' I.lt (((x04.trans x6).fr _).trans f8 fun b' _ g => (I.bl t hm b' g).1) I8 (fun _ g => .inl g) f9 (fun b' g => ⟨by omega, fun q => hWp (by rw [← g]; exact q)⟩) ?_⟩
      rw [map_putR, hpt]
  · have his : is = false := g2
    subst his
    have hl := pl2 rfl
    have h2m := pow_le hm16.2
    have ec : decide (IntKind.i64.wrap (8 * IntKind.i64.wrap ((t.L.length : Int) + 1)) > IntKind.i64.wrap (7 * IntKind.i64.wrap (1 * 2 ^ min (Int.toNat (m : Int)) 64))) = decide (7 * 2 ^ m < 8 * (t.L.length + 1)) := by
      rw [pow2_wrap (by omega), wadd _ (by omega), w64 (x := 8 * ((t.L.length + 1 : Nat) : Int)) (by omega) (by omega), w64 (by omega) (by omega)]
      rw [decide_eq_decide]; omega
    refine ⟨_, _, _, I4.c1, ab, ao, rfl, by omega, by omega, _, _, _, I4.cs ht, _, I4.c0, by omega, fun g3 h10 f10 => ?_, fun g3 nb h11 en eh => ?_⟩
    · rw [ec] at g3
      have e1 : mPut m t.L e = ((z0, false, 2), t.L) := by
        unfold mPut; rw [if_neg ha, hl]; simp only; rw [if_pos (of_decide_eq_true g3)]
      rw [e1]
      exact ⟨rfl, stay (ext_of_fr f10 x04 lo2)⟩
    rw [ec] at g3
    have hroom := of_decide_eq_false g3
    have e1 : mPut m t.L e = ((z0, false, 0), putS t.L e) := by
      unfold mPut; rw [if_neg ha, hl]; simp only; rw [if_neg hroom]
    rw [e1]
    obtain ⟨s0, w0, x0⟩ := ent_lit en eh
    have I11 := I4.ext x0
    have hsl := (I4.ok t hm).1.le
    refine ⟨_, _, _, I11.c1, ab, ao, rfl, by omega, by omega, _, _, _, I11.cs ht, by omega, by omega, by omega, ?_⟩
    rintro sl rfl
    have s1 := (I11.ok t hm).1.cut (l := 0) (r := i) (Nat.zero_le _) hle
    refine app_own (n := 0) aEnt x0 s0 w0 rfl s1 (by simp; omega) (by simp; omega) ?_
    intro a1 c1 h12 x12 _ s12 w12 _
    have I12 := I4.ext x12
    have hW4 : ∀ b, W b → ¬ h4.size ≤ b := fun b g q => by have := I.lt b g; omega
    refine ⟨kp_of x0 x12 (by simp; omega), _, _, _, rfl, Fr (fun b => h4.size ≤ b), fit_fr _, _, _, _, fun hx f => (I12.fr f hW4).c1, _, _, _, fun hx f => (I12.fr f hW4).c1, ab, ao, rfl, by omega, by omega, _, _, _, fun hx f => (I12.fr f hW4).cs ht, by omega, by omega, by omega, ?_⟩
    rintro sl1 rfl nb1 h13 eb1 eh1
    have x1213 : Ext h12 h13 := by rw [eh1]; exact Ext.push _ _
    have x13 : Ext h4 h13 := x12.trans x1213
    have hrow : h13[nb1]? = some (.cells ([e].flatMap eEnt.enc).toArray 31 (0, 0)) := by rw [eh1]; exact push_new eb1
    refine app_own (n2 := 1) aEnt x13 (s12.ext x1213) (w12.ext x1213) (by simp; omega) (Sl.lit (L := [e]) hrow) rfl (by simp; omega) ?_
    intro a2 c2' h14 x14 f14 s14 w14 _
    have hs12 := x12.size
    have hs13 := x13.size
    refine ⟨f14.mono fun b _ g => ((w12.ext x1213).low g).1, kp_of x13 x14 (by simp; omega), _, _, _, rfl, ?_⟩
    have s15 := ((I4.ext x14).ok t hm).1.cut (l := i) (r := t.L.length) hle (Nat.le_refl _)
    refine app_own aEnt x14 s14 w14 (by simp; omega) s15 (by simp) (by simp; omega) ?_
    intro a3 c3 h15 x15 f15 s16 w16 _
    have eL : ([] ++ List.drop 0 (List.take i t.L) ++ [e] ++ List.drop i (List.take t.L.length t.L)) = putS t.L e := by rw [← ins_put hs p]; simp
    rw [eL] at s16
    have hlen : (putS t.L e).length = t.L.length + 1 := by rw [← ins_put hs p]; simp; omega
    obtain ⟨o1, o2⟩ := I4.other (h6 := hset h15 ab (ao + (e.h % Rs.length) * 1) (.slice a3 (0 + (Int.toNat (i : Int) - Int.toNat 0) + 1 + (Int.toNat (t.L.length : Int) - Int.toNat (i : Int))) c3)) ht x15 (n' := (0 + (Int.toNat (i : Int) - Int.toNat 0) + 1 + (Int.toNat (t.L.length : Int) - Int.toNat (i : Int)))) (by rw [hlen]; simp; omega) s16 w16 (putS_srt hs e) (by rw [hlen]; omega) fun y hy => by
        rcases putS_mem.1 hy with q | q
        · exact hwf y q.1
        · subst q; exact ⟨hw, ha⟩
    refine ⟨f15.mono fun b _ g => (w14.low g).1, kp_of x14 x15 (by simp; omega), _, _, _, rfl, ab, ao, rfl, by omega, by omega, o1, by simp [Off]; have := I.lt _ I.wr.2.1; omega, ?_⟩
    rintro h16 rfl h17 f17
    obtain ⟨f16, I16⟩ := o2 rfl
    refine ⟨rfl, AftR.mk' I.lt (((x04.trans x15).fr _).trans f16 fun b' _ g => by rw [g]; exact I.wr.2.1) I16 (fun b' g => ?_) f17 (fun b' g => ⟨by omega, fun q => ?_⟩) map_putR⟩
    · rcases g with g | g
      · exact .inl g
      · have := (w16.low g).1; exact .inr (by omega)
    · rcases q with q | q
      · exact hWp (by rw [← g]; exact q)
      · have := (w16.low q).1; omega
end
end Ix
end Go.Proofs.Ytkecmljalcfhoaa
