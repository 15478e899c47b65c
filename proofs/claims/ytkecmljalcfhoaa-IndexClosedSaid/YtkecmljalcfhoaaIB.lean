/-
The index: put, removed, moved, hit.
-/
import Derived.Test.YtkecmljalcfhoaaIA
namespace Go.Proofs.Ytkecmljalcfhoaa
namespace Ix
open Go RH

section
variable {W : Nat → Prop} {h : Heap} {x m : Nat} {Ts : List Tb} {Ls : List (List Ent)}

theorem map_put {i : Nat} {u : Tb} : (Ts.set i u).map Tb.L = (Ts.map Tb.L).set i u.L := List.map_set
theorem map_same {i : Nat} {t : Tb} (ht : Ts[i]? = some t) : (Ts.map Tb.L).set i t.L = Ts.map Tb.L := by
  refine List.ext_getElem? fun j => ?_
  rw [List.getElem?_set]
  split
  · rename_i hij
    subst hij
    obtain ⟨h1, h2⟩ := List.getElem?_eq_some_iff.1 ht
    rw [if_pos (by simpa using h1), List.getElem?_map, ht]; rfl
  · rfl

theorem Aft.mk' (I : Idx W h x m Ts) {h1 h2 h3 : Heap} {i : Nat} {t : Tb} (x1 : Ext h h1) (hi : Ts[i]? = some t) (f : Fr (PQ t.p t.q) h1 h2) {q' B' : Nat} {s' : RH.Sl} {L' : List Ent} (hq : q' = t.q ∨ h1.size ≤ q') (ok : TabOK h2 t.p q' B' m s') (rel : Rel B' s' L')
    {S : Nat → Prop} (f3 : Fr S h2 h3) (hS : ∀ b, S b → h.size ≤ b ∧ b < h1.size) : Aft W h x m ((Ts.map Tb.L).set i L') h3 := by
  have I2 := (I.ext x1).set hi f hq ok rel
  have ht := I.wt t (List.mem_of_getElem? hi)
  have hqs : q' = t.q ∨ h1.size ≤ q' := hq
  have hql := ok.lt.2
  have s1 := x1.size
  have s2 := f.size
  have s3 := f3.size
  have I3 := I2.fr f3 fun b g hs => by
    have := hS b hs
    rcases g with g | g
    · have := I.lt b g; omega
    · subst g
      rcases hqs with e | e
      · have := I.lt _ ht.2; omega
      · omega
  refine ⟨((x1.fr _).trans f fun b _ g => ?_).trans f3 fun b hb g => by have := hS b g; omega, _, I3.mono (fun b g => ?_) (fun b g => ?_), map_put⟩
  · rcases g with rfl | rfl
    · exact ht.1
    · exact ht.2
  · rcases g with g | g
    · exact .inl g
    · subst g
      rcases hqs with e | e
      · exact .inl (by rw [e]; exact ht.2)
      · exact .inr ⟨by omega, by omega⟩
  · rcases g with g | g
    · have := I.lt b g; omega
    · exact g.2

theorem mPut_eq {L : List Ent} {e : Ent} (ho : ∀ o, look L e.h = some o → ¬ e.v < o.v) : mPut m L e = tPut m L e := by
  unfold mPut tPut
  split
  · rfl
  · cases hl : look L e.h with
    | none => rfl
    | some o => simp only; rw [if_neg (ho o hl)]

theorem v3_ex (r : R3) : v3 r = .tuple #[.agg #[.int .u64 r.1.h, .int .u64 r.1.a, .int .u64 r.1.v, .int .u8 r.1.k], .bool r.2.1, .int .i64 r.2.2] := rfl

set_option maxHeartbeats 4000000 in
theorem put_i (I : Idx W h x m Ts) {e : Ent} (hw : e.wf) : HC Try.prog 29 #[.pointer (some ⟨x, 0, none⟩), .agg #[.int .u64 e.h, .int .u64 e.a, .int .u64 e.v, .int .u8 e.k]] h fun r h' =>
    r = v3 (mPut m (str (Ts.map Tb.L) e.h) e).1 ∧ Aft W h x m ((Ts.map Tb.L).set (e.h % Ts.length) (mPut m (str (Ts.map Tb.L) e.h) e).2) h' := by
  obtain ⟨t, ht, _⟩ := I.get e.h
  rw [str_eq ht]
  have stay : ∀ {h'}, Ext h h' → Aft W h x m ((Ts.map Tb.L).set (e.h % Ts.length) t.L) h' := fun x' => by rw [map_same ht]; exact Aft.ofExt I x'
  refine f29_sh _ _ _ _ _ _ _ fun eb old h2 lo1 lt1 lo2 lt2 x2 => ⟨_, at_i (I.ext x2) e.h ht, fun g => by simp at g, fun _ => ⟨fun g => ?_, fun g => ?_⟩⟩
  · have ha : e.a = 0 := by have := eq_of_beq g; omega
    intro h4 f4
    unfold mPut
    rw [if_pos ha]
    exact ⟨rfl, stay (ext_of_fr f4 x2 lo2)⟩
  have ha : e.a ≠ 0 := by have := beq_eq_false_iff_ne.1 g; omega
  obtain ⟨ok2, rel⟩ := (I.ext x2).ok t (List.mem_of_getElem? ht)
  refine (get_c ok2 hw.1).mono ?_
  rintro r h5 ⟨x5, hr⟩
  have e5 : r = v2 (mGet t.L e.h) := by
    unfold mGet
    rcases hr with ⟨y, hy, hyh, rfl⟩ | ⟨hno, rfl⟩
    · rw [(look_some rel.srt).2 ⟨(rel.mem y).1 hy, hyh⟩]; rfl
    · rw [look_none.2 fun y hy => hno y ((rel.mem y).2 hy)]; rfl
  subst e5
  refine ⟨x5.kp _, _, _, _, _, _, rfl, fun g2 h7 x7 h8 f8 => ?_, fun g2 h7 x7 => ?_⟩
  · obtain ⟨y, hl, hv⟩ : ∃ y, look t.L e.h = some y ∧ e.v < y.v := by
      unfold mGet at g2
      cases hl : look t.L e.h with
      | none => rw [hl] at g2; simp at g2
      | some y => rw [hl] at g2; simp at g2; exact ⟨y, rfl, by omega⟩
    have e1 : mPut m t.L e = ((z0, false, 120), t.L) := by
      unfold mPut
      rw [if_neg ha, hl]; simp only; rw [if_pos hv]
    rw [e1]
    exact ⟨rfl, stay (ext_of_fr f8 (x2.trans (x5.trans x7)) lo2)⟩
  · have e1 : mPut m t.L e = tPut m t.L e := mPut_eq fun o hl hv => by
      unfold mGet at g2
      rw [hl] at g2; simp at g2; omega
    rw [e1]
    have x27 := x2.trans (x5.trans x7)
    obtain ⟨ok7, _⟩ := (I.ext x27).ok t (List.mem_of_getElem? ht)
    have hb := ok7.bnd
    refine (put_c ok7 hw).mono ?_
    rintro v h9 ⟨f9, q', B', s', hq, ok9, pr⟩
    obtain ⟨e9, rel9⟩ := put_plain rel ok7.g hb.1 hb.2.1 ok7.room pr
    subst e9
    have hs5 := x5.size
    have hs7 := x7.size
    refine ⟨f9.kp (by
      intro b hb' hp
      simp only [List.mem_cons, List.not_mem_nil, or_false] at hb'
      subst hb'
      have := I.lt _ (I.wt t (List.mem_of_getElem? ht)).1
      have := I.lt _ (I.wt t (List.mem_of_getElem? ht)).2
      rcases hp with g | g <;> omega), _, _, _, _, _, _, rfl, fun h10 f10 => ⟨rfl, Aft.mk' I x27 ht f9 hq ok9 rel9 f10 fun b hb' => ⟨by omega, by omega⟩⟩⟩

theorem remove_i (I : Idx W h x m Ts) {v : Nat} (hv : v < 18446744073709551616) : HC Try.prog 30 #[.pointer (some ⟨x, 0, none⟩), .int .u64 v] h fun r h' =>
    r = v2 (mDel (str (Ts.map Tb.L) v) v).1 ∧ Aft W h x m ((Ts.map Tb.L).set (v % Ts.length) (mDel (str (Ts.map Tb.L) v) v).2) h' := by
  obtain ⟨t, ht, _⟩ := I.get v
  rw [str_eq ht]
  refine f30_sh _ _ _ _ fun pb h1 lo1 lt1 x1 => ⟨_, at_i (I.ext x1) v ht, ?_⟩
  obtain ⟨ok, rel⟩ := (I.ext x1).ok t (List.mem_of_getElem? ht)
  have h1' := I.lt _ (I.wt t (List.mem_of_getElem? ht)).1
  have h2' := I.lt _ (I.wt t (List.mem_of_getElem? ht)).2
  refine (remove_c ok hv).mono ?_
  rintro r h2 ⟨f2, s', ok2, rr⟩
  obtain ⟨e2, rel2⟩ := rem_plain rel rr
  subst e2
  refine ⟨f2.kp (by
    intro b hb' hp
    simp only [List.mem_cons, List.not_mem_nil, or_false] at hb'
    subst hb'
    rcases hp with g | g <;> omega), _, _, _, _, _, rfl, fun h3 f3 => ⟨rfl, Aft.mk' I x1 ht f2 (.inl rfl) ok2 rel2 f3 fun b hb' => ⟨by omega, by omega⟩⟩⟩

theorem hit_i (I : Idx W h x m Ts) {v : Nat} (hv : v < 18446744073709551616) : HC Try.prog 33 #[.pointer (some ⟨x, 0, none⟩), .int .u64 v] h fun r h' =>
    r = .bool (mHit (str (Ts.map Tb.L) v) v).1 ∧ Aft W h x m ((Ts.map Tb.L).set (v % Ts.length) (mHit (str (Ts.map Tb.L) v) v).2) h' := by
  obtain ⟨t, ht, _⟩ := I.get v
  rw [str_eq ht]
  obtain ⟨ok, rel⟩ := I.ok t (List.mem_of_getElem? ht)
  refine f33_sh _ _ _ _ ⟨_, at_i I v ht, (hit_c ok hv).mono ?_⟩
  rintro r h2 ⟨f2, hr⟩
  have f2' : Fr (PQ t.p t.q) h h2 := f2.mono fun _ _ g => .inr g
  unfold mHit
  rcases hr with ⟨y, s', hy, hyh, rfl, ok2, hm⟩ | ⟨hno, rfl, ok2⟩
  · rw [(look_some rel.srt).2 ⟨(rel.mem y).1 hy, hyh⟩]
    refine ⟨true, rfl, rfl, Aft.mk' I (Ext.refl _) ht f2' (.inl rfl) ok2 (rel_same (putS_srt rel.srt (up y)) fun z => ?_) (Fr.refl (fun _ => False) _) fun b g => g.elim⟩
    rw [hm z, putS_mem, rel.mem z]
    constructor
    · rintro (⟨h1, h2⟩ | h1)
      · exact .inl ⟨h1, fun q => h2 (rel.srt.eq h1 ((rel.mem y).1 hy) q)⟩
      · exact .inr h1
    · rintro (⟨h1, h2⟩ | h1)
      · exact .inl ⟨h1, fun q => h2 (by rw [q]; rfl)⟩
      · exact .inr h1
  · rw [look_none.2 fun y hy => hno y ((rel.mem y).2 hy)]
    exact ⟨false, rfl, rfl, Aft.mk' I (Ext.refl _) ht f2' (.inl rfl) ok2 rel (Fr.refl (fun _ => False) _) fun b g => g.elim⟩

theorem Aft.pre (_I : Idx W h x m Ts) {h1 h2 : Heap} (x1 : Ext h h1) {Ls' : List (List Ent)} (a : Aft W h1 x m Ls' h2) : Aft W h x m Ls' h2 := by
  obtain ⟨f, Ts', I', e⟩ := a
  have s1 := x1.size
  refine ⟨(x1.fr _).trans f fun _ _ g => g, Ts', I'.mono (fun b g => ?_) (fun b g => ?_), e⟩
  · rcases g with g | g
    · exact .inl g
    · exact .inr ⟨by omega, g.2⟩
  · rcases g with g | g
    · exact I'.lt b (.inl g)
    · exact g.2

theorem removeIf_i (I : Idx W h x m Ts) {v at_ : Nat} (hv : v < 18446744073709551616) : HC Try.prog 31 #[.pointer (some ⟨x, 0, none⟩), .int .u64 v, .int .u64 at_] h fun r h' =>
    r = .bool (mDelIf (str (Ts.map Tb.L) v) v at_).1 ∧ Aft W h x m ((Ts.map Tb.L).set (v % Ts.length) (mDelIf (str (Ts.map Tb.L) v) v at_).2) h' := by
  obtain ⟨t, ht, _⟩ := I.get v
  refine f31_sh _ _ _ _ _ ((get_i I hv).mono ?_)
  rintro _ h1 ⟨rfl, x1⟩
  refine ⟨_, _, _, _, _, rfl, fun g h3 x3 => ?_, fun g h3 x3 => (remove_i (I.ext (x1.trans x3)) hv).mono ?_⟩
  · rw [str_eq ht] at g ⊢
    have e : mDelIf t.L v at_ = (false, t.L) := by
      unfold mDelIf mGet at *
      cases hl : look t.L v with
      | none => rfl
      | some y => rw [hl] at g; simp at g; simp only; rw [if_neg (by omega)]
    rw [e]
    exact ⟨rfl, by rw [map_same ht]; exact Aft.ofExt I (x1.trans x3)⟩
  · rintro _ h4 ⟨rfl, a4⟩
    rw [str_eq ht] at *
    obtain ⟨y, hl, hy⟩ : ∃ y, look t.L v = some y ∧ y.a = at_ := by
      unfold mGet at g
      cases hl : look t.L v with
      | none => rw [hl] at g; simp at g
      | some y => rw [hl] at g; simp at g; exact ⟨y, rfl, by omega⟩
    have e : mDelIf t.L v at_ = (true, delS t.L v) := by unfold mDelIf; rw [hl]; simp only; rw [if_pos hy]
    have e' : mDel t.L v = ((y, true), delS t.L v) := by unfold mDel; rw [hl]
    rw [e'] at a4 ⊢
    rw [e]
    exact ⟨_, _, _, _, _, rfl, rfl, Aft.pre I (x1.trans x3) a4⟩
end
end Ix
end Go.Proofs.Ytkecmljalcfhoaa
