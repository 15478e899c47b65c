/-
What a key may be behind a move: the program's Next, and the document's.
-/
import Derived.Test.YtmdgfbhmogjklaaShD
import Derived.Test.YtmdgfbhmogjklaaSrt
import Derived.Test.YtmdgfbhmogjklaaLay
namespace Go.Proofs.Ytmdgfbhmogjklaa
open Go Ml

instance : Inhabited Mt := ⟨nil⟩

theorem lt_mcmp (x y : Mt) : ltOf mcmp x y = mlt x y := by
  unfold ltOf mcmp
  by_cases e : x = y
  · subst e; simp [mlt_irrefl]
  · rw [if_neg e]; cases h : mlt x y <;> simp
theorem swo_mcmp : Go.Sort.SWO (ltOf mcmp) where
  irrefl x := by rw [lt_mcmp]; exact mlt_irrefl x
  trans x y z h1 h2 := by rw [lt_mcmp] at *; exact mlt_trans h1 h2
  ntrans x y z h1 h2 := by
    rw [lt_mcmp] at *
    cases h : mlt x z with
    | false => rfl
    | true =>
      exfalso
      by_cases e : mlt y x = true
      · have := mlt_trans e h; rw [this] at h2; cases h2
      · have e1 : mlt y x = false := by simpa using e
        have := mlt_total h1 e1
        subst this; rw [h] at h2; cases h2

theorem sort_c {h : Heap} {a : Option Addr} {c N : Nat} {L : List Mt} (s : Sl eMt h a c L) (w : Own eMt.k tMt N h a c) (hl : L.length ≤ 1099511627776) :
    HC Try.prog 32 #[.slice a L.length c, .func (.func 33) #[] #[]] h fun v h' => v = .tuple #[] ∧ Fr (blkA a) h h' ∧ ∃ L', L'.Perm L ∧ L'.Pairwise (fun x y => mlt y x = false) ∧ Sl eMt h' a c L' ∧ Own eMt.k tMt N h' a c := by
  refine (hc_sort Lay.sortMt eMt Try.isAgg40 Try.sizeOf40 mcmp swo_mcmp 33 #[] (fun args w => Try.call33 args w) s w (fun h1 _ x y => ?_) (by omega)).mono ?_
  · exact compare_c x y h1
  · rintro v h' ⟨rfl, f, L', hp, hs, s', w'⟩
    exact ⟨rfl, f, L', hp, hs.imp fun h => by rw [lt_mcmp] at h; exact h, s', w'⟩

def kindsL : List (Int × Value) := kput (kput (kput [] 1 (.func (.func 39) #[] #[])) 2 (.func (.func 40) #[] #[])) 3 (.func (.func 41) #[] #[])
theorem kinds_c (h : Heap) : HC Try.prog 30 #[] h fun v h' => Ext h h' ∧ ∃ mb, v = .map (some mb) ∧ MapL h' mb (Value.int .i64) kindsL :=
  f30_sh _ _ fun mb h1 eb x1 _ m1 => ⟨[], m1, fun h2 o2 m2 => ⟨_, m2, fun h3 o3 m3 => ⟨_, m3, fun h4 o4 m4 =>
    ⟨ext_only (ext_only (ext_only x1 o2 (by omega)) o3 (by omega)) o4 (by omega), mb, rfl, m4⟩⟩⟩⟩

theorem cb1 : CallB Try.prog 39 := fun _ _ => Try.call39 _ _
theorem cb2 : CallB Try.prog 40 := fun _ _ => Try.call40 _ _
theorem cb3 : CallB Try.prog 41 := fun _ _ => Try.call41 _ _
theorem cb4 : CallB Try.prog 31 := fun _ _ => Try.call31 _ _
theorem does_cv (m : Mv) (w : Mt) (h : Heap) : HCV Try.prog (bif !((lk kindsL m.kind).isSome) then (.func (.func 31) #[] #[]) else (lk kindsL m.kind).getD .nilFunc) [mtV w, mvV m] h fun v h' => New eMt tMt h h' v (outs m w) := by
  have e : lk kindsL m.kind = if m.kind = 3 then some (.func (.func 41) #[] #[]) else if m.kind = 2 then some (.func (.func 40) #[] #[]) else if m.kind = 1 then some (.func (.func 39) #[] #[]) else none := by
    unfold kindsL; rw [lk_kput, lk_kput, lk_kput]; rfl
  rw [e]
  by_cases h3 : m.kind = 3
  · rw [if_pos h3]; exact hcv_func cb3 (deletes_c w m h3 h)
  · rw [if_neg h3]
    by_cases h2 : m.kind = 2
    · rw [if_pos h2]; exact hcv_func cb2 (puts_c w m h2 h)
    · rw [if_neg h2]
      by_cases h1 : m.kind = 1
      · rw [if_pos h1]; exact hcv_func cb1 (gets_c w m h1 h)
      · rw [if_neg h1]; exact hcv_func cb4 (other_c w m ⟨h1, h2, h3⟩ h)

theorem next_c {h : Heap} {a : Option Addr} {c : Nat} {L : List Mt} (s : Sl eMt h a c L) (hl : L.length ≤ 68719476736) (m : Mv) :
    HC Try.prog 19 #[.slice a L.length c, mvV m] h fun v h' => New eMt tMt h h' v (next L m) := by
  refine f19_sh _ _ _ _ _ _ _ _ _ _ _ _ _ fun mb h1 lo lt x1 => (kinds_c h1).mono ?_
  rintro _ h2 ⟨x2, rm, rfl, ml⟩
  refine ⟨x2, some rm, rfl, rm, rfl, kindsL, ml, _, rfl, fun a' n' c' v h3 => ∃ j : Nat, v = j ∧ j ≤ L.length ∧ n' = ((L.take j).flatMap (outs m)).length ∧ Ext h1 h3 ∧ Sl eMt h3 a' c' ((L.take j).flatMap (outs m)) ∧ Own eMt.k tMt h1.size h3 a' c',
    fun _ _ _ v _ => L.length - v.toNat, ⟨0, rfl, Nat.zero_le _, rfl, x2, Sl.nil _ _, Own.nil _ _ _ _⟩, ?_⟩
  rintro out _ c' _ h3 ⟨j, rfl, hj, rfl, x3, s3, w3⟩
  have b3 := flat_outs_len m (L.take j)
  have bt : (L.take j).length ≤ L.length := by simp; omega
  refine ⟨fun hlt => ?_, fun hge => ?_⟩
  · have hjl := lt_of_dec hlt
    obtain ⟨b, o, e0, hc⟩ := (s.ext (x1.trans x3)).at (List.getElem?_eq_getElem hjl)
    refine ⟨b, o, e0, by omega, by omega, L[j].has, L[j].val, hc.1, hc.2.1, fun h5 x5 => (does_cv m L[j] h5).mono ?_⟩
    rintro v h6 ⟨a6, c6, rfl, x6, s6, w6⟩
    have bo := outs_len m L[j]
    have x36 := x3.trans (x5.trans x6)
    refine ⟨x6.kp _, a6, _, c6, rfl, app_own aMt x36 (s3.ext (x5.trans x6)) (w3.ext (x5.trans x6)) rfl s6 rfl (by omega) ?_⟩
    intro a7 c7 h7 x7 f7 s7 w7 _
    refine ⟨f7.kp fun b hb => ?_, a7, _, c7, rfl, ?_⟩
    · simp at hb; subst hb
      intro hb; have := (w3.low hb).1; omega
    · rw [wadd j (by omega), ← List.length_append, ← flat_take L (outs m) j hjl] at *
      exact ⟨⟨j + 1, rfl, hjl, rfl, x7, s7, w7⟩, by simp only [Int.toNat_natCast]; omega⟩
  · have hjl : j = L.length := by have := ge_of_dec hge; omega
    subst hjl
    rw [List.take_length] at *
    refine (sort_c s3 w3 (by omega)).mono ?_
    rintro _ h8 ⟨rfl, f8, L', hp, hs, s8, w8⟩
    refine ⟨rfl, ?_⟩
    rw [← hp.length_eq]
    have x8 := w3.grown x3 f8
    refine (compact_c s8 w8 (by rw [hp.length_eq]; omega)).mono ?_
    rintro v h9 ⟨f9, a9, c9, rfl, s9, w9, bl⟩
    rw [next_of_sort hp hs] at *
    exact ⟨a9, _, c9, rfl, a9, c9, rfl, x1.trans (w8.grown x8 f9), s9, w9.down x1.size⟩

theorem take_len {β : Type} (L : List β) : L.take L.length = L := List.take_length
theorem rnext_c {h : Heap} {a : Option Addr} {c : Nat} {L : List Mt} (s : Sl eMt h a c L) (hl : L.length ≤ 68719476736) (hn : Nm L) (m : Mv) :
    HC Try.prog 28 #[.slice a L.length c, mvV m] h fun v h' => Ext h h' ∧ Rd eMt h' v (next L m) := by
  refine f28_sh _ _ _ _ _ _ _ _ _ _ _ _ _ fun mb h2 lo lt x2 => ?_
  refine ⟨fun a' n' c' v h3 => ∃ j : Nat, v = j ∧ j ≤ L.length ∧ n' = (insAll [] ((L.take j).flatMap (outs m))).length ∧ Ext h h3 ∧ Sl eMt h3 a' c' (insAll [] ((L.take j).flatMap (outs m))),
    fun _ _ _ v _ => L.length - v.toNat, ⟨0, rfl, Nat.zero_le _, rfl, x2, Sl.nil _ _⟩, ?_⟩
  rintro out _ c' _ h3 ⟨j, rfl, hj, rfl, x3, s3⟩
  generalize hT : insAll [] ((L.take j).flatMap (outs m)) = T at *
  have sT : Srt T := by rw [← hT]; exact insAll_srt _ _ List.Pairwise.nil
  have bT : T.length ≤ 3 * L.length := by
    have h1 := insAll_len ((L.take j).flatMap (outs m)) []
    have h2 := flat_outs_len m (L.take j)
    have h3 : (L.take j).length ≤ L.length := by simp; omega
    rw [← hT]; rw [List.length_nil] at h1; omega
  refine ⟨fun hlt => ?_, fun hge => ?_⟩
  · have hjl := lt_of_dec hlt
    obtain ⟨b, o, e0, hc⟩ := (s.ext x3).at (List.getElem?_eq_getElem hjl)
    have hw := hn L[j] (List.getElem_mem hjl)
    have eN : insAll [] ((L.take (j + 1)).flatMap (outs m)) = insAll T (rOuts m L[j]) := by
      rw [flat_take L (outs m) j hjl, insAll_app, hT, insAll_outs sT]
    refine ⟨fun a' n' c' h' => ∃ T', T' = insAll T (rOuts m L[j]) ∧ n' = T'.length ∧ Ext h h' ∧ Sl eMt h' a' c' T', ⟨b, o, e0, by omega, by omega, L[j].has, L[j].val, hc.1, hc.2.1, fun e => ?_, fun e => ?_⟩, ?_⟩
    · intro _ h6 _ _ x6
      refine ⟨T, ?_, rfl, x3.trans x6, s3.ext x6⟩
      have : rOuts m L[j] = [] := by
        unfold rOuts; rw [if_pos]
        simp [hits] at e ⊢
        exact ⟨⟨e.1.1, e.1.2.2.2, e.1.2.2.1, e.1.2.1⟩, e.2⟩
      rw [this]; rfl
    · have eR : rOuts m L[j] = (if (doesR m).1 then [L[j]] else []) ++ (if (doesR m).2.1 then [⟨true, m.val⟩] else []) ++ (if (doesR m).2.2 then [nil] else []) := by
        unfold rOuts; rw [if_neg]
        rintro ⟨h1, h2⟩
        rw [Bool.eq_false_iff] at e
        apply e
        simp [hits] at h1 h2 ⊢
        exact ⟨⟨h1.1, h1.2.2.2, h1.2.2.1, h1.2.1⟩, h2⟩
      refine ⟨fun a' n' c' h' => ∃ T', T' = insAll T (if (doesR m).1 then [L[j]] else []) ∧ n' = T'.length ∧ T'.length ≤ T.length + 1 ∧ Ext h h' ∧ Sl eMt h' a' c' T', ⟨fun e1 h6 x6 => ?_, fun e1 _ h6 _ _ x6 => ?_⟩, ?_⟩
      · have e1' : (doesR m).1 = true := e1
        refine (with_c (s3.ext x6) (by omega) L[j]).mono ?_
        rintro _ h8 ⟨x8, a8, c8, rfl, s8⟩
        rw [norm_id hw] at *
        exact ⟨x8.kp _, a8, _, c8, rfl, _, by rw [if_pos e1']; rfl, rfl, insW_len _ _, x3.trans (x6.trans x8), s8⟩
      · have e1' : (doesR m).1 = false := e1
        exact ⟨T, by rw [if_neg (by rw [e1']; simp)]; rfl, rfl, by omega, x3.trans x6, s3.ext x6⟩
      · rintro a7 _ c7 h7 ⟨T7, eT7, rfl, b7, x7, s7⟩
        refine ⟨fun a' n' c' h' => ∃ T', T' = insAll T7 (if (doesR m).2.1 then [⟨true, m.val⟩] else []) ∧ n' = T'.length ∧ T'.length ≤ T7.length + 1 ∧ Ext h h' ∧ Sl eMt h' a' c' T', ⟨fun e2 => ?_, fun e2 => ?_⟩, ?_⟩
        · have e2' : (doesR m).2.1 = true := e2
          refine (with_c s7 (by omega) ⟨true, m.val⟩).mono ?_
          rintro _ h10 ⟨x10, a10, c10, rfl, s10⟩
          exact ⟨x10.kp _, a10, _, c10, rfl, _, by rw [if_pos e2']; rfl, rfl, insW_len _ _, x7.trans x10, s10⟩
        · have e2' : (doesR m).2.1 = false := e2
          exact ⟨T7, by rw [if_neg (by rw [e2']; simp)]; rfl, rfl, by omega, x7, s7⟩
        · rintro a9 _ c9 h9 ⟨T9, eT9, rfl, b9, x9, s9⟩
          refine ⟨fun e3 => ?_, fun e3 => ?_⟩
          · have e3' : (doesR m).2.2 = true := e3
            refine (with_c s9 (by omega) nil).mono ?_
            rintro _ h11 ⟨x11, a11, c11, rfl, s11⟩
            refine ⟨x11.kp _, a11, _, c11, rfl, _, ?_, rfl, x9.trans x11, s11⟩
            rw [eR, insAll_app, insAll_app, ← eT7, ← eT9, if_pos e3']; rfl
          · have e3' : (doesR m).2.2 = false := e3
            refine ⟨T9, ?_, rfl, x9, s9⟩
            rw [eR, insAll_app, insAll_app, ← eT7, ← eT9, if_neg (by rw [e3']; simp)]; rfl
    · rintro a4 _ c4 h4 ⟨T4, rfl, rfl, x4, s4⟩
      rw [wadd j (by omega)]
      exact ⟨⟨j + 1, rfl, hjl, by rw [eN], x4, by rw [eN]; exact s4⟩, by simp only [Int.toNat_natCast]; omega⟩
  · have hjl : j = L.length := by have := ge_of_dec hge; omega
    subst hjl
    rw [List.take_length] at hT
    have : next L m = T := hT
    rw [this]
    exact ⟨x3, out, c', rfl, s3⟩
end Go.Proofs.Ytmdgfbhmogjklaa
