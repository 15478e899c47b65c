/-
The manager's methods.
-/
import Derived.Test.YtfdgjgjcppfmiaaGC
namespace Go.Proofs.Ytfdgjgjcppfmiaa
namespace Mg
open Go

section
variable {W : Nat → Prop} {h h' : Heap} {p : Nat} {S : Rg} {ra fa : Option Addr} {qc fc mb : Nat} {kv : List (Int × Value)} {Ds : List Dr} {K : Nat}

theorem made_m (M : Mem W h p S ra fa qc fc mb kv Ds) (w : WF K S) : HC Try.prog 32 #[.pointer (some ⟨p, 0, none⟩)] h fun v h' => v = .bool true ∧ h' = h := by
  have := w.n
  exact f32_sh _ _ _ ⟨true, ⟨fun _ => ⟨p, 0, rfl, _, _, _, by rw [hcell_row M.row]; rfl, (decide_eq_true (by omega)).symm⟩, fun g => by simp at g⟩, rfl, rfl⟩
theorem Mem.ra_some (M : Mem W h p S ra fa qc fc mb kv Ds) (w : WF K S) : ∃ rb ro, ra = some ⟨rb, ro, none⟩ := by
  obtain ⟨b, o, e, _⟩ := M.si.addr (by have := w.n; omega)
  exact ⟨b, o, e⟩
theorem Mem.cell {rb ro : Nat} (M : Mem W h p S (some ⟨rb, ro, none⟩) fa qc fc mb kv Ds) {r : Int} (hr : S.inn r) : HCells h rb (ro + r.toNat * 4) (eInf.enc (S.at r)) := by
  obtain ⟨hi, e⟩ := at_get hr
  obtain ⟨b, o, e2, d⟩ := M.si.at (List.getElem?_eq_getElem hi)
  cases e2
  rw [e]; exact d
theorem Mem.word {rb ro : Nat} (M : Mem W h p S (some ⟨rb, ro, none⟩) fa qc fc mb kv Ds) {r : Int} (hr : S.inn r) {j : Nat} {u : Value} {x' : Inf} (hj : j < 4) (he : eInf.enc x' = (eInf.enc (S.at r)).set j u) {q : Nat} (hq : q = ro + r.toNat * 4 + j) :
    HW h rb q ∧ ∀ h', h' = hset h rb q u → Mem W h' p (S.set r x') (some ⟨rb, ro, none⟩) fa qc fc mb kv Ds ∧ Fr W h h' := by
  obtain ⟨hi, e⟩ := at_get hr
  rw [e] at he
  obtain ⟨k1, k2⟩ := M.si.word M.oi hi hj he (p := q) hq
  refine ⟨k1, fun h' e' => ?_⟩
  obtain ⟨s, w, f⟩ := k2 h' e'
  have f' : Fr (blkA (some ⟨rb, ro, none⟩)) h h' := f.mono fun _ _ e => blkA_some.2 e
  exact ⟨M.setI (by simp) f' s w, f'.mono fun b _ g => M.wi b g⟩
theorem Mem.words {rb ro : Nat} (M : Mem W h p S (some ⟨rb, ro, none⟩) fa qc fc mb kv Ds) {r : Int} (hr : S.inn r) (x' : Inf) {q : Nat} (hq : q = ro + r.toNat * 4) :
    HWs h rb q 4 ∧ ∀ h', h' = hsets h rb q (eInf.enc x') → Mem W h' p (S.set r x') (some ⟨rb, ro, none⟩) fa qc fc mb kv Ds ∧ Fr W h h' := by
  obtain ⟨hi, e⟩ := at_get hr
  obtain ⟨k1, k2⟩ := M.si.words M.oi hi x' (p := q) hq
  refine ⟨k1, fun h' e' => ?_⟩
  obtain ⟨s, w, f⟩ := k2 h' e'
  have f' : Fr (blkA (some ⟨rb, ro, none⟩)) h h' := f.mono fun _ _ e => blkA_some.2 e
  exact ⟨M.setI (by simp) f' s w, f'.mono fun b _ g => M.wi b g⟩

/-- What 'at' tells. -/
def atE (S : Rg) (r st : Int) : Int := if ¬ S.inn r then 90 else if st ≠ 0 ∧ (S.at r).st ≠ st then 91 else 0
theorem at_m {rb ro : Nat} (M : Mem W h p S (some ⟨rb, ro, none⟩) fa qc fc mb kv Ds) (w : WF K S) (r st : Int) : HC Try.prog 31 #[ptr p 0, .int .i64 r, .int .i64 st] h fun v h' =>
    v = .tuple #[.pointer (if atE S r st = 0 then some ⟨rb, ro + r.toNat * 4, none⟩ else none), .int .i64 (atE S r st)] ∧ h' = h := by
  have c0 : hcell h p 0 = some (.slice (some ⟨rb, ro, none⟩) S.I.length qc) := by rw [hcell_row M.row]; rfl
  unfold atE
  refine f31_sh _ _ _ _ _ _ ⟨true, made_m M w, fun g => by simp at g, fun _ => ⟨decide (¬ S.inn r), ⟨fun g => ?_, fun g => ⟨_, _, _, c0, ?_⟩⟩, fun g => ?_, fun g => ⟨decide (st ≠ 0 ∧ (S.at r).st ≠ st), ⟨fun g2 => ⟨_, _, _, c0, rb, ro, rfl, ?_⟩, fun g2 => ?_⟩, fun g2 => ?_, fun g2 => ⟨_, _, _, c0, rb, ro, rfl, ?_⟩⟩⟩⟩
  · have := of_decide_eq_true g
    exact decide_eq_true fun hi => by have := hi.1; omega
  · have := of_decide_eq_false g
    rw [Bool.eq_iff_iff]; simp only [decide_eq_true_eq]; unfold Rg.inn; omega
  · have hi := of_decide_eq_true g
    rw [if_pos hi]; exact ⟨rfl, rfl⟩
  · have hi : S.inn r := by simpa using g
    refine ⟨hi.1, hi.2, _, (M.cell hi).1, ?_⟩
    have hst : st ≠ 0 := by simpa using g2
    rw [Bool.eq_iff_iff]; simp [hst]
  · have hst : st = 0 := by simpa using g2
    simp [hst]
  · have hi : S.inn r := by simpa using g
    have hb := of_decide_eq_true g2
    rw [if_neg (show ¬ ¬ S.inn r from fun q => q hi), if_pos hb]; exact ⟨rfl, rfl⟩
  · have hi : S.inn r := by simpa using g
    have hb := of_decide_eq_false g2
    refine ⟨hi.1, hi.2, ?_⟩
    rw [if_neg (show ¬ ¬ S.inn r from fun q => q hi), if_neg hb]
    exact ⟨rfl, rfl⟩
theorem at_ok {S : Rg} {r st : Int} : atE S r st = 0 ↔ S.inn r ∧ (st = 0 ∨ (S.at r).st = st) := by
  unfold atE
  split
  · rename_i h; simp [h]
  · rename_i h
    simp only [Decidable.not_not] at h
    split
    · rename_i h2; constructor
      · intro g; simp at g
      · rintro ⟨_, g⟩; rcases g with g | g
        · exact absurd g h2.1
        · exact absurd g h2.2
    · rename_i h2
      refine ⟨fun _ => ⟨h, ?_⟩, fun _ => rfl⟩
      by_cases e : st = 0
      · exact .inl e
      · exact .inr (Decidable.byContradiction fun g => h2 ⟨e, g⟩)
theorem at_err {S : Rg} {r st : Int} (h : atE S r st ≠ 0) : atE S r st = if ¬ S.inn r then 90 else 91 := by
  unfold atE at *
  split
  · rfl
  · rename_i hi
    rw [if_neg hi] at h
    split
    · rfl
    · rename_i h2; rw [if_neg h2] at h; exact absurd rfl h

theorem current_m (M : Mem W h p S ra fa qc fc mb kv Ds) (w : WF K S) : HC Try.prog 14 #[ptr p 0] h fun v h' => v = .int .i64 S.cur ∧ h' = h :=
  f14_sh _ _ _ _ ⟨true, made_m M w, fun g => by simp at g, fun _ => ⟨_, by rw [hcell_row M.row]; rfl, rfl, rfl⟩⟩
theorem last_m (M : Mem W h p S ra fa qc fc mb kv Ds) (w : WF K S) : HC Try.prog 15 #[ptr p 0] h fun v h' => v = .int .u64 S.last ∧ h' = h :=
  f15_sh _ _ _ _ ⟨true, made_m M w, fun g => by simp at g, fun _ => ⟨_, by rw [hcell_row M.row]; rfl, rfl, rfl⟩⟩
theorem frees_m (M : Mem W h p S ra fa qc fc mb kv Ds) (w : WF K S) : HC Try.prog 27 #[ptr p 0] h fun v h' => New eI 3 h h' v S.Q := by
  refine f27_sh _ _ _ _ ⟨true, made_m M w, fun g => by simp at g, fun _ => ⟨_, _, _, by rw [hcell_row M.row]; rfl, (clone_m M.sq (by have := w.qlen; omega)).mono ?_⟩⟩
  rintro v h' ⟨a, c, rfl, n⟩
  exact ⟨_, _, _, rfl, a, c, rfl, n⟩
theorem info_m (M : Mem W h p S ra fa qc fc mb kv Ds) (w : WF K S) (r : Int) : HC Try.prog 11 #[ptr p 0, .int .i64 r] h fun v h' =>
    v = .tuple #[.agg (eInf.enc (if S.inn r then S.at r else z0)).toArray, .bool (decide (S.inn r))] ∧ Ext h h' := by
  obtain ⟨rb, ro, rfl⟩ := M.ra_some w
  refine f11_sh _ _ _ _ _ fun pb h1 lo lt x1 => ⟨_, _, at_m (M.ext x1) w r 0, fun g => ?_, fun g => ?_⟩
  · have hi : ¬ S.inn r := fun hi => by
      have : atE S r 0 = 0 := at_ok.2 ⟨hi, .inl rfl⟩
      rw [this] at g; simp at g
    intro h2 f2
    rw [if_neg hi, decide_eq_false hi]
    exact ⟨rfl, ext_of_fr f2 x1 lo⟩
  · have h0 : atE S r 0 = 0 := by simpa using g
    have hi := (at_ok.1 h0).1
    have d := (M.ext x1).cell hi
    rw [if_pos h0]
    refine ⟨rb, _, rfl, _, _, _, _, d.1, d.2.1, d.2.2.1, d.2.2.2.1, fun h3 f3 => ?_⟩
    rw [if_pos hi, decide_eq_true hi]
    exact ⟨rfl, ext_of_fr f3 x1 lo⟩

theorem seal_m (M : Mem W h p S ra fa qc fc mb kv Ds) (w : WF K S) : HC Try.prog 23 #[ptr p 0] h fun v h' => v = .int .i64 (mSeal S).1 ∧ AftM W h p (mSeal S).2 h' := by
  obtain ⟨rb, ro, rfl⟩ := M.ra_some w
  unfold mSeal
  refine f23_sh _ _ _ _ ⟨true, made_m M w, fun g => by simp at g, fun _ => ⟨_, by rw [hcell_row M.row]; rfl, fun g => ?_, fun g => ⟨_, _, _, by rw [hcell_row M.row]; rfl, rb, ro, rfl, ?_⟩⟩⟩
  · rw [if_pos (eq_of_beq g)]
    exact ⟨rfl, M.aft (Ext.refl _)⟩
  · have hc : S.cur ≠ -1 := by simpa using g
    have hi := (w.cur.resolve_left hc).1
    rw [if_neg hc]
    obtain ⟨k1, k2⟩ := M.word hi (j := 0) (u := .int .i64 3) (x' := ⟨3, (S.at S.cur).sq, (S.at S.cur).pins, (S.at S.cur).er⟩) (by decide) rfl (q := ro + S.cur.toNat * 4) rfl
    refine ⟨hi.1, hi.2, k1, fun h1 e1 => ?_⟩
    obtain ⟨M1, f1⟩ := k2 h1 e1
    refine ⟨HW_row M1.row (by simp), fun h2 e2 => ⟨rfl, ?_⟩⟩
    have f2 := fr_hset_of e2
    have M2 := M1.setP (last := S.last) (cur := -1) f2 (by rw [e2, hset_row M1.row]; rfl)
    exact M.aft' (f1.trans f2 fun b _ e => e ▸ M.wp) M2 fun _ g => .inl g
theorem mark_m (M : Mem W h p S ra fa qc fc mb kv Ds) (w : WF K S) (r : Int) : HC Try.prog 24 #[ptr p 0, .int .i64 r] h fun v h' => v = .int .i64 (mMark S r).1 ∧ AftM W h p (mMark S r).2 h' := by
  obtain ⟨rb, ro, rfl⟩ := M.ra_some w
  refine f24_sh _ _ _ _ _ ⟨_, _, at_m M w r 3, fun h1 => AftM W h p (mMark S r).2 h1 ∧ atE S r 3 = (mMark S r).1, ⟨fun g => ?_, fun g => ?_⟩, ?_⟩
  · have h0 : atE S r 3 = 0 := eq_of_beq g
    obtain ⟨hi, hs⟩ := at_ok.1 h0
    have hs' : (S.at r).st = 3 := hs.resolve_left (by decide)
    rw [if_pos h0]
    obtain ⟨k1, k2⟩ := M.word hi (j := 0) (u := .int .i64 4) (x' := ⟨4, (S.at r).sq, (S.at r).pins, (S.at r).er⟩) (by decide) rfl (q := ro + r.toNat * 4) rfl
    have em : mMark S r = (0, S.set r ⟨4, (S.at r).sq, (S.at r).pins, (S.at r).er⟩) := by unfold mMark; rw [if_neg (by simpa using hi), if_neg (by simpa using hs')]
    refine ⟨rb, _, rfl, k1, fun h2 e2 => ?_⟩
    obtain ⟨M2, f2⟩ := k2 h2 e2
    rw [em, h0]
    exact ⟨M.aft' f2 M2 fun _ g => .inl g, rfl⟩
  · have h0 : atE S r 3 ≠ 0 := by simpa using g
    have em : mMark S r = (atE S r 3, S) := by
      rw [at_err h0]
      unfold mMark
      by_cases hi : S.inn r
      · have hs : (S.at r).st ≠ 3 := fun e => h0 (at_ok.2 ⟨hi, .inr e⟩)
        rw [if_neg (by simpa using hi), if_pos hs, if_neg (by simpa using hi)]
      · rw [if_pos hi, if_pos hi]
    rw [em]
    exact ⟨M.aft (Ext.refl _), rfl⟩
  · rintro h1 ⟨a1, e⟩
    rw [e]; exact ⟨rfl, a1⟩
theorem pin_m (M : Mem W h p S ra fa qc fc mb kv Ds) (w : WF K S) (r : Int) : HC Try.prog 26 #[ptr p 0, .int .i64 r] h fun v h' => v = .bool (mPin S r).1 ∧ AftM W h p (mPin S r).2 h' := by
  obtain ⟨rb, ro, rfl⟩ := M.ra_some w
  have hyes : S.inn r → ((S.at r).st = 2 ∨ (S.at r).st = 3) → (S.at r).pins ≠ 2147483647 → mPin S r = (true, S.set r ⟨(S.at r).st, (S.at r).sq, (S.at r).pins + 1, (S.at r).er⟩) := fun h1 h2 h3 => by unfold mPin; rw [if_pos ⟨h1, h2, h3⟩]
  have hno : ¬ (S.inn r ∧ ((S.at r).st = 2 ∨ (S.at r).st = 3) ∧ (S.at r).pins ≠ 2147483647) → mPin S r = (false, S) := fun h1 => by unfold mPin; rw [if_neg h1]
  refine f26_sh _ _ _ _ _ ⟨_, _, at_m M w r 0, !decide (S.inn r ∧ ((S.at r).st = 2 ∨ (S.at r).st = 3) ∧ (S.at r).pins ≠ 2147483647), ⟨fun g => ?_, fun g => ?_⟩, fun g => ?_, fun g => ?_⟩
  · have h0 : atE S r 0 ≠ 0 := by simpa using g
    have hi : ¬ S.inn r := fun hi => h0 (at_ok.2 ⟨hi, .inl rfl⟩)
    simp [hi]
  · have h0 : atE S r 0 = 0 := by simpa using g
    have hi := (at_ok.1 h0).1
    have d := M.cell hi
    have f := w.each r hi
    rw [if_pos h0]
    refine ⟨rb, _, rfl, _, d.1, fun g1 => ?_, fun g1 => ⟨fun g2 => ?_, fun g2 => ⟨_, d.2.2.1, ?_⟩⟩⟩
    · have e := eq_of_beq g1
      simp only [Bool.not_eq_true', decide_eq_false_iff_not]
      rintro ⟨_, k, _⟩; omega
    · have e := eq_of_beq g2
      simp only [Bool.not_eq_true', decide_eq_false_iff_not]
      rintro ⟨_, k, _⟩; omega
    · have e1 : (S.at r).st ≠ 1 := by simpa using g1
      have e2 : (S.at r).st ≠ 4 := by simpa using g2
      have f1 := f.st
      have f2 := f.pins
      have hst : (S.at r).st = 2 ∨ (S.at r).st = 3 := by omega
      by_cases hp : (S.at r).pins = 2147483647
      · simp [hp]
      · have : ¬ (2147483647 ≤ (S.at r).pins) := by omega
        simp [hi, hst, hp, this]
  · rw [hno (of_decide_eq_false (by rw [Bool.not_eq_true'] at g; exact g))]
    exact ⟨rfl, M.aft (Ext.refl _)⟩
  · have hy : S.inn r ∧ ((S.at r).st = 2 ∨ (S.at r).st = 3) ∧ (S.at r).pins ≠ 2147483647 := of_decide_eq_true (by rw [Bool.not_eq_false'] at g; exact g)
    have h0 : atE S r 0 = 0 := at_ok.2 ⟨hy.1, .inl rfl⟩
    have f := (w.each r hy.1).pins
    rw [if_pos h0, hyes hy.1 hy.2.1 hy.2.2]
    have e1 : IntKind.i64.wrap ((S.at r).pins + 1) = (S.at r).pins + 1 := w64 (by omega) (by omega)
    obtain ⟨k1, k2⟩ := M.word hy.1 (j := 2) (u := .int .i64 (IntKind.i64.wrap ((S.at r).pins + 1))) (x' := ⟨(S.at r).st, (S.at r).sq, (S.at r).pins + 1, (S.at r).er⟩) (by decide) (by rw [e1]; rfl) (q := ro + r.toNat * 4 + 2) rfl
    refine ⟨rb, _, rfl, _, (M.cell hy.1).2.2.1, k1, fun h1 e => ⟨rfl, ?_⟩⟩
    obtain ⟨M1, f1⟩ := k2 h1 e
    exact M.aft' f1 M1 fun _ g => .inl g
end
end Mg
end Go.Proofs.Ytfdgjgjcppfmiaa
