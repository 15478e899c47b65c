/-
The document's manager: its methods.
-/
import Derived.Test.YtfdgjgjcppfmiaaGR
namespace Go.Proofs.Ytfdgjgjcppfmiaa
namespace Mg
open Go

section
variable {W : Nat → Prop} {h h' : Heap} {x : Nat} {S : Rg} {la qa da : Option Addr} {lc qc dc : Nat} {Ds : List Dr} {K : Nat}

theorem is_r (M : Rm W h x S la qa da lc qc dc Ds) (r : Int) : HC Try.prog 56 #[ptr x 0, .int .i64 r] h fun v h' => v = .bool (decide (S.inn r)) ∧ h' = h := by
  refine f56_sh _ _ _ _ _ ⟨_, ⟨fun g => ⟨_, _, _, by rw [hcell_row M.row]; rfl, ?_⟩, fun g => ?_⟩, rfl, rfl⟩
  · have := of_decide_eq_true g
    rw [Bool.eq_iff_iff]; simp only [decide_eq_true_eq]; unfold Rg.inn; omega
  · have := of_decide_eq_false g
    exact decide_eq_false fun hi => by have := hi.1; omega
theorem not_inn {r : Int} (g : (!decide (S.inn r)) = true) : ¬ S.inn r := of_decide_eq_false (by rw [Bool.not_eq_true'] at g; exact g)
theorem yes_inn {r : Int} (g : (!decide (S.inn r)) = false) : S.inn r := of_decide_eq_true (by rw [Bool.not_eq_false'] at g; exact g)

theorem seal_r (M : Rm W h x S la qa da lc qc dc Ds) (w : WF K S) : HC Try.prog 40 #[ptr x 0] h fun v h' => v = .int .i64 (mSeal S).1 ∧ AftR W h x (mSeal S).2 h' := by
  obtain ⟨rb, ro, rfl⟩ := M.la_some w
  unfold mSeal
  refine f40_sh _ _ _ _ ⟨_, by rw [hcell_row M.row]; rfl, fun g => ?_, fun g => ⟨_, _, _, by rw [hcell_row M.row]; rfl, rb, ro, rfl, ?_⟩⟩
  · have hn := of_decide_eq_true g
    have hc : S.cur = -1 := by rcases w.cur with k | k; exact k; have := k.1.1; omega
    rw [if_pos hc]
    exact ⟨rfl, M.aft (Ext.refl _)⟩
  · have hn := of_decide_eq_false g
    have hc : S.cur ≠ -1 := by omega
    have hi := (w.cur.resolve_left hc).1
    rw [if_neg hc]
    obtain ⟨k1, k2⟩ := M.word hi (j := 0) (u := .int .i64 3) (x' := ⟨3, (S.at S.cur).sq, (S.at S.cur).pins, (S.at S.cur).er⟩) (by decide) rfl (q := ro + S.cur.toNat * 4) rfl
    refine ⟨hi.1, hi.2, k1, fun h1 e1 => ?_⟩
    obtain ⟨M1, f1⟩ := k2 h1 e1
    refine ⟨HW_row M1.row (by simp), fun h2 e2 => ⟨rfl, ?_⟩⟩
    have f2 := fr_hset_of e2
    have M2 := M1.setP (last := S.last) (cur := -1) f2 (by rw [e2, hset_row M1.row]; rfl)
    exact M.aft' (f1.trans f2 fun b _ e => e ▸ M.wp) M2 fun _ g => .inl g
theorem mark_r (M : Rm W h x S la qa da lc qc dc Ds) (w : WF K S) (r : Int) : HC Try.prog 41 #[ptr x 0, .int .i64 r] h fun v h' => v = .int .i64 (mMark S r).1 ∧ AftR W h x (mMark S r).2 h' := by
  obtain ⟨rb, ro, rfl⟩ := M.la_some w
  unfold mMark
  refine f41_sh _ _ _ _ _ ⟨_, is_r M r, fun g => ?_, fun g => ⟨_, _, _, by rw [hcell_row M.row]; rfl, rb, ro, rfl, (yes_inn g).1, (yes_inn g).2, _, (M.cell (yes_inn g)).1, fun g2 => ?_, fun g2 => ?_⟩⟩
  · rw [if_pos (not_inn g)]
    exact ⟨rfl, M.aft (Ext.refl _)⟩
  all_goals have hi := yes_inn g
  · have hs : (S.at r).st ≠ 3 := by simpa using g2
    rw [if_neg (show ¬ ¬ S.inn r from fun q => q hi), if_pos hs]
    exact ⟨rfl, M.aft (Ext.refl _)⟩
  · have hs : ¬ (S.at r).st ≠ 3 := by simpa using g2
    rw [if_neg (show ¬ ¬ S.inn r from fun q => q hi), if_neg hs]
    obtain ⟨k1, k2⟩ := M.word hi (j := 0) (u := .int .i64 4) (x' := ⟨4, (S.at r).sq, (S.at r).pins, (S.at r).er⟩) (by decide) rfl (q := ro + r.toNat * 4) rfl
    refine ⟨k1, fun h2 e2 => ?_⟩
    obtain ⟨M2, f2⟩ := k2 h2 e2
    exact ⟨rfl, M.aft' f2 M2 fun _ g => .inl g⟩
theorem pin_r (M : Rm W h x S la qa da lc qc dc Ds) (w : WF K S) (r : Int) : HC Try.prog 44 #[ptr x 0, .int .i64 r] h fun v h' => v = .bool (mPin S r).1 ∧ AftR W h x (mPin S r).2 h' := by
  obtain ⟨rb, ro, rfl⟩ := M.la_some w
  have hno : ¬ (S.inn r ∧ ((S.at r).st = 2 ∨ (S.at r).st = 3) ∧ (S.at r).pins ≠ 2147483647) → mPin S r = (false, S) := fun h1 => by unfold mPin; rw [if_neg h1]
  have hcl : ∀ hi : S.inn r, HCells h rb (ro + r.toNat * 4) (eInf.enc (S.at r)) := fun hi => M.cell hi
  refine f44_sh _ _ _ _ _ ⟨!decide (S.inn r ∧ ((S.at r).st = 2 ∨ (S.at r).st = 3) ∧ (S.at r).pins ≠ 2147483647), ⟨_, is_r M r, fun g => ?_, fun g => ⟨_, _, _, by rw [hcell_row M.row]; rfl, rb, ro, rfl, (yes_inn g).1, (yes_inn g).2, _, (hcl (yes_inn g)).1, fun g2 => ⟨fun g3 => ?_, fun g3 => ⟨_, (hcl (yes_inn g)).2.2.1, ?_⟩⟩, fun g2 => ⟨_, (hcl (yes_inn g)).2.2.1, ?_⟩⟩⟩, fun g => ?_, fun g => ?_⟩
  · have hi := not_inn g
    simp [hi]
  · have e1 : (S.at r).st ≠ 2 := by simpa using g2
    have e2 : (S.at r).st ≠ 3 := by simpa using g3
    simp [e1, e2]
  · have e2 : (S.at r).st = 3 := by simpa using g3
    by_cases hp : (S.at r).pins = 2147483647
    · simp [hp]
    · simp [yes_inn g, e2, hp]
  · have e1 : (S.at r).st = 2 := by simpa using g2
    by_cases hp : (S.at r).pins = 2147483647
    · simp [hp]
    · simp [yes_inn g, e1, hp]
  · rw [hno (of_decide_eq_false (by rw [Bool.not_eq_true'] at g; exact g))]
    exact ⟨rfl, M.aft (Ext.refl _)⟩
  · have hy : S.inn r ∧ ((S.at r).st = 2 ∨ (S.at r).st = 3) ∧ (S.at r).pins ≠ 2147483647 := of_decide_eq_true (by rw [Bool.not_eq_false'] at g; exact g)
    have f := (w.each r hy.1).pins
    have em : mPin S r = (true, S.set r ⟨(S.at r).st, (S.at r).sq, (S.at r).pins + 1, (S.at r).er⟩) := by unfold mPin; rw [if_pos hy]
    rw [em]
    have e1 : IntKind.i64.wrap ((S.at r).pins + 1) = (S.at r).pins + 1 := w64 (by omega) (by omega)
    obtain ⟨k1, k2⟩ := M.word hy.1 (j := 2) (u := .int .i64 (IntKind.i64.wrap ((S.at r).pins + 1))) (x' := ⟨(S.at r).st, (S.at r).sq, (S.at r).pins + 1, (S.at r).er⟩) (by decide) (by rw [e1]; rfl) (q := ro + r.toNat * 4 + 2) rfl
    refine ⟨_, _, _, by rw [hcell_row M.row]; rfl, rb, ro, rfl, hy.1.1, hy.1.2, _, (hcl hy.1).2.2.1, k1, fun h1 e => ⟨rfl, ?_⟩⟩
    obtain ⟨M1, f1⟩ := k2 h1 e
    exact M.aft' f1 M1 fun _ g => .inl g

set_option maxHeartbeats 1600000 in
theorem open_r (M : Rm W h x S la qa da lc qc dc Ds) (w : WF K S) : HC Try.prog 39 #[ptr x 0] h fun v h' => v = .tuple #[.int .i64 (mOpen S).1.1, .int .u64 (mOpen S).1.2.1, .int .i64 (mOpen S).1.2.2] ∧ AftR W h x (mOpen S).2 h' := by
  obtain ⟨rb, ro, rfl⟩ := M.la_some w
  have hl := w.last
  have hcur : ∀ g : decide (S.cur ≥ 0) = false, ¬ S.cur ≠ -1 := fun g => by
    have := of_decide_eq_false g
    rcases w.cur with k | k
    · omega
    · have := k.1.1; omega
  refine f39_sh _ _ _ _ ⟨_, by rw [hcell_row M.row]; rfl, fun g => ?_, fun g => ⟨_, _, _, by rw [hcell_row M.row]; rfl, fun g2 => ?_, fun g2 => ⟨_, by rw [hcell_row M.row]; rfl, fun g3 => ?_, fun g3 => ?_⟩⟩⟩
  · have hc : S.cur ≠ -1 := by have := of_decide_eq_true g; omega
    unfold mOpen
    rw [if_pos hc]
    exact ⟨rfl, M.aft (Ext.refl _)⟩
  · have hc := hcur g
    have hq : S.Q = [] := by
      have : S.Q.length = 0 := by have := eq_of_beq g2; omega
      exact List.length_eq_zero_iff.1 this
    unfold mOpen
    rw [if_neg hc, hq]
    exact ⟨rfl, M.aft (Ext.refl _)⟩
  · have hc := hcur g
    have he := eq_of_beq g3
    cases hQ : S.Q with
    | nil => rw [hQ] at g2; simp at g2
    | cons c Q' =>
      unfold mOpen
      rw [if_neg hc, hQ]
      simp only
      rw [if_pos he]
      exact ⟨rfl, M.aft (Ext.refl _)⟩
  · have hc := hcur g
    have hl' : S.last ≠ 9223372036854775807 := by simpa using g3
    cases hQ : S.Q with
    | nil => rw [hQ] at g2; simp at g2
    | cons c Q' =>
      have hcq := w.q c (by rw [hQ]; simp)
      have hi := hcq.1
      have em : mOpen S = ((c, S.last + 1, 0), { (S.set c ⟨2, S.last + 1, (S.at c).pins, (S.at c).er⟩) with Q := Q', last := S.last + 1, cur := c }) := by
        unfold mOpen
        rw [if_neg hc, hQ]
        simp only
        rw [if_neg hl']
      have hql := w.qlen
      rw [hQ] at hql
      simp only [List.length_cons] at hql
      have wl : IntKind.u64.wrap (S.last + 1) = S.last + 1 := wu64 (by omega) (by omega)
      rw [em]
      obtain ⟨fb, fo, efa, df⟩ := M.sq.at (i := 0) (x := c) (by rw [hQ]; rfl)
      refine ⟨fb, fo, efa, by omega, by simp only [List.length_cons]; omega, c, df.1, HW_row M.row (by simp), fun h1 e1 nb h2 en eh => ?_⟩
      have f1 := fr_hset_of e1
      have M1 := M.setP (last := S.last) (cur := c) f1 (by rw [e1, hset_row M.row]; rfl)
      have hs1 := f1.size
      have x2 : Ext h1 h2 := by rw [eh]; exact Ext.push _ _
      have r2 : h2[nb]? = some (.cells (([] : List Int).flatMap eI.enc).toArray 3 (0, 0)) := by rw [eh]; exact push_new en
      have hs2 := x2.size
      have M2 := M1.ext x2
      have sq2 : Sl eI h2 qa qc (c :: Q') := by have := M2.sq; rw [show ({ S with last := S.last, cur := c } : Rg).Q = c :: Q' from hQ] at this; exact this
      have hqc := sq2.le
      simp only [List.length_cons] at hqc
      refine ⟨_, _, _, by rw [hcell_row M2.row]; rfl, by omega, by rw [show ({ S with last := S.last, cur := c } : Rg).Q = c :: Q' from hQ]; simp only [List.length_cons]; omega, by rw [show ({ S with last := S.last, cur := c } : Rg).Q = c :: Q' from hQ]; simp only [List.length_cons]; omega, fun sl esl => ?_⟩
      have sc := sq2.cut (l := 1) (r := (c :: Q').length) (by simp) (Nat.le_refl _)
      rw [List.take_length, List.drop_succ_cons, List.drop_zero] at sc
      have esl' : sl = slA qa 1 eI.k qc := esl
      rw [← esl'] at sc
      have n2 : Int.toNat (((({ S with last := S.last, cur := c } : Rg).Q.length : Nat)) : Int) - Int.toNat 1 = Q'.length := by rw [show ({ S with last := S.last, cur := c } : Rg).Q = c :: Q' from hQ]; rw [Int.toNat_natCast]; rfl
      rw [n2]
      have hlw : nb = h1.size := en
      refine app_sl (L := []) (N := h1.size) aI (Sl.lit (L := []) r2) (Own.lit (L := []) r2 (by omega)) sc (by omega) (by simp; omega) fun a' c' h3 f3 s3 w3 b3 => ?_
      rw [List.nil_append] at s3
      have s3x : Ext h1 h3 := ((x2.fr _).trans f3 fun _ _ s => s).ext fun b hb g => by rw [blkA_some] at g; omega
      obtain ⟨k1, k2⟩ := M1.setQ (s3x.fr _) s3 (w3.down (Nat.zero_le _)) (fun b g => .inr (w3.low g).1) (n' := ([] : List Int).length + Q'.length) (by simp)
      refine ⟨_, _, _, rfl, k1, fun h4 e4 => ?_⟩
      obtain ⟨M3, f3'⟩ := k2 h4 e4
      refine ⟨_, by rw [hcell_row M3.row]; rfl, HW_row M3.row (by simp), fun h5 e5 => ?_⟩
      have f4 := fr_hset_of e5
      have M4 := M3.setP (last := S.last + 1) (cur := c) f4 (by rw [e5, hset_row M3.row]; show some (Obj.cells #[.slice (some ⟨rb, ro, none⟩) S.I.length lc, .slice a' Q'.length c', .int .u64 (IntKind.u64.wrap (S.last + 1)), .int .i64 c, .slice da Ds.length dc] tR (0, 0)) = _; rw [wl])
      have hs3 := f3'.size
      refine ⟨_, _, _, by rw [hcell_row M4.row]; rfl, _, by rw [hcell_row M4.row]; rfl, rb, ro, rfl, hi.1, hi.2, ?_⟩
      obtain ⟨j1, j2⟩ := M4.word (r := c) hi (j := 0) (u := .int .i64 2) (x' := ⟨2, (S.at c).sq, (S.at c).pins, (S.at c).er⟩) (by decide) rfl (q := ro + c.toNat * 4) rfl
      refine ⟨j1, fun h6 e6 => ?_⟩
      obtain ⟨M5, f5⟩ := j2 h6 e6
      refine ⟨_, _, _, by rw [hcell_row M5.row]; rfl, _, by rw [hcell_row M5.row]; rfl, _, by rw [hcell_row M5.row]; rfl, rb, ro, rfl, hi.1, (inn_set.2 hi : (Rg.set S c ⟨2, (S.at c).sq, (S.at c).pins, (S.at c).er⟩).inn c).2, ?_⟩
      obtain ⟨l1, l2⟩ := M5.word (r := c) (inn_set.2 hi) (j := 1) (u := .int .u64 (S.last + 1)) (x' := ⟨2, S.last + 1, (S.at c).pins, (S.at c).er⟩) (by decide) (by rw [at_set (S := { S with Q := Q', last := S.last + 1, cur := c }) hi hi, if_pos rfl]; rfl) (q := ro + c.toNat * 4 + 1) rfl
      refine ⟨l1, fun h7 e7 => ?_⟩
      obtain ⟨M6, f6⟩ := l2 h7 e7
      rw [set_set] at M6
      refine ⟨_, by rw [hcell_row M6.row]; rfl, _, by rw [hcell_row M6.row]; rfl, rfl, ?_⟩
      have hin : ∀ i, i < h.size → grown W h1 h4 i → W i := fun i hi g => g.elim id fun g => by omega
      refine M.aft' ((((f1.mono fun b _ e => e ▸ M.wp).trans f3' fun b _ s => s).trans (f4.mono fun b _ e => e ▸ M3.wp) hin).trans (f5.trans f6 fun _ _ s => s) hin) M6 fun b g => g.imp id fun g => by omega

set_option maxHeartbeats 1600000 in
theorem drain_r (M : Rm W h x S la qa da lc qc dc Ds) (w : WF K S) (t r : Int) : HC Try.prog 42 #[ptr x 0, .int .i64 t, .int .i64 r] h fun v h' => v = .tuple #[.bool (mDrain S t r).1.1, .int .i64 (mDrain S t r).1.2] ∧ AftR W h x (mDrain S t r).2 h' := by
  obtain ⟨rb, ro, rfl⟩ := M.la_some w
  obtain ⟨db, do_, rfl⟩ := M.da_some w
  unfold mDrain
  refine f42_sh _ _ _ _ _ _ ⟨_, is_r M r, fun g => ?_, fun g => ⟨_, _, _, by rw [hcell_row M.row]; rfl, rb, ro, rfl, (yes_inn g).1, (yes_inn g).2, _, (M.cell (yes_inn g)).1, fun g2 => ?_, fun g2 => ⟨_, (M.cell (yes_inn g)).2.2.1, fun g3 => ?_, fun g3 => ?_⟩⟩⟩
  · rw [if_pos (not_inn g)]
    exact ⟨rfl, M.aft (Ext.refl _)⟩
  all_goals have hi := yes_inn g
  all_goals rw [if_neg (show ¬ ¬ S.inn r from fun q => q hi)]
  · have hs : (S.at r).st ≠ 4 := by simpa using g2
    rw [if_pos hs]
    exact ⟨rfl, M.aft (Ext.refl _)⟩
  all_goals have hs : ¬ (S.at r).st ≠ 4 := by simpa using g2
  all_goals rw [if_neg hs]
  · rw [if_pos (eq_of_beq g3)]
    exact ⟨rfl, M.aft (Ext.refl _)⟩
  have hp : (S.at r).pins ≠ 0 := by simpa using g3
  rw [if_neg hp]
  obtain ⟨d, hd, hdr, hrr, hcd, hlt⟩ := M.dat w.d hi
  have hdm := List.mem_of_getElem? hd
  obtain ⟨sd, wd⟩ := M.ds d hdm
  have hlen : d.L.length ≤ 2097152 := by have h1 := w.drk hi; have h2 := w.kk; rw [hdr] at h1; omega
  rw [hdr]
  refine ⟨fun v => ∃ k : Nat, v = k ∧ k ≤ d.L.length ∧ t ∉ d.L.take k, fun v => d.L.length - v.toNat, ⟨0, rfl, Nat.zero_le _, by simp⟩, ?_⟩
  rintro _ ⟨k, rfl, hk, hx⟩
  refine ⟨_, _, _, by rw [hcell_row M.row]; rfl, db, do_, rfl, hi.1, hlt, _, _, _, hcd, fun hl => ?_, fun hge => ?_⟩
  · have hkl := lt_of_dec hl
    obtain ⟨b, o, e, dd⟩ := sd.at (List.getElem?_eq_getElem hkl)
    refine ⟨b, o, e, by omega, by omega, _, dd.1, fun g4 => ?_, fun g4 => ?_⟩
    · have : t ∈ d.L := by rw [← eq_of_beq g4]; exact List.getElem_mem _
      rw [if_pos this]
      exact ⟨rfl, M.aft (Ext.refl _)⟩
    · rw [wadd k (by omega)]
      refine ⟨⟨k + 1, rfl, hkl, ?_⟩, by simp only [Int.toNat_natCast]; omega⟩
      rw [List.take_add_one, List.getElem?_eq_getElem hkl]
      simp only [Option.toList_some, List.mem_append, List.mem_singleton, not_or]
      exact ⟨hx, fun e => by rw [e] at g4; simp at g4⟩
  · have hkl : k = d.L.length := by have := ge_of_dec hge; omega
    rw [hkl, List.take_length] at hx
    rw [if_neg hx]
    refine ⟨Fr (blkA d.a), fit_frm _, _, _, _, fun hx f => by rw [hcell_row (f.row M.row (own_ne wd M.row (by decide)))]; rfl, fun nb h1 en eh => ?_⟩
    have x1 : Ext h h1 := by rw [eh]; exact Ext.push _ _
    have r1 : h1[nb]? = some (.cells (([t] : List Int).flatMap eI.enc).toArray 3 (0, 0)) := by rw [eh]; exact push_new en
    refine app_sl (L2 := [t]) aI (sd.ext x1) (wd.ext x1) (Sl.lit (L := [t]) r1) (Nat.zero_le _) (by simp; omega) fun a' c' h2 f2 s2 w2 b2 => ?_
    have hs1 := x1.size
    obtain ⟨k1, k2⟩ := M.setD (i := r.toNat) (d := d) (d' := ⟨a', c', d.L ++ [t]⟩) hd ((x1.fr _).trans f2 fun _ _ s => s) s2 w2 (fun b g => (b2 b g).imp id fun q => by omega) (n' := d.L.length + 1) (by simp) (p := do_ + r.toNat * 1) rfl
    refine ⟨f2, _, _, _, rfl, db, do_, rfl, hi.1, hlt, k1, fun h3 e3 => ⟨rfl, ?_⟩⟩
    obtain ⟨M4, f4⟩ := k2 h3 e3
    rw [hrr] at M4
    exact M.aft' f4 M4 fun b g => g.imp id fun g => g.1

set_option maxHeartbeats 1600000 in
theorem free_r (M : Rm W h x S la qa da lc qc dc Ds) (w : WF K S) (r : Int) : HC Try.prog 43 #[ptr x 0, .int .i64 r] h fun v h' => v = .int .i64 (mFree S r).1 ∧ AftR W h x (mFree S r).2 h' := by
  obtain ⟨rb, ro, rfl⟩ := M.la_some w
  obtain ⟨db, do_, rfl⟩ := M.da_some w
  unfold mFree
  refine f43_sh _ _ _ _ _ ⟨_, is_r M r, fun g => ?_, fun g => ⟨_, _, _, by rw [hcell_row M.row]; rfl, rb, ro, rfl, (yes_inn g).1, (yes_inn g).2, _, (M.cell (yes_inn g)).1, fun g2 => ?_, fun g2 => ⟨_, (M.cell (yes_inn g)).2.2.1, fun g3 => ?_, fun g3 => ⟨_, (M.cell (yes_inn g)).2.2.2.1, fun n en => ?_⟩⟩⟩⟩
  · rw [if_pos (not_inn g)]
    exact ⟨rfl, M.aft (Ext.refl _)⟩
  all_goals have hi := yes_inn g
  all_goals rw [if_neg (show ¬ ¬ S.inn r from fun q => q hi)]
  · have hs : (S.at r).st ≠ 4 := by simpa using g2
    rw [if_pos hs]
    exact ⟨rfl, M.aft (Ext.refl _)⟩
  all_goals have hs : ¬ (S.at r).st ≠ 4 := by simpa using g2
  all_goals rw [if_neg hs]
  · have hp : (S.at r).pins ≠ 0 := by simpa using g3
    rw [if_pos hp]
    exact ⟨rfl, M.aft (Ext.refl _)⟩
  have hp : ¬ (S.at r).pins ≠ 0 := by simpa using g3
  rw [if_neg hp]
  have fe := (w.each r hi).er
  have we : n = erUp (S.at r).er := by
    rw [en]
    unfold erUp
    by_cases hlt : (S.at r).er < 2147483647
    · rw [decide_eq_true hlt, if_pos hlt]; exact w64 (by omega) (by omega)
    · rw [decide_eq_false hlt, if_neg hlt]; rfl
  clear en
  subst we
  obtain ⟨k1, k2⟩ := M.words hi ⟨1, 0, 0, erUp (S.at r).er⟩ (q := ro + r.toNat * 4) rfl
  refine ⟨k1, fun h1 e1 => ?_⟩
  obtain ⟨M1, f1⟩ := k2 h1 e1
  have hs1 := f1.size
  refine ⟨_, _, _, by rw [hcell_row M1.row]; rfl, fun nb h2 en eh => ?_⟩
  have x2 : Ext h1 h2 := by rw [eh]; exact Ext.push _ _
  have r2 : h2[nb]? = some (.cells (([r] : List Int).flatMap eI.enc).toArray 3 (0, 0)) := by rw [eh]; exact push_new en
  have hql := w.qlen
  refine app_sl (L2 := [r]) aI (M1.sq.ext x2) (M1.oq.ext x2) (Sl.lit (L := [r]) r2) (Nat.zero_le _) (by show (S.Q.length + 1) * 8 ≤ _; omega) fun a' c' h3 f3 s3 w3 b3 => ?_
  have hs2 := x2.size
  obtain ⟨j1, j2⟩ := M1.setQ ((x2.fr _).trans f3 fun _ _ s => s) s3 w3 (fun b g => (b3 b g).imp id fun q => by omega) (n' := S.Q.length + 1) (by show _ = (S.Q ++ [r]).length; simp)
  refine ⟨_, _, _, rfl, j1, fun h4 e4 => ?_⟩
  obtain ⟨M4, f4⟩ := j2 h4 e4
  have hs4 := f4.size
  obtain ⟨dd, hd, hdr, hrr, hcd, hlt⟩ := M4.dat (S := { (S.set r ⟨1, 0, 0, erUp (S.at r).er⟩) with Q := S.Q ++ [r] }) (by simpa [Rg.set] using w.d) (r := r) (inn_set.2 hi)
  obtain ⟨l1, l2⟩ := M4.setD (i := r.toNat) (d := dd) (d' := ⟨none, 0, []⟩) hd (Fr.refl _ _) (Sl.nil _ _) (Own.nil _ _ _ _) (fun b g => (blkA_none g).elim) (n' := 0) rfl (p := do_ + r.toNat * 1) rfl
  refine ⟨_, _, _, by rw [hcell_row M4.row]; rfl, db, do_, rfl, hi.1, hlt, l1, fun h5 e5 => ⟨rfl, ?_⟩⟩
  obtain ⟨M5, f5⟩ := l2 h5 e5
  rw [hrr] at M5
  have hin : ∀ i, i < h.size → grown W h1 h4 i → W i := fun i hi g => g.elim id fun g => by omega
  exact M.aft' ((f1.trans f4 fun _ _ s => s).trans f5 hin) M5 fun b g => by
    rcases g with (g | g) | g
    · exact .inl g
    · exact .inr (by omega)
    · exact .inr (by omega)

set_option maxHeartbeats 1600000 in
theorem unpin_r (M : Rm W h x S la qa da lc qc dc Ds) (w : WF K S) (r : Int) : HC Try.prog 45 #[ptr x 0, .int .i64 r] h fun v h' =>
    (∃ a c, v = .tuple #[.slice a (mUnpin S r).1.1.length c, .int .i64 (mUnpin S r).1.2] ∧ Sl eI h' a c (mUnpin S r).1.1) ∧ AftR W h x (mUnpin S r).2 h' := by
  obtain ⟨rb, ro, rfl⟩ := M.la_some w
  obtain ⟨db, do_, rfl⟩ := M.da_some w
  have nil : ∀ {h' : Heap} {e : Int}, ∃ a c, Value.tuple #[.slice none 0 0, .int .i64 e] = .tuple #[.slice a ([] : List Int).length c, .int .i64 e] ∧ Sl eI h' a c [] := fun {h' e} => ⟨none, 0, rfl, Sl.nil _ _⟩
  unfold mUnpin
  refine f45_sh _ _ _ _ _ ⟨_, is_r M r, fun g => ?_, fun g => ⟨_, _, _, by rw [hcell_row M.row]; rfl, rb, ro, rfl, (yes_inn g).1, (yes_inn g).2, _, (M.cell (yes_inn g)).2.2.1, fun g2 => ?_, fun g2 => ?_⟩⟩
  · rw [if_pos (not_inn g)]
    exact ⟨nil, M.aft (Ext.refl _)⟩
  all_goals have hi := yes_inn g
  all_goals rw [if_neg (show ¬ ¬ S.inn r from fun q => q hi)]
  · rw [if_pos (eq_of_beq g2)]
    exact ⟨nil, M.aft (Ext.refl _)⟩
  have hp : (S.at r).pins ≠ 0 := by simpa using g2
  rw [if_neg hp]
  have fp := (w.each r hi).pins
  have e1 : IntKind.i64.wrap ((S.at r).pins - 1) = (S.at r).pins - 1 := w64 (by omega) (by omega)
  obtain ⟨k1, k2⟩ := M.word hi (j := 2) (u := .int .i64 (IntKind.i64.wrap ((S.at r).pins - 1))) (x' := ⟨(S.at r).st, (S.at r).sq, (S.at r).pins - 1, (S.at r).er⟩) (by decide) (by rw [e1]; rfl) (q := ro + r.toNat * 4 + 2) rfl
  refine ⟨k1, fun h1 eh1 => ?_⟩
  obtain ⟨M1, f1⟩ := k2 h1 eh1
  have hs1 := f1.size
  have d1 := M1.cell (inn_set.2 hi)
  rw [at_set hi hi, if_pos rfl] at d1
  refine ⟨decide ((S.at r).st = 4 ∧ (S.at r).pins = 1), ⟨_, _, _, by rw [hcell_row M1.row]; rfl, rb, ro, rfl, hi.1, (inn_set.2 hi : (Rg.set S r ⟨(S.at r).st, (S.at r).sq, (S.at r).pins - 1, (S.at r).er⟩).inn r).2, _, d1.1, fun g3 => ⟨_, d1.2.2.1, ?_⟩, fun g3 => ?_⟩, fun g3 => ?_, fun g3 => ?_⟩
  · have h4 : (S.at r).st = 4 := eq_of_beq g3
    rw [Bool.eq_iff_iff]
    simp only [h4, true_and, decide_eq_true_eq, beq_iff_eq]
    omega
  · have h4 : (S.at r).st ≠ 4 := by simpa using g3
    simp [h4]
  · rw [if_pos (of_decide_eq_true g3)]
    obtain ⟨dd, hd, hdr, hrr, hcd, hlt⟩ := M1.dat (by simpa [Rg.set] using w.d) (r := r) (inn_set.2 hi)
    have hdm := List.mem_of_getElem? hd
    obtain ⟨l1, l2⟩ := M1.setD (i := r.toNat) (d := dd) (d' := ⟨none, 0, []⟩) hd (Fr.refl _ _) (Sl.nil _ _) (Own.nil _ _ _ _) (fun b g => (blkA_none g).elim) (n' := 0) rfl (p := do_ + r.toNat * 1) rfl
    refine ⟨_, _, _, by rw [hcell_row M1.row]; rfl, db, do_, rfl, hi.1, hlt, _, _, _, hcd, l1, fun h2 e2 => ?_⟩
    obtain ⟨M2, f2⟩ := l2 h2 e2
    rw [hrr] at M2
    obtain ⟨sd, wd⟩ := M1.ds dd hdm
    have hdr' : S.dr r = dd.L := hdr
    rw [hdr']
    exact ⟨⟨dd.a, dd.c, rfl, sd.fr (fr_hset_of e2) fun b g q => own_ne2 M1.od wd (by decide) b g (blkA_some.2 q)⟩, M.aft' (f1.trans f2 fun _ _ s => s) M2 fun b g => g.imp id fun g => by omega⟩
  · rw [if_neg (of_decide_eq_false g3)]
    exact ⟨nil, M.aft' f1 M1 fun _ g => .inl g⟩
end
end Mg
end Go.Proofs.Ytfdgjgjcppfmiaa
