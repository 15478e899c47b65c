/-
The manager's methods: open, drain, free, unpin.
-/
import Derived.Test.YtfdgjgjcppfmiaaGD
namespace Go.Proofs.Ytfdgjgjcppfmiaa
namespace Mg
open Go

theorem set_set {S : Rg} {r : Int} {x y : Inf} : (S.set r x).set r y = S.set r y := by unfold Rg.set; simp
section
variable {W : Nat → Prop} {h h' : Heap} {p : Nat} {S : Rg} {ra fa : Option Addr} {qc fc mb : Nat} {kv : List (Int × Value)} {Ds : List Dr} {K : Nat}

theorem Mem.dat (M : Mem W h p S ra fa qc fc mb kv Ds) (w : WF K S) {r : Int} (hr : S.inn r) : ∃ d, Ds[r.toNat]? = some d ∧ S.dr r = d.L ∧ ((r.toNat : Nat) : Int) = r := by
  have h1 := hr.1; have h2 := hr.2; have h3 := w.d
  have h4 : Ds.length = S.D.length := by rw [← M.eD, List.length_map]
  have hl : r.toNat < Ds.length := by omega
  refine ⟨Ds[r.toNat], List.getElem?_eq_getElem hl, ?_, by omega⟩
  unfold Rg.dr
  rw [List.getD_eq_getElem?_getD, ← M.eD, List.getElem?_map, List.getElem?_eq_getElem hl]; rfl

set_option maxHeartbeats 1600000 in
theorem open_m (M : Mem W h p S ra fa qc fc mb kv Ds) (w : WF K S) : HC Try.prog 13 #[ptr p 0] h fun v h' => v = .tuple #[.int .i64 (mOpen S).1.1, .int .u64 (mOpen S).1.2.1, .int .i64 (mOpen S).1.2.2] ∧ AftM W h p (mOpen S).2 h' := by
  obtain ⟨rb, ro, rfl⟩ := M.ra_some w
  have hl := w.last
  refine f13_sh _ _ _ _ ⟨true, made_m M w, fun g => by simp at g, fun _ => ⟨_, by rw [hcell_row M.row]; rfl, fun g => ?_, fun g => ⟨_, _, _, by rw [hcell_row M.row]; rfl, fun g2 => ?_, fun g2 => ⟨_, by rw [hcell_row M.row]; rfl, fun g3 => ?_, fun g3 => ?_⟩⟩⟩⟩
  · have hc : S.cur ≠ -1 := by simpa using g
    unfold mOpen
    rw [if_pos hc]
    exact ⟨rfl, M.aft (Ext.refl _)⟩
  · have hc : ¬ S.cur ≠ -1 := by simpa using g
    have hq : S.Q = [] := by
      have : S.Q.length = 0 := by have := eq_of_beq g2; omega
      exact List.length_eq_zero_iff.1 this
    unfold mOpen
    rw [if_neg hc, hq]
    exact ⟨rfl, M.aft (Ext.refl _)⟩
  · have hc : ¬ S.cur ≠ -1 := by simpa using g
    have he := eq_of_beq g3
    cases hQ : S.Q with
    | nil => rw [hQ] at g2; simp at g2
    | cons c Q' =>
      unfold mOpen
      rw [if_neg hc, hQ]
      simp only
      rw [if_pos he]
      exact ⟨rfl, M.aft (Ext.refl _)⟩
  · have hc : ¬ S.cur ≠ -1 := by simpa using g
    have hl' : S.last ≠ 9223372036854775807 := by simpa using g3
    cases hQ : S.Q with
    | nil => rw [hQ] at g2; simp at g2
    | cons c Q' =>
      have hcq := w.q c (by rw [hQ]; simp)
      have hi := hcq.1
      have em : mOpen S = ((c, S.last + 1, 0), { (S.set c ⟨2, S.last + 1, (S.at c).pins, (S.at c).er⟩) with Q := Q', last := S.last + 1, cur := c }) := by
        unfold mOpen
        rw [if_neg hc, hQ]
        simp only
        rw [if_neg hl']
      have hql := w.qlen
      rw [hQ] at hql
      simp only [List.length_cons] at hql
      have wl : IntKind.u64.wrap (S.last + 1) = S.last + 1 := wu64 (by omega) (by omega)
      rw [em]
      obtain ⟨fb, fo, efa, df⟩ := M.sq.at (i := 0) (x := c) (by rw [hQ]; rfl)
      refine ⟨fb, fo, efa, by omega, by simp only [List.length_cons]; omega, c, df.1, HW_row M.row (by simp), fun h1 e1 => ?_⟩
      have f1 := fr_hset_of e1
      have M1 := M.setP (last := S.last) (cur := c) f1 (by rw [e1, hset_row M.row]; rfl)
      have hs1 := f1.size
      refine ⟨_, _, _, by rw [hcell_row M1.row]; rfl, ?_⟩
      have sq1 : Sl eI h1 fa fc (c :: Q') := by have := M1.sq; rw [show ({ S with last := S.last, cur := c } : Rg).Q = c :: Q' from hQ] at this; exact this
      rw [show ({ S with last := S.last, cur := c } : Rg).Q = c :: Q' from hQ]
      refine (delete_m sq1 M1.oq (Nat.zero_le _) (by omega)).mono ?_
      rintro _ h2 ⟨a', c', rfl, f2, s2, w2, b2⟩
      obtain ⟨k1, k2⟩ := M1.setQ f2 s2 w2 (fun b g => .inl (b2 b g)) (n' := Q'.length) rfl
      refine ⟨_, _, _, rfl, k1, fun h3 e3 => ?_⟩
      obtain ⟨M3, f3⟩ := k2 h3 e3
      refine ⟨_, by rw [hcell_row M3.row]; rfl, HW_row M3.row (by simp), fun h4 e4 => ?_⟩
      have f4 := fr_hset_of e4
      have M4 := M3.setP (last := S.last + 1) (cur := c) f4 (by rw [e4, hset_row M3.row]; show some (Obj.cells #[.slice (some ⟨rb, ro, none⟩) S.I.length qc, .slice a' Q'.length c', .int .u64 (IntKind.u64.wrap (S.last + 1)), .int .i64 c, .map (some mb)] tM (0, 0)) = _; rw [wl])
      have hs3 := f3.size
      refine ⟨_, _, _, by rw [hcell_row M4.row]; rfl, _, by rw [hcell_row M4.row]; rfl, rb, ro, rfl, hi.1, hi.2, _, by rw [hcell_row M4.row]; rfl, ?_⟩
      obtain ⟨j1, j2⟩ := M4.word (r := c) hi (j := 0) (u := .int .i64 2) (x' := ⟨2, (S.at c).sq, (S.at c).pins, (S.at c).er⟩) (by decide) rfl (q := ro + c.toNat * 4) rfl
      refine ⟨j1, fun h5 e5 => ?_⟩
      obtain ⟨M5, f5⟩ := j2 h5 e5
      obtain ⟨l1, l2⟩ := M5.word (r := c) (inn_set.2 hi) (j := 1) (u := .int .u64 (S.last + 1)) (x' := ⟨2, S.last + 1, (S.at c).pins, (S.at c).er⟩) (by decide) (by rw [at_set (S := { S with Q := Q', last := S.last + 1, cur := c }) hi hi, if_pos rfl]; rfl) (q := ro + c.toNat * 4 + 1) rfl
      refine ⟨l1, fun h6 e6 => ?_⟩
      obtain ⟨M6, f6⟩ := l2 h6 e6
      rw [set_set] at M6
      refine ⟨_, by rw [hcell_row M6.row]; rfl, _, by rw [hcell_row M6.row]; rfl, rfl, ?_⟩
      have hin : ∀ i, i < h.size → grown W h1 h3 i → W i := fun i hi g => g.elim id fun g => by omega
      refine M.aft' ((((f1.mono fun b _ e => e ▸ M.wp).trans f3 fun b _ s => s).trans (f4.mono fun b _ e => e ▸ M3.wp) hin).trans (f5.trans f6 fun _ _ s => s) hin) M6 fun b g => g.imp id fun g => by omega

set_option maxHeartbeats 1600000 in
theorem drain_m (M : Mem W h p S ra fa qc fc mb kv Ds) (w : WF K S) (t r : Int) : HC Try.prog 21 #[ptr p 0, .int .i64 t, .int .i64 r] h fun v h' => v = .tuple #[.bool (mDrain S t r).1.1, .int .i64 (mDrain S t r).1.2] ∧ AftM W h p (mDrain S t r).2 h' := by
  obtain ⟨rb, ro, rfl⟩ := M.ra_some w
  refine f21_sh _ _ _ _ _ _ ⟨_, _, at_m M w r 4, fun g => ?_, fun g => ?_⟩
  · have h0 : atE S r 4 ≠ 0 := by simpa using g
    have em : mDrain S t r = ((false, atE S r 4), S) := by
      rw [at_err h0]
      unfold mDrain
      by_cases hi : S.inn r
      · have hs : (S.at r).st ≠ 4 := fun e => h0 (at_ok.2 ⟨hi, .inr e⟩)
        rw [if_neg (show ¬ ¬ S.inn r from fun q => q hi), if_pos hs, if_neg (show ¬ ¬ S.inn r from fun q => q hi)]
      · rw [if_pos hi, if_pos hi]
    rw [em]
    exact ⟨rfl, M.aft (Ext.refl _)⟩
  have h0 : atE S r 4 = 0 := by simpa using g
  obtain ⟨hi, hs⟩ := at_ok.1 h0
  have hs' : (S.at r).st = 4 := hs.resolve_left (by decide)
  rw [if_pos h0]
  have em : mDrain S t r = if (S.at r).pins = 0 then ((true, 0), S) else if t ∈ S.dr r then ((false, 0), S) else ((false, 0), S.setD r (S.dr r ++ [t])) := by
    unfold mDrain
    rw [if_neg (show ¬ ¬ S.inn r from fun q => q hi), if_neg (show ¬ (S.at r).st ≠ 4 from fun q => q hs')]
  refine ⟨rb, _, rfl, _, (M.cell hi).2.2.1, fun g2 => ?_, fun g2 => ?_⟩
  · rw [em, if_pos (eq_of_beq g2)]
    exact ⟨rfl, M.aft (Ext.refl _)⟩
  have hp : (S.at r).pins ≠ 0 := by simpa using g2
  rw [em, if_neg hp]
  obtain ⟨d, hd, hdr, hrr⟩ := M.dat w hi
  have hdm := List.mem_of_getElem? hd
  obtain ⟨sd, wd⟩ := M.ds d hdm
  have hk := M.dk _ _ hd
  rw [hrr] at hk
  have hlen : d.L.length ≤ 2097152 := by have h1 := w.drk hi; have h2 := w.kk; rw [hdr] at h1; omega
  refine ⟨fun h1 => AftM W h p (if t ∈ S.dr r then ((false, 0), S) else ((false, 0), S.setD r (S.dr r ++ [t])) : (Bool × Int) × Rg).2 h1, ⟨some mb, by rw [hcell_row M.row]; rfl, mb, rfl, kv, M.mp, d.a, d.L.length, d.c, hk, _, contains_m sd (by omega) t, fun g3 => ?_, fun g3 => ?_⟩, fun h1 a1 => ⟨?_, a1⟩⟩
  · have ht : t ∉ d.L := by simpa using g3
    rw [hdr, if_neg ht]
    refine ⟨Fr (blkA d.a), fit_frm _, some mb, fun hx f => by rw [hcell_row (f.row M.row (own_ne wd M.row (by decide)))]; rfl, kv, M.mp, d.a, d.L.length, d.c, hk, fun nb h2 en eh => ?_⟩
    have x2 : Ext h h2 := by rw [eh]; exact Ext.push _ _
    have r2 : h2[nb]? = some (.cells (([t] : List Int).flatMap eI.enc).toArray 3 (0, 0)) := by rw [eh]; exact push_new en
    refine app_sl (L2 := [t]) aI (sd.ext x2) (wd.ext x2) (Sl.lit (L := [t]) r2) (Nat.zero_le _) (by simp; omega) fun a' c' h3 f3 s3 w3 b3 => ?_
    have hs2 := x2.size
    refine ⟨f3, _, _, _, rfl, mb, rfl, kv, (M.mp.ext x2).fr f3 (own_map (wd.ext x2) (M.mp.ext x2)), fun h4 o4 m4 => ?_⟩
    obtain ⟨M4, f4⟩ := M.setM (i := r.toNat) (d := d) (d' := ⟨a', c', d.L ++ [t]⟩) hd ((x2.fr _).trans f3 fun _ _ s => s) s3 w3 (fun b g => (b3 b g).imp id fun q => by omega) o4 m4 fun s => by
      rw [lk_kput]
      by_cases e : s = r.toNat
      · rw [if_pos (by omega), if_pos e]; simp
      · rw [if_neg (by omega), if_neg e]
    rw [show S.setD r (d.L ++ [t]) = S.setD ((r.toNat : Nat) : Int) (d.L ++ [t]) by rw [hrr]]
    exact M.aft' f4 M4 fun b g => g.imp id fun g => g.1
  · have ht : t ∈ d.L := by simpa using g3
    rw [hdr, if_pos ht]
    exact M.aft (Ext.refl _)
  · split <;> rfl

set_option maxHeartbeats 1600000 in
theorem free_m (M : Mem W h p S ra fa qc fc mb kv Ds) (w : WF K S) (r : Int) : HC Try.prog 25 #[ptr p 0, .int .i64 r] h fun v h' => v = .int .i64 (mFree S r).1 ∧ AftM W h p (mFree S r).2 h' := by
  obtain ⟨rb, ro, rfl⟩ := M.ra_some w
  refine f25_sh _ _ _ _ _ ⟨_, _, at_m M w r 4, fun g => ?_, fun g => ?_⟩
  · have h0 : atE S r 4 ≠ 0 := by simpa using g
    have em : mFree S r = (atE S r 4, S) := by
      rw [at_err h0]
      unfold mFree
      by_cases hi : S.inn r
      · have hs : (S.at r).st ≠ 4 := fun e => h0 (at_ok.2 ⟨hi, .inr e⟩)
        rw [if_neg (show ¬ ¬ S.inn r from fun q => q hi), if_pos hs, if_neg (show ¬ ¬ S.inn r from fun q => q hi)]
      · rw [if_pos hi, if_pos hi]
    rw [em]
    exact ⟨rfl, M.aft (Ext.refl _)⟩
  have h0 : atE S r 4 = 0 := by simpa using g
  obtain ⟨hi, hs⟩ := at_ok.1 h0
  have hs' : (S.at r).st = 4 := hs.resolve_left (by decide)
  rw [if_pos h0]
  have em : mFree S r = if (S.at r).pins ≠ 0 then (92, S) else (0, { ((S.set r ⟨1, 0, 0, erUp (S.at r).er⟩).setD r []) with Q := S.Q ++ [r] }) := by
    unfold mFree
    rw [if_neg (show ¬ ¬ S.inn r from fun q => q hi), if_neg (show ¬ (S.at r).st ≠ 4 from fun q => q hs')]
  have f := w.each r hi
  have fp := f.pins
  have fe := f.er
  have d := M.cell hi
  refine ⟨rb, _, rfl, _, d.2.2.1, fun g2 => ?_, fun g2 => ⟨_, d.2.2.2.1, ?_⟩⟩
  · have : (S.at r).pins ≠ 0 := by have := of_decide_eq_true g2; omega
    rw [em, if_pos this]
    exact ⟨rfl, M.aft (Ext.refl _)⟩
  have hp : ¬ (S.at r).pins ≠ 0 := by have := of_decide_eq_false g2; omega
  rw [em, if_neg hp]
  have we : IntKind.i64.wrap ((if 2147483646 < (S.at r).er then 2147483646 else (S.at r).er) + 1) = erUp (S.at r).er := by
    unfold erUp
    split
    · split
      · rw [w64 (by omega) (by omega)]; omega
      · rw [w64 (by omega) (by omega)]; omega
    · rw [if_pos (by omega), w64 (by omega) (by omega)]
  rw [we]
  obtain ⟨k1, k2⟩ := M.words hi ⟨1, 0, 0, erUp (S.at r).er⟩ (q := ro + r.toNat * 4) rfl
  refine ⟨k1, fun h1 e1 => ?_⟩
  obtain ⟨M1, f1⟩ := k2 h1 e1
  have hs1 := f1.size
  refine ⟨_, _, _, by rw [hcell_row M1.row]; rfl, fun nb h2 en eh => ?_⟩
  have x2 : Ext h1 h2 := by rw [eh]; exact Ext.push _ _
  have r2 : h2[nb]? = some (.cells (([r] : List Int).flatMap eI.enc).toArray 3 (0, 0)) := by rw [eh]; exact push_new en
  have hql := w.qlen
  refine app_sl (L2 := [r]) aI (M1.sq.ext x2) (M1.oq.ext x2) (Sl.lit (L := [r]) r2) (Nat.zero_le _) (by show (S.Q.length + 1) * 8 ≤ _; omega) fun a' c' h3 f3 s3 w3 b3 => ?_
  have hs2 := x2.size
  obtain ⟨j1, j2⟩ := M1.setQ ((x2.fr _).trans f3 fun _ _ s => s) s3 w3 (fun b g => (b3 b g).imp id fun q => by omega) (n' := S.Q.length + 1) (by show _ = (S.Q ++ [r]).length; simp)
  refine ⟨_, _, _, rfl, j1, fun h4 e4 => ?_⟩
  obtain ⟨M4, f4⟩ := j2 h4 e4
  have hs4 := f4.size
  obtain ⟨dd, hd, hdr, hrr⟩ := M4.dat (K := K) (S := { (S.set r ⟨1, 0, 0, erUp (S.at r).er⟩) with Q := S.Q ++ [r] }) (by
    have w1 := wf_free w r
    rw [em, if_neg hp] at w1
    exact { w1 with d := by simpa [Rg.set] using w.d, k := w.k }) (r := r) (inn_set.2 hi)
  refine ⟨some mb, by rw [hcell_row M4.row]; rfl, mb, rfl, kv, M4.mp, fun h5 o5 m5 => ⟨rfl, ?_⟩⟩
  obtain ⟨M5, f5⟩ := M4.setM (i := r.toNat) (d := dd) (d' := ⟨none, 0, []⟩) hd (Fr.refl _ _) (Sl.nil _ _) (Own.nil _ _ _ _) (fun b g => (blkA_none g).elim) o5 m5 fun s => by
      rw [lk_kdel _ _ _ M4.mp.nodup]
      by_cases e : s = r.toNat
      · rw [if_pos (by omega), if_pos e]; rfl
      · rw [if_neg (by omega), if_neg e]
  rw [hrr] at M5
  have hin : ∀ i, i < h.size → grown W h1 h4 i → W i := fun i hi g => g.elim id fun g => by omega
  exact M.aft' ((f1.trans f4 fun _ _ s => s).trans f5 hin) M5 fun b g => by
    rcases g with (g | g) | g
    · exact .inl g
    · exact .inr (by omega)
    · exact .inr (by omega)

set_option maxHeartbeats 1600000 in
theorem unpin_m (M : Mem W h p S ra fa qc fc mb kv Ds) (w : WF K S) (r : Int) : HC Try.prog 22 #[ptr p 0, .int .i64 r] h fun v h' =>
    (∃ a c, v = .tuple #[.slice a (mUnpin S r).1.1.length c, .int .i64 (mUnpin S r).1.2] ∧ Sl eI h' a c (mUnpin S r).1.1 ∧ ∀ b, blkA a b → W b) ∧ AftM W h p (mUnpin S r).2 h' := by
  obtain ⟨rb, ro, rfl⟩ := M.ra_some w
  have nil : ∀ {h' : Heap} {e : Int}, ∃ a c, Value.tuple #[.slice none 0 0, .int .i64 e] = .tuple #[.slice a ([] : List Int).length c, .int .i64 e] ∧ Sl eI h' a c [] ∧ ∀ b, blkA a b → W b := fun {h' e} => ⟨none, 0, rfl, Sl.nil _ _, fun b g => (blkA_none g).elim⟩
  refine f22_sh _ _ _ _ _ ⟨_, _, at_m M w r 0, fun g => ?_, fun g => ?_⟩
  · have h0 : atE S r 0 ≠ 0 := by simpa using g
    have hi : ¬ S.inn r := fun hi => h0 (at_ok.2 ⟨hi, .inl rfl⟩)
    have em : mUnpin S r = (([], atE S r 0), S) := by
      rw [at_err h0, if_pos hi]
      unfold mUnpin
      rw [if_pos hi]
    rw [em]
    exact ⟨nil, M.aft (Ext.refl _)⟩
  have h0 : atE S r 0 = 0 := by simpa using g
  have hi := (at_ok.1 h0).1
  rw [if_pos h0]
  have f := w.each r hi
  have fp := f.pins
  have d := M.cell hi
  refine ⟨rb, _, rfl, _, d.2.2.1, fun g2 => ?_, fun g2 => ?_⟩
  · have em : mUnpin S r = (([], 92), S) := by
      unfold mUnpin
      rw [if_neg (show ¬ ¬ S.inn r from fun q => q hi), if_pos (eq_of_beq g2)]
    rw [em]
    exact ⟨nil, M.aft (Ext.refl _)⟩
  have hp : (S.at r).pins ≠ 0 := by simpa using g2
  have e1 : IntKind.i64.wrap ((S.at r).pins - 1) = (S.at r).pins - 1 := w64 (by omega) (by omega)
  have em : mUnpin S r = if (S.at r).st = 4 ∧ (S.at r).pins = 1 then ((S.dr r, 0), (S.set r ⟨(S.at r).st, (S.at r).sq, (S.at r).pins - 1, (S.at r).er⟩).setD r []) else (([], 0), S.set r ⟨(S.at r).st, (S.at r).sq, (S.at r).pins - 1, (S.at r).er⟩) := by
    unfold mUnpin
    rw [if_neg (show ¬ ¬ S.inn r from fun q => q hi), if_neg hp]
  obtain ⟨k1, k2⟩ := M.word hi (j := 2) (u := .int .i64 (IntKind.i64.wrap ((S.at r).pins - 1))) (x' := ⟨(S.at r).st, (S.at r).sq, (S.at r).pins - 1, (S.at r).er⟩) (by decide) (by rw [e1]; rfl) (q := ro + r.toNat * 4 + 2) rfl
  refine ⟨k1, fun h1 eh1 => ?_⟩
  obtain ⟨M1, f1⟩ := k2 h1 eh1
  have hs1 := f1.size
  have d1 := M1.cell (inn_set.2 hi)
  rw [at_set hi hi, if_pos rfl] at d1
  refine ⟨!decide ((S.at r).st = 4 ∧ (S.at r).pins = 1), ⟨_, d1.1, fun g3 => ?_, fun g3 => ⟨_, d1.2.2.1, ?_⟩⟩, fun g3 => ?_, fun g3 => ?_⟩
  · have : (S.at r).st ≠ 4 := by simpa using g3
    simp [this]
  · have : (S.at r).st = 4 := by simpa using g3
    rw [Bool.eq_iff_iff]
    simp only [this, true_and, Bool.not_eq_true', decide_eq_false_iff_not, decide_eq_true_eq]
    omega
  · rw [Bool.not_eq_true'] at g3
    rw [em, if_neg (of_decide_eq_false g3)]
    exact ⟨nil, M.aft' f1 M1 fun _ g => .inl g⟩
  · rw [Bool.not_eq_false'] at g3
    rw [em, if_pos (of_decide_eq_true g3)]
    obtain ⟨dd, hd, hdr, hrr⟩ := M.dat w hi
    have hdm := List.mem_of_getElem? hd
    have hk := M1.dk _ _ hd
    rw [hrr] at hk
    refine ⟨some mb, by rw [hcell_row M1.row]; rfl, mb, rfl, kv, M1.mp, dd.a, dd.L.length, dd.c, hk, kv, M1.mp, fun h2 o2 m2 => ?_⟩
    obtain ⟨M2, f2⟩ := M1.setM (i := r.toNat) (d := dd) (d' := ⟨none, 0, []⟩) hd (Fr.refl _ _) (Sl.nil _ _) (Own.nil _ _ _ _) (fun b g => (blkA_none g).elim) o2 m2 fun s => by
      rw [lk_kdel _ _ _ M1.mp.nodup]
      by_cases e : s = r.toNat
      · rw [if_pos (by omega), if_pos e]; rfl
      · rw [if_neg (by omega), if_neg e]
    rw [hrr] at M2
    rw [hdr]
    obtain ⟨sd, wd⟩ := M1.ds dd hdm
    refine ⟨⟨dd.a, dd.c, rfl, sd.fr o2.fr fun b g q => own_map wd M1.mp (q ▸ g), M.wd dd hdm⟩, M.aft' (f1.trans f2 fun _ _ s => s) M2 fun b g => g.imp id fun g => by omega⟩
end
end Mg
end Go.Proofs.Ytfdgjgjcppfmiaa
