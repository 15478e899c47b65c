/-
The law RegionRises, over heaps.
-/
import Derived.Test.YtfdgjgjcppfmiaaGX
namespace Go.Proofs.Ytfdgjgjcppfmiaa
namespace Mg
open Go

section
variable {W : Nat → Prop} {h h' : Heap} {p : Nat} {S : Rg} {K : Nat}

theorem aft_pre {h1 : Heap} {S' : Rg} (lw : ∀ b, W b → b < h.size) (x : Ext h h1) (a : AftM W h1 p S' h') : AftM W h p S' h' := by
  obtain ⟨f, _, _, _, _, _, _, _, M⟩ := a
  have s1 := x.size
  have s2 := f.size
  exact ⟨((x.fr _).trans f fun _ _ s => s), _, _, _, _, _, _, _, M.mono (fun b g => g.imp id fun g => by omega) fun b g => g.elim (fun g => by have := lw b g; omega) fun g => g.2⟩

theorem drain_last (t r : Int) : (mDrain S t r).2.last = S.last ∧ (mDrain S t r).2.I = S.I := by
  unfold mDrain; split; · exact ⟨rfl, rfl⟩
  split; · exact ⟨rfl, rfl⟩
  split; · exact ⟨rfl, rfl⟩
  split <;> exact ⟨rfl, rfl⟩
theorem seal_last : (mSeal S).2.last = S.last ∧ (mSeal S).2.I.length = S.I.length := by
  unfold mSeal; split; · exact ⟨rfl, rfl⟩
  exact ⟨rfl, by simp [Rg.set]⟩
theorem mark_last (r : Int) : (mMark S r).2.last = S.last ∧ (mMark S r).2.I.length = S.I.length := by
  unfold mMark; split; · exact ⟨rfl, rfl⟩
  split; · exact ⟨rfl, rfl⟩
  exact ⟨rfl, by simp [Rg.set]⟩
theorem free_last (r : Int) : (mFree S r).2.last = S.last ∧ (mFree S r).2.I.length = S.I.length := by
  unfold mFree; split; · exact ⟨rfl, rfl⟩
  split; · exact ⟨rfl, rfl⟩
  split; · exact ⟨rfl, rfl⟩
  exact ⟨rfl, by simp [Rg.set, Rg.setD]⟩
theorem pin_last (r : Int) : (mPin S r).2.last = S.last ∧ (mPin S r).2.I.length = S.I.length := by
  unfold mPin; split
  · exact ⟨rfl, by simp [Rg.set]⟩
  · exact ⟨rfl, rfl⟩
theorem unpin_last (r : Int) : (mUnpin S r).2.last = S.last ∧ (mUnpin S r).2.I.length = S.I.length := by
  unfold mUnpin; split; · exact ⟨rfl, rfl⟩
  split; · exact ⟨rfl, rfl⟩
  split
  · exact ⟨rfl, by simp [Rg.set, Rg.setD]⟩
  · exact ⟨rfl, by simp [Rg.set]⟩

/-- A call of the manager alone. -/
theorem does_c (H : HasM W h p S) (w : WF K S) (hk : K + 1 ≤ 2097152) (kind n t : Int) (h1 : kind ≠ 1) : HC Try.prog 12 #[ptr p 0, .agg #[.int .i64 kind, .int .i64 n, .int .i64 t]] h fun v h' =>
    (∃ e : Int, v = .int .i64 e) ∧ ∃ S', AftM W h p S' h' ∧ WF (K + 1) S' ∧ S'.last = S.last ∧ S'.I.length = S.I.length := by
  have lw := H.lt
  have nw : ∀ {o}, h.size ≤ o → ¬ W o := fun lo g => by have := lw _ g; omega
  have up := Nat.le_succ K
  refine f12_sh _ _ _ _ _ _ _ ⟨fun _ h' => ∃ S', AftM W h p S' h' ∧ WF (K + 1) S' ∧ S'.last = S.last ∧ S'.I.length = S.I.length, ⟨fun g => absurd (eq_of_beq g) h1, fun _ => ⟨fun _ => ?_, fun _ => ⟨fun _ => ?_, fun _ => ⟨fun _ => ?_, fun _ => ⟨fun _ => ?_, fun _ => ⟨fun _ => ?_, fun _ => ⟨fun _ => ?_, fun _ => ?_⟩⟩⟩⟩⟩⟩⟩, fun e h2 g => ⟨⟨_, rfl⟩, g⟩⟩
  · intro o h1 lo1 lt1 x1
    obtain ⟨_, _, _, _, _, _, _, M⟩ := H.ext x1
    refine (seal_m M w).mono ?_
    rintro _ h2 ⟨rfl, a2⟩
    exact ⟨a2.1.kp (by simpa using nw lo1), _, rfl, _, aft_pre lw x1 a2, (wf_seal w).up up hk, seal_last⟩
  · intro o h1 lo1 lt1 x1
    obtain ⟨_, _, _, _, _, _, _, M⟩ := H.ext x1
    refine (mark_m M w n).mono ?_
    rintro _ h2 ⟨rfl, a2⟩
    exact ⟨a2.1.kp (by simpa using nw lo1), _, rfl, _, aft_pre lw x1 a2, (wf_mark w n).up up hk, mark_last n⟩
  · intro o h1 lo1 lt1 x1
    obtain ⟨_, _, _, _, _, _, _, M⟩ := H.ext x1
    refine (drain_m M w t n).mono ?_
    rintro _ h2 ⟨rfl, a2⟩
    exact ⟨a2.1.kp (by simpa using nw lo1), _, _, rfl, _, aft_pre lw x1 a2, wf_drain w hk t n, (drain_last t n).1, by rw [(drain_last t n).2]⟩
  · intro o h1 lo1 lt1 x1
    obtain ⟨_, _, _, _, _, _, _, M⟩ := H.ext x1
    refine (free_m M w n).mono ?_
    rintro _ h2 ⟨rfl, a2⟩
    exact ⟨a2.1.kp (by simpa using nw lo1), _, rfl, _, aft_pre lw x1 a2, (wf_free w n).up up hk, free_last n⟩
  · intro o h1 lo1 lt1 x1
    obtain ⟨_, _, _, _, _, _, _, M⟩ := H.ext x1
    refine (pin_m M w n).mono ?_
    rintro _ h2 ⟨rfl, a2⟩
    have r : ∃ S', AftM W h p S' h2 ∧ WF (K + 1) S' ∧ S'.last = S.last ∧ S'.I.length = S.I.length := ⟨_, aft_pre lw x1 a2, (wf_pin w n).up up hk, pin_last n⟩
    exact ⟨a2.1.kp (by simpa using nw lo1), _, rfl, fun _ => r, fun _ => r⟩
  · intro h1 x1
    obtain ⟨_, _, _, _, _, _, _, M⟩ := H.ext x1
    refine (unpin_m M w n).mono ?_
    rintro _ h2 ⟨⟨a, c, rfl, _, _⟩, a2⟩
    exact ⟨_, _, _, _, rfl, _, aft_pre lw x1 a2, (wf_unpin w n).up up hk, unpin_last n⟩
  · intro h1 x1
    obtain ⟨_, _, _, _, _, _, _, M⟩ := H
    exact ⟨S, M.aft x1, w.up up hk, rfl, rfl⟩

theorem open_cases (w : WF K S) : ((mOpen S).1.2.2 ≠ 0 ∧ (mOpen S).2 = S) ∨ ∃ c, (mOpen S).1 = (c, S.last + 1, 0) ∧ (mOpen S).2.cur = c ∧ (mOpen S).2.last = S.last + 1 ∧ (mOpen S).2.inn c ∧ ((mOpen S).2.at c).sq = S.last + 1 ∧ ((mOpen S).2.at c).st = 2 ∧ (mOpen S).2.I.length = S.I.length ∧ S.last < 9223372036854775807 := by
  unfold mOpen
  split
  · exact .inl ⟨by simp, rfl⟩
  · cases hQ : S.Q with
    | nil => exact .inl ⟨by simp, rfl⟩
    | cons c Q' =>
      simp only
      split
      · exact .inl ⟨by simp, rfl⟩
      · rename_i hl
        have hi := (w.q c (by rw [hQ]; simp)).1
        have e : ((S.set c ⟨2, S.last + 1, (S.at c).pins, (S.at c).er⟩).at c) = ⟨2, S.last + 1, (S.at c).pins, (S.at c).er⟩ := by rw [at_set hi hi, if_pos rfl]
        refine .inr ⟨c, rfl, rfl, rfl, inn_set.2 hi, ?_, ?_, by simp [Rg.set], by have := w.last; omega⟩
        · show ((S.set c _).at c).sq = _; rw [e]
        · show ((S.set c _).at c).st = _; rw [e]

/-- The law's own manager, and the cell in which it is. -/
def Des (h2 h : Heap) (p m : Nat) (S : Rg) : Prop := ∃ W, HasM W h p S ∧ (∀ b, W b → h2.size ≤ b ∧ b ≠ m) ∧ Ext h2 h ∧ h[m]? = some (.cells #[ptr p 0] 24 (0, 0))
theorem Des.ext {h2 : Heap} {m : Nat} (d : Des h2 h p m S) (x : Ext h h') : Des h2 h' p m S := let ⟨W, a, b, c, e⟩ := d; ⟨W, a.ext x, b, c.trans x, x.row e⟩
theorem Des.step {h2 : Heap} {m : Nat} {S' : Rg} (hw : ∀ b, W b → h2.size ≤ b ∧ b ≠ m) (x : Ext h2 h) (r : h[m]? = some (.cells #[ptr p 0] 24 (0, 0))) (a : AftM W h p S' h') : Des h2 h' p m S' :=
  ⟨_, a.2, fun b g => g.elim (hw b) fun g => by have := x.size; have := row_lt r; omega, ((x.fr _).trans a.1 fun _ _ s => s).ext fun b hb s => by have := (hw b s).1; omega, a.1.row r fun s => (hw _ s).2 rfl⟩
end

section
variable {h : Heap} {a : Option Addr} {c : Nat} {L : List Op}
set_option maxHeartbeats 6400000 in
theorem law_rises {n : Int} (s : Sl eOp h a c L) (hl : L.length ≤ 1048576) : HC Try.prog 4 #[.int .i64 n, .slice a L.length c] h fun v h' => v = .bool true ∧ Ext h h' := by
  refine f4_sh _ _ _ _ _ _ fun nb h1 e1 eh1 => (lives_c h1).mono ?_
  have x1 : Ext h h1 := by rw [eh1]; exact Ext.push _ _
  have r1 : h1[nb]? = some (.cells #[.bool false] 4 (0, 0)) := by rw [eh1]; exact push_new e1
  clear eh1
  rintro _ h2 ⟨rfl, x2⟩
  have s1 := x1.size
  have s2 := x2.size
  have lnb := row_lt r1
  have stop : ∀ {h5 : Heap} {b : Bool}, b = true → Ext h h5 → h5[nb]? = some (.cells #[.bool b] 4 (0, 0)) → ∃ res : Bool, hcell h5 nb 0 = some (.bool res) ∧ (∀ h6, Shut' (Array.size h) h5 h6 → (Value.bool res = .bool true ∧ Ext h h6)) := fun hb x r => ⟨_, by rw [hcell_row r]; rfl, fun h6 s6 => ⟨by rw [hb], shut_ext x s6⟩⟩
  have put : ∀ {h4 h5 : Heap} {b : Bool}, Ext h h4 → h4[nb]? = some (.cells #[.bool false] 4 (0, 0)) → h5 = hset h4 nb 0 (.bool b) → Ext h h5 ∧ h5[nb]? = some (.cells #[.bool b] 4 (0, 0)) := fun x r e => ⟨ext_hset e x (by omega), by rw [e, hset_row r]; rfl⟩
  refine ⟨_, rfl, fun g => (by cases g), fun _ => (new_m n h2).mono ?_⟩
  rintro v h5 ⟨x5, hm⟩
  have x02 := x1.trans x2
  have rn2 := x2.row r1
  rcases hm with ⟨rfl, hn⟩ | ⟨hn, p, rfl, H⟩
  · refine ⟨_, _, rfl, fun m h6 e6 eh6 => ?_⟩
    have x6 : Ext h5 h6 := by rw [eh6]; exact Ext.push _ _
    have r6 : h6[m]? = some (.cells #[.pointer none] 24 (0, 0)) := by rw [eh6]; exact push_new e6
    clear eh6
    refine ⟨HW_row r6 (by simp), fun h7 e7 => ⟨fun _ => ?_, fun g => by simp at g⟩⟩
    have r7 : h7[m]? = some (.cells #[.pointer none] 24 (0, 0)) := by rw [e7, hset_row r6]; rfl
    have x7 : Ext h5 h7 := ext_hset e7 x6 (by omega)
    have rn7 := (x5.trans x7).row rn2
    refine ⟨none, by rw [hcell_row r7]; rfl, HW_row rn7 (by simp), fun h8 e8 => ?_⟩
    obtain ⟨q1, q2⟩ := put (x02.trans (x5.trans x7)) rn7 e8
    exact stop rfl q1 q2
  refine ⟨_, _, rfl, fun m h6 e6 eh6 => ?_⟩
  have x6 : Ext h5 h6 := by rw [eh6]; exact Ext.push _ _
  have r6 : h6[m]? = some (.cells #[.pointer none] 24 (0, 0)) := by rw [eh6]; exact push_new e6
  clear eh6
  refine ⟨HW_row r6 (by simp), fun h7 e7 => ⟨fun g => by simp at g, fun _ => ?_⟩⟩
  have r7 : h7[m]? = some (.cells #[ptr p 0] 24 (0, 0)) := by rw [e7, hset_row r6]; rfl
  have x7 : Ext h5 h7 := ext_hset e7 x6 (by omega)
  clear e7
  have s5 := x5.size
  have d7 : Des h2 h7 p m (S0 n.toNat) := ⟨_, H.ext x7, fun b g => ⟨g.1, by have := g.2; omega⟩, x5.trans x7, r7⟩
  have hnI : (S0 n.toNat).I.length = n.toNat := by simp [S0]
  refine ⟨fun last i h10 => ∃ (k : Nat) (S : Rg), i = k ∧ k ≤ L.length ∧ last = S.last ∧ Des h2 h10 p m S ∧ WF k S ∧ S.I.length = n.toNat, fun _ i _ => L.length - i.toNat, ⟨0, _, rfl, Nat.zero_le _, rfl, d7, wf_S0 (by omega), hnI⟩, ?_⟩
  rintro _ _ h10 ⟨k, S, rfl, hk, rfl, d10, w10, hI⟩
  obtain ⟨W, HM, hw, x10, rm10⟩ := id d10
  have hlast := w10.last
  have rn10 := x10.row rn2
  refine ⟨fun hlt => ?_, fun hge => ?_⟩
  · have hkl := lt_of_dec hlt
    obtain ⟨b, o, e, d⟩ := (s.ext (x02.trans x10)).at (List.getElem?_eq_getElem hkl)
    refine ⟨fun last h11 => ∃ S', last = S'.last ∧ Des h2 h11 p m S' ∧ WF (k + 1) S' ∧ S'.I.length = n.toNat, ⟨b, o, e, by omega, by omega, _, d.1, fun g => ⟨_, by rw [hcell_row rm10]; rfl, _, _, _, d.1, d.2.1, d.2.2.1, (does_c HM w10 (by omega) _ _ _ (by simpa using g)).mono ?_⟩, fun g => ⟨_, by rw [hcell_row rm10]; rfl, ?_⟩⟩, ?_⟩
    · rintro _ h12 ⟨⟨e, rfl⟩, S', a12, w12, hl12, hI12⟩
      exact ⟨_, rfl, S', hl12.symm, Des.step hw x10 rm10 a12, w12, by omega⟩
    · obtain ⟨_, _, _, _, _, _, _, M⟩ := HM
      refine (open_m M w10).mono ?_
      rintro _ h13 ⟨rfl, a13⟩
      have d13 := Des.step hw x10 rm10 a13
      have w13 := (wf_open w10).up (Nat.le_succ k) (by omega)
      refine ⟨_, _, _, rfl, fun g2 => ?_, fun g2 => ?_⟩
      · rcases open_cases w10 with ⟨_, e2⟩ | ⟨c, e2, _⟩
        · rw [e2] at d13 w13
          exact ⟨S, rfl, d13, w13, hI⟩
        · rw [e2] at g2; simp at g2
      · rcases open_cases w10 with ⟨e2, _⟩ | ⟨c, e2, hcur, hla, hin, hsq, hst, hI2, hmax⟩
        · exact absurd g2 (by simpa using e2)
        rw [e2]
        generalize (mOpen S).2 = S2 at *
        have wu : IntKind.u64.wrap (S.last + 1) = S.last + 1 := wu64 (by omega) (by omega)
        obtain ⟨W3, HM3, hw3, x13, rm13⟩ := id d13
        obtain ⟨_, _, _, _, _, _, _, M3⟩ := HM3
        refine ⟨false, ⟨fun g3 => ?_, fun _ => ⟨_, by rw [hcell_row rm13]; rfl, _, current_m M3 w13, fun g3 => ?_, fun _ => ⟨_, last_m M3 w13, ?_⟩⟩⟩, fun g3 => (by cases g3), fun _ => ?_⟩
        · simp only at g3; rw [wu] at g3; simp at g3
        · rw [hcur] at g3; simp at g3
        · rw [hla]; simp
        · refine ⟨fun q h16 => 0 ≤ q ∧ q ≤ n ∧ Ext h13 h16, fun q _ => (n - q).toNat, ⟨by omega, by omega, Ext.refl _⟩, ?_⟩
          rintro q h16 ⟨q0, q1, x16⟩
          refine ⟨fun hq => ?_, fun _ => ⟨S2, hla.symm, d13.ext x16, w13, by omega⟩⟩
          have hqn := of_decide_eq_true hq
          have hqi : S2.inn q := ⟨q0, by omega⟩
          refine ⟨_, by rw [hcell_row (x16.row rm13)]; rfl, (info_m (M3.ext x16) w13 q).mono ?_⟩
          rintro _ h17 ⟨rfl, x17⟩
          rw [if_pos hqi]
          refine ⟨_, _, _, _, _, rfl, fun xb h18 e18 eh18 => ?_⟩
          have x18 : Ext h17 h18 := by rw [eh18]; exact Ext.push _ _
          have r18 : h18[xb]? = some (.cells #[.int .i64 0, .int .u64 0, .int .i64 0, .int .i64 0] tI (0, 0)) := by rw [eh18]; exact push_new e18
          clear eh18
          refine ⟨HWs_row r18 (by simp), fun h19 e19 => ?_⟩
          have r19 : h19[xb]? = some (.cells #[.int .i64 (S2.at q).st, .int .u64 (S2.at q).sq, .int .i64 (S2.at q).pins, .int .i64 (S2.at q).er] tI (0, 0)) := by rw [e19, hsets_row _ r18]; rfl
          have x19 : Ext h17 h19 := ext_hsets e19 x18 (by omega)
          clear e19
          have f := w13.each q hqi
          have hle : (S2.at q).sq ≤ S.last + 1 := by
            by_cases h1 : (S2.at q).st = 1
            · rw [(f.one h1).1]; omega
            · have := (f.sq h1).2; omega
          refine ⟨false, ⟨_, by rw [hcell_row r19]; rfl, fun g3 => ?_, fun _ => ⟨fun g3 => ?_, fun _ => rfl⟩⟩, fun g3 => (by cases g3), fun _ => ?_⟩
          · have g4 : (S2.at q).sq > S.last + 1 := of_decide_eq_true g3; omega
          · have hne : q ≠ c := by simpa using g3
            symm
            rw [beq_eq_false_iff_ne]
            intro eq
            have h1 : (S2.at q).st ≠ 1 := fun h1 => by have := (f.one h1).1; have e3 : (S2.at q).sq = S.last + 1 := eq; omega
            exact w13.uq q c hqi hin hne h1 (by rw [hst]; decide) (by rw [hsq]; exact eq)
          · rw [w64 (by omega) (by omega)]
            exact ⟨⟨by omega, by omega, x16.trans (x17.trans x19)⟩, by show (n - (q + 1)).toNat < (n - q).toNat; omega⟩
    · rintro _ h11 ⟨S', rfl, d11, w11, hI11⟩
      rw [wadd k (by omega)]
      exact ⟨⟨k + 1, S', rfl, hkl, rfl, d11, w11, hI11⟩, by simp only [Int.toNat_natCast]; omega⟩
  intro ah h22 e22 eh22
  have x22 : Ext h10 h22 := by rw [eh22]; exact Ext.push _ _
  have r22 : h22[ah]? = some (.cells #[.int .u64 0] 29 (0, 0)) := by rw [eh22]; exact push_new e22
  clear eh22
  refine ⟨HW_row r22 (by simp), fun h23 e23 => ?_⟩
  have r23 : h23[ah]? = some (.cells #[.int .u64 0] 29 (0, 0)) := by rw [e23, hset_row r22]; rfl
  have x23 : Ext h10 h23 := ext_hset e23 x22 (by omega)
  clear e23
  have s10 := x10.size
  have s23 := x23.size
  have lah := row_lt r23
  have lm := row_lt rm10
  refine ⟨_, by rw [hcell_row (x23.row rm10)]; rfl, (iter_m p h23).mono ?_⟩
  rintro _ h24 ⟨x24, cb, rfl, locb, rcb⟩
  refine ⟨_, rfl, fun Lp l h25 y stay el x25 z25 L25 hyld => ?_⟩
  have s24 := x24.size
  have s25 := x25.size
  have lcb := row_lt rcb
  obtain ⟨ra, fa, qc, fc, mb, kv, Ds, M25⟩ := HM.ext (x23.trans (x24.trans x25))
  obtain ⟨ra0, fa0, qc0, fc0, mb0, kv0, Ds0, M10⟩ := id HM
  have hlen : ∀ {Ls}, Seal S S.I.length Ls → Ls.length ≤ 256 := fun {Ls} hL => by
    have := sealedTo_len (S := S) (n := S.I.length); have := w10.n; rw [hL.perm.length_eq]; omega
  let ahd : List Int → Nat → Int := fun Ls k => if k = 0 then 0 else (S.at (Ls.getD (k - 1) 0)).sq
  refine range_sealed (OUT := fun pend h28 => (pend = none ∧ _) ∨ (pend = some .ret ∧ _)) stay el z25 L25 M25 w10 (by rw [hcell_row (x25.row rcb)]; rfl) (by omega)
    (fun Ls Z k h' => Ext h10 h' ∧ h'[ah]? = some (.cells #[.int .u64 (ahd Ls k)] 29 (0, 0)) ∧ ¬ Z ah) (fun _ _ _ => False) .ret
    (fun Ls h3 hL x3 => ⟨x23.trans (x24.trans (x25.trans x3)), (x24.trans (x25.trans x3)).row r23, fun g => by rcases g with g | g <;> omega⟩)
    (fun Ls Z k h3 h4 zl ⟨x3, r3, zn⟩ f => ⟨((x3.fr _).trans f fun _ _ s => s).ext fun b hb s => by omega, f.row r3 fun s => zn (s ▸ zl), zn⟩)
    (fun _ _ _ _ _ g _ => g) ?_ ?_ (fun _ _ _ _ _ g => g.elim)
  · intro Ls Z k hkL h26 K26 hL zl zlt lp26 ⟨x26, r26, zn⟩ hK _
    refine hyld _ h26 K26 lp26 ⟨lp26, fun h29 o29 lp29 => ?_⟩
    have hl26 := zlt l zl
    have hln : ah ≠ l := fun s => zn (s ▸ zl)
    have hs29 := o29.size
    have r29 := o29.fr.row r26 hln
    have x29 : Ext h10 h29 := ((x26.fr _).trans o29.fr fun _ _ s => s).ext fun b hb s => by omega
    have hmem := hL.mem.1 (List.getElem_mem hkL)
    have hin : S.inn Ls[k] := ⟨hmem.1.1, hmem.1.2⟩
    refine ⟨_, by rw [hcell_row (x29.row rm10)]; rfl, (info_m (M10.ext x29) w10 Ls[k]).mono ?_⟩
    rintro _ h30 ⟨rfl, x30⟩
    rw [if_pos hin]
    have hs30 := x30.size
    refine ⟨_, _, _, _, _, rfl, fun xb h31 e31 eh31 => ?_⟩
    have x31 : Ext h30 h31 := by rw [eh31]; exact Ext.push _ _
    have r31 : h31[xb]? = some (.cells #[.int .i64 0, .int .u64 0, .int .i64 0, .int .i64 0] tI (0, 0)) := by rw [eh31]; exact push_new e31
    clear eh31
    refine ⟨HWs_row r31 (by simp), fun h32 e32 => ?_⟩
    have r32 : h32[xb]? = some (.cells #[.int .i64 (S.at Ls[k]).st, .int .u64 (S.at Ls[k]).sq, .int .i64 (S.at Ls[k]).pins, .int .i64 (S.at Ls[k]).er] tI (0, 0)) := by rw [e32, hsets_row _ r31]; rfl
    have x32 : Ext h30 h32 := ext_hsets e32 x31 (by omega)
    clear e32
    have x3032 := x30.trans x32
    have ra32 := x3032.row r29
    have f := w10.each _ hin
    have hsq := (f.sq (by rw [hmem.2]; decide))
    have hah : ahd Ls k < (S.at Ls[k]).sq := by
      show (if k = 0 then (0 : Int) else (S.at (Ls.getD (k - 1) 0)).sq) < _
      split
      · omega
      · rename_i h0
        rw [List.getD_eq_getElem?_getD, List.getElem?_eq_getElem (by omega)]
        exact List.pairwise_iff_getElem.1 hL.up (k - 1) k (by omega) hkL (by omega)
    refine ⟨false, ⟨(S.at Ls[k]).st, by rw [hcell_row r32]; rfl, fun g => ?_, fun _ => ⟨(S.at Ls[k]).sq, by rw [hcell_row r32]; rfl, ahd Ls k, by rw [hcell_row ra32]; rfl, ?_⟩⟩, fun g => (by cases g), fun _ => ⟨(S.at Ls[k]).sq, by rw [hcell_row r32]; rfl, HW_row ra32 (by simp), fun h35 e35 => ?_⟩⟩
    · rw [hmem.2] at g; simp at g
    · exact (decide_eq_false (by omega)).symm
    · have f35 := fr_hset_of e35
      have hs32 := x3032.size
      have r35 : h35[ah]? = some (.cells #[.int .u64 (ahd Ls (k + 1))] 29 (0, 0)) := by
        rw [e35, hset_row ra32]
        show some (Obj.cells #[.int .u64 (S.at Ls[k]).sq] 29 (0, 0)) = _
        have : ahd Ls (k + 1) = (S.at Ls[k]).sq := by
          show (if k + 1 = 0 then (0 : Int) else (S.at (Ls.getD (k + 1 - 1) 0)).sq) = _
          rw [if_neg (by omega), Nat.add_sub_cancel, List.getD_eq_getElem?_getD, List.getElem?_eq_getElem hkL]; rfl
        rw [this]
      refine ⟨stay _ _ _ _ (stay _ _ _ _ lp29 (x3032.block l (by omega))) (f35.block l (by omega) (Ne.symm hln)), fun h36 o36 lp36 => hK h36 ⟨((((x29.trans x3032).fr (fun b => b = ah ∨ b = l)).trans f35 fun _ _ s => .inl s).trans o36.fr fun _ _ s => .inr s).ext fun b hb s => by rcases s with s | s <;> omega, o36.fr.row r35 hln, zn⟩ lp36 ?_⟩
      exact (((o29.fr.mono fun _ _ s => .inr s).trans (x3032.fr (fun _ => False)) fun _ _ s => s.elim).trans f35 fun b _ s => .inl fun q => zn (s ▸ q)).trans o36.fr fun _ _ s => .inr s
  · rintro Ls Z h28 hL _ ⟨x28, _, _⟩
    have rn28 := x28.row rn10
    refine .inl ⟨rfl, HW_row rn28 (by simp), fun h37 e37 => ?_⟩
    obtain ⟨q1, q2⟩ := put (x02.trans (x10.trans x28)) rn28 e37
    exact stop rfl q1 q2
end
end Mg
end Go.Proofs.Ytfdgjgjcppfmiaa
