/-
What is gone over is what there was at the call: the law ScanKept over heaps.
-/
import Derived.Test.YthjehlocmikchaaDoorUC
namespace Go.Proofs.YthjehlocmikchaaDoor
namespace Sc
open Go
section
variable {h : Heap} {a : Option Addr} {c : Nat} {L : List Int}
theorem clone_c (s : Sl eB h a c L) (hl : L.length ≤ 140737488355328) : HC Tryd.prog 48 #[.slice a L.length c] h fun v h' => ∃ a' c', v = .slice a' L.length c' ∧ Ext h h' ∧ Sl eB h' a' c' L ∧ Own eB.k tB h.size h' a' c' := by
  refine f48_sh _ _ _ _ _ ⟨fun e => ?_, fun _ nb h1 en e1 => ?_⟩
  · have ea : a = none := by cases a; rfl; cases e
    subst ea
    have hL : L = [] := by
      rcases s.ex with q | ⟨_, _, q, _⟩
      · have := s.le
        exact List.length_eq_zero_iff.1 (by omega)
      · cases q
    subst hL
    exact ⟨none, 0, rfl, Ext.refl _, Sl.nil _ _, Own.nil _ _ _ _⟩
  · have x1 : Ext h h1 := by rw [e1]; exact Ext.push _ _
    have hrow : h1[nb]? = some (.cells (([] : List Int).flatMap eB.enc).toArray tB (0, 0)) := by rw [e1]; exact push_new en
    have := app_own (E := eB) (h0 := h) (n := 0) (n2 := L.length) aB x1 (Sl.lit hrow) (Own.lit hrow (by omega)) rfl (s.ext x1) rfl (by omega) (K := fun v h2 => ∃ ap : Option Addr, ∃ ap_n ap_c : Nat, v = (.slice ap ap_n ap_c) ∧ ∃ a' c', (Value.slice ap ap_n ap_c) = .slice a' L.length c' ∧ Ext h h2 ∧ Sl eB h2 a' c' L ∧ Own eB.k tB h.size h2 a' c') fun a' c' h' x' _ s' w' _ => ⟨a', _, c', rfl, a', c', by rw [Nat.zero_add], x', by simpa using s', w'⟩
    exact this
theorem region_c (g : Geo) (s : Sl eB h a c L) (hl : L.length ≤ 140737488355328) : HC Tryd.prog 22 #[g.v, .slice a L.length c] h fun v h' => Ext h h' ∧ ∃ gb ib a' c', v = .func (.func 49) #[] #[ptr gb 0, ptr ib 0] ∧ h'[gb]? = some (.cells (rowG g) 24 (0, 0)) ∧ h'[ib]? = some (.cells #[.slice a' L.length c'] 25 (0, 0)) ∧ Sl eB h' a' c' L ∧ Own eB.k tB h.size h' a' c' ∧ h.size ≤ gb ∧ h.size ≤ ib := by
  refine f22_sh _ _ _ _ _ _ _ _ _ fun gb h1 egb e1 ib h2 eib e2 => ?_
  have x1 : Ext h h1 := by rw [e1]; exact Ext.push _ _
  have x2 : Ext h1 h2 := by rw [e2]; exact Ext.push _ _
  have x12 := x1.trans x2
  have r1 : h1[gb]? = some (.cells (rowG g) 24 (0, 0)) := by rw [e1]; exact push_new egb
  have r2 : h2[ib]? = some (.cells #[.slice a L.length c] 25 (0, 0)) := by rw [e2]; exact push_new eib
  have zs1 : h1.size = h.size + 1 := by rw [e1]; simp
  have zs2 : h2.size = h1.size + 1 := by rw [e2]; simp
  refine ⟨_, _, _, by rw [hcell_row r2]; rfl, (clone_c (s.ext x12) hl).mono ?_⟩
  rintro _ h3 ⟨a', c', rfl, x3, s3, w3⟩
  refine ⟨a', _, c', rfl, HW_row (x3.row r2) (by simp), fun h4 e4 => ?_⟩
  have f4 := fr_hset_of e4
  have r4 : h4[ib]? = some (.cells #[.slice a' L.length c'] 25 (0, 0)) := row_hset_eq e4 (x3.row r2) (by simp)
  have n4 : ∀ b, blkA a' b → ¬ b = ib := fun b hb => by have := (w3.low hb).1; omega
  exact ⟨ext_hset e4 (x12.trans x3) (by omega), gb, ib, a', c', rfl, f4.row ((x2.trans x3).row r1) (by omega), r4, s3.fr f4 n4, (w3.fr f4 n4).down (by omega), by omega, by omega⟩
theorem sl_kin {α : Type} {E : Elt α} {h0 h3 h4 h5 : Heap} {a : Option Addr} {c : Nat} {L : List α} (s : Sl E h4 a c L) (k : Kin h0 h3 h4 h5) (hlt : ∀ b, blkA a b → b < h0.size) : Sl E h5 a c L :=
  ⟨s.le, s.ex.imp id fun ⟨b, o, e, hc⟩ => ⟨b, o, e, fun i x hx => HCells.mk fun _ _ hj => by
    have h1 := (hc i x hx).get hj
    have h2 := k.low (hcell_lt h1) (hlt b (blkA_of e))
    unfold hcell at *; rw [h2]; exact h1⟩⟩
/-- The document's list of records. -/
def wantL (g : Geo) (L : List Int) : List Fo := if fits g L then match headD g L with | none => [] | some x => (recsOf g x 0 L).1 else []
theorem want_recs (g : Geo) (L : List Int) : ∃ rg, recsL g L = (wantL g L).map (setRg rg) := by
  unfold recsL wantL
  split
  · cases headD g L with
    | none => exact ⟨0, rfl⟩
    | some x => exact ⟨x.rg, by simp only; rw [recsOf_rg g x 0 x.rg L]⟩
  · exact ⟨0, rfl⟩
theorem want_len (g : Geo) (L : List Int) : (wantL g L).length ≤ L.length := by
  unfold wantL
  split
  · split
    · exact Nat.zero_le _
    · exact goOn_len _ _ _ _ _ _
  · exact Nat.zero_le _
set_option maxHeartbeats 6400000 in
theorem law_kept (g : Geo) (t : Tab h) (s : Sl eB h a c L) (hb : isB L) (hl : L.length ≤ 140737488355328) : HC Tryd.prog 6 #[.agg #[.int .i64 g.page, .int .i64 g.pages, .int .i64 g.regs, .int .i64 g.al, .slice a L.length c]] h fun v h' => v = .bool true ∧ Ext h h' := by
  refine f6_shy _ _ _ _ _ _ _ _ _ fun bb h1 eb e1 nb h2 en e2 => ?_
  have x1 : Ext h h1 := by rw [e1]; exact Ext.push _ _
  have x2' : Ext h1 h2 := by rw [e2]; exact Ext.push _ _
  have x2 := x1.trans x2'
  have zs1 : h1.size = h.size + 1 := by rw [e1]; simp
  have zs2 : h2.size = h1.size + 1 := by rw [e2]; simp
  have rb1 : h1[bb]? = some (.cells #[.int .i64 g.page, .int .i64 g.pages, .int .i64 g.regs, .int .i64 g.al, .slice a L.length c] 27 (0, 0)) := by rw [e1]; exact push_new eb
  have rn2 : h2[nb]? = some (.cells #[.bool false] 4 (0, 0)) := by rw [e2]; exact push_new en
  have B5 : ∀ {hh : Heap}, hh[bb]? = some (.cells #[.int .i64 g.page, .int .i64 g.pages, .int .i64 g.regs, .int .i64 g.al, .slice a L.length c] 27 (0, 0)) → hcell hh bb 0 = some (.int .i64 g.page) ∧ hcell hh bb 1 = some (.int .i64 g.pages) ∧ hcell hh bb 2 = some (.int .i64 g.regs) ∧ hcell hh bb 3 = some (.int .i64 g.al) ∧ hcell hh bb 4 = some (.slice a L.length c) := fun r =>
    ⟨by rw [hcell_row r]; rfl, by rw [hcell_row r]; rfl, by rw [hcell_row r]; rfl, by rw [hcell_row r]; rfl, by rw [hcell_row r]; rfl⟩
  refine (awake_c (t.ext x2)).mono ?_
  rintro _ h3 ⟨rfl, x3⟩
  have x03 := x2.trans x3
  refine ⟨x3, true, rfl, fun e => (by cases e), fun _ want h6 ew e6 => ?_⟩
  have x6 : Ext h3 h6 := by rw [e6]; exact Ext.push _ _
  have rw6 : h6[want]? = some (.cells #[.slice none 0 0] 32 (0, 0)) := by rw [e6]; exact push_new ew
  have zs6 : h6.size = h3.size + 1 := by rw [e6]; simp
  have hz3 := x3.size
  have x06 := x03.trans x6
  have rb6 := (x2'.trans (x3.trans x6)).row rb1
  obtain ⟨b0, b1, b2, b3, b4⟩ := B5 rb6
  have hwl := want_len g L
  refine ⟨fun h7 => ∃ wa wc, h7[want]? = some (.cells #[.slice wa (wantL g L).length wc] 32 (0, 0)) ∧ Sl eFo h7 wa wc (wantL g L) ∧ (∀ b, blkA wa b → h6.size ≤ b ∧ b < h7.size) ∧ Fr (fun b => b = want) h6 h7, ⟨_, _, _, _, b0, b1, b2, b3, _, _, _, b4, (fits_r g h6).mono ?_⟩, ?_⟩
  · rintro _ h8 ⟨rfl, x8⟩
    refine ⟨x8, _, rfl, fun e => ?_, fun e => ?_⟩
    · have ft := of_decide_eq_true e
      obtain ⟨b0, b1, b2, b3, b4⟩ := B5 (x8.row rb6)
      refine ⟨_, _, _, _, b0, b1, b2, b3, _, _, _, b4, (rec_r g ft (s.ext (x06.trans x8)) hb).mono ?_⟩
      intro v h9 hv
      have hv' : Ext h8 h9 ∧ ∃ ra rc at_ why, v = .tuple #[.slice ra (wantL g L).length rc, .agg #[.int .i64 at_, .int .i64 why]] ∧ Sl eFo h9 ra rc (wantL g L) ∧ Own eFo.k tF h8.size h9 ra rc := by
        obtain ⟨y1, y2⟩ := hv
        refine ⟨y1, ?_⟩
        unfold wantL
        rw [if_pos ft]
        cases hx : headD g L with
        | none =>
          rw [hx] at y2
          exact ⟨none, 0, 0, 1, y2, Sl.nil _ _, Own.nil _ _ _ _⟩
        | some x =>
          rw [hx] at y2
          obtain ⟨ra, rc, e1, e2, e3⟩ := y2
          exact ⟨ra, rc, _, _, e1, e2, e3⟩
      obtain ⟨x9, ra, rc, at_, why, rfl, s9, w9⟩ := hv'
      refine ⟨x9, _, _, _, _, _, rfl, HW_row ((x8.trans x9).row rw6) (by simp), fun h10 e10 => ?_⟩
      have f10 := fr_hset_of e10
      have zs8 := x8.size
      have nw : ∀ b, blkA ra b → ¬ b = want := fun b hb => by have := (w9.low hb).1; omega
      exact ⟨ra, rc, row_hset_eq e10 ((x8.trans x9).row rw6) (by simp), s9.fr f10 nw, fun b hb => by have := w9.low hb; have := f10.size; omega, ((x8.trans x9).fr _).trans f10 fun _ _ q => q⟩
    · have hr : wantL g L = [] := by unfold wantL; rw [if_neg (of_decide_eq_false e)]
      rw [hr]
      exact ⟨none, 0, x8.row rw6, Sl.nil _ _, fun b hb => (blkA_none hb).elim, x8.fr _⟩
  rintro h7 ⟨wa, wc, rw7, s7, w7, f7⟩
  have x07 : Ext h h7 := ((x06.fr _).trans f7 fun _ _ q => q).ext fun i hi q => by have := x03.size; omega
  have rb7 := f7.row rb6 (by omega)
  have zs7 := f7.size
  refine ⟨_, _, _, (B5 rb7).2.2.2.2, (copied_c (s.ext x07) hl).mono ?_⟩
  rintro _ h11 ⟨ca, cc, rfl, x11, s11, w11⟩
  obtain ⟨b0, b1, b2, b3, b4⟩ := B5 (x11.row rb7)
  refine ⟨x11, _, _, _, rfl, _, _, _, _, b0, b1, b2, b3, (region_c g s11 hl).mono ?_⟩
  rintro _ h12 ⟨x12, gb, ib, ia, ic, rfl, rg12, ri12, s12, w12, lgb, lib⟩
  have hz11 := x11.size
  have hz12 := x12.size
  have hs11 := s11.ext x12
  have hw11 := w11.ext x12
  have x712 := x11.trans x12
  have x012 := x07.trans x712
  refine ⟨_, rfl, fun v h13 => ∃ k : Nat, v = k ∧ k ≤ L.length ∧ Sl eB h13 ca cc (List.replicate k 165 ++ L.drop k) ∧ Own eB.k tB h7.size h13 ca cc ∧ Fr (blkA ca) h12 h13, fun v _ => L.length - v.toNat, ⟨0, rfl, Nat.zero_le _, by simpa using hs11, hw11, Fr.refl _ _⟩, ?_⟩
  rintro _ h13 ⟨k, rfl, hk, s13, w13, f13⟩
  refine ⟨fun e => ?_, fun e i h15 ei e15 => ?_⟩
  · have hkl := lt_of_dec e
    have hlen : k < (List.replicate k 165 ++ L.drop k).length := by simp; omega
    obtain ⟨rb, ro, rfl, _⟩ := s13.at (List.getElem?_eq_getElem hlen)
    obtain ⟨u1, u2⟩ := s13.word w13 (i := k) (r := 0) (x' := 165) (v := .int .u8 165) hlen (by decide) rfl (p := ro + Int.toNat (k : Int) * 1) (by show _ = ro + k * 1 + 0; simp)
    refine ⟨rb, ro, rfl, by omega, by omega, u1, fun h14 e14 => ?_⟩
    obtain ⟨s14, w14, f14⟩ := u2 h14 e14
    rw [wadd k (by omega)]
    refine ⟨⟨k + 1, rfl, hkl, ?_, w14, f13.trans (f14.mono fun i _ q => by subst q; exact blkA_of rfl) fun _ _ q => q⟩, by simp only [Int.toNat_natCast]; omega⟩
    rw [List.set_append_right _ _ (by simp), List.length_replicate, Nat.sub_self, List.drop_eq_getElem_cons hkl, List.set_cons_zero] at s14
    rw [List.replicate_succ', List.append_assoc]; exact s14
  have hca : ∀ b, blkA ca b → h7.size ≤ b ∧ b < h11.size := fun b hb => w11.low hb
  have x15 : Ext h13 h15 := by rw [e15]; exact Ext.push _ _
  have ri15 : h15[i]? = some (.cells #[.int .i64 0] 3 (0, 0)) := by rw [e15]; exact push_new ei
  have zs15 : h15.size = h13.size + 1 := by rw [e15]; simp
  refine ⟨HW_row ri15 (by simp), fun h16 e16 => ?_⟩
  have x16 : Ext h13 h16 := ext_hset e16 x15 (by omega)
  have ri16 : h16[i]? = some (.cells #[.int .i64 0] 3 (0, 0)) := row_hset_eq e16 ri15 (by simp)
  have zs16 : h16.size = h15.size := by rw [e16, hset_size]
  intro Lp l h17 y yc stay el x17 zs17 hL17 hyld
  have x1317 := x16.trans x17
  have f1217 : Fr (blkA ca) h12 h17 := f13.trans (x1317.fr _) fun _ _ q => q
  have x017 : Ext h h17 := ((x012.fr _).trans f1217 fun _ _ q => q).ext fun j hj q => by have := x07.size; have := (hca j q).1; omega
  have zs13 := f13.size
  have zs03 := x03.size
  have zs07 := x07.size
  have nca : ∀ {b}, (b < h7.size ∨ h11.size ≤ b) → ¬ blkA ca b := fun hq q => by have := hca _ q; omega
  have rw17 : h17[want]? = some (.cells #[.slice wa (wantL g L).length wc] 32 (0, 0)) := f1217.row (x712.row rw7) (nca (.inl (by omega)))
  have s17 : Sl eFo h17 wa wc (wantL g L) := (s7.ext x712).fr f1217 fun b hb => nca (.inl (w7 b hb).2)
  have rn17 : h17[nb]? = some (.cells #[.bool false] 4 (0, 0)) := f1217.row (x712.row (f7.row ((x3.trans x6).row rn2) (by omega))) (nca (.inl (by omega)))
  have ri17 := x17.row ri16
  have hia : ∀ b, blkA ia b → h11.size ≤ b ∧ b < h12.size := fun b hb => w12.low hb
  let T : Nat → Prop := fun b => b = i ∨ b = l ∨ b = nb
  refine region_go g T yc (t.ext x017) (s12.fr f1217 fun b hb => nca (.inr (hia b hb).1)) hb (f1217.row rg12 (nca (.inr lgb))) (f1217.row ri12 (nca (.inr lib))) (fun b hb q => by
    have := hia b hb
    rcases q with q | q | q <;> omega) fun h3' x3' => ?_
  obtain ⟨rgn, hrl⟩ := want_recs g L
  have hz3' := x3'.size
  have hwa : ∀ b, blkA wa b → b < h17.size := fun b hb => by have := (w7 b hb).2; omega
  let J : Nat → Heap → Prop := fun k hh => Lp .ready none hh ∧ h3'.size ≤ hh.size ∧ hh[i]? = some (.cells #[.int .i64 (k : Nat)] 3 (0, 0)) ∧ hh[want]? = some (.cells #[.slice wa (wantL g L).length wc] 32 (0, 0)) ∧ Sl eFo hh wa wc (wantL g L) ∧ hh[nb]? = some (.cells #[.bool false] 4 (0, 0)) ∧ Ext h hh
  refine ⟨J, ⟨stay _ _ _ _ hL17 (x3'.block l (by omega)), Nat.le_refl _, x3'.row ri17, x3'.row rw17, s17.ext x3', x3'.row rn17, x017.trans x3'⟩, ?_, ?_, ?_⟩
  · rintro m h4 h5 ⟨j1, j2, j3, j4, j5, j6, j7⟩ kk
    have hz := kk.size
    exact ⟨stay _ _ _ _ j1 (kk.low (by omega) (by omega)), by omega, kk.row j3 (.inl (by omega)), kk.row j4 (.inl (by omega)), sl_kin j5 kk hwa, kk.row j6 (.inl (by omega)), ⟨Nat.le_trans j7.size hz, fun q hq => (kk.low (by have := j7.size; omega) (by have := x017.size; omega)).trans (j7.block q hq)⟩⟩
  · rintro m hm h4 ⟨j1, j2, j3, j4, j5, j6, j7⟩
    have hmw : m < (wantL g L).length := by rw [hrl] at hm; simpa using hm
    have hel : (recsL g L)[m] = setRg rgn (wantL g L)[m] := by simp only [hrl, List.getElem_map]
    rw [hel]
    generalize hfo : (wantL g L)[m] = fo at *
    refine hyld _ _ _ _ _ h4 _ j1 fun r4 h21 er4 e21 => ?_
    have x21 : Ext h4 h21 := by rw [e21]; exact Ext.push _ _
    have rr21 : h21[r4]? = some (.cells #[.int .i64 0, .int .u64 0, .string ByteArray.empty, .string ByteArray.empty] 43 (0, 0)) := by rw [e21]; exact push_new er4
    refine ⟨HWs_row rr21 (by simp), fun h22 e22 => ?_⟩
    have x22 : Ext h4 h22 := ext_hsets e22 x21 (by omega)
    have rr22 : h22[r4]? = some (.cells #[.int .i64 fo.rc.kind, .int .u64 fo.rc.ver, .string fo.rc.key, .string fo.rc.val] 43 (0, 0)) := row_hsets_eq e22 rr21 (by simp [sets, setRg])
    have zs21 : h21.size = h4.size + 1 := by rw [e21]; simp
    have zs22 : h22.size = h21.size := by rw [e22, hsets_size]
    refine ⟨stay _ _ _ _ j1 (x22.block l (by omega)), fun h23 o23 l23 => ?_⟩
    have f23 := o23.fr
    have zs23 := o23.size
    have ri23 := f23.row (x22.row j3) (by omega)
    have rw23 := f23.row (x22.row j4) (by omega)
    have rn23 := f23.row (x22.row j6) (by omega)
    have rr23 := f23.row rr22 (by omega)
    have s23 := (j5.ext x22).fr f23 fun b hb q => by have := (w7 b hb).2; omega
    obtain ⟨fb, fo', efa, d⟩ := s23.at (show (wantL g L)[m]? = some fo by rw [List.getElem?_eq_getElem hmw, hfo])
    refine ⟨false, ⟨m, by rw [hcell_row ri23]; rfl, wa, _, wc, by rw [hcell_row rw23]; rfl, fun e => ?_, fun _ => ⟨fb, fo', efa, by omega, by omega, fo.off, d.2.1, fun e => ?_, fun _ => ⟨_, _, _, _, by rw [hcell_row rr23]; rfl, by rw [hcell_row rr23]; rfl, by rw [hcell_row rr23]; rfl, by rw [hcell_row rr23]; rfl, fo.rc.kind, fo.rc.ver, fo.rc.key, fo.rc.val, d.2.2.2.1, d.2.2.2.2.1, d.2.2.2.2.2.1, d.2.2.2.2.2.2.1, ?_⟩⟩⟩, fun e => (by cases e), fun _ => ⟨m, by rw [hcell_row ri23]; rfl, HW_row ri23 (by simp), fun h26 e26 => ?_⟩⟩
    · have := of_decide_eq_true e; omega
    · simp [setRg] at e
    · simp [ba_refl]
    · have f26 := fr_hset_of e26
      have zs26 := f26.size
      refine ⟨stay _ _ _ _ l23 (f26.block l (by omega) (by omega)), fun h27 o27 l27 => ?_⟩
      have f27 := o27.fr
      have zs27 := o27.size
      have F : Fr (fun b => b = i ∨ b = l) h4 h27 := (x22.fr _).trans ((f23.mono fun _ _ q => .inr q).trans ((f26.mono fun _ _ q => .inl q).trans (f27.mono fun _ _ q => .inr q) fun _ _ q => q) fun _ _ q => q) fun _ _ q => q
      refine ⟨F.mono fun b _ q => .inl ⟨by omega, q.imp id .inl⟩, true, rfl, fun e => (by cases e), fun _ => ⟨l27, by omega, ?_, F.row j4 (by omega), j5.fr F fun b hb q => by have := (w7 b hb).2; omega, F.row j6 (by omega), ?_⟩⟩
      · rw [wadd m (by omega)] at e26
        exact f27.row (row_hset_eq e26 ri23 (by simp)) (by omega)
      · exact ((j7.fr _).trans F fun _ _ q => q).ext fun b hb q => by omega
  · rintro h4 ⟨j1, j2, j3, j4, j5, j6, j7⟩
    have hlen : (recsL g L).length = (wantL g L).length := by rw [hrl, List.length_map]
    rw [hlen] at j3
    refine ⟨.ready, none, j1, by decide, fun h20 o20 _ => .inl ⟨rfl, ?_⟩⟩
    have f20 := o20.fr
    have rn20 := f20.row j6 (by omega)
    refine ⟨_, by rw [hcell_row (f20.row j3 (by omega))]; rfl, wa, _, wc, by rw [hcell_row (f20.row j4 (by omega))]; rfl, HW_row rn20 (by simp), fun h28 e28 => ?_⟩
    have rn28 : h28[nb]? = some (.cells #[.bool true] 4 (0, 0)) := row_hset_eq e28 rn20 (by simp)
    refine ⟨true, by rw [hcell_row rn28]; rfl, fun h29 s29 => ⟨rfl, ?_⟩⟩
    have x20 : Ext h h20 := ((j7.fr _).trans f20 fun _ _ q => q).ext fun b hb q => by omega
    exact ext_shut (ext_hset e28 x20 (by omega)) s29
end
end Sc
end Go.Proofs.YthjehlocmikchaaDoor
