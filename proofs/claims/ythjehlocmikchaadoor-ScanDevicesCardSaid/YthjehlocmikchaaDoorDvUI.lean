import Derived.Test.YthjehlocmikchaaDoorDvUH
namespace Go.Proofs.YthjehlocmikchaaDoor
namespace Sc
open Go
theorem dev_n {g : Geo} {L : List Int} {Ws : List Su} (d : IsDev g L Ws) (hl : L.length ≤ 140737488355328) : Ws.length ≤ 4611686018427387904 := by
 unfold IsDev at d
 split at d
 ·rename_i q
  obtain ⟨Lo, o, rfl⟩ := d
  have := o.len
  have b := ok_bounds q.1
  have h3 := q.1.2.2.1
  rw [List.length_map, allS_len] at this
  rw [List.length_map]
  omega
 ·rw [d]; simp
theorem dev_recs {g : Geo} {L : List Int} {Ws : List Su} (d : IsDev g L Ws) {S : Su} (hS : S ∈ Ws) : S.recs.length ≤ L.length := by
 unfold IsDev at d
 split at d
 ·obtain ⟨Lo, o, rfl⟩ := d
  obtain ⟨i, _, rfl⟩ := List.mem_map.1 hS
  unfold getS
  rw [List.getD_eq_getElem?_getD]
  by_cases hi : i.toNat < (allS g L).length
  ·rw [List.getElem?_eq_getElem hi]
   simp only [allS, List.getElem_map, Option.getD_some]
   refine Nat.le_trans sur_len ?_
   unfold subR
   simp only [List.length_drop, List.length_take]
   omega
  ·rw [List.getElem?_eq_none (by omega)]
   exact Nat.zero_le _
 ·rw [d] at hS; simp at hS
section
variable {h : Heap} {a : Option Addr} {c : Nat} {L : List Int}
set_option maxHeartbeats 6400000 in
theorem law_devices (g : Geo) (stop : Int) (t : Tab h) (s : Sl eB h a c L) (hb : isB L) (hl : L.length ≤ 140737488355328) : HC Tryd.prog 7 #[.agg #[.int .i64 g.page, .int .i64 g.pages, .int .i64 g.regs, .int .i64 g.al, .slice a L.length c], .int .i64 stop] h fun v h' => v = .bool true ∧ Ext h h' := by
 refine f7_shy _ _ _ _ _ _ _ _ _ _ fun bb h1 ebb e1 sb h2 esb e2 nb h3 enb e3 => ?_
 have x1 : Ext h h1 := by rw [e1]; exact Ext.push _ _
 have x2 : Ext h1 h2 := by rw [e2]; exact Ext.push _ _
 have x3 : Ext h2 h3 := by rw [e3]; exact Ext.push _ _
 have zs1 : h1.size = h.size + 1 := by rw [e1]; simp
 have zs2 : h2.size = h1.size + 1 := by rw [e2]; simp
 have zs3 : h3.size = h2.size + 1 := by rw [e3]; simp
 have rb1 : h1[bb]? = some (.cells #[.int .i64 g.page, .int .i64 g.pages, .int .i64 g.regs, .int .i64 g.al, .slice a L.length c] 27 (0, 0)) := by rw [e1]; exact push_new ebb
 have rs2 : h2[sb]? = some (.cells #[.int .i64 stop] 3 (0, 0)) := by rw [e2]; exact push_new esb
 have rn3 : h3[nb]? = some (.cells #[.bool false] 4 (0, 0)) := by rw [e3]; exact push_new enb
 have x03 := x1.trans (x2.trans x3)
 have B5 : ∀ {hh : Heap}, hh[bb]? = some (.cells #[.int .i64 g.page, .int .i64 g.pages, .int .i64 g.regs, .int .i64 g.al, .slice a L.length c] 27 (0, 0)) → hcell hh bb 0 = some (.int .i64 g.page) ∧ hcell hh bb 1 = some (.int .i64 g.pages) ∧ hcell hh bb 2 = some (.int .i64 g.regs) ∧ hcell hh bb 3 = some (.int .i64 g.al) ∧ hcell hh bb 4 = some (.slice a L.length c) := fun r =>
  ⟨by rw [hcell_row r]; rfl, by rw [hcell_row r]; rfl, by rw [hcell_row r]; rfl, by rw [hcell_row r]; rfl, by rw [hcell_row r]; rfl⟩
 refine (awake_c (t.ext x03)).mono ?_
 rintro _ h4 ⟨rfl, x4⟩
 have x04 := x03.trans x4
 obtain ⟨b0, b1, b2, b3, b4⟩ := B5 ((x2.trans (x3.trans x4)).row rb1)
 refine ⟨x4, true, rfl, fun e => (by cases e), fun _ => ⟨_, _, _, _, b0, b1, b2, b3, _, _, _, b4, (device_r' g (s.ext x04) hb).mono ?_⟩⟩
 rintro _ h7 ⟨x7, Ws, Kw, wa, wc, hWs, rfl, sW⟩
 refine ⟨wa, _, wc, rfl, fun want h8 ew e8 => ?_⟩
 have x8 : Ext h7 h8 := by rw [e8]; exact Ext.push _ _
 have rw8 : h8[want]? = some (.cells #[.slice none 0 0] 65 (0, 0)) := by rw [e8]; exact push_new ew
 refine ⟨HW_row rw8 (by simp), fun h9 e9 => ?_⟩
 have zs8 : h8.size = h7.size + 1 := by rw [e8]; simp
 have z4 := x4.size
 have z7 := x7.size
 have rw9 : h9[want]? = some (.cells #[.slice wa Ws.length wc] 65 (0, 0)) := row_hset_eq e9 rw8 (by simp)
 have x9 : Ext h7 h9 := ext_hset e9 x8 (by omega)
 have zs9 : h9.size = h8.size := by rw [e9, hset_size]
 have x09 := x04.trans (x7.trans x9)
 have rb9 := (x2.trans (x3.trans (x4.trans (x7.trans x9)))).row rb1
 refine ⟨_, _, _, (B5 rb9).2.2.2.2, (copied_c (s.ext x09) hl).mono ?_⟩
 rintro _ h10 ⟨ca, cc, rfl, x10, s10, w10⟩
 obtain ⟨b0, b1, b2, b3, b4⟩ := B5 (x10.row rb9)
 refine ⟨x10, _, _, _, rfl, _, _, _, _, b0, b1, b2, b3, (device_c g s10 hl).mono ?_⟩
 rintro _ h11 ⟨x11, gb, ib, ia, ic, rfl, rg11, ri11, s11, w11, lgb, lib⟩
 have x911 := x10.trans x11
 have x011 := x09.trans x911
 have z10 := x10.size
 have z11 := x11.size
 let P : Heap → Prop := fun hh => Ext h hh ∧ h11.size ≤ hh.size ∧ hh[bb]? = some (.cells #[.int .i64 g.page, .int .i64 g.pages, .int .i64 g.regs, .int .i64 g.al, .slice a L.length c] 27 (0, 0)) ∧ hh[sb]? = some (.cells #[.int .i64 stop] 3 (0, 0)) ∧ hh[nb]? = some (.cells #[.bool false] 4 (0, 0)) ∧
  hh[want]? = some (.cells #[.slice wa Ws.length wc] 65 (0, 0)) ∧ Sus h4.size hh wa wc Kw Ws ∧ hh[gb]? = some (.cells (rowG g) 24 (0, 0)) ∧ hh[ib]? = some (.cells #[.slice ia L.length ic] 25 (0, 0)) ∧ Sl eB hh ia ic L ∧ Sl eB hh ca cc L
 have hwa : ∀ b, blkA wa b → Ws.length = 0 ∨ b < h11.size := fun b hb => by
  obtain ⟨x', ex, rfl⟩ := hb
  rcases Nat.eq_zero_or_pos Ws.length with h0 | h0
  ·exact .inl h0
  ·obtain ⟨b', o', e, hcs⟩ := sW.sl.addr (by rw [sW.len]; exact h0)
   rw [e] at ex; cases ex
   have hb7 : b' < h7.size := hcell_lt ((hcs 0 _ (List.getElem?_eq_getElem (by rw [sW.len]; exact h0))).get (j := 0) rfl)
   exact .inr (show b' < h11.size by have := x9.size; omega)
 have glt := row_lt rg11
 have ilt := row_lt ri11
 have p11 : P h11 := ⟨x011, Nat.le_refl _, x911.row rb9, (x3.trans (x4.trans (x7.trans (x9.trans x911)))).row rs2, (x4.trans (x7.trans (x9.trans x911))).row rn3, x911.row rw9, sW.ext (x9.trans x911), rg11, ri11, s11, s10.ext x11⟩
 have pfr : ∀ {hh hh' : Heap} {Fb : Nat → Prop}, P hh → Fr Fb hh hh' → (∀ i, Fb i → h11.size ≤ i) → P hh' := fun {hh hh' Fb} p f hS => by
  obtain ⟨p1, p2, p3, p4, p5, p6, p7, p8, p9, p10, p12⟩ := p
  have low : ∀ {i}, i < h11.size → ¬ Fb i := fun hi q => by have := hS _ q; omega
  have rl : ∀ {i : Nat} {o : Obj}, hh[i]? = some o → i < h11.size → hh'[i]? = some o := fun r hi => f.row r (low hi)
  refine ⟨((p1.fr _).trans f fun _ _ q => q).ext fun i hi q => by have := hS i q; have := x011.size; omega, by have := f.size; omega, rl p3 (by omega), rl p4 (by omega), rl p5 (by omega), rl p6 (by omega), ?_, rl p8 glt, rl p9 ilt, p10.fr f fun b hb => low (w11.low hb).2, p12.fr f fun b hb => low (by have := (w10.low hb).2; omega)⟩
  rcases Nat.eq_zero_or_pos Ws.length with h0 | h0
  ·have hK : Kw = [] := List.length_eq_zero_iff.1 (by rw [sW.len]; exact h0)
   have hW : Ws = [] := List.length_eq_zero_iff.1 h0
   rw [hK, hW] at p7 ⊢
   exact ⟨⟨p7.sl.le, p7.sl.ex.imp id fun ⟨b, o, e, _⟩ => ⟨b, o, e, fun i x hx => by simp at hx⟩⟩, rfl, fun i x S hx => by simp at hx⟩
  ·refine ⟨p7.sl.fr f fun b hb => low ((hwa b hb).resolve_left (by omega)), p7.len, fun i x S k1 k2 => ?_⟩
   obtain ⟨ra, rc, e, q1, q2⟩ := p7.recs_ i x S k1 k2
   obtain ⟨ra', rc', e', q1', q2'⟩ := sW.recs_ i x S k1 k2
   rw [e] at e'
   simp only [Sw.mk.injEq, true_and, and_true] at e'
   obtain ⟨rfl, rfl⟩ := e'
   have hn : ∀ b, blkA ra b → ¬ Fb b := fun b hb => low (by have := (q2'.low hb).2; have := x9.size; omega)
   exact ⟨ra, rc, e, q1.fr f hn, q2.fr f hn⟩
 have hWn := dev_n hWs hl
 refine ⟨_, rfl, fun ro h12 ero e12 => ?_⟩
 have x12 : Ext h11 h12 := by rw [e12]; exact Ext.push _ _
 have rr12 : h12[ro]? = some (.cells #[.int .i64 0] 3 (0, 0)) := by rw [e12]; exact push_new ero
 have zs12 : h12.size = h11.size + 1 := by rw [e12]; simp
 refine ⟨HW_row rr12 (by simp), fun h13 e13 => ?_⟩
 have f13 := fr_hset_of e13
 have rr13 : h13[ro]? = some (.cells #[.int .i64 0] 3 (0, 0)) := row_hset_eq e13 rr12 (by simp)
 have p13 : P h13 := pfr (pfr p11 (x12.fr fun _ => False) fun _ q => q.elim) f13 fun i q => by omega
 refine ⟨fun rb o hh => o = 0 ∧ P hh ∧ h11.size ≤ rb ∧ ∃ n : Nat, n ≤ 2 ∧ hh[rb]? = some (.cells #[.int .i64 (n : Nat)] 3 (0, 0)), fun rb _ hh => match hcell hh rb 0 with | some (.int _ x) => (2 - x).toNat | _ => 0, ⟨rfl, p13, by omega, 0, by omega, rr13⟩, ?_⟩
 rintro rb _ h14 ⟨rfl, p14, lrb, n, hn2, rn14⟩
 have lt14 := row_lt rn14
 refine ⟨n, by rw [hcell_row rn14]; rfl, fun e => ?_, fun _ => ?_⟩
 rotate_left
 ·obtain ⟨p1, p2, p3, p4, p5, p6, p7, p8, p9, p10, p12⟩ := p14
  refine ⟨_, _, _, (B5 p3).2.2.2.2, _, same_b p12 (s.ext p1) hb hb, HW_row p5 (by simp), fun h38 e38 => ?_⟩
  have rn38 : h38[nb]? = some (.cells #[.bool (decide (L = L))] 4 (0, 0)) := row_hset_eq e38 p5 (by simp)
  refine ⟨_, by rw [hcell_row rn38]; rfl, fun h39 s39 => ⟨by simp, ?_⟩⟩
  exact ext_shut (ext_hset e38 p1 (by omega)) s39
 have hn : n < 2 := by have := of_decide_eq_true e; omega
 intro i h15 ei e15
 have x15 : Ext h14 h15 := by rw [e15]; exact Ext.push _ _
 have ri15 : h15[i]? = some (.cells #[.int .i64 0] 3 (0, 0)) := by rw [e15]; exact push_new ei
 have zs15 : h15.size = h14.size + 1 := by rw [e15]; simp
 refine ⟨HW_row ri15 (by simp), fun h16 e16 => ?_⟩
 have x16 : Ext h14 h16 := ext_hset e16 x15 (by omega)
 have ri16 : h16[i]? = some (.cells #[.int .i64 0] 3 (0, 0)) := row_hset_eq e16 ri15 (by simp)
 have zs16 : h16.size = h15.size := by rw [e16, hset_size]
 have ilo : h11.size ≤ i := by omega
 refine ⟨fun hh => P hh ∧ h16.size ≤ hh.size ∧ ∃ k : Nat, k ≤ Ws.length ∧ hh[i]? = some (.cells #[.int .i64 (k : Nat)] 3 (0, 0)) ∧ hh[rb]? = some (.cells #[.int .i64 (n : Nat)] 3 (0, 0)) ∧ (k = Ws.length ∨ n = 0 ∧ (k : Int) = stop), ?_, ?_⟩
 ·intro Lp l h18 y yc stay el x18 zs18 hL18
  have x1418 := x16.trans x18
  have p18 : P h18 := pfr p14 (x1418.fr fun _ => False) fun _ q => q.elim
  intro hyld
  let T : Nat → Prop := fun b => b = i ∨ b = l
  have z14 : h11.size ≤ h14.size := p14.2.1
  have ri18 := x18.row ri16
  have rn18 := x1418.row rn14
  refine device_go g T (t.ext p18.1) p18.2.2.2.2.2.2.2.2.2.1 hb p18.2.2.2.2.2.2.2.1 p18.2.2.2.2.2.2.2.2.1 fun h3' x3' Ws' hWs' => ?_
  obtain rfl := hWs'.eq hWs
  have hz3' := x3'.size
  let J : Nat → Heap → Prop := fun k hh => Lp .ready none hh ∧ P hh ∧ h3'.size ≤ hh.size ∧ hh[i]? = some (.cells #[.int .i64 (k : Nat)] 3 (0, 0)) ∧ hh[rb]? = some (.cells #[.int .i64 (n : Nat)] 3 (0, 0))
  refine ⟨J, ⟨stay _ _ _ _ hL18 (x3'.block l (by omega)), pfr p18 (x3'.fr fun _ => False) fun _ q => q.elim, Nat.le_refl _, x3'.row ri18, x3'.row rn18⟩, ?_, ?_⟩
  ·rintro k hk h4' ra rc ⟨j1, j2, j3, j4, j5⟩ sr wr
   refine hyld _ _ _ _ _ _ _ _ _ _ _ h4' _ j1 fun sv h22 esv e22 => ?_
   generalize hS : Ws'[k] = S at *
   have x22 : Ext h4' h22 := by rw [e22]; exact Ext.push _ _
   have r22 : h22[sv]? = some (.cells (su0.cs none 0 0).toArray 36 (0, 0)) := by rw [e22]; exact push_new esv
   have zs22 : h22.size = h4'.size + 1 := by rw [e22]; simp
   refine ⟨HWs_row r22 (by simp), fun h23 e23 => ?_⟩
   have x23 : Ext h4' h23 := ext_hsets e23 x22 (by omega)
   have r23 : h23[sv]? = some (.cells (S.cs ra S.recs.length rc).toArray 36 (0, 0)) := row_hsets_eq e23 r22 (by simp [sets])
   have zs23 : h23.size = h22.size := by rw [e23, hsets_size]
   refine ⟨stay _ _ _ _ j1 (x23.block l (by omega)), fun h24 o24 l24 => ?_⟩
   have f24 := o24.fr
   have zs24 := o24.size
   have ri24 := f24.row (x23.row j4) (by omega)
   have rb24 := f24.row (x23.row j5) (by omega)
   have sv24 := f24.row r23 (by omega)
   have p23 : P h23 := pfr j2 (x23.fr fun _ => False) fun _ q => q.elim
   have p24 : P h24 := pfr p23 f24 fun b q => by omega
   have hSk : Ws'[k]? = some S := by rw [List.getElem?_eq_getElem hk, hS]
   obtain ⟨ra', rc', hK, sK, _⟩ := p24.2.2.2.2.2.2.1.get hSk
   obtain ⟨wb, wo, ewa, d⟩ := p24.2.2.2.2.2.2.1.sl.at hK
   have hrl := dev_recs hWs (List.mem_of_getElem? hSk)
   have s24 : Sl eFo h24 ra rc S.recs := by
    exact (sr.ext x23).fr f24 fun b hb q => by have := (wr.low hb).1; omega
   obtain ⟨q0, q1, q2, q3, q4, q5, q6, q7, q8⟩ := S9 sv24
   refine ⟨fun j hh => j = false ∧ Ext h24 hh, ⟨k, by rw [hcell_row ri24]; rfl, wa, _, wc, by rw [hcell_row p24.2.2.2.2.2.1]; rfl, fun e => (by have := of_decide_eq_true e; omega), fun _ => ⟨_, _, _, _, _, _, _, _, _, _, _, q0, q1, q2, q3, q4, q5, q6, q7, q8, wb, wo, ewa, by omega, by omega, _, _, _, _, _, _, _, _, _, _, _, d.1, d.2.1, d.2.2.1, d.2.2.2.1, d.2.2.2.2.1, d.2.2.2.2.2.1, d.2.2.2.2.2.2.1, d.2.2.2.2.2.2.2.1, d.2.2.2.2.2.2.2.2.1, (same_eq s24 sK (by omega)).mono ?_⟩⟩, ?_⟩
   ·rintro _ h26 ⟨rfl, x26⟩
    exact ⟨true, rfl, rfl, x26⟩
   rintro _ h25 ⟨rfl, x25⟩
   have ri25 := x25.row ri24
   refine ⟨fun e => (by cases e), fun _ => ⟨k, by rw [hcell_row ri25]; rfl, HW_row ri25 (by simp), fun h29 e29 => ?_⟩⟩
   have f29 := fr_hset_of e29
   rw [wadd k (by omega)] at e29
   have ri29 : h29[i]? = some (.cells #[.int .i64 ((k + 1 : Nat) : Int)] 3 (0, 0)) := row_hset_eq e29 ri25 (by simp)
   have zs25 := x25.size
   have zs29 := f29.size
   have p29 : P h29 := pfr (pfr p24 (x25.fr fun _ => False) fun _ q => q.elim) f29 fun b q => by omega
   have rb29 := f29.row (x25.row rb24) (by omega)
   have F : Fr (fun b => b = i ∨ b = l) h4' h29 := (x23.fr _).trans ((f24.mono fun _ _ q => .inr q).trans ((x25.fr _).trans (f29.mono fun _ _ q => .inl q) fun _ _ q => q) fun _ _ q => q) fun _ _ q => q
   have lp29 : Lp .busy none h29 := stay _ _ _ _ (stay _ _ _ _ l24 (x25.block l (by omega))) (f29.block l (by omega) (by omega))
   have yt : ∀ {hh}, Fr (fun b => b = i ∨ b = l) h4' hh → Fr (Yt T h18 h3') h4' hh := fun f => f.mono fun b _ q => .inl ⟨by omega, q⟩
   refine ⟨(n : Int) == 0 && ((k + 1 : Nat) : Int) == stop, ⟨n, by rw [hcell_row rb29]; rfl, fun e => ⟨_, by rw [hcell_row ri29]; rfl, stop, by rw [hcell_row p29.2.2.2.1]; rfl, by rw [e, Bool.true_and]⟩, fun e => by rw [e, Bool.false_and]⟩, fun e => ⟨lp29, fun h30 o30 l30 => ?_⟩, fun e => ⟨lp29, fun h31 o31 l31 => ?_⟩⟩
   ·have f30 := o30.fr
    refine ⟨yt (F.trans (f30.mono fun _ _ q => .inr q) fun _ _ q => q), false, rfl, fun _ => ⟨.done, _, l30, by decide, fun h21 o21 _ => .inr (.inr ⟨rfl, ?_⟩)⟩, fun e => by cases e⟩
    have f21 := o21.fr
    have e0 := Bool.and_eq_true_iff.1 e
    have en : n = 0 := by have := eq_of_beq e0.1; omega
    refine ⟨pfr (pfr p29 f30 fun b q => by omega) f21 fun b q => by omega, by have := f30.size; have := f21.size; omega, k + 1, hk, f21.row (f30.row ri29 (by omega)) (by omega), f21.row (f30.row rb29 (by omega)) (by omega), .inr ⟨en, eq_of_beq e0.2⟩⟩
   ·have f31 := o31.fr
    exact ⟨yt (F.trans (f31.mono fun _ _ q => .inr q) fun _ _ q => q), true, rfl, fun e => (by cases e), fun _ => ⟨l31, pfr p29 f31 fun b q => by omega, by have := f31.size; omega, f31.row ri29 (by omega), f31.row rb29 (by omega)⟩⟩
  ·rintro h4' ⟨j1, j2, j3, j4, j5⟩
   refine ⟨.ready, none, j1, by decide, fun h20 o20 _ => .inl ⟨rfl, ?_⟩⟩
   have f20 := o20.fr
   exact ⟨pfr j2 f20 fun b q => by omega, by have := f20.size; omega, _, Nat.le_refl _, f20.row j4 (by omega), f20.row j5 (by omega), .inl rfl⟩
 ·rintro h17 ⟨p17, z17, k, hk, ri17, rb17, hor⟩
  refine ⟨false, ⟨k, by rw [hcell_row ri17]; rfl, wa, _, wc, by rw [hcell_row p17.2.2.2.2.2.1]; rfl, fun e => ⟨n, by rw [hcell_row rb17]; rfl, fun e2 => ?_, fun _ => ⟨stop, by rw [hcell_row p17.2.2.2.1]; rfl, ?_⟩⟩, fun _ => rfl⟩, fun e => (by cases e), fun _ => ⟨n, by rw [hcell_row rb17]; rfl, fun r1 h35 er1 e35 => ?_⟩⟩
  ·rcases hor with rfl | ⟨rfl, _⟩
   ·simp at e
   ·simp at e2
  ·rcases hor with rfl | ⟨_, e3⟩
   ·simp at e
   ·simp [e3]
  ·have x35 : Ext h17 h35 := by rw [e35]; exact Ext.push _ _
   have rr35 : h35[r1]? = some (.cells #[.int .i64 0] 3 (0, 0)) := by rw [e35]; exact push_new er1
   refine ⟨HW_row rr35 (by simp), fun h36 e36 => ?_⟩
   have rr36 : h36[r1]? = some (.cells #[.int .i64 (n : Nat)] 3 (0, 0)) := row_hset_eq e36 rr35 (by simp)
   refine ⟨n, by rw [hcell_row rr36]; rfl, HW_row rr36 (by simp), fun h37 e37 => ?_⟩
   rw [wadd n (by omega)] at e37
   have rr37 : h37[r1]? = some (.cells #[.int .i64 ((n + 1 : Nat) : Int)] 3 (0, 0)) := row_hset_eq e37 rr36 (by simp)
   have z2 := p17.2.1
   refine ⟨⟨rfl, pfr (pfr (pfr p17 (x35.fr fun _ => False) fun _ q => q.elim) (fr_hset_of e36) fun b q => by omega) (fr_hset_of e37) fun b q => by omega, by omega, n + 1, by omega, rr37⟩, ?_⟩
   show (match hcell h37 r1 0 with | some (.int _ x) => (2 - x).toNat | _ => 0) < (match hcell h14 rb 0 with | some (.int _ x) => (2 - x).toNat | _ => 0)
   rw [hcell_row rr37, hcell_row rn14]
   show (2 - ((n + 1 : Nat) : Int)).toNat < (2 - (n : Int)).toNat
   omega
end
end Sc
end Go.Proofs.YthjehlocmikchaaDoor
