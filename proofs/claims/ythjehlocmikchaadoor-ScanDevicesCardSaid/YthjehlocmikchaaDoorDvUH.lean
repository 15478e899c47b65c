import Derived.Test.YthjehlocmikchaaDoorDvUG
import Derived.Test.YthjehlocmikchaaDoorDvUD
namespace Go.Proofs.YthjehlocmikchaaDoor
namespace Sc
open Go
theorem cbDv : CallB Tryd.prog 51 := fun _ _ => Tryd.call51 _ _
section
variable {h : Heap} {a : Option Addr} {c : Nat} {L : List Int}
set_option maxHeartbeats 6400000 in
theorem device_go {gb ib : Nat} {Tg Ti : TypeId} {fg fi : Nat × Nat} {y : Value} {R : Value → Heap → Prop} (g : Geo) (T : Nat → Prop) (t : Tab h) (s : Sl eB h a c L) (hb : isB L)
  (rg : h[gb]? = some (.cells (rowG g) Tg fg)) (ri : h[ib]? = some (.cells #[.slice a L.length c] Ti fi))
  (hs : ∀ h3, Ext h h3 → ∀ Ws, IsDev g L Ws → ∃ J : Nat → Heap → Prop, J 0 h3 ∧
   (∀ k (hk : k < Ws.length) h4 ra rc, J k h4 → Sl eFo h4 ra rc Ws[k].recs → Own eFo.k tF h.size h4 ra rc → HCV Tryd.prog y [.agg (Ws[k].cs ra Ws[k].recs.length rc).toArray] h4 fun vv h7 => Fr (Yt T h h3) h4 h7 ∧ ∃ b : Bool, vv = .bool b ∧ (b = false → R (.tuple #[]) h7) ∧ (b = true → J (k + 1) h7)) ∧
   (∀ h4, J Ws.length h4 → R (.tuple #[]) h4)) :
  HCF Tryd.prog (.func (.func 51) #[] #[ptr gb 0, ptr ib 0]) [y] h R := by
 refine ⟨51, [], [ptr gb 0, ptr ib 0], rfl, cbDv, ?_⟩
 obtain ⟨q1, q2, q3, q4⟩ := G4 rg
 refine f51_sh _ _ _ _ _ _ _ ⟨_, _, _, _, q1, q2, q3, q4, (bytes_m g h).mono ?_⟩
 rintro _ h1 ⟨rfl, x1⟩
 have quit : ¬ (Gok g ∧ (L.length : Int) = g.dev) → R (.tuple #[]) h1 := fun hn => by
  obtain ⟨J, j0, _, je⟩ := hs h1 x1 [] (by unfold IsDev; rw [if_neg hn])
  exact je h1 j0
 by_cases hcond : Gok g ∧ (L.length : Int) = g.dev
 rotate_left
 ·by_cases hg : Gok g
  ·rw [if_pos hg]
   refine ⟨x1, _, _, _, rfl, true, ⟨fun e => by simp at e, fun _ => ⟨_, _, _, by rw [hcell_row (x1.row ri)]; rfl, ?_⟩⟩, fun _ => quit hcond, fun e => by cases e⟩
   rw [eq_comm, bne_iff_ne]
   intro e; exact hcond ⟨hg, e.symm⟩
  ·rw [if_neg hg]
   exact ⟨x1, _, _, _, rfl, true, ⟨fun _ => rfl, fun e => by simp at e⟩, fun _ => quit hcond, fun e => by cases e⟩
 obtain ⟨hg, hL⟩ := hcond
 rw [if_pos hg]
 have b := ok_bounds hg
 have h3' := hg.2.2.1
 have hc := s.le
 have hrl := allS_len g L
 refine ⟨x1, _, _, _, rfl, false, ⟨fun e => by simp at e, fun _ => ⟨_, _, _, by rw [hcell_row (x1.row ri)]; rfl, by simp [hL]⟩⟩, fun e => (by cases e), fun _ => ⟨_, (G4 (x1.row rg)).2.2.1, ?_⟩⟩
 refine ⟨fun all n c' r h6 => ∃ (k : Nat) (K : List Sw), r = k ∧ k ≤ g.regs.toNat ∧ n = K.length ∧ Ext h h6 ∧ h1.size ≤ h6.size ∧ Sus h.size h6 all c' K ((allS g L).take k) ∧ Own eSw.k tS h1.size h6 all c', fun _ _ _ r _ => (g.regs - r).toNat, ⟨0, [], rfl, Nat.zero_le _, rfl, x1, Nat.le_refl _, Sus.nil _ _, Own.nil _ _ _ _⟩, ?_⟩
 rintro all _ c' _ h6 ⟨k, K, rfl, hk, rfl, x6, z6, s6, w6⟩
 have hKl : K.length = k := by rw [s6.len, List.length_take, hrl]; omega
 have z1 := x1.size
 refine ⟨fun e2 => ?_, fun e2 => ?_⟩
 ·have hlt := of_decide_eq_true e2
  have hkr : k < g.regs.toNat := by omega
  obtain ⟨f1, f2, f3, f4, f5, f6⟩ := sub_facts hg hkr hL
  have hsl := sub_len hg hkr hL
  have ht := allS_take (g := g) (L := L) hkr
  obtain ⟨q1, q2, q3, q4⟩ := G4 (x6.row rg)
  rw [w64 (x := (k : Int) * g.sz) (by omega) (by omega), w64 (x := (k : Int) + 1) (by omega) (by omega), w64 (x := ((k : Int) + 1) * g.sz) (by omega) (by omega), f1, f2]
  simp only [Int.toNat_natCast]
  have scut : ∀ {hh : Heap}, Ext h hh → Sl eB hh (slA a (k * g.sz.toNat) 1 c) (c - k * g.sz.toNat) (subR g L k) := fun x => (s.ext x).cut f3 f4
  have hbs : isB (subR g L k) := isB_drop (isB_take hb _) _
  have hsv : ∀ {hh : Heap}, Ext h hh → HC Tryd.prog 12 #[g.v, .int .i64 k, .slice (slA a (k * g.sz.toNat) 1 c) ((k + 1) * g.sz.toNat - k * g.sz.toNat) (c - k * g.sz.toNat)] hh fun v h' => TellS (surOf g k (subR g L k)) hh v h' := fun x => by
   have := survey_m g k (t.ext x) (scut x) hbs
   rw [hsl] at this; rw [f6]; exact this
  generalize surOf g k (subR g L k) = SS at *
  obtain ⟨S, er⟩ := SS
  refine ⟨fun b o h7 => ∃ ra rc, o = 0 ∧ Ext h6 h7 ∧ h7[b]? = some (.cells (S.cs ra S.recs.length rc).toArray 36 (0, 0)) ∧ Sl eFo h7 ra rc S.recs ∧ Own eFo.k tF h.size h7 ra rc, ⟨_, _, _, _, q1, q2, q3, q4, _, _, _, by rw [hcell_row (x6.row ri)]; rfl, by omega, by omega, by omega, fun sl esl => ?_⟩, ?_⟩
  ·subst esl
   have z6h := x6.size
   have row : ∀ {hh : Heap} {sv : Nat}, hh[sv]? = some (.cells (su0.cs none 0 0).toArray 36 (0, 0)) → ∀ {ra : Option Addr} {n rc : Nat}, HWs hh sv 0 9 ∧ ∀ hx, hx = hsets hh sv 0 (S.cs ra n rc) → hx[sv]? = some (.cells (S.cs ra n rc).toArray 36 (0, 0)) := fun r => ⟨HWs_row r (by simp), fun hx e => row_hsets_eq e r (by simp [sets])⟩
   refine ⟨(hsv x6).mono ?_, fun sv h11 esv e11 => ?_⟩
   ·rintro _ h8 ⟨ra, rc, rfl, x8, s8, w8⟩
    refine ⟨x8, _, _, _, _, _, _, _, _, _, _, _, _, rfl, fun sv h9 esv e9 => ?_⟩
    have x9 : Ext h8 h9 := by rw [e9]; exact Ext.push _ _
    obtain ⟨u1, u2⟩ := row (hh := h9) (sv := sv) (by rw [e9]; exact push_new esv) (ra := ra) (n := S.recs.length) (rc := rc)
    have z8 := x8.size
    have zs9 : h9.size = h8.size + 1 := by rw [e9]; simp
    refine ⟨u1, fun h10 e10 => ⟨ra, rc, rfl, ?_, u2 h10 e10, ?_, ?_⟩⟩
    ·exact ext_hsets e10 (x8.trans x9) (by omega)
    ·exact (s8.ext x9).fr (fr_hsets_of e10) fun q hq e => by have := (w8.low hq).2; omega
    ·exact ((w8.ext x9).fr (fr_hsets_of e10) fun q hq e => by have := (w8.low hq).2; omega).down (by omega)
   ·have x11 : Ext h6 h11 := by rw [e11]; exact Ext.push _ _
    have r11 : h11[sv]? = some (.cells (su0.cs none 0 0).toArray 36 (0, 0)) := by rw [e11]; exact push_new esv
    have zs11 : h11.size = h6.size + 1 := by rw [e11]; simp
    refine (hsv (x6.trans x11)).mono ?_
    rintro _ h12 ⟨ra, rc, rfl, x12, s12, w12⟩
    obtain ⟨u1, u2⟩ := row (x12.row r11) (ra := ra) (n := S.recs.length) (rc := rc)
    refine ⟨x12, _, _, _, _, _, _, _, _, _, _, _, _, rfl, u1, fun h13 e13 => ⟨ra, rc, rfl, ext_hsets e13 (x11.trans x12) (by omega), u2 h13 e13, ?_, ?_⟩⟩
    ·exact s12.fr (fr_hsets_of e13) fun q hq e => by have := (w12.low hq).1; omega
    ·exact (w12.fr (fr_hsets_of e13) fun q hq e => by have := (w12.low hq).1; omega).down (by omega)
  ·rintro b _ h7 ⟨ra, rc, rfl, x7, r7, s7, w7⟩
   obtain ⟨q0, q1, q2, q3, q4, q5, q6, q7, q8⟩ := S9' r7
   refine ⟨_, _, _, _, _, _, _, _, _, _, _, q0, q1, q2, q3, q4, q5, q6, q7, q8, fun nb h14 en e14 => ?_⟩
   have z7 := x7.size
   refine app_1 (x := S.sw ra rc) aS en e14 rfl (s6.sl.ext x7) (w6.ext x7) rfl (by omega) (by omega) fun a' c'' h15 f15 s15 w15 _ => ⟨a', _, c'', rfl, ?_⟩
   refine ⟨⟨k + 1, K ++ [S.sw ra rc], by omega, by omega, by simp, ?_, by have := f15.size; omega, ?_, w15⟩, by omega⟩
   ·exact (((x6.trans x7).fr _).trans f15 fun _ _ q => q).ext fun i hi q => by have := (w6.low q).1; omega
   ·have := (s6.ext x7).app (w6.ext x7) (by decide) f15 s15 s7 w7
    rw [ht]; exact this
 ·have hke : k = g.regs.toNat := by have := of_decide_eq_false e2; omega
  subst hke
  rw [List.take_of_length_le (by omega)] at s6
  refine (order_m s6.sl (by omega)).mono ?_
  rintro _ h12 ⟨x12, Lo, oa, oc, rfl, hO, so, wo⟩
  have hO' := s6.ord hO
  have hLl := hO.len
  obtain ⟨J, j0, jy, je⟩ := hs h12 (x6.trans x12) (Lo.map (getS (allS g L))) (by unfold IsDev; rw [if_pos ⟨hg, hL⟩]; exact ⟨Lo, hO', rfl⟩)
  have hWl : (Lo.map (getS (allS g L))).length = Lo.length := List.length_map ..
  refine ⟨oa, _, oc, rfl, fun v h13 => ∃ j : Nat, v = j ∧ j ≤ Lo.length ∧ J j h13 ∧ Fr (Yt T h h12) h12 h13, fun v _ => Lo.length - v.toNat, ⟨0, rfl, Nat.zero_le _, j0, Fr.refl _ _⟩, ?_⟩
  rintro _ h13 ⟨j, rfl, hj, jj, f13⟩
  have z12 := x12.size
  have z6h := x6.size
  refine ⟨fun e3 => ?_, fun e3 => ?_⟩
  ·have hjl := lt_of_dec e3
   have nY : ∀ {i}, h.size ≤ i → i < h12.size → ¬ Yt T h h12 i := fun k1 k2 q => by rcases q with q | q <;> omega
   have so13 := so.fr f13 fun b hb => nY (by have := (wo.low hb).1; omega) (wo.low hb).2
   have sA : Sus h.size h13 all c' K (allS g L) := (s6.ext x12).fr f13 (fun b hb => nY (by have := (w6.low hb).1; omega) (by have := (w6.low hb).2; omega)) fun b o ho _ hN => nY hN (row_lt ho)
   obtain ⟨ob, oo, eo, d⟩ := so13.at (List.getElem?_eq_getElem hjl)
   have hmem := hO.mem.1 (List.getElem_mem hjl)
   obtain ⟨ra, rc, eK, sr, wr⟩ := sA.atK hmem.1 hmem.2
   obtain ⟨kb, ko, ek, dk⟩ := sA.sl.at (atK_get hmem.1 hmem.2)
   rw [eK] at dk
   have hget : (Lo.map (getS (allS g L)))[j]'(by rw [hWl]; exact hjl) = getS (allS g L) Lo[j] := List.getElem_map ..
   have hy := jy j (by rw [hWl]; exact hjl) h13 ra rc jj
   rw [hget] at hy
   refine ⟨ob, oo, eo, by omega, by omega, _, d.1, kb, ko, ek, hmem.1, hmem.2, _, _, _, _, _, _, _, _, _, _, _, dk.1, dk.2.1, dk.2.2.1, dk.2.2.2.1, dk.2.2.2.2.1, dk.2.2.2.2.2.1, dk.2.2.2.2.2.2.1, dk.2.2.2.2.2.2.2.1, dk.2.2.2.2.2.2.2.2.1, HCV.mono (hy sr wr) ?_⟩
   rintro _ h14 ⟨f14, bo, rfl, hf, ht⟩
   refine ⟨bo, rfl, fun e => hf (by cases bo; rfl; simp at e), fun e => ?_⟩
   rw [wadd j (by omega)]
   exact ⟨⟨j + 1, rfl, hjl, ht (by cases bo; simp at e; rfl), f13.trans f14 fun _ _ q => q⟩, by simp only [Int.toNat_natCast]; omega⟩
  ·have hjl : j = Lo.length := by have := ge_of_dec e3; omega
   subst hjl
   rw [← hWl] at jj
   exact je h13 jj
theorem device_c (g : Geo) (s : Sl eB h a c L) (hl : L.length ≤ 140737488355328) : HC Tryd.prog 24 #[g.v, .slice a L.length c] h fun v h' => Ext h h' ∧ ∃ gb ib a' c', v = .func (.func 51) #[] #[ptr gb 0, ptr ib 0] ∧ h'[gb]? = some (.cells (rowG g) 24 (0, 0)) ∧ h'[ib]? = some (.cells #[.slice a' L.length c'] 25 (0, 0)) ∧ Sl eB h' a' c' L ∧ Own eB.k tB h.size h' a' c' ∧ h.size ≤ gb ∧ h.size ≤ ib := by
 refine f24_sh _ _ _ _ _ _ _ _ _ fun gb h1 egb e1 ib h2 eib e2 => ?_
 have x1 : Ext h h1 := by rw [e1]; exact Ext.push _ _
 have x2 : Ext h1 h2 := by rw [e2]; exact Ext.push _ _
 have x12 := x1.trans x2
 have r1 : h1[gb]? = some (.cells (rowG g) 24 (0, 0)) := by rw [e1]; exact push_new egb
 have r2 : h2[ib]? = some (.cells #[.slice a L.length c] 25 (0, 0)) := by rw [e2]; exact push_new eib
 have zs1 : h1.size = h.size + 1 := by rw [e1]; simp
 have zs2 : h2.size = h1.size + 1 := by rw [e2]; simp
 refine ⟨_, _, _, by rw [hcell_row r2]; rfl, (clone_c (s.ext x12) hl).mono ?_⟩
 rintro _ h3 ⟨a', c', rfl, x3, s3, w3⟩
 refine ⟨a', _, c', rfl, HW_row (x3.row r2) (by simp), fun h4 e4 => ?_⟩
 have f4 := fr_hset_of e4
 have r4 : h4[ib]? = some (.cells #[.slice a' L.length c'] 25 (0, 0)) := row_hset_eq e4 (x3.row r2) (by simp)
 have n4 : ∀ b, blkA a' b → ¬ b = ib := fun b hb => by have := (w3.low hb).1; omega
 exact ⟨ext_hset e4 (x12.trans x3) (by omega), gb, ib, a', c', rfl, f4.row ((x2.trans x3).row r1) (by omega), r4, s3.fr f4 n4, (w3.fr f4 n4).down (by omega), by omega, by omega⟩
end
end Sc
end Go.Proofs.YthjehlocmikchaaDoor
