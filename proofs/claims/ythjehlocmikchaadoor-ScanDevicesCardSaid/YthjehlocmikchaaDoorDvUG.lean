import Derived.Test.YthjehlocmikchaaDoorDvUF
import Derived.Test.YthjehlocmikchaaDoorDvTCe
namespace Go.Proofs.YthjehlocmikchaaDoor
namespace Sc
open Go
abbrev Su.sw (S : Su) (ra : Option Addr) (rc : Nat) : Sw := ⟨S.rg, S.has, S.ep, S.sq, S.hr, ra, S.recs.length, rc, S.at_, S.why, S.sealed_⟩
abbrev keyS (S : Su) : Sw := S.sw none 0
def subR (g : Geo) (L : List Int) (r : Nat) : List Int := (L.take ((r + 1) * g.sz.toNat)).drop (r * g.sz.toNat)
def allS (g : Geo) (L : List Int) : List Su := (List.range g.regs.toNat).map fun (r : Nat) => (surOf g r (subR g L r)).1
def getS (Ss : List Su) (i : Int) : Su := Ss.getD i.toNat su0
def IsDev (g : Geo) (L : List Int) (Ws : List Su) : Prop := if Gok g ∧ (L.length : Int) = g.dev then ∃ Lo, IsOrd ((allS g L).map keyS) Lo ∧ Ws = Lo.map (getS (allS g L)) else Ws = []
theorem IsDev.eq {g : Geo} {L : List Int} {A B : List Su} (a : IsDev g L A) (b : IsDev g L B) : A = B := by
 unfold IsDev at a b
 split at a <;> rename_i q
 ·rw [if_pos q] at b
  obtain ⟨x, x1, x2⟩ := a
  obtain ⟨y, y1, y2⟩ := b
  rw [x2, y2, x1.eq y1]
 ·rw [if_neg q] at b
  rw [a, b]
theorem own_ne2 {k k' N N' : Nat} {T T' : TypeId} {h : Heap} {a b : Option Addr} {c d : Nat} (x : Own k T N h a c) (y : Own k' T' N' h b d) (hT : T ≠ T') {p : Nat} (hp : blkA a p) : ¬ blkA b p := fun hq => by
 rcases x with ⟨rfl, _⟩ | ⟨b1, o1, cs1, rfl, _, r1, _⟩
 ·exact blkA_none hp
 ·rcases y with ⟨rfl, _⟩ | ⟨b2, o2, cs2, rfl, _, r2, _⟩
  ·exact blkA_none hq
  ·rw [blkA_some] at hp hq
   subst hp; subst hq
   rw [r1] at r2; cases r2; exact hT rfl
structure Sus (N : Nat) (h : Heap) (a : Option Addr) (c : Nat) (K : List Sw) (Ss : List Su) : Prop where
 sl : Sl eSw h a c K
 len : K.length = Ss.length
 recs_ : ∀ (i : Nat) x S, K[i]? = some x → Ss[i]? = some S → ∃ ra rc, x = S.sw ra rc ∧ Sl eFo h ra rc S.recs ∧ Own eFo.k tF N h ra rc
section
variable {N : Nat} {h h' : Heap} {a : Option Addr} {c : Nat} {K : List Sw} {Ss : List Su}
theorem Sus.nil (N : Nat) (h : Heap) : Sus N h none 0 [] [] := ⟨Sl.nil _ _, rfl, fun i x S hx => by simp at hx⟩
theorem Sus.ext (s : Sus N h a c K Ss) (x : Ext h h') : Sus N h' a c K Ss := ⟨s.sl.ext x, s.len, fun i y S h1 h2 => let ⟨ra, rc, e, p, q⟩ := s.recs_ i y S h1 h2; ⟨ra, rc, e, p.ext x, q.ext x⟩⟩
theorem Sus.get (s : Sus N h a c K Ss) {i : Nat} {S : Su} (hS : Ss[i]? = some S) : ∃ ra rc, K[i]? = some (S.sw ra rc) ∧ Sl eFo h ra rc S.recs ∧ Own eFo.k tF N h ra rc := by
 have hi := (List.getElem?_eq_some_iff.1 hS).1
 have hk : K[i]? = some (K[i]'(by rw [s.len]; exact hi)) := List.getElem?_eq_getElem (by rw [s.len]; exact hi)
 obtain ⟨ra, rc, e, p, q⟩ := s.recs_ i _ S hk hS
 exact ⟨ra, rc, by rw [hk, e], p, q⟩
theorem Sus.fr {P : Nat → Prop} (s : Sus N h a c K Ss) (f : Fr P h h') (h1 : ∀ b, blkA a b → ¬ P b) (h2 : ∀ b (o : Obj), h[b]? = some o → (∃ cs fr, o = .cells cs tF fr) → N ≤ b → ¬ P b) : Sus N h' a c K Ss :=
 ⟨s.sl.fr f h1, s.len, fun i y S k1 k2 => by
  obtain ⟨ra, rc, e, p, q⟩ := s.recs_ i y S k1 k2
  have hn : ∀ b, blkA ra b → ¬ P b := fun b hb => by
   rcases q with ⟨rfl, _⟩ | ⟨b', o', cs, rfl, hN, r, _⟩
   ·exact (blkA_none hb).elim
   ·rw [blkA_some] at hb; subst hb
    exact h2 b _ r ⟨cs, (0, 0), rfl⟩ hN
  exact ⟨ra, rc, e, p.fr f hn, q.fr f hn⟩⟩
theorem Sus.app {k : Nat} {T : TypeId} {M : Nat} (s : Sus N h a c K Ss) (w : Own k T M h a c) (hT : T ≠ tF) {a' : Option Addr} {c' : Nat} {S : Su} {ra : Option Addr} {rc : Nat} (f : Fr (blkA a) h h') (s' : Sl eSw h' a' c' (K ++ [S.sw ra rc])) (sr : Sl eFo h ra rc S.recs) (wr : Own eFo.k tF N h ra rc) : Sus N h' a' c' (K ++ [S.sw ra rc]) (Ss ++ [S]) := by
 refine ⟨s', by simp [s.len], fun i y S' k1 k2 => ?_⟩
 by_cases hi : i < K.length
 ·rw [List.getElem?_append_left hi] at k1
  rw [List.getElem?_append_left (by rw [← s.len]; exact hi)] at k2
  obtain ⟨ra', rc', e, p, q⟩ := s.recs_ i y S' k1 k2
  have hn : ∀ b, blkA ra' b → ¬ blkA a b := fun b hb => own_ne2 q w (Ne.symm hT) hb
  exact ⟨ra', rc', e, p.fr f hn, q.fr f hn⟩
 ·have hil := (List.getElem?_eq_some_iff.1 k1).1
  have hi2 : i = K.length := by simp at hil; omega
  subst hi2
  rw [List.getElem?_append_right (Nat.le_refl _), Nat.sub_self] at k1
  rw [List.getElem?_append_right (by rw [s.len]; exact Nat.le_refl _), s.len, Nat.sub_self] at k2
  cases k1; cases k2
  have hn : ∀ b, blkA ra b → ¬ blkA a b := fun b hb => own_ne2 wr w (Ne.symm hT) hb
  exact ⟨ra, rc, rfl, sr.fr f hn, wr.fr f hn⟩
theorem Sus.atK (s : Sus N h a c K Ss) {i : Int} (h0 : 0 ≤ i) (h1 : i < K.length) : ∃ ra rc, Sc.atK K i = (getS Ss i).sw ra rc ∧ Sl eFo h ra rc (getS Ss i).recs ∧ Own eFo.k tF N h ra rc := by
 have hS : Ss[i.toNat]? = some (getS Ss i) := by
  unfold getS; rw [List.getD_eq_getElem?_getD, List.getElem?_eq_getElem (by rw [← s.len]; omega)]; rfl
 exact let ⟨ra, rc, e, p, q⟩ := s.recs_ i.toNat _ _ (atK_get h0 h1) hS; ⟨ra, rc, e, p, q⟩
theorem Sus.ord (s : Sus N h a c K Ss) {Lo : List Int} (o : IsOrd K Lo) : IsOrd (Ss.map keyS) Lo := by
 refine o.of (by rw [List.length_map, s.len]) fun i j i0 i1 j0 j1 => ?_
 have key : ∀ i : Int, 0 ≤ i → i < K.length → Sc.atK (Ss.map keyS) i = keyS (getS Ss i) := fun i h0 h1 => by
  unfold Sc.atK getS
  rw [List.getD_eq_getElem?_getD, List.getElem?_map, List.getD_eq_getElem?_getD, List.getElem?_eq_getElem (by rw [← s.len]; omega)]; rfl
 obtain ⟨ra, rc, e1, _⟩ := s.atK i0 i1
 obtain ⟨ra', rc', e2, _⟩ := s.atK j0 j1
 rw [key i i0 i1, key j j0 j1, e1, e2]; rfl
end
abbrev tS : TypeId := 36
theorem aS : AppT Tryd.prog 65 tS eSw.k 88 := ⟨by kernel_rfl, by kernel_rfl, by kernel_rfl, ⟨.agg #[.int .i64 0, .bool false, .int .u64 0, .int .u64 0, .int .i64 0, .slice none 0 0, .int .i64 0, .int .i64 0, .bool false], [.int .i64 0, .bool false, .int .u64 0, .int .u64 0, .int .i64 0, .slice none 0 0, .int .i64 0, .int .i64 0, .bool false], by unfold zeroB; kernel_rfl, rfl, rfl⟩, by decide⟩
theorem S9' {hh : Heap} {b : Nat} {S : Su} {a : Option Addr} {n c : Nat} {T : TypeId} {fr : Nat × Nat} (r : hh[b]? = some (.cells (S.cs a n c).toArray T fr)) :
  hcell hh b 0 = some (.int .i64 S.rg) ∧ hcell hh b (0 + 1) = some (.bool S.has) ∧ hcell hh b (0 + 2) = some (.int .u64 S.ep) ∧ hcell hh b (0 + 3) = some (.int .u64 S.sq) ∧ hcell hh b (0 + 4) = some (.int .i64 S.hr) ∧ hcell hh b (0 + 5) = some (.slice a n c) ∧ hcell hh b (0 + 6) = some (.int .i64 S.at_) ∧ hcell hh b (0 + 7) = some (.int .i64 S.why) ∧ hcell hh b (0 + 8) = some (.bool S.sealed_) := S9 r
section
variable {h : Heap} {a : Option Addr} {c : Nat} {L : List Int}
theorem sub_facts {g : Geo} (hg : Gok g) {k : Nat} (hk : k < g.regs.toNat) (hL : (L.length : Int) = g.dev) : (k : Int) * g.sz = ((k * g.sz.toNat : Nat) : Int) ∧ ((k : Int) + 1) * g.sz = (((k + 1) * g.sz.toNat : Nat) : Int) ∧ k * g.sz.toNat ≤ (k + 1) * g.sz.toNat ∧ (k + 1) * g.sz.toNat ≤ L.length ∧ L.length ≤ 1048576 ∧ (k + 1) * g.sz.toNat - k * g.sz.toNat = g.sz.toNat := by
 have b := ok_bounds hg
 obtain ⟨n, hn⟩ : ∃ n : Nat, g.sz = n := ⟨g.sz.toNat, by omega⟩
 obtain ⟨q, hq⟩ : ∃ q : Nat, g.regs = q := ⟨g.regs.toNat, by have := hg.2.2.1; omega⟩
 have hd : L.length = n * q := by
  have : (L.length : Int) = (n : Int) * (q : Int) := by rw [hL, b.2.2.2.2.2.2.2.2.2, hn, hq]
  exact_mod_cast this
 have e : g.sz.toNat = n := by omega
 have hkq : k + 1 ≤ q := by omega
 have h1 : (k + 1) * n ≤ q * n := Nat.mul_le_mul_right _ hkq
 rw [e, hn]
 have h2 : (k + 1) * n = k * n + n := by rw [Nat.add_mul, Nat.one_mul]
 refine ⟨by exact_mod_cast rfl, by exact_mod_cast rfl, by omega, by rw [hd, Nat.mul_comm n q]; exact h1, by omega, by omega⟩
theorem sub_len {g : Geo} (hg : Gok g) {k : Nat} (hk : k < g.regs.toNat) (hL : (L.length : Int) = g.dev) : (subR g L k).length = g.sz.toNat := by
 have f := sub_facts hg hk hL
 unfold subR
 rw [List.length_drop, List.length_take, Nat.min_eq_left f.2.2.2.1]; exact f.2.2.2.2.2
theorem allS_len (g : Geo) (L : List Int) : (allS g L).length = g.regs.toNat := by unfold allS; simp
theorem allS_take {g : Geo} {L : List Int} {k : Nat} (hk : k < g.regs.toNat) : (allS g L).take (k + 1) = (allS g L).take k ++ [(surOf g k (subR g L k)).1] := by
 rw [List.take_add_one]
 congr 1
 unfold allS
 rw [List.getElem?_map, List.getElem?_range hk]; rfl
def TellDev (g : Geo) (L : List Int) (h : Heap) (v : Value) (h' : Heap) : Prop := Ext h h' ∧ ∃ Ws K a c, IsDev g L Ws ∧ v = .slice a Ws.length c ∧ Sus h.size h' a c K Ws
set_option maxHeartbeats 6400000 in
theorem device_r' (g : Geo) (s : Sl eB h a c L) (hb : isB L) : HC Tryd.prog 23 #[g.v, .slice a L.length c] h fun v h' => TellDev g L h v h' := by
 have hc := s.le
 refine f23_sh _ _ _ _ _ _ _ _ _ ⟨fun j h2 => Ext h h2 ∧ j = decide (¬ (Gok g ∧ (L.length : Int) = g.dev)), fun gb h1 log ltg x1 => (check_r g h1).mono ?_, ?_⟩
 ·rintro _ h3 ⟨rfl, x3⟩
  by_cases hg : Gok g
  ·rw [if_pos hg]
   refine ⟨x3, _, rfl, fun e => by simp at e, fun _ => (device_r hg h3).mono ?_⟩
   rintro _ h4 ⟨rfl, x4⟩
   exact ⟨x4, _, rfl, x1.trans (x3.trans x4), by rw [Bool.eq_iff_iff]; simp [hg]⟩
  ·rw [if_neg hg]
   exact ⟨x3, _, rfl, fun _ => ⟨x1.trans x3, by simp [hg]⟩, fun e => by simp at e⟩
 rintro _ h2 ⟨x2, rfl⟩ gb log ltg
 refine ⟨fun e => ?_, fun e => ?_⟩
 ·refine ⟨x2, [], [], none, 0, ?_, rfl, Sus.nil _ _⟩
  unfold IsDev; rw [if_neg (of_decide_eq_true e)]
 have hcond : Gok g ∧ (L.length : Int) = g.dev := Decidable.not_not.1 (of_decide_eq_false e)
 obtain ⟨hg, hL⟩ := hcond
 have b := ok_bounds hg
 have h3' := hg.2.2.1
 refine (region_r hg h2).mono ?_
 rintro _ h5 ⟨rfl, x5⟩
 have x25 := x2.trans x5
 have hrl := allS_len g L
 refine ⟨x5, _, rfl, fun all n c' r h6 => ∃ (k : Nat) (K : List Sw), r = k ∧ k ≤ g.regs.toNat ∧ n = K.length ∧ Ext h h6 ∧ h5.size ≤ h6.size ∧ Sus h.size h6 all c' K ((allS g L).take k) ∧ Own eSw.k tS h5.size h6 all c', fun _ _ _ r _ => (g.regs - r).toNat, ⟨0, [], rfl, Nat.zero_le _, rfl, x25, Nat.le_refl _, Sus.nil _ _, Own.nil _ _ _ _⟩, ?_⟩
 rintro all _ c' _ h6 ⟨k, K, rfl, hk, rfl, x6, z6, s6, w6⟩
 have hKl : K.length = k := by rw [s6.len, List.length_take, hrl]; omega
 refine ⟨fun e2 => ?_, fun e2 => ?_⟩
 ·have hlt := of_decide_eq_true e2
  have hkr : k < g.regs.toNat := by omega
  obtain ⟨f1, f2, f3, f4, f5, f6⟩ := sub_facts hg hkr hL
  have hsl := sub_len hg hkr hL
  have ht := allS_take (g := g) (L := L) hkr
  rw [w64 (x := (k : Int) * g.sz) (by omega) (by omega), w64 (x := (k : Int) + 1) (by omega) (by omega), w64 (x := ((k : Int) + 1) * g.sz) (by omega) (by omega), f1, f2]
  simp only [Int.toNat_natCast]
  have scut : ∀ {hh : Heap}, Ext h hh → Sl eB hh (slA a (k * g.sz.toNat) 1 c) (c - k * g.sz.toNat) (subR g L k) := fun x => (s.ext x).cut f3 f4
  have hbs : isB (subR g L k) := isB_drop (isB_take hb _) _
  have hsv : ∀ {hh : Heap}, Ext h hh → HC Tryd.prog 13 #[g.v, .int .i64 k, .slice (slA a (k * g.sz.toNat) 1 c) ((k + 1) * g.sz.toNat - k * g.sz.toNat) (c - k * g.sz.toNat)] hh fun v h' => TellS (surOf g k (subR g L k)) hh v h' := fun x => by
   have := survey_r g k (scut x) hbs
   rw [hsl] at this; rw [f6]; exact this
  have hsr := sur_len (g := g) (rg := k) (L := subR g L k)
  generalize surOf g k (subR g L k) = SS at *
  obtain ⟨S, er⟩ := SS
  refine ⟨fun b o h7 => ∃ ra rc, o = 0 ∧ Ext h6 h7 ∧ h7[b]? = some (.cells (S.cs ra S.recs.length rc).toArray 36 (0, 0)) ∧ Sl eFo h7 ra rc S.recs ∧ Own eFo.k tF h.size h7 ra rc, ⟨by omega, by omega, by omega, fun sl esl => ?_⟩, ?_⟩
  ·subst esl
   have z6h := x6.size
   have row : ∀ {hh : Heap} {sv : Nat}, hh[sv]? = some (.cells (su0.cs none 0 0).toArray 36 (0, 0)) → ∀ {ra : Option Addr} {n rc : Nat}, HWs hh sv 0 9 ∧ ∀ hx, hx = hsets hh sv 0 (S.cs ra n rc) → hx[sv]? = some (.cells (S.cs ra n rc).toArray 36 (0, 0)) := fun r => ⟨HWs_row r (by simp), fun hx e => row_hsets_eq e r (by simp [sets])⟩
   refine ⟨(hsv x6).mono ?_, fun sv h11 esv e11 => ?_⟩
   ·rintro _ h8 ⟨ra, rc, rfl, x8, s8, w8⟩
    refine ⟨x8, _, _, _, _, _, _, _, _, _, _, _, _, rfl, fun sv h9 esv e9 => ?_⟩
    have x9 : Ext h8 h9 := by rw [e9]; exact Ext.push _ _
    obtain ⟨u1, u2⟩ := row (hh := h9) (sv := sv) (by rw [e9]; exact push_new esv) (ra := ra) (n := S.recs.length) (rc := rc)
    have z8 := x8.size
    have zs9 : h9.size = h8.size + 1 := by rw [e9]; simp
    refine ⟨u1, fun q hq => by simp only [List.mem_cons, List.not_mem_nil, or_false] at hq; have := x5.size; omega, fun h10 e10 => ⟨ra, rc, rfl, ?_, u2 h10 e10, ?_, ?_⟩⟩
    ·exact ext_hsets e10 (x8.trans x9) (by omega)
    ·exact (s8.ext x9).fr (fr_hsets_of e10) fun q hq e => by have := (w8.low hq).2; omega
    ·exact ((w8.ext x9).fr (fr_hsets_of e10) fun q hq e => by have := (w8.low hq).2; omega).down (by omega)
   ·have x11 : Ext h6 h11 := by rw [e11]; exact Ext.push _ _
    have r11 : h11[sv]? = some (.cells (su0.cs none 0 0).toArray 36 (0, 0)) := by rw [e11]; exact push_new esv
    have zs11 : h11.size = h6.size + 1 := by rw [e11]; simp
    refine (hsv (x6.trans x11)).mono ?_
    rintro _ h12 ⟨ra, rc, rfl, x12, s12, w12⟩
    obtain ⟨u1, u2⟩ := row (x12.row r11) (ra := ra) (n := S.recs.length) (rc := rc)
    refine ⟨x12, _, _, _, _, _, _, _, _, _, _, _, _, rfl, u1, fun q hq => by simp only [List.mem_cons, List.not_mem_nil, or_false] at hq; have := x5.size; omega, fun h13 e13 => ⟨ra, rc, rfl, ext_hsets e13 (x11.trans x12) (by omega), u2 h13 e13, ?_, ?_⟩⟩
    ·exact s12.fr (fr_hsets_of e13) fun q hq e => by have := (w12.low hq).1; omega
    ·exact (w12.fr (fr_hsets_of e13) fun q hq e => by have := (w12.low hq).1; omega).down (by omega)
  ·rintro b _ h7 ⟨ra, rc, rfl, x7, r7, s7, w7⟩
   obtain ⟨q0, q1, q2, q3, q4, q5, q6, q7, q8⟩ := S9' r7
   refine ⟨_, _, _, _, _, _, _, _, _, _, _, q0, q1, q2, q3, q4, q5, q6, q7, q8, fun nb h14 en e14 => ?_⟩
   have z7 := x7.size
   refine app_1 (x := S.sw ra rc) aS en e14 rfl (s6.sl.ext x7) (w6.ext x7) rfl (by omega) (by omega) fun a' c'' h15 f15 s15 w15 _ => ?_
   have x14 : Ext h7 h14 := by rw [e14]; exact Ext.push _ _
   refine ⟨fun q hq hlt2 => ?_, a', _, c'', rfl, ?_⟩
   ·simp only [List.mem_cons, List.not_mem_nil, or_false] at hq
    have hq7 : q < h5.size := by have := x5.size; omega
    rw [x14.block q (by omega), f15.block q (by omega) fun hb' => absurd (w6.low hb').1 (by omega)]
   ·refine ⟨⟨k + 1, K ++ [S.sw ra rc], by omega, by omega, by simp, ?_, by have := f15.size; omega, ?_, w15⟩, by omega⟩
    ·exact (((x6.trans x7).fr _).trans f15 fun _ _ q => q).ext fun i hi q => by have := (w6.low q).1; have := x25.size; omega
    ·have := (s6.ext x7).app (w6.ext x7) (by decide) f15 s15 s7 w7
     rw [ht]; exact this
 ·have hke : k = g.regs.toNat := by have := of_decide_eq_false e2; omega
  subst hke
  rw [List.take_of_length_le (by omega)] at s6
  refine (order_r s6.sl (by omega)).mono ?_
  rintro _ h16 ⟨x16, Lo, oa, oc, rfl, hO, so, wo⟩
  have hO' := s6.ord hO
  have hLl := hO.len
  refine ⟨oa, _, oc, rfl, fun out n c2 v h17 => ∃ (j : Nat) (Kw : List Sw), v = j ∧ j ≤ Lo.length ∧ n = Kw.length ∧ Fr (blkA out) h16 h17 ∧ Ext h16 h17 ∧ Sus h.size h17 out c2 Kw ((Lo.map (getS (allS g L))).take j) ∧ Own eSw.k tS h16.size h17 out c2, fun _ _ _ v _ => Lo.length - v.toNat, ⟨0, [], rfl, Nat.zero_le _, rfl, Fr.refl _ _, Ext.refl _, Sus.nil _ _, Own.nil _ _ _ _⟩, ?_⟩
  rintro out _ c2 _ h17 ⟨j, Kw, rfl, hj, rfl, _, x17, s17, w17⟩
  have hKwl : Kw.length = j := by rw [s17.len, List.length_take, List.length_map]; omega
  refine ⟨fun e3 => ?_, fun e3 => ?_⟩
  ·have hjl := lt_of_dec e3
   obtain ⟨ob, oo, eo, d⟩ := (so.ext x17).at (List.getElem?_eq_getElem hjl)
   have hmem := hO.mem.1 (List.getElem_mem hjl)
   have sA := s6.ext (x16.trans x17)
   obtain ⟨ra, rc, eK, sr, wr⟩ := sA.atK hmem.1 hmem.2
   obtain ⟨kb, ko, ek, dk⟩ := sA.sl.at (atK_get hmem.1 hmem.2)
   rw [eK] at dk
   refine ⟨ob, oo, eo, by omega, by omega, _, d.1, kb, ko, ek, hmem.1, hmem.2, _, _, _, _, _, _, _, _, _, _, _, dk.1, dk.2.1, dk.2.2.1, dk.2.2.2.1, dk.2.2.2.2.1, dk.2.2.2.2.2.1, dk.2.2.2.2.2.2.1, dk.2.2.2.2.2.2.2.1, dk.2.2.2.2.2.2.2.2.1, fun nb h18 en e18 => ?_⟩
   have z17 := x17.size
   refine app_1 (x := (getS (allS g L) Lo[j]).sw ra rc) aS en e18 rfl s17.sl w17 rfl (by omega) (by omega) fun a' c'' h19 f19 s19 w19 _ => ⟨a', _, c'', rfl, ?_⟩
   rw [wadd j (by omega)]
   have x19 : Ext h16 h19 := ((x17.fr _).trans f19 fun _ _ q => q).ext fun i hi q => by have := (w17.low q).1; omega
   refine ⟨⟨j + 1, Kw ++ [(getS (allS g L) Lo[j]).sw ra rc], rfl, hjl, by simp, x19.fr _, x19, ?_, w19⟩, by simp only [Int.toNat_natCast]; omega⟩
   rw [List.take_add_one, List.getElem?_map, List.getElem?_eq_getElem hjl]
   exact s17.app w17 (by decide) f19 s19 sr wr
  ·have hjl : j = Lo.length := by have := ge_of_dec e3; omega
   subst hjl
   rw [List.take_of_length_le (by simp)] at s17
   refine ⟨x6.trans (x16.trans x17), _, Kw, out, c2, ?_, by rw [s17.len], s17⟩
   unfold IsDev; rw [if_pos ⟨hg, hL⟩]; exact ⟨Lo, hO', rfl⟩
end
end Sc
end Go.Proofs.YthjehlocmikchaaDoor
