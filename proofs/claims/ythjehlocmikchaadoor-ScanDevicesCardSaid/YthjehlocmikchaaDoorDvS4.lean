import Derived.Test.YthjehlocmikchaaDoorDvS3
namespace Go.Proofs.YthjehlocmikchaaDoor
namespace Sc
open Go
structure Ft where
 recs : Int
 used : Int
 salt : Int
 sum : Int
abbrev Ft.v (f : Ft) : Value := .agg #[.int .i64 f.recs, .int .i64 f.used, .int .u32 f.salt, .int .u32 f.sum]
def ftOk (g : Geo) (f : Ft) : Prop := (0 ≤ f.recs ∧ f.recs ≤ 2147483647) ∧ 32 ≤ f.used ∧ f.used ≤ g.sz - 24
instance (g : Geo) (f : Ft) : Decidable (ftOk g f) := by unfold ftOk; infer_instance
def ftVs (f : Ft) : List Int := [f.recs, f.used, f.salt, f.sum]
def ftP (f : Ft) (j : Nat) : List Int := [67, 76, 82, 70] ++ ((ftVs f).take j).flatMap (leb 4)
def ftB (f : Ft) : List Int := ftP f 4
def encF (f : Ft) : List Int := ftB f ++ leb 4 (crc 0 (ftB f))
theorem ftP_isB (f : Ft) (j : Nat) : isB (ftP f j) := by
 unfold ftP
 refine isB_app (fun y hy => by simp only [List.mem_cons, List.not_mem_nil, or_false] at hy; omega) fun y hy => ?_
 obtain ⟨z, _, hz⟩ := List.mem_flatMap.1 hy
 exact leb_isB 4 z y hz
theorem ftP_succ (f : Ft) {j : Nat} (hj : j < (ftVs f).length) : ftP f (j + 1) = ftP f j ++ leb 4 (ftVs f)[j] := by
 unfold ftP
 rw [List.take_add_one, List.getElem?_eq_getElem hj, List.flatMap_append, List.append_assoc]
 simp
theorem flat4 (V : List Int) : (V.flatMap (leb 4)).length = 4 * V.length := by
 induction V with
 | nil => rfl
 | cons x V ih => rw [List.flatMap_cons, List.length_append, ih, leb_len, List.length_cons]; omega
theorem ftP_len (f : Ft) {j : Nat} (hj : j ≤ 4) : (ftP f j).length = 4 + 4 * j := by
 unfold ftP
 rw [List.length_append, flat4, List.length_take]
 simp [ftVs]; omega
theorem encF_isB (f : Ft) : isB (encF f) := isB_app (ftP_isB f 4) (leb_isB _ _)
theorem encF_len (f : Ft) : (encF f).length = 24 := by unfold encF ftB; rw [List.length_append, ftP_len f (Nat.le_refl _), leb_len]
def TellF (g : Geo) (f : Ft) (h : Heap) (v : Value) (h' : Heap) : Prop := Ext h h' ∧
 if Gok g then (if ftOk g f then ∃ a c, v = .tuple #[.slice a (encF f).length c, .int .i64 0] ∧ Sl eB h' a c (encF f) else v = .tuple #[.slice none 0 0, .int .i64 1]) else v = .tuple #[.slice none 0 0, .int .i64 20]
theorem tellF_no {g : Geo} {x : Ft} {h h' : Heap} (hn : ¬ Gok g) (e : Ext h h') : TellF g x h (.tuple #[.slice none 0 0, .int .i64 20]) h' := ⟨e, by rw [if_neg hn]⟩
theorem tellF_bad {g : Geo} {x : Ft} {h h' : Heap} (hg : Gok g) (hn : ¬ ftOk g x) (e : Ext h h') : TellF g x h (.tuple #[.slice none 0 0, .int .i64 1]) h' := ⟨e, by rw [if_pos hg, if_neg hn]⟩
theorem tellF_ok {g : Geo} {x : Ft} {h h' : Heap} {a : Option Addr} {c : Nat} (hg : Gok g) (ok : ftOk g x) (e : Ext h h') (s : Sl eB h' a c (encF x)) : TellF g x h (.tuple #[.slice a (encF x).length c, .int .i64 0]) h' := ⟨e, by rw [if_pos hg, if_pos ok]; exact ⟨a, c, rfl, s⟩⟩
theorem ownf_ne {k N : Nat} {T T' : TypeId} {h : Heap} {a : Option Addr} {c p : Nat} {cs : Array Value} {fr : Nat × Nat} (w : OwnF k T N h a c) (hr : h[p]? = some (.cells cs T' fr)) (hT : T' ≠ T) : ¬ blkA a p := fun hb => by
 rcases w with ⟨e, _⟩ | ⟨b', o', cs', fr', e, _, r1, _⟩
 ·rw [e] at hb; exact blkA_none hb
 ·rw [e, blkA_some] at hb; subst hb; rw [hr] at r1; simp at r1; exact hT r1.2.1
theorem ft_cond {g : Geo} {f : Ft} : ((decide (f.recs < 0)) || ((decide (f.recs > 2147483647)) || ((decide (f.used < 32)) || (decide (f.used > g.sz - 24))))) = !decide (ftOk g f) := by
 rw [Bool.eq_iff_iff]
 simp only [Bool.or_eq_true, decide_eq_true_eq, Bool.not_eq_true', decide_eq_false_iff_not]
 unfold ftOk
 constructor
 ·intro q r; omega
 ·intro q
  by_cases h1 : f.recs < 0
  ·exact .inl h1
  ·by_cases h2 : f.recs > 2147483647
   ·exact .inr (.inl h2)
   ·by_cases h3 : f.used < 32
    ·exact .inr (.inr (.inl h3))
    ·refine .inr (.inr (.inr ?_))
     rcases Int.lt_or_le (g.sz - 24) f.used with c | c
     ·exact c
     ·exact absurd ⟨⟨by omega, by omega⟩, by omega, c⟩ q
set_option maxHeartbeats 1600000 in
theorem encFoot_m (g : Geo) (f : Ft) (hs : U32 f.salt) (hm : U32 f.sum) (h : Heap) : HC Tryd.prog 67 #[g.v, f.v] h fun v h' => TellF g f h v h' := by
 refine f67_sh _ _ _ _ _ _ _ _ _ _ fun gb fb h2 lo1 lt1 lo2 lt2 x2 => (check_m g h2).mono ?_
 rintro _ h3 ⟨rfl, x3⟩
 have x23 := x2.trans x3
 by_cases hn : ¬ Gok g
 ·rw [if_neg hn]
  exact ⟨x3, _, rfl, fun _ => tellF_no hn x23, fun e => by simp at e⟩
 have hg : Gok g := Decidable.not_not.1 hn
 have b := ok_bounds hg
 rw [if_pos hg]
 refine ⟨x3, _, rfl, fun e => by simp at e, fun _ => (bytes_m g h3).mono ?_⟩
 rintro _ h4 ⟨rfl, x4⟩
 rw [if_pos hg]
 have x24 := x23.trans x4
 refine ⟨x4, _, _, _, rfl, ?_⟩
 have ew : IntKind.i64.wrap (g.sz - 24) = g.sz - 24 := w64 (by omega) (by omega)
 simp only [ew]
 rw [ft_cond]
 refine ⟨fun e => ?_, fun e => ?_⟩
 ·exact tellF_bad hg (by simpa using e) x24
 have ok : ftOk g f := by simpa using e
 obtain ⟨⟨r0, r1⟩, u0, u1⟩ := ok
 have s2 := x2.size
 have s3 := x3.size
 have s4 := x4.size
 rw [wu64 (x := f.recs) (by omega) (by omega), wu64 (x := f.used) (by omega) (by omega), wu64 (x := f.salt) hs.1 (by have := hs.2; omega), wu64 (x := f.sum) hm.1 (by have := hm.2; omega)]
 intro nb h5 e5 eh5
 have x5 : Ext h4 h5 := by rw [eh5]; exact Ext.push _ _
 have r5 : h5[nb]? = some (.cells (([67, 76, 82, 70] : List Int).flatMap eB.enc).toArray tB (0, 0)) := by rw [eh5]; exact push_new e5
 clear eh5
 have s5 := x5.size
 refine ⟨_, _, r5, fun h6 e6 => ?_⟩
 obtain ⟨f6, sl6, w6⟩ := lit_mark (N := h4.size) (by omega) r5 e6
 have s6 := f6.size
 refine ⟨f6.kp fun q hq e => by simp at hq; omega, fun nb1 h7 e7 eh7 => ?_⟩
 have x7 : Ext h6 h7 := by rw [eh7]; exact Ext.push _ _
 have r7 : h7[nb1]? = some (.cells #[.int .u64 f.recs, .int .u64 f.used, .int .u64 f.salt, .int .u64 f.sum] 29 (0, 0)) := by rw [eh7]; exact push_new e7
 clear eh7
 have s7 := x7.size
 have F7 : Fr (fun b => h4.size ≤ b) h4 h7 := ((x5.fr _).trans f6 fun b _ q => by omega).trans (x7.fr (fun _ => False)) fun _ _ q => q.elim
 have l7 := row_lt r7
 refine ⟨fun a n c v h8 => ∃ j : Nat, v = j ∧ j ≤ 4 ∧ n = (ftP f j).length ∧ Fr (fun b => h4.size ≤ b) h4 h8 ∧ Sl eB h8 a c (ftP f j) ∧ OwnF eB.k tB h4.size h8 a c ∧ h8[nb1]? = some (.cells #[.int .u64 f.recs, .int .u64 f.used, .int .u64 f.salt, .int .u64 f.sum] 29 (0, 0)), fun _ _ _ v _ => 4 - v.toNat,
  ⟨0, rfl, by decide, rfl, F7, sl6.ext x7, w6.ext x7, r7⟩, ?_⟩
 rintro a _ c _ h8 ⟨j, rfl, hj, rfl, F8, s8, w8, r8⟩
 have t8 := F8.size
 refine ⟨fun hlt => ?_, fun hge => ?_⟩
 ·have hj4 : j < 4 := by have := of_decide_eq_true hlt; omega
  have hjl : j < (ftVs f).length := hj4
  refine ⟨by omega, by omega, (ftVs f)[j], ?_, (put_m s8 w8 t8 (by rw [ftP_len f hj]; omega) _ 4 (by decide)).mono ?_⟩
  ·rw [hcell_row r8]
   rcases (by omega : j = 0 ∨ j = 1 ∨ j = 2 ∨ j = 3) with q | q | q | q <;> subst q <;> rfl
  ·rintro _ h9 ⟨a9, c9, rfl, f9, s9, w9, _⟩
   rw [← ftP_succ f hjl] at s9 ⊢
   refine ⟨_, _, _, rfl, ?_⟩
   rw [wadd j (by omega)]
   exact ⟨⟨j + 1, rfl, hj4, rfl, F8.trans f9 fun b _ q => (w8.low q).1, s9, w9, f9.row r8 (ownf_ne w8 r8 (by decide))⟩, by simp only [Int.toNat_natCast]; omega⟩
 ·have hj4 : j = 4 := by have := of_decide_eq_false hge; omega
  subst hj4
  refine (summed_m s8 w8 t8 (ftP_isB f 4) (by rw [ftP_len f (Nat.le_refl _)]; decide)).mono ?_
  rintro _ h10 ⟨f10, a10, c10, rfl, s10, w10⟩
  refine ⟨_, _, _, rfl, tellF_ok hg ⟨⟨r0, r1⟩, u0, u1⟩ ?_ s10⟩
  exact ((x24.fr _).trans (F8.trans f10 fun _ _ q => q) fun _ _ q => q).ext fun b hb q => by omega
end Sc
end Go.Proofs.YthjehlocmikchaaDoor
namespace Go.Proofs.YthjehlocmikchaaDoor
namespace Sc
open Go
set_option maxHeartbeats 1600000 in
theorem encFoot_r (g : Geo) (f : Ft) (hs : U32 f.salt) (hm : U32 f.sum) (h : Heap) : HC Tryd.prog 71 #[g.v, f.v] h fun v h' => TellF g f h v h' := by
 refine f71_sh _ _ _ _ _ _ _ _ _ _ fun gb fb h2 lo1 lt1 lo2 lt2 x2 => (check_r g h2).mono ?_
 rintro _ h3 ⟨rfl, x3⟩
 have x23 := x2.trans x3
 by_cases hn : ¬ Gok g
 ·rw [if_neg hn]
  exact ⟨x3, _, rfl, fun _ => tellF_no hn x23, fun e => by simp at e⟩
 have hg : Gok g := Decidable.not_not.1 hn
 have b := ok_bounds hg
 rw [if_pos hg]
 have e1 : g.page * g.pages = g.sz := rfl
 have ew0 : IntKind.i64.wrap g.sz = g.sz := w64 (by omega) (by omega)
 have ew : IntKind.i64.wrap (g.sz - 24) = g.sz - 24 := w64 (by omega) (by omega)
 simp only [e1, ew0, ew]
 rw [ft_cond]
 refine ⟨x3, _, rfl, fun e => by simp at e, fun _ => ⟨fun e => ?_, fun e => ?_⟩⟩
 ·exact tellF_bad hg (by simpa using e) x23
 have ok : ftOk g f := by simpa using e
 have ok' := ok
 obtain ⟨⟨r0, r1⟩, u0, u1⟩ := ok
 have s2 := x2.size
 have s3 := x3.size
 rw [wu64 (x := f.recs) (by omega) (by omega), wu64 (x := f.used) (by omega) (by omega), wu64 (x := f.salt) hs.1 (by have := hs.2; omega), wu64 (x := f.sum) hm.1 (by have := hm.2; omega)]
 have kp : ∀ {ha hb' : Heap} (f : Fr (fun b => h3.size ≤ b) ha hb'), Kp [fb] ha hb' := fun f => f.kp fun b hb q => by simp at hb; omega
 refine ⟨Fr (fun b => h3.size ≤ b), fit_frm _, fun hx f => kp f, fun hx f => kp f, fun hx f => kp f, fun hx f => kp f, fun nb h4 e4 eh4 => ?_⟩
 have x4 : Ext h3 h4 := by rw [eh4]; exact Ext.push _ _
 have r4 : h4[nb]? = some (.cells (([67, 76, 82, 70] : List Int).flatMap eB.enc).toArray tB (0, 0)) := by rw [eh4]; exact push_new e4
 clear eh4
 have s4 := x4.size
 refine ⟨_, _, r4, fun h5 e5 => ?_⟩
 obtain ⟨f5, sl5, w5⟩ := lit_mark (N := h3.size) (by omega) r4 e5
 have f5' : Fr (fun b => h3.size ≤ b) h4 h5 := f5.mono fun b _ q => by omega
 have s5 := f5.size
 refine ⟨f5', kp f5', (low_o (L := [67, 76, 82, 70]) sl5 w5 (by omega) (by decide) ⟨by omega, by omega⟩ 4 (by decide)).mono ?_⟩
 rintro _ h6 ⟨f6, a6, c6, rfl, s6, w6⟩
 have t6 := f6.size
 refine ⟨f6, kp f6, _, _, _, rfl, (low_o s6 w6 (by omega) (by simp [leb_len]) ⟨by omega, by omega⟩ 4 (by decide)).mono ?_⟩
 rintro _ h7 ⟨f7, a7, c7, rfl, s7, w7⟩
 have t7 := f7.size
 refine ⟨f7, kp f7, _, _, _, rfl, (low_o s7 w7 (by omega) (by simp [leb_len]) ⟨hs.1, by have := hs.2; omega⟩ 4 (by decide)).mono ?_⟩
 rintro _ h8 ⟨f8, a8, c8, rfl, s8, w8⟩
 have t8 := f8.size
 refine ⟨f8, kp f8, _, _, _, rfl, (low_o s8 w8 (by omega) (by simp [leb_len]) ⟨hm.1, by have := hm.2; omega⟩ 4 (by decide)).mono ?_⟩
 rintro _ h9 ⟨f9, a9, c9, rfl, s9, w9⟩
 have t9 := f9.size
 have eF : [67, 76, 82, 70] ++ leb 4 f.recs ++ leb 4 f.used ++ leb 4 f.salt ++ leb 4 f.sum = ftB f := by
  unfold ftB ftP ftVs
  simp
 rw [eF] at s9 ⊢
 have u := crc32 0 (ftB f)
 refine ⟨_, _, _, rfl, _, crc_r s9 (ftP_isB f 4) (by unfold ftB; rw [ftP_len f (Nat.le_refl _)]; decide), ?_⟩
 rw [wu64 (x := crc 0 (ftB f)) u.1 (by have := u.2; omega)]
 refine (low_o s9 w9 (by omega) (by unfold ftB; rw [ftP_len f (Nat.le_refl _)]; decide) ⟨u.1, by have := u.2; omega⟩ 4 (by decide)).mono ?_
 rintro _ h10 ⟨f10, a10, c10, rfl, s10, w10⟩
 refine ⟨_, _, _, rfl, tellF_ok hg ok' ?_ s10⟩
 have F : Fr (fun b => h3.size ≤ b) h3 h10 := ((((((x4.fr _).trans f5' fun _ _ q => q).trans f6 fun _ _ q => q).trans f7 fun _ _ q => q).trans f8 fun _ _ q => q).trans f9 fun _ _ q => q).trans f10 fun _ _ q => q
 exact ((x23.fr _).trans F fun _ _ q => q).ext fun b hb q => by omega
end Sc
end Go.Proofs.YthjehlocmikchaaDoor
namespace Go.Proofs.YthjehlocmikchaaDoor
namespace Sc
open Go
def ftL (L : List Int) : List Int := L.drop (L.length - 24)
def ftOf (L : List Int) : Ft := ⟨le (((ftL L).drop 4).take 4), le (((ftL L).drop 8).take 4), le (((ftL L).drop 12).take 4), le (((ftL L).drop 16).take 4)⟩
def footOk (g : Geo) (L : List Int) : Prop := (L.length : Int) = g.sz ∧ ftOk g (ftOf L) ∧ encF (ftOf L) = ftL L ∧ crc 0 (L.take (ftOf L).used.toNat) = (ftOf L).sum
instance (g : Geo) (L : List Int) : Decidable (footOk g L) := by unfold footOk; infer_instance
abbrev zF : Ft := ⟨0, 0, 0, 0⟩
def footV (g : Geo) (L : List Int) : Value := if ¬ Gok g then .tuple #[zF.v, .int .i64 20] else if footOk g L then .tuple #[(ftOf L).v, .int .i64 0] else .tuple #[zF.v, .int .i64 51]
section
variable {h : Heap} {a : Option Addr} {c : Nat} {L : List Int}
theorem ftOf_bounds (hb : isB L) : (0 ≤ (ftOf L).recs ∧ (ftOf L).recs < 4294967296) ∧ (0 ≤ (ftOf L).used ∧ (ftOf L).used < 4294967296) ∧ U32 (ftOf L).salt ∧ U32 (ftOf L).sum := by
 have hB : isB (ftL L) := isB_drop hb _
 have k : ∀ p, 0 ≤ le (((ftL L).drop p).take 4) ∧ le (((ftL L).drop p).take 4) < 4294967296 := fun p => le_u32 (isB_take (isB_drop hB p) 4) (by simp; omega)
 exact ⟨k 4, k 8, k 12, k 16⟩
theorem f1_m (s : Sl eB h a c L) (hb : isB L) {cb : Nat} {T : TypeId} (r : h[cb]? = some (.cells #[.slice a L.length c] T (0, 0))) {i : Nat} (hi : 4 * i + 4 ≤ L.length) (h8 : i ≤ 8) : HC Tryd.prog 66 #[.int .i64 i, ptr cb 0] h fun v h' => v = .int .u64 (le ((L.drop (4 * i)).take 4)) ∧ h' = h := by
 have hc := s.le
 have e1 : IntKind.i64.wrap (4 * (i : Int)) = ((4 * i : Nat) : Int) := by rw [w64 (by omega) (by omega)]; omega
 have e2 : IntKind.i64.wrap (((4 * i : Nat) : Int) + 4) = ((4 * i + 4 : Nat) : Int) := by rw [w64 (by omega) (by omega)]; omega
 refine f66_sh _ _ _ _ _ ⟨_, _, _, by rw [hcell_row r]; rfl, ?_⟩
 rw [e1, e2]
 refine ⟨by omega, by omega, by omega, fun sl es => ⟨_, ?_, rfl, rfl⟩⟩
 subst es
 have := num_cut s hb (l := 4 * i) (r := 4 * i + 4) (by omega) hi (by omega) (Ext.refl h)
 rw [show 4 * i + 4 - 4 * i = 4 by omega] at this
 rw [Int.toNat_natCast, Int.toNat_natCast, show 4 * i + 4 - 4 * i = 4 by omega]
 exact this
set_option maxHeartbeats 1600000 in
theorem foot_r (g : Geo) (s : Sl eB h a c L) (hb : isB L) (hl : L.length ≤ 1099511627776) : HC Tryd.prog 39 #[g.v, .slice a L.length c] h fun v h' => v = footV g L ∧ Ext h h' := by
 have hc := s.le
 refine f39_sh _ _ _ _ _ _ _ _ _ fun gb pb h2 _ _ lo lt x2 => (check_r g h2).mono ?_
 rintro _ h3 ⟨rfl, x3⟩
 have x23 := x2.trans x3
 unfold footV
 by_cases hn : ¬ Gok g
 ·rw [if_neg hn]
  simp only [if_pos hn]
  exact ⟨x3, _, rfl, fun _ h4 f4 => ⟨rfl, frpb x23 lo f4⟩, fun e => by simp at e⟩
 have hg : Gok g := Decidable.not_not.1 hn
 rw [if_pos hg]
 simp only [if_neg hn]
 have b := ok_bounds hg
 have e1 : g.page * g.pages = g.sz := rfl
 have ew0 : IntKind.i64.wrap g.sz = g.sz := w64 (by omega) (by omega)
 simp only [e1, ew0]
 refine ⟨x3, _, rfl, fun e => by simp at e, fun _ => ⟨fun e h5 f5 => ?_, fun e => ?_⟩⟩
 ·have hne : ¬ (L.length : Int) = g.sz := by simpa using e
  rw [if_neg (fun r : footOk g L => hne r.1)]
  exact ⟨rfl, frpb x23 lo f5⟩
 have hL : (L.length : Int) = g.sz := by simpa using e
 have ew : IntKind.i64.wrap ((L.length : Int) - 24) = ((L.length - 24 : Nat) : Int) := by rw [w64 (by omega) (by omega)]; omega
 have eq4 : ∀ k : Nat, k ≤ 16 → IntKind.i64.wrap (((L.length - 24 : Nat) : Int) + (k : Int)) = ((L.length - 24 + k : Nat) : Int) := fun k hk => by rw [w64 (by omega) (by omega)]; omega
 have e4 := eq4 4 (by decide)
 have e8 := eq4 8 (by decide)
 have e12 := eq4 12 (by decide)
 have e16 := eq4 16 (by decide)
 have s3 := s.ext x23
 have bd := ftOf_bounds hb
 have nm : ∀ k : Nat, k + 4 ≤ 24 → HC Tryd.prog 69 #[.slice a L.length c, .int .i64 ((L.length - 24 + k : Nat) : Int), .int .i64 (4 : Int)] h3 fun v h' => v = .int .u64 (le (((ftL L).drop k).take 4)) ∧ h' = h3 := fun k hk => by
  have := number_r s3 hb hl (L.length - 24 + k) 4 (by decide) (by omega)
  unfold ftL
  rw [List.drop_drop]; exact this
 simp only [ew]
 refine ⟨(ftOf L).recs, by rw [show ((4 : Int)) = ((4 : Nat) : Int) from rfl, e4]; exact nm 4 (by decide), (ftOf L).used, by rw [show ((8 : Int)) = ((8 : Nat) : Int) from rfl, e8]; exact nm 8 (by decide), (ftOf L).salt, by rw [show ((12 : Int)) = ((12 : Nat) : Int) from rfl, e12]; exact nm 12 (by decide), (ftOf L).sum, by rw [show ((16 : Int)) = ((16 : Nat) : Int) from rfl, e16]; exact nm 16 (by decide), fun fb h7 _ _ x7 => ?_⟩
 rw [w64 (x := (ftOf L).recs) (by omega) (by omega), w64 (x := (ftOf L).used) (by omega) (by omega), wu32 bd.2.2.1, wu32 bd.2.2.2]
 have x7' := x23.trans x7
 refine (encFoot_r g (ftOf L) bd.2.2.1 bd.2.2.2 h7).mono ?_
 rintro v h8 ⟨x8, hv⟩
 rw [if_pos hg] at hv
 have x8' := x7'.trans x8
 by_cases ok : ftOk g (ftOf L)
 ·rw [if_pos ok] at hv
  obtain ⟨a8, c8, rfl, s8⟩ := hv
  have hu := ok.2
  have sB := drop_sl (s.ext x8') (p := L.length - 24) (by omega)
  have hlB : (ftL L).length = 24 := by unfold ftL; rw [List.length_drop]; omega
  refine ⟨x8.kp _, _, _, _, _, rfl, !decide (encF (ftOf L) = ftL L ∧ crc 0 (L.take (ftOf L).used.toNat) = (ftOf L).sum), ⟨fun q => by simp at q, fun _ => ⟨by omega, by omega, by omega, fun sl es => ⟨decide (encF (ftOf L) = ftL L), fun h10 x10 => ?_, fun q => ?_, fun q => ⟨by omega, by omega, by omega, fun sl1 es1 => ⟨crc 0 (L.take (ftOf L).used.toNat), fun h9 x9 => ?_, ?_⟩⟩⟩⟩⟩, fun e h11 f11 => ?_, fun e h12 f12 => ?_⟩
  ·subst es
   have := eq_r (s8.ext x10) (sB.ext x10) (by rw [encF_len]; decide)
   have el : (List.drop (L.length - 24) L).length = 24 := hlB
   rw [el] at this
   rw [Int.toNat_natCast, Int.toNat_natCast, show L.length - (L.length - 24) = 24 by omega]
   exact this
  ·have hne : ¬ encF (ftOf L) = ftL L := by simpa using q
   simp [hne]
  ·subst es1
   have := crc_r ((s.ext (x8'.trans x9)).cut (l := 0) (r := (ftOf L).used.toNat) (Nat.zero_le _) (by omega)) (isB_drop (isB_take hb _) 0) (by simp; omega)
   have el : (List.drop 0 (L.take (ftOf L).used.toNat)).length = (ftOf L).used.toNat := by simp; omega
   rw [el] at this
   exact this
  ·have heq : encF (ftOf L) = ftL L := by simpa using q
   rw [Bool.eq_iff_iff]; simp [heq]
  ·rw [Bool.not_eq_true'] at e
   have hne := of_decide_eq_false e
   rw [if_neg (fun r : footOk g L => hne r.2.2)]
   exact ⟨rfl, frpb x8' lo f11⟩
  ·rw [Bool.not_eq_false'] at e
   have heq := of_decide_eq_true e
   rw [if_pos (show footOk g L from ⟨hL, ok, heq⟩)]
   exact ⟨rfl, frpb x8' lo f12⟩
 ·rw [if_neg ok] at hv
  subst hv
  refine ⟨x8.kp _, _, _, _, _, rfl, true, ⟨fun _ => rfl, fun q => by simp at q⟩, fun e h11 f11 => ?_, fun e => by cases e⟩
  rw [if_neg (fun r : footOk g L => ok r.2.1)]
  exact ⟨rfl, frpb x8' lo f11⟩
end
end Sc
end Go.Proofs.YthjehlocmikchaaDoor
namespace Go.Proofs.YthjehlocmikchaaDoor
namespace Sc
open Go
section
variable {h : Heap} {a : Option Addr} {c : Nat} {L : List Int}
set_option maxHeartbeats 3200000 in
theorem foot_m (g : Geo) (s : Sl eB h a c L) (hb : isB L) (hl : L.length ≤ 1099511627776) : HC Tryd.prog 35 #[g.v, .slice a L.length c] h fun v h' => v = footV g L ∧ Ext h h' := by
 have hc := s.le
 refine f35_sh _ _ _ _ _ _ _ _ _ fun gb pb h2 _ lt0 lo lt x2 => (check_m g h2).mono ?_
 rintro _ h3 ⟨rfl, x3⟩
 have x23 := x2.trans x3
 unfold footV
 by_cases hn : ¬ Gok g
 ·rw [if_neg hn]
  simp only [if_pos hn]
  exact ⟨x3, _, rfl, fun _ h4 f4 => ⟨rfl, frpb x23 lo f4⟩, fun e => by simp at e⟩
 have hg : Gok g := Decidable.not_not.1 hn
 rw [if_pos hg]
 simp only [if_neg hn]
 have b := ok_bounds hg
 refine ⟨x3, _, rfl, fun e => by simp at e, fun _ => (bytes_m g h3).mono ?_⟩
 rintro _ h5 ⟨rfl, x5⟩
 rw [if_pos hg]
 have x25 := x23.trans x5
 refine ⟨x5, _, _, _, rfl, fun e h6 f6 => ?_, fun e => ?_⟩
 ·have hne : ¬ (L.length : Int) = g.sz := by simpa using e
  rw [if_neg (fun r : footOk g L => hne r.1)]
  exact ⟨rfl, frpb x25 lo f6⟩
 have hL : (L.length : Int) = g.sz := by simpa using e
 have ew : IntKind.i64.wrap (g.sz - 24) = ((L.length - 24 : Nat) : Int) := by rw [w64 (by omega) (by omega)]; omega
 simp only [ew]
 have hs2 := x2.size
 have hs3 := x3.size
 have hs5 := x5.size
 refine ⟨by omega, by omega, by omega, fun sl es cb h7 e7 eh7 => ?_⟩
 have x7 : Ext h5 h7 := by rw [eh7]; exact Ext.push _ _
 have r7 : h7[cb]? = some (.cells #[.slice none 0 0] 25 (0, 0)) := by rw [eh7]; exact push_new e7
 clear eh7
 refine ⟨HW_row r7 (by simp), fun p hp => by simp at hp; omega, fun h8 e8 => ?_⟩
 have hlB : (ftL L).length = 24 := by unfold ftL; rw [List.length_drop]; omega
 have t1 : Int.toNat (L.length : Int) - Int.toNat ((L.length - 24 : Nat) : Int) = (ftL L).length := by rw [Int.toNat_natCast, Int.toNat_natCast, hlB]; omega
 rw [t1, Int.toNat_natCast] at e8
 rw [Int.toNat_natCast] at es
 have r8 : h8[cb]? = some (.cells #[.slice sl (ftL L).length (c - (L.length - 24))] 25 (0, 0)) := by rw [e8, hset_row r7]; rfl
 have x8 : Ext h5 h8 := ext_hset e8 x7 (by omega)
 clear e8
 have x28 := x25.trans x8
 have bd := ftOf_bounds hb
 have hB : isB (ftL L) := isB_drop hb _
 have sB : Sl eB h8 sl (c - (L.length - 24)) (ftL L) := by subst es; exact drop_sl (s.ext x28) (by omega)
 refine ⟨(ftOf L).recs, f1_m sB hB r8 (i := 1) (by omega) (by decide), (ftOf L).used, f1_m sB hB r8 (i := 2) (by omega) (by decide), (ftOf L).salt, f1_m sB hB r8 (i := 3) (by omega) (by decide), (ftOf L).sum, f1_m sB hB r8 (i := 4) (by omega) (by decide), fun fb h10 _ _ x10 => ?_⟩
 rw [w64 (x := (ftOf L).recs) (by omega) (by omega), w64 (x := (ftOf L).used) (by omega) (by omega), wu32 bd.2.2.1, wu32 bd.2.2.2]
 have x10' := x28.trans x10
 refine (encFoot_m g (ftOf L) bd.2.2.1 bd.2.2.2 h10).mono ?_
 rintro v h11 ⟨x11, hv⟩
 rw [if_pos hg] at hv
 have x11' := x10'.trans x11
 by_cases ok : ftOk g (ftOf L)
 ·rw [if_pos ok] at hv
  obtain ⟨a11, c11, rfl, s11⟩ := hv
  have hu := ok.2
  refine ⟨x11.kp _, _, _, _, _, rfl, !decide (encF (ftOf L) = ftL L ∧ crc 0 (L.take (ftOf L).used.toNat) = (ftOf L).sum), ⟨fun q => by simp at q, fun _ => ⟨_, _, _, by rw [hcell_row ((x10.trans x11).row r8)]; rfl, decide (encF (ftOf L) = ftL L), fun h13 x13 => ?_, fun q => ?_, fun q => ⟨by omega, by omega, by omega, fun sl1 es1 => ⟨crc 0 (L.take (ftOf L).used.toNat), fun h12 x12 => ?_, ?_⟩⟩⟩⟩, fun e h14 f14 => ?_, fun e h15 f15 => ?_⟩
  ·exact eq_m (s11.ext x13) (sB.ext (x10.trans (x11.trans x13))) (encF_isB _) hB
  ·have hne : ¬ encF (ftOf L) = ftL L := by simpa using q
   simp [hne]
  ·subst es1
   have := crc_m ((s.ext (x11'.trans x12)).cut (l := 0) (r := (ftOf L).used.toNat) (Nat.zero_le _) (by omega)) (isB_drop (isB_take hb _) 0) (by simp; omega)
   have el : (List.drop 0 (L.take (ftOf L).used.toNat)).length = (ftOf L).used.toNat := by simp; omega
   rw [el] at this
   exact this
  ·have heq : encF (ftOf L) = ftL L := by simpa using q
   rw [Bool.eq_iff_iff]; simp [heq]
  ·rw [Bool.not_eq_true'] at e
   have hne := of_decide_eq_false e
   rw [if_neg (fun r : footOk g L => hne r.2.2)]
   exact ⟨rfl, frpb x11' lo f14⟩
  ·rw [Bool.not_eq_false'] at e
   have heq := of_decide_eq_true e
   rw [if_pos (show footOk g L from ⟨hL, ok, heq⟩)]
   exact ⟨rfl, frpb x11' lo f15⟩
 ·rw [if_neg ok] at hv
  subst hv
  refine ⟨x11.kp _, _, _, _, _, rfl, true, ⟨fun _ => rfl, fun q => by simp at q⟩, fun e h14 f14 => ?_, fun e => by cases e⟩
  rw [if_neg (fun r : footOk g L => ok r.2.1)]
  exact ⟨rfl, frpb x11' lo f14⟩
end
end Sc
end Go.Proofs.YthjehlocmikchaaDoor
