import Derived.Test.YthjehlocmikchaaDoorDvSV
namespace Go.Proofs.YthjehlocmikchaaDoor
namespace Sc
open Go
structure Su where
 rg : Int
 has : Bool
 ep : Int
 sq : Int
 hr : Int
 recs : List Fo
 at_ : Int
 why : Int
 sealed_ : Bool
abbrev Su.cs (x : Su) (a : Option Addr) (n c : Nat) : List Value := [.int .i64 x.rg, .bool x.has, .int .u64 x.ep, .int .u64 x.sq, .int .i64 x.hr, .slice a n c, .int .i64 x.at_, .int .i64 x.why, .bool x.sealed_]
def su0 : Su := ⟨0, false, 0, 0, 0, [], 0, 0, false⟩
def lastU (u : Int) (l : List Fo) : Int := match l.getLast? with | none => u | some f => f.off + f.sz
theorem lastU_snoc (u : Int) (l : List Fo) (f : Fo) : lastU u (l ++ [f]) = f.off + f.sz := by unfold lastU; simp
def surGo (g : Geo) (rg : Int) (x : Hd) (L : List Int) : Su :=
 let r := recsOf g x x.rg L
 ⟨rg, true, x.ep, x.sq, x.rg, r.1, r.2.1, r.2.2, decide (footOk g L ∧ (ftOf L).salt = x.sq % 4294967296 ∧ (ftOf L).recs = (r.1.length : Int) ∧ (ftOf L).used = lastU (fst0 g) r.1)⟩
def surOf (g : Geo) (rg : Int) (L : List Int) : Su × Int :=
 if ¬ Gok g then (su0, 20) else if rg < 0 ∨ rg ≥ g.regs ∨ ¬ (L.length : Int) = g.sz then (su0, 60) else
 match headD g L with
 | none => (⟨rg, false, 0, 0, 0, [], 0, 1, false⟩, 0)
 | some x => if x.rg ≠ rg then (⟨rg, false, 0, 0, 0, [], 0, 1, false⟩, 0) else (surGo g rg x L, 0)
def TellS (r : Su × Int) (h : Heap) (v : Value) (h' : Heap) : Prop :=
 ∃ a c, v = .tuple #[.agg (r.1.cs a r.1.recs.length c).toArray, .int .i64 r.2] ∧ Ext h h' ∧ Sl eFo h' a c r.1.recs ∧ Own eFo.k tF h.size h' a c
theorem tellS_nil {S : Su} {e : Int} {h h' : Heap} (hr : S.recs = []) (x : Ext h h') : TellS (S, e) h (.tuple #[.agg (S.cs none 0 0).toArray, .int .i64 e]) h' := by
 refine ⟨none, 0, ?_, x, ?_, Own.nil _ _ _ _⟩
 ·show _ = Value.tuple #[.agg (S.cs none S.recs.length 0).toArray, .int .i64 e]
  rw [hr]; rfl
 ·show Sl eFo h' none 0 S.recs
  rw [hr]; exact Sl.nil _ _
def setRg (rg : Int) (f : Fo) : Fo := { f with rg := rg }
theorem goOn_rg (g : Geo) (salt r0 rg : Int) (L : List Int) : ∀ (n : Nat) (p : Int), goOn g salt rg L n p = ((goOn g salt r0 L n p).1.map (setRg rg), (goOn g salt r0 L n p).2)
 | 0, p => rfl
 | n + 1, p => by
  unfold goOn
  split
  ·rfl
  ·split
   ·exact goOn_rg g salt r0 rg L n _
   ·split
    ·rfl
    ·split
     ·simp only
      rw [goOn_rg g salt r0 rg L n]; rfl
     ·rfl
theorem recsOf_rg (g : Geo) (x : Hd) (r0 rg : Int) (L : List Int) : recsOf g x rg L = ((recsOf g x r0 L).1.map (setRg rg), (recsOf g x r0 L).2) := goOn_rg _ _ _ _ _ _ _
theorem goOn_len (g : Geo) (salt rg : Int) (L : List Int) : ∀ (n : Nat) (p : Int), (goOn g salt rg L n p).1.length ≤ n
 | 0, p => Nat.le_refl _
 | n + 1, p => by
  unfold goOn
  split
  ·exact Nat.zero_le _
  ·split
   ·exact Nat.le_succ_of_le (goOn_len g salt rg L n _)
   ·split
    ·exact Nat.zero_le _
    ·split
     ·exact Nat.succ_le_succ (goOn_len g salt rg L n _)
     ·exact Nat.zero_le _
theorem goOn_fits {g : Geo} (hg : Gok g) {salt rg : Int} {L : List Int} : ∀ (n : Nat) (p : Int), 0 ≤ p → ∀ f ∈ (goOn g salt rg L n p).1, f.rg = rg ∧ p ≤ f.off ∧ 24 ≤ f.sz ∧ f.off + f.sz ≤ L.length
 | 0, p, _ => by intro f hf; simp [goOn] at hf
 | n + 1, p, h0 => by
  have b := ok_bounds hg
  intro f hf
  unfold goOn at hf
  split at hf
  ·simp at hf
  ·rename_i hfar
   split at hf
   ·have m1 := Int.emod_add_mul_ediv p g.page
    have m3 := Int.emod_lt_of_pos p (show 0 < g.page by omega)
    have e5 : (p / g.page + 1) * g.page = g.page * (p / g.page) + g.page := by rw [Int.add_mul, Int.one_mul, Int.mul_comm]
    have := goOn_fits hg n ((p / g.page + 1) * g.page) (by omega) f hf
    omega
   ·split at hf
    ·simp at hf
    ·split at hf
     ·rename_i hok
      have hz := hok.1.2
      have hzl : (L.drop p.toNat).length = L.length - p.toNat := List.length_drop
      have hz2 : (24 : Nat) ≤ szR (L.drop p.toNat) := by unfold szR; omega
      simp only [List.mem_cons] at hf
      rcases hf with rfl | hf
      ·refine ⟨rfl, Int.le_refl _, ?_, ?_⟩
       ·show (24 : Int) ≤ (szR (L.drop p.toNat) : Int); omega
       ·show p + (szR (L.drop p.toNat) : Int) ≤ L.length; omega
      ·have up := upTo_ge (n := p + (szR (L.drop p.toNat) : Int)) (al := g.al) (by omega)
       have := goOn_fits hg n _ (by omega) f hf
       omega
     ·simp at hf
section
variable {h : Heap} {a : Option Addr} {c : Nat} {L : List Int}
theorem set_mid {α : Type} (A B : List α) (f : α → α) {k : Nat} (hk : k < B.length) (x : α) (hx : x = f B[k]) : ((B.map f).take k ++ B.drop k).set k x = (B.map f).take (k + 1) ++ B.drop (k + 1) := by
 subst hx
 rw [List.set_append_right _ _ (by simp; omega), List.length_take, List.length_map, Nat.min_eq_left (by omega), Nat.sub_self, List.drop_eq_getElem_cons hk, List.set_cons_zero, List.take_add_one, List.getElem?_map, List.getElem?_eq_getElem hk]
 simp
set_option maxHeartbeats 3200000 in
theorem survey_r (g : Geo) (rg : Int) (s : Sl eB h a c L) (hb : isB L) : HC Tryd.prog 13 #[g.v, .int .i64 rg, .slice a L.length c] h fun v h' => TellS (surOf g rg L) h v h' := by
 have hc := s.le
 refine f13_sh _ _ _ _ _ _ _ _ _ _ fun gb pb h2 log ltg lo lt x2 => (check_r g h2).mono ?_
 rintro _ h3 ⟨rfl, x3⟩
 have x23 := x2.trans x3
 unfold surOf
 by_cases hn : ¬ Gok g
 ·rw [if_neg hn, if_pos hn]
  exact ⟨x3, _, rfl, fun _ h4 f4 => tellS_nil rfl (frpb x23 lo f4), fun e => by simp at e⟩
 have hg : Gok g := Decidable.not_not.1 hn
 have b := ok_bounds hg
 have fb := fst_bounds hg
 rw [if_pos hg, if_neg hn]
 let bad : Bool := decide (rg < 0 ∨ rg ≥ g.regs ∨ ¬ (L.length : Int) = g.sz)
 refine ⟨x3, _, rfl, fun e => by simp at e, fun _ => ⟨fun j h5 => j = bad ∧ Ext h3 h5, ⟨fun e => ⟨?_, Ext.refl _⟩, fun e => ⟨fun e2 => ⟨?_, Ext.refl _⟩, fun e2 => ?_⟩⟩, ?_⟩⟩
 ·have := of_decide_eq_true e; simp [bad]; omega
 ·have := of_decide_eq_true e2; simp [bad]; omega
 ·have h1 := of_decide_eq_false e
  have h2' := of_decide_eq_false e2
  refine (fits_r g h3).mono ?_
  rintro _ h6 ⟨rfl, x6⟩
  refine ⟨x6, _, rfl, ?_, x6⟩
  simp only [bad]
  rw [Bool.eq_iff_iff]
  simp only [fits, hg, true_and, Bool.not_eq_true', decide_eq_false_iff_not, decide_eq_true_eq]
  omega
 rintro _ h5 ⟨rfl, x5⟩
 have x25 := x23.trans x5
 refine ⟨fun e h7 f7 => ?_, fun e => ?_⟩
 ·rw [if_pos (of_decide_eq_true e)]
  exact tellS_nil rfl (frpb x25 lo f7)
 have hbad := of_decide_eq_false e
 rw [if_neg hbad]
 have hL : (L.length : Int) = g.sz := by omega
 have hl : L.length ≤ 1099511627776 := by omega
 have ft : fits g L := ⟨hg, hL⟩
 refine (head_r g (s.ext x25) hb hl).mono ?_
 rintro _ h8 ⟨rfl, x8⟩
 have x28 := x25.trans x8
 unfold tellD
 cases hx : headD g L with
 | none =>
  simp only [if_pos hg]
  exact ⟨x8, _, _, _, _, rfl, fun _ hv h10 _ _ x10 h11 f11 => tellS_nil rfl (frpb (x28.trans x10) lo f11), fun e => by simp at e⟩
 | some x =>
  simp only
  refine ⟨x8, _, _, _, _, rfl, fun e => ?_, fun e => ?_⟩
  ·have hne : x.rg ≠ rg := by simpa using e
   intro hv h10 _ _ x10 h11 f11
   rw [if_pos hne]
   exact tellS_nil rfl (frpb (x28.trans x10) lo f11)
  have heq : x.rg = rg := by simpa using e
  rw [if_neg (not_not_intro heq)]
  intro hv h10 lo10 lt10 x10
  have x2a := x28.trans x10
  refine (rec_r g ft (s.ext x2a) hb).mono ?_
  intro v h12 hv12
  unfold TellL at hv12
  rw [hx] at hv12
  obtain ⟨x12, ra, rcp, rfl, s12, w12⟩ := hv12
  have x2c := x2a.trans x12
  refine ⟨x12, _, _, _, _, _, rfl, fun endv h14 lo14 lt14 x14 => (Up_r g 32 h14).mono ?_⟩
  rintro _ h15 ⟨rfl, x15⟩
  rw [upE_32 hg]
  have hmap := recsOf_rg g x 0 x.rg L
  have hfit := goOn_fits hg (salt := x.sq % 4294967296) (rg := 0) (L := L) L.length (fst0 g) (by omega)
  have hlen : (recsOf g x 0 L).1.length ≤ L.length := goOn_len _ _ _ _ _ _
  change ∀ f ∈ (recsOf g x 0 L).1, _ at hfit
  have x2f := x2c.trans (x14.trans x15)
  have sur : surGo g rg x L = ⟨rg, true, x.ep, x.sq, x.rg, (recsOf g x x.rg L).1, (recsOf g x 0 L).2.1, (recsOf g x 0 L).2.2, decide (footOk g L ∧ (ftOf L).salt = x.sq % 4294967296 ∧ (ftOf L).recs = ((recsOf g x 0 L).1.length : Int) ∧ (ftOf L).used = lastU (fst0 g) (recsOf g x x.rg L).1)⟩ := by
   unfold surGo
   simp only [hmap, List.length_map]
  rw [sur]
  generalize hR0 : recsOf g x 0 L = r0 at *
  have hR1 : (recsOf g x x.rg L).1 = r0.1.map (setRg x.rg) := by rw [hmap]
  rw [hR1]
  have hz2 := x2.size
  have hz12 := x2a.size
  have hz3 := (x14.trans x15).size
  have ha10 := x12.size
  have hlt2a := (x3.trans (x5.trans x8)).size
  refine ⟨x15, _, _, rfl, fun used v h16 => ∃ k : Nat, v = k ∧ k ≤ r0.1.length ∧ used = lastU (fst0 g) ((r0.1.map (setRg x.rg)).take k) ∧ Ext h h16 ∧ Sl eFo h16 ra rcp ((r0.1.map (setRg x.rg)).take k ++ r0.1.drop k) ∧ Own eFo.k tF h10.size h16 ra rcp, fun _ v _ => r0.1.length - v.toNat,
   ⟨0, rfl, Nat.zero_le _, rfl, x2f, by simpa using s12.ext (x14.trans x15), w12.ext (x14.trans x15)⟩, ?_⟩
  rintro _ _ h16 ⟨k, rfl, hk, rfl, x16, s16, w16⟩
  refine ⟨fun e => ?_, fun e => ?_⟩
  ·have hkl := lt_of_dec e
   have hmem := hfit _ (List.getElem_mem hkl)
   have hget : ((r0.1.map (setRg x.rg)).take k ++ r0.1.drop k)[k]? = some r0.1[k] := by
    rw [List.getElem?_append_right (by simp; omega), List.length_take, List.length_map, Nat.min_eq_left (by omega), Nat.sub_self, List.getElem?_drop, Nat.add_zero, List.getElem?_eq_getElem hkl]
   obtain ⟨hlt, hge⟩ := List.getElem?_eq_some_iff.1 hget
   obtain ⟨rb, ro, rfl, d⟩ := s16.at hget
   obtain ⟨u1, u2⟩ := s16.word w16 (i := k) (r := 0) (x' := setRg x.rg r0.1[k]) (v := .int .i64 rg) hlt (by decide) (by rw [hge, ← heq]; rfl) (p := ro + Int.toNat (k : Int) * 7) (by simp; rfl)
   refine ⟨rb, ro, rfl, by omega, by omega, u1, ?_, fun h17 e17 => ?_⟩
   ·intro q hq
    have := w12.low (blkA_of rfl)
    simp only [List.mem_cons, List.not_mem_nil, or_false] at hq
    omega
   ·obtain ⟨s17, w17, f17⟩ := u2 h17 e17
    rw [set_mid r0.1 r0.1 (setRg x.rg) hkl _ rfl] at s17
    have hget2 : ((r0.1.map (setRg x.rg)).take (k + 1) ++ r0.1.drop (k + 1))[k]? = some (setRg x.rg r0.1[k]) := by
     rw [List.getElem?_append_left (by simp; omega), List.getElem?_take, if_pos (by omega), List.getElem?_map, List.getElem?_eq_getElem hkl]; rfl
    obtain ⟨rb', ro', e', d'⟩ := s17.at hget2
    cases e'
    have hoff : (setRg x.rg r0.1[k]).off = r0.1[k].off := rfl
    have hsz : (setRg x.rg r0.1[k]).sz = r0.1[k].sz := rfl
    refine ⟨_, d'.2.1, _, d'.2.2.1, ?_⟩
    rw [hoff, hsz, w64 (x := r0.1[k].off + r0.1[k].sz) (by omega) (by omega), wadd k (by omega)]
    refine ⟨⟨k + 1, rfl, hkl, ?_, ?_, s17, w17⟩, by simp only [Int.toNat_natCast]; omega⟩
    ·rw [List.take_add_one, List.getElem?_map, List.getElem?_eq_getElem hkl]
     simp only [Option.map_some, Option.toList_some]
     rw [lastU_snoc]
     rfl
    ·exact ((x16.fr _).trans f17 fun _ _ q => q).ext fun q hq hb' => by
      have := (w16.low (blkA_of rfl)).1; omega
  ·have hkl : k = r0.1.length := by have := ge_of_dec e; omega
   subst hkl
   rw [List.drop_length, List.append_nil, List.take_of_length_le (by simp)] at s16
   rw [List.take_of_length_le (by simp)]
   refine (foot_r g (s.ext x16) hb hl).mono ?_
   rintro _ h18 ⟨rfl, x18⟩
   unfold footV
   rw [if_neg hn]
   have hsq : 0 ≤ x.sq ∧ x.sq < 18446744073709551616 := by
    obtain ⟨_, _, rfl⟩ := headD_some hx
    exact le_u64 (isB_take (isB_drop hb 16) 8) (by simp; omega)
   have fin : ∀ {sl : Bool}, sl = decide (footOk g L ∧ (ftOf L).salt = x.sq % 4294967296 ∧ (ftOf L).recs = (r0.1.length : Int) ∧ (ftOf L).used = lastU (fst0 g) (r0.1.map (setRg x.rg))) → ∀ h20, Ext h18 h20 → ∀ h22, Fr (fun i => i = pb) h20 h22 → TellS (⟨rg, true, x.ep, x.sq, x.rg, r0.1.map (setRg x.rg), r0.2.1, r0.2.2, decide (footOk g L ∧ (ftOf L).salt = x.sq % 4294967296 ∧ (ftOf L).recs = (r0.1.length : Int) ∧ (ftOf L).used = lastU (fst0 g) (r0.1.map (setRg x.rg)))⟩, 0) h (.tuple #[.agg #[.int .i64 rg, .bool true, .int .u64 x.ep, .int .u64 x.sq, .int .i64 x.rg, .slice ra r0.1.length rcp, .int .i64 r0.2.1, .int .i64 r0.2.2, .bool sl], .int .i64 0]) h22 := fun {sl} hsl h20 x20 h22 f22 => by
    subst hsl
    have xx := x18.trans x20
    have np : ∀ b, blkA ra b → ¬ b = pb := fun q hq => by have := (w16.low hq).1; omega
    refine ⟨ra, rcp, by simp only [List.length_map], frpb (x16.trans xx) lo f22, (s16.ext xx).fr f22 np, ((w16.ext xx).fr f22 np).down hz12⟩
   by_cases hfo : footOk g L
   ·rw [if_pos hfo]
    refine ⟨x18, _, _, _, _, _, rfl, decide (footOk g L ∧ (ftOf L).salt = x.sq % 4294967296 ∧ (ftOf L).recs = (r0.1.length : Int) ∧ (ftOf L).used = lastU (fst0 g) (r0.1.map (setRg x.rg))), ⟨fun _ f h20 _ _ x20 => ⟨_, fun h21 _ => salt_r _ hsq h21, fun e3 => ⟨fun e4 => ?_, fun e4 => ?_⟩, fun e3 => ?_⟩, fun e => by simp at e⟩, fin rfl⟩
    ·have h3 := eq_of_beq e3
     have h4 := eq_of_beq e4
     rw [Bool.eq_iff_iff]; simp [hfo, h3, h4]
    ·have h4 : ¬ (ftOf L).recs = (r0.1.length : Int) := by simpa using e4
     simp [h4]
    ·have h3 : ¬ (ftOf L).salt = x.sq % 4294967296 := by simpa using e3
     simp [h3]
   ·rw [if_neg hfo]
    refine ⟨x18, _, _, _, _, _, rfl, decide (footOk g L ∧ (ftOf L).salt = x.sq % 4294967296 ∧ (ftOf L).recs = (r0.1.length : Int) ∧ (ftOf L).used = lastU (fst0 g) (r0.1.map (setRg x.rg))), ⟨fun e => by simp at e, fun _ => by simp [hfo]⟩, fin rfl⟩
end
end Sc
end Go.Proofs.YthjehlocmikchaaDoor
