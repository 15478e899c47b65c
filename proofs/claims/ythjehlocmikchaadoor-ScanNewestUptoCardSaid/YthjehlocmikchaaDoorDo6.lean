import Derived.WalkKit
import Derived.ProofKit
import Derived.OpenShut
import Derived.ShutString
import Derived.ChangeOld
import Derived.Below
import Derived.Carry
import Derived.Deep.Slices
import Derived.Deep.Fields
import Derived.Lib.LaidTab
import Derived.Stop.LaidErr
import Derived.Shelf.SlSortCmp.NoneTotal
import Derived.Shelf.Small.Strs
import Derived.Test.YthjehlocmikchaaDoorProg
import Derived.Test.YthjehlocmikchaaDoorRows
import Derived.Test.YthjehlocmikchaaDoorDo1
import Derived.Test.YthjehlocmikchaaDoorDo2
import Derived.Test.YthjehlocmikchaaDoorDo3
import Derived.Test.YthjehlocmikchaaDoorDo5
namespace Go.Proofs.YthjehlocmikchaaDoor
namespace Sc
open Go
theorem sl_shut {α : Type} {E : Elt α} {h h' : Heap} {a : Option Addr} {c M : Nat} {L : List α} (s : Sl E h a c L) (k : Shut' M h h') : Sl E h' a c L :=
 ⟨s.le, s.ex.imp id fun ⟨b, o, e, hc⟩ => ⟨b, o, e, fun i x hx => HCells.mk fun _ _ hj => shut_cell k ((hc i x hx).get hj)⟩⟩
theorem own_shut {h h' : Heap} {a : Option Addr} {c k N M : Nat} {T : TypeId} (w : Own k T N h a c) (s : Shut' M h h') : Own k T N h' a c :=
 w.imp id fun ⟨b, o, cs, e, h1, h2, h3⟩ => ⟨b, o, cs, e, h1, s.row h2 (by intro e; cases e), h3⟩
theorem ext_shut {h h1 h2 : Heap} (x : Ext h h1) (s : Shut' h.size h1 h2) : Ext h h2 :=
 ⟨by rw [s.size]; exact x.size, fun b hb => (s.low hb).trans (x.block b hb)⟩
theorem G4' {hh : Heap} {gb : Nat} {g : Geo} {Tg : TypeId} {fr : Nat × Nat} (r : hh[gb]? = some (.cells (rowG g) Tg fr)) : hcell hh gb 0 = some (.int .i64 g.page) ∧ hcell hh gb 1 = some (.int .i64 g.pages) ∧ hcell hh gb 2 = some (.int .i64 g.regs) ∧ hcell hh gb 3 = some (.int .i64 g.al) := G4 r
theorem S9 {hh : Heap} {b : Nat} {S : Su} {a : Option Addr} {n c : Nat} {T : TypeId} {fr : Nat × Nat} (r : hh[b]? = some (.cells (S.cs a n c).toArray T fr)) :
  hcell hh b 0 = some (.int .i64 S.rg) ∧ hcell hh b 1 = some (.bool S.has) ∧ hcell hh b 2 = some (.int .u64 S.ep) ∧ hcell hh b 3 = some (.int .u64 S.sq) ∧ hcell hh b 4 = some (.int .i64 S.hr) ∧ hcell hh b 5 = some (.slice a n c) ∧ hcell hh b 6 = some (.int .i64 S.at_) ∧ hcell hh b 7 = some (.int .i64 S.why) ∧ hcell hh b 8 = some (.bool S.sealed_) := by
 refine ⟨?_, ?_, ?_, ?_, ?_, ?_, ?_, ?_, ?_⟩ <;> (rw [hcell_row r]; rfl)
theorem app_1 {α : Type} {E : Elt α} {P : Program} {t : TypeId} {by_ : Nat} {h h1 : Heap} {a : Option Addr} {c N : Nat} {L : List α} {T : TypeId} (A : AppT P t T E.k by_) {nb n : Nat} {cs : Array Value} {x : α} (eb : nb = h.size) (eh : h1 = h.push (.cells cs T)) (ec : (E.enc x).toArray = cs)
  (s : Sl E h a c L) (w : Own E.k T N h a c) (hn : n = L.length) (hN : N ≤ h.size) (hsz : (n + 1) * by_ ≤ 140737488355328) {K : Value → Heap → Prop}
  (hk : ∀ a' c' h', Fr (blkA a) h h' → Sl E h' a' c' (L ++ [x]) → Own E.k T N h' a' c' → (∀ b, blkA a' b → blkA a b ∨ h.size ≤ b) → K (.slice a' (n + 1) c') h') :
  HAppend P t t (.slice a n c) (.slice (some ⟨nb, 0, none⟩) 1 1) h1 K := by
 subst hn
 have xe : Ext h h1 := by rw [eh]; exact Ext.push _ _
 have hrow : h1[nb]? = some (.cells ([x].flatMap E.enc).toArray T (0, 0)) := by rw [eh, ← ec]; simp only [List.flatMap_cons, List.flatMap_nil, List.append_nil]; exact push_new eb
 refine app_sl A (s.ext xe) (w.ext xe) (Sl.lit (L := [x]) hrow) (Nat.le_trans hN xe.size) hsz fun a' c' h' f s' w' bl => hk a' c' h' ((xe.fr (blkA a)).trans f (fun _ _ q => q)) s' w' fun b hb => ?_
 rcases bl b hb with q | q
 ·exact .inl q
 ·exact .inr (Nat.le_trans xe.size q)
section
variable {h : Heap} {a : Option Addr} {c : Nat} {L : List Int}
set_option maxHeartbeats 6400000 in
theorem survey_m (g : Geo) (rg : Int) (t : Tab h) (s : Sl eB h a c L) (hb : isB L) : HC Tryd.prog 12 #[g.v, .int .i64 rg, .slice a L.length c] h fun v h' => TellS (surOf g rg L) h v h' := by
 have hc := s.le
 refine f12_sh _ _ _ _ _ _ _ _ _ _ fun gb h1 egb e1 nb h2 enb e2 => ?_
 have x1 : Ext h h1 := by rw [e1]; exact Ext.push _ _
 have x12 : Ext h1 h2 := by rw [e2]; exact Ext.push _ _
 have x2 := x1.trans x12
 have rg1 : h1[gb]? = some (.cells (rowG g) 24 (0, 0)) := by rw [e1]; exact push_new egb
 have rg2 := x12.row rg1
 have rn2 : h2[nb]? = some (.cells (su0.cs none 0 0).toArray 36 (0, 0)) := by rw [e2]; exact push_new enb
 have zs1 : h1.size = h.size + 1 := by rw [e1]; simp
 have zs2 : h2.size = h1.size + 1 := by rw [e2]; simp
 obtain ⟨q1, q2, q3, q4⟩ := G4' rg2
 refine ⟨_, _, _, _, q1, q2, q3, q4, (bytes_m g h2).mono ?_⟩
 rintro _ h3 ⟨rfl, x3⟩
 have x23 := x2.trans x3
 -- a survey that is told at once
 have quick : ∀ {h0 : Heap} {S : Su} {e : Int}, Ext h2 h0 → S.recs = [] → h0[nb]? = some (.cells (su0.cs none 0 0).toArray 36 (0, 0)) → HWs h0 nb 0 9 ∧ ∀ h4, h4 = hsets h0 nb 0 (S.cs none 0 0) → h4[nb]? = some (.cells (S.cs none 0 0).toArray 36 (0, 0)) ∧ ∀ h5, Shut' h.size h4 h5 → TellS (S, e) h (.tuple #[.agg (S.cs none 0 0).toArray, .int .i64 e]) h5 := fun {h0 S e} x0 hr r0 => by
  refine ⟨HWs_row r0 (by simp), fun h4 e4 => ⟨row_hsets_eq e4 r0 (by simp [sets]), fun h5 s5 => tellS_nil hr (ext_shut (ext_hsets e4 (x2.trans x0) (by omega)) s5)⟩⟩
 by_cases hn : ¬ Gok g
 ·rw [show surOf g rg L = (su0, 20) by unfold surOf; rw [if_pos hn], if_neg hn]
  refine ⟨x3, _, _, _, rfl, fun _ => ?_, fun e => by simp at e⟩
  obtain ⟨u1, u2⟩ := quick (S := su0) (e := 20) x3 rfl (x3.row rn2)
  refine ⟨u1, fun h4 e4 => ?_⟩
  obtain ⟨u3, u4⟩ := u2 h4 e4
  obtain ⟨w0, w1, w2, w3, w4, w5, w6, w7, w8⟩ := S9 u3
  exact ⟨_, _, _, _, _, _, _, _, _, _, _, w0, w1, w2, w3, w4, w5, w6, w7, w8, u4⟩
 have hg : Gok g := Decidable.not_not.1 hn
 have b := ok_bounds hg
 have fb := fst_bounds hg
 rw [if_pos hg]
 have rg3 := x3.row rg2
 have rn3 := x3.row rn2
 refine ⟨x3, _, _, _, rfl, fun e => by simp at e, fun _ => ⟨decide (rg < 0 ∨ rg ≥ g.regs ∨ ¬ (L.length : Int) = g.sz), ⟨fun e => ?_, fun e => ⟨_, (G4' rg3).2.2.1, fun e2 => ?_, fun e2 => ?_⟩⟩, fun e => ?_, fun e => ?_⟩⟩
 ·have := of_decide_eq_true e; exact decide_eq_true (.inl this)
 ·have := of_decide_eq_true e2; exact decide_eq_true (.inr (.inl this))
 ·have h1' := of_decide_eq_false e
  have h2' := of_decide_eq_false e2
  rw [Bool.eq_iff_iff]
  simp only [bne_iff_ne, ne_eq, decide_eq_true_eq]
  omega
 ·rw [show surOf g rg L = (su0, 60) by unfold surOf; rw [if_neg hn, if_pos (of_decide_eq_true e)]]
  obtain ⟨u1, u2⟩ := quick (S := su0) (e := 60) x3 rfl rn3
  refine ⟨u1, fun h4 e4 => ?_⟩
  obtain ⟨u3, u4⟩ := u2 h4 e4
  obtain ⟨w0, w1, w2, w3, w4, w5, w6, w7, w8⟩ := S9 u3
  exact ⟨_, _, _, _, _, _, _, _, _, _, _, w0, w1, w2, w3, w4, w5, w6, w7, w8, u4⟩
 have hbad := of_decide_eq_false e
 have hL : (L.length : Int) = g.sz := by omega
 have hl : L.length ≤ 1099511627776 := by omega
 have ft : fits g L := ⟨hg, hL⟩
 obtain ⟨q1, q2, q3, q4⟩ := G4' rg3
 refine ⟨_, _, _, _, q1, q2, q3, q4, (head_m g (t.ext x23) (s.ext x23) hb).mono ?_⟩
 rintro _ h8 ⟨rfl, x8⟩
 have htell : ∃ (x : Hd) (e : Int), tellD g L = .tuple #[x.v, .int .i64 e] ∧ ((e = 0 ∧ headD g L = some x) ∨ (e = 50 ∧ headD g L = none)) := by
  unfold tellD
  cases hx : headD g L with
  | none => exact ⟨z3, 50, by simp only [if_pos hg], .inr ⟨rfl, rfl⟩⟩
  | some x => exact ⟨x, 0, rfl, .inl ⟨rfl, rfl⟩⟩
 obtain ⟨x, ee, htd, hcase⟩ := htell
 refine ⟨x8, x.ep, x.sq, x.rg, ee, htd, fun hv h9 ehv e9 => ?_⟩
 have x9 : Ext h8 h9 := by rw [e9]; exact Ext.push _ _
 have rv9 : h9[hv]? = some (.cells #[.int .u64 0, .int .u64 0, .int .i64 0] 31 (0, 0)) := by rw [e9]; exact push_new ehv
 have hz8 := (x3.trans x8).size
 have zs9 : h9.size = h8.size + 1 := by rw [e9]; simp
 refine ⟨HWs_row rv9 (by simp), fun h10 e10 => ?_⟩
 have rv10 : h10[hv]? = some (.cells #[.int .u64 x.ep, .int .u64 x.sq, .int .i64 x.rg] 31 (0, 0)) := row_hsets_eq e10 rv9 (by simp [sets])
 have x10 : Ext h2 h10 := ext_hsets e10 (x3.trans (x8.trans x9)) (by omega)
 have zs10 : h10.size = h9.size := by rw [e10, hsets_size]
 refine ⟨decide (ee ≠ 0 ∨ x.rg ≠ rg), ⟨fun e => ?_, fun e => ⟨x.rg, by rw [hcell_row rv10]; rfl, ?_⟩⟩, fun e => ?_, fun e => ?_⟩
 ·have : ee ≠ 0 := by simpa using e
  simp [this]
 ·have : ee = 0 := by simpa using e
  rw [Bool.eq_iff_iff]; simp [this]
 ·have hor := of_decide_eq_true e
  have e5 : surOf g rg L = (⟨rg, false, 0, 0, 0, [], 0, 1, false⟩, 0) := by
   unfold surOf; rw [if_neg hn, if_neg hbad]
   rcases hcase with ⟨q1, q2⟩ | ⟨q1, q2⟩
   ·rw [q2]; simp only
    rw [if_pos (hor.resolve_left (by omega))]
   ·rw [q2]
  rw [e5]
  obtain ⟨u1, u2⟩ := quick (S := ⟨rg, false, 0, 0, 0, [], 0, 1, false⟩) (e := 0) x10 rfl (x10.row rn2)
  refine ⟨u1, fun h4 e4 => ?_⟩
  obtain ⟨u3, u4⟩ := u2 h4 e4
  obtain ⟨w0, w1, w2, w3, w4, w5, w6, w7, w8⟩ := S9 u3
  exact ⟨_, _, _, _, _, _, _, _, _, _, _, w0, w1, w2, w3, w4, w5, w6, w7, w8, u4⟩
 have hnor := of_decide_eq_false e
 have hee : ee = 0 := by omega
 have heq : x.rg = rg := by omega
 have hx : headD g L = some x := by
  rcases hcase with ⟨q1, q2⟩ | ⟨q1, q2⟩
  ·exact q2
  ·omega
 rw [show surOf g rg L = (surGo g rg x L, 0) by unfold surOf; rw [if_neg hn, if_neg hbad, hx]; simp only; rw [if_neg (not_not_intro heq)]]
 refine ⟨_, _, _, by rw [hcell_row rv10]; rfl, by rw [hcell_row rv10]; rfl, by rw [hcell_row rv10]; rfl, fun sv h13 esv e13 => ?_⟩
 have x13 : Ext h10 h13 := by rw [e13]; exact Ext.push _ _
 have rs13 : h13[sv]? = some (.cells (su0.cs none 0 0).toArray 36 (0, 0)) := by rw [e13]; exact push_new esv
 have zs13 : h13.size = h10.size + 1 := by rw [e13]; simp
 refine ⟨HWs_row rs13 (by simp), fun h14 e14 => ?_⟩
 let S0 : Su := ⟨rg, true, x.ep, x.sq, x.rg, [], 0, 0, false⟩
 have rs14 : h14[sv]? = some (.cells (S0.cs none 0 0).toArray 36 (0, 0)) := row_hsets_eq e14 rs13 (by simp [sets, S0])
 have x14 : Ext h10 h14 := ext_hsets e14 x13 (by omega)
 have zs14 : h14.size = h13.size := by rw [e14, hsets_size]
 have x214 := x10.trans x14
 obtain ⟨q1, q2, q3, q4⟩ := G4' (x214.row rg2)
 refine ⟨_, _, _, _, q1, q2, q3, q4, (Up_m g 32 h14).mono ?_⟩
 rintro _ h15 ⟨rfl, x15⟩
 rw [upE_32 hg]
 refine ⟨x15, _, _, rfl, fun used h16 eu e16 => ?_⟩
 have x16 : Ext h15 h16 := by rw [e16]; exact Ext.push _ _
 have ru16 : h16[used]? = some (.cells #[.int .i64 0] 3 (0, 0)) := by rw [e16]; exact push_new eu
 have zs16 : h16.size = h15.size + 1 := by rw [e16]; simp
 refine ⟨HW_row ru16 (by simp), fun h17 e17 => ?_⟩
 have ru17 : h17[used]? = some (.cells #[.int .i64 (fst0 g)] 3 (0, 0)) := row_hset_eq e17 ru16 (by simp)
 have hz15 := x15.size
 have x17 : Ext h14 h17 := ext_hset e17 (x15.trans x16) (by omega)
 have zs17 : h17.size = h16.size := by rw [e17, hset_size]
 have x217 := x214.trans x17
 obtain ⟨q1, q2, q3, q4⟩ := G4' (x217.row rg2)
 refine ⟨_, _, _, _, q1, q2, q3, q4, f34_sh _ _ _ _ _ _ _ _ _ _ _ fun g' h17a eg' e17a i' h17b ei' e17b ev' h18 eev e18 => ⟨_, rfl, ?_⟩⟩
 have x17a : Ext h17 h17a := by rw [e17a]; exact Ext.push _ _
 have x17b : Ext h17a h17b := by rw [e17b]; exact Ext.push _ _
 have x18 : Ext h17b h18 := by rw [e18]; exact Ext.push _ _
 have zs17a : h17a.size = h17.size + 1 := by rw [e17a]; simp
 have zs17b : h17b.size = h17a.size + 1 := by rw [e17b]; simp
 have zs18 : h18.size = h17b.size + 1 := by rw [e18]; simp
 have r17a : h17a[g']? = some (.cells (rowG g) 24 (0, 0)) := by rw [e17a]; exact push_new eg'
 have r17b : h17b[i']? = some (.cells #[.slice a L.length c] 25 (0, 0)) := by rw [e17b]; exact push_new ei'
 have r18 : h18[ev']? = some (.cells #[ptr sv 6] 85 (0, 0)) := by rw [e18]; exact push_new eev
 intro Lp l h19 y stay el x19 zs19 hL19 hyld
 have x1819 := x17a.trans (x17b.trans (x18.trans x19))
 have x19h : Ext h h19 := x2.trans (x217.trans x1819)
 let T : Nat → Prop := fun b => b = sv ∨ b = used ∨ b = l
 have hz2 := x2.size
 have ha : ∀ b, blkA a b → L.length = 0 ∨ b < h.size := fun b hb => by
  obtain ⟨x', ex, rfl⟩ := hb
  rcases Nat.eq_zero_or_pos L.length with h0 | h0
  ·exact .inl h0
  ·obtain ⟨b', o', e, hcs⟩ := s.addr h0
   rw [e] at ex; cases ex
   exact .inr (hcell_lt ((hcs 0 _ (List.getElem?_eq_getElem h0)).get (j := 0) rfl))
 refine found_go g T (t.ext x19h) ft (s.ext x19h) hb ((x17b.trans (x18.trans x19)).row r17a) ((x18.trans x19).row r17b) (x19.row r18) (fun q => by rcases q with q | q | q <;> omega) (fun q => by rcases q with q | q | q <;> omega) (fun q => by rcases q with q | q | q <;> omega) (fun b hb q => by
  rcases ha b hb with h0 | h0
  ·omega
  ·rcases q with q | q | q <;> omega) (by omega) (fun e => by rw [hx] at e; cases e) ?_
 intro x' hx' h3' x3'
 rw [hx] at hx'
 cases hx'
 have hfit := goOn_fits hg (salt := x.sq % 4294967296) (rg := x.rg) (L := L) L.length (fst0 g) (by omega)
 have hlen : (recsOf g x x.rg L).1.length ≤ L.length := goOn_len _ _ _ _ _ _
 change ∀ f ∈ (recsOf g x x.rg L).1, _ at hfit
 have sur : surGo g rg x L = ⟨rg, true, x.ep, x.sq, x.rg, (recsOf g x x.rg L).1, (recsOf g x x.rg L).2.1, (recsOf g x x.rg L).2.2, decide (footOk g L ∧ (ftOf L).salt = x.sq % 4294967296 ∧ (ftOf L).recs = ((recsOf g x x.rg L).1.length : Int) ∧ (ftOf L).used = lastU (fst0 g) (recsOf g x x.rg L).1)⟩ := rfl
 generalize hR : recsOf g x x.rg L = rs at *
 have hz3' := x3'.size
 let J : Nat → Heap → Prop := fun k hh => Lp .ready none hh ∧ h3'.size ≤ hh.size ∧ ∃ ra rcp, hh[sv]? = some (.cells (S0.cs ra k rcp).toArray 36 (0, 0)) ∧ hh[used]? = some (.cells #[.int .i64 (lastU (fst0 g) (rs.1.take k))] 3 (0, 0)) ∧ Sl eFo hh ra rcp (rs.1.take k) ∧ Own eFo.k tF h3'.size hh ra rcp
 refine ⟨J, ⟨stay _ _ _ _ hL19 (x3'.block l (by omega)), Nat.le_refl _, none, 0, (x17.trans (x1819.trans x3')).row rs14, (x1819.trans x3').row ru17, Sl.nil _ _, Own.nil _ _ _ _⟩, ?_, ?_, ?_⟩
 ·rintro k h4 h5 ⟨j1, j2, ra, rcp, j3, j4, j5, j6⟩ xx
  exact ⟨stay _ _ _ _ j1 (xx.block l (by omega)), Nat.le_trans j2 xx.size, ra, rcp, xx.row j3, xx.row j4, j5.ext xx, j6.ext xx⟩
 ·rintro k hk h20 f20 ⟨j1, j2, ra, rcp, j3, j4, j5, j6⟩
  refine hyld _ _ _ _ _ _ _ h20 _ j1 fun f h23 ef e23 => ?_
  have x23' : Ext h20 h23 := by rw [e23]; exact Ext.push _ _
  have rf23 : h23[f]? = some (.cells #[.int .i64 0, .int .i64 0, .int .i64 0, .int .i64 0, .int .u64 0, .string ByteArray.empty, .string ByteArray.empty] 45 (0, 0)) := by rw [e23]; exact push_new ef
  refine ⟨HWs_row rf23 (by simp), fun h24 e24 => ?_⟩
  have hmem := hfit _ (List.getElem_mem hk)
  generalize hfo : rs.1[k] = fo at *
  have x24 : Ext h20 h24 := ext_hsets e24 x23' (by omega)
  have rf24 : h24[f]? = some (.cells fo.cs.toArray 45 (0, 0)) := row_hsets_eq e24 rf23 (by simp [sets])
  have zs23 : h23.size = h20.size + 1 := by rw [e23]; simp
  have zs24 : h24.size = h23.size := by rw [e24, hsets_size]
  refine ⟨stay _ _ _ _ j1 (x24.block l (by omega)), fun h25 o25 l25 => ?_⟩
  have f25 := o25.fr
  have nsl : sv ≠ l := by omega
  have nul : used ≠ l := by omega
  have nfl : f ≠ l := by omega
  have rs25 := f25.row (x24.row j3) nsl
  have ru25 := f25.row (x24.row j4) nul
  have rf25 := f25.row rf24 nfl
  have nal : ∀ b, blkA ra b → ¬ b = l := fun b hb => by have := (j6.low hb).1; omega
  have s25 := (j5.ext x24).fr f25 nal
  have w25 := (j6.ext x24).fr f25 nal
  have zs25 := o25.size
  refine ⟨ra, k, rcp, (S9 rs25).2.2.2.2.2.1, fo.rg, fo.off, fo.sz, fo.rc.kind, fo.rc.ver, fo.rc.key, fo.rc.val, by rw [hcell_row rf25]; rfl, by rw [hcell_row rf25]; rfl, by rw [hcell_row rf25]; rfl, by rw [hcell_row rf25]; rfl, by rw [hcell_row rf25]; rfl, by rw [hcell_row rf25]; rfl, by rw [hcell_row rf25]; rfl, fun nb1 h26 enb1 e26 => ?_⟩
  have hkl : k = (rs.1.take k).length := by simp; omega
  refine app_1 (x := fo) aF enb1 e26 rfl s25 w25 hkl (by omega) (by omega) fun a' c' h27 f27 s27 w27 b27 => ⟨a', k + 1, c', rfl, ?_⟩
  have nas : ∀ {b}, b < h3'.size → ¬ blkA ra b := fun hb q => by have := (w25.low q).1; omega
  have rs27 := f27.row rs25 (nas (by omega))
  have ru27 := f27.row ru25 (nas (by omega))
  have hfz : f < h25.size := by omega
  have rf27 : h27[f]? = some (.cells fo.cs.toArray 45 (0, 0)) := f27.row rf25 fun q => by
   rcases q with ⟨z, ez, ezb⟩
   have hb5 := (j6.low ⟨z, ez, rfl⟩).2
   omega
  refine ⟨HW_row rs27 (by simp), fun h28 e28 => ?_⟩
  have nsa : ∀ {b}, b < h3'.size → ¬ blkA a' b := fun hb q => by have := (w27.low q).1; omega
  have rs28 : h28[sv]? = some (.cells (S0.cs a' (k + 1) c').toArray 36 (0, 0)) := row_hset_eq e28 rs27 (by simp)
  have f28 := fr_hset_of e28
  have rf28 := f28.row rf27 (show ¬ f = sv by omega)
  have ru28 := f28.row ru27 (show ¬ used = sv by omega)
  refine ⟨fo.off, by rw [hcell_row rf28]; rfl, fo.sz, by rw [hcell_row rf28]; rfl, HW_row ru28 (by simp), fun h29 e29 => ?_⟩
  have f29 := fr_hset_of e29
  have ru29 : h29[used]? = some (.cells #[.int .i64 (fo.off + fo.sz)] 3 (0, 0)) := row_hset_eq e29 ru28 (by rw [w64 (by omega) (by omega)]; simp)
  have rs29 := f29.row rs28 (show ¬ sv = used by omega)
  have hl25 : l < h25.size := by omega
  have k29 : Lp .busy none h29 := stay _ _ _ _ l25 (by
   have z27 := f27.size
   have z28 := f28.size
   rw [f29.block l (by omega) (show ¬ l = used by omega), f28.block l (by omega) (show ¬ l = sv by omega), f27.block l hl25 (nas (by omega))])
  refine ⟨k29, fun h30 o30 l30 => ?_⟩
  have f30 := o30.fr
  have z27 := f27.size
  have z28 := f28.size
  have z29 := f29.size
  have s30 := ((s27.fr f28 fun b hb q => nsa (by omega) hb).fr f29 fun b hb q => nsa (by omega) hb).fr f30 fun b hb q => nsa (by omega) hb
  have w30 := ((w27.fr f28 fun b hb q => nsa (by omega) hb).fr f29 fun b hb q => nsa (by omega) hb).fr f30 fun b hb q => nsa (by omega) hb
  have htk : rs.1.take (k + 1) = rs.1.take k ++ [fo] := by rw [List.take_add_one, List.getElem?_eq_getElem hk, hfo]; rfl
  refine ⟨?_, true, rfl, fun e => (by cases e), fun _ => ⟨l30, by have := f30.size; omega, a', c', f30.row rs29 (by omega), ?_, ?_, w30⟩⟩
  ·have q1 : ∀ b, b < h20.size → (b = sv ∨ b = used ∨ b = l ∨ blkA ra b) → Yt T h19 h3' b := fun b hb q => by
    rcases q with q | q | q | q
    ·exact .inl ⟨by omega, .inl q⟩
    ·exact .inl ⟨by omega, .inr (.inl q)⟩
    ·exact .inl ⟨by omega, .inr (.inr q)⟩
    ·exact .inr (j6.low q).1
   refine Fr.mono (S := fun b => b = sv ∨ b = used ∨ b = l ∨ blkA ra b) ?_ q1
   refine Fr.trans (S := fun b => b = sv ∨ b = used ∨ b = l ∨ blkA ra b) (x24.fr _) ?_ fun _ _ q => q
   refine Fr.trans (f25.mono fun i _ q => .inr (.inr (.inl q))) ?_ fun _ _ q => q
   refine Fr.trans (f27.mono fun i _ q => .inr (.inr (.inr q))) ?_ fun _ _ q => q
   refine Fr.trans (f28.mono fun i _ q => .inl q) ?_ fun _ _ q => q
   exact Fr.trans (f29.mono fun i _ q => .inr (.inl q)) (f30.mono fun i _ q => .inr (.inr (.inl q))) fun _ _ q => q
  ·rw [htk, lastU_snoc]; exact f30.row ru29 (by omega)
  ·rw [htk]; exact s30
 ·rintro h4 f4 ⟨j1, j2, ra, rcp, j3, j4, j5, j6⟩
  rw [List.take_length] at j4 j5
  refine ⟨HWs_row j3 (by simp), .ready, none, ?_, by decide, fun h22 o22 _ => ⟨rfl, ?_⟩⟩
  ·exact stay _ _ _ _ j1 (hsets_ne _ (by omega))
  have z4 := f4.size
  have sub : ∀ {b}, Yt T h19 h3' b → h10.size ≤ b := fun q => by
   rcases q with ⟨_, q | q | q⟩ | q <;> omega
  have F22 : Fr (fun b => b = sv ∨ b = used ∨ b = l ∨ h19.size ≤ b) h19 h22 := by
   refine Fr.trans (x3'.fr _) ?_ fun _ _ q => q
   refine Fr.trans (f4.mono fun i _ q => ?_) ?_ fun _ _ q => q
   ·rcases q with ⟨_, q⟩ | q
    ·rcases q with q | q | q
     ·exact .inl q
     ·exact .inr (.inl q)
     ·exact .inr (.inr (.inl q))
    ·exact .inr (.inr (.inr (by omega)))
   ·exact Fr.trans (fr_hsets _ fun _ => .inl rfl) (o22.fr.mono fun i _ q => .inr (.inr (.inl q))) fun _ _ q => q
  have x22 : Ext h10 h22 := by
   have := ((x14.trans (x17.trans x1819)).fr _).trans F22 fun _ _ q => q
   refine this.ext fun b hb q => ?_
   rcases q with q | q | q | q <;> omega
  have x2_22 := x10.trans x22
  have z22 := F22.size
  have rs22 : h22[sv]? = some (.cells (({ S0 with at_ := rs.2.1, why := rs.2.2 } : Su).cs ra rs.1.length rcp).toArray 36 (0, 0)) := o22.fr.row (row_hsets_eq rfl j3 (by simp [sets, S0])) (by omega)
  have ru22 : h22[used]? = some (.cells #[.int .i64 (lastU (fst0 g) rs.1)] 3 (0, 0)) := o22.fr.row (row_hsets_ne rfl (by omega) j4) (by omega)
  have nas : ∀ {b}, b < h3'.size → ∀ q, blkA ra q → ¬ q = b := fun hb q hq => by have := (j6.low hq).1; omega
  have s22 : Sl eFo h22 ra rcp rs.1 := (j5.fr (fr_hsets (fun b => b = sv) fun _ => rfl) (nas (by omega))).fr o22.fr (nas (by omega))
  have w22 : Own eFo.k tF h3'.size h22 ra rcp := (j6.fr (fr_hsets (fun b => b = sv) fun _ => rfl) (nas (by omega))).fr o22.fr (nas (by omega))
  obtain ⟨q1, q2, q3, q4⟩ := G4' (x2_22.row rg2)
  refine ⟨_, _, _, _, q1, q2, q3, q4, (foot_m g (s.ext (x2.trans x2_22)) hb hl).mono ?_⟩
  rintro _ h31 ⟨rfl, x31⟩
  have hfv : ∃ (f : Ft) (e : Int), footV g L = .tuple #[f.v, .int .i64 e] ∧ ((e = 0 ∧ footOk g L ∧ f = ftOf L) ∨ (e = 51 ∧ ¬ footOk g L)) := by
   unfold footV; rw [if_neg hn]
   by_cases hfo : footOk g L
   ·rw [if_pos hfo]; exact ⟨_, _, rfl, .inl ⟨rfl, hfo, rfl⟩⟩
   ·rw [if_neg hfo]; exact ⟨_, _, rfl, .inr ⟨rfl, hfo⟩⟩
  obtain ⟨ff, fe, hfv, hfc⟩ := hfv
  refine ⟨x31, ff.recs, ff.used, ff.salt, ff.sum, fe, hfv, fun f1 h32 ef1 e32 => ?_⟩
  have x32 : Ext h31 h32 := by rw [e32]; exact Ext.push _ _
  have rf32 : h32[f1]? = some (.cells #[.int .i64 0, .int .i64 0, .int .u32 0, .int .u32 0] 88 (0, 0)) := by rw [e32]; exact push_new ef1
  refine ⟨HWs_row rf32 (by simp), fun h33 e33 => ?_⟩
  have rf33 : h33[f1]? = some (.cells #[.int .i64 ff.recs, .int .i64 ff.used, .int .u32 ff.salt, .int .u32 ff.sum] 88 (0, 0)) := row_hsets_eq e33 rf32 (by simp [sets])
  have z31 := x31.size
  have x33 : Ext h22 h33 := ext_hsets e33 (x31.trans x32) (by omega)
  have rs33 := x33.row rs22
  have ru33 := x33.row ru22
  let ans : Bool := decide (footOk g L ∧ (ftOf L).salt = x.sq % 4294967296 ∧ (ftOf L).recs = (rs.1.length : Int) ∧ (ftOf L).used = lastU (fst0 g) rs.1)
  have hw33 : HW h33 sv 8 := HW_row rs33 (by simp)
  have hsq : 0 ≤ x.sq ∧ x.sq < 18446744073709551616 := by
   obtain ⟨_, _, rfl⟩ := headD_some hx
   exact le_u64 (isB_take (isB_drop hb 16) 8) (by simp; omega)
  refine ⟨fun h34 => h34 = hset h33 sv 8 (.bool ans), ⟨fun e3 => ?_, fun e3 => ?_⟩, ?_⟩
  ·have : fe = 0 := by simpa using e3
   have hff : footOk g L ∧ ff = ftOf L := by
    rcases hfc with q | q
    ·exact q.2
    ·omega
   obtain ⟨hfo, rfl⟩ := hff
   refine ⟨_, by rw [hcell_row rf33]; rfl, x.sq, by rw [hcell_row ((x22.trans x33).row rv10)]; rfl, x.sq % 4294967296, fun h38 _ => salt_m _ hsq h38, fun e4 => ?_, fun e4 => ⟨hw33, fun h37 e37 => ?_⟩⟩
   ·have h4 := eq_of_beq e4
    refine ⟨_, by rw [hcell_row rf33]; rfl, ra, _, rcp, (S9 rs33).2.2.2.2.2.1, fun e5 => ?_, fun e5 => ⟨hw33, fun h36 e36 => ?_⟩⟩
    ·have h5 := eq_of_beq e5
     refine ⟨_, by rw [hcell_row rf33]; rfl, _, by rw [hcell_row ru33]; rfl, hw33, fun h35 e35 => ?_⟩
     rw [e35]; congr 2
     rw [Bool.eq_iff_iff]; simp [ans, hfo, h4, h5]
    ·have h5 : ¬ (ftOf L).recs = (rs.1.length : Int) := by simpa using e5
     rw [e36]; simp [ans, h5]
   ·have h4 : ¬ (ftOf L).salt = x.sq % 4294967296 := by simpa using e4
    rw [e37]; simp [ans, h4]
  ·refine ⟨hw33, fun h39 e39 => ?_⟩
   have : ¬ fe = 0 := by simpa using e3
   have hff : ¬ footOk g L := by
    rcases hfc with q | q
    ·omega
    ·exact q.2
   rw [e39]; simp [ans, hff]
  ·rintro h34 e34
   have rs34 : h34[sv]? = some (.cells ((surGo g rg x L).cs ra rs.1.length rcp).toArray 36 (0, 0)) := row_hset_eq e34 rs33 (by rw [sur]; simp [S0, ans])
   have f34 := fr_hset_of e34
   have rn34 := f34.row (x33.row (x2_22.row rn2)) (show ¬ nb = sv by omega)
   obtain ⟨w0, w1, w2, w3, w4, w5, w6, w7, w8⟩ := S9 rs34
   refine ⟨_, _, _, _, _, _, _, _, _, _, _, w0, w1, w2, w3, w4, w5, w6, w7, w8, HWs_row rn34 (by simp), fun h40 e40 => ?_⟩
   have rn40 : h40[nb]? = some (.cells ((surGo g rg x L).cs ra rs.1.length rcp).toArray 36 (0, 0)) := row_hsets_eq e40 rn34 (by simp [sets])
   obtain ⟨w0, w1, w2, w3, w4, w5, w6, w7, w8⟩ := S9 rn40
   refine ⟨_, _, _, _, _, _, _, _, _, _, _, w0, w1, w2, w3, w4, w5, w6, w7, w8, fun h41 s41 => ?_⟩
   have f40 := fr_hsets_of e40
   have hrecs : (surGo g rg x L).recs = rs.1 := by rw [sur]
   have s34 := ((s22.ext x33).fr f34 (nas (by omega))).fr f40 (nas (by omega))
   have w34 := ((w22.ext x33).fr f34 (nas (by omega))).fr f40 (nas (by omega))
   refine ⟨ra, rcp, by simp only [hrecs], ?_, by rw [hrecs]; exact sl_shut s34 s41, (own_shut w34 s41).down (by omega)⟩
   have x34 : Ext h h34 := ext_hset e34 (x2.trans (x2_22.trans x33)) (by omega)
   exact ext_shut (ext_hsets e40 x34 (by omega)) s41
end
end Sc
end Go.Proofs.YthjehlocmikchaaDoor
namespace Go.Proofs.YthjehlocmikchaaDoor
namespace Sc
open Go
theorem le_leb : ∀ (k : Nat) (n : Int), 0 ≤ n → n < 256 ^ k → le (leb k n) = n
 | 0, n, h0, h1 => by simp at h1; simp [leb, le]; omega
 | k + 1, n, h0, h1 => by
  rw [Int.pow_succ] at h1
  simp only [leb, le]
  rw [le_leb k (n / 256) (by omega) (by omega)]
  omega
theorem drop_len {α : Type} {P Q : List α} {n : Nat} (h : P.length = n) : (P ++ Q).drop n = Q := by rw [← h, List.drop_left]
theorem take_len {α : Type} {P Q : List α} {n : Nat} (h : P.length = n) : (P ++ Q).take n = P := by rw [← h, List.take_left]
theorem toL_ofL_take (b : ByteArray) (Q : List Int) : ofL ((toL b ++ Q).take b.size) = b := by rw [take_len (toL_len b), ofL_toL]
theorem rc_back {g : Geo} {salt : Int} {r : Rc} {Q : List Int} (he : encE g r = 0) (hv : 0 ≤ r.ver ∧ r.ver < 18446744073709551616) :
  recOk g salt (encR salt r ++ Q) ∧ rcOf (encR salt r ++ Q) = r ∧ szR (encR salt r ++ Q) = (encR salt r).length := by
 have hk : kindOk r := by
  unfold encE at he
  split at he
  ·cases he
  ·split at he
   ·cases he
   ·rename_i q; exact Decidable.not_not.1 q
 have hz : szE g r.key.size r.val.size = 0 := by
  unfold encE at he
  split at he
  ·cases he
  ·first
    | exact he
    | (rw [if_neg (not_not_intro hk)] at he; exact he)
 obtain ⟨hg, k1, k2, v1, v2, v3⟩ := sz_bounds hz
 have e2 : ((encR salt r ++ Q).drop 2).take 2 = leb 2 r.key.size := rfl
 have e4 : ((encR salt r ++ Q).drop 4).take 4 = leb 4 r.val.size := rfl
 have e8 : ((encR salt r ++ Q).drop 8).take 8 = leb 8 r.ver := rfl
 have e24 : (encR salt r ++ Q).drop 24 = toL r.key ++ (toL r.val ++ Q) := by
  rw [← List.append_assoc]; rfl
 have hkL : kL (encR salt r ++ Q) = r.key.size := by unfold kL; rw [e2, le_leb _ _ (by omega) (by omega)]; omega
 have hvL : vL (encR salt r ++ Q) = r.val.size := by unfold vL; rw [e4, le_leb _ _ (by omega) (by omega)]; omega
 have hsz : szR (encR salt r ++ Q) = (encR salt r).length := by unfold szR; rw [hkL, hvL, encR_len]
 have hrc : rcOf (encR salt r ++ Q) = r := by
  unfold rcOf
  rw [hkL, hvL, e8, le_leb _ _ hv.1 (by omega), e24, toL_ofL_take, ← List.drop_drop, e24, drop_len (toL_len r.key), toL_ofL_take]
  rfl
 refine ⟨⟨⟨?_, ?_⟩, ?_, ?_⟩, hrc, hsz⟩
 ·rw [List.length_append, encR_len]; omega
 ·rw [hsz, List.length_append]; omega
 ·rw [hrc]; exact he
 ·rw [hrc, hsz, List.take_left]
theorem hd_back {g : Geo} {x : Hd} {Q : List Int} (hg : Gok g) (ok : hdOk g x) (he : 0 ≤ x.ep ∧ x.ep < 18446744073709551616) (hq : 0 ≤ x.sq ∧ x.sq < 18446744073709551616) : headD g (encH g x ++ Q) = some x := by
 have hr := ok
 have hg3 := hg.2.2.1
 have e1 : hdOf (encH g x ++ Q) = x := by
  have h8 : ((encH g x ++ Q).drop 8).take 8 = leb 8 x.ep := rfl
  have h16 : ((encH g x ++ Q).drop 16).take 8 = leb 8 x.sq := rfl
  have h24 : ((encH g x ++ Q).drop 24).take 4 = leb 4 x.rg := rfl
  unfold hdOf
  rw [h8, h16, h24, le_leb _ _ he.1 (by omega), le_leb _ _ hq.1 (by omega), le_leb _ _ ok.1 (by have := ok.2.1; omega)]
 unfold headD
 rw [e1, if_pos ⟨hg, by rw [List.length_append, encH_len]; omega, ok, by rw [take_len (encH_len g x)]⟩]
theorem goOn_fuel {g : Geo} (hg : Gok g) {salt rg : Int} {L : List Int} : ∀ (n m : Nat) (p : Int), 0 ≤ p → (L.length : Int) ≤ n + p → (L.length : Int) ≤ m + p → goOn g salt rg L n p = goOn g salt rg L m p
 | 0, m, p, h0, h1, _ => by rw [goOn_far (n := m) (by omega), goOn_far (by omega)]
 | n + 1, 0, p, h0, _, h2 => by rw [goOn_far (n := n + 1) (by omega), goOn_far (by omega)]
 | n + 1, m + 1, p, h0, h1, h2 => by
  have b := ok_bounds hg
  unfold goOn
  split
  ·rfl
  ·split
   ·have m1 := Int.emod_add_mul_ediv p g.page
    have m3 := Int.emod_lt_of_pos p (show 0 < g.page by omega)
    have e5 : (p / g.page + 1) * g.page = g.page * (p / g.page) + g.page := by rw [Int.add_mul, Int.one_mul, Int.mul_comm]
    exact goOn_fuel hg n m _ (by omega) (by omega) (by omega)
   ·split
    ·rfl
    ·split
     ·have up := upTo_ge (n := p + (szR (L.drop p.toNat) : Int)) (al := g.al) (by omega)
      have hz2 : (24 : Nat) ≤ szR (L.drop p.toNat) := by unfold szR; omega
      simp only
      rw [goOn_fuel hg n m _ (by omega) (by omega) (by omega)]
     ·rfl
structure LS where
 P : List Int
 at_ : Int
 out : List Fo
def nxt (g : Geo) (e : Int) (gap : Bool) : Int := if gap then upTo (upTo e g.al) g.page else upTo e g.al
def lays (g : Geo) (salt : Int) (s : LS) (r : Rc) : Prop := encE g r = 0 ∧ ((encR salt r).length : Int) ≤ g.sz - 24 - s.at_
instance (g : Geo) (salt : Int) (s : LS) (r : Rc) : Decidable (lays g salt s r) := by unfold lays; infer_instance
def layOne (g : Geo) (salt rg : Int) (s : LS) (r : Rc) (gap : Bool) : LS :=
 if lays g salt s r then
  ⟨s.P ++ encR salt r ++ List.replicate (min (nxt g (s.at_ + (encR salt r).length) gap) (g.sz - 24) - (s.at_ + (encR salt r).length)).toNat 0, nxt g (s.at_ + (encR salt r).length) gap, s.out ++ [⟨rg, s.at_, (encR salt r).length, r⟩]⟩
 else s
def lay0 (g : Geo) (x : Hd) : LS := ⟨encH g x ++ List.replicate (fst0 g - 32).toNat 0, fst0 g, []⟩
def layTo (g : Geo) (x : Hd) (rs : List Rc) (gaps : List Bool) : Nat → LS
 | 0 => lay0 g x
 | k + 1 => match rs[k]? with
  | some r => layOne g (x.sq % 4294967296) x.rg (layTo g x rs gaps k) r (gaps.getD k false)
  | none => layTo g x rs gaps k
def layImg (g : Geo) (P : List Int) : List Int := P ++ List.replicate (g.sz - P.length).toNat 255
structure Laid (g : Geo) (x : Hd) (s : LS) (q : Bool) : Prop where
 head : ∃ Q, s.P = encH g x ++ Q
 byte : isB s.P
 len : (s.P.length : Int) = min s.at_ (g.sz - 24)
 lo : fst0 g ≤ s.at_
 hi : s.at_ ≤ g.sz + 8192
 walk : ∀ Y : List Int, ((s.P ++ Y).length : Int) = g.sz → (goOn g (x.sq % 4294967296) x.rg (s.P ++ Y) (s.P ++ Y).length (fst0 g)).1 = s.out ++ (goOn g (x.sq % 4294967296) x.rg (s.P ++ Y) (s.P ++ Y).length s.at_).1 ∧
  (goOn g (x.sq % 4294967296) x.rg (s.P ++ Y) (s.P ++ Y).length (fst0 g)).2.2 = (goOn g (x.sq % 4294967296) x.rg (s.P ++ Y) (s.P ++ Y).length s.at_).2.2 ∧
  (q = true → (goOn g (x.sq % 4294967296) x.rg (s.P ++ Y) (s.P ++ Y).length (fst0 g)).2.1 = (goOn g (x.sq % 4294967296) x.rg (s.P ++ Y) (s.P ++ Y).length s.at_).2.1)
theorem isB_rep (n : Nat) (b : Int) (h : 0 ≤ b ∧ b < 256) : isB (List.replicate n b) := fun x hx => by rw [(List.mem_replicate.1 hx).2]; exact h
theorem laid0 {g : Geo} {x : Hd} (hg : Gok g) : Laid g x (lay0 g x) true := by
 have b := ok_bounds hg
 have fb := fst_bounds hg
 refine ⟨⟨_, rfl⟩, isB_app (encH_isB hg x) (isB_rep _ _ ⟨by decide, by decide⟩), ?_, Int.le_refl _, ?_, fun Y _ => ⟨rfl, rfl, fun _ => rfl⟩⟩
 ·show ((encH g x ++ List.replicate (fst0 g - 32).toNat 0).length : Int) = min (fst0 g) (g.sz - 24)
  rw [List.length_append, encH_len, List.length_replicate]; omega
 ·show fst0 g ≤ g.sz + 8192
  omega
theorem page_up {p u : Int} (hp : 1 ≤ p) (hu : 0 ≤ u) : upTo u p = u ∨ (u < upTo u p ∧ upTo u p = (u / p + 1) * p) := by
 have up := upTo_ge (n := u) (al := p) hp
 have m1 := Int.emod_add_mul_ediv u p
 have m2 := Int.emod_nonneg u (show p ≠ 0 by omega)
 have m3 := Int.emod_lt_of_pos u (show 0 < p by omega)
 have e5 : (u / p + 1) * p = p * (u / p) + p := by rw [Int.add_mul, Int.one_mul, Int.mul_comm]
 by_cases h : u % p = 0
 ·left; exact (upTo_first hp (Int.le_refl _) up.1 h).symm
 ·right
  have e6 : ((u / p + 1) * p) % p = 0 := Int.mul_emod_left _ _
  have e7 : upTo u p = (u / p + 1) * p := by
   refine (upTo_first hp (by omega) ?_ e6).symm
   rcases Int.lt_or_le (upTo u p) ((u / p + 1) * p) with q | q
   ·exfalso
    obtain ⟨z, hz⟩ := Int.dvd_of_emod_eq_zero up.2.2
    rw [hz] at q up
    have : p * z < p * (u / p + 1) := by rw [Int.mul_comm p (u / p + 1)]; exact q
    have h9 := Int.lt_of_mul_lt_mul_left this (by omega)
    have : p * z ≤ p * (u / p) := Int.mul_le_mul_of_nonneg_left (by omega) (by omega)
    have : p * z = u := by omega
    rw [← this] at h
    exact h (Int.mul_emod_right _ _)
   ·exact q
  exact ⟨by omega, e7⟩
theorem getD_mid {P Q : List Int} {k : Nat} (h : P.length ≤ k) : (P ++ Q).getD k 0 = Q.getD (k - P.length) 0 := by
 rw [List.getD_eq_getElem?_getD, List.getElem?_append_right h, ← List.getD_eq_getElem?_getD]
theorem laidOne {g : Geo} {x : Hd} {s : LS} {q : Bool} {r : Rc} {gap : Bool} (hg : Gok g) (I : Laid g x s q) (hv : 0 ≤ r.ver ∧ r.ver < 18446744073709551616) : Laid g x (layOne g (x.sq % 4294967296) x.rg s r gap) (q && !gap) := by
 have b := ok_bounds hg
 have fb := fst_bounds hg
 unfold layOne
 split
 rotate_left
 ·exact ⟨I.head, I.byte, I.len, I.lo, I.hi, fun Y hY => ⟨(I.walk Y hY).1, (I.walk Y hY).2.1, fun h => (I.walk Y hY).2.2 (by simp at h; exact h.1)⟩⟩
 rename_i hl
 obtain ⟨he, hn⟩ := hl
 have hk : kindOk r := by
  unfold encE at he
  split at he
  ·cases he
  ·split at he
   ·cases he
   ·rename_i q; exact Decidable.not_not.1 q
 generalize hsalt : x.sq % 4294967296 = salt at *
 generalize hE : (encR salt r).length = n at *
 have hn24 : 24 ≤ n := by rw [← hE, encR_len]; omega
 have hlen : (s.P.length : Int) = s.at_ := by rw [I.len]; omega
 have up := upTo_ge (n := s.at_ + n) (al := g.al) (by omega)
 have up2 := upTo_ge (n := upTo (s.at_ + n) g.al) (al := g.page) (by omega)
 have hnx : s.at_ + n ≤ nxt g (s.at_ + n) gap ∧ nxt g (s.at_ + n) gap < g.sz + 8192 := by unfold nxt; split <;> omega
 refine ⟨?_, ?_, ?_, ?_, ?_, ?_⟩
 ·obtain ⟨Q, hQ⟩ := I.head
  exact ⟨_, by show s.P ++ _ ++ _ = _; rw [hQ, List.append_assoc, List.append_assoc]⟩
 ·exact isB_app (isB_app I.byte (encR_isB hk)) (isB_rep _ _ ⟨by decide, by decide⟩)
 ·show ((s.P ++ _ ++ List.replicate _ _).length : Int) = min (nxt g (s.at_ + n) gap) (g.sz - 24)
  rw [List.length_append, List.length_append, hE, List.length_replicate]; omega
 ·show fst0 g ≤ nxt g (s.at_ + n) gap
  have := I.lo; omega
 ·show nxt g (s.at_ + n) gap ≤ g.sz + 8192
  omega
 ·rw [hsalt]
  intro Y hY
  have hlo := I.lo
  generalize hz : (min (nxt g (s.at_ + n) gap) (g.sz - 24) - (s.at_ + n)).toNat = z at *
  simp only at hY ⊢
  have eX : s.P ++ encR salt r ++ List.replicate z 0 ++ Y = s.P ++ (encR salt r ++ (List.replicate z 0 ++ Y)) := by simp only [List.append_assoc]
  have hW := I.walk (encR salt r ++ (List.replicate z 0 ++ Y)) (by rw [← eX]; exact hY)
  rw [← eX] at hW
  rw [hsalt] at hW
  have eD : (s.P ++ encR salt r ++ List.replicate z 0 ++ Y).drop s.at_.toNat = encR salt r ++ (List.replicate z 0 ++ Y) := by
   rw [eX]; exact drop_len (by omega)
  obtain ⟨k1, k2, k3⟩ := rc_back (Q := List.replicate z 0 ++ Y) (salt := salt) he hv
  have eK : (s.P ++ encR salt r ++ List.replicate z 0 ++ Y).getD s.at_.toNat 0 = r.kind := by
   rw [eX, getD_mid (by omega), show s.at_.toNat - s.P.length = 0 by omega]; rfl
  have hu : ∀ (k : Nat), s.P.length + n ≤ k → k < s.P.length + n + z → (s.P ++ encR salt r ++ List.replicate z 0 ++ Y).getD k 0 = 0 := fun k a1 a2 => by
   rw [List.append_assoc, getD_mid (by rw [List.length_append, hE]; omega), List.getD_eq_getElem?_getD, List.getElem?_append_left (by rw [List.length_append, hE, List.length_replicate]; omega), List.getElem?_replicate]
   split <;> rfl
  generalize (s.P ++ encR salt r ++ List.replicate z 0 ++ Y) = X at *
  have hF : X.length = X.length - 1 + 1 := by omega
  have hstep : goOn g salt x.rg X X.length s.at_ = (⟨x.rg, s.at_, n, r⟩ :: (goOn g salt x.rg X X.length (upTo (s.at_ + n) g.al)).1, (goOn g salt x.rg X X.length (upTo (s.at_ + n) g.al)).2) := by
   have h1 : ¬ s.at_ > X.length - 48 := by omega
   have h2 : ¬ X.getD s.at_.toNat 0 = 0 := by rw [eK]; rcases hk with q | q <;> omega
   have h3 : ¬ X.getD s.at_.toNat 0 = 255 := by rw [eK]; rcases hk with q | q <;> omega
   conv => lhs; rw [hF]
   rw [goOn, if_neg h1, if_neg h2, if_neg h3, if_pos (by rw [eD]; exact k1), eD, k2, k3, hE]
   simp only
   rw [goOn_fuel hg (X.length - 1) X.length _ (by omega) (by omega) (by omega)]
  rw [hstep] at hW
  simp only at hW
  have hgap : (goOn g salt x.rg X X.length (upTo (s.at_ + n) g.al)).1 = (goOn g salt x.rg X X.length (nxt g (s.at_ + n) gap)).1 ∧ (goOn g salt x.rg X X.length (upTo (s.at_ + n) g.al)).2.2 = (goOn g salt x.rg X X.length (nxt g (s.at_ + n) gap)).2.2 ∧ (gap = false → (goOn g salt x.rg X X.length (upTo (s.at_ + n) g.al)).2.1 = (goOn g salt x.rg X X.length (nxt g (s.at_ + n) gap)).2.1) := by
   cases gap with
   | false => exact ⟨rfl, rfl, fun _ => rfl⟩
   | true =>
    unfold nxt at hz ⊢
    rw [if_pos rfl] at hz ⊢
    rcases page_up (p := g.page) (u := upTo (s.at_ + n) g.al) (by omega) (by omega) with e | ⟨e1, e2⟩
    ·rw [e]; exact ⟨rfl, rfl, fun _ => rfl⟩
    ·by_cases hfar : upTo (s.at_ + n) g.al > X.length - 48
     ·rw [goOn_far hfar, goOn_far (by omega)]
      exact ⟨rfl, rfl, fun e => by cases e⟩
     ·have h0 : X.getD (upTo (s.at_ + n) g.al).toNat 0 = 0 := hu _ (by omega) (by omega)
      have : goOn g salt x.rg X X.length (upTo (s.at_ + n) g.al) = goOn g salt x.rg X X.length (upTo (upTo (s.at_ + n) g.al) g.page) := by
       conv => lhs; rw [hF]
       rw [goOn, if_neg hfar, if_pos h0, ← e2]
       exact goOn_fuel hg _ _ _ (by omega) (by omega) (by omega)
      rw [this]; exact ⟨rfl, rfl, fun e => by cases e⟩
  refine ⟨?_, hW.2.1.trans hgap.2.1, fun h => ?_⟩
  ·rw [hW.1, hgap.1, List.append_assoc]; rfl
  ·simp only [Bool.and_eq_true, Bool.not_eq_true'] at h
   exact (hW.2.2 h.1).trans (hgap.2.2 h.2)
theorem laidTo {g : Geo} {x : Hd} {rs : List Rc} {gaps : List Bool} (hg : Gok g) (hv : ∀ r ∈ rs, 0 ≤ r.ver ∧ r.ver < 18446744073709551616) : ∀ k, ∃ q, Laid g x (layTo g x rs gaps k) q ∧ (gaps = [] → q = true)
 | 0 => ⟨true, laid0 hg, fun _ => rfl⟩
 | k + 1 => by
  obtain ⟨q, I, hq⟩ := laidTo (gaps := gaps) hg hv k
  unfold layTo
  cases hr : rs[k]? with
  | none => exact ⟨q, I, hq⟩
  | some r => exact ⟨_, laidOne hg I (hv r (List.mem_of_getElem? hr)), fun e => by rw [hq e, e]; rfl⟩
theorem img_len {g : Geo} {P : List Int} (h : (P.length : Int) ≤ g.sz) : ((layImg g P).length : Int) = g.sz := by
 unfold layImg; rw [List.length_append, List.length_replicate]; omega
theorem law_back {g : Geo} {x : Hd} {s : LS} {q : Bool} (hg : Gok g) (I : Laid g x s q) (ok : hdOk g x) (he : 0 ≤ x.ep ∧ x.ep < 18446744073709551616) (hq : 0 ≤ x.sq ∧ x.sq < 18446744073709551616) :
  ∃ S, surOf g x.rg (layImg g s.P) = (S, 0) ∧ S.has = true ∧ S.ep = x.ep ∧ S.sq = x.sq ∧ S.hr = x.rg ∧ S.recs = s.out ∧ (S.why = 2 ∨ S.why = 4) ∧ (q = true → s.at_ ≤ g.sz - 48 → S.at_ = s.at_ ∧ S.why = 2) := by
 have b := ok_bounds hg
 have fb := fst_bounds hg
 have hPl := I.len
 have hlen := img_len (g := g) (P := s.P) (by omega)
 obtain ⟨Q, hQ⟩ := I.head
 have hhd : headD g (layImg g s.P) = some x := by
  unfold layImg; rw [hQ, List.append_assoc]; exact hd_back hg ok he hq
 refine ⟨surGo g x.rg x (layImg g s.P), ?_, rfl, rfl, rfl, rfl, ?_⟩
 ·unfold surOf
  rw [if_neg (not_not_intro hg), if_neg (by have := ok.1; have := ok.2.1; omega), hhd]
  simp only
  rw [if_neg (by simp)]
 ·have hW := I.walk (List.replicate (g.sz - s.P.length).toNat 255) hlen
  change (goOn g _ x.rg (layImg g s.P) (layImg g s.P).length (fst0 g)).1 = s.out ++ (goOn g _ x.rg (layImg g s.P) (layImg g s.P).length s.at_).1 ∧ (goOn g _ x.rg (layImg g s.P) (layImg g s.P).length (fst0 g)).2.2 = (goOn g _ x.rg (layImg g s.P) (layImg g s.P).length s.at_).2.2 ∧ (q = true → (goOn g _ x.rg (layImg g s.P) (layImg g s.P).length (fst0 g)).2.1 = (goOn g _ x.rg (layImg g s.P) (layImg g s.P).length s.at_).2.1) at hW
  show (goOn g _ x.rg (layImg g s.P) (layImg g s.P).length (fst0 g)).1 = _ ∧ ((goOn g _ x.rg (layImg g s.P) (layImg g s.P).length (fst0 g)).2.2 = 2 ∨ (goOn g _ x.rg (layImg g s.P) (layImg g s.P).length (fst0 g)).2.2 = 4) ∧ (_ → _ → (goOn g _ x.rg (layImg g s.P) (layImg g s.P).length (fst0 g)).2.1 = _ ∧ (goOn g _ x.rg (layImg g s.P) (layImg g s.P).length (fst0 g)).2.2 = _)
  rw [hW.1, hW.2.1]
  have hlo := I.lo
  by_cases hfar : s.at_ > (layImg g s.P).length - 48
  ·rw [goOn_far hfar] at hW ⊢
   exact ⟨by simp, .inr rfl, fun _ h => by omega⟩
  ·have h255 : (layImg g s.P).getD s.at_.toNat 0 = 255 := by
    unfold layImg
    rw [getD_mid (by omega), List.getD_eq_getElem?_getD, List.getElem?_replicate, if_pos (by omega)]; rfl
   have e : goOn g (x.sq % 4294967296) x.rg (layImg g s.P) (layImg g s.P).length s.at_ = ([], s.at_, 2) := by
    rw [show (layImg g s.P).length = (layImg g s.P).length - 1 + 1 by omega, goOn]
    rw [if_neg hfar, if_neg (by rw [h255]; decide), if_pos h255]
   rw [e] at hW ⊢
   exact ⟨by simp, .inl rfl, fun h _ => ⟨hW.2.2 h, rfl⟩⟩
end Sc
end Go.Proofs.YthjehlocmikchaaDoor
namespace Go.Proofs.YthjehlocmikchaaDoor
namespace Sc
open Go
def eRc : Elt Rc := ⟨4, fun r => [.int .i64 r.kind, .int .u64 r.ver, .string r.key, .string r.val], fun _ => rfl, fun r v hv => by simp at hv; rcases hv with rfl | rfl | rfl | rfl <;> rfl⟩
abbrev bts (X : List Int) : List Value := X.map (Value.int .u8)
def Im (nb : Nat) (h : Heap) (X : List Int) : Prop := h[nb]? = some (.cells (bts X).toArray 5 (0, 0))
theorem wadd2 (n : Nat) (hn : n < 9223372036854775807) : IntKind.i64.wrap ((n : Int) + 1) = ((n + 1 : Nat) : Int) := by rw [w64 (by omega) (by omega)]; omega
section
variable {h h' : Heap} {nb : Nat} {X : List Int}
theorem Im.w (m : Im nb h X) {i : Nat} (hi : i < X.length) : HW h nb i := HW_row m (by simpa using hi)
theorem Im.ws (m : Im nb h X) {i n : Nat} (hi : i + n ≤ X.length) : HWs h nb i n := HWs_row m (by simpa using hi)
theorem Im.set (m : Im nb h X) {i : Nat} {v : Int} (e : h' = hset h nb i (.int .u8 v)) : Im nb h' (X.set i v) :=
 row_hset_eq e m (by simp [bts, List.map_set])
theorem sets_list (vs : List Value) : ∀ (A B C : List Value), B.length = vs.length → sets (A ++ B ++ C).toArray A.length vs = (A ++ vs ++ C).toArray := fun A B C h => by
 apply Array.ext_getElem?
 intro j
 rw [sets_get _ _ _ _ (by simp; omega)]
 simp only [List.getElem?_toArray]
 by_cases h1 : j < A.length
 ·rw [if_neg (by omega), List.append_assoc, List.append_assoc, List.getElem?_append_left h1, List.getElem?_append_left h1]
 ·by_cases h2 : j < A.length + vs.length
  ·rw [if_pos (by omega), List.append_assoc, List.getElem?_append_right (by omega), List.getElem?_append_left (by omega)]
  ·rw [if_neg (by omega), List.append_assoc, List.append_assoc, List.getElem?_append_right (by omega), List.getElem?_append_right (by omega), List.getElem?_append_right (by omega), List.getElem?_append_right (by omega), h]
theorem Im.sets {A B C V : List Int} (m : Im nb h (A ++ B ++ C)) (hl : B.length = V.length) {o : Nat} (ho : o = A.length) (e : h' = hsets h nb o (bts V)) : Im nb h' (A ++ V ++ C) := by
 subst ho
 refine row_hsets_eq e m ?_
 have := sets_list (bts V) (bts A) (bts B) (bts C) (by simpa using hl)
 simp only [bts, List.length_map, ← List.map_append] at this
 simpa [bts] using this
theorem Im.sl (m : Im nb h X) {c : Nat} (hc : X.length ≤ c) : Sl eB h (some ⟨nb, 0, none⟩) c X := by
 refine Sl.of_row m hc fun j v hv => ?_
 rw [flatB] at hv
 rw [Nat.zero_add, List.getElem?_toArray]; exact hv
theorem Im.fr {S : Nat → Prop} (m : Im nb h X) (f : Fr S h h') (hn : ¬ S nb) : Im nb h' X := f.row m hn
end
theorem img_push {g : Geo} {P : List Int} {v : Int} (h : (P.length : Int) < g.sz) : (layImg g P).set P.length v = layImg g (P ++ [v]) := by
 unfold layImg
 rw [List.set_append_right _ _ (Nat.le_refl _), Nat.sub_self, List.length_append, List.length_singleton]
 have e : (g.sz - (P.length : Int)).toNat = (g.sz - ((P.length + 1 : Nat) : Int)).toNat + 1 := by omega
 rw [e, List.replicate_succ, List.set_cons_zero, List.append_assoc]; rfl
theorem img_split {g : Geo} {P : List Int} {n : Nat} (h : (P.length : Int) + n ≤ g.sz) : layImg g P = P ++ List.replicate n 255 ++ List.replicate (g.sz - ((P.length + n : Nat) : Int)).toNat 255 := by
 unfold layImg
 rw [List.append_assoc, List.replicate_append_replicate]; congr 2; omega
theorem img_join {g : Geo} {P A : List Int} : P ++ A ++ List.replicate (g.sz - ((P.length + A.length : Nat) : Int)).toNat 255 = layImg g (P ++ A) := by
 unfold layImg; rw [List.length_append]
theorem img_nil {g : Geo} {n : Nat} (h : (n : Int) = g.sz) : List.replicate n 255 = layImg g [] := by
 unfold layImg; rw [List.nil_append]; congr 1; simp; omega
theorem lay_out (g : Geo) (hg : Gok g) (x : Hd) (rs : List Rc) (gaps : List Bool) (hv : ∀ r ∈ rs, 0 ≤ r.ver ∧ r.ver < 18446744073709551616) : ∀ k, ((layTo g x rs gaps k).out.length : Int) ≤ (layTo g x rs gaps k).at_
 | 0 => by have := fst_bounds hg; show (0 : Int) ≤ fst0 g; omega
 | k + 1 => by
  have ih := lay_out g hg x rs gaps hv k
  obtain ⟨q, I, _⟩ := laidTo (x := x) (gaps := gaps) hg hv k
  have := I.lo
  have fb := fst_bounds hg
  have b := ok_bounds hg
  unfold layTo
  cases rs[k]? with
  | none => exact ih
  | some r =>
   simp only
   unfold layOne
   split
   ·have e24 : 24 ≤ (encR (x.sq % 4294967296) r).length := by rw [encR_len]; omega
    generalize (encR (x.sq % 4294967296) r).length = n at *
    simp only [List.length_append, List.length_singleton]
    have up := upTo_ge (n := (layTo g x rs gaps k).at_ + n) (al := g.al) (by omega)
    have up2 := upTo_ge (n := upTo ((layTo g x rs gaps k).at_ + n) g.al) (al := g.page) (by omega)
    unfold nxt; split <;> omega
   ·exact ih
section
variable {h : Heap} {la ga : Option Addr} {lc gc : Nat} {rs : List Rc} {gaps : List Bool}
set_option maxHeartbeats 6400000 in
theorem lay_r (g : Geo) (x : Hd) (hg : Gok g) (ok : hdOk g x) (he : 0 ≤ x.ep ∧ x.ep < 18446744073709551616) (hq : 0 ≤ x.sq ∧ x.sq < 18446744073709551616) (sl : Sl eRc h la lc rs) (hv : ∀ r ∈ rs, 0 ≤ r.ver ∧ r.ver < 18446744073709551616) (sg : Sl eBool h ga gc gaps) (hl : rs.length ≤ 9223372036854775807) :
  HC Tryd.prog 18 #[g.v, x.v, .slice la rs.length lc, .slice ga gaps.length gc] h fun v h' => Ext h h' ∧ ∃ ia ic oa oc, v = .tuple #[.slice ia (layImg g (layTo g x rs gaps rs.length).P).length ic, .slice oa (layTo g x rs gaps rs.length).out.length oc] ∧
   Sl eB h' ia ic (layImg g (layTo g x rs gaps rs.length).P) ∧ Sl eFo h' oa oc (layTo g x rs gaps rs.length).out := by
 have b := ok_bounds hg
 have fb := fst_bounds hg
 refine f18_sh _ _ _ _ _ _ _ _ _ _ _ _ _ _ _ fun gb pb h2 log ltg lo lt x2 => (region_r hg h2).mono ?_
 rintro _ h3 ⟨rfl, x3⟩
 have x23 := x2.trans x3
 obtain ⟨n, hn⟩ : ∃ n : Nat, g.sz = n := ⟨g.sz.toNat, by omega⟩
 have en : Int.toNat g.sz = n := by omega
 refine ⟨x3, _, rfl, by omega, by omega, by omega, fun nb h4 enb e4 => ?_⟩
 rw [en] at e4 ⊢
 have x4 : Ext h3 h4 := by rw [e4]; exact Ext.push _ _
 have z4 : h4.size = h3.size + 1 := by rw [e4]; simp
 have hz23 := x3.size
 have hz2 := x2.size
 have off : Off nb [gb, pb] := fun q hq => by simp only [List.mem_cons, List.not_mem_nil, or_false] at hq; omega
 have im4 : Im nb h4 (List.replicate n 0) := by
  unfold Im; rw [e4, push_new enb]
  congr 2
  simp [zcells, bts]
 have frx : ∀ {hh : Heap}, Fr (fun i => i = nb) h4 hh → Ext h hh := fun f => (((x23.trans x4).fr _).trans f fun _ _ q => q).ext fun i hi q => by have := x23.size; omega
 refine ⟨fun v h5 => ∃ k : Nat, v = k ∧ k ≤ n ∧ Im nb h5 (List.replicate k 255 ++ List.replicate (n - k) 0) ∧ Fr (fun i => i = nb) h4 h5, fun v _ => n - v.toNat, ⟨0, rfl, Nat.zero_le _, by simpa using im4, Fr.refl _ _⟩, ?_⟩
 rintro _ h5 ⟨k, rfl, hk, im5, f5⟩
 refine ⟨fun e => ?_, fun e => ?_⟩
 ·have hkn := lt_of_dec e
  have epos : 0 + Int.toNat (k : Int) * 1 = k := by simp
  rw [epos]
  refine ⟨by omega, by omega, im5.w (by simp; omega), off, fun h6 e6 => ?_⟩
  rw [wadd k (by omega)]
  refine ⟨⟨k + 1, rfl, hkn, ?_, f5.trans (fr_hset_of e6) fun _ _ q => q⟩, by simp only [Int.toNat_natCast]; omega⟩
  have := im5.set e6
  rw [List.set_append_right _ _ (by simp), List.length_replicate, Nat.sub_self, show n - k = n - (k + 1) + 1 by omega, List.replicate_succ, List.set_cons_zero] at this
  rw [List.replicate_succ', List.append_assoc]; exact this
 have hkn : k = n := by have := ge_of_dec e; omega
 subst hkn
 rw [Nat.sub_self, List.replicate_zero, List.append_nil, img_nil hn.symm] at im5
 refine (encHead_r g x he hq h5).mono ?_
 rintro _ h7 ⟨x7, ht⟩
 rw [if_pos hg, if_pos ok] at ht
 obtain ⟨ha, hc, rfl, sh⟩ := ht
 refine ⟨x7, _, _, _, _, rfl, ?_⟩
 have im7 := im5.fr (x7.fr (fun _ => False)) id
 have f7 : Fr (fun i => i = nb) h4 h7 := f5.trans (x7.fr _) fun _ _ q => q
 have el := encH_len g x
 obtain ⟨_, bh⟩ := sh.byt
 have bh : ∃ b o, ha = some ⟨b, o, none⟩ ∧ HCells h7 b o (bts (encH g x)) := bh.resolve_left (by omega)
 refine hcopy_of (e := 5) (size := 1) (q := 32) (cs := bts (encH g x)) (by kernel_rfl) (by kernel_rfl) (by rw [el]; show 32 = min 32 k; omega) (by simp [el]) (fun v hv => by obtain ⟨y, _, rfl⟩ := List.mem_map.1 hv; rfl) (.inr bh) (.inr ⟨nb, 0, rfl, im7.ws (by simp [layImg, el]; omega)⟩) fun h8 _ e8 => ?_
 have e8 := e8 nb 0 rfl
 have f8' := fr_hsets_of e8
 have f8 : Fr (fun i => i = nb) h4 h8 := f7.trans f8' fun _ _ q => q
 have im8 : Im nb h8 (layImg g (encH g x)) := by
  have h1 := img_split (g := g) (P := []) (n := (encH g x).length) (by simp [el]; omega)
  rw [h1] at im7
  have := im7.sets (A := []) (V := encH g x) (by simp) rfl e8
  have h2 := img_join (g := g) (P := []) (A := encH g x)
  simp only [List.nil_append, List.length_nil] at this h2
  rw [h2] at this; exact this
 have z7 := f7.size
 have z8 := f8.size
 refine ⟨f8'.kp fun q hq => off q hq, 32, rfl, (Up_r g 32 h8).mono ?_⟩
 rintro _ h9 ⟨rfl, x9⟩
 rw [upE_32 hg]
 have f9 : Fr (fun i => i = nb) h4 h9 := f8.trans (x9.fr _) fun _ _ q => q
 have im9 := im8.fr (x9.fr (fun _ => False)) id
 rw [el]
 refine ⟨x9, _, _, rfl, fun i h10 => ∃ j : Nat, i = 32 + j ∧ 32 + (j : Int) ≤ fst0 g ∧ Im nb h10 (layImg g (encH g x ++ List.replicate j 0)) ∧ Fr (fun i => i = nb) h4 h10, fun i _ => (fst0 g - i).toNat, ⟨0, rfl, by omega, by simpa using im9, f9⟩, ?_⟩
 rintro _ h10 ⟨j, rfl, hj, im10, f10⟩
 have eP : (encH g x ++ List.replicate j 0).length = 32 + j := by rw [List.length_append, el, List.length_replicate]
 refine ⟨fun e => ?_, fun e => ?_⟩
 ·have hlt := of_decide_eq_true e
  have epos : 0 + Int.toNat (32 + (j : Int)) * 1 = (encH g x ++ List.replicate j 0).length := by rw [eP]; omega
  rw [epos]
  refine ⟨by omega, by omega, im10.w (by have := img_len (g := g) (P := encH g x ++ List.replicate j 0) (by omega); omega), off, fun h11 e11 => ?_⟩
  rw [w64 (x := 32 + (j : Int) + 1) (by omega) (by omega)]
  refine ⟨⟨j + 1, by omega, by omega, ?_, f10.trans (fr_hset_of e11) fun _ _ q => q⟩, by show (fst0 g - (32 + (j : Int) + 1)).toNat < (fst0 g - (32 + (j : Int))).toNat; omega⟩
  have := im10.set e11
  rw [img_push (by omega), List.append_assoc] at this
  rw [List.replicate_succ']; exact this
 have hj : j = (fst0 g - 32).toNat := by have := of_decide_eq_false e; omega
 rw [hj] at im10
 have off2 : ∀ {hh : Heap}, Fr (fun i => i = nb) h4 hh → ∀ {r}, hh.size ≤ r → Off nb [gb, pb, r] := fun f r hr q hq => by have := f.size; simp only [List.mem_cons, List.not_mem_nil, or_false] at hq; omega
 refine ⟨fun atv out on oc v h12 => ∃ m : Nat, v = m ∧ m ≤ rs.length ∧ atv = (layTo g x rs gaps m).at_ ∧ on = (layTo g x rs gaps m).out.length ∧ Im nb h12 (layImg g (layTo g x rs gaps m).P) ∧ Sl eFo h12 out oc (layTo g x rs gaps m).out ∧ Own eFo.k tF h4.size h12 out oc ∧ Ext h h12 ∧ h4.size ≤ h12.size, fun _ _ _ _ v _ => rs.length - v.toNat,
  ⟨0, rfl, Nat.zero_le _, rfl, rfl, im10, Sl.nil _ _, Own.nil _ _ _ _, frx f10, f10.size⟩, ?_⟩
 rintro _ out _ oc _ h12 ⟨m, rfl, hm, rfl, rfl, im12, s12, w12, x12, z12⟩
 have hX : ∀ m, ((layImg g (layTo g x rs gaps m).P).length : Int) = g.sz := fun m => by
  obtain ⟨q, I, _⟩ := laidTo (x := x) (gaps := gaps) hg hv m
  exact img_len (by have := I.len; omega)
 refine ⟨fun e => ?_, fun e => ?_⟩
 rotate_left
 ·have hmn : m = rs.length := by have := ge_of_dec e; omega
  subst hmn
  refine ⟨x12, some ⟨nb, 0, none⟩, k, out, oc, ?_, im12.sl ?_, s12⟩
  ·have := hX rs.length
   rw [show (layImg g (layTo g x rs gaps rs.length).P).length = k by omega]
  ·have := hX rs.length; omega
 have hml := lt_of_dec e
 obtain ⟨q, I, _⟩ := laidTo (x := x) (gaps := gaps) hg hv m
 have hout := lay_out g hg x rs gaps hv m
 have hstep : layTo g x rs gaps (m + 1) = layOne g (x.sq % 4294967296) x.rg (layTo g x rs gaps m) rs[m] (gaps.getD m false) := by
  conv => lhs; unfold layTo
  rw [List.getElem?_eq_getElem hml]
 have hvr := hv _ (List.getElem_mem hml)
 obtain ⟨lb, lo_, ela, d⟩ := (sl.ext x12).at (List.getElem?_eq_getElem hml)
 generalize hr : rs[m] = r at *
 have hXm := hX m
 have him := I.len
 have hlo := I.lo
 have hhi := I.hi
 generalize hs : layTo g x rs gaps m = s at *
 refine ⟨fun atv out on oc h13 => atv = (layTo g x rs gaps (m + 1)).at_ ∧ on = (layTo g x rs gaps (m + 1)).out.length ∧ Im nb h13 (layImg g (layTo g x rs gaps (m + 1)).P) ∧ Sl eFo h13 out oc (layTo g x rs gaps (m + 1)).out ∧ Own eFo.k tF h4.size h13 out oc ∧ Ext h h13 ∧ h4.size ≤ h13.size,
  ⟨lb, lo_, ela, by omega, by omega, _, _, _, _, d.1, d.2.1, d.2.2.1, d.2.2.2.1, fun rb h15 lor ltr x15 => ⟨x.sq % 4294967296, fun h23 _ => salt_r _ hq h23, (encode_r g ⟨by omega, by omega⟩ r hvr h15).mono ?_⟩⟩, ?_⟩
 rotate_left
 ·rintro _ out' _ oc' h13 ⟨rfl, rfl, a1, a2, a3, a4, a5⟩
  rw [wadd2 m (by omega)]
  exact ⟨⟨m + 1, rfl, hml, rfl, rfl, a1, a2, a3, a4, a5⟩, by simp only [Int.toNat_natCast]; omega⟩
 rintro vv h16 ⟨x16, ht⟩
 have x126 := x15.trans x16
 have im16 := im12.fr (x126.fr (fun _ => False)) id
 have no : ∀ {a16 : Option Addr} {n16 c16 : Nat} {e16 : Int}, ¬ lays g (x.sq % 4294967296) s r → vv = .tuple #[.slice a16 n16 c16, .int .i64 e16] → (s.at_ = (layTo g x rs gaps (m + 1)).at_ ∧ s.out.length = (layTo g x rs gaps (m + 1)).out.length ∧ Im nb h16 (layImg g (layTo g x rs gaps (m + 1)).P) ∧ Sl eFo h16 out oc (layTo g x rs gaps (m + 1)).out ∧ Own eFo.k tF h4.size h16 out oc ∧ Ext h h16 ∧ h4.size ≤ h16.size) := fun hno _ => by
  rw [hstep, layOne, if_neg hno]
  exact ⟨rfl, rfl, im16, s12.ext x126, w12.ext x126, x12.trans x126, Nat.le_trans z12 x126.size⟩
 have ew : IntKind.i64.wrap (IntKind.i64.wrap ((k : Int) - 24) - s.at_) = g.sz - 24 - s.at_ := by rw [w64 (x := (k : Int) - 24) (by omega) (by omega), w64 (by omega) (by omega)]; omega
 simp only [ew]
 by_cases he0 : encE g r = 0
 rotate_left
 ·rw [if_neg he0] at ht
  refine ⟨x16, _, _, _, _, ht, fun _ => no (fun q => he0 q.1) ht, fun e => ?_⟩
  simp [he0] at e
 rw [if_pos he0] at ht
 obtain ⟨ea, ec, hvv, se⟩ := ht
 refine ⟨x16, _, _, _, _, hvv, fun e => no (fun q => ?_) hvv, fun e => ?_⟩
 ·have := q.2
  simp at e; omega
 have hfit : ((encR (x.sq % 4294967296) r).length : Int) ≤ g.sz - 24 - s.at_ := by simp at e; omega
 have hlay : lays g (x.sq % 4294967296) s r := ⟨he0, hfit⟩
 have hn24 : 24 ≤ (encR (x.sq % 4294967296) r).length := by rw [encR_len]; omega
 rw [layOne, if_pos hlay] at hstep
 obtain ⟨_, be⟩ := se.byt
 have be := be.resolve_left (by omega)
 generalize hE : encR (x.sq % 4294967296) r = E at *
 obtain ⟨p, hp⟩ : ∃ p : Nat, s.at_ = p := ⟨s.at_.toNat, by omega⟩
 have hPl : s.P.length = p := by omega
 rw [hp] at hfit ⊢
 refine ⟨by omega, by omega, by omega, fun sl' esl => ?_⟩
 obtain ⟨o', eo, ho⟩ := slA_some (b := nb) (o := 0) (l := p) (sz := 1) (m := k)
 simp only [Int.toNat_natCast] at esl ⊢
 rw [eo] at esl
 subst esl
 have ho : o' = p := by rw [ho (by omega)]; omega
 subst ho
 refine hcopy_of (e := 5) (size := 1) (q := E.length) (cs := bts E) (by kernel_rfl) (by kernel_rfl) (by show _ = min _ _; omega) (by simp) (fun v hv => by obtain ⟨y, _, rfl⟩ := List.mem_map.1 hv; rfl) (.inr be) (.inr ⟨nb, o', rfl, im16.ws (by simp; omega)⟩) fun h17 _ e17 => ?_
 have e17 := e17 nb o' rfl
 have f17 := fr_hsets_of e17
 have im17 : Im nb h17 (layImg g (s.P ++ E)) := by
  rw [img_split (g := g) (P := s.P) (n := E.length) (by omega)] at im16
  have := im16.sets (V := E) (by simp) hPl.symm e17
  rw [img_join] at this; exact this
 refine ⟨f17.kp fun q hq => by have := x12.size; have := x126.size; simp only [List.mem_cons, List.not_mem_nil, or_false] at hq; omega, E.length, rfl, fun nb1 h18 enb1 e18 => ?_⟩
 have x18 : Ext h17 h18 := by rw [e18]; exact Ext.push _ _
 have z17 := f17.size
 have z16 := x126.size
 have hsz12 := x12.size
 have nown : ∀ b, blkA out b → ¬ b = nb := fun b hb => by have := (w12.low hb).1; omega
 have s17 := (s12.ext x126).fr f17 nown
 have w17 := (w12.ext x126).fr f17 nown
 generalize hfo : (⟨x.rg, (o' : Int), (E.length : Int), r⟩ : Fo) = fo at *
 refine app_1 (x := fo) aF enb1 e18 (by rw [← hfo]; rfl) s17 w17 rfl (by omega) (by omega) fun a' c' h19 f19 s19 w19 b19 => ?_
 have z19 := f19.size
 have nob : ∀ {b}, b < h4.size → ¬ blkA out b := fun hb q => by have := (w17.low q).1; omega
 refine ⟨fun q hq hlt => ?_, a', _, c', rfl, ?_⟩
 ·simp only [List.mem_cons, List.not_mem_nil, or_false] at hq
  rw [x18.block q (by omega), f19.block q (by omega) (nob (by omega))]
 have im19 := im17.fr f19 (nob (by omega))
 rw [w64 (x := (o' : Int) + E.length) (by omega) (by omega)]
 refine (Up_r g _ h19).mono ?_
 rintro _ h20 ⟨rfl, x20⟩
 have eup : upE g ((o' : Int) + E.length) = .tuple #[.int .i64 (upTo ((o' : Int) + E.length) g.al), .int .i64 0] := by
  have hd : g.sz * 2 ≤ g.sz * g.regs := Int.mul_le_mul_of_nonneg_left hg.2.2.1.1 (by omega)
  unfold upE; rw [if_pos hg, if_neg (by omega)]
 have up := upTo_ge (n := (o' : Int) + E.length) (al := g.al) (by omega)
 have up2 := upTo_ge (n := upTo ((o' : Int) + E.length) g.al) (al := g.page) (by omega)
 refine ⟨x20, _, _, eup, nxt g ((o' : Int) + E.length) (gaps.getD m false), ⟨gaps.getD m false, ⟨fun e => ?_, fun e => ?_⟩, fun e => ?_, fun e => ?_⟩, ?_⟩
 ·have hmg := lt_of_dec e
  have x20a : Ext h h20 := by
   refine (((x12.trans x126).fr (fun b => b = nb ∨ blkA out b)).trans ((f17.mono fun _ _ q => .inl q).trans (f19.mono fun _ _ q => .inr q) fun _ _ q => q) fun _ _ q => q).ext (fun i hi q => ?_) |>.trans x20
   rcases q with q | q
   ·omega
   ·have := (w12.low q).1; omega
  obtain ⟨gb', go, eg, dg⟩ := (sg.ext x20a).at (List.getElem?_eq_getElem hmg)
  refine ⟨gb', go, eg, by omega, by omega, gaps[m], dg.1, ?_⟩
  rw [List.getD_eq_getElem?_getD, List.getElem?_eq_getElem hmg]; rfl
 ·have hmg := ge_of_dec e
  rw [List.getD_eq_getElem?_getD, List.getElem?_eq_none hmg]; rfl
 ·rw [e]
  refine ⟨by omega, ?_⟩
  unfold nxt
  rw [if_pos rfl]
  generalize upTo ((o' : Int) + E.length) g.al = u at *
  have : upTo u g.page = (u + g.page - 1) / g.page * g.page := rfl
  rw [w64 (x := u + g.page) (by omega) (by omega), w64 (x := u + g.page - 1) (by omega) (by omega), Int.tdiv_eq_ediv_of_nonneg (by omega)]
  have hd1 : (u + g.page - 1) / g.page ≤ u + g.page - 1 := Int.ediv_le_self _ (by omega)
  have hd0 : 0 ≤ (u + g.page - 1) / g.page := Int.ediv_nonneg (by omega) (by omega)
  rw [w64 (x := (u + g.page - 1) / g.page) (by omega) (by omega), w64 (x := (u + g.page - 1) / g.page * g.page) (by omega) (by omega)]; exact this
 ·rw [e]; rfl
 generalize hnx : nxt g ((o' : Int) + E.length) (gaps.getD m false) = nx at *
 have hnxb : (o' : Int) + E.length ≤ nx ∧ nx ≤ g.sz + 8192 := by rw [← hnx]; unfold nxt; split <;> omega
 have im20 := im19.fr (x20.fr (fun _ => False)) id
 have ew2 : IntKind.i64.wrap ((k : Int) - 24) = g.sz - 24 := by rw [w64 (by omega) (by omega)]; omega
 simp only [ew2]
 have heq : layTo g x rs gaps (m + 1) = ⟨s.P ++ E ++ List.replicate (min nx (g.sz - 24) - ((o' : Int) + E.length)).toNat 0, nx, s.out ++ [fo]⟩ := by
  rw [hstep, hp, hnx, hfo]
 have hPE : (s.P ++ E).length = o' + E.length := by rw [List.length_append, hPl]
 refine ⟨fun kk h21 => ∃ j : Nat, kk = (o' : Int) + E.length + j ∧ (kk ≤ min nx (g.sz - 24)) ∧ Im nb h21 (layImg g (s.P ++ E ++ List.replicate j 0)) ∧ Fr (fun i => i = nb) h20 h21, fun kk _ => (g.sz - kk).toNat, ⟨0, by omega, by omega, by simpa using im20, Fr.refl _ _⟩, ?_⟩
 rintro _ h21 ⟨j, rfl, hj, im21, f21⟩
 have hPEj : (s.P ++ E ++ List.replicate j 0).length = o' + E.length + j := by rw [List.length_append, hPE, List.length_replicate]
 refine ⟨fun e2 => ?_, fun e2 => ?_⟩
 ·simp only [Bool.and_eq_true, decide_eq_true_eq] at e2
  have epos : 0 + Int.toNat ((o' : Int) + E.length + j) * 1 = (s.P ++ E ++ List.replicate j 0).length := by rw [hPEj]; omega
  rw [epos]
  refine ⟨by omega, by omega, im21.w (by have := img_len (g := g) (P := s.P ++ E ++ List.replicate j 0) (by omega); omega), off, fun h22 e22 => ?_⟩
  rw [w64 (x := (o' : Int) + E.length + j + 1) (by omega) (by omega)]
  refine ⟨⟨j + 1, by omega, by omega, ?_, f21.trans (fr_hset_of e22) fun _ _ q => q⟩, by show (g.sz - ((o' : Int) + E.length + j + 1)).toNat < (g.sz - ((o' : Int) + E.length + j)).toNat; omega⟩
  have := im21.set e22
  rw [img_push (by omega), List.append_assoc] at this
  rw [List.replicate_succ', ← List.append_assoc]
  rw [List.append_assoc (s.P ++ E)]; exact this
 ·simp only [Bool.and_eq_false_iff, decide_eq_false_iff_not] at e2
  have hjj : j = (min nx (g.sz - 24) - ((o' : Int) + E.length)).toNat := by omega
  rw [heq, ← hjj]
  have z20 := x20.size
  have no' : ∀ b, blkA a' b → ¬ b = nb := fun b hb => by have := (w19.low hb).1; omega
  refine ⟨rfl, by simp, im21, (s19.ext x20).fr f21 no', (w19.ext x20).fr f21 no', ?_, by have := f21.size; omega⟩
  refine (((x12.trans x126).fr (fun b => b = nb ∨ blkA out b)).trans ((f17.mono fun _ _ q => .inl q).trans ((f19.mono fun _ _ q => .inr q).trans ((x20.fr _).trans (f21.mono fun _ _ q => .inl q) fun _ _ q => q) fun _ _ q => q) fun _ _ q => q) fun _ _ q => q).ext (fun i hi q => ?_)
  rcases q with q | q
  ·omega
  ·have := (w12.low q).1; omega
end
end Sc
end Go.Proofs.YthjehlocmikchaaDoor
namespace Go.Proofs.YthjehlocmikchaaDoor
namespace Sc
open Go
theorem img_isB {g : Geo} {P : List Int} (h : isB P) : isB (layImg g P) := isB_app h (isB_rep _ _ ⟨by decide, by decide⟩)
def gS : Geo := ⟨64, 4, 3, 8⟩
def xS : Hd := ⟨1, 5, 1⟩
def rS : Rc := ⟨1, 1, ByteArray.mk #[107], ByteArray.mk #[118]⟩
theorem gS_ok : Gok gS := by decide
theorem xS_ok : hdOk gS xS := by decide
theorem layS : layTo gS xS [rS] [] 1 = ⟨(lay0 gS xS).P ++ encR 5 rS ++ List.replicate 6 0, 64, [⟨1, 32, 26, rS⟩]⟩ := by
 have e1 : (encR 5 rS).length = 26 := by rw [encR_len]; rfl
 have h1 : lays gS 5 (lay0 gS xS) rS := ⟨by decide, by rw [e1]; decide⟩
 show layOne gS 5 1 (lay0 gS xS) rS false = _
 unfold layOne
 rw [if_pos h1, e1]
 rfl
theorem surS : ∃ S, surOf gS 1 (layImg gS (layTo gS xS [rS] [] 1).P) = (S, 0) ∧ S.has = true ∧ S.sq = 5 ∧ S.recs = [⟨1, 32, 26, rS⟩] ∧ S.at_ = 64 ∧ S.why = 2 := by
 obtain ⟨q, I, hq⟩ := laidTo (g := gS) (x := xS) (rs := [rS]) (gaps := []) gS_ok (fun r hr => by simp at hr; subst hr; decide) 1
 obtain ⟨S, h1, h2, _, h4, _, h6, _, h8⟩ := law_back gS_ok I xS_ok (by decide) (by decide)
 have e : (layTo gS xS [rS] [] 1).at_ = 64 := by rw [layS]
 obtain ⟨h9, h10⟩ := h8 (hq rfl) (by rw [e]; decide)
 exact ⟨S, h1, h2, h4, by rw [h6, layS], by rw [h9, e], h10⟩
theorem small_c (h : Heap) : HC Tryd.prog 30 #[] h fun v h' => v = gS.v ∧ Ext h h' := f30_sh _ _ fun h2 x2 => ⟨rfl, x2⟩
set_option maxHeartbeats 1600000 in
theorem awake_c {h : Heap} (t : Tab h) : HC Tryd.prog 10 #[] h fun v h' => v = .bool true ∧ Ext h h' := by
 obtain ⟨X, hX⟩ : ∃ X, layImg gS (layTo gS xS [rS] [] 1).P = X := ⟨_, rfl⟩
 have hsur := surS
 have hB : isB X := by
  obtain ⟨q, I, hq⟩ := laidTo (g := gS) (x := xS) (rs := [rS]) (gaps := []) gS_ok (fun r hr => by simp at hr; subst hr; decide) 1
  rw [← hX]; exact img_isB I.byte
 rw [hX] at hsur
 have fin : ∀ {h1 h2 : Heap} {nb : Nat}, Ext h h1 → nb = h1.size → h2 = h1.push (.cells #[.int .i64 1, .int .u64 1, .string (ByteArray.mk #[107]), .string (ByteArray.mk #[118])] 43) → Ext h h2 ∧ Sl eRc h2 (some ⟨nb, 0, none⟩) 1 [rS] := fun {h1 h2 nb} x1 en e2 => by
  refine ⟨x1.trans (by rw [e2]; exact Ext.push _ _), Sl.lit (L := [rS]) (T := 43) ?_⟩
  rw [e2, push_new en]; rfl
 have lay : ∀ {h1 : Heap} {nb r : Nat}, Ext h h1 → Sl eRc h1 (some ⟨nb, 0, none⟩) 1 [rS] → HC Tryd.prog 18 #[gS.v, xS.v, .slice (some ⟨nb, 0, none⟩) 1 1, .slice none 0 0] h1 fun vv h6 => Kp [r] h1 h6 ∧ ∃ r0 : Option Addr, ∃ r0_n r0_c : Nat, ∃ r1 : Option Addr, ∃ r1_n r1_c : Nat, vv = (.tuple #[(.slice r0 r0_n r0_c), (.slice r1 r1_n r1_c)]) ∧ (Ext h h6 ∧ r0_n = (X).length ∧ Sl eB h6 r0 r0_c (X)) := fun {h1 nb r} x1 s1 => by
  refine (lay_r gS xS gS_ok xS_ok (by decide) (by decide) s1 (fun r hr => by simp at hr; subst hr; decide) (Sl.nil eBool h1) (by decide)).mono ?_
  rintro v h6 ⟨x6, ia, ic, oa, oc, e6, s6, _⟩
  change v = Value.tuple #[.slice ia (layImg gS (layTo gS xS [rS] [] 1).P).length ic, _] at e6
  change Sl eB h6 ia ic (layImg gS (layTo gS xS [rS] [] 1).P) at s6
  rw [hX] at e6 s6
  subst e6
  exact ⟨x6.kp _, ia, _, ic, oa, _, oc, rfl, x1.trans x6, rfl, s6⟩
 refine f10_sh _ _ ⟨fun ia n ic h3 => Ext h h3 ∧ n = (X).length ∧ Sl eB h3 ia ic (X), ⟨fun r h2 _ _ x2 => (small_c h2).mono ?_, fun r h2 _ _ x2 nb h7 en e7 => ?_⟩, ?_⟩
 ·rintro _ h4 ⟨rfl, x4⟩
  refine ⟨x4, _, _, _, _, rfl, fun nb h5 en e5 => ?_⟩
  obtain ⟨x5, s5⟩ := fin (x2.trans x4) en e5
  exact lay x5 s5
 ·obtain ⟨x7, s7⟩ := fin x2 en e7
  refine (small_c h7).mono ?_
  rintro _ h8 ⟨rfl, x8⟩
  exact ⟨x8, _, _, _, _, rfl, lay (x7.trans x8) (s7.ext x8)⟩
 rintro ia _ ic h3 ⟨x3, rfl, s3⟩ r _ _
 refine (small_c h3).mono ?_
 rintro _ h10 ⟨rfl, x10⟩
 refine ⟨x10, _, _, _, _, rfl, (survey_m gS 1 (t.ext (x3.trans x10)) (s3.ext x10) hB).mono ?_⟩
 intro v h11 ht
 obtain ⟨S, hS, k1, k2, k3, k4, k5⟩ := hsur
 rw [hS] at ht
 obtain ⟨ra, rcp, rfl, x11, s11, _⟩ := ht
 simp only at s11
 refine ⟨x11, S.rg, S.has, S.ep, S.sq, S.hr, ra, S.recs.length, rcp, S.at_, S.why, S.sealed_, 0, rfl, true, ⟨fun _ => ⟨fun _ => ⟨fun _ => ⟨fun _ => ?_, fun e => ?_⟩, fun e => ?_⟩, fun e => ?_⟩, fun e => by simp at e⟩, fun h13 x13 => ⟨rfl, x3.trans (x10.trans (x11.trans x13))⟩⟩
 ·have hget : S.recs[0]? = some ⟨1, 32, 26, rS⟩ := by rw [k3]; rfl
  obtain ⟨b, o, e, d⟩ := s11.at hget
  refine ⟨b, o, e, Int.le_refl _, by rw [k3]; decide, _, _, _, _, _, _, _, d.1, d.2.1, d.2.2.1, d.2.2.2.1, d.2.2.2.2.1, d.2.2.2.2.2.1, d.2.2.2.2.2.2.1, fun _ => by rw [k4, k5]; rfl, fun e => by
   simp [rS] at e
   exact absurd (e (by decide)) (by decide)⟩
 ·rw [k3] at e; simp at e
 ·rw [k2] at e; simp at e
 ·rw [k1] at e; cases e
end Sc
end Go.Proofs.YthjehlocmikchaaDoor
namespace Go.Proofs.YthjehlocmikchaaDoor
namespace Sc
open Go
theorem ba_refl (a : ByteArray) : (a == a) = true := by
 obtain ⟨x⟩ := a
 show (x == x) = true
 simp
section
variable {h : Heap} {a b : Option Addr} {c d : Nat}
theorem found_eq {L : List Fo} (s : Sl eFo h a c L) (t : Sl eFo h b d L) (hl : L.length ≤ 4611686018427387903) : HC Tryd.prog 19 #[.slice a L.length c, .slice b L.length d] h fun v h' => v = .bool true ∧ h' = h := by
 refine f19_sh _ _ _ _ _ _ _ _ ⟨fun e => (by simp at e), fun _ => ⟨fun v => ∃ k : Nat, v = k ∧ k ≤ L.length, fun v => L.length - v.toNat, ⟨0, rfl, Nat.zero_le _⟩, ?_⟩⟩
 rintro _ ⟨k, rfl, hk⟩
 refine ⟨fun e => ?_, fun _ => ⟨rfl, rfl⟩⟩
 have hkl := lt_of_dec e
 obtain ⟨b1, o1, e1, d1⟩ := s.at (List.getElem?_eq_getElem hkl)
 obtain ⟨b2, o2, e2, d2⟩ := t.at (List.getElem?_eq_getElem hkl)
 refine ⟨b1, o1, e1, by omega, by omega, _, _, _, _, _, _, _, d1.1, d1.2.1, d1.2.2.1, d1.2.2.2.1, d1.2.2.2.2.1, d1.2.2.2.2.2.1, d1.2.2.2.2.2.2.1, b2, o2, e2, by omega, by omega, _, _, _, _, _, _, _, d2.1, d2.2.1, d2.2.2.1, d2.2.2.2.1, d2.2.2.2.2.1, d2.2.2.2.2.2.1, d2.2.2.2.2.2.2.1, fun e => ?_, fun _ => ?_⟩
 ·simp [ba_refl] at e
 ·rw [wadd k (by omega)]
  exact ⟨⟨k + 1, rfl, hkl⟩, by simp only [Int.toNat_natCast]; omega⟩
theorem same_eq {S : Su} (s : Sl eFo h a c S.recs) (t : Sl eFo h b d S.recs) (hl : S.recs.length ≤ 4611686018427387903) : HC Tryd.prog 14 #[.agg (S.cs a S.recs.length c).toArray, .agg (S.cs b S.recs.length d).toArray] h fun v h' => v = .bool true ∧ Ext h h' := by
 refine f14_sh _ _ _ _ _ _ _ _ _ _ _ _ _ _ _ _ _ _ _ _ _ _ _ _ ⟨true, ⟨fun _ => ⟨fun _ => ⟨fun _ p q h2 _ _ _ _ x2 => ⟨true, found_eq (s.ext x2) (t.ext x2) hl, fun _ => ⟨fun _ => by simp, fun e => by simp at e⟩, fun e => by cases e⟩, fun e => by simp at e⟩, fun e => by simp at e⟩, fun e => by simp at e⟩, fun h2 x2 => ⟨rfl, x2⟩⟩
end
end Sc
end Go.Proofs.YthjehlocmikchaaDoor
namespace Go.Proofs.YthjehlocmikchaaDoor
open Go Go.ChangeShapes Go.WideShapes Go.Deep
section
variable {H : Type} {enc : TypeId × Value → H} {W : World} {P : Program}
theorem hcell_of {a : Addr} {v : Value} (h : W.cell? a = some v) : a.spot = none ∧ hcell W.heap a.block a.off = some v := by
  unfold World.cell? at h
  unfold hcell
  split at h
  · rename_i hb
    rw [hb]
    split at h
    · cases h
    · rename_i hs
      exact ⟨by simpa using hs, h⟩
  · cases h
theorem add_spot (a : Addr) (n : Nat) (h : a.spot = none) : (a.add n).spot = none ∧ (a.add n).block = a.block ∧ (a.add n).off = a.off + n := by
  unfold Addr.add
  by_cases hn : n = 0
  · subst hn; exact ⟨h, rfl, rfl⟩
  · rw [if_neg hn]; exact ⟨rfl, rfl, rfl⟩
theorem open_list {α : Type} [Inhabited α] (E : Elt α) {e t : TypeId} (ht : P.underlying t = some (.slice e)) (hc : P.cellsOf e = E.k) (hk : 0 < E.k) (good : α → DataW H → Prop)
    (each : ∀ fuel cs (x : DataW H × List MemPlace), DataW.trod enc P W 0 (fun _ => true) true fuel e cs = some x → ∃ y : α, cs = E.enc y ∧ good y x.1)
    {fuel : Nat} {a0 : Option Addr} {len cap : Nat} {x : DataW H × List MemPlace} (h : DataW.trod enc P W 0 (fun _ => true) true fuel t [.slice a0 len cap] = some x) :
    len ≤ cap ∧ cap ≤ maxLen ∧ ∃ L : List α, L.length = len ∧ Sl E W.heap a0 cap L ∧ (len = 0 ∨ ∃ es sp, x.1 = .slice es sp ∧ es.length = len ∧ ∀ (i : Nat) y z, L[i]? = some y → es[i]? = some z → good y z) := by
  rcases open_slice ht h with ⟨hcs, _⟩ | ⟨a, len', cap', m, n, D, Pl, hcs, _, hl, hm, hmm, hx, hx'⟩
  · simp at hcs
    obtain ⟨rfl, rfl, rfl⟩ := hcs
    exact ⟨Nat.le_refl _, Nat.zero_le _, [], rfl, Sl.nil _ _, .inl rfl⟩
  · simp at hcs
    obtain ⟨rfl, rfl, rfl⟩ := hcs
    have hmc : m = cap := by simpa using hmm
    subst hmc
    have each' : ∀ i, ∃ q : α, i < m → good q (D i) ∧ ∀ j u, (E.enc q)[j]? = some u → W.cell? (a.add (i * E.k + j)) = some u := by
      intro i
      by_cases hi : i < m
      · obtain ⟨cs', h1, h2⟩ := hx' i hi
        obtain ⟨y, rfl, hg⟩ := each _ _ _ h2
        refine ⟨y, fun _ => ⟨hg, fun j u hj => ?_⟩⟩
        rw [hc] at h1
        obtain ⟨_, _, hcell⟩ := World.cells?_some h1
        have hjk : j < E.k := by have := (List.getElem?_eq_some_iff.1 hj).1; rw [E.len] at this; exact this
        have := hcell j hjk
        rw [Go.Deep.add_add] at this
        rw [this]; exact hj
      · exact ⟨default, fun h => absurd h hi⟩
    refine ⟨hl, hm, (List.range len).map fun i => Classical.choose (each' i), by simp, ⟨by simpa using hl, ?_⟩, .inr ⟨_, _, by rw [hx], by simp, fun i y z hy hz => ?_⟩⟩
    · rcases Nat.eq_zero_or_pos m with h0 | hpos
      · exact .inl h0
      · right
        have all := fun i => Classical.choose_spec (each' i)
        have sp : a.spot = none := by
          have h0 : 0 < (E.enc (Classical.choose (each' 0))).length := by rw [E.len]; exact hk
          have := (all 0 hpos).2 0 _ (List.getElem?_eq_getElem h0)
          have h1 := (hcell_of this).1
          simpa [Addr.add] using h1
        refine ⟨a.block, a.off, by rw [← sp], fun i x hx => HCells.mk fun j v hj => ?_⟩
        rw [List.getElem?_map] at hx
        cases hr : (List.range len)[i]? with
        | none => rw [hr] at hx; cases hx
        | some i' =>
          rw [hr] at hx
          simp only [Option.map_some, Option.some.injEq] at hx
          obtain ⟨hi, he⟩ := List.getElem?_eq_some_iff.1 hr
          have hi' : i' = i := by simpa using he.symm
          subst hi'
          subst hx
          have hil : i' < len := by simpa using hi
          have h1 := (hcell_of ((all i' (by omega)).2 j v hj)).2
          rw [(add_spot a _ sp).2.1, (add_spot a _ sp).2.2, ← Nat.add_assoc] at h1
          exact h1
    · rw [List.getElem?_map] at hy hz
      cases hr : (List.range len)[i]? with
      | none => rw [hr] at hy; cases hy
      | some i' =>
        rw [hr] at hy hz
        simp only [Option.map_some, Option.some.injEq] at hy hz
        obtain ⟨hi, he⟩ := List.getElem?_eq_some_iff.1 hr
        have hi' : i' = i := by simpa using he.symm
        subst hi'
        subst hy; subst hz
        have hil : i' < len := by simpa using hi
        exact ((Classical.choose_spec (each' i')) (by omega)).1
theorem open_listT {α : Type} [Inhabited α] (E : Elt α) {e t : TypeId} (ht : P.underlying t = some (.slice e)) (hc : P.cellsOf e = E.k) (hk : 0 < E.k) (good : α → DataW H → Prop)
    (each : ∀ fuel cs (x : DataW H × List MemPlace), DataW.trod enc P W 0 (fun _ => true) true fuel e cs = some x → ∃ y : α, cs = E.enc y ∧ good y x.1)
    {a0 : Option Addr} {len cap : Nat} {d : DataW H} {p : List MemPlace} (h : DataW.Trod enc P W 0 (fun _ => true) true t (.slice a0 len cap) d p) :
    len ≤ cap ∧ cap ≤ maxLen ∧ ∃ L : List α, L.length = len ∧ Sl E W.heap a0 cap L ∧ (len = 0 ∨ ∃ es sp, d = .slice es sp ∧ es.length = len ∧ ∀ (i : Nat) y z, L[i]? = some y → es[i]? = some z → good y z) := by
  obtain ⟨fuel, h⟩ := h
  exact open_list E ht hc hk good each (x := (d, p)) h
theorem below_of {w w' : World} (hs : Sim w w') (he : Ext w.heap w'.heap) : RowKit.Below w.heap.size w w' := ⟨hs.os, hs.tape, hs.output, he.size, fun k hk => he.block k hk⟩
end
end Go.Proofs.YthjehlocmikchaaDoor
namespace Go.Proofs.YthjehlocmikchaaDoor
namespace Sc
open Go Go.ChangeShapes Go.WideShapes Go.Deep
theorem gTab64 : Tryd.prog.globalNamed "math/bits.deBruijn64tab" = some 2 := by kernel_rfl
theorem tTab64 : (Tryd.prog.globals[2]?).map (·.type) = some 152 := by kernel_rfl
theorem tab_of {W : World} (h : laidMet Tryd.prog [("math/bits.deBruijn32tab", Rows.laid_math_bits_deBruijn32tab), ("math/bits.deBruijn64tab", Rows.laid_math_bits_deBruijn64tab)] W) : Tab W.heap := by
 have h2 : laidMet Tryd.prog [("math/bits.deBruijn64tab", Lib.tabData .u8 tabL)] W := laidMet.tail h
 have ht := Lib.tabIs_of_head (rest := []) gTab64 tTab64 Tryd.underlying152 Tryd.underlying5 (by kernel_rfl) (by kernel_rfl) h2
 refine HCells.mk fun j v hj => ?_
 rw [List.getElem?_map] at hj
 cases hL : tabL[j]? with
 | none => rw [hL] at hj; cases hj
 | some z =>
  rw [hL] at hj
  cases hj
  have hlt := (List.getElem?_eq_some_iff.1 hL).1
  have := (hcell_of (ht.cell gTab64 j hlt)).2
  rw [List.getD_eq_getElem?_getD, hL] at this
  rw [Nat.zero_add]; exact this
theorem wf_u64 {x : Int} (h : (Lit.int .u64 x).wf = true) : 0 ≤ x ∧ x < 18446744073709551616 := by
 simp [Lit.wf, IntKind.min, IntKind.max, IntKind.bits, IntKind.signed] at h; omega
theorem c_slice {H : Type} {enc : TypeId × Value → H} {W : World} {P : Program} {t e : TypeId} (ht : P.underlying t = some (.slice e)) {n : Nat} {c : Value} {y : DataW H × List MemPlace} (g : DataW.trod enc P W 0 (fun _ => true) true n t [c] = some y) : ∃ a len cap, c = .slice a len cap := by
 rcases open_slice ht g with ⟨hcs, _⟩ | ⟨a, len', cap', m, n, D, Pl, hcs, _⟩
 ·simp at hcs; exact ⟨_, _, _, hcs⟩
 ·simp at hcs; exact ⟨_, _, _, hcs⟩
theorem o_slice {H : Type} {enc : TypeId × Value → H} {W : World} {P : Program} {α : Type} [Inhabited α] (E : Elt α) {e t : TypeId} (ht : P.underlying t = some (.slice e)) (hc : P.cellsOf e = E.k) (hk : 0 < E.k) (good : α → Prop)
  (each : ∀ fuel cs (x : DataW H × List MemPlace), DataW.trod enc P W 0 (fun _ => true) true fuel e cs = some x → ∃ y : α, cs = E.enc y ∧ good y)
  {n : Nat} {c : Value} {y : DataW H × List MemPlace} (g : DataW.trod enc P W 0 (fun _ => true) true n t [c] = some y) :
  ∃ a cap, ∃ L : List α, c = .slice a L.length cap ∧ L.length ≤ maxLen ∧ Sl E W.heap a cap L ∧ (∀ x ∈ L, good x) ∧ (L.length = 0 ∨ ∃ es sp, y.1 = .slice es sp ∧ es.length = L.length) := by
 obtain ⟨a, len, cap, rfl⟩ := c_slice ht g
 obtain ⟨k1, k2, L, rfl, k4, k5⟩ := open_list E ht hc hk (fun y _ => good y) (fun fuel cs x h => each fuel cs x h) g
 refine ⟨a, cap, L, rfl, by omega, k4, fun x hx => ?_, k5.imp id fun ⟨es, sp, e, hes, _⟩ => ⟨es, sp, e, hes⟩⟩
 obtain ⟨i, hi, hie⟩ := List.getElem_of_mem hx
 rcases k5 with k5 | ⟨es, sp, _, hes, hg⟩
 ·omega
 ·exact hg i x es[i] (by rw [List.getElem?_eq_getElem hi, hie]) (List.getElem?_eq_getElem (by omega))
set_option maxRecDepth 100000 in
theorem oRc {H : Type} {enc : TypeId × Value → H} {W : World} (fuel : Nat) (cs : List Value) (x : DataW H × List MemPlace) (h : DataW.trod enc Tryd.prog W 0 (fun _ => true) true fuel 43 cs = some x) :
  ∃ r : Rc, cs = eRc.enc r ∧ (0 ≤ r.ver ∧ r.ver < 18446744073709551616) := by
 obtain ⟨ys, n, _, hx, hl, hyl, hf⟩ := DataW.trod_struct Tryd.underlying43 h
 rw [show Tryd.prog.cellsOf 43 = 4 by kernel_rfl] at hl
 match cs, hl with
 | [c0, c1, c2, c3], _ =>
  have g0 : DataW.trod enc Tryd.prog W 0 (fun _ => true) true n 3 (([c0, c1, c2, c3].drop 0).take (Tryd.prog.cellsOf 3)) = ys[0]? := hf 0 _ rfl
  have g1 : DataW.trod enc Tryd.prog W 0 (fun _ => true) true n 29 (([c0, c1, c2, c3].drop 1).take (Tryd.prog.cellsOf 29)) = ys[1]? := hf 1 _ rfl
  have g2 : DataW.trod enc Tryd.prog W 0 (fun _ => true) true n 9 (([c0, c1, c2, c3].drop 2).take (Tryd.prog.cellsOf 9)) = ys[2]? := hf 2 _ rfl
  have g3 : DataW.trod enc Tryd.prog W 0 (fun _ => true) true n 9 (([c0, c1, c2, c3].drop 3).take (Tryd.prog.cellsOf 9)) = ys[3]? := hf 3 _ rfl
  rw [show Tryd.prog.cellsOf 3 = 1 by kernel_rfl] at g0
  rw [show Tryd.prog.cellsOf 29 = 1 by kernel_rfl] at g1
  rw [show Tryd.prog.cellsOf 9 = 1 by kernel_rfl] at g2 g3
  match ys, hyl with
  | [y0, y1, y2, y3], _ =>
   obtain ⟨n0, e0, _, _⟩ := DataW.trod_int Tryd.underlying3 (x := y0) g0
   obtain ⟨n1, e1, _, w1⟩ := DataW.trod_int Tryd.underlying29 (x := y1) g1
   obtain ⟨n2, e2, _, _⟩ := DataW.trod_string Tryd.underlying9 (x := y2) g2
   obtain ⟨n3, e3, _, _⟩ := DataW.trod_string Tryd.underlying9 (x := y3) g3
   simp at e0 e1 e2 e3
   exact ⟨⟨n0, n1, n2, n3⟩, by rw [e0, e1, e2, e3]; rfl, wf_u64 w1⟩
instance : Inhabited Rc := ⟨z4⟩
set_option maxRecDepth 100000 in
theorem oHd {H : Type} {enc : TypeId × Value → H} {W : World} (fuel : Nat) (cs : List Value) (x : DataW H × List MemPlace) (h : DataW.trod enc Tryd.prog W 0 (fun _ => true) true fuel 31 cs = some x) :
  ∃ r : Hd, cs = [.int .u64 r.ep, .int .u64 r.sq, .int .i64 r.rg] ∧ (0 ≤ r.ep ∧ r.ep < 18446744073709551616) ∧ (0 ≤ r.sq ∧ r.sq < 18446744073709551616) := by
 obtain ⟨ys, n, _, hx, hl, hyl, hf⟩ := DataW.trod_struct Tryd.underlying31 h
 rw [show Tryd.prog.cellsOf 31 = 3 by kernel_rfl] at hl
 match cs, hl with
 | [c0, c1, c2], _ =>
  have g0 : DataW.trod enc Tryd.prog W 0 (fun _ => true) true n 29 (([c0, c1, c2].drop 0).take (Tryd.prog.cellsOf 29)) = ys[0]? := hf 0 _ rfl
  have g1 : DataW.trod enc Tryd.prog W 0 (fun _ => true) true n 29 (([c0, c1, c2].drop 1).take (Tryd.prog.cellsOf 29)) = ys[1]? := hf 1 _ rfl
  have g2 : DataW.trod enc Tryd.prog W 0 (fun _ => true) true n 3 (([c0, c1, c2].drop 2).take (Tryd.prog.cellsOf 3)) = ys[2]? := hf 2 _ rfl
  rw [show Tryd.prog.cellsOf 29 = 1 by kernel_rfl] at g0 g1
  rw [show Tryd.prog.cellsOf 3 = 1 by kernel_rfl] at g2
  match ys, hyl with
  | [y0, y1, y2], _ =>
   obtain ⟨n0, e0, _, w0⟩ := DataW.trod_int Tryd.underlying29 (x := y0) g0
   obtain ⟨n1, e1, _, w1⟩ := DataW.trod_int Tryd.underlying29 (x := y1) g1
   obtain ⟨n2, e2, _, _⟩ := DataW.trod_int Tryd.underlying3 (x := y2) g2
   simp at e0 e1 e2
   exact ⟨⟨n0, n1, n2⟩, by rw [e0, e1, e2], wf_u64 w0, wf_u64 w1⟩
end Sc
end Go.Proofs.YthjehlocmikchaaDoor
namespace Go.Proofs.YthjehlocmikchaaDoor
namespace Sc
open Go
def insF (f : Fo) : List Fo → List Fo
 | [] => [f]
 | x :: t => if slt x.rc.key f.rc.key then x :: insF f t else if x.rc.key = f.rc.key then (if f.rc.ver ≥ x.rc.ver then f :: t else x :: t) else f :: x :: t
def kLt (x y : Fo) : Prop := slt x.rc.key y.rc.key = true
def fnd (D : List Fo) (k : ByteArray) : Option Fo := D.find? fun x => decide (x.rc.key = k)
theorem kLt_trans {x y z : Fo} (a : kLt x y) (b : kLt y z) : kLt x z := slt_trans a b
theorem ins_mem {f x : Fo} : ∀ {D : List Fo}, x ∈ insF f D → x = f ∨ x ∈ D
 | [], h => .inl (by simpa [insF] using h)
 | y :: t, h => by
  unfold insF at h
  split at h
  ·rcases List.mem_cons.1 h with e | e
   ·exact .inr (by simp [e])
   ·exact (ins_mem e).imp id fun q => List.mem_cons_of_mem _ q
  ·split at h
   ·split at h
    ·rcases List.mem_cons.1 h with e | e
     ·exact .inl e
     ·exact .inr (List.mem_cons_of_mem _ e)
    ·exact .inr h
   ·rcases List.mem_cons.1 h with e | e
    ·exact .inl e
    ·exact .inr e
theorem ins_sorted {f : Fo} : ∀ {D : List Fo}, D.Pairwise kLt → (insF f D).Pairwise kLt
 | [], _ => by simp [insF]
 | y :: t, h => by
  obtain ⟨h1, h2⟩ := List.pairwise_cons.1 h
  unfold insF
  split
  ·rename_i q
   refine List.pairwise_cons.2 ⟨fun z hz => ?_, ins_sorted h2⟩
   rcases ins_mem hz with rfl | hz
   ·exact q
   ·exact h1 z hz
  ·rename_i q
   split
   ·rename_i e
    split
    ·exact List.pairwise_cons.2 ⟨fun z hz => by have := h1 z hz; unfold kLt at this ⊢; rw [← e]; exact this, h2⟩
    ·exact h
   ·rename_i e
    refine List.pairwise_cons.2 ⟨fun z hz => ?_, h⟩
    have hfy : kLt f y := by
     rcases slt_or (a := y.rc.key) (b := f.rc.key) (by simpa using q) with e' | e'
     ·exact absurd e' e
     ·exact e'
    rcases List.mem_cons.1 hz with rfl | hz
    ·exact hfy
    ·exact kLt_trans hfy (h1 z hz)
theorem fnd_none {D : List Fo} {k : ByteArray} (h : ∀ x ∈ D, x.rc.key ≠ k) : fnd D k = none := List.find?_eq_none.2 fun x hx => by simpa using h x hx
theorem fnd_mem {D : List Fo} {k : ByteArray} {x : Fo} (h : fnd D k = some x) : x ∈ D ∧ x.rc.key = k := ⟨List.mem_of_find?_eq_some h, by simpa using List.find?_some h⟩
theorem kLt_ne {x y : Fo} (h : kLt x y) : x.rc.key ≠ y.rc.key := fun e => by unfold kLt at h; rw [e, slt_irrefl] at h; cases h
theorem fnd_ins {f : Fo} (k : ByteArray) : ∀ {D : List Fo}, D.Pairwise kLt → fnd (insF f D) k = if f.rc.key = k then (match fnd D k with | none => some f | some x => if f.rc.ver ≥ x.rc.ver then some f else some x) else fnd D k
 | [], _ => by
  unfold fnd insF
  by_cases e : f.rc.key = k <;> simp [e]
 | y :: t, h => by
  obtain ⟨h1, h2⟩ := List.pairwise_cons.1 h
  have ih := fnd_ins (f := f) k h2
  have cons : ∀ (z : Fo) (l : List Fo), fnd (z :: l) k = if z.rc.key = k then some z else fnd l k := fun z l => by
   unfold fnd; rw [List.find?_cons]
   by_cases e : z.rc.key = k <;> simp [e]
  unfold insF
  split
  ·rename_i q
   rw [cons, cons, ih]
   by_cases e : y.rc.key = k
   ·have : f.rc.key ≠ k := fun e' => by rw [e, e', slt_irrefl] at q; cases q
    rw [if_pos e, if_neg this, if_pos e]
   ·rw [if_neg e, if_neg e]
  ·rename_i q
   split
   ·rename_i e
    have hn : y.rc.key = k → fnd t k = none := fun ek => fnd_none fun x hx e' => kLt_ne (h1 x hx) (ek.trans e'.symm)
    split
    ·rename_i hv
     rw [cons, cons]
     by_cases ek : f.rc.key = k
     ·rw [if_pos ek, if_pos ek, if_pos (e.trans ek)]; simp [hv]
     ·rw [if_neg ek, if_neg ek, if_neg (fun q => ek (e ▸ q))]
    ·rename_i hv
     rw [cons]
     by_cases ek : f.rc.key = k
     ·rw [if_pos ek, if_pos (e.trans ek)]; simp [hv]
     ·rw [if_neg ek]
   ·rename_i e
    rw [cons f, cons]
    by_cases ek : f.rc.key = k
    ·have hy : y.rc.key ≠ k := fun q => e (q.trans ek.symm)
     have hfy : kLt f y := by
      rcases slt_or (a := y.rc.key) (b := f.rc.key) (by simpa using q) with e' | e'
      ·exact absurd e' e
      ·exact e'
     have : fnd t k = none := fnd_none fun x hx e' => kLt_ne (kLt_trans hfy (h1 x hx)) (ek.trans e'.symm)
     rw [if_pos ek, if_pos ek, if_neg hy, this]
    ·rw [if_neg ek, if_neg ek]
theorem rise_eq : ∀ {A B : List Fo}, A.Pairwise kLt → B.Pairwise kLt → (∀ x, x ∈ A ↔ x ∈ B) → A = B
 | [], [], _, _, _ => rfl
 | [], b :: B, _, _, h => by have := (h b).2 (by simp); simp at this
 | a :: A, [], _, _, h => by have := (h a).1 (by simp); simp at this
 | a :: A, b :: B, ha, hb, h => by
  obtain ⟨a1, a2⟩ := List.pairwise_cons.1 ha
  obtain ⟨b1, b2⟩ := List.pairwise_cons.1 hb
  have e : a = b := by
   rcases List.mem_cons.1 ((h a).1 (by simp)) with e | e
   ·exact e
   ·rcases List.mem_cons.1 ((h b).2 (by simp)) with e' | e'
    ·exact e'.symm
    ·have p := b1 a e; have q := a1 b e'
     unfold kLt at p q
     rw [slt_asymm p] at q; cases q
  subst e
  congr 1
  refine rise_eq a2 b2 fun x => ⟨fun hx => ?_, fun hx => ?_⟩
  ·rcases List.mem_cons.1 ((h x).1 (List.mem_cons_of_mem _ hx)) with e | e
   ·exact absurd rfl (e ▸ kLt_ne (a1 x hx))
   ·exact e
  ·rcases List.mem_cons.1 ((h x).2 (List.mem_cons_of_mem _ hx)) with e | e
   ·exact absurd rfl (e ▸ kLt_ne (b1 x hx))
   ·exact e
abbrev foV (f : Fo) : Value := .agg f.cs.toArray
theorem foV_inj {a b : Fo} (h : foV a = foV b) : a = b := by
 obtain ⟨a1, a2, a3, ⟨a4, a5, a6, a7⟩⟩ := a
 obtain ⟨b1, b2, b3, ⟨b4, b5, b6, b7⟩⟩ := b
 simp only [foV, Fo.cs, Value.agg.injEq, Array.mk.injEq, List.cons.injEq, Value.int.injEq, Value.string.injEq, true_and, and_true] at h
 simp only [Fo.mk.injEq, Rc.mk.injEq]
 exact ⟨h.1, h.2.1, h.2.2.1, h.2.2.2.1, h.2.2.2.2.1, h.2.2.2.2.2.1, h.2.2.2.2.2.2⟩
def Both (kv : List (ByteArray × Value)) (D : List Fo) : Prop := ∀ k, lk kv k = (fnd D k).map foV
theorem Both.nil : Both [] [] := fun _ => rfl
theorem Both.put {kv : List (ByteArray × Value)} {D : List Fo} (b : Both kv D) (s : D.Pairwise kLt) {f : Fo} (h : ∀ x, fnd D f.rc.key = some x → f.rc.ver ≥ x.rc.ver) : Both (kput kv f.rc.key (foV f)) (insF f D) := fun k => by
 rw [lk_kput, fnd_ins k s, b k]
 by_cases e : k = f.rc.key
 ·subst e
  rw [if_pos rfl, if_pos rfl]
  cases q : fnd D f.rc.key with
  | none => rfl
  | some x => simp [h x q]
 ·rw [if_neg e, if_neg (Ne.symm e)]
theorem Both.keep {kv : List (ByteArray × Value)} {D : List Fo} (b : Both kv D) (s : D.Pairwise kLt) {f x : Fo} (h : fnd D f.rc.key = some x) (hv : ¬ f.rc.ver ≥ x.rc.ver) : Both kv (insF f D) := fun k => by
 rw [fnd_ins k s, b k]
 by_cases e : f.rc.key = k
 ·subst e
  rw [if_pos rfl, h]; simp [hv]
 ·rw [if_neg e]
theorem lk_of_mem {κ : Type} [DecidableEq κ] : ∀ {l : List (κ × Value)} {p : κ × Value}, (l.map (·.1)).Nodup → p ∈ l → lk l p.1 = some p.2
 | (c, u) :: t, p, hn, hp => by
  simp only [List.map_cons, List.nodup_cons] at hn
  unfold lk
  rcases List.mem_cons.1 hp with rfl | hp
  ·simp
  ·have hne : c ≠ p.1 := fun e => hn.1 (e ▸ List.mem_map_of_mem hp)
   rw [if_neg hne]; exact lk_of_mem hn.2 hp
theorem Both.entry {kv : List (ByteArray × Value)} {D : List Fo} (b : Both kv D) (hn : (kv.map (·.1)).Nodup) {p : ByteArray × Value} (hp : p ∈ kv) : ∃ f ∈ D, f.rc.key = p.1 ∧ p.2 = foV f := by
 have := b p.1
 rw [lk_of_mem hn hp] at this
 cases q : fnd D p.1 with
 | none => rw [q] at this; cases this
 | some f =>
  rw [q] at this
  obtain ⟨h1, h2⟩ := fnd_mem q
  exact ⟨f, h1, h2, by simpa using this⟩
theorem fnd_self {D : List Fo} (s : D.Pairwise kLt) {f : Fo} (hf : f ∈ D) : fnd D f.rc.key = some f := by
 cases q : fnd D f.rc.key with
 | none => have := List.find?_eq_none.1 q f hf; simp at this
 | some x =>
  obtain ⟨h1, h2⟩ := fnd_mem q
  by_cases e : x = f
  ·rw [e]
  ·exfalso
   obtain ⟨i, hi, rfl⟩ := List.getElem_of_mem h1
   obtain ⟨j, hj, rfl⟩ := List.getElem_of_mem hf
   rw [List.pairwise_iff_getElem] at s
   rcases Nat.lt_trichotomy i j with h | h | h
   ·exact kLt_ne (s i j hi hj h) h2
   ·subst h; exact e rfl
   ·exact kLt_ne (s j i hj hi h) h2.symm
theorem Both.back {kv : List (ByteArray × Value)} {D : List Fo} (b : Both kv D) (s : D.Pairwise kLt) {f : Fo} (hf : f ∈ D) : (f.rc.key, foV f) ∈ kv := by
 have := b f.rc.key
 rw [fnd_self s hf] at this
 exact lk_mem _ _ _ this
def liveL (rs : List Fo) : List Fo := rs.foldl (fun D f => insF f D) []
theorem fold_sorted : ∀ (rs : List Fo) {D : List Fo}, D.Pairwise kLt → (rs.foldl (fun D f => insF f D) D).Pairwise kLt
 | [], _, h => h
 | f :: rs, D, h => fold_sorted rs (ins_sorted h)
theorem live_sorted (rs : List Fo) : (liveL rs).Pairwise kLt := fold_sorted rs List.Pairwise.nil
theorem live_app (rs : List Fo) (f : Fo) : liveL (rs ++ [f]) = insF f (liveL rs) := by unfold liveL; rw [List.foldl_append]; rfl
theorem ins_len (f : Fo) : ∀ D : List Fo, (insF f D).length ≤ D.length + 1
 | [] => by simp [insF]
 | y :: t => by
  unfold insF
  split
  ·have := ins_len f t; simp; omega
  ·split
   ·split <;> simp
   ·simp
theorem live_len (rs : List Fo) : (liveL rs).length ≤ rs.length := by
 have : ∀ (rs : List Fo) (D : List Fo), (rs.foldl (fun D f => insF f D) D).length ≤ D.length + rs.length := by
  intro rs
  induction rs with
  | nil => intro D; exact Nat.le_refl _
  | cons f rs ih => intro D; have := ih (insF f D); have := ins_len f D; simp; omega
 have := this rs []
 rw [List.length_nil, Nat.zero_add] at this
 exact this
end Sc
end Go.Proofs.YthjehlocmikchaaDoor
namespace Go.Proofs.YthjehlocmikchaaDoor
open Go
open Go.Proofs.YthjehlocmikchaaDoor renaming hl_val → lv, hl_step → lp, hl_nil → ln, hx_seq → xs, hx_region → xr, hx_cond → xc, hx_block → xb, hx_loopT → xl, hx_cut → xk, hx_has → xh, hx_skip → xi, hx_ret → xt, hx_exit → xe, seqQ_n → qn, seqQ_exit → qe, blockQ_n → bn, blockQ_here → bh, hv_move → vm, hv_assign → va, hv_arith → vr, hv_load → vl, hv_loads → vL, hv_field → vf, hv_build → vb, hv_index → vi, hp_pure → pp, hp_read → pr, hp_no → pn, has_cons → hc, has_nil → hn, hcells_cons → cc, hcells_nil → cn, rowcell → rc, hs_call → sc
set_option maxRecDepth 100000
set_option maxHeartbeats 4000000
theorem TyTCf.agg29 : aggB Tryd.prog 29 = some false := by kernel_rfl
theorem TyTCf.agg3 : aggB Tryd.prog 3 = some false := by kernel_rfl
theorem TyTCf.agg32 : aggB Tryd.prog 32 = some false := by kernel_rfl
theorem TyTCf.agg45 : aggB Tryd.prog 45 = some true := by kernel_rfl
theorem TyTCf.agg9 : aggB Tryd.prog 9 = some false := by kernel_rfl
theorem TyTCf.cb28 : CallB Tryd.prog 28 := fun _ _ => Tryd.call28 _ _
theorem TyTCf.cb57 : CallB Tryd.prog 57 := fun _ _ => Tryd.call57 _ _
theorem TyTCf.el32 : elB Tryd.prog 32 = some 7 := by kernel_rfl
theorem TyTCf.el65 : elB Tryd.prog 65 = some 9 := by kernel_rfl
theorem TyTCf.el71 : elB Tryd.prog 71 = some 1 := by kernel_rfl
theorem TyTCf.fld36_3 : fldB Tryd.prog 36 3 = some 5 := by kernel_rfl
theorem TyTCf.fld43_1 : fldB Tryd.prog 43 1 = some 1 := by kernel_rfl
theorem TyTCf.fld43_2 : fldB Tryd.prog 43 2 = some 2 := by kernel_rfl
theorem TyTCf.fld45_3 : fldB Tryd.prog 45 3 = some 3 := by kernel_rfl
theorem TyTCf.mixed : Tryd.prog.follows .mixedOrders = true := by kernel_rfl
theorem TyTCf.pl45 : plB Tryd.prog 45 = some [(0, 1), (1, 1), (2, 1), (3, 4)] := by kernel_rfl
theorem TyTCf.sz32 : szB Tryd.prog 32 = some 1 := by kernel_rfl
theorem TyTCf.sz36 : szB Tryd.prog 36 = some 9 := by kernel_rfl
theorem TyTCf.sz45 : szB Tryd.prog 45 = some 7 := by kernel_rfl
theorem TyTCf.u32 : Tryd.prog.underlying 32 = some (.slice 45) := by kernel_rfl
theorem TyTCf.u65 : Tryd.prog.underlying 65 = some (.slice 36) := by kernel_rfl
theorem TyTCf.u71 : Tryd.prog.underlying 71 = some (.slice 3) := by kernel_rfl
theorem TyTCf.z36 : zeroB Tryd.prog 36 (.agg #[(.int .i64 0), (.bool false), (.int .u64 0), (.int .u64 0), (.int .i64 0), (.slice none 0 0), (.int .i64 0), (.int .i64 0), (.bool false)]) := by unfold zeroB; kernel_rfl
theorem TyTCf.z45 : zeroB Tryd.prog 45 (.agg #[(.int .i64 0), (.int .i64 0), (.int .i64 0), (.int .i64 0), (.int .u64 0), (.string ByteArray.empty), (.string ByteArray.empty)]) := by unfold zeroB; kernel_rfl
theorem ext_pushed_f57_sh {h h1 : Heap} {o : Obj} (e : h1 = Array.push h o) : Ext h h1 := by rw [e]; exact Ext.push _ _
theorem f25_sh (l : Option Addr) (a6 : Nat) (a8 : Nat) (h : Heap) (R : Value → Heap → Prop)
  (H : (∀ nb h1, nb = Array.size h → h1 = Array.push h (.cells #[] 36) → HAppend Tryd.prog 65 65 (.slice (some ⟨nb, 0, none⟩) 0 0) (.slice l a6 a8) h1 (fun vv h2 => ∃ ap : Option Addr, ∃ a0 a1 : Nat, vv = (.slice ap a0 a1) ∧ (∃ (I4 : Int → Heap → Prop) (b3 : Int → Heap → Nat), I4 0 h2 ∧ (∀ (v : Int) (h3 : Heap), I4 v h3 → (((decide (v < (a0 : Int))) = true → (∀ b1 h4, b1 = Array.size h3 → h4 = Array.push h3 (.cells #[] 45) → (∃ a9 a7 : Nat, l = some ⟨a9, a7, none⟩ ∧ (0 : Int) ≤ v ∧ v < (a6 : Int) ∧ (∃ x : Option Addr, ∃ b4 b2 : Nat, hcell h4 a9 ((a7 + (Int.toNat v) * 9) + 5) = some (.slice x b4 b2) ∧ HAppend Tryd.prog 32 32 (.slice (some ⟨b1, 0, none⟩) 0 0) (.slice x b4 b2) h4 (fun vv h5 => ∃ b0 : Option Addr, ∃ a5 a4 : Nat, vv = (.slice b0 a5 a4) ∧ (∃ a2 a3 : Nat, ap = some ⟨a2, a3, none⟩ ∧ (0 : Int) ≤ v ∧ v < (a0 : Int) ∧ (HW h5 a2 ((a3 + (Int.toNat v) * 9) + 5) ∧ ∀ h6, h6 = hset h5 a2 ((a3 + (Int.toNat v) * 9) + 5) (.slice b0 a5 a4) → (I4 (IntKind.i64.wrap (v + 1)) h6 ∧ b3 (IntKind.i64.wrap (v + 1)) h6 < b3 v h3)))))))) ∧ ((decide (v < (a0 : Int))) = false → R (.slice ap a0 a1) h3))))))) :
  HC Tryd.prog 25 #[(.slice l a6 a8)] h R := by
 refine hc_of (args := [(.slice l a6 a8)]) Tryd.func25 rfl Tryd.ntmps25 (Nat.le_of_ble_eq_true rfl) ?_
 refine xs (xr ?_)
 refine lv rfl rfl (va rfl) ?_
 refine ln (qn (xs (xr ?_)))
 refine lp rfl rfl (hn_buildSlice (n := 0) (vs := []) (cs := #[]) TyTCf.u65 TyTCf.sz36 TyTCf.z36 rfl rfl (by kernel_rfl) ?_)
 intro nb h1 d0 b8
 replace H := H nb h1 d0 b8
 have d2 := ext_pushed_f57_sh b8
 refine lv rfl rfl (vm rfl) ?_
 refine lp rfl rfl (hs_append rfl rfl (HAppend.mono H ?_))
 rintro _ h2 ⟨ap, a0, a1, rfl, H⟩
 refine lv rfl rfl (va rfl) ?_
 refine ln (qn (xs (xs (xr ?_))))
 refine lv rfl rfl (vm rfl) (lv rfl rfl (v := (.int .i64 (a0 : Int))) (hv_len (n := a0) TyTCf.u65 rfl) (lv rfl rfl (vm rfl) ?_))
 refine ln (qn (xb ?_))
 obtain ⟨I4, b3, c9, c7⟩ := H
 refine xl (σ := Int) (fun s => [(0, (.slice l a6 a8)), (3, (.slice ap a0 a1)), (9, (.int .i64 (a0 : Int))), (10, (.int .i64 s))]) (fun s h' => I4 s h' ∧ True) (fun s h' => b3 s h') 0 ⟨c9, trivial⟩ (hc rfl (hc rfl (hc rfl (hc rfl hn)))) ?_
 rintro v ρ h3 ⟨c8, -⟩
 have H := c7 v h3 c8
 refine xs (xr ?_)
 refine lv rfl rfl (vr rfl rfl rfl) ?_
 refine ln (qn (xs ?_))
 refine xc (b := decide (v < (a0 : Int))) rfl (fun b5 => ?_) (fun b5 => ?_)
 ·replace H := H.1 b5
  refine xi (qn (xs (xb (xs (xr ?_)))))
  refine lv rfl rfl (vm rfl) (lv rfl rfl (va rfl) ?_)
  refine ln (qn (xr ?_))
  refine lv rfl rfl (vm rfl) (lv rfl rfl (vm rfl) ?_)
  refine lp rfl rfl (hn_buildSlice (n := 0) (vs := []) (cs := #[]) TyTCf.u32 TyTCf.sz45 TyTCf.z45 rfl rfl (by kernel_rfl) ?_)
  intro b1 h4 c4 b6
  replace H := H b1 h4 c4 b6
  have d1 := ext_pushed_f57_sh b6
  refine lv rfl rfl (vm rfl) (lv rfl rfl (vm rfl) ?_)
  obtain ⟨a9, a7, b7, c1, b9, Hq⟩ := H
  subst b7
  have H := Hq; clear Hq
  refine lv rfl rfl (v := (ptr a9 (a7 + (Int.toNat v) * 9))) (vi TyTCf.el65 rfl rfl c1 b9) (lv rfl rfl (v := (ptr a9 ((a7 + (Int.toNat v) * 9) + 5))) (vf TyTCf.fld36_3 (b := a9) (o := a7 + (Int.toNat v) * 9) rfl) ?_)
  obtain ⟨x, b4, b2, c6, H⟩ := H
  refine lv rfl rfl (vl TyTCf.agg32 rfl c6) ?_
  refine lp rfl rfl (hs_append rfl rfl (HAppend.mono H ?_))
  rintro _ h5 ⟨b0, a5, a4, rfl, H⟩
  obtain ⟨a2, a3, b7, c5, c3, Hq⟩ := H
  subst b7
  have H := Hq; clear Hq
  refine lv rfl rfl (v := (ptr a2 (a3 + (Int.toNat v) * 9))) (vi TyTCf.el65 rfl rfl c5 c3) (lv rfl rfl (v := (ptr a2 ((a3 + (Int.toNat v) * 9) + 5))) (vf TyTCf.fld36_3 (b := a2) (o := a3 + (Int.toNat v) * 9) rfl) ?_)
  obtain ⟨c0, H⟩ := H
  refine lp rfl rfl (hn_store (v := (.slice b0 a5 a4)) rfl rfl TyTCf.sz32 rfl c0 ?_)
  intro h6 c2
  replace H := H h6 c2
  refine ln (bn (qn (xr ?_)))
  refine lv rfl rfl (vr rfl rfl rfl) (lv rfl rfl (vm rfl) ?_)
  refine ln (qn ?_)
  exact ⟨IntKind.i64.wrap (v + 1), ⟨⟨H.1, trivial⟩, H.2⟩, (hc rfl (hc rfl (hc rfl (hc rfl hn))))⟩
 ·replace H := H.2 b5
  refine xe (qe (qe (bh (qn (xs (xr ?_))))))
  refine lv rfl rfl (vm rfl) (lv rfl rfl (va rfl) ?_)
  refine ln (qn (xt ?_))
  exact endQ_ret _ (res_one Tryd.results25 (rv_tmp rfl)) H
theorem f29_sh (l : Option Addr) (d2 : Nat) (d4 : Nat) (h : Heap) (R : Value → Heap → Prop)
  (H : HC Tryd.prog 28 #[(.slice l d2 d4)] h (fun vv h1 => ∃ r : Option Addr, ∃ c5 e3 : Nat, vv = (.slice r c5 e3) ∧ (∃ (I1 : Option Addr → Nat → Nat → Int → Heap → Prop) (g8 : Option Addr → Nat → Nat → Int → Heap → Nat), I1 none 0 0 0 h1 ∧ (∀ (d8 : Option Addr) (c9 : Nat) (d1 : Nat) (v : Int) (h2 : Heap), I1 d8 c9 d1 v h2 → (((decide (v < (c5 : Int))) = true → (∃ e0 d9 : Nat, r = some ⟨e0, d9, none⟩ ∧ (0 : Int) ≤ v ∧ v < (c5 : Int) ∧ (∃ x : Int, hcell h2 e0 (d9 + (Int.toNat v) * 1) = some (.int .i64 x) ∧ (∃ d6 d5 : Nat, l = some ⟨d6, d5, none⟩ ∧ (0 : Int) ≤ x ∧ x < (d2 : Int) ∧ (∃ f1 : Option Addr, ∃ c6 e4 : Nat, hcell h2 d6 ((d5 + (Int.toNat x) * 9) + 5) = some (.slice f1 c6 e4) ∧ (∃ (f5 : Option Addr → Nat → Nat → Int → Heap → Prop) (f2 : Option Addr → Nat → Nat → Int → Heap → Nat), f5 d8 c9 d1 0 h2 ∧ (∀ (b2 : Option Addr) (a2 : Nat) (a6 : Nat) (b6 : Int) (h3 : Heap), f5 b2 a2 a6 b6 h3 → (((decide (b6 < (c6 : Int))) = true → (∃ e8 : Option Addr → Nat → Nat → Heap → Prop, (∃ c2 c4 : Nat, f1 = some ⟨c2, c4, none⟩ ∧ (0 : Int) ≤ b6 ∧ b6 < (c6 : Int) ∧ (∃ b1 b0 b5 a5 a0 : Int, ∃ a1 a4 : ByteArray, hcell h3 c2 (c4 + (Int.toNat b6) * 7) = some (.int .i64 b1) ∧ hcell h3 c2 ((c4 + (Int.toNat b6) * 7) + 1) = some (.int .i64 b0) ∧ hcell h3 c2 ((c4 + (Int.toNat b6) * 7) + 2) = some (.int .i64 b5) ∧ hcell h3 c2 ((c4 + (Int.toNat b6) * 7) + 3) = some (.int .i64 a5) ∧ hcell h3 c2 ((c4 + (Int.toNat b6) * 7) + 4) = some (.int .u64 a0) ∧ hcell h3 c2 ((c4 + (Int.toNat b6) * 7) + 5) = some (.string a1) ∧ hcell h3 c2 ((c4 + (Int.toNat b6) * 7) + 6) = some (.string a4) ∧ (∃ (f4 : Int → Prop) (f3 : Int → Nat), f4 0 ∧ (∀ (a3 : Int), f4 a3 → (∃ j : Bool, (((decide (a3 < (a2 : Int))) = true → (∃ c7 c8 : Nat, b2 = some ⟨c7, c8, none⟩ ∧ (0 : Int) ≤ a3 ∧ a3 < (a2 : Int) ∧ (∃ e9 : ByteArray, hcell h3 c7 (((c8 + (Int.toNat a3) * 7) + 3) + 2) = some (.string e9) ∧ (j = (slt e9 a1))))) ∧ ((decide (a3 < (a2 : Int))) = false → (j = false))) ∧ ((j = true → (f4 (IntKind.i64.wrap (a3 + 1)) ∧ f3 (IntKind.i64.wrap (a3 + 1)) < f3 a3)) ∧ (j = false → (∃ e6 : Bool, (((a3 == (a2 : Int)) = true → (e6 = true)) ∧ ((a3 == (a2 : Int)) = false → (∃ b7 b8 : Nat, b2 = some ⟨b7, b8, none⟩ ∧ (0 : Int) ≤ a3 ∧ a3 < (a2 : Int) ∧ (∃ f0 : ByteArray, hcell h3 b7 (((b8 + (Int.toNat a3) * 7) + 3) + 2) = some (.string f0) ∧ (e6 = (!decide (f0 = a1))))))) ∧ ((e6 = true → (∀ (f : Nat) (h6 : Heap), Array.size h3 ≤ f → f < Array.size h6 → Ext h3 h6 → (∀ nb h7, nb = Array.size h6 → h7 = Array.push h6 (.cells #[(.int .i64 0), (.int .i64 0), (.int .i64 0), (.int .i64 0), (.int .u64 0), (.string ByteArray.empty), (.string ByteArray.empty)] 45) → HAppend Tryd.prog 32 32 (.slice b2 a2 a6) (.slice (some ⟨nb, 0, none⟩) 1 1) h7 (fun vv h8 => Kp [f] h7 h8 ∧ ∃ ap : Option Addr, ∃ b9 c0 : Nat, vv = (.slice ap b9 c0) ∧ (0 ≤ (IntKind.i64.wrap (a3 + 1) : Int) ∧ IntKind.i64.wrap (a3 + 1) ≤ (b9 : Int) ∧ (b9 : Int) ≤ (c0 : Int) ∧ ∀ sl : Option Addr, sl = slA ap (Int.toNat (IntKind.i64.wrap (a3 + 1))) 7 c0 → (0 ≤ (a3 : Int) ∧ a3 ≤ (b9 : Int) ∧ (b9 : Int) ≤ (c0 : Int) ∧ ∀ e7 : Option Addr, e7 = slA ap (Int.toNat a3) 7 c0 → HCopy Tryd.prog 32 32 (.slice sl (Int.toNat (b9 : Int) - Int.toNat (IntKind.i64.wrap (a3 + 1))) (c0 - Int.toNat (IntKind.i64.wrap (a3 + 1)))) (.slice e7 (Int.toNat (b9 : Int) - Int.toNat a3) (c0 - Int.toNat a3)) h8 (fun vv h9 => Kp [f] h8 h9 ∧ ∃ n : Nat, vv = (.int .i64 (n : Int)) ∧ (∃ d7 e1 : Nat, ap = some ⟨d7, e1, none⟩ ∧ (0 : Int) ≤ a3 ∧ a3 < (b9 : Int) ∧ (HWs h9 d7 (e1 + (Int.toNat a3) * 7) 7 ∧ Off d7 [f] ∧ ∀ g6, g6 = hsets h9 d7 (e1 + (Int.toNat a3) * 7) [(.int .i64 b1), (.int .i64 b0), (.int .i64 b5), (.int .i64 a5), (.int .u64 a0), (.string a1), (.string a4)] → (e8 (some ⟨d7, e1, none⟩) b9 c0 g6)))))))))) ∧ (e6 = false → (∃ a7 a9 : Nat, b2 = some ⟨a7, a9, none⟩ ∧ (0 : Int) ≤ a3 ∧ a3 < (a2 : Int) ∧ (∃ e5 : Int, hcell h3 a7 (((a9 + (Int.toNat a3) * 7) + 3) + 1) = some (.int .u64 e5) ∧ (((decide (a0 ≥ e5)) = true → (∀ (h6 : Heap), Ext h3 h6 → (HWs h6 a7 (a9 + (Int.toNat a3) * 7) 7 ∧ ∀ g7, g7 = hsets h6 a7 (a9 + (Int.toNat a3) * 7) [(.int .i64 b1), (.int .i64 b0), (.int .i64 b5), (.int .i64 a5), (.int .u64 a0), (.string a1), (.string a4)] → (e8 (some ⟨a7, a9, none⟩) a2 a6 g7)))) ∧ ((decide (a0 ≥ e5)) = false → (∀ (h6 : Heap), Ext h3 h6 → (e8 (some ⟨a7, a9, none⟩) a2 a6 h6)))))))))))))))) ∧ (∀ (d0 : Option Addr) (c1 : Nat) (c3 : Nat) (h4 : Heap), e8 d0 c1 c3 h4 → (f5 d0 c1 c3 (IntKind.i64.wrap (b6 + 1)) h4 ∧ f2 d0 c1 c3 (IntKind.i64.wrap (b6 + 1)) h4 < f2 b2 a2 a6 b6 h3)))) ∧ ((decide (b6 < (c6 : Int))) = false → (I1 b2 a2 a6 (IntKind.i64.wrap (v + 1)) h3 ∧ g8 b2 a2 a6 (IntKind.i64.wrap (v + 1)) h3 < g8 d8 c9 d1 v h2)))))))))) ∧ ((decide (v < (c5 : Int))) = false → R (.slice d8 c9 d1) h2)))))) :
  HC Tryd.prog 29 #[(.slice l d2 d4)] h R := by
 refine hc_of (args := [(.slice l d2 d4)]) Tryd.func29 rfl Tryd.ntmps29 (Nat.le_of_ble_eq_true rfl) ?_
 refine xs (xr ?_)
 refine lv rfl rfl (va rfl) ?_
 refine ln (qn (xs (xr ?_)))
 refine lv rfl rfl (va rfl) ?_
 refine ln (qn (xs (xs (xr ?_))))
 refine lv rfl rfl (vm rfl) ?_
 refine lp rfl rfl (sc TyTCf.cb28 rfl (HC.mono H ?_))
 rintro _ h1 ⟨r, c5, e3, rfl, H⟩
 refine lv rfl rfl (v := (.int .i64 (c5 : Int))) (hv_len (n := c5) TyTCf.u71 rfl) (lv rfl rfl (vm rfl) ?_)
 refine ln (qn (xb ?_))
 obtain ⟨I1, g8, n5, n4⟩ := H
 refine xl (σ := Option Addr × Nat × Nat × Int) (fun s => [(0, (.slice l d2 d4)), (3, (.slice s.1 s.2.1 s.2.2.1)), (10, (.slice r c5 e3)), (11, (.int .i64 (c5 : Int))), (12, (.int .i64 s.2.2.2))]) (fun s h' => I1 s.1 s.2.1 s.2.2.1 s.2.2.2 h' ∧ True) (fun s h' => g8 s.1 s.2.1 s.2.2.1 s.2.2.2 h') (none, 0, 0, 0) ⟨n5, trivial⟩ (hc rfl (hc rfl (hc rfl (hc rfl (hc rfl hn))))) ?_
 rintro ⟨d8, c9, d1, v⟩ ρ h2 ⟨n6, -⟩
 have H := n4 d8 c9 d1 v h2 n6
 refine xs (xr ?_)
 refine lv rfl rfl (vr rfl rfl rfl) ?_
 refine ln (qn (xs ?_))
 refine xc (b := decide (v < (c5 : Int))) rfl (fun i3 => ?_) (fun i3 => ?_)
 ·replace H := H.1 i3
  refine xi (qn (xs (xb (xs (xr ?_)))))
  obtain ⟨e0, d9, d3, n7, n3, Hq⟩ := H
  subst d3
  have H := Hq; clear Hq
  refine lv rfl rfl (v := (ptr e0 (d9 + (Int.toNat v) * 1))) (vi TyTCf.el71 rfl rfl n7 n3) ?_
  obtain ⟨x, n2, H⟩ := H
  refine lv rfl rfl (vl TyTCf.agg3 rfl n2) (lv rfl rfl (va rfl) ?_)
  refine ln (qn (xs (xr ?_)))
  refine lv rfl rfl (vm rfl) (lv rfl rfl (vm rfl) ?_)
  obtain ⟨d6, d5, d3, l9, n0, Hq⟩ := H
  subst d3
  have H := Hq; clear Hq
  refine lv rfl rfl (v := (ptr d6 (d5 + (Int.toNat x) * 9))) (vi TyTCf.el65 rfl rfl l9 n0) (lv rfl rfl (v := (ptr d6 ((d5 + (Int.toNat x) * 9) + 5))) (vf TyTCf.fld36_3 (b := d6) (o := d5 + (Int.toNat x) * 9) rfl) ?_)
  obtain ⟨f1, c6, e4, k7, H⟩ := H
  refine lv rfl rfl (vl TyTCf.agg32 rfl k7) (lv rfl rfl (v := (.int .i64 (c6 : Int))) (hv_len (n := c6) TyTCf.u32 rfl) (lv rfl rfl (vm rfl) ?_))
  refine ln (qn (xb ?_))
  obtain ⟨f5, f2, m4, l2⟩ := H
  refine xl (σ := Option Addr × Nat × Nat × Int) (fun s => [(0, (.slice (some ⟨d6, d5, none⟩) d2 d4)), (3, (.slice s.1 s.2.1 s.2.2.1)), (10, (.slice (some ⟨e0, d9, none⟩) c5 e3)), (11, (.int .i64 (c5 : Int))), (12, (.int .i64 v)), (20, (.slice f1 c6 e4)), (21, (.int .i64 (c6 : Int))), (22, (.int .i64 s.2.2.2))]) (fun s h' => f5 s.1 s.2.1 s.2.2.1 s.2.2.2 h' ∧ True) (fun s h' => f2 s.1 s.2.1 s.2.2.1 s.2.2.2 h') (d8, c9, d1, 0) ⟨m4, trivial⟩ (hc rfl (hc rfl (hc rfl (hc rfl (hc rfl (hc rfl (hc rfl (hc rfl hn)))))))) ?_
  rintro ⟨b2, a2, a6, b6⟩ ρ h3 ⟨j5, -⟩
  have H := l2 b2 a2 a6 b6 h3 j5
  refine xs (xr ?_)
  refine lv rfl rfl (vr rfl rfl rfl) ?_
  refine ln (qn (xs ?_))
  refine xc (b := decide (b6 < (c6 : Int))) rfl (fun f8 => ?_) (fun f8 => ?_)
  ·replace H := H.1 f8
   refine xi (qn ?_)
   obtain ⟨e8, f9, g1⟩ := H
   refine xk (fun ρ h' => ∃ d0 : Option Addr, ∃ c1 c3 : Nat, (e8 d0 c1 c3 h' ∧ True) ∧ Has ρ [(0, (.slice (some ⟨d6, d5, none⟩) d2 d4)), (3, (.slice d0 c1 c3)), (10, (.slice (some ⟨e0, d9, none⟩) c5 e3)), (11, (.int .i64 (c5 : Int))), (12, (.int .i64 v)), (20, (.slice f1 c6 e4)), (21, (.int .i64 (c6 : Int))), (22, (.int .i64 b6))]) ?_ ?_
   ·have H := f9; clear f9 g1
    refine xb (xs (xr ?_))
    obtain ⟨c2, c4, d3, k0, j6, Hq⟩ := H
    subst d3
    have H := Hq; clear Hq
    refine lv rfl rfl (v := (ptr c2 (c4 + (Int.toNat b6) * 7))) (vi TyTCf.el32 rfl rfl k0 j6) ?_
    obtain ⟨b1, b0, b5, a5, a0, a1, a4, k4, m7, m0, j7, k6, l3, j1, H⟩ := H
    refine lv rfl rfl (vL (vs := [(.int .i64 b1), (.int .i64 b0), (.int .i64 b5), (.int .i64 a5), (.int .u64 a0), (.string a1), (.string a4)]) TyTCf.agg45 TyTCf.sz45 rfl (cc k4 (cc m7 (cc m0 (cc j7 (cc k6 (cc l3 (cc j1 cn)))))))) ?_
    refine lp rfl rfl (hn_alloc TyTCf.z45 ?_)
    intro f h5 i0 g9
    have j4 := ext_pushed_f57_sh g9
    have i7 : Array.size h3 ≤ f := Nat.le_of_eq (Eq.symm i0)
    have i1 : h5[f]? = some (.cells #[(.int .i64 0), (.int .i64 0), (.int .i64 0), (.int .i64 0), (.int .u64 0), (.string ByteArray.empty), (.string ByteArray.empty)] 45 (0, 0)) := by rw [g9]; exact push_new i0
    refine lp rfl rfl (hn_stores (vs := [(.int .i64 b1), (.int .i64 b0), (.int .i64 b5), (.int .i64 a5), (.int .u64 a0), (.string a1), (.string a4)]) rfl rfl TyTCf.sz45 rfl (HWs_row i1 (by simp)) ?_)
    intro h6 i4
    have a8 : h6[f]? = some (.cells #[(.int .i64 b1), (.int .i64 b0), (.int .i64 b5), (.int .i64 a5), (.int .u64 a0), (.string a1), (.string a4)] 45 (0, 0)) := row_hsets_eq i4 i1 (by simp [sets])
    have e2 := ext_hsets i4 j4 i7
    refine ln (qn (xs (xr ?_)))
    refine lv rfl rfl (va rfl) ?_
    refine ln (qn (xs (xb ?_)))
    obtain ⟨f4, f3, l0, j8⟩ := H
    refine xl (σ := Int) (fun s => [(0, (.slice (some ⟨d6, d5, none⟩) d2 d4)), (3, (.slice b2 a2 a6)), (7, (ptr f 0)), (8, (.int .i64 s)), (10, (.slice (some ⟨e0, d9, none⟩) c5 e3)), (11, (.int .i64 (c5 : Int))), (12, (.int .i64 v)), (20, (.slice (some ⟨c2, c4, none⟩) c6 e4)), (21, (.int .i64 (c6 : Int))), (22, (.int .i64 b6))]) (fun s h' => f4 s ∧ h6 = h') (fun s _ => f3 s) 0 ⟨l0, rfl⟩ (hc rfl (hc rfl (hc rfl (hc rfl (hc rfl (hc rfl (hc rfl (hc rfl (hc rfl (hc rfl hn)))))))))) ?_
    rintro a3 ρ _ ⟨l1, rfl⟩
    have H := j8 a3 l1
    refine xs ?_
    obtain ⟨j, f6, g0⟩ := H
    refine xk (fun ρ h' => h6 = h' ∧ Has ρ [(0, (.slice (some ⟨d6, d5, none⟩) d2 d4)), (3, (.slice b2 a2 a6)), (7, (ptr f 0)), (8, (.int .i64 a3)), (10, (.slice (some ⟨e0, d9, none⟩) c5 e3)), (11, (.int .i64 (c5 : Int))), (12, (.int .i64 v)), (20, (.slice (some ⟨c2, c4, none⟩) c6 e4)), (21, (.int .i64 (c6 : Int))), (22, (.int .i64 b6)), (41, (.bool j))]) ?_ ?_
    ·have H := f6; clear f6 g0
     refine hx_draw TyTCf.mixed [.pure, .pure, .pure, .pure, .pure, .pure, .pure, .pure, .pure, .pure, .read, .pure, .pure, .read, .pure, .pure] [0, 1, 2, 3, 4, 5, 6, 7, 8, 9, 10, 11, 12, 13, 14, 15] (by kernel_rfl) ?_
     refine pp (i := 0) rfl (wanted_0 rfl) rfl (.int .i64 a3) (fun _ => vm rfl) ?_
     refine pp (i := 1) rfl (wanted_0 rfl) rfl (.slice b2 a2 a6) (fun _ => vm rfl) ?_
     refine pp (i := 2) rfl (wanted_0 rfl) rfl (.int .i64 (a2 : Int)) (fun _ => hv_len (n := a2) TyTCf.u32 rfl) ?_
     refine pp (i := 3) rfl (wanted_0 rfl) rfl (.bool (decide (a3 < (a2 : Int)))) (fun _ => vr rfl rfl rfl) ?_
     refine pp (i := 4) rfl (wanted_0 rfl) rfl (.bool (decide (a3 < (a2 : Int)))) (fun _ => vm rfl) ?_
     rcases bool_or (decide (a3 < (a2 : Int))) with b3 | b3
     ·replace H := H.1 b3
      refine pp (i := 5) rfl (wanted_y rfl rfl rfl b3) rfl (.slice b2 a2 a6) (fun _ => vm rfl) ?_
      refine pp (i := 6) rfl (wanted_y rfl rfl rfl b3) rfl (.int .i64 a3) (fun _ => vm rfl) ?_
      obtain ⟨c7, c8, d3, l5, k2, Hq⟩ := H
      subst d3
      have H := Hq; clear Hq
      refine pp (i := 7) rfl (wanted_y rfl rfl rfl b3) rfl (ptr c7 (c8 + (Int.toNat a3) * 7)) (fun _ => vi TyTCf.el32 rfl rfl l5 k2) ?_
      refine pp (i := 8) rfl (wanted_y rfl rfl rfl b3) rfl (ptr c7 ((c8 + (Int.toNat a3) * 7) + 3)) (fun _ => vf TyTCf.fld45_3 (b := c7) (o := c8 + (Int.toNat a3) * 7) rfl) ?_
      refine pp (i := 9) rfl (wanted_y rfl rfl rfl b3) rfl (ptr c7 (((c8 + (Int.toNat a3) * 7) + 3) + 2)) (fun _ => vf TyTCf.fld43_2 (b := c7) (o := (c8 + (Int.toNat a3) * 7) + 3) rfl) ?_
      obtain ⟨e9, n1, H⟩ := H
      refine pr (i := 10) rfl (wanted_y rfl rfl rfl b3) rfl (.string e9) (fun _ he => vl TyTCf.agg9 rfl (Ext.cell he (Ext.cell e2 n1))) ?_
      refine pp (i := 11) rfl (wanted_y rfl rfl rfl b3) rfl (ptr f 3) (fun _ => vf TyTCf.fld45_3 (b := f) (o := 0) rfl) ?_
      refine pp (i := 12) rfl (wanted_y rfl rfl rfl b3) rfl (ptr f 5) (fun _ => vf TyTCf.fld43_2 (b := f) (o := 3) rfl) ?_
      refine pr (i := 13) rfl (wanted_y rfl rfl rfl b3) rfl (.string a1) (fun _ he => vl TyTCf.agg9 rfl (Ext.cell he (rc a8 rfl))) ?_
      refine pp (i := 14) rfl (wanted_y rfl rfl rfl b3) rfl (.bool (slt e9 a1)) (fun _ => hv_str rfl rfl rfl) ?_
      refine pp (i := 15) rfl (wanted_0 rfl) rfl (.bool (slt e9 a1)) (fun _ => hv_pick_t rfl b3 rfl) ?_
      refine hp_nil ?_
      refine qn ?_
      obtain rfl := H
      exact ⟨rfl, (hc rfl (hc rfl (hc rfl (hc rfl (hc rfl (hc rfl (hc rfl (hc rfl (hc rfl (hc rfl (hc rfl hn)))))))))))⟩
     ·replace H := H.2 b3
      refine pn (i := 5) rfl (wanted_n rfl rfl rfl b3) ?_
      refine pn (i := 6) rfl (wanted_n rfl rfl rfl b3) ?_
      refine pn (i := 7) rfl (wanted_n rfl rfl rfl b3) ?_
      refine pn (i := 8) rfl (wanted_n rfl rfl rfl b3) ?_
      refine pn (i := 9) rfl (wanted_n rfl rfl rfl b3) ?_
      refine pn (i := 10) rfl (wanted_n rfl rfl rfl b3) ?_
      refine pn (i := 11) rfl (wanted_n rfl rfl rfl b3) ?_
      refine pn (i := 12) rfl (wanted_n rfl rfl rfl b3) ?_
      refine pn (i := 13) rfl (wanted_n rfl rfl rfl b3) ?_
      refine pn (i := 14) rfl (wanted_n rfl rfl rfl b3) ?_
      refine pp (i := 15) rfl (wanted_0 rfl) rfl (.bool false) (fun _ => hv_pick_f rfl b3 rfl) ?_
      refine hp_nil ?_
      refine qn ?_
      obtain rfl := H
      exact ⟨rfl, (hc rfl (hc rfl (hc rfl (hc rfl (hc rfl (hc rfl (hc rfl (hc rfl (hc rfl (hc rfl (hc rfl hn)))))))))))⟩
    ·have H := g0; clear f6 g0
     rintro ρ _ ⟨rfl, hH⟩
     refine xh _ hH ?_
     refine xc (b := j) rfl (fun f7 => ?_) (fun f7 => ?_)
     ·replace H := H.1 f7
      refine xi (qn (xb (xr ?_)))
      refine lv rfl rfl (vm rfl) (lv rfl rfl (vr rfl rfl rfl) (lv rfl rfl (va rfl) ?_))
      refine ln (bn (qn ?_))
      exact ⟨IntKind.i64.wrap (a3 + 1), ⟨⟨H.1, rfl⟩, H.2⟩, (hc rfl (hc rfl (hc rfl (hc rfl (hc rfl (hc rfl (hc rfl (hc rfl (hc rfl (hc rfl hn))))))))))⟩
     ·replace H := H.2 f7
      refine xe (qe (qe (bh (qn ?_))))
      obtain ⟨e6, g2, g4⟩ := H
      refine xk (fun ρ h' => h6 = h' ∧ Has ρ [(0, (.slice (some ⟨d6, d5, none⟩) d2 d4)), (3, (.slice b2 a2 a6)), (7, (ptr f 0)), (8, (.int .i64 a3)), (10, (.slice (some ⟨e0, d9, none⟩) c5 e3)), (11, (.int .i64 (c5 : Int))), (12, (.int .i64 v)), (20, (.slice (some ⟨c2, c4, none⟩) c6 e4)), (21, (.int .i64 (c6 : Int))), (22, (.int .i64 b6)), (59, (.bool e6))]) ?_ ?_
      ·have H := g2; clear g2 g4
       refine hx_draw TyTCf.mixed [.pure, .pure, .pure, .pure, .pure, .pure, .pure, .pure, .pure, .pure, .read, .pure, .pure, .read, .pure, .pure] [0, 1, 2, 3, 4, 5, 6, 7, 8, 9, 10, 11, 12, 13, 14, 15] (by kernel_rfl) ?_
       refine pp (i := 0) rfl (wanted_0 rfl) rfl (.int .i64 a3) (fun _ => vm rfl) ?_
       refine pp (i := 1) rfl (wanted_0 rfl) rfl (.slice b2 a2 a6) (fun _ => vm rfl) ?_
       refine pp (i := 2) rfl (wanted_0 rfl) rfl (.int .i64 (a2 : Int)) (fun _ => hv_len (n := a2) TyTCf.u32 rfl) ?_
       refine pp (i := 3) rfl (wanted_0 rfl) rfl (.bool (a3 == (a2 : Int))) (fun _ => vr rfl rfl rfl) ?_
       refine pp (i := 4) rfl (wanted_0 rfl) rfl (.bool (a3 == (a2 : Int))) (fun _ => vm rfl) ?_
       rcases bool_or (a3 == (a2 : Int)) with b4 | b4
       ·replace H := H.1 b4
        refine pn (i := 5) rfl (wanted_n rfl rfl rfl b4) ?_
        refine pn (i := 6) rfl (wanted_n rfl rfl rfl b4) ?_
        refine pn (i := 7) rfl (wanted_n rfl rfl rfl b4) ?_
        refine pn (i := 8) rfl (wanted_n rfl rfl rfl b4) ?_
        refine pn (i := 9) rfl (wanted_n rfl rfl rfl b4) ?_
        refine pn (i := 10) rfl (wanted_n rfl rfl rfl b4) ?_
        refine pn (i := 11) rfl (wanted_n rfl rfl rfl b4) ?_
        refine pn (i := 12) rfl (wanted_n rfl rfl rfl b4) ?_
        refine pn (i := 13) rfl (wanted_n rfl rfl rfl b4) ?_
        refine pn (i := 14) rfl (wanted_n rfl rfl rfl b4) ?_
        refine pp (i := 15) rfl (wanted_0 rfl) rfl (.bool true) (fun _ => hv_pick_t rfl b4 rfl) ?_
        refine hp_nil ?_
        refine qn ?_
        obtain rfl := H
        exact ⟨rfl, (hc rfl (hc rfl (hc rfl (hc rfl (hc rfl (hc rfl (hc rfl (hc rfl (hc rfl (hc rfl (hc rfl hn)))))))))))⟩
       ·replace H := H.2 b4
        refine pp (i := 5) rfl (wanted_y rfl rfl rfl b4) rfl (.slice b2 a2 a6) (fun _ => vm rfl) ?_
        refine pp (i := 6) rfl (wanted_y rfl rfl rfl b4) rfl (.int .i64 a3) (fun _ => vm rfl) ?_
        obtain ⟨b7, b8, d3, m2, m8, Hq⟩ := H
        subst d3
        have H := Hq; clear Hq
        refine pp (i := 7) rfl (wanted_y rfl rfl rfl b4) rfl (ptr b7 (b8 + (Int.toNat a3) * 7)) (fun _ => vi TyTCf.el32 rfl rfl m2 m8) ?_
        refine pp (i := 8) rfl (wanted_y rfl rfl rfl b4) rfl (ptr b7 ((b8 + (Int.toNat a3) * 7) + 3)) (fun _ => vf TyTCf.fld45_3 (b := b7) (o := b8 + (Int.toNat a3) * 7) rfl) ?_
        refine pp (i := 9) rfl (wanted_y rfl rfl rfl b4) rfl (ptr b7 (((b8 + (Int.toNat a3) * 7) + 3) + 2)) (fun _ => vf TyTCf.fld43_2 (b := b7) (o := (b8 + (Int.toNat a3) * 7) + 3) rfl) ?_
        obtain ⟨f0, l6, H⟩ := H
        refine pr (i := 10) rfl (wanted_y rfl rfl rfl b4) rfl (.string f0) (fun _ he => vl TyTCf.agg9 rfl (Ext.cell he (Ext.cell e2 l6))) ?_
        refine pp (i := 11) rfl (wanted_y rfl rfl rfl b4) rfl (ptr f 3) (fun _ => vf TyTCf.fld45_3 (b := f) (o := 0) rfl) ?_
        refine pp (i := 12) rfl (wanted_y rfl rfl rfl b4) rfl (ptr f 5) (fun _ => vf TyTCf.fld43_2 (b := f) (o := 3) rfl) ?_
        refine pr (i := 13) rfl (wanted_y rfl rfl rfl b4) rfl (.string a1) (fun _ he => vl TyTCf.agg9 rfl (Ext.cell he (rc a8 rfl))) ?_
        refine pp (i := 14) rfl (wanted_y rfl rfl rfl b4) rfl (.bool (!decide (f0 = a1))) (fun _ => hv_str rfl rfl rfl) ?_
        refine pp (i := 15) rfl (wanted_0 rfl) rfl (.bool (!decide (f0 = a1))) (fun _ => hv_pick_f rfl b4 rfl) ?_
        refine hp_nil ?_
        refine qn ?_
        obtain rfl := H
        exact ⟨rfl, (hc rfl (hc rfl (hc rfl (hc rfl (hc rfl (hc rfl (hc rfl (hc rfl (hc rfl (hc rfl (hc rfl hn)))))))))))⟩
      ·have H := g4; clear g2 g4
       rintro ρ _ ⟨rfl, hH⟩
       refine xh _ hH ?_
       refine xc (b := e6) rfl (fun g3 => ?_) (fun g3 => ?_)
       ·replace H := H.1 g3
        refine xs (xr ?_)
        refine lv rfl rfl (vm rfl) (lv rfl rfl (v := (.agg #[(.int .i64 0), (.int .i64 0), (.int .i64 0), (.int .i64 0), (.int .u64 0), (.string ByteArray.empty), (.string ByteArray.empty)])) (vb (vs := []) (cs := #[(.int .i64 0), (.int .i64 0), (.int .i64 0), (.int .i64 0), (.int .u64 0), (.string ByteArray.empty), (.string ByteArray.empty)]) TyTCf.z45 TyTCf.pl45 rfl (by kernel_rfl)) ?_)
        replace H := H f h6 i7 (row_lt a8) e2
        refine lp rfl rfl (hn_buildSlice (n := 1) (vs := [(0, (.agg #[(.int .i64 0), (.int .i64 0), (.int .i64 0), (.int .i64 0), (.int .u64 0), (.string ByteArray.empty), (.string ByteArray.empty)]))]) (cs := #[(.int .i64 0), (.int .i64 0), (.int .i64 0), (.int .i64 0), (.int .u64 0), (.string ByteArray.empty), (.string ByteArray.empty)]) TyTCf.u32 TyTCf.sz45 TyTCf.z45 rfl rfl (by kernel_rfl) ?_)
        intro nb h7 l8 i5
        replace H := H nb h7 l8 i5
        have k1 := ext_pushed_f57_sh i5
        replace a8 := Ext.row k1 a8
        refine lp rfl rfl (hs_append rfl rfl (HAppend.mono H ?_))
        rintro _ h8 ⟨j9, ap, b9, c0, rfl, H⟩
        replace a8 := Kp.row j9 (by simp) a8
        refine lv rfl rfl (va rfl) ?_
        refine ln (qn (xs ?_))
        refine hx_draw TyTCf.mixed [.pure, .pure, .pure, .pure, .pure, .pure, .pure, .wild] [0, 1, 2, 3, 4, 5, 6, 7] (by kernel_rfl) ?_
        refine pp (i := 0) rfl (wanted_0 rfl) rfl (.slice ap b9 c0) (fun _ => vm rfl) ?_
        refine pp (i := 1) rfl (wanted_0 rfl) rfl (.int .i64 a3) (fun _ => vm rfl) ?_
        refine pp (i := 2) rfl (wanted_0 rfl) rfl (.int .i64 (IntKind.i64.wrap (a3 + 1))) (fun _ => vr rfl rfl rfl) ?_
        obtain ⟨l4, j3, m3, H⟩ := H
        obtain ⟨sl, hq65⟩ : ∃ q, q = slA ap (Int.toNat (IntKind.i64.wrap (a3 + 1))) 7 c0 := ⟨_, rfl⟩
        replace H := H sl hq65
        refine pp (i := 3) rfl (wanted_0 rfl) rfl (.slice sl (Int.toNat (b9 : Int) - Int.toNat (IntKind.i64.wrap (a3 + 1))) (c0 - Int.toNat (IntKind.i64.wrap (a3 + 1)))) (fun _ => hv_slice (l := IntKind.i64.wrap (a3 + 1)) (r := (b9 : Int)) TyTCf.u32 TyTCf.sz45 rfl (sl_some rfl) sh_none l4 j3 m3 hq65) ?_
        refine pp (i := 4) rfl (wanted_0 rfl) rfl (.slice ap b9 c0) (fun _ => vm rfl) ?_
        refine pp (i := 5) rfl (wanted_0 rfl) rfl (.int .i64 a3) (fun _ => vm rfl) ?_
        obtain ⟨i9, m9, m5, H⟩ := H
        obtain ⟨e7, hq69⟩ : ∃ q, q = slA ap (Int.toNat a3) 7 c0 := ⟨_, rfl⟩
        replace H := H e7 hq69
        refine pp (i := 6) rfl (wanted_0 rfl) rfl (.slice e7 (Int.toNat (b9 : Int) - Int.toNat a3) (c0 - Int.toNat a3)) (fun _ => hv_slice (l := a3) (r := (b9 : Int)) TyTCf.u32 TyTCf.sz45 rfl (sl_some rfl) sh_none i9 m9 m5 hq69) ?_
        refine hp_wild (i := 7) rfl (wanted_0 rfl) rfl (hs_copy rfl rfl (HCopy.mono H ?_))
        rintro _ h9 ⟨m1, n, rfl, H⟩
        replace a8 := Kp.row m1 (by simp) a8
        refine hp_nil ?_
        refine qn (xr ?_)
        refine lv rfl rfl (vm rfl) (lv rfl rfl (vm rfl) (lv rfl rfl (vL (vs := [(.int .i64 b1), (.int .i64 b0), (.int .i64 b5), (.int .i64 a5), (.int .u64 a0), (.string a1), (.string a4)]) TyTCf.agg45 TyTCf.sz45 rfl (cc (rc a8 rfl) (cc (rc a8 rfl) (cc (rc a8 rfl) (cc (rc a8 rfl) (cc (rc a8 rfl) (cc (rc a8 rfl) (cc (rc a8 rfl) cn)))))))) ?_))
        obtain ⟨d7, e1, d3, k3, j2, Hq⟩ := H
        subst d3
        have H := Hq; clear Hq
        refine lv rfl rfl (v := (ptr d7 (e1 + (Int.toNat a3) * 7))) (vi TyTCf.el32 rfl rfl k3 j2) ?_
        obtain ⟨k8, k5, H⟩ := H
        refine lp rfl rfl (hn_stores (vs := [(.int .i64 b1), (.int .i64 b0), (.int .i64 b5), (.int .i64 a5), (.int .u64 a0), (.string a1), (.string a4)]) rfl rfl TyTCf.sz45 rfl k8 ?_)
        intro g6 i6
        replace H := H g6 i6
        replace a8 := row_hsets_ne i6 (k5 _ (by simp)) a8
        refine ln (bn (qn ?_))
        exact ⟨_, _, _, ⟨H, trivial⟩, (hc rfl (hc rfl (hc rfl (hc rfl (hc rfl (hc rfl (hc rfl (hc rfl hn))))))))⟩
       ·replace H := H.2 g3
        refine xs ?_
        refine hx_draw TyTCf.mixed [.pure, .pure, .read, .pure, .pure, .pure, .pure, .pure, .read, .pure] [0, 1, 2, 3, 4, 5, 6, 7, 8, 9] (by kernel_rfl) ?_
        refine pp (i := 0) rfl (wanted_0 rfl) rfl (ptr f 3) (fun _ => vf TyTCf.fld45_3 (b := f) (o := 0) rfl) ?_
        refine pp (i := 1) rfl (wanted_0 rfl) rfl (ptr f 4) (fun _ => vf TyTCf.fld43_1 (b := f) (o := 3) rfl) ?_
        refine pr (i := 2) rfl (wanted_0 rfl) rfl (.int .u64 a0) (fun _ he => vl TyTCf.agg29 rfl (Ext.cell he (rc a8 rfl))) ?_
        refine pp (i := 3) rfl (wanted_0 rfl) rfl (.slice b2 a2 a6) (fun _ => vm rfl) ?_
        refine pp (i := 4) rfl (wanted_0 rfl) rfl (.int .i64 a3) (fun _ => vm rfl) ?_
        obtain ⟨a7, a9, d3, i8, i2, Hq⟩ := H
        subst d3
        have H := Hq; clear Hq
        refine pp (i := 5) rfl (wanted_0 rfl) rfl (ptr a7 (a9 + (Int.toNat a3) * 7)) (fun _ => vi TyTCf.el32 rfl rfl i8 i2) ?_
        refine pp (i := 6) rfl (wanted_0 rfl) rfl (ptr a7 ((a9 + (Int.toNat a3) * 7) + 3)) (fun _ => vf TyTCf.fld45_3 (b := a7) (o := a9 + (Int.toNat a3) * 7) rfl) ?_
        refine pp (i := 7) rfl (wanted_0 rfl) rfl (ptr a7 (((a9 + (Int.toNat a3) * 7) + 3) + 1)) (fun _ => vf TyTCf.fld43_1 (b := a7) (o := (a9 + (Int.toNat a3) * 7) + 3) rfl) ?_
        obtain ⟨e5, m6, H⟩ := H
        refine pr (i := 8) rfl (wanted_0 rfl) rfl (.int .u64 e5) (fun _ he => vl TyTCf.agg29 rfl (Ext.cell he (Ext.cell e2 m6))) ?_
        refine pp (i := 9) rfl (wanted_0 rfl) rfl (.bool (decide (a0 ≥ e5))) (fun _ => vr rfl rfl rfl) ?_
        refine hp_nil ?_
        refine qn ?_
        refine xc (b := decide (a0 ≥ e5)) rfl (fun g5 => ?_) (fun g5 => ?_)
        ·replace H := H.1 g5
         refine xr ?_
         refine lv rfl rfl (vm rfl) (lv rfl rfl (vm rfl) (lv rfl rfl (vL (vs := [(.int .i64 b1), (.int .i64 b0), (.int .i64 b5), (.int .i64 a5), (.int .u64 a0), (.string a1), (.string a4)]) TyTCf.agg45 TyTCf.sz45 rfl (cc (rc a8 rfl) (cc (rc a8 rfl) (cc (rc a8 rfl) (cc (rc a8 rfl) (cc (rc a8 rfl) (cc (rc a8 rfl) (cc (rc a8 rfl) cn)))))))) (lv rfl rfl (v := (ptr a7 (a9 + (Int.toNat a3) * 7))) (vi TyTCf.el32 rfl rfl i8 i2) ?_)))
         replace H := H h6 e2
         obtain ⟨k9, H⟩ := H
         refine lp rfl rfl (hn_stores (vs := [(.int .i64 b1), (.int .i64 b0), (.int .i64 b5), (.int .i64 a5), (.int .u64 a0), (.string a1), (.string a4)]) rfl rfl TyTCf.sz45 rfl k9 ?_)
         intro g7 l7
         replace H := H g7 l7
         refine ln (bn (qn ?_))
         exact ⟨_, _, _, ⟨H, trivial⟩, (hc rfl (hc rfl (hc rfl (hc rfl (hc rfl (hc rfl (hc rfl (hc rfl hn))))))))⟩
        ·replace H := H.2 g5
         refine xi (bn ?_)
         replace H := H h6 e2
         refine qn ?_
         exact ⟨_, _, _, ⟨H, trivial⟩, (hc rfl (hc rfl (hc rfl (hc rfl (hc rfl (hc rfl (hc rfl (hc rfl hn))))))))⟩
   ·rintro ρ h4 ⟨d0, c1, c3, ⟨j0, -⟩, hH⟩
    have H := g1 d0 c1 c3 h4 j0; clear f9 g1
    refine xh _ hH ?_
    refine xr ?_
    refine lv rfl rfl (vr rfl rfl rfl) (lv rfl rfl (vm rfl) ?_)
    refine ln (qn ?_)
    exact ⟨(d0, c1, c3, IntKind.i64.wrap (b6 + 1)), ⟨⟨H.1, trivial⟩, H.2⟩, (hc rfl (hc rfl (hc rfl (hc rfl (hc rfl (hc rfl (hc rfl (hc rfl hn))))))))⟩
  ·replace H := H.2 f8
   refine xe (qe (qe (bh (bn (qn (xr ?_))))))
   refine lv rfl rfl (vr rfl rfl rfl) (lv rfl rfl (vm rfl) ?_)
   refine ln (qn ?_)
   exact ⟨(b2, a2, a6, IntKind.i64.wrap (v + 1)), ⟨⟨H.1, trivial⟩, H.2⟩, (hc rfl (hc rfl (hc rfl (hc rfl (hc rfl hn)))))⟩
 ·replace H := H.2 i3
  refine xe (qe (qe (bh (qn (xs (xr ?_))))))
  refine lv rfl rfl (vm rfl) (lv rfl rfl (va rfl) ?_)
  refine ln (qn (xt ?_))
  exact endQ_ret _ (res_one Tryd.results29 (rv_tmp rfl)) H
theorem f56_sh (a9 : Int) (b1 : Int) (b3 : Int) (a7 : Int) (a2 : Int) (a1 : ByteArray) (a4 : ByteArray) (b0 : Int) (a8 : Int) (b2 : Int) (a6 : Int) (a3 : Int) (a0 : ByteArray) (a5 : ByteArray) (h : Heap) (R : Value → Heap → Prop)
  (H : (∀ (h2 : Heap), Ext h h2 → (∃ r : Int, HC Tryd.prog 57 #[(.string a1), (.string a0)] h2 (fun vv h' => vv = (.int .i64 r) ∧ h' = h2) ∧ R (.int .i64 r) h2))) :
  HC Tryd.prog 56 #[(.agg #[(.int .i64 a9), (.int .i64 b1), (.int .i64 b3), (.int .i64 a7), (.int .u64 a2), (.string a1), (.string a4)]), (.agg #[(.int .i64 b0), (.int .i64 a8), (.int .i64 b2), (.int .i64 a6), (.int .u64 a3), (.string a0), (.string a5)])] h R := by
 refine hc_of (args := [(.agg #[(.int .i64 a9), (.int .i64 b1), (.int .i64 b3), (.int .i64 a7), (.int .u64 a2), (.string a1), (.string a4)]), (.agg #[(.int .i64 b0), (.int .i64 a8), (.int .i64 b2), (.int .i64 a6), (.int .u64 a3), (.string a0), (.string a5)])]) Tryd.func56 rfl Tryd.ntmps56 (Nat.le_of_ble_eq_true rfl) ?_
 refine xs (xr ?_)
 refine lp rfl rfl (hn_box (v := (.agg #[(.int .i64 a9), (.int .i64 b1), (.int .i64 b3), (.int .i64 a7), (.int .u64 a2), (.string a1), (.string a4)])) rfl ?_)
 intro a h1 c0 b7
 have b9 := ext_pushed_f57_sh b7
 have c6 : Array.size h ≤ a := Nat.le_of_eq (Eq.symm c0)
 have b4 : h1[a]? = some (.cells #[(.int .i64 a9), (.int .i64 b1), (.int .i64 b3), (.int .i64 a7), (.int .u64 a2), (.string a1), (.string a4)] 45 (0, 0)) := by rw [b7]; exact push_new c0
 refine lp rfl rfl (hn_box (v := (.agg #[(.int .i64 b0), (.int .i64 a8), (.int .i64 b2), (.int .i64 a6), (.int .u64 a3), (.string a0), (.string a5)])) rfl ?_)
 intro b h2 b5 b6
 have b8 := ext_pushed_f57_sh b6
 have c5 := Nat.ne_of_lt (Nat.lt_of_lt_of_eq (row_lt b4) (Eq.symm b5))
 have c4 : Array.size h ≤ b := Nat.le_trans (Ext.size b9) (Nat.le_of_eq (Eq.symm b5))
 have c3 : h2[b]? = some (.cells #[(.int .i64 b0), (.int .i64 a8), (.int .i64 b2), (.int .i64 a6), (.int .u64 a3), (.string a0), (.string a5)] 45 (0, 0)) := by rw [b6]; exact push_new b5
 replace b4 := Ext.row b8 b4
 have c2 := Ext.trans b9 b8
 refine lv rfl rfl (va rfl) ?_
 refine ln (qn (xs (xr ?_)))
 refine lv rfl rfl (v := (ptr a 3)) (vf TyTCf.fld45_3 (b := a) (o := 0) rfl) (lv rfl rfl (v := (ptr a 5)) (vf TyTCf.fld43_2 (b := a) (o := 3) rfl) (lv rfl rfl (vl TyTCf.agg9 rfl (rc b4 rfl)) (lv rfl rfl (v := (ptr b 3)) (vf TyTCf.fld45_3 (b := b) (o := 0) rfl) (lv rfl rfl (v := (ptr b 5)) (vf TyTCf.fld43_2 (b := b) (o := 3) rfl) (lv rfl rfl (vl TyTCf.agg9 rfl (rc c3 rfl)) ?_)))))
 replace H := H h2 c2
 obtain ⟨r, c1, H⟩ := H
 refine lv rfl rfl (hv_call TyTCf.cb57 (vs := [(.string a1), (.string a0)]) rfl c1) (lv rfl rfl (va rfl) ?_)
 refine ln (qn (xt ?_))
 exact endQ_ret _ (res_one Tryd.results56 (rv_tmp rfl)) H
end Go.Proofs.YthjehlocmikchaaDoor
namespace Go.Proofs.YthjehlocmikchaaDoor
open Go Go.Shelf Go.Sort
theorem one_eq : ∀ v : Value, v.oneCell' = oneC v := fun v => by cases v <;> rfl
theorem grown_of {w w' : World} (hs : Sim w w') (he : Ext w.heap w'.heap) : ∃ q os', w' = grow (w.drewN q) os' := by
  refine ⟨w'.drawn - w.drawn, w'.heap.extract w.heap.size w'.heap.size, ?_⟩
  obtain ⟨h1, t1, d1, o1, u1⟩ := w
  obtain ⟨h2, t2, d2, o2, u2⟩ := w'
  have e1 := hs.os; have e2 := hs.tape; have e3 := hs.output; have e4 := hs.drawn
  simp only at e1 e2 e3 e4 he
  subst e1; subst e2; subst e3
  unfold grow World.drewN
  simp only [World.mk.injEq, true_and, and_true]
  refine ⟨?_, by omega⟩
  apply Array.ext_getElem?
  intro i
  rw [Array.getElem?_append]
  split
  · rename_i hi; exact he.block i hi
  · rename_i hi
    rw [Array.getElem?_extract]
    have hsz := he.size
    by_cases h3 : i < h2.size
    · rw [if_pos (by omega)]; congr 1; omega
    · rw [if_neg (by omega)]; exact Array.getElem?_eq_none (by omega)
theorem calls_of {P : Program} {f : FuncId} {args : Array Value} {h : Heap} {R : Value → Heap → Prop} (hc : HC P f args h R) {w : World} (hw : w.heap = h) : Calls P f args w fun e w' => ∃ v, e = .returned v ∧ Sim w w' ∧ R v w'.heap := hc w hw
section
variable {α : Type} [Inhabited α]
theorem holds_of {E : Elt α} {T : TypeId} {N : Nat} {b o c : Nat} {L : List α} {w : World} (s : Sl E w.heap (some ⟨b, o, none⟩) c L) (ow : Own E.k T N w.heap (some ⟨b, o, none⟩) c) : HoldsK E.enc E.k w b o L.toArray := by
  intro j hj
  rw [size_flatK] at hj
  simp only [List.size_toArray] at hj
  have hk : 0 < E.k := by rcases Nat.eq_zero_or_pos E.k with h | h; · rw [h] at hj; omega
                          · exact h
  have hi : j / E.k < L.length := by rw [Nat.div_lt_iff_lt_mul hk]; exact hj
  have hr : j % E.k < E.k := Nat.mod_lt _ hk
  rw [get_flatK _ _ _ _ (by simpa using hj)]
  have hx : L[j / E.k]? = some L[j / E.k] := List.getElem?_eq_getElem hi
  have e1 : L.toArray[j / E.k]! = L[j / E.k] := by simp [hi]
  rw [e1]
  have hlen : j % E.k < (E.enc L[j / E.k]).length := by rw [E.len]; exact hr
  have hv : (E.enc L[j / E.k])[j % E.k]? = some (E.enc L[j / E.k])[j % E.k] := List.getElem?_eq_getElem hlen
  have e2 : (E.enc L[j / E.k])[j % E.k]! = (E.enc L[j / E.k])[j % E.k] := by simp [hlen]
  rw [e2]
  obtain ⟨b', o', e, hc⟩ := s.at hx
  cases e
  have h1 := hc.get hv
  have hd : j / E.k * E.k + j % E.k = j := by rw [Nat.mul_comm]; exact Nat.div_add_mod j E.k
  rw [Nat.add_assoc, hd] at h1
  refine ⟨by rw [cell_hcell]; exact h1, ?_⟩
  rcases ow with ⟨e, _⟩ | ⟨b2, o2, cs, e, _, h2, _⟩
  · cases e
  · cases e
    unfold World.frozen?
    simp only [h2]
    simp
theorem heap_sort {E : Elt α} {T : TypeId} {N : Nat} {b o c : Nat} {L : List α} {w : World} (s : Sl E w.heap (some ⟨b, o, none⟩) c L) (ow : Own E.k T N w.heap (some ⟨b, o, none⟩) c) {d : Array α} (hd : d.size = L.length) (m : Nat) (os : Array Obj) :
    Fr (· = b) w.heap (sortWorldK E.enc E.k w b o m d os).heap ∧ Sl E (sortWorldK E.enc E.k w b o m d os).heap (some ⟨b, o, none⟩) c d.toList ∧ Own E.k T N (sortWorldK E.enc E.k w b o m d os).heap (some ⟨b, o, none⟩) c ∧ Sim w (sortWorldK E.enc E.k w b o m d os) := by
  rcases ow with ⟨e, _⟩ | ⟨b2, o2, cs, e, hlow, h2, h3⟩
  · cases e
  cases e
  have hh : (sortWorldK E.enc E.k w b o m d os).heap = (w.heap.modify b (onCells (putCells id o (flatK E.enc E.k d)))) ++ os := rfl
  have hlt := row_lt h2
  have hrow : (sortWorldK E.enc E.k w b o m d os).heap[b]? = some (.cells (putCells id o (flatK E.enc E.k d) cs) T (0, 0)) := by
    rw [hh, Array.getElem?_append, if_pos (by simpa using hlt), Array.getElem?_modify, if_pos rfl, h2]; rfl
  have hother : ∀ i, i < w.heap.size → i ≠ b → (sortWorldK E.enc E.k w b o m d os).heap[i]? = w.heap[i]? := fun i hi hn => by
    rw [hh, Array.getElem?_append, if_pos (by simpa using hi), Array.getElem?_modify, if_neg (Ne.symm hn)]
  have hle := s.le
  have hfit : L.length * E.k ≤ c * E.k := Nat.mul_le_mul_right _ hle
  refine ⟨⟨by rw [hh]; simp, fun i hi hn => hother i hi hn⟩, Sl.of_row hrow (by simpa [hd] using hle) fun j v hv => ?_, .inr ⟨b, o, _, rfl, hlow, hrow, by simpa [putCells] using h3⟩, ⟨rfl, rfl, rfl, Nat.le_add_right _ _, by rw [hh]; simp, fun i hi => ?_⟩⟩
  · have hj := (List.getElem?_eq_some_iff.1 hv).1
    rw [flat_len, Array.length_toList, hd] at hj
    have hk : 0 < E.k := by rcases Nat.eq_zero_or_pos E.k with h | h; · rw [h] at hj; omega
                            · exact h
    have hjc : o + j < cs.size := by omega
    unfold putCells
    rw [Array.getElem?_mapIdx, Array.getElem?_eq_getElem hjc, Option.map_some, if_pos ⟨by omega, by rw [size_flatK, hd]; omega⟩, show o + j - o = j by omega, get_flatK _ _ _ _ (by rw [hd]; exact hj)]
    obtain ⟨i, x, r, h4, h5, rfl⟩ := flat_inv E d.toList j v hv
    have hr := (List.getElem?_eq_some_iff.1 h5).1
    rw [E.len] at hr
    have e1 : (i * E.k + r) / E.k = i := by rw [Nat.mul_comm, Nat.mul_add_div hk, Nat.div_eq_of_lt hr]; rfl
    have e2 : (i * E.k + r) % E.k = r := by rw [Nat.mul_comm, Nat.mul_add_mod, Nat.mod_eq_of_lt hr]
    rw [e1, e2]
    have h6 : d[i]? = some x := by simpa using h4
    have e3 : d[i]! = x := by
      obtain ⟨h7, h8⟩ := Array.getElem?_eq_some_iff.1 h6
      rw [getElem!_pos d i h7, h8]
    rw [e3]
    simp [h5]
  · by_cases hib : i = b
    · subst hib; rw [h2] at hi; cases hi
    · rw [hother i (row_lt hi) hib]; exact hi
theorem perm_of {d d' : Array α} (hp : PermIn 0 d.size d d') : d'.size = d.size ∧ d'.toList.Perm d.toList := by
  obtain ⟨h1, _, h3⟩ := hp
  refine ⟨h1, ?_⟩
  have e : ∀ x : Array α, (x.extract 0 x.size).toList = x.toList := fun x => by rw [Array.extract_size]
  have h4 : (d'.extract 0 d.size).toList = d'.toList := by rw [← h1]; exact e d'
  rw [h4, e d] at h3; exact h3
theorem sorted_of {lt : α → α → Bool} {d : Array α} {n : Nat} (hn : d.size = n) (hs : SortedIn lt 0 n d) : d.toList.Pairwise (fun x y => lt y x = false) := by
  rw [List.pairwise_iff_getElem]
  intro i j hi hj hij
  have hi' : i < d.size := by simpa using hi
  have hj' : j < d.size := by simpa using hj
  have := hs i j (Nat.zero_le _) hij (by omega)
  simpa [hi', hj'] using this
theorem hc_sort {P : Program} {ρ : Ren} (L0 : SlLaysF0.n6 P ρ) (E : Elt α) (aE : ∀ w, (isAgg (ρ.t 24)).run P w = .ok true w) (zE : ∀ w, (Go.sizeOf (ρ.t 24)).run P w = .ok E.k w) (cf : α → α → Int) (hO : SWO (ltOf cf)) (g : Nat) (cb : Array Value)
    (eg : ∀ args w, (callFunc g args).run P w = .ok (.enter g args) w) {h : Heap} {a : Option Addr} {c N : Nat} {T : TypeId} {L : List α} (s : Sl E h a c L) (ow : Own E.k T N h a c)
    (hcmp : ∀ h1, Fr (blkA a) h h1 → ∀ x y, HC P g (#[.agg (E.enc x).toArray, .agg (E.enc y).toArray] ++ cb) h1 fun v h2 => v = .int .i64 (cf x y) ∧ Ext h1 h2) (hsz : L.length < 4611686018427387904) :
    HC P (ρ.f 6) #[.slice a L.length c, .func (.func g) #[] cb] h fun v h' => v = .tuple #[] ∧ Fr (blkA a) h h' ∧ ∃ L', L'.Perm L ∧ L'.Pairwise (fun x y => ltOf cf y x = false) ∧ Sl E h' a c L' ∧ Own E.k T N h' a c := by
  by_cases hl : L = []
  · subst hl
    intro w hw
    refine (AnyF.slices_SortFunc_none L0 a c (.func (.func g) #[] cb) w).mono ?_
    rintro e w' ⟨rfl, rfl⟩
    exact ⟨_, rfl, Sim.refl _, rfl, by rw [hw]; exact Fr.refl _ _, [], List.Perm.refl _, List.Pairwise.nil, by rw [hw]; exact s, by rw [hw]; exact ow⟩
  · obtain ⟨b, o, rfl, _⟩ := s.addr (List.length_pos_iff.2 hl)
    intro w hw
    subst hw
    have hb : b < w.heap.size := (ow.low (blkA_of rfl)).2
    have hsz' : L.toArray.size = L.length := by simp
    have hcl : CmpLays P g cb E.enc E.k cf b o L.toArray.size w := by
      intro m os dk hdk x y
      obtain ⟨f1, _, _, s1⟩ := heap_sort s ow (d := dk) (by simpa using hdk) m os
      refine (hcmp _ (f1.mono fun i _ e => blkA_some.2 e) x y _ rfl).mono ?_
      rintro e w' ⟨v, rfl, hs, rfl, he⟩
      exact ⟨rfl, grown_of hs he⟩
    have hcon := AnyQ.slices_SortFunc L0 E.k aE zE E.enc E.len (fun x v hv => by rw [one_eq]; exact E.one x v hv) cf hO g cb b o c L.toArray w eg hcl (holds_of s ow) hb (by simpa using hsz)
    rw [hsz'] at hcon
    refine hcon.mono ?_
    rintro e w' ⟨rfl, d', n, os, hp, hs, rfl⟩
    obtain ⟨q1, q2⟩ := perm_of (d := L.toArray) (d' := d') (by rw [hsz']; exact hp)
    obtain ⟨f1, s1, o1, m1⟩ := heap_sort s ow (d := d') (by simpa using q1) n os
    exact ⟨_, rfl, m1, rfl, f1.mono fun i _ e => blkA_some.2 e, d'.toList, by simpa using q2, sorted_of (by simpa using q1) hs, s1, o1⟩
end
end Go.Proofs.YthjehlocmikchaaDoor
namespace Go.Proofs.YthjehlocmikchaaDoor
open Go Go.Shelf Go.Proofs
def Lay.sortF_ren : Go.Shelf.Ren := ⟨fun | 6 => 55 | 15 => 79 | 14 => 78 | 28 => 100 | 29 => 101 | 20 => 92 | 21 => 93 | 22 => 94 | 23 => 95 | 24 => 96 | 25 => 97 | 26 => 98 | 27 => 99 | 46 => 108 | 47 => 109 | 48 => 110 | 49 => 111 | 50 => 112 | 57 => 117 | n => n, fun | 22 => 32 | 24 => 45 | 25 => 109 | 3 => 3 | 39 => 122 | 0 => 0 | 53 => 86 | 55 => 29 | 4 => 4 | 46 => 133 | 45 => 132 | 50 => 137 | 5 => 5 | 9 => 9 | 66 => 142 | 70 => 146 | 76 => 148 | 77 => 149 | n => n, fun | n => n⟩
theorem Lay.sortF : Go.Proofs.SlLaysF0.n6 Tryd.prog Lay.sortF_ren := {
  mixed := by kernel_rfl,
  f6 := ⟨Tryd.f55.name, by decide, Tryd.func55.trans (congrArg some (by kernel_rfl))⟩,
  f14 := ⟨Tryd.f78.name, by decide, Tryd.func78.trans (congrArg some (by kernel_rfl))⟩,
  f15 := Tryd.func79.trans (congrArg some (by kernel_rfl)),
  f20 := ⟨Tryd.f92.name, by decide, Tryd.func92.trans (congrArg some (by kernel_rfl))⟩,
  f21 := ⟨Tryd.f93.name, by decide, Tryd.func93.trans (congrArg some (by kernel_rfl))⟩,
  f22 := ⟨Tryd.f94.name, by decide, Tryd.func94.trans (congrArg some (by kernel_rfl))⟩,
  f23 := ⟨Tryd.f95.name, by decide, Tryd.func95.trans (congrArg some (by kernel_rfl))⟩,
  f24 := ⟨Tryd.f96.name, by decide, Tryd.func96.trans (congrArg some (by kernel_rfl))⟩,
  f25 := ⟨Tryd.f97.name, by decide, Tryd.func97.trans (congrArg some (by kernel_rfl))⟩,
  f26 := ⟨Tryd.f98.name, by decide, Tryd.func98.trans (congrArg some (by kernel_rfl))⟩,
  f27 := ⟨Tryd.f99.name, by decide, Tryd.func99.trans (congrArg some (by kernel_rfl))⟩,
  f28 := Tryd.func100.trans (congrArg some (by kernel_rfl)),
  f29 := Tryd.func101.trans (congrArg some (by kernel_rfl)),
  f46 := ⟨Tryd.f108.name, by decide, Tryd.func108.trans (congrArg some (by kernel_rfl))⟩,
  f47 := Tryd.func109.trans (congrArg some (by kernel_rfl)),
  f48 := Tryd.func110.trans (congrArg some (by kernel_rfl)),
  f49 := ⟨Tryd.f111.name, by decide, Tryd.func111.trans (congrArg some (by kernel_rfl))⟩,
  f50 := ⟨Tryd.f112.name, by decide, Tryd.func112.trans (congrArg some (by kernel_rfl))⟩,
  f57 := ⟨Tryd.f117.name, by decide, Tryd.func117.trans (congrArg some (by kernel_rfl))⟩,
  t0 := Tryd.underlying0,
  a0 := Tryd.isAgg0,
  z0 := Tryd.sizeOf0,
  v0 := Tryd.zeroValue0,
  t3 := Tryd.underlying3,
  a3 := Tryd.isAgg3,
  z3 := Tryd.sizeOf3,
  v3 := Tryd.zeroValue3,
  t4 := Tryd.underlying4,
  a4 := Tryd.isAgg4,
  z4 := Tryd.sizeOf4,
  v4 := Tryd.zeroValue4,
  t5 := Tryd.underlying5,
  a5 := Tryd.isAgg5,
  z5 := Tryd.sizeOf5,
  v5 := Tryd.zeroValue5,
  t9 := Tryd.underlying9,
  a9 := Tryd.isAgg9,
  z9 := Tryd.sizeOf9,
  v9 := Tryd.zeroValue9,
  t22 := Tryd.underlying32,
  a22 := Tryd.isAgg32,
  z22 := Tryd.sizeOf32,
  v22 := Tryd.zeroValue32,
  t25 := Tryd.underlying109,
  a25 := Tryd.isAgg109,
  z25 := Tryd.sizeOf109,
  v25 := Tryd.zeroValue109,
  t39 := Tryd.underlying122,
  a39 := Tryd.isAgg122,
  z39 := Tryd.sizeOf122,
  v39 := Tryd.zeroValue122,
  t45 := Tryd.underlying132,
  a45 := Tryd.isAgg132,
  z45 := Tryd.sizeOf132,
  v45 := Tryd.zeroValue132,
  t46 := Tryd.underlying133,
  a46 := Tryd.isAgg133,
  z46 := Tryd.sizeOf133,
  v46 := Tryd.zeroValue133,
  t50 := Tryd.underlying137,
  a50 := Tryd.isAgg137,
  z50 := Tryd.sizeOf137,
  v50 := Tryd.zeroValue137,
  t53 := Tryd.underlying86,
  a53 := Tryd.isAgg86,
  z53 := Tryd.sizeOf86,
  v53 := Tryd.zeroValue86,
  t55 := Tryd.underlying29,
  a55 := Tryd.isAgg29,
  z55 := Tryd.sizeOf29,
  v55 := Tryd.zeroValue29,
  t66 := Tryd.underlying142,
  a66 := Tryd.isAgg142,
  z66 := Tryd.sizeOf142,
  v66 := Tryd.zeroValue142,
  t70 := Tryd.underlying146,
  a70 := Tryd.isAgg146,
  z70 := Tryd.sizeOf146,
  v70 := Tryd.zeroValue146,
  t76 := Tryd.underlying148,
  a76 := Tryd.isAgg148,
  z76 := Tryd.sizeOf148,
  v76 := Tryd.zeroValue148,
  t77 := Tryd.underlying149,
  a77 := Tryd.isAgg149,
  z77 := Tryd.sizeOf149,
  v77 := Tryd.zeroValue149 }
def Lay.cmpS_ren : Go.Shelf.Ren := ⟨fun | 106 => 57 | 213 => 80 | 265 => 102 | n => n, fun | 9 => 9 | 3 => 3 | n => n, fun | n => n⟩
theorem Lay.cmpS : Go.Proofs.Lays.n106 Tryd.prog Lay.cmpS_ren := {
  mixed := by kernel_rfl,
  f106 := Tryd.func57.trans (congrArg some (by kernel_rfl)),
  f213 := Tryd.func80.trans (congrArg some (by kernel_rfl)),
  f265 := Tryd.func102.trans (congrArg some (by kernel_rfl)),
  t3 := Tryd.underlying3,
  a3 := Tryd.isAgg3,
  z3 := Tryd.sizeOf3,
  v3 := Tryd.zeroValue3,
  t9 := Tryd.underlying9,
  a9 := Tryd.isAgg9,
  z9 := Tryd.sizeOf9,
  v9 := Tryd.zeroValue9 }
end Go.Proofs.YthjehlocmikchaaDoor
namespace Go.Proofs.YthjehlocmikchaaDoor
namespace Sc
open Go
theorem cmpB : ∀ x y : List UInt8, Lib.compareBytes x y = if x < y then -1 else if y < x then 1 else 0
 | [], [] => by simp [Lib.compareBytes]
 | [], _ :: _ => by simp [Lib.compareBytes]
 | _ :: _, [] => by simp [Lib.compareBytes]
 | a :: x, b :: y => by
  rw [Lib.compareBytes, cmpB x y]
  simp only [List.cons_lt_cons_iff]
  by_cases h1 : a < b
  ·simp [h1]
  ·by_cases h2 : b < a
   ·have : a ≠ b := fun e => by subst e; exact h1 h2
    simp [h1, h2, this]
   ·have e : a = b := UInt8.le_antisymm (UInt8.not_lt.1 h2) (UInt8.not_lt.1 h1)
    subst e; simp [h1]
theorem cmpS_c (a b : ByteArray) (h : Heap) : HC Tryd.prog 57 #[.string a, .string b] h fun v h' => v = .int .i64 (scmp a b) ∧ h' = h := by
 intro w hw
 refine (Any.strings_Compare Lay.cmpS a b w).mono ?_
 rintro e w' ⟨rfl, rfl⟩
 refine ⟨_, rfl, Sim.refl _, ?_, hw⟩
 rw [cmpB]; unfold scmp slt; simp
def cfF (x y : Fo) : Int := scmp x.rc.key y.rc.key
theorem less_c (x y : Fo) (h : Heap) : HC Tryd.prog 56 #[foV x, foV y] h fun v h' => v = .int .i64 (cfF x y) ∧ Ext h h' :=
 f56_sh _ _ _ _ _ _ _ _ _ _ _ _ _ _ _ _ fun h2 x2 => ⟨_, cmpS_c _ _ h2, rfl, x2⟩
theorem lt_cfF (x y : Fo) : ltOf cfF x y = slt x.rc.key y.rc.key := by
 unfold ltOf cfF scmp
 cases e : slt x.rc.key y.rc.key with
 | true => simp
 | false => cases e2 : slt y.rc.key x.rc.key <;> simp
theorem swo_cfF : Go.Sort.SWO (ltOf cfF) where
 irrefl x := by rw [lt_cfF]; exact slt_irrefl _
 trans x y z h1 h2 := by rw [lt_cfF] at *; exact slt_trans h1 h2
 ntrans x y z h1 h2 := by
  rw [lt_cfF] at *
  cases h : slt x.rc.key z.rc.key with
  | false => rfl
  | true =>
   exfalso
   rcases slt_or h1 with e | e
   ·rw [e] at h; rw [h] at h2; cases h2
   ·rw [slt_trans e h] at h2; cases h2
instance : Inhabited Fo := ⟨⟨0, 0, 0, 0, 0, ByteArray.empty, ByteArray.empty⟩⟩
theorem sortF_c {h : Heap} {a : Option Addr} {c N : Nat} {L : List Fo} (s : Sl eFo h a c L) (w : Own eFo.k tF N h a c) (hl : L.length ≤ 140737488355328) (hd : (L.map fun f => f.rc.key).Nodup) :
  HC Tryd.prog 55 #[.slice a L.length c, .func (.func 56) #[] #[]] h fun v h' => v = .tuple #[] ∧ Fr (blkA a) h h' ∧ ∃ L', L'.Perm L ∧ L'.Pairwise kLt ∧ Sl eFo h' a c L' ∧ Own eFo.k tF N h' a c := by
 refine (hc_sort Lay.sortF eFo Tryd.isAgg45 Tryd.sizeOf45 cfF swo_cfF 56 #[] (fun args w => Tryd.call56 args w) s w (fun h1 _ x y => ?_) (by omega)).mono ?_
 ·exact less_c x y h1
 ·rintro v h' ⟨rfl, f, L', hp, hs, s', w'⟩
  refine ⟨rfl, f, L', hp, ?_, s', w'⟩
  have hd' : (L'.map fun f => f.rc.key).Nodup := (hp.map _).nodup_iff.2 hd
  rw [List.pairwise_iff_getElem] at hs ⊢
  intro i j hi hj hij
  have := hs i j hi hj hij
  rw [lt_cfF] at this
  unfold kLt
  rcases slt_or this with e | e
  ·exfalso
   have : i = j := by
    have hi' : i < (L'.map fun f => f.rc.key).length := by simpa using hi
    have hj' : j < (L'.map fun f => f.rc.key).length := by simpa using hj
    rw [List.nodup_iff_pairwise_ne, List.pairwise_iff_getElem] at hd'
    exact absurd (by simpa using e.symm) (hd' i j hi' hj' hij)
   omega
  ·exact e
end Sc
end Go.Proofs.YthjehlocmikchaaDoor
namespace Go.Proofs.YthjehlocmikchaaDoor
namespace Stb
section
variable {β : Type}
structure Seg (M M' : List β) (a b : Nat) : Prop where
  len : M'.length = M.length
  ex : ∃ σ τ : Nat → Nat, (∀ p, σ (τ p) = p) ∧ (∀ p, τ (σ p) = p) ∧ (∀ p, (p < a ∨ b ≤ p) → σ p = p) ∧ ∀ p : Nat, M'[p]? = M[σ p]?
theorem Seg.refl (M : List β) (a b : Nat) : Seg M M a b := ⟨rfl, id, id, fun _ => rfl, fun _ => rfl, fun _ _ => rfl, fun _ => rfl⟩
theorem Seg.trans {M M' M'' : List β} {a b : Nat} (x : Seg M M' a b) (y : Seg M' M'' a b) : Seg M M'' a b := by
  obtain ⟨s, t, h1, h2, h3, h4⟩ := x.ex
  obtain ⟨u, v, k1, k2, k3, k4⟩ := y.ex
  exact ⟨y.len.trans x.len, fun p => s (u p), fun p => v (t p), fun p => by simp only [k1, h1], fun p => by simp only [h2, k2], fun p hp => by simp only [k3 p hp, h3 p hp], fun p => by rw [k4, h4]⟩
theorem Seg.mono {M M' : List β} {a b c d : Nat} (x : Seg M M' c d) (h1 : a ≤ c) (h2 : d ≤ b) : Seg M M' a b :=
  let ⟨s, t, k1, k2, k3, k4⟩ := x.ex
  ⟨x.len, s, t, k1, k2, fun p hp => k3 p (by omega), k4⟩
theorem Seg.out {M M' : List β} {a b : Nat} (x : Seg M M' a b) {p : Nat} (hp : p < a ∨ b ≤ p) : M'[p]? = M[p]? := by
  obtain ⟨s, t, _, _, k3, k4⟩ := x.ex
  rw [k4, k3 p hp]
theorem Seg.mem {M M' : List β} {a b : Nat} (x : Seg M M' a b) {p : Nat} (h1 : a ≤ p) (h2 : p < b) : ∃ q, a ≤ q ∧ q < b ∧ M'[p]? = M[q]? := by
  obtain ⟨s, t, k1, k2, k3, k4⟩ := x.ex
  refine ⟨s p, ?_, ?_, k4 p⟩
  · rcases Nat.lt_or_ge (s p) a with q | q
    · have := k3 (s p) (.inl q)
      have e : t (s (s p)) = t (s p) := congrArg t this
      rw [k2, k2] at e; omega
    · exact q
  · rcases Nat.lt_or_ge (s p) b with q | q
    · exact q
    · have := k3 (s p) (.inr q)
      have e : t (s (s p)) = t (s p) := congrArg t this
      rw [k2, k2] at e; omega
theorem Seg.swap {M : List β} {a b i j : Nat} {x y : β} (hi : M[i]? = some x) (hj : M[j]? = some y) (h1 : a ≤ i) (h2 : i < b) (h3 : a ≤ j) (h4 : j < b) :
    Seg M ((M.set i y).set j x) a b ∧ ∀ p : Nat, ((M.set i y).set j x)[p]? = M[if p = i then j else if p = j then i else p]? := by
  have li := (List.getElem?_eq_some_iff.1 hi).1
  have lj := (List.getElem?_eq_some_iff.1 hj).1
  have key : ∀ p : Nat, ((M.set i y).set j x)[p]? = M[if p = i then j else if p = j then i else p]? := fun p => by
    by_cases e1 : j = p
    · subst e1
      rw [List.getElem?_set_self (by simpa using lj)]
      by_cases e2 : j = i
      · subst e2; rw [if_pos rfl, hi]
      · rw [if_neg e2, if_pos rfl, hi]
    · rw [List.getElem?_set_ne e1]
      by_cases e2 : i = p
      · subst e2; rw [List.getElem?_set_self li, if_pos rfl, hj]
      · rw [List.getElem?_set_ne e2, if_neg (Ne.symm e2), if_neg (Ne.symm e1)]
  refine ⟨⟨by simp, _, fun p => if p = i then j else if p = j then i else p, fun p => ?_, fun p => ?_, fun p hp => ?_, key⟩, key⟩
  · simp only; split <;> (try split) <;> (try split) <;> omega
  · simp only; split <;> (try split) <;> (try split) <;> omega
  · rw [if_neg (by omega), if_neg (by omega)]
def rho (a m b p : Nat) : Nat := if a ≤ p ∧ p < a + (b - m) then p + (m - a) else if a + (b - m) ≤ p ∧ p < b then p - (b - m) else p
structure Rot (M M' : List β) (a m b : Nat) : Prop where
  len : M'.length = M.length
  at_ : ∀ p : Nat, M'[p]? = M[rho a m b p]?
theorem Rot.seg {M M' : List β} {a m b : Nat} (r : Rot M M' a m b) (h1 : a ≤ m) (h2 : m ≤ b) : Seg M M' a b :=
  ⟨r.len, rho a m b, rho a (a + (b - m)) b, fun p => (by unfold rho; (repeat' split) <;> omega), fun p => (by unfold rho; (repeat' split) <;> omega), fun p hp => (by unfold rho; (repeat' split) <;> omega), r.at_⟩
theorem Rot.none {M : List β} {a m b : Nat} (h : a = m ∨ m = b) : Rot M M a m b :=
  ⟨rfl, fun p => by
    have : rho a m b p = p := by unfold rho; split <;> (try split) <;> omega
    rw [this]⟩
variable (lt : β → β → Prop)
structure Ord (M : List β) : Prop where
  irr : ∀ x, ¬ lt x x
  tr : ∀ x y z, lt x y → lt y z → lt x z
  tot : ∀ (p q : Nat) x y, p ≠ q → M[p]? = some x → M[q]? = some y → lt x y ∨ lt y x
variable {lt}
theorem Ord.seg {M M' : List β} {a b : Nat} (o : Ord lt M) (s : Seg M M' a b) : Ord lt M' := by
  obtain ⟨u, t, _, k2, _, k4⟩ := s.ex
  refine ⟨o.irr, o.tr, fun p q x y hpq hx hy => o.tot (u p) (u q) x y (fun e => hpq ?_) (by rw [← k4]; exact hx) (by rw [← k4]; exact hy)⟩
  have := congrArg t e
  rw [k2, k2] at this; exact this
theorem Ord.no {M : List β} (o : Ord lt M) {p q : Nat} {x y : β} (hpq : p ≠ q) (hx : M[p]? = some x) (hy : M[q]? = some y) (h : ¬ lt y x) : lt x y := (o.tot p q x y hpq hx hy).resolve_right h
variable (lt)
def Srt (M : List β) (a b : Nat) : Prop := ∀ (p q : Nat) x y, a ≤ p → p < q → q < b → M[p]? = some x → M[q]? = some y → lt x y
def Crs (M : List β) (a m b : Nat) : Prop := ∀ (p q : Nat) x y, a ≤ p → p < m → m ≤ q → q < b → M[p]? = some x → M[q]? = some y → lt x y
variable {lt}
theorem srt_join {M : List β} {a m b : Nat} (h1 : Srt lt M a m) (h2 : Srt lt M m b) (h3 : Crs lt M a m b) : Srt lt M a b := fun p q x y k1 k2 k3 hx hy => by
  rcases Nat.lt_or_ge q m with c | c
  · exact h1 p q x y k1 k2 c hx hy
  · rcases Nat.lt_or_ge p m with d | d
    · exact h3 p q x y k1 d c k3 hx hy
    · exact h2 p q x y d k2 k3 hx hy
theorem srt_one {M : List β} {a b : Nat} (h : b ≤ a + 1) : Srt lt M a b := fun p q x y k1 k2 k3 => by omega
theorem srt_out {M M' : List β} {a b c d : Nat} (s : Seg M M' c d) (h : b ≤ c ∨ d ≤ a) (hs : Srt lt M a b) : Srt lt M' a b := fun p q x y k1 k2 k3 hx hy =>
  hs p q x y k1 k2 k3 (by rw [← s.out (by omega)]; exact hx) (by rw [← s.out (by omega)]; exact hy)
theorem crs_seg {M M' : List β} {a m b c d : Nat} (s : Seg M M' c d) (h : a ≤ c ∧ d ≤ m ∨ m ≤ c ∧ d ≤ b) (hc : Crs lt M a m b) : Crs lt M' a m b := fun p q x y k1 k2 k3 k4 hx hy => by
  have f : ∀ (r lo hi : Nat) z, lo ≤ r → r < hi → (lo ≤ c ∧ d ≤ hi ∨ hi ≤ c ∨ d ≤ lo) → M'[r]? = some z → ∃ r', lo ≤ r' ∧ r' < hi ∧ M[r']? = some z := fun r lo hi z e1 e2 e3 hz => by
    by_cases hr : c ≤ r ∧ r < d
    · obtain ⟨r', q1, q2, q3⟩ := s.mem hr.1 hr.2
      exact ⟨r', by omega, by omega, by rw [← q3]; exact hz⟩
    · exact ⟨r, e1, e2, by rw [← s.out (by omega)]; exact hz⟩
  obtain ⟨p', a1, a2, a3⟩ := f p a m x k1 k2 (by omega) hx
  obtain ⟨q', b1, b2, b3⟩ := f q m b y k3 k4 (by omega) hy
  exact hc p' q' x y a1 a2 b1 b2 a3 b3
structure Ins (lt : β → β → Prop) (M : List β) (a b k : Nat) : Prop where
  rest : ∀ (p q : Nat) x y, a ≤ p → p < q → q < b → p ≠ k → q ≠ k → M[p]? = some x → M[q]? = some y → lt x y
  last : ∀ (q : Nat) x y, k < q → q < b → M[k]? = some x → M[q]? = some y → lt x y
theorem Ins.start {M : List β} {a i : Nat} (h : Srt lt M a i) : Ins lt M a (i + 1) i :=
  ⟨fun p q x y k1 k2 k3 k4 k5 => h p q x y k1 k2 (by omega), fun q x y k1 k2 => by omega⟩
theorem Ins.step {M : List β} {a b k : Nat} (I : Ins lt M a b k) {x y : β} (hk : a < k) (hx : M[k]? = some x) (hy : M[k - 1]? = some y) (hlt : lt x y) (kb : k < b) :
    Ins lt ((M.set k y).set (k - 1) x) a b (k - 1) := by
  have key := (Seg.swap (a := a) (b := b) hx hy (by omega) kb (by omega) (by omega)).2
  have g : ∀ (r : Nat) z, ((M.set k y).set (k - 1) x)[r]? = some z → M[if r = k then k - 1 else if r = k - 1 then k else r]? = some z := fun r z h => by rw [← key]; exact h
  refine ⟨fun p q u v k1 k2 k3 k4 k5 hu hv => ?_, fun q u v k1 k2 hu hv => ?_⟩
  · have hu := g p u hu
    have hv := g q v hv
    rw [if_neg (show ¬ p = k - 1 from k4)] at hu
    rw [if_neg (show ¬ q = k - 1 from k5)] at hv
    by_cases e1 : p = k
    · rw [if_pos e1] at hu
      rw [if_neg (by omega)] at hv
      exact I.rest (k - 1) q u v (by omega) (by omega) k3 (by omega) (by omega) hu hv
    · rw [if_neg e1] at hu
      by_cases e2 : q = k
      · rw [if_pos e2] at hv
        exact I.rest p (k - 1) u v k1 (by omega) (by omega) e1 (by omega) hu hv
      · rw [if_neg e2] at hv
        exact I.rest p q u v k1 k2 k3 e1 e2 hu hv
  · have hu := g (k - 1) u hu
    have hv := g q v hv
    rw [if_neg (by omega), if_pos rfl, hx] at hu
    cases hu
    by_cases e : q = k
    · rw [if_pos e, hy] at hv; cases hv; exact hlt
    · rw [if_neg e, if_neg (by omega)] at hv
      exact I.last q x v (by omega) k2 hx hv
theorem Ins.done {M : List β} {a b k : Nat} (o : Ord lt M) (I : Ins lt M a b k) (kb : k < b) (h : k ≤ a ∨ ∃ x y, M[k]? = some x ∧ M[k - 1]? = some y ∧ ¬ lt x y) : Srt lt M a b := fun p q u v k1 k2 k3 hu hv => by
  by_cases e1 : q = k
  · subst e1
    rcases h with h | ⟨x, y, hx, hy, hn⟩
    · omega
    · rw [hx] at hv; cases hv
      have hyx : lt y v := o.no (p := q - 1) (q := q) (by omega) hy hx hn
      by_cases e : p = q - 1
      · rw [e, hy] at hu; cases hu; exact hyx
      · exact o.tr u y v (I.rest p (q - 1) u y k1 (by omega) (by omega) (by omega) (by omega) hu hy) hyx
  · by_cases e2 : p = k
    · subst e2; exact I.last q u v k2 k3 hu hv
    · exact I.rest p q u v k1 k2 k3 e2 e1 hu hv
theorem rot_crs {M M2 : List β} {a m b mid lo hi s : Nat} (o : Ord lt M) (L : Srt lt M a m) (R : Srt lt M m b) (hb : b ≤ M.length) (rt : Rot M M2 s m (mid + m - s)) (h1 : a ≤ lo) (h2 : lo ≤ s) (h3 : s ≤ hi) (h4 : hi ≤ m) (h5 : hi ≤ mid) (h6 : mid + m ≤ b + s)
    (hlo : lo = a ∨ lo + b = mid + m) (hhi : hi = m ∨ hi = mid)
    (f1 : ∀ (c : Nat) x y, lo ≤ c → c < s → M[c]? = some x → M[mid + m - 1 - c]? = some y → lt x y)
    (f2 : ∀ (c : Nat) x y, s ≤ c → c < hi → M[mid + m - 1 - c]? = some x → M[c]? = some y → lt x y) : Crs lt M2 a mid b := fun p q x y k1 k2 k3 k4 hx hy => by
  rw [rt.at_] at hx hy
  have got : ∀ r, r < b → ∃ z, M[r]? = some z := fun r hr => ⟨_, List.getElem?_eq_getElem (by omega)⟩
  by_cases hp : p < s
  · have ep : rho s m (mid + m - s) p = p := by unfold rho; split <;> (try split) <;> omega
    rw [ep] at hx
    by_cases hq : q < mid + m - s
    · have eq : rho s m (mid + m - s) q = q - (mid - s) := by unfold rho; split <;> (try split) <;> omega
      rw [eq] at hy
      exact L p _ x y k1 (by omega) (by omega) hx hy
    · have eq : rho s m (mid + m - s) q = q := by unfold rho; split <;> (try split) <;> omega
      rw [eq] at hy
      have hls : lo < s := by omega
      obtain ⟨u, hu⟩ := got (s - 1) (by omega)
      obtain ⟨v, hv⟩ := got (mid + m - s) (by omega)
      have huv : lt u v := f1 (s - 1) u v (by omega) (by omega) hu (by rw [show mid + m - 1 - (s - 1) = mid + m - s by omega]; exact hv)
      have hxu : x = u ∨ lt x u := by
        by_cases e : p = s - 1
        · left; rw [e, hu] at hx; cases hx; rfl
        · right; exact L p (s - 1) x u k1 (by omega) (by omega) hx hu
      have hvy : y = v ∨ lt v y := by
        by_cases e : q = mid + m - s
        · left; rw [e, hv] at hy; cases hy; rfl
        · right; exact R _ q v y (by omega) (by omega) k4 hv hy
      have h8 : lt x v := by
        rcases hxu with e | e
        · rw [e]; exact huv
        · exact o.tr _ _ _ e huv
      rcases hvy with e | e
      · rw [e]; exact h8
      · exact o.tr _ _ _ h8 e
  · have ep : rho s m (mid + m - s) p = p + (m - s) := by unfold rho; split <;> (try split) <;> omega
    rw [ep] at hx
    by_cases hq : q < mid + m - s
    · have eq : rho s m (mid + m - s) q = q - (mid - s) := by unfold rho; split <;> (try split) <;> omega
      rw [eq] at hy
      have hsh : s < hi := by omega
      obtain ⟨u, hu⟩ := got (mid + m - 1 - s) (by omega)
      obtain ⟨v, hv⟩ := got s (by omega)
      have huv : lt u v := f2 s u v (Nat.le_refl _) hsh hu hv
      have hxu : x = u ∨ lt x u := by
        by_cases e : p + (m - s) = mid + m - 1 - s
        · left; rw [e, hu] at hx; cases hx; rfl
        · right; exact R _ _ x u (by omega) (by omega) (by omega) hx hu
      have hvy : y = v ∨ lt v y := by
        by_cases e : q - (mid - s) = s
        · left; rw [e, hv] at hy; cases hy; rfl
        · right; exact L s _ v y (by omega) (by omega) (by omega) hv hy
      have h8 : lt x v := by
        rcases hxu with e | e
        · rw [e]; exact huv
        · exact o.tr _ _ _ e huv
      rcases hvy with e | e
      · rw [e]; exact h8
      · exact o.tr _ _ _ h8 e
    · have eq : rho s m (mid + m - s) q = q := by unfold rho; split <;> (try split) <;> omega
      rw [eq] at hy
      exact R _ q x y (by omega) (by omega) k4 hx hy
theorem rot_srt {M M2 : List β} {a m b s e : Nat} (rt : Rot M M2 s m e) (hsm : s ≤ m) (hme : m ≤ e) (L : Srt lt M a m) (R : Srt lt M m b) (has : a ≤ s) (heb : e ≤ b) :
    Srt lt M2 a s ∧ Srt lt M2 s (s + (e - m)) ∧ Srt lt M2 (s + (e - m)) e ∧ Srt lt M2 e b := by
  refine ⟨fun p q x y k1 k2 k3 hx hy => ?_, fun p q x y k1 k2 k3 hx hy => ?_, fun p q x y k1 k2 k3 hx hy => ?_, fun p q x y k1 k2 k3 hx hy => ?_⟩ <;> rw [rt.at_] at hx hy
  · have e1 : rho s m e p = p := by unfold rho; split <;> (try split) <;> omega
    have e2 : rho s m e q = q := by unfold rho; split <;> (try split) <;> omega
    rw [e1] at hx; rw [e2] at hy
    exact L p q x y k1 k2 (by omega) hx hy
  · have e1 : rho s m e p = p + (m - s) := by unfold rho; split <;> (try split) <;> omega
    have e2 : rho s m e q = q + (m - s) := by unfold rho; split <;> (try split) <;> omega
    rw [e1] at hx; rw [e2] at hy
    exact R _ _ x y (by omega) (by omega) (by omega) hx hy
  · have e1 : rho s m e p = p - (e - m) := by unfold rho; split <;> (try split) <;> omega
    have e2 : rho s m e q = q - (e - m) := by unfold rho; split <;> (try split) <;> omega
    rw [e1] at hx; rw [e2] at hy
    exact L _ _ x y (by omega) (by omega) (by omega) hx hy
  · have e1 : rho s m e p = p := by unfold rho; split <;> (try split) <;> omega
    have e2 : rho s m e q = q := by unfold rho; split <;> (try split) <;> omega
    rw [e1] at hx; rw [e2] at hy
    exact R p q x y (by omega) k2 k3 hx hy
def Lab (bf : β → β → Prop) (M : List β) (a m b : Nat) : Prop := Crs bf M a m b
theorem rot_lab {bf : β → β → Prop} {M M2 : List β} {a m b s e : Nat} (rt : Rot M M2 s m e) (hsm : s ≤ m) (hme : m ≤ e) (hl : Lab bf M a m b) (has : a ≤ s) (heb : e ≤ b) :
    Lab bf M2 a s (s + (e - m)) ∧ Lab bf M2 (s + (e - m)) e b := by
  refine ⟨fun p q x y k1 k2 k3 k4 hx hy => ?_, fun p q x y k1 k2 k3 k4 hx hy => ?_⟩ <;> rw [rt.at_] at hx hy
  · have e1 : rho s m e p = p := by unfold rho; split <;> (try split) <;> omega
    have e2 : rho s m e q = q + (m - s) := by unfold rho; split <;> (try split) <;> omega
    rw [e1] at hx; rw [e2] at hy
    exact hl p _ x y k1 (by omega) (by omega) (by omega) hx hy
  · have e1 : rho s m e p = p - (e - m) := by unfold rho; split <;> (try split) <;> omega
    have e2 : rho s m e q = q := by unfold rho; split <;> (try split) <;> omega
    rw [e1] at hx; rw [e2] at hy
    exact hl _ q x y (by omega) (by omega) (by omega) k4 hx hy
theorem one_left {M M2 : List β} {a i b : Nat} {x : β} (hx : M[a]? = some x) (R : Srt lt M (a + 1) b) (rt : Rot M M2 a (a + 1) i) (h1 : a + 1 ≤ i) (h2 : i ≤ b)
    (f1 : ∀ (q : Nat) y, a + 1 ≤ q → q < i → M[q]? = some y → lt y x) (f2 : ∀ (q : Nat) y, i ≤ q → q < b → M[q]? = some y → lt x y) : Srt lt M2 a b := fun p q u v k1 k2 k3 hu hv => by
  rw [rt.at_] at hu hv
  by_cases hp : p < i - 1
  · have e1 : rho a (a + 1) i p = p + 1 := by unfold rho; split <;> (try split) <;> omega
    rw [e1] at hu
    by_cases hq : q < i - 1
    · have e2 : rho a (a + 1) i q = q + 1 := by unfold rho; split <;> (try split) <;> omega
      rw [e2] at hv; exact R _ _ u v (by omega) (by omega) (by omega) hu hv
    · by_cases hq2 : q = i - 1
      · have e2 : rho a (a + 1) i q = a := by unfold rho; split <;> (try split) <;> omega
        rw [e2, hx] at hv; cases hv
        exact f1 _ u (by omega) (by omega) hu
      · have e2 : rho a (a + 1) i q = q := by unfold rho; split <;> (try split) <;> omega
        rw [e2] at hv; exact R _ _ u v (by omega) (by omega) (by omega) hu hv
  · have e2 : rho a (a + 1) i q = q := by unfold rho; split <;> (try split) <;> omega
    rw [e2] at hv
    by_cases hp2 : p = i - 1
    · have e1 : rho a (a + 1) i p = a := by unfold rho; split <;> (try split) <;> omega
      rw [e1, hx] at hu; cases hu
      exact f2 q v (by omega) k3 hv
    · have e1 : rho a (a + 1) i p = p := by unfold rho; split <;> (try split) <;> omega
      rw [e1] at hu; exact R _ _ u v (by omega) (by omega) (by omega) hu hv
theorem one_right {M M2 : List β} {a i m : Nat} {x : β} (hx : M[m]? = some x) (L : Srt lt M a m) (rt : Rot M M2 i m (m + 1)) (h1 : a ≤ i) (h2 : i ≤ m)
    (f1 : ∀ (q : Nat) y, a ≤ q → q < i → M[q]? = some y → lt y x) (f2 : ∀ (q : Nat) y, i ≤ q → q < m → M[q]? = some y → lt x y) : Srt lt M2 a (m + 1) := fun p q u v k1 k2 k3 hu hv => by
  rw [rt.at_] at hu hv
  by_cases hp : p < i
  · have e1 : rho i m (m + 1) p = p := by unfold rho; split <;> (try split) <;> omega
    rw [e1] at hu
    by_cases hq : q < i
    · have e2 : rho i m (m + 1) q = q := by unfold rho; split <;> (try split) <;> omega
      rw [e2] at hv; exact L _ _ u v (by omega) (by omega) (by omega) hu hv
    · by_cases hq2 : q = i
      · have e2 : rho i m (m + 1) q = m := by unfold rho; split <;> (try split) <;> omega
        rw [e2, hx] at hv; cases hv
        exact f1 _ u (by omega) (by omega) hu
      · have e2 : rho i m (m + 1) q = q - 1 := by unfold rho; split <;> (try split) <;> omega
        rw [e2] at hv; exact L _ _ u v (by omega) (by omega) (by omega) hu hv
  · have e2 : rho i m (m + 1) q = q - 1 := by unfold rho; split <;> (try split) <;> omega
    rw [e2] at hv
    by_cases hp2 : p = i
    · have e1 : rho i m (m + 1) p = m := by unfold rho; split <;> (try split) <;> omega
      rw [e1, hx] at hu; cases hu
      exact f2 _ v (by omega) (by omega) hv
    · have e1 : rho i m (m + 1) p = p - 1 := by unfold rho; split <;> (try split) <;> omega
      rw [e1] at hu; exact L _ _ u v (by omega) (by omega) (by omega) hu hv
theorem rot_step {M C C' : List β} {a m b i j i' j' : Nat} (hC : ∀ p : Nat, C[rho (m - i) m (m + j) p]? = M[rho a m b p]?) (h1 : i ≤ m) (h2 : 0 < i) (h3 : 0 < j)
    (hs : (j < i ∧ i' = i - j ∧ j' = j ∧ ∀ p : Nat, C'[p]? = C[if m - i ≤ p ∧ p < m - i + j then p + i else if m ≤ p ∧ p < m + j then p - i else p]?) ∨ (i < j ∧ i' = i ∧ j' = j - i ∧ ∀ p : Nat, C'[p]? = C[if m - i ≤ p ∧ p < m then p + j else if m + j - i ≤ p ∧ p < m + j then p - j else p]?)) :
    ∀ p : Nat, C'[rho (m - i') m (m + j') p]? = M[rho a m b p]? := fun p => by
  rw [← hC p]
  rcases hs with ⟨k1, rfl, rfl, k4⟩ | ⟨k1, rfl, rfl, k4⟩
  · rw [k4]
    congr 1
    unfold rho
    repeat' split
    all_goals omega
  · rw [k4]
    congr 1
    unfold rho
    repeat' split
    all_goals omega
theorem rot_last {M C C' : List β} {a m b i : Nat} (hC : ∀ p : Nat, C[rho (m - i) m (m + i) p]? = M[rho a m b p]?) (h1 : i ≤ m) (hl : C'.length = M.length) (hs : ∀ p : Nat, C'[p]? = C[if m - i ≤ p ∧ p < m then p + i else if m ≤ p ∧ p < m + i then p - i else p]?) : Rot M C' a m b :=
  ⟨hl, fun p => by
    rw [← hC p, hs]
    congr 1
    unfold rho
    repeat' split
    all_goals omega⟩
theorem Seg.perm {M M' : List β} {a b : Nat} (s : Seg M M' a b) : M'.Perm M := by
  obtain ⟨u, t, k1, k2, k3, k4⟩ := s.ex
  have hlt : ∀ p, p < M.length → u p < M.length := fun p hp => by
    have hp' : p < M'.length := by rw [s.len]; exact hp
    have h1 : M'[p]? = some M'[p] := List.getElem?_eq_getElem hp'
    rw [k4] at h1
    exact (List.getElem?_eq_some_iff.1 h1).1
  have nd : ((List.range M.length).map u).Nodup := by
    rw [List.Nodup, List.pairwise_map]
    refine List.Pairwise.imp ?_ (List.nodup_range (n := M.length))
    intro x y hxy e
    have := congrArg t e
    rw [k2, k2] at this; exact hxy this
  have hle : ∀ p, M.length ≤ p → M.length ≤ u p := fun p hp => by
    have h1 : M'[p]? = none := List.getElem?_eq_none (by rw [s.len]; exact hp)
    rw [k4] at h1
    exact List.getElem?_eq_none_iff.1 h1
  have pr : ((List.range M.length).map u).Perm (List.range M.length) := by
    rw [List.perm_iff_count]
    intro x
    by_cases hx : x < M.length
    · have hm : x ∈ (List.range M.length).map u := by
        refine List.mem_map.2 ⟨t x, List.mem_range.2 ?_, k1 x⟩
        rcases Nat.lt_or_ge (t x) M.length with q | q
        · exact q
        · have := hle _ q
          rw [k1] at this; omega
      rw [List.Nodup.count nd, if_pos hm, List.Nodup.count List.nodup_range, if_pos (List.mem_range.2 hx)]
    · rw [List.count_eq_zero.2, List.count_eq_zero.2]
      · simp; omega
      · intro h
        obtain ⟨p, hp, e⟩ := List.mem_map.1 h
        have := hlt p (List.mem_range.1 hp); omega
  have e1 : M'.map some = ((List.range M.length).map u).map fun p => M[p]? := by
    apply List.ext_getElem?
    intro p
    simp only [List.getElem?_map]
    by_cases hp : p < M.length
    · rw [List.getElem?_range hp, List.getElem?_eq_getElem (by rw [s.len]; exact hp)]
      simp only [Option.map_some]
      rw [← k4, List.getElem?_eq_getElem (by rw [s.len]; exact hp)]
    · rw [List.getElem?_eq_none (by rw [s.len]; omega), List.getElem?_eq_none (by simp; omega)]; rfl
  have e2 : M.map some = (List.range M.length).map fun p => M[p]? := by
    apply List.ext_getElem?
    intro p
    simp only [List.getElem?_map]
    by_cases hp : p < M.length
    · rw [List.getElem?_range hp, List.getElem?_eq_getElem hp]
      simp only [Option.map_some]
      rw [List.getElem?_eq_getElem hp]
    · rw [List.getElem?_eq_none (by omega), List.getElem?_eq_none (by simp; omega)]; rfl
  have h3 : (M'.map some).Perm (M.map some) := by rw [e1, e2]; exact pr.map _
  have h4 := h3.filterMap id
  simpa [List.filterMap_map] using h4
end
end Stb
end Go.Proofs.YthjehlocmikchaaDoor
