import Derived.Test.YthjehlocmikchaaDoorDvSW
namespace Go.Proofs.YthjehlocmikchaaDoor
namespace Sc
open Go
theorem sl_shut {α : Type} {E : Elt α} {h h' : Heap} {a : Option Addr} {c M : Nat} {L : List α} (s : Sl E h a c L) (k : Shut' M h h') : Sl E h' a c L :=
 ⟨s.le, s.ex.imp id fun ⟨b, o, e, hc⟩ => ⟨b, o, e, fun i x hx => HCells.mk fun _ _ hj => shut_cell k ((hc i x hx).get hj)⟩⟩
theorem own_shut {h h' : Heap} {a : Option Addr} {c k N M : Nat} {T : TypeId} (w : Own k T N h a c) (s : Shut' M h h') : Own k T N h' a c :=
 w.imp id fun ⟨b, o, cs, e, h1, h2, h3⟩ => ⟨b, o, cs, e, h1, s.row h2 (by intro e; cases e), h3⟩
theorem ext_shut {h h1 h2 : Heap} (x : Ext h h1) (s : Shut' h.size h1 h2) : Ext h h2 :=
 ⟨by rw [s.size]; exact x.size, fun b hb => (s.low hb).trans (x.block b hb)⟩
theorem G4' {hh : Heap} {gb : Nat} {g : Geo} {Tg : TypeId} {fr : Nat × Nat} (r : hh[gb]? = some (.cells (rowG g) Tg fr)) : hcell hh gb 0 = some (.int .i64 g.page) ∧ hcell hh gb 1 = some (.int .i64 g.pages) ∧ hcell hh gb 2 = some (.int .i64 g.regs) ∧ hcell hh gb 3 = some (.int .i64 g.al) := G4 r
theorem S9 {hh : Heap} {b : Nat} {S : Su} {a : Option Addr} {n c : Nat} {T : TypeId} {fr : Nat × Nat} (r : hh[b]? = some (.cells (S.cs a n c).toArray T fr)) :
  hcell hh b 0 = some (.int .i64 S.rg) ∧ hcell hh b 1 = some (.bool S.has) ∧ hcell hh b 2 = some (.int .u64 S.ep) ∧ hcell hh b 3 = some (.int .u64 S.sq) ∧ hcell hh b 4 = some (.int .i64 S.hr) ∧ hcell hh b 5 = some (.slice a n c) ∧ hcell hh b 6 = some (.int .i64 S.at_) ∧ hcell hh b 7 = some (.int .i64 S.why) ∧ hcell hh b 8 = some (.bool S.sealed_) := by
 refine ⟨?_, ?_, ?_, ?_, ?_, ?_, ?_, ?_, ?_⟩ <;> (rw [hcell_row r]; rfl)
theorem app_1 {α : Type} {E : Elt α} {P : Program} {t : TypeId} {by_ : Nat} {h h1 : Heap} {a : Option Addr} {c N : Nat} {L : List α} {T : TypeId} (A : AppT P t T E.k by_) {nb n : Nat} {cs : Array Value} {x : α} (eb : nb = h.size) (eh : h1 = h.push (.cells cs T)) (ec : (E.enc x).toArray = cs)
  (s : Sl E h a c L) (w : Own E.k T N h a c) (hn : n = L.length) (hN : N ≤ h.size) (hsz : (n + 1) * by_ ≤ 140737488355328) {K : Value → Heap → Prop}
  (hk : ∀ a' c' h', Fr (blkA a) h h' → Sl E h' a' c' (L ++ [x]) → Own E.k T N h' a' c' → (∀ b, blkA a' b → blkA a b ∨ h.size ≤ b) → K (.slice a' (n + 1) c') h') :
  HAppend P t t (.slice a n c) (.slice (some ⟨nb, 0, none⟩) 1 1) h1 K := by
 subst hn
 have xe : Ext h h1 := by rw [eh]; exact Ext.push _ _
 have hrow : h1[nb]? = some (.cells ([x].flatMap E.enc).toArray T (0, 0)) := by rw [eh, ← ec]; simp only [List.flatMap_cons, List.flatMap_nil, List.append_nil]; exact push_new eb
 refine app_sl A (s.ext xe) (w.ext xe) (Sl.lit (L := [x]) hrow) (Nat.le_trans hN xe.size) hsz fun a' c' h' f s' w' bl => hk a' c' h' ((xe.fr (blkA a)).trans f (fun _ _ q => q)) s' w' fun b hb => ?_
 rcases bl b hb with q | q
 ·exact .inl q
 ·exact .inr (Nat.le_trans xe.size q)
section
variable {h : Heap} {a : Option Addr} {c : Nat} {L : List Int}
set_option maxHeartbeats 6400000 in
theorem survey_m (g : Geo) (rg : Int) (t : Tab h) (s : Sl eB h a c L) (hb : isB L) : HC Tryd.prog 12 #[g.v, .int .i64 rg, .slice a L.length c] h fun v h' => TellS (surOf g rg L) h v h' := by
 have hc := s.le
 refine f12_sh _ _ _ _ _ _ _ _ _ _ fun gb h1 egb e1 nb h2 enb e2 => ?_
 have x1 : Ext h h1 := by rw [e1]; exact Ext.push _ _
 have x12 : Ext h1 h2 := by rw [e2]; exact Ext.push _ _
 have x2 := x1.trans x12
 have rg1 : h1[gb]? = some (.cells (rowG g) 24 (0, 0)) := by rw [e1]; exact push_new egb
 have rg2 := x12.row rg1
 have rn2 : h2[nb]? = some (.cells (su0.cs none 0 0).toArray 36 (0, 0)) := by rw [e2]; exact push_new enb
 have zs1 : h1.size = h.size + 1 := by rw [e1]; simp
 have zs2 : h2.size = h1.size + 1 := by rw [e2]; simp
 obtain ⟨q1, q2, q3, q4⟩ := G4' rg2
 refine ⟨_, _, _, _, q1, q2, q3, q4, (bytes_m g h2).mono ?_⟩
 rintro _ h3 ⟨rfl, x3⟩
 have x23 := x2.trans x3
 -- a survey that is told at once
 have quick : ∀ {h0 : Heap} {S : Su} {e : Int}, Ext h2 h0 → S.recs = [] → h0[nb]? = some (.cells (su0.cs none 0 0).toArray 36 (0, 0)) → HWs h0 nb 0 9 ∧ ∀ h4, h4 = hsets h0 nb 0 (S.cs none 0 0) → h4[nb]? = some (.cells (S.cs none 0 0).toArray 36 (0, 0)) ∧ ∀ h5, Shut' h.size h4 h5 → TellS (S, e) h (.tuple #[.agg (S.cs none 0 0).toArray, .int .i64 e]) h5 := fun {h0 S e} x0 hr r0 => by
  refine ⟨HWs_row r0 (by simp), fun h4 e4 => ⟨row_hsets_eq e4 r0 (by simp [sets]), fun h5 s5 => tellS_nil hr (ext_shut (ext_hsets e4 (x2.trans x0) (by omega)) s5)⟩⟩
 by_cases hn : ¬ Gok g
 ·rw [show surOf g rg L = (su0, 20) by unfold surOf; rw [if_pos hn], if_neg hn]
  refine ⟨x3, _, _, _, rfl, fun _ => ?_, fun e => by simp at e⟩
  obtain ⟨u1, u2⟩ := quick (S := su0) (e := 20) x3 rfl (x3.row rn2)
  refine ⟨u1, fun h4 e4 => ?_⟩
  obtain ⟨u3, u4⟩ := u2 h4 e4
  obtain ⟨w0, w1, w2, w3, w4, w5, w6, w7, w8⟩ := S9 u3
  exact ⟨_, _, _, _, _, _, _, _, _, _, _, w0, w1, w2, w3, w4, w5, w6, w7, w8, u4⟩
 have hg : Gok g := Decidable.not_not.1 hn
 have b := ok_bounds hg
 have fb := fst_bounds hg
 rw [if_pos hg]
 have rg3 := x3.row rg2
 have rn3 := x3.row rn2
 refine ⟨x3, _, _, _, rfl, fun e => by simp at e, fun _ => ⟨decide (rg < 0 ∨ rg ≥ g.regs ∨ ¬ (L.length : Int) = g.sz), ⟨fun e => ?_, fun e => ⟨_, (G4' rg3).2.2.1, fun e2 => ?_, fun e2 => ?_⟩⟩, fun e => ?_, fun e => ?_⟩⟩
 ·have := of_decide_eq_true e; exact decide_eq_true (.inl this)
 ·have := of_decide_eq_true e2; exact decide_eq_true (.inr (.inl this))
 ·have h1' := of_decide_eq_false e
  have h2' := of_decide_eq_false e2
  rw [Bool.eq_iff_iff]
  simp only [bne_iff_ne, ne_eq, decide_eq_true_eq]
  omega
 ·rw [show surOf g rg L = (su0, 60) by unfold surOf; rw [if_neg hn, if_pos (of_decide_eq_true e)]]
  obtain ⟨u1, u2⟩ := quick (S := su0) (e := 60) x3 rfl rn3
  refine ⟨u1, fun h4 e4 => ?_⟩
  obtain ⟨u3, u4⟩ := u2 h4 e4
  obtain ⟨w0, w1, w2, w3, w4, w5, w6, w7, w8⟩ := S9 u3
  exact ⟨_, _, _, _, _, _, _, _, _, _, _, w0, w1, w2, w3, w4, w5, w6, w7, w8, u4⟩
 have hbad := of_decide_eq_false e
 have hL : (L.length : Int) = g.sz := by omega
 have hl : L.length ≤ 1099511627776 := by omega
 have ft : fits g L := ⟨hg, hL⟩
 obtain ⟨q1, q2, q3, q4⟩ := G4' rg3
 refine ⟨_, _, _, _, q1, q2, q3, q4, (head_m g (t.ext x23) (s.ext x23) hb).mono ?_⟩
 rintro _ h8 ⟨rfl, x8⟩
 have htell : ∃ (x : Hd) (e : Int), tellD g L = .tuple #[x.v, .int .i64 e] ∧ ((e = 0 ∧ headD g L = some x) ∨ (e = 50 ∧ headD g L = none)) := by
  unfold tellD
  cases hx : headD g L with
  | none => exact ⟨z3, 50, by simp only [if_pos hg], .inr ⟨rfl, rfl⟩⟩
  | some x => exact ⟨x, 0, rfl, .inl ⟨rfl, rfl⟩⟩
 obtain ⟨x, ee, htd, hcase⟩ := htell
 refine ⟨x8, x.ep, x.sq, x.rg, ee, htd, fun hv h9 ehv e9 => ?_⟩
 have x9 : Ext h8 h9 := by rw [e9]; exact Ext.push _ _
 have rv9 : h9[hv]? = some (.cells #[.int .u64 0, .int .u64 0, .int .i64 0] 31 (0, 0)) := by rw [e9]; exact push_new ehv
 have hz8 := (x3.trans x8).size
 have zs9 : h9.size = h8.size + 1 := by rw [e9]; simp
 refine ⟨HWs_row rv9 (by simp), fun h10 e10 => ?_⟩
 have rv10 : h10[hv]? = some (.cells #[.int .u64 x.ep, .int .u64 x.sq, .int .i64 x.rg] 31 (0, 0)) := row_hsets_eq e10 rv9 (by simp [sets])
 have x10 : Ext h2 h10 := ext_hsets e10 (x3.trans (x8.trans x9)) (by omega)
 have zs10 : h10.size = h9.size := by rw [e10, hsets_size]
 refine ⟨decide (ee ≠ 0 ∨ x.rg ≠ rg), ⟨fun e => ?_, fun e => ⟨x.rg, by rw [hcell_row rv10]; rfl, ?_⟩⟩, fun e => ?_, fun e => ?_⟩
 ·have : ee ≠ 0 := by simpa using e
  simp [this]
 ·have : ee = 0 := by simpa using e
  rw [Bool.eq_iff_iff]; simp [this]
 ·have hor := of_decide_eq_true e
  have e5 : surOf g rg L = (⟨rg, false, 0, 0, 0, [], 0, 1, false⟩, 0) := by
   unfold surOf; rw [if_neg hn, if_neg hbad]
   rcases hcase with ⟨q1, q2⟩ | ⟨q1, q2⟩
   ·rw [q2]; simp only
    rw [if_pos (hor.resolve_left (by omega))]
   ·rw [q2]
  rw [e5]
  obtain ⟨u1, u2⟩ := quick (S := ⟨rg, false, 0, 0, 0, [], 0, 1, false⟩) (e := 0) x10 rfl (x10.row rn2)
  refine ⟨u1, fun h4 e4 => ?_⟩
  obtain ⟨u3, u4⟩ := u2 h4 e4
  obtain ⟨w0, w1, w2, w3, w4, w5, w6, w7, w8⟩ := S9 u3
  exact ⟨_, _, _, _, _, _, _, _, _, _, _, w0, w1, w2, w3, w4, w5, w6, w7, w8, u4⟩
 have hnor := of_decide_eq_false e
 have hee : ee = 0 := by omega
 have heq : x.rg = rg := by omega
 have hx : headD g L = some x := by
  rcases hcase with ⟨q1, q2⟩ | ⟨q1, q2⟩
  ·exact q2
  ·omega
 rw [show surOf g rg L = (surGo g rg x L, 0) by unfold surOf; rw [if_neg hn, if_neg hbad, hx]; simp only; rw [if_neg (not_not_intro heq)]]
 refine ⟨_, _, _, by rw [hcell_row rv10]; rfl, by rw [hcell_row rv10]; rfl, by rw [hcell_row rv10]; rfl, fun sv h13 esv e13 => ?_⟩
 have x13 : Ext h10 h13 := by rw [e13]; exact Ext.push _ _
 have rs13 : h13[sv]? = some (.cells (su0.cs none 0 0).toArray 36 (0, 0)) := by rw [e13]; exact push_new esv
 have zs13 : h13.size = h10.size + 1 := by rw [e13]; simp
 refine ⟨HWs_row rs13 (by simp), fun h14 e14 => ?_⟩
 let S0 : Su := ⟨rg, true, x.ep, x.sq, x.rg, [], 0, 0, false⟩
 have rs14 : h14[sv]? = some (.cells (S0.cs none 0 0).toArray 36 (0, 0)) := row_hsets_eq e14 rs13 (by simp [sets, S0])
 have x14 : Ext h10 h14 := ext_hsets e14 x13 (by omega)
 have zs14 : h14.size = h13.size := by rw [e14, hsets_size]
 have x214 := x10.trans x14
 obtain ⟨q1, q2, q3, q4⟩ := G4' (x214.row rg2)
 refine ⟨_, _, _, _, q1, q2, q3, q4, (Up_m g 32 h14).mono ?_⟩
 rintro _ h15 ⟨rfl, x15⟩
 rw [upE_32 hg]
 refine ⟨x15, _, _, rfl, fun used h16 eu e16 => ?_⟩
 have x16 : Ext h15 h16 := by rw [e16]; exact Ext.push _ _
 have ru16 : h16[used]? = some (.cells #[.int .i64 0] 3 (0, 0)) := by rw [e16]; exact push_new eu
 have zs16 : h16.size = h15.size + 1 := by rw [e16]; simp
 refine ⟨HW_row ru16 (by simp), fun h17 e17 => ?_⟩
 have ru17 : h17[used]? = some (.cells #[.int .i64 (fst0 g)] 3 (0, 0)) := row_hset_eq e17 ru16 (by simp)
 have hz15 := x15.size
 have x17 : Ext h14 h17 := ext_hset e17 (x15.trans x16) (by omega)
 have zs17 : h17.size = h16.size := by rw [e17, hset_size]
 have x217 := x214.trans x17
 obtain ⟨q1, q2, q3, q4⟩ := G4' (x217.row rg2)
 refine ⟨_, _, _, _, q1, q2, q3, q4, f34_sh _ _ _ _ _ _ _ _ _ _ _ fun g' h17a eg' e17a i' h17b ei' e17b ev' h18 eev e18 => ⟨_, rfl, ?_⟩⟩
 have x17a : Ext h17 h17a := by rw [e17a]; exact Ext.push _ _
 have x17b : Ext h17a h17b := by rw [e17b]; exact Ext.push _ _
 have x18 : Ext h17b h18 := by rw [e18]; exact Ext.push _ _
 have zs17a : h17a.size = h17.size + 1 := by rw [e17a]; simp
 have zs17b : h17b.size = h17a.size + 1 := by rw [e17b]; simp
 have zs18 : h18.size = h17b.size + 1 := by rw [e18]; simp
 have r17a : h17a[g']? = some (.cells (rowG g) 24 (0, 0)) := by rw [e17a]; exact push_new eg'
 have r17b : h17b[i']? = some (.cells #[.slice a L.length c] 25 (0, 0)) := by rw [e17b]; exact push_new ei'
 have r18 : h18[ev']? = some (.cells #[ptr sv 6] 85 (0, 0)) := by rw [e18]; exact push_new eev
 intro Lp l h19 y stay el x19 zs19 hL19 hyld
 have x1819 := x17a.trans (x17b.trans (x18.trans x19))
 have x19h : Ext h h19 := x2.trans (x217.trans x1819)
 let T : Nat → Prop := fun b => b = sv ∨ b = used ∨ b = l
 have hz2 := x2.size
 have ha : ∀ b, blkA a b → L.length = 0 ∨ b < h.size := fun b hb => by
  obtain ⟨x', ex, rfl⟩ := hb
  rcases Nat.eq_zero_or_pos L.length with h0 | h0
  ·exact .inl h0
  ·obtain ⟨b', o', e, hcs⟩ := s.addr h0
   rw [e] at ex; cases ex
   exact .inr (hcell_lt ((hcs 0 _ (List.getElem?_eq_getElem h0)).get (j := 0) rfl))
 refine found_go g T (t.ext x19h) ft (s.ext x19h) hb ((x17b.trans (x18.trans x19)).row r17a) ((x18.trans x19).row r17b) (x19.row r18) (fun q => by rcases q with q | q | q <;> omega) (fun q => by rcases q with q | q | q <;> omega) (fun q => by rcases q with q | q | q <;> omega) (fun b hb q => by
  rcases ha b hb with h0 | h0
  ·omega
  ·rcases q with q | q | q <;> omega) (by omega) (fun e => by rw [hx] at e; cases e) ?_
 intro x' hx' h3' x3'
 rw [hx] at hx'
 cases hx'
 have hfit := goOn_fits hg (salt := x.sq % 4294967296) (rg := x.rg) (L := L) L.length (fst0 g) (by omega)
 have hlen : (recsOf g x x.rg L).1.length ≤ L.length := goOn_len _ _ _ _ _ _
 change ∀ f ∈ (recsOf g x x.rg L).1, _ at hfit
 have sur : surGo g rg x L = ⟨rg, true, x.ep, x.sq, x.rg, (recsOf g x x.rg L).1, (recsOf g x x.rg L).2.1, (recsOf g x x.rg L).2.2, decide (footOk g L ∧ (ftOf L).salt = x.sq % 4294967296 ∧ (ftOf L).recs = ((recsOf g x x.rg L).1.length : Int) ∧ (ftOf L).used = lastU (fst0 g) (recsOf g x x.rg L).1)⟩ := rfl
 generalize hR : recsOf g x x.rg L = rs at *
 have hz3' := x3'.size
 let J : Nat → Heap → Prop := fun k hh => Lp .ready none hh ∧ h3'.size ≤ hh.size ∧ ∃ ra rcp, hh[sv]? = some (.cells (S0.cs ra k rcp).toArray 36 (0, 0)) ∧ hh[used]? = some (.cells #[.int .i64 (lastU (fst0 g) (rs.1.take k))] 3 (0, 0)) ∧ Sl eFo hh ra rcp (rs.1.take k) ∧ Own eFo.k tF h3'.size hh ra rcp
 refine ⟨J, ⟨stay _ _ _ _ hL19 (x3'.block l (by omega)), Nat.le_refl _, none, 0, (x17.trans (x1819.trans x3')).row rs14, (x1819.trans x3').row ru17, Sl.nil _ _, Own.nil _ _ _ _⟩, ?_, ?_, ?_⟩
 ·rintro k h4 h5 ⟨j1, j2, ra, rcp, j3, j4, j5, j6⟩ xx
  exact ⟨stay _ _ _ _ j1 (xx.block l (by omega)), Nat.le_trans j2 xx.size, ra, rcp, xx.row j3, xx.row j4, j5.ext xx, j6.ext xx⟩
 ·rintro k hk h20 f20 ⟨j1, j2, ra, rcp, j3, j4, j5, j6⟩
  refine hyld _ _ _ _ _ _ _ h20 _ j1 fun f h23 ef e23 => ?_
  have x23' : Ext h20 h23 := by rw [e23]; exact Ext.push _ _
  have rf23 : h23[f]? = some (.cells #[.int .i64 0, .int .i64 0, .int .i64 0, .int .i64 0, .int .u64 0, .string ByteArray.empty, .string ByteArray.empty] 45 (0, 0)) := by rw [e23]; exact push_new ef
  refine ⟨HWs_row rf23 (by simp), fun h24 e24 => ?_⟩
  have hmem := hfit _ (List.getElem_mem hk)
  generalize hfo : rs.1[k] = fo at *
  have x24 : Ext h20 h24 := ext_hsets e24 x23' (by omega)
  have rf24 : h24[f]? = some (.cells fo.cs.toArray 45 (0, 0)) := row_hsets_eq e24 rf23 (by simp [sets])
  have zs23 : h23.size = h20.size + 1 := by rw [e23]; simp
  have zs24 : h24.size = h23.size := by rw [e24, hsets_size]
  refine ⟨stay _ _ _ _ j1 (x24.block l (by omega)), fun h25 o25 l25 => ?_⟩
  have f25 := o25.fr
  have nsl : sv ≠ l := by omega
  have nul : used ≠ l := by omega
  have nfl : f ≠ l := by omega
  have rs25 := f25.row (x24.row j3) nsl
  have ru25 := f25.row (x24.row j4) nul
  have rf25 := f25.row rf24 nfl
  have nal : ∀ b, blkA ra b → ¬ b = l := fun b hb => by have := (j6.low hb).1; omega
  have s25 := (j5.ext x24).fr f25 nal
  have w25 := (j6.ext x24).fr f25 nal
  have zs25 := o25.size
  refine ⟨ra, k, rcp, (S9 rs25).2.2.2.2.2.1, fo.rg, fo.off, fo.sz, fo.rc.kind, fo.rc.ver, fo.rc.key, fo.rc.val, by rw [hcell_row rf25]; rfl, by rw [hcell_row rf25]; rfl, by rw [hcell_row rf25]; rfl, by rw [hcell_row rf25]; rfl, by rw [hcell_row rf25]; rfl, by rw [hcell_row rf25]; rfl, by rw [hcell_row rf25]; rfl, fun nb1 h26 enb1 e26 => ?_⟩
  have hkl : k = (rs.1.take k).length := by simp; omega
  refine app_1 (x := fo) aF enb1 e26 rfl s25 w25 hkl (by omega) (by omega) fun a' c' h27 f27 s27 w27 b27 => ⟨a', k + 1, c', rfl, ?_⟩
  have nas : ∀ {b}, b < h3'.size → ¬ blkA ra b := fun hb q => by have := (w25.low q).1; omega
  have rs27 := f27.row rs25 (nas (by omega))
  have ru27 := f27.row ru25 (nas (by omega))
  have hfz : f < h25.size := by omega
  have rf27 : h27[f]? = some (.cells fo.cs.toArray 45 (0, 0)) := f27.row rf25 fun q => by
   rcases q with ⟨z, ez, ezb⟩
   have hb5 := (j6.low ⟨z, ez, rfl⟩).2
   omega
  refine ⟨HW_row rs27 (by simp), fun h28 e28 => ?_⟩
  have nsa : ∀ {b}, b < h3'.size → ¬ blkA a' b := fun hb q => by have := (w27.low q).1; omega
  have rs28 : h28[sv]? = some (.cells (S0.cs a' (k + 1) c').toArray 36 (0, 0)) := row_hset_eq e28 rs27 (by simp)
  have f28 := fr_hset_of e28
  have rf28 := f28.row rf27 (show ¬ f = sv by omega)
  have ru28 := f28.row ru27 (show ¬ used = sv by omega)
  refine ⟨fo.off, by rw [hcell_row rf28]; rfl, fo.sz, by rw [hcell_row rf28]; rfl, HW_row ru28 (by simp), fun h29 e29 => ?_⟩
  have f29 := fr_hset_of e29
  have ru29 : h29[used]? = some (.cells #[.int .i64 (fo.off + fo.sz)] 3 (0, 0)) := row_hset_eq e29 ru28 (by rw [w64 (by omega) (by omega)]; simp)
  have rs29 := f29.row rs28 (show ¬ sv = used by omega)
  have hl25 : l < h25.size := by omega
  have k29 : Lp .busy none h29 := stay _ _ _ _ l25 (by
   have z27 := f27.size
   have z28 := f28.size
   rw [f29.block l (by omega) (show ¬ l = used by omega), f28.block l (by omega) (show ¬ l = sv by omega), f27.block l hl25 (nas (by omega))])
  refine ⟨k29, fun h30 o30 l30 => ?_⟩
  have f30 := o30.fr
  have z27 := f27.size
  have z28 := f28.size
  have z29 := f29.size
  have s30 := ((s27.fr f28 fun b hb q => nsa (by omega) hb).fr f29 fun b hb q => nsa (by omega) hb).fr f30 fun b hb q => nsa (by omega) hb
  have w30 := ((w27.fr f28 fun b hb q => nsa (by omega) hb).fr f29 fun b hb q => nsa (by omega) hb).fr f30 fun b hb q => nsa (by omega) hb
  have htk : rs.1.take (k + 1) = rs.1.take k ++ [fo] := by rw [List.take_add_one, List.getElem?_eq_getElem hk, hfo]; rfl
  refine ⟨?_, true, rfl, fun e => (by cases e), fun _ => ⟨l30, by have := f30.size; omega, a', c', f30.row rs29 (by omega), ?_, ?_, w30⟩⟩
  ·have q1 : ∀ b, b < h20.size → (b = sv ∨ b = used ∨ b = l ∨ blkA ra b) → Yt T h19 h3' b := fun b hb q => by
    rcases q with q | q | q | q
    ·exact .inl ⟨by omega, .inl q⟩
    ·exact .inl ⟨by omega, .inr (.inl q)⟩
    ·exact .inl ⟨by omega, .inr (.inr q)⟩
    ·exact .inr (j6.low q).1
   refine Fr.mono (S := fun b => b = sv ∨ b = used ∨ b = l ∨ blkA ra b) ?_ q1
   refine Fr.trans (S := fun b => b = sv ∨ b = used ∨ b = l ∨ blkA ra b) (x24.fr _) ?_ fun _ _ q => q
   refine Fr.trans (f25.mono fun i _ q => .inr (.inr (.inl q))) ?_ fun _ _ q => q
   refine Fr.trans (f27.mono fun i _ q => .inr (.inr (.inr q))) ?_ fun _ _ q => q
   refine Fr.trans (f28.mono fun i _ q => .inl q) ?_ fun _ _ q => q
   exact Fr.trans (f29.mono fun i _ q => .inr (.inl q)) (f30.mono fun i _ q => .inr (.inr (.inl q))) fun _ _ q => q
  ·rw [htk, lastU_snoc]; exact f30.row ru29 (by omega)
  ·rw [htk]; exact s30
 ·rintro h4 f4 ⟨j1, j2, ra, rcp, j3, j4, j5, j6⟩
  rw [List.take_length] at j4 j5
  refine ⟨HWs_row j3 (by simp), .ready, none, ?_, by decide, fun h22 o22 _ => ⟨rfl, ?_⟩⟩
  ·exact stay _ _ _ _ j1 (hsets_ne _ (by omega))
  have z4 := f4.size
  have sub : ∀ {b}, Yt T h19 h3' b → h10.size ≤ b := fun q => by
   rcases q with ⟨_, q | q | q⟩ | q <;> omega
  have F22 : Fr (fun b => b = sv ∨ b = used ∨ b = l ∨ h19.size ≤ b) h19 h22 := by
   refine Fr.trans (x3'.fr _) ?_ fun _ _ q => q
   refine Fr.trans (f4.mono fun i _ q => ?_) ?_ fun _ _ q => q
   ·rcases q with ⟨_, q⟩ | q
    ·rcases q with q | q | q
     ·exact .inl q
     ·exact .inr (.inl q)
     ·exact .inr (.inr (.inl q))
    ·exact .inr (.inr (.inr (by omega)))
   ·exact Fr.trans (fr_hsets _ fun _ => .inl rfl) (o22.fr.mono fun i _ q => .inr (.inr (.inl q))) fun _ _ q => q
  have x22 : Ext h10 h22 := by
   have := ((x14.trans (x17.trans x1819)).fr _).trans F22 fun _ _ q => q
   refine this.ext fun b hb q => ?_
   rcases q with q | q | q | q <;> omega
  have x2_22 := x10.trans x22
  have z22 := F22.size
  have rs22 : h22[sv]? = some (.cells (({ S0 with at_ := rs.2.1, why := rs.2.2 } : Su).cs ra rs.1.length rcp).toArray 36 (0, 0)) := o22.fr.row (row_hsets_eq rfl j3 (by simp [sets, S0])) (by omega)
  have ru22 : h22[used]? = some (.cells #[.int .i64 (lastU (fst0 g) rs.1)] 3 (0, 0)) := o22.fr.row (row_hsets_ne rfl (by omega) j4) (by omega)
  have nas : ∀ {b}, b < h3'.size → ∀ q, blkA ra q → ¬ q = b := fun hb q hq => by have := (j6.low hq).1; omega
  have s22 : Sl eFo h22 ra rcp rs.1 := (j5.fr (fr_hsets (fun b => b = sv) fun _ => rfl) (nas (by omega))).fr o22.fr (nas (by omega))
  have w22 : Own eFo.k tF h3'.size h22 ra rcp := (j6.fr (fr_hsets (fun b => b = sv) fun _ => rfl) (nas (by omega))).fr o22.fr (nas (by omega))
  obtain ⟨q1, q2, q3, q4⟩ := G4' (x2_22.row rg2)
  refine ⟨_, _, _, _, q1, q2, q3, q4, (foot_m g (s.ext (x2.trans x2_22)) hb hl).mono ?_⟩
  rintro _ h31 ⟨rfl, x31⟩
  have hfv : ∃ (f : Ft) (e : Int), footV g L = .tuple #[f.v, .int .i64 e] ∧ ((e = 0 ∧ footOk g L ∧ f = ftOf L) ∨ (e = 51 ∧ ¬ footOk g L)) := by
   unfold footV; rw [if_neg hn]
   by_cases hfo : footOk g L
   ·rw [if_pos hfo]; exact ⟨_, _, rfl, .inl ⟨rfl, hfo, rfl⟩⟩
   ·rw [if_neg hfo]; exact ⟨_, _, rfl, .inr ⟨rfl, hfo⟩⟩
  obtain ⟨ff, fe, hfv, hfc⟩ := hfv
  refine ⟨x31, ff.recs, ff.used, ff.salt, ff.sum, fe, hfv, fun f1 h32 ef1 e32 => ?_⟩
  have x32 : Ext h31 h32 := by rw [e32]; exact Ext.push _ _
  have rf32 : h32[f1]? = some (.cells #[.int .i64 0, .int .i64 0, .int .u32 0, .int .u32 0] 88 (0, 0)) := by rw [e32]; exact push_new ef1
  refine ⟨HWs_row rf32 (by simp), fun h33 e33 => ?_⟩
  have rf33 : h33[f1]? = some (.cells #[.int .i64 ff.recs, .int .i64 ff.used, .int .u32 ff.salt, .int .u32 ff.sum] 88 (0, 0)) := row_hsets_eq e33 rf32 (by simp [sets])
  have z31 := x31.size
  have x33 : Ext h22 h33 := ext_hsets e33 (x31.trans x32) (by omega)
  have rs33 := x33.row rs22
  have ru33 := x33.row ru22
  let ans : Bool := decide (footOk g L ∧ (ftOf L).salt = x.sq % 4294967296 ∧ (ftOf L).recs = (rs.1.length : Int) ∧ (ftOf L).used = lastU (fst0 g) rs.1)
  have hw33 : HW h33 sv 8 := HW_row rs33 (by simp)
  have hsq : 0 ≤ x.sq ∧ x.sq < 18446744073709551616 := by
   obtain ⟨_, _, rfl⟩ := headD_some hx
   exact le_u64 (isB_take (isB_drop hb 16) 8) (by simp; omega)
  refine ⟨fun h34 => h34 = hset h33 sv 8 (.bool ans), ⟨fun e3 => ?_, fun e3 => ?_⟩, ?_⟩
  ·have : fe = 0 := by simpa using e3
   have hff : footOk g L ∧ ff = ftOf L := by
    rcases hfc with q | q
    ·exact q.2
    ·omega
   obtain ⟨hfo, rfl⟩ := hff
   refine ⟨_, by rw [hcell_row rf33]; rfl, x.sq, by rw [hcell_row ((x22.trans x33).row rv10)]; rfl, x.sq % 4294967296, fun h38 _ => salt_m _ hsq h38, fun e4 => ?_, fun e4 => ⟨hw33, fun h37 e37 => ?_⟩⟩
   ·have h4 := eq_of_beq e4
    refine ⟨_, by rw [hcell_row rf33]; rfl, ra, _, rcp, (S9 rs33).2.2.2.2.2.1, fun e5 => ?_, fun e5 => ⟨hw33, fun h36 e36 => ?_⟩⟩
    ·have h5 := eq_of_beq e5
     refine ⟨_, by rw [hcell_row rf33]; rfl, _, by rw [hcell_row ru33]; rfl, hw33, fun h35 e35 => ?_⟩
     rw [e35]; congr 2
     rw [Bool.eq_iff_iff]; simp [ans, hfo, h4, h5]
    ·have h5 : ¬ (ftOf L).recs = (rs.1.length : Int) := by simpa using e5
     rw [e36]; simp [ans, h5]
   ·have h4 : ¬ (ftOf L).salt = x.sq % 4294967296 := by simpa using e4
    rw [e37]; simp [ans, h4]
  ·refine ⟨hw33, fun h39 e39 => ?_⟩
   have : ¬ fe = 0 := by simpa using e3
   have hff : ¬ footOk g L := by
    rcases hfc with q | q
    ·omega
    ·exact q.2
   rw [e39]; simp [ans, hff]
  ·rintro h34 e34
   have rs34 : h34[sv]? = some (.cells ((surGo g rg x L).cs ra rs.1.length rcp).toArray 36 (0, 0)) := row_hset_eq e34 rs33 (by rw [sur]; simp [S0, ans])
   have f34 := fr_hset_of e34
   have rn34 := f34.row (x33.row (x2_22.row rn2)) (show ¬ nb = sv by omega)
   obtain ⟨w0, w1, w2, w3, w4, w5, w6, w7, w8⟩ := S9 rs34
   refine ⟨_, _, _, _, _, _, _, _, _, _, _, w0, w1, w2, w3, w4, w5, w6, w7, w8, HWs_row rn34 (by simp), fun h40 e40 => ?_⟩
   have rn40 : h40[nb]? = some (.cells ((surGo g rg x L).cs ra rs.1.length rcp).toArray 36 (0, 0)) := row_hsets_eq e40 rn34 (by simp [sets])
   obtain ⟨w0, w1, w2, w3, w4, w5, w6, w7, w8⟩ := S9 rn40
   refine ⟨_, _, _, _, _, _, _, _, _, _, _, w0, w1, w2, w3, w4, w5, w6, w7, w8, fun h41 s41 => ?_⟩
   have f40 := fr_hsets_of e40
   have hrecs : (surGo g rg x L).recs = rs.1 := by rw [sur]
   have s34 := ((s22.ext x33).fr f34 (nas (by omega))).fr f40 (nas (by omega))
   have w34 := ((w22.ext x33).fr f34 (nas (by omega))).fr f40 (nas (by omega))
   refine ⟨ra, rcp, by simp only [hrecs], ?_, by rw [hrecs]; exact sl_shut s34 s41, (own_shut w34 s41).down (by omega)⟩
   have x34 : Ext h h34 := ext_hset e34 (x2.trans (x2_22.trans x33)) (by omega)
   exact ext_shut (ext_hsets e40 x34 (by omega)) s41
end
end Sc
end Go.Proofs.YthjehlocmikchaaDoor
