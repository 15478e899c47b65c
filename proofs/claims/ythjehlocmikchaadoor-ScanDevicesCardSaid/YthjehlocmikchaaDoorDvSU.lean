import Derived.Test.YthjehlocmikchaaDoorDvST
namespace Go.Proofs.YthjehlocmikchaaDoor
namespace Sc
open Go
theorem headD_some {g : Geo} {L : List Int} {x : Hd} (h : headD g L = some x) : Gok g ∧ 32 ≤ L.length ∧ x = hdOf L := by
 unfold headD at h
 split at h
 ·rename_i q; cases h; exact ⟨q.1, q.2.1, rfl⟩
 ·cases h
section
variable {h : Heap} {a : Option Addr} {c : Nat} {L : List Int}
set_option maxHeartbeats 3200000 in
theorem rec_r (g : Geo) (ft : fits g L) (s : Sl eB h a c L) (hb : isB L) : HC Tryd.prog 21 #[g.v, .slice a L.length c] h fun v h' => TellL g L h v h' := by
 obtain ⟨hg, hL⟩ := ft
 have b := ok_bounds hg
 have fb := fst_bounds hg
 have hl : L.length ≤ 1099511627776 := by omega
 have hc := s.le
 refine f21_sh _ _ _ _ _ _ _ _ _ fun gb pb h2 lo1 lt1 lo lt x2 => (head_r g (s.ext x2) hb hl).mono ?_
 rintro _ h3 ⟨rfl, x3⟩
 have x23 := x2.trans x3
 unfold TellL tellD
 cases hx : headD g L with
 | none =>
  simp only [if_pos hg]
  refine ⟨x3, _, _, _, _, rfl, fun _ hv h5 _ _ x5 h6 f6 => ⟨frpb (x23.trans x5) lo f6, trivial⟩, fun e => by simp at e⟩
 | some x =>
  obtain ⟨_, h32, rfl⟩ := headD_some hx
  refine ⟨x3, _, _, _, _, rfl, fun e => by simp at e, fun _ hv h5 hlo hlt x5 => (Up_r g 32 h5).mono ?_⟩
  rintro _ h7 ⟨rfl, x7⟩
  rw [upE_32 hg]
  have x57 := x23.trans (x5.trans x7)
  refine ⟨x7, _, _, rfl, ?_⟩
  have hsq : 0 ≤ (hdOf L).sq ∧ (hdOf L).sq < 18446744073709551616 := le_u64 (isB_take (isB_drop hb 16) 8) (by simp; omega)
  generalize hsalt : (hdOf L).sq % 4294967296 = salt at *
  have hs : U32 salt := by rw [← hsalt]; exact ⟨by omega, by omega⟩
  refine ⟨fun out n oc p _ _ h8 => ∃ (done : List Fo) (k : Nat), n = done.length ∧ 32 ≤ p ∧ p ≤ L.length + 4096 ∧ (done.length : Int) ≤ p ∧ (L.length : Int) ≤ k + p ∧ Ext h7 h8 ∧ Sl eFo h8 out oc done ∧ Own eFo.k tF h7.size h8 out oc ∧ goOn g salt 0 L L.length (fst0 g) = (done ++ (goOn g salt 0 L k p).1, (goOn g salt 0 L k p).2), fun _ _ _ p _ _ _ => (L.length + 8192 - p).toNat,
   ⟨[], L.length, rfl, by omega, by omega, by simp; omega, by omega, Ext.refl _, Sl.nil _ _, Own.nil _ _ _ _, by simp⟩, ?_⟩
  rintro out _ oc p _ _ h8 ⟨done, k, rfl, p0, p1, pd, pk, x78, s8, w8, hgo⟩
  have x8 := x57.trans x78
  have z8 := x78.size
  have ew : IntKind.i64.wrap (IntKind.i64.wrap ((L.length : Int) - 24) - 24) = (L.length : Int) - 48 := by rw [w64 (x := (L.length : Int) - 24) (by omega) (by omega), w64 (by omega) (by omega)]; omega
  simp only [ew]
  have hs2 := (x2.trans (x3.trans (x5.trans x7))).size
  have hs23 := (x3.trans (x5.trans x7)).size
  have hs57 := x7.size
  have fin : ∀ {h9 : Heap} {q w : Int} {n : Nat}, Fr (fun i => i = pb) h8 h9 → goOn g salt 0 L n q = ([], q, w) → goOn g salt 0 L k p = goOn g salt 0 L n q → Ext h h9 ∧ ∃ a' c', (Value.tuple #[.slice out done.length oc, .agg #[.int .i64 q, .int .i64 w]]) = .tuple #[.slice a' (recsOf g (hdOf L) 0 L).1.length c', .agg #[.int .i64 (recsOf g (hdOf L) 0 L).2.1, .int .i64 (recsOf g (hdOf L) 0 L).2.2]] ∧ Sl eFo h9 a' c' (recsOf g (hdOf L) 0 L).1 ∧ Own eFo.k tF h.size h9 a' c' := fun {h9 q w n} f9 h1 h2 => by
   have e : recsOf g (hdOf L) 0 L = (done, q, w) := by unfold recsOf; rw [hsalt, hgo, h2, h1, List.append_nil]
   rw [e]
   exact ⟨frpb x8 lo f9, out, oc, rfl, s8.fr f9 fun b g q => by have := (w8.low g).1; omega, (w8.fr f9 fun b g q => by have := (w8.low g).1; omega).down hs2⟩
  refine ⟨fun e h9 f9 => fin f9 (goOn_far (n := k) (of_decide_eq_true e)) rfl, fun e => ?_⟩
  have hp := of_decide_eq_false e
  have hpl : p.toNat < L.length := by omega
  obtain ⟨k', rfl⟩ : ∃ k', k = k' + 1 := ⟨k - 1, by omega⟩
  obtain ⟨bb, o, ea, d⟩ := (s.ext x8).at (List.getElem?_eq_getElem hpl)
  subst ea
  have hB := isB_at hb hpl
  have hgd := getD_at hpl
  have hfar : ¬ p > L.length - 48 := hp
  refine ⟨bb, o, rfl, by omega, by omega, L[p.toNat], d.1, fun e2 => ?_, fun e2 => ⟨fun e3 h10 f10 => ?_, fun e3 => ?_⟩⟩
  ·have e0 : L.getD p.toNat 0 = 0 := by rw [hgd]; exact eq_of_beq e2
   have m1 := Int.emod_add_mul_ediv p g.page
   have m2 := Int.emod_nonneg p (show g.page ≠ 0 by omega)
   have m3 := Int.emod_lt_of_pos p (show 0 < g.page by omega)
   have d0 : 0 ≤ p / g.page := Int.ediv_nonneg (by omega) (by omega)
   have d1 : p / g.page ≤ p := Int.ediv_le_self _ (by omega)
   have e5 : (p / g.page + 1) * g.page = g.page * (p / g.page) + g.page := by rw [Int.add_mul, Int.one_mul, Int.mul_comm]
   have e6 : goOn g salt 0 L (k' + 1) p = goOn g salt 0 L k' ((p / g.page + 1) * g.page) := by rw [goOn, if_neg hfar, if_pos e0]
   rw [Int.tdiv_eq_ediv_of_nonneg (by omega), w64 (x := p / g.page) (by omega) (by omega), w64 (x := p / g.page + 1) (by omega) (by omega), w64 (x := (p / g.page + 1) * g.page) (by omega) (by omega)]
   refine ⟨by omega, ⟨done, k', rfl, by omega, by omega, by omega, by omega, x78, s8, w8, by rw [hgo, e6]⟩, ?_⟩
   show ((L.length : Int) + 8192 - (p / g.page + 1) * g.page).toNat < ((L.length : Int) + 8192 - p).toNat
   omega
  ·have h0 : ¬ L.getD p.toNat 0 = 0 := by rw [hgd]; simpa using e2
   have h255 : L.getD p.toNat 0 = 255 := by rw [hgd]; simpa using e3
   exact fin (n := k' + 1) f10 (by unfold goOn; rw [if_neg hfar, if_neg h0, if_pos h255]) rfl
  ·have h0 : ¬ L.getD p.toNat 0 = 0 := by rw [hgd]; simpa using e2
   have h255 : ¬ L.getD p.toNat 0 = 255 := by rw [hgd]; simpa using e3
   let A : Nat → Nat → Int → Int → Heap → Prop := fun b o sz e h11 => Ext h8 h11 ∧ o = 0 ∧ ∃ rc : Rc, decV g salt L p = .tuple #[rc.v, .int .i64 sz, .int .i64 e] ∧ h11[b]? = some (.cells #[.int .i64 rc.kind, .int .u64 rc.ver, .string rc.key, .string rc.val] 43 (0, 0))
   have edec : decV g salt L p = if recOk g salt (L.drop p.toNat) then .tuple #[(rcOf (L.drop p.toNat)).v, .int .i64 (szR (L.drop p.toNat)), .int .i64 0] else .tuple #[z4.v, .int .i64 0, .int .i64 52] := by
    unfold decV; rw [if_neg (not_not_intro hg), if_neg (by omega), if_neg (by omega)]
   obtain ⟨rc, sz, er, hdec⟩ : ∃ (rc : Rc) (sz er : Int), decV g salt L p = .tuple #[rc.v, .int .i64 sz, .int .i64 er] := by
    rw [edec]; split
    ·exact ⟨_, _, _, rfl⟩
    ·exact ⟨_, _, _, rfl⟩
   have off : ∀ {r : Nat}, h8.size ≤ r → Off r [gb, pb, hv] := fun {r} hr q hq => by
    simp only [List.mem_cons, List.not_mem_nil, or_false] at hq; omega
   have hset : ∀ {hh : Heap} {r : Nat}, hh[r]? = some (.cells #[.int .i64 0, .int .u64 0, .string ByteArray.empty, .string ByteArray.empty] 43 (0, 0)) → HWs hh r 0 4 ∧ ∀ h14, h14 = hsets hh r 0 [.int .i64 rc.kind, .int .u64 rc.ver, .string rc.key, .string rc.val] → h14[r]? = some (.cells #[.int .i64 rc.kind, .int .u64 rc.ver, .string rc.key, .string rc.val] 43 (0, 0)) := fun hr => ⟨HWs_row hr (by simp), fun h14 e14 => row_hsets_eq e14 hr (by simp [sets])⟩
   refine ⟨A, ⟨salt, fun h18 _ => by rw [← hsalt]; exact salt_r _ hsq h18, ?_, ?_⟩, ?_⟩
   ·refine (decode_r g hs (s.ext x8) hb hl p).mono ?_
    rintro _ h12 ⟨rfl, x12⟩
    refine ⟨x12, rc.kind, rc.ver, rc.key, rc.val, sz, er, hdec, fun r h13 er' e13 => ?_⟩
    have hrow : h13[r]? = some (.cells #[.int .i64 0, .int .u64 0, .string ByteArray.empty, .string ByteArray.empty] 43 (0, 0)) := by rw [e13]; exact push_new er'
    have hz := x12.size
    obtain ⟨q1, q2⟩ := hset hrow
    refine ⟨q1, off (by omega), fun h14 e14 => ⟨ext_hsets e14 (x12.trans (by rw [e13]; exact Ext.push _ _)) (by omega), rfl, rc, hdec, q2 h14 e14⟩⟩
   ·intro r h15 er' e15
    have x15 : Ext h8 h15 := by rw [e15]; exact Ext.push _ _
    refine (decode_r g hs (s.ext (x8.trans x15)) hb hl p).mono ?_
    rintro _ h16 ⟨rfl, x16⟩
    have hrow : h16[r]? = some (.cells #[.int .i64 0, .int .u64 0, .string ByteArray.empty, .string ByteArray.empty] 43 (0, 0)) := x16.row (by rw [e15]; exact push_new er')
    obtain ⟨q1, q2⟩ := hset hrow
    refine ⟨x16, rc.kind, rc.ver, rc.key, rc.val, sz, er, hdec, q1, off (by omega), fun h17 e17 => ⟨ext_hsets e17 (x15.trans x16) (by omega), rfl, rc, hdec, q2 h17 e17⟩⟩
   ·rintro rb ro sz er h11 ⟨x11, rfl, rc, hdec, hrow⟩
    by_cases hok : recOk g salt (L.drop p.toNat)
    ·rw [edec, if_pos hok] at hdec
     simp only [Value.tuple.injEq, Array.mk.injEq, List.cons.injEq, Value.agg.injEq, Value.int.injEq, Value.string.injEq, true_and, and_true] at hdec
     obtain ⟨⟨k1, k2, k3, k4⟩, rfl, rfl⟩ := hdec
     have hz := hok.1.2
     have hz2 : (24 : Nat) ≤ szR (L.drop p.toNat) := by unfold szR; omega
     have hzl : (L.drop p.toNat).length = L.length - p.toNat := List.length_drop
     refine ⟨fun e => by simp at e, fun _ => ⟨rc.kind, rc.ver, rc.key, rc.val, by rw [hcell_row hrow]; rfl, by rw [hcell_row hrow]; rfl, by rw [hcell_row hrow]; rfl, by rw [hcell_row hrow]; rfl, fun nb h20 enb e20 => ?_⟩⟩
     generalize hfo : (⟨0, p, szR (L.drop p.toNat), rcOf (L.drop p.toNat)⟩ : Fo) = fo at *
     have x20 : Ext h11 h20 := by rw [e20]; exact Ext.push _ _
     have hs8 := x8.size
     have hs11 := x11.size
     refine app_one (x := fo) aF enb e20 (by rw [← k1, ← k2, ← k3, ← k4, ← hfo]; rfl) (x78.trans x11) (s8.ext x11) (w8.ext x11) rfl (by omega) fun a' c' h21 x21 f21 s21 w21 _ => ⟨?_, a', done.length + 1, c', rfl, ?_⟩
     ·intro q hq hlt
      have hq7 : q < h7.size := by simp only [List.mem_cons, List.not_mem_nil, or_false] at hq; omega
      rw [x20.block q (by omega), f21.block q (by omega) fun hb' => absurd (w8.low hb').1 (by omega)]
     ·rw [w64 (x := p + (szR (L.drop p.toNat) : Int)) (by omega) (by omega)]
      refine (Up_r g _ h21).mono ?_
      rintro _ h22 ⟨rfl, x22⟩
      have up := upTo_ge (n := p + (szR (L.drop p.toNat) : Int)) (al := g.al) (by omega)
      have eup : upE g (p + (szR (L.drop p.toNat) : Int)) = .tuple #[.int .i64 (upTo (p + (szR (L.drop p.toNat) : Int)) g.al), .int .i64 0] := by
       have hd : g.sz * 2 ≤ g.sz * g.regs := Int.mul_le_mul_of_nonneg_left hg.2.2.1.1 (by omega)
       unfold upE; rw [if_pos hg, if_neg (by omega)]
      refine ⟨x22, _, _, eup, ⟨done ++ [fo], k', by simp, by omega, by omega, by simp; omega, by omega, x21.trans x22, ?_, ?_, ?_⟩, ?_⟩
      ·exact s21.ext x22
      ·exact w21.ext x22
      ·rw [hgo, goOn, if_neg hfar, if_neg h0, if_neg h255, if_pos hok, ← hfo]; simp
      ·show ((L.length : Int) + 8192 - _).toNat < ((L.length : Int) + 8192 - p).toNat
       omega
    ·rw [edec, if_neg hok] at hdec
     simp only [Value.tuple.injEq, Array.mk.injEq, List.cons.injEq, Value.agg.injEq, Value.int.injEq, Value.string.injEq, true_and, and_true] at hdec
     obtain ⟨_, rfl, rfl⟩ := hdec
     refine ⟨fun _ h19 f19 => ?_, fun e => by simp at e⟩
     exact fin (n := k' + 1) ((x11.fr _).trans f19 fun _ _ q => q) (by unfold goOn; rw [if_neg hfar, if_neg h0, if_neg h255, if_neg hok]) rfl
end
end Sc
end Go.Proofs.YthjehlocmikchaaDoor
