/-
The law IndexPurged, over heaps.
-/
import Derived.Test.YtkecmljalcfhoaaLR
import Derived.Test.YtkecmljalcfhoaaLO
import Derived.Test.YtkecmljalcfhoaaShO
namespace Go.Proofs.Ytkecmljalcfhoaa
namespace Ix
open Go RH

set_option maxHeartbeats 4000000 in
theorem played_c {h : Heap} {a : Option Addr} {c : Nat} {L : List Op} {n bits most : Int} (s : Sl eOp h a c L) (hl : L.length ≤ 9223372036854775807) (hok : ∀ o ∈ L, okOp o) :
    HC Try.prog 15 #[.agg #[.int .i64 n, .int .i64 bits, .int .i64 most, .slice a L.length c]] h fun v h' => Ext h h' ∧ (v = .tuple #[.pointer none, .bool true] ∨
      ∃ x W Ls, v = .tuple #[ptr x 0, .bool true] ∧ Has W h' x most.toNat Ls ∧ ∀ b, W b → h.size ≤ b ∧ b < h'.size) := by
  refine f15_sh _ _ _ _ _ _ _ _ fun sv h1 lo1 lt1 x1 => (begin_c n bits most a L.length c h1).mono ?_
  rintro v h2 ⟨x2, hres⟩
  refine ⟨x2.kp _, ?_⟩
  have s1 := x1.size
  rcases hres with rfl | ⟨x, r, rfl, b2⟩
  · exact ⟨_, _, _, rfl, fun _ => ⟨x1.trans x2, .inl rfl⟩, fun g => by simp at g⟩
  refine ⟨_, _, _, rfl, fun g => by simp at g, fun _ => ⟨fun p i h3 => p = some ⟨x, 0, none⟩ ∧ ∃ (k : Nat) (Ls : List (List Ent)), i = k ∧ k ≤ L.length ∧ Both h1.size h3 x r most.toNat Ls ∧ Ext h1 h3, fun _ i _ => L.length - i.toNat, ⟨rfl, 0, _, rfl, Nat.zero_le _, b2, x2⟩, ?_⟩⟩
  rintro _ _ h3 ⟨rfl, k, Ls, rfl, hk, b3, x3⟩
  refine ⟨fun hlt => ?_, fun hge => ⟨x1.trans x3, .inr ?_⟩⟩
  · have hkl := lt_of_dec hlt
    obtain ⟨b, o, e, d⟩ := (s.ext (x1.trans x3)).at (List.getElem?_eq_getElem hkl)
    refine ⟨b, o, e, by omega, by omega, _, _, _, _, _, _, _, _, d.1, d.2.1, d.2.2.1, d.2.2.2.1, d.2.2.2.2.1, d.2.2.2.2.2.1, d.2.2.2.2.2.2.1, d.2.2.2.2.2.2.2.1, fun h5 x5 => ?_⟩
    refine (does_o (both_ext b3 x5).1 (hok _ (List.getElem_mem hkl))).mono ?_
    rintro _ h6 ⟨rfl, Ls', b6, f6⟩
    refine ⟨true, rfl, fun g => (by cases g), fun _ => ?_⟩
    rw [wadd' k (by omega)]
    refine ⟨⟨rfl, k + 1, Ls', rfl, hkl, b6, (((x3.trans x5).fr _).trans f6 fun _ _ g => g).ext fun b hb g => by omega⟩, by simp only [Int.toNat_natCast]; omega⟩
  · obtain ⟨W, V, hx, _, _, hw, _⟩ := b3
    exact ⟨x, W, Ls, rfl, hx, fun b g => ⟨by have := hw b g; omega, hx.lt b g⟩⟩

theorem all_l {W : Nat → Prop} {h : Heap} {x m : Nat} {Ls : List (List Ent)} (hx : Has W h x m Ls) (n : Int) : HC Try.prog 18 #[.pointer (some ⟨x, 0, none⟩), .int .i64 n] h fun v h' => Ext h h' ∧ ∃ tb a, v = .func (.func 55) #[] #[ptr tb 0] ∧ h.size ≤ tb ∧
    h'[tb]? = some (.cells #[.pointer a] 70 (0, 0)) ∧ TOpt h' a (ent Ls n) := by
  obtain ⟨Ts, I, rfl⟩ := hx
  refine (all_i I n).mono ?_
  rintro v h' ⟨x1, tb, a, e, lo, r, t, _⟩
  exact ⟨x1, tb, a, e, lo, r, t.ext x1⟩

def fl (q : Int) (L : List Ent) : List Ent := L.filter fun e => !gone q e
def cnt (q : Int) (L : List Ent) : Int := ((L.filter (gone q)).length : Int)
theorem fl_app {q : Int} {L M : List Ent} : fl q (L ++ M) = fl q L ++ fl q M := List.filter_append ..
theorem cnt_app {q : Int} {L M : List Ent} : cnt q (L ++ M) = cnt q L + cnt q M := by unfold cnt; rw [List.filter_append, List.length_append]; omega
theorem cnt_le {q : Int} {L : List Ent} : 0 ≤ cnt q L ∧ cnt q L ≤ L.length := by unfold cnt; have := List.length_filter_le (gone q) L; omega
theorem take_next {L : List Ent} {k : Nat} (hk : k < L.length) : L.take (k + 1) = L.take k ++ [L[k]] := by rw [List.take_add_one, List.getElem?_eq_getElem hk]; rfl
theorem fl_flat {q : Int} : ∀ (Ls : List (List Ent)), fl q Ls.flatten = (Ls.map (fl q)).flatten
  | [] => rfl
  | L :: Ls => by rw [List.flatten_cons, fl_app, fl_flat Ls, List.map_cons, List.flatten_cons]
theorem ent_at {Ls : List (List Ent)} {k : Nat} (hk : k < Ls.length) : ent Ls (k : Int) = Ls[k] := by
  unfold ent
  rw [if_pos (by omega), Int.toNat_natCast, List.getD_eq_getElem?_getD, List.getElem?_eq_getElem hk]; rfl
theorem shut_ext {h h5 h6 : Heap} (x : Ext h h5) (s : Shut' h.size h5 h6) : Ext h h6 := ⟨by rw [s.size]; exact x.size, fun b hb => (s.low hb).trans (x.block b hb)⟩

set_option maxHeartbeats 16000000 in
theorem law_purged {h : Heap} {a : Option Addr} {c : Nat} {L : List Op} {n bits most q : Int} (s : Sl eOp h a c L) (hl : L.length ≤ 9223372036854775807) (hok : ∀ o ∈ L, okOp o) :
    HC Try.prog 7 #[.agg #[.int .i64 n, .int .i64 bits, .int .i64 most, .slice a L.length c], .int .i64 q] h fun v h' => v = .bool true ∧ Ext h h' := by
  refine f7_sh _ _ _ _ _ _ _ _ _ fun sv h1 e1 eh1 rg h2 e2 eh2 nb h3 e3 eh3 => ?_
  have x1 : Ext h h1 := by rw [eh1]; exact Ext.push _ _
  have r1 := push_new (o := .cells #[.int .i64 n, .int .i64 bits, .int .i64 most, .slice a L.length c] 24) e1
  rw [← eh1] at r1
  have x2 : Ext h1 h2 := by rw [eh2]; exact Ext.push _ _
  have r2 : h2[rg]? = some (.cells #[.int .i64 q] 3 (0, 0)) := by rw [eh2]; exact push_new e2
  have x3 : Ext h2 h3 := by rw [eh3]; exact Ext.push _ _
  have r3 : h3[nb]? = some (.cells #[.bool false] 4 (0, 0)) := by rw [eh3]; exact push_new e3
  clear eh1 eh2 eh3
  have r13 := (x2.trans x3).row r1
  have r23 := x3.row r2
  have x03 := x1.trans (x2.trans x3)
  have s1 := x1.size
  have s2 := x2.size
  have s3 := x3.size
  refine ⟨n, bits, most, a, L.length, c, by rw [hcell_row r13]; rfl, by rw [hcell_row r13]; rfl, by rw [hcell_row r13]; rfl, by rw [hcell_row r13]; rfl, (played_c (s.ext x03) hl hok).mono ?_⟩
  rintro _ h4 ⟨x4, hres⟩
  have s4 := x4.size
  have lg := row_lt r23
  have ln := row_lt r3
  have r34 := x4.row r3
  have r24 := x4.row r23
  have x04 := x03.trans x4
  have stop : ∀ {h5 : Heap}, Ext h h5 → h5[nb]? = some (.cells #[.bool true] 4 (0, 0)) → ∃ res : Bool, hcell h5 nb 0 = some (.bool res) ∧ (∀ h6, Shut' (Array.size h) h5 h6 → (Value.bool res = .bool true ∧ Ext h h6)) := fun x r => ⟨true, by rw [hcell_row r]; rfl, fun h6 s6 => ⟨rfl, shut_ext x s6⟩⟩
  have put : ∀ {h4 h5 : Heap} {b : Bool}, Ext h h4 → h4[nb]? = some (.cells #[.bool false] 4 (0, 0)) → h5 = hset h4 nb 0 (.bool b) → Ext h h5 ∧ h5[nb]? = some (.cells #[.bool b] 4 (0, 0)) := fun x r e => ⟨ext_hset e x (by omega), by rw [e, hset_row r]; rfl⟩
  rcases hres with rfl | ⟨x, W, Ls, rfl, hx, hw⟩
  · refine ⟨_, _, rfl, fun _ => ⟨HW_row r34 (by simp), fun h5 e5 => ?_⟩, fun g => by simp at g⟩
    obtain ⟨k1, k2⟩ := put x04 r34 e5
    exact stop k1 k2
  refine ⟨_, _, rfl, fun g => by simp at g, fun _ => ⟨decide (q < 0) || decide (q ≥ 65536), ⟨q, by rw [hcell_row r24]; rfl, fun g => by rw [g]; rfl, fun g => by rw [g]; rfl⟩, fun _ => ⟨HW_row r34 (by simp), fun h7 e7 => ?_⟩, fun hq lf h9 e9 eh9 gn h10 e10 eh10 => ?_⟩⟩
  · obtain ⟨k1, k2⟩ := put x04 r34 e7
    exact stop k1 k2
  have hq0 : 0 ≤ q ∧ q < 65536 := by simp at hq; omega
  have wq : IntKind.u64.wrap q = q := wu64 (by omega) (by omega)
  have x9 : Ext h4 h9 := by rw [eh9]; exact Ext.push _ _
  have r9 : h9[lf]? = some (.cells #[.slice none 0 0] 47 (0, 0)) := by rw [eh9]; exact push_new e9
  have x10 : Ext h9 h10 := by rw [eh10]; exact Ext.push _ _
  have r10 : h10[gn]? = some (.cells #[.int .i64 0] 3 (0, 0)) := by rw [eh10]; exact push_new e10
  clear eh9 eh10
  have s9 := x9.size
  have s10 := x10.size
  refine ⟨HW_row r10 (by simp), ?_⟩
  rintro h11 e11
  have r11 : h11[gn]? = some (.cells #[.int .i64 0] 3 (0, 0)) := by rw [e11, hset_row r10]; rfl
  have x11 : Ext h9 h11 := ext_hset e11 x10 (by omega)
  clear e11
  have x411 := x9.trans x11
  have lff := row_lt r9
  have hm := hx.lens
  have hsm := hx.small
  have d11 : Desk (fun _ => False) h h11 x most.toNat rg nb lf gn q Ls [] 0 := by
    refine ⟨W, none, 0, hx.ext x411, ⟨fun b g => ?_, x411.row r24, x411.row r34, x11.row r9, r11, Sl.nil _ _, Own.nil _ _ _ _, x04.trans x411, ⟨id, id, id, id, fun _ _ => id⟩, ⟨by omega, by omega, by omega, by omega, by omega⟩⟩⟩
    have := hw b g
    exact ⟨by omega, by omega, by omega, by omega, by omega, blkA_none, id, by have := x411.size; omega⟩
  -- the first going over
  refine ⟨fun st h12 => ∃ k : Nat, st = k ∧ k ≤ Ls.length ∧ Desk (fun _ => False) h h12 x most.toNat rg nb lf gn q Ls (fl q (Ls.take k).flatten) (cnt q (Ls.take k).flatten), fun st _ => Ls.length - st.toNat, ⟨0, rfl, Nat.zero_le _, d11⟩, ?_⟩
  rintro _ h12 ⟨k, rfl, hk, d12⟩
  obtain ⟨W12, a12, c12, hx12, dw12⟩ := id d12
  refine ⟨_, stripes_l hx12, fun hlt => ?_, fun hge => ?_⟩
  · have hkl := lt_of_dec hlt
    refine (all_l hx12 k).mono ?_
    rintro _ h13 ⟨x13, tb, ta, rfl, lotb, rtb, opt⟩
    rw [ent_at hkl] at opt
    have hPre : (Ls.take k).flatten.length ≤ 64 * 65536 := Nat.le_trans (flat_small fun M hM => hsm M (List.mem_of_mem_take hM)) (by have := List.length_take_le k Ls; rw [List.length_take]; omega)
    generalize hP : (Ls.take k).flatten = Pre at *
    have hLk := hsm _ (List.getElem_mem hkl)
    have hnext : (Ls.take (k + 1)).flatten = Pre ++ Ls[k] := by rw [List.take_add_one, List.getElem?_eq_getElem hkl, List.flatten_append, hP]; simp
    generalize hLL : Ls[k] = L1 at *
    refine ⟨_, rfl, fun Lp l h14 y stay el x14 z14 L14 hyld => ?_⟩
    have s13 := x13.size
    have d13 := d12.ext x13
    have ls13 : h.size ≤ h12.size := dw12.x.size
    refine range_all stay el x14 z14 L14 (opt.ext x14) (by rw [hcell_row (x14.row rtb)]; rfl) (fun Z j h' => Desk Z h h' x most.toNat rg nb lf gn q Ls (fl q (Pre ++ L1.take j)) (cnt q (Pre ++ L1.take j)))
      (fun h3' x3' => by simpa using ((d13.z' (Z' := fun b => b = l ∨ (h14.size ≤ b ∧ b < h3'.size)) fun b g => by rcases g with g | g <;> omega).ext x14).ext x3') (fun Z j h' h'' zl d f => d.fr f (fun b g => by rw [g]; exact zl) fun b g => by omega) ?_ ?_
    · intro Z j hj h15 K zl zlt lp15 d15 hK
      refine hyld _ _ _ _ h15 K lp15 fun eb h18 ee e18 => ?_
      have r18 : h18[eb]? = some (.cells #[.int .u64 0, .int .u64 0, .int .u64 0, .int .u8 0] 31 (0, 0)) := by rw [e18]; exact push_new ee
      have x18 : Ext h15 h18 := by rw [e18]; exact Ext.push _ _
      refine ⟨HWs_row r18 (by simp), ?_⟩
      rintro h19 e19
      have r19 : h19[eb]? = some (.cells #[.int .u64 L1[j].h, .int .u64 L1[j].a, .int .u64 L1[j].v, .int .u8 L1[j].k] 31 (0, 0)) := by rw [e19, hsets_row _ r18]; rfl
      have x19 : Ext h15 h19 := ext_hsets e19 x18 (by omega)
      clear e19 e18
      have hl15 := zlt l zl
      refine ⟨stay _ _ _ _ lp15 (x19.block l hl15), fun h20 o20 lp20 => ?_⟩
      have s19 := x19.size
      have s20 := o20.size
      have r20 := o20.fr.row r19 (by omega)
      have d20 := (d15.ext x19).fr o20.fr (fun b g => by rw [g]; exact zl) fun b g => by omega
      have f20 : Fr (fun b => ¬ Z b ∨ b = l) h15 h20 := (x19.fr _).trans o20.fr fun _ _ g => .inr g
      obtain ⟨W20, a20, c20, hx20, dw⟩ := id d20
      have hgo : (Int.fdiv (L1[j].a : Int) (2 ^ min (Int.toNat 48) 64) == IntKind.u64.wrap q) = gone q L1[j] := by
        rw [fdiv48, wq, Bool.eq_iff_iff]
        unfold gone
        simp only [beq_iff_eq, decide_eq_true_eq]
        omega
      have htk := take_next hj
      refine ⟨_, by rw [hcell_row r20]; rfl, q, by rw [hcell_row dw.rr]; rfl, fun g => ?_, fun g => ?_⟩
      · rw [hgo] at g
        obtain ⟨k1, k2, k3⟩ := d20.count
        refine ⟨_, k1, k2, fun h21 e21 => ?_⟩
        obtain ⟨d21, f21⟩ := k3 _ _ e21
        refine ⟨stay _ _ _ _ lp20 (f21.block l (by omega) fun q => q zl), fun h22 o22 lp22 => hK h22 ?_ lp22 ((f20.trans f21 fun _ _ g => .inl g).trans o22.fr fun _ _ g => .inr g)⟩
        have hc : cnt q (Pre ++ L1.take (j + 1)) = IntKind.i64.wrap (cnt q (Pre ++ L1.take j) + 1) := by
          have hb := cnt_le (q := q) (L := Pre ++ L1.take j)
          have hlen : (Pre ++ L1.take j).length ≤ 65 * 65536 := by rw [List.length_append, List.length_take]; omega
          rw [w64 (by omega) (by omega), htk, ← List.append_assoc, cnt_app]
          congr 1
          unfold cnt; simp [g]
        have hf : fl q (Pre ++ L1.take (j + 1)) = fl q (Pre ++ L1.take j) := by
          rw [htk, ← List.append_assoc, fl_app]
          unfold fl; simp [g]
        rw [hc, hf]
        exact d21.fr o22.fr (fun b g => by rw [g]; exact zl) fun b g => by omega
      · rw [hgo] at g
        refine ⟨_, _, _, by rw [hcell_row dw.rl]; rfl, _, _, _, _, by rw [hcell_row r20]; rfl, by rw [hcell_row r20]; rfl, by rw [hcell_row r20]; rfl, by rw [hcell_row r20]; rfl, fun nb1 h23 en1 eh23 => ?_⟩
        have hlen : (fl q (Pre ++ L1.take j)).length ≤ 65 * 65536 := by
          have := List.length_filter_le (fun e => !gone q e) (Pre ++ L1.take j)
          unfold fl
          rw [List.length_append, List.length_take] at this; omega
        refine app_one (x := L1[j]) aEnt en1 eh23 rfl dw.x dw.s dw.w rfl (by omega) fun a' c' h24 _ f24 s24 w24 b24 => ⟨_, _, _, rfl, ?_⟩
        have hf : fl q (Pre ++ L1.take (j + 1)) = fl q (Pre ++ L1.take j) ++ [L1[j]] := by
          rw [htk, ← List.append_assoc, fl_app]
          congr 1
          unfold fl; simp [g]
        have hc : cnt q (Pre ++ L1.take (j + 1)) = cnt q (Pre ++ L1.take j) := by
          rw [htk, ← List.append_assoc, cnt_app]
          have : cnt q [L1[j]] = 0 := by unfold cnt; simp [g]
          omega
        obtain ⟨k1, k2⟩ := DeskW.swap hx20 dw (n' := (fl q (Pre ++ L1.take j)).length + 1) f24 s24 w24 b24 (by simp) fun b g => by have := zlt b g; omega
        refine ⟨k1, fun h25 e25 => ?_⟩
        obtain ⟨d25, f25⟩ := k2 _ e25
        refine ⟨stay _ _ _ _ lp20 (f25.block l (by omega) fun q => q zl), fun h26 o26 lp26 => hK h26 ?_ lp26 ((f20.trans f25 fun _ _ g => .inl g).trans o26.fr fun _ _ g => .inr g)⟩
        rw [hc, hf]
        exact d25.fr o26.fr (fun b g => by rw [g]; exact zl) fun b g => by omega
    · intro Z h' hs' d'
      rw [List.take_of_length_le (Nat.le_refl _), ← hnext] at d'
      rw [wadd k (by omega)]
      exact ⟨rfl, ⟨k + 1, rfl, hkl, d'.z' fun _ g => g.elim⟩, by simp only [Int.toNat_natCast]; omega⟩
  have hkl : k = Ls.length := by have := ge_of_dec hge; omega
  subst hkl
  rw [List.take_of_length_le (Nat.le_refl _)] at d12
  generalize hG : cnt q Ls.flatten = G at *
  generalize hM : fl q Ls.flatten = M at *
  -- all stripes are purged
  refine ⟨fun z st h27 => ∃ k : Nat, st = k ∧ k ≤ Ls.length ∧ z = cnt q (Ls.take k).flatten ∧ Desk (fun _ => False) h h27 x most.toNat rg nb lf gn q ((Ls.take k).map (fl q) ++ Ls.drop k) M G, fun _ st _ => Ls.length - st.toNat, ⟨0, rfl, Nat.zero_le _, rfl, by simpa using d12⟩, ?_⟩
  rintro _ _ h27 ⟨k, rfl, hk, rfl, d27⟩
  obtain ⟨W27, a27, c27, hx27, dw27⟩ := id d27
  have hlen27 : ((Ls.take k).map (fl q) ++ Ls.drop k).length = Ls.length := by simp; omega
  refine ⟨_, stripes_l hx27, fun hlt => ?_, fun hge => ?_⟩
  · rw [hlen27] at hlt
    have hkl := lt_of_dec hlt
    obtain ⟨W', hx', hturn⟩ := d27.turn fun _ g => g.elim
    refine ⟨q, by rw [hcell_row dw27.rr]; rfl, (purge_l hx' k q (by omega)).mono ?_⟩
    rintro _ h28 ⟨rfl, af⟩
    have d28 := hturn _ _ af
    have hel : ent ((Ls.take k).map (fl q) ++ Ls.drop k) (k : Int) = Ls[k] := by
      rw [ent_at (by rw [hlen27]; exact hkl), List.getElem_append_right (by simp; omega)]
      simp [Nat.min_eq_left (Nat.le_of_lt hkl)]
    have hpl : purgeL ((Ls.take k).map (fl q) ++ Ls.drop k) (k : Int) q = (Ls.take (k + 1)).map (fl q) ++ Ls.drop (k + 1) := by
      unfold purgeL
      rw [if_pos ⟨by omega, by rw [hlen27]; omega⟩, hel, Int.toNat_natCast, List.set_append_right _ _ (by simp; omega)]
      rw [List.take_add_one, List.getElem?_eq_getElem hkl, List.map_append]
      simp only [List.length_map, List.length_take, Nat.min_eq_left (Nat.le_of_lt hkl), Nat.sub_self, Option.toList_some, List.map_cons, List.map_nil, List.append_assoc]
      congr 1
      rw [← List.getElem_cons_drop hkl, List.set_cons_zero]
      rfl
    rw [hpl] at d28
    refine ⟨_, rfl, ?_⟩
    have hb := cnt_le (q := q) (L := (Ls.take k).flatten)
    have hPre : (Ls.take k).flatten.length ≤ 64 * 65536 := Nat.le_trans (flat_small fun M hM => hsm M (List.mem_of_mem_take hM)) (by rw [List.length_take]; omega)
    have hr : (((mPurge (ent ((Ls.take k).map (fl q) ++ Ls.drop k) (k : Int)) q).1 : Nat) : Int) = cnt q Ls[k] := by rw [hel]; rfl
    have hb2 := cnt_le (q := q) (L := Ls[k])
    have hLk := hsm _ (List.getElem_mem hkl)
    rw [wadd k (by omega), hr, w64 (by omega) (by omega)]
    refine ⟨⟨k + 1, rfl, hkl, ?_, d28⟩, by simp only [Int.toNat_natCast]; omega⟩
    rw [List.take_add_one, List.getElem?_eq_getElem hkl, List.flatten_append, cnt_app]
    simp
  rw [hlen27] at hge
  have hkl : k = Ls.length := by have := ge_of_dec hge; omega
  subst hkl
  rw [List.take_of_length_le (Nat.le_refl _), List.drop_of_length_le (Nat.le_refl _), List.append_nil] at d27
  rw [List.take_of_length_le (Nat.le_refl _), hG]
  have hM' : M = ((Ls.map (fl q)).drop 0).flatten := by rw [← hM, fl_flat]; rfl
  generalize hLs2 : Ls.map (fl q) = Ls2 at *
  have hl2 : Ls2.length = Ls.length := by rw [← hLs2]; simp
  -- what is left
  refine ⟨fun st h29 => ∃ k : Nat, st = k ∧ k ≤ Ls.length ∧ Desk (fun _ => False) h h29 x most.toNat rg nb lf gn q Ls2 (Ls2.drop k).flatten G, fun st _ => Ls.length - st.toNat, ⟨0, rfl, Nat.zero_le _, by rw [← hM']; exact d27⟩, ?_⟩
  rintro _ h29 ⟨k, rfl, hk, d29⟩
  obtain ⟨W29, a29, c29, hx29, dw29⟩ := id d29
  refine ⟨_, stripes_l hx29, fun hlt => ?_, fun hge => ?_⟩
  · rw [hl2] at hlt
    have hkl := lt_of_dec hlt
    have hkl2 : k < Ls2.length := by omega
    refine (all_l hx29 k).mono ?_
    rintro _ h30 ⟨x30, tb, ta, rfl, lotb, rtb, opt⟩
    rw [ent_at hkl2] at opt
    have hnext : (Ls2.drop k).flatten = Ls2[k] ++ (Ls2.drop (k + 1)).flatten := by rw [← List.getElem_cons_drop hkl2, List.flatten_cons]
    generalize hLL : Ls2[k] = L1 at *
    generalize hR : (Ls2.drop (k + 1)).flatten = Rest at *
    refine ⟨_, rfl, fun Lp l h31 y stay el x31 z31 L31 hyld => ?_⟩
    have s30 := x30.size
    have d30 := d29.ext x30
    have ls30 : h.size ≤ h29.size := dw29.x.size
    refine range_all (OUT := fun pend h34 => (pend = none ∧ _) ∨ (pend = some .ret ∧ _)) stay el x31 z31 L31 (opt.ext x31) (by rw [hcell_row (x31.row rtb)]; rfl) (fun Z j h' => Desk Z h h' x most.toNat rg nb lf gn q Ls2 (L1.drop j ++ Rest) G)
      (fun h3' x3' => by rw [List.drop_zero, ← hnext]; exact ((d30.z' (Z' := fun b => b = l ∨ (h31.size ≤ b ∧ b < h3'.size)) fun b g => by rcases g with g | g <;> omega).ext x31).ext x3') (fun Z j h' h'' zl d f => d.fr f (fun b g => by rw [g]; exact zl) fun b g => by omega) ?_ ?_
    · intro Z j hj h32 K zl zlt lp32 d32 hK
      refine hyld _ _ _ _ h32 K lp32 fun eb h35 ee e35 => ?_
      have r35 : h35[eb]? = some (.cells #[.int .u64 0, .int .u64 0, .int .u64 0, .int .u8 0] 31 (0, 0)) := by rw [e35]; exact push_new ee
      have x35 : Ext h32 h35 := by rw [e35]; exact Ext.push _ _
      refine ⟨HWs_row r35 (by simp), ?_⟩
      rintro h36 e36
      have r36 : h36[eb]? = some (.cells #[.int .u64 L1[j].h, .int .u64 L1[j].a, .int .u64 L1[j].v, .int .u8 L1[j].k] 31 (0, 0)) := by rw [e36, hsets_row _ r35]; rfl
      have x36 : Ext h32 h36 := ext_hsets e36 x35 (by omega)
      clear e36 e35
      have hl32 := zlt l zl
      refine ⟨stay _ _ _ _ lp32 (x36.block l hl32), fun h37 o37 lp37 => ?_⟩
      have s36 := x36.size
      have s37 := o37.size
      have r37 := o37.fr.row r36 (by omega)
      have d37 := (d32.ext x36).fr o37.fr (fun b g => by rw [g]; exact zl) fun b g => by omega
      have f37 : Fr (fun b => ¬ Z b ∨ b = l) h32 h37 := (x36.fr _).trans o37.fr fun _ _ g => .inr g
      have hdr : L1.drop j ++ Rest = L1[j] :: (L1.drop (j + 1) ++ Rest) := by rw [← List.getElem_cons_drop hj]; rfl
      rw [hdr] at d37
      obtain ⟨W37, a37, c37, hx37, dw⟩ := id d37
      obtain ⟨b, o, ea, d⟩ := dw.s.at (i := 0) (x := L1[j]) rfl
      refine ⟨false, ⟨_, _, _, by rw [hcell_row dw.rl]; rfl, fun g => ?_, fun _ => ⟨b, o, ea, by omega, by simp only [List.length_cons]; omega, _, _, _, _, d.1, d.2.1, d.2.2.1, d.2.2.2.1, _, _, _, _, by rw [hcell_row r37]; rfl, by rw [hcell_row r37]; rfl, by rw [hcell_row r37]; rfl, by rw [hcell_row r37]; rfl, by simp⟩⟩, fun g => (by cases g), fun _ => ⟨_, _, _, by rw [hcell_row dw.rl]; rfl, by omega, by simp only [List.length_cons]; omega, by have := dw.s.le; omega, fun sl esl => ?_⟩⟩
      · simp only [List.length_cons, beq_iff_eq] at g; omega
      · have hcut := dw.s.cut (l := 1) (r := (L1[j] :: (L1.drop (j + 1) ++ Rest)).length) (by simp) (Nat.le_refl _)
        have hle := dw.s.le
        have hwcut := dw.w.cut (l := 1) (by simp only [List.length_cons] at hle; omega)
        rw [List.take_of_length_le (Nat.le_refl _), List.drop_succ_cons, List.drop_zero] at hcut
        have esl' : sl = slA a37 1 eEnt.k c37 := esl
        rw [← esl'] at hcut hwcut
        obtain ⟨k1, k2⟩ := DeskW.swap hx37 dw (n' := (((L1[j] :: (L1.drop (j + 1) ++ Rest)).length : Nat) : Int).toNat - Int.toNat 1) (Fr.refl _ _) hcut hwcut (fun b' hb' => .inl (slA_blk (by rw [← esl']; exact hb'))) (by show (_ : Int).toNat - 1 = _; rw [Int.toNat_natCast]; rfl) fun b g => by have := zlt b g; omega
        refine ⟨k1, fun h40 e40 => ?_⟩
        obtain ⟨d40, f40⟩ := k2 _ e40
        refine ⟨stay _ _ _ _ lp37 (f40.block l (by omega) fun q => q zl), fun h41 o41 lp41 => hK h41 ?_ lp41 ((f37.trans f40 fun _ _ g => .inl g).trans o41.fr fun _ _ g => .inr g)⟩
        exact d40.fr o41.fr (fun b g => by rw [g]; exact zl) fun b g => by omega
    · intro Z h' hs' d'
      rw [List.drop_of_length_le (Nat.le_refl _), List.nil_append] at d'
      rw [wadd k (by omega)]
      exact .inl ⟨rfl, ⟨k + 1, rfl, hkl, by rw [hR]; exact d'.z' fun _ g => g.elim⟩, by simp only [Int.toNat_natCast]; omega⟩
  rw [hl2] at hge
  have hkl : k = Ls.length := by have := ge_of_dec hge; omega
  subst hkl
  refine ⟨fun h43 => h43[nb]? = some (.cells #[.bool true] 4 (0, 0)) ∧ Ext h h43, ⟨G, by rw [hcell_row dw29.rc]; rfl, fun _ => ⟨_, _, _, by rw [hcell_row dw29.rl]; rfl, HW_row dw29.rn (by simp), fun h44 e44 => ?_⟩, fun g => by simp at g⟩, fun h43 g43 => stop g43.2 g43.1⟩
  obtain ⟨k1, k2⟩ := put dw29.x dw29.rn e44
  rw [List.drop_of_length_le (by omega)] at k2
  exact ⟨k2, k1⟩
end Ix
end Go.Proofs.Ytkecmljalcfhoaa
