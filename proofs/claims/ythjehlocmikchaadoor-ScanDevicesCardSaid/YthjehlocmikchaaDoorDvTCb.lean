import Derived.Test.YthjehlocmikchaaDoorDvDeq
import Derived.Test.YthjehlocmikchaaDoorDvDrw
import Derived.Test.YthjehlocmikchaaDoorDvRng
import Derived.Test.YthjehlocmikchaaDoorDvTBb
import Derived.Test.YthjehlocmikchaaDoorProg
namespace Go.Proofs.YthjehlocmikchaaDoor
open Go
open Go.Proofs.YthjehlocmikchaaDoor renaming hl_val → lv, hl_step → lp, hl_nil → ln, hl_yes → ly, hl_no → lo, hx_seq → xs, hx_region → xr, hx_cond → xc, hx_block → xb, hx_loopT → xl, hx_cut → xk, hx_has → xh, hx_skip → xi, hx_ret → xt, hx_exit → xe, seqQ_n → qn, seqQ_ret → qr, seqQ_exit → qe, blockQ_n → bn, blockQ_ret → br, blockQ_here → bh, hv_move → vm, hv_assign → va, hv_arith → vr, hv_load → vl, hv_loads → vL, hv_extract → vx, hv_field → vf, hv_build → vb, hv_index → vi, hp_pure → pp, hp_read → pr, hp_no → pn, has_cons → hc, has_nil → hn, hcells_cons → cc, hcells_nil → cn, rowcell → rc, hs_call → sc, ht_one → to
set_option maxRecDepth 100000
set_option maxHeartbeats 4000000
theorem TyTCb.agg24 : aggB Tryd.prog 24 = some true := by kernel_rfl
theorem TyTCb.agg29 : aggB Tryd.prog 29 = some false := by kernel_rfl
theorem TyTCb.agg3 : aggB Tryd.prog 3 = some false := by kernel_rfl
theorem TyTCb.agg31 : aggB Tryd.prog 31 = some true := by kernel_rfl
theorem TyTCb.agg34 : aggB Tryd.prog 34 = some true := by kernel_rfl
theorem TyTCb.agg36 : aggB Tryd.prog 36 = some true := by kernel_rfl
theorem TyTCb.agg43 : aggB Tryd.prog 43 = some true := by kernel_rfl
theorem TyTCb.agg5 : aggB Tryd.prog 5 = some false := by kernel_rfl
theorem TyTCb.agg86 : aggB Tryd.prog 86 = some false := by kernel_rfl
theorem TyTCb.cb16 : CallB Tryd.prog 16 := fun _ _ => Tryd.call16 _ _
theorem TyTCb.cb20 : CallB Tryd.prog 20 := fun _ _ => Tryd.call20 _ _
theorem TyTCb.cb21 : CallB Tryd.prog 21 := fun _ _ => Tryd.call21 _ _
theorem TyTCb.cb37 : CallB Tryd.prog 37 := fun _ _ => Tryd.call37 _ _
theorem TyTCb.cb38 : CallB Tryd.prog 38 := fun _ _ => Tryd.call38 _ _
theorem TyTCb.cb39 : CallB Tryd.prog 39 := fun _ _ => Tryd.call39 _ _
theorem TyTCb.cb40 : CallB Tryd.prog 40 := fun _ _ => Tryd.call40 _ _
theorem TyTCb.cb45 : CallB Tryd.prog 45 := fun _ _ => Tryd.call45 _ _
theorem TyTCb.cb47 : CallB Tryd.prog 47 := fun _ _ => Tryd.call47 _ _
theorem TyTCb.el25 : elB Tryd.prog 25 = some 1 := by kernel_rfl
theorem TyTCb.el32 : elB Tryd.prog 32 = some 7 := by kernel_rfl
theorem TyTCb.fld24_0 : fldB Tryd.prog 24 0 = some 0 := by kernel_rfl
theorem TyTCb.fld24_2 : fldB Tryd.prog 24 2 = some 2 := by kernel_rfl
theorem TyTCb.fld31_1 : fldB Tryd.prog 31 1 = some 1 := by kernel_rfl
theorem TyTCb.fld31_2 : fldB Tryd.prog 31 2 = some 2 := by kernel_rfl
theorem TyTCb.fld45_0 : fldB Tryd.prog 45 0 = some 0 := by kernel_rfl
theorem TyTCb.fld45_1 : fldB Tryd.prog 45 1 = some 1 := by kernel_rfl
theorem TyTCb.fld45_2 : fldB Tryd.prog 45 2 = some 2 := by kernel_rfl
theorem TyTCb.fld88_0 : fldB Tryd.prog 88 0 = some 0 := by kernel_rfl
theorem TyTCb.fld88_1 : fldB Tryd.prog 88 1 = some 1 := by kernel_rfl
theorem TyTCb.fld88_2 : fldB Tryd.prog 88 2 = some 2 := by kernel_rfl
theorem TyTCb.mixed : Tryd.prog.follows .mixedOrders = true := by kernel_rfl
theorem TyTCb.pl34 : plB Tryd.prog 34 = some [(0, 1), (1, 1)] := by kernel_rfl
theorem TyTCb.pl36 : plB Tryd.prog 36 = some [(0, 1), (1, 1), (2, 3), (5, 1), (6, 2), (8, 1)] := by kernel_rfl
theorem TyTCb.pl45 : plB Tryd.prog 45 = some [(0, 1), (1, 1), (2, 1), (3, 4)] := by kernel_rfl
theorem TyTCb.sz24 : szB Tryd.prog 24 = some 4 := by kernel_rfl
theorem TyTCb.sz3 : szB Tryd.prog 3 = some 1 := by kernel_rfl
theorem TyTCb.sz31 : szB Tryd.prog 31 = some 3 := by kernel_rfl
theorem TyTCb.sz34 : szB Tryd.prog 34 = some 2 := by kernel_rfl
theorem TyTCb.sz36 : szB Tryd.prog 36 = some 9 := by kernel_rfl
theorem TyTCb.sz43 : szB Tryd.prog 43 = some 4 := by kernel_rfl
theorem TyTCb.sz45 : szB Tryd.prog 45 = some 7 := by kernel_rfl
theorem TyTCb.sz88 : szB Tryd.prog 88 = some 4 := by kernel_rfl
theorem TyTCb.u25 : Tryd.prog.underlying 25 = some (.slice 5) := by kernel_rfl
theorem TyTCb.u32 : Tryd.prog.underlying 32 = some (.slice 45) := by kernel_rfl
theorem TyTCb.z31 : zeroB Tryd.prog 31 (.agg #[(.int .u64 0), (.int .u64 0), (.int .i64 0)]) := by unfold zeroB; kernel_rfl
theorem TyTCb.z34 : zeroB Tryd.prog 34 (.agg #[(.int .i64 0), (.int .i64 0)]) := by unfold zeroB; kernel_rfl
theorem TyTCb.z36 : zeroB Tryd.prog 36 (.agg #[(.int .i64 0), (.bool false), (.int .u64 0), (.int .u64 0), (.int .i64 0), (.slice none 0 0), (.int .i64 0), (.int .i64 0), (.bool false)]) := by unfold zeroB; kernel_rfl
theorem TyTCb.z43 : zeroB Tryd.prog 43 (.agg #[(.int .i64 0), (.int .u64 0), (.string ByteArray.empty), (.string ByteArray.empty)]) := by unfold zeroB; kernel_rfl
theorem TyTCb.z45 : zeroB Tryd.prog 45 (.agg #[(.int .i64 0), (.int .i64 0), (.int .i64 0), (.int .i64 0), (.int .u64 0), (.string ByteArray.empty), (.string ByteArray.empty)]) := by unfold zeroB; kernel_rfl
theorem TyTCb.z88 : zeroB Tryd.prog 88 (.agg #[(.int .i64 0), (.int .i64 0), (.int .u32 0), (.int .u32 0)]) := by unfold zeroB; kernel_rfl
theorem ext_pushed_f21_sh {h h1 : Heap} {o : Obj} (e : h1 = Array.push h o) : Ext h h1 := by rw [e]; exact Ext.push _ _
theorem f13_sh (a6 : Int) (a5 : Int) (a0 : Int) (a4 : Int) (a1 : Int) (b9 : Option Addr) (b2 : Nat) (b1 : Nat) (h : Heap) (R : Value → Heap → Prop)
  (H : (∀ (g : Nat) (pb : Nat) (h2 : Heap), Array.size h ≤ g → g < Array.size h2 → Array.size h ≤ pb → pb < Array.size h2 → Ext h h2 → HC Tryd.prog 16 #[(.agg #[(.int .i64 a6), (.int .i64 a5), (.int .i64 a0), (.int .i64 a4)])] h2 (fun vv h3 => Ext h2 h3 ∧ ∃ r : Int, vv = (.int .i64 r) ∧ (((r != 0) = true → (∀ h4, Fr (fun i => i = pb) h3 h4 → R (.tuple #[(.agg #[(.int .i64 0), (.bool false), (.int .u64 0), (.int .u64 0), (.int .i64 0), (.slice none 0 0), (.int .i64 0), (.int .i64 0), (.bool false)]), (.int .i64 r)]) h4)) ∧ ((r != 0) = false → (∃ g1 : Bool → Heap → Prop, (((decide (a1 < 0)) = true → (g1 true h3)) ∧ ((decide (a1 < 0)) = false → (((decide (a1 ≥ a0)) = true → (g1 true h3)) ∧ ((decide (a1 ≥ a0)) = false → HC Tryd.prog 20 #[(.agg #[(.int .i64 a6), (.int .i64 a5), (.int .i64 a0), (.int .i64 a4)]), (.slice b9 b2 b1)] h3 (fun vv h6 => Ext h3 h6 ∧ ∃ g2 : Bool, vv = (.bool g2) ∧ (g1 (!g2) h6)))))) ∧ (∀ (j : Bool) (h5 : Heap), g1 j h5 → ((j = true → (∀ h7, Fr (fun i => i = pb) h5 h7 → R (.tuple #[(.agg #[(.int .i64 0), (.bool false), (.int .u64 0), (.int .u64 0), (.int .i64 0), (.slice none 0 0), (.int .i64 0), (.int .i64 0), (.bool false)]), (.int .i64 60)]) h7)) ∧ (j = false → HC Tryd.prog 37 #[(.agg #[(.int .i64 a6), (.int .i64 a5), (.int .i64 a0), (.int .i64 a4)]), (.slice b9 b2 b1)] h5 (fun vv h8 => Ext h5 h8 ∧ ∃ a9 a3 a2 r1 : Int, vv = (.tuple #[(.agg #[(.int .u64 a9), (.int .u64 a3), (.int .i64 a2)]), (.int .i64 r1)]) ∧ ((((r1 != 0) || (a2 != a1)) = true → (∀ (hv : Nat) (d9 : Heap), Array.size h8 ≤ hv → hv < Array.size d9 → Ext h8 d9 → (∀ i1, Fr (fun i => i = pb) d9 i1 → R (.tuple #[(.agg #[(.int .i64 a1), (.bool false), (.int .u64 0), (.int .u64 0), (.int .i64 0), (.slice none 0 0), (.int .i64 0), (.int .i64 1), (.bool false)]), (.int .i64 0)]) i1))) ∧ (((r1 != 0) || (a2 != a1)) = false → (∀ (hv : Nat) (d9 : Heap), Array.size h8 ≤ hv → hv < Array.size d9 → Ext h8 d9 → HC Tryd.prog 21 #[(.agg #[(.int .i64 a6), (.int .i64 a5), (.int .i64 a0), (.int .i64 a4)]), (.slice b9 b2 b1)] d9 (fun vv g0 => Ext d9 g0 ∧ ∃ r0 : Option Addr, ∃ a8 b8 : Nat, ∃ b7 b3 : Int, vv = (.tuple #[(.slice r0 a8 b8), (.agg #[(.int .i64 b7), (.int .i64 b3)])]) ∧ (∀ (d8 : Nat) (f7 : Heap), Array.size g0 ≤ d8 → d8 < Array.size f7 → Ext g0 f7 → HC Tryd.prog 38 #[(.agg #[(.int .i64 a6), (.int .i64 a5), (.int .i64 a0), (.int .i64 a4)]), (.int .i64 32)] f7 (fun vv k8 => Ext f7 k8 ∧ ∃ e2 e6 : Int, vv = (.tuple #[(.int .i64 e2), (.int .i64 e6)]) ∧ (∃ (i3 : Int → Int → Heap → Prop) (g9 : Int → Int → Heap → Nat), i3 e2 0 k8 ∧ (∀ (e0 : Int) (v : Int) (e8 : Heap), i3 e0 v e8 → (((decide (v < (a8 : Int))) = true → (∃ c3 c5 : Nat, r0 = some ⟨c3, c5, none⟩ ∧ (0 : Int) ≤ v ∧ v < (a8 : Int) ∧ (HW e8 c3 (c5 + (Int.toNat v) * 7) ∧ Off c3 [g, pb, hv, d8] ∧ ∀ f2, f2 = hset e8 c3 (c5 + (Int.toNat v) * 7) (.int .i64 a1) → (∃ x : Int, hcell f2 c3 ((c5 + (Int.toNat v) * 7) + 1) = some (.int .i64 x) ∧ (∃ e9 : Int, hcell f2 c3 ((c5 + (Int.toNat v) * 7) + 2) = some (.int .i64 e9) ∧ (i3 (IntKind.i64.wrap (x + e9)) (IntKind.i64.wrap (v + 1)) f2 ∧ g9 (IntKind.i64.wrap (x + e9)) (IntKind.i64.wrap (v + 1)) f2 < g9 e0 v e8)))))) ∧ ((decide (v < (a8 : Int))) = false → HC Tryd.prog 39 #[(.agg #[(.int .i64 a6), (.int .i64 a5), (.int .i64 a0), (.int .i64 a4)]), (.slice b9 b2 b1)] e8 (fun vv f4 => Ext e8 f4 ∧ ∃ a7 b6 b4 d4 d2 : Int, vv = (.tuple #[(.agg #[(.int .i64 a7), (.int .i64 b6), (.int .u32 b4), (.int .u32 d4)]), (.int .i64 d2)]) ∧ (∃ c0 : Bool, (((d2 == 0) = true → (∀ (f : Nat) (e3 : Heap), Array.size f4 ≤ f → f < Array.size e3 → Ext f4 e3 → (∃ e7 : Int, (∀ l3, Ext e3 l3 → HC Tryd.prog 40 #[(.int .u64 a3)] l3 (fun vv h' => vv = (.int .u32 e7) ∧ h' = l3)) ∧ (((b4 == e7) = true → (((a7 == (a8 : Int)) = true → (c0 = (b6 == e0))) ∧ ((a7 == (a8 : Int)) = false → (c0 = false)))) ∧ ((b4 == e7) = false → (c0 = false)))))) ∧ ((d2 == 0) = false → (c0 = false))) ∧ (∀ (e3 : Heap), Ext f4 e3 → (∀ i2, Fr (fun i => i = pb) e3 i2 → R (.tuple #[(.agg #[(.int .i64 a1), (.bool true), (.int .u64 a9), (.int .u64 a3), (.int .i64 a2), (.slice r0 a8 b8), (.int .i64 b7), (.int .i64 b3), (.bool c0)]), (.int .i64 0)]) i2)))))))))))))))))))))))) :
  HC Tryd.prog 13 #[(.agg #[(.int .i64 a6), (.int .i64 a5), (.int .i64 a0), (.int .i64 a4)]), (.int .i64 a1), (.slice b9 b2 b1)] h R := by
 refine hc_of (args := [(.agg #[(.int .i64 a6), (.int .i64 a5), (.int .i64 a0), (.int .i64 a4)]), (.int .i64 a1), (.slice b9 b2 b1)]) Tryd.func13 rfl Tryd.ntmps13 (Nat.le_of_ble_eq_true rfl) ?_
 refine xs (xr ?_)
 refine lp rfl rfl (hn_box (v := (.agg #[(.int .i64 a6), (.int .i64 a5), (.int .i64 a0), (.int .i64 a4)])) rfl ?_)
 intro g h1 m3 m5
 have m2 := ext_pushed_f21_sh m5
 have o5 : Array.size h ≤ g := Nat.le_of_eq (Eq.symm m3)
 have c6 : h1[g]? = some (.cells #[(.int .i64 a6), (.int .i64 a5), (.int .i64 a0), (.int .i64 a4)] 24 (0, 0)) := by rw [m5]; exact push_new m3
 refine lp rfl rfl (hn_alloc TyTCb.z36 ?_)
 intro pb h2 l6 l9
 have m1 := ext_pushed_f21_sh l9
 have j9 := Nat.ne_of_lt (Nat.lt_of_lt_of_eq (row_lt c6) (Eq.symm l6))
 have n8 : Array.size h ≤ pb := Nat.le_trans (Ext.size m2) (Nat.le_of_eq (Eq.symm l6))
 have e4 : h2[pb]? = some (.cells #[(.int .i64 0), (.bool false), (.int .u64 0), (.int .u64 0), (.int .i64 0), (.slice none 0 0), (.int .i64 0), (.int .i64 0), (.bool false)] 36 (0, 0)) := by rw [l9]; exact push_new l6
 replace c6 := Ext.row m1 c6
 have n5 := Ext.trans m2 m1
 refine lv rfl rfl (va rfl) ?_
 refine ln (qn (xs (xs (xr ?_))))
 refine lv rfl rfl (vL (vs := [(.int .i64 a6), (.int .i64 a5), (.int .i64 a0), (.int .i64 a4)]) TyTCb.agg24 TyTCb.sz24 rfl (cc (rc c6 rfl) (cc (rc c6 rfl) (cc (rc c6 rfl) (cc (rc c6 rfl) cn))))) ?_
 replace H := H g pb h2 o5 (row_lt c6) n8 (row_lt e4) n5
 refine lp rfl rfl (sc TyTCb.cb16 rfl (HC.mono H ?_))
 rintro _ h3 ⟨k7, r, rfl, H⟩
 replace c6 := Ext.row k7 c6
 replace e4 := Ext.row k7 e4
 refine lv rfl rfl (va rfl) ?_
 refine ln (qn (xs (xr ?_)))
 refine lv rfl rfl (vm rfl) (lv rfl rfl (vr rfl rfl rfl) ?_)
 refine ln (qn ?_)
 refine xc (b := r != 0) rfl (fun i8 => ?_) (fun i8 => ?_)
 ·replace H := H.1 i8
  refine xs (xr ?_)
  refine lv rfl rfl (v := (.agg #[(.int .i64 0), (.bool false), (.int .u64 0), (.int .u64 0), (.int .i64 0), (.slice none 0 0), (.int .i64 0), (.int .i64 0), (.bool false)])) (vb (vs := []) (cs := #[(.int .i64 0), (.bool false), (.int .u64 0), (.int .u64 0), (.int .i64 0), (.slice none 0 0), (.int .i64 0), (.int .i64 0), (.bool false)]) TyTCb.z36 TyTCb.pl36 rfl (by kernel_rfl)) (lv rfl rfl (vm rfl) ?_)
  refine lp rfl rfl (hn_stores (vs := [(.int .i64 0), (.bool false), (.int .u64 0), (.int .u64 0), (.int .i64 0), (.slice none 0 0), (.int .i64 0), (.int .i64 0), (.bool false)]) rfl rfl TyTCb.sz36 rfl (HWs_row e4 (by simp)) ?_)
  intro h4 i9
  replace c6 := row_hsets_ne i9 j9 c6
  have e1 : h4[pb]? = some (.cells #[(.int .i64 0), (.bool false), (.int .u64 0), (.int .u64 0), (.int .i64 0), (.slice none 0 0), (.int .i64 0), (.int .i64 0), (.bool false)] 36 (0, 0)) := row_hsets_eq i9 e4 (by simp [sets])
  replace H := H h4 (fr_hsets_of i9)
  refine lv rfl rfl (va rfl) ?_
  refine ln (qn (xt (qr ?_)))
  exact endQ_ret _ (res_two Tryd.results13 (rv_cell (vs := [(.int .i64 0), (.bool false), (.int .u64 0), (.int .u64 0), (.int .i64 0), (.slice none 0 0), (.int .i64 0), (.int .i64 0), (.bool false)]) TyTCb.agg36 TyTCb.sz36 rfl (cc (rc e1 rfl) (cc (rc e1 rfl) (cc (rc e1 rfl) (cc (rc e1 rfl) (cc (rc e1 rfl) (cc (rc e1 rfl) (cc (rc e1 rfl) (cc (rc e1 rfl) (cc (rc e1 rfl) cn)))))))))) (rv_tmp rfl)) H
 ·replace H := H.2 i8
  refine xi (qn (xs ?_))
  obtain ⟨g1, j2, i5⟩ := H
  refine xk (fun ρ h' => ∃ j : Bool, (g1 j h' ∧ h'[g]? = some (.cells #[(.int .i64 a6), (.int .i64 a5), (.int .i64 a0), (.int .i64 a4)] 24 (0, 0)) ∧ h'[pb]? = some (.cells #[(.int .i64 0), (.bool false), (.int .u64 0), (.int .u64 0), (.int .i64 0), (.slice none 0 0), (.int .i64 0), (.int .i64 0), (.bool false)] 36 (0, 0)) ∧ True) ∧ Has ρ [(1, (.int .i64 a1)), (2, (.slice b9 b2 b1)), (3, (ptr g 0)), (6, (ptr pb 0)), (37, (.bool j))]) ?_ ?_
  ·have H := j2; clear j2 i5
   refine xr ?_
   refine lv rfl rfl (vm rfl) (lv rfl rfl (vr rfl rfl rfl) (lv rfl rfl (vm rfl) ?_))
   rcases bool_or (decide (a1 < 0)) with d0 | d0
   ·replace H := H.1 d0
    refine lo (wanted_n rfl rfl rfl d0) rfl ?_
    refine lo (wanted_n rfl rfl rfl d0) rfl ?_
    refine lo (wanted_n rfl rfl rfl d0) rfl ?_
    refine lo (wanted_n rfl rfl rfl d0) rfl ?_
    refine lv rfl rfl (v := (.bool true)) (hv_pick_t rfl d0 rfl) (lv rfl rfl (vm rfl) ?_)
    refine lo (wanted_n rfl rfl (c := true) rfl rfl) rfl ?_
    refine lo (wanted_n rfl rfl (c := true) rfl rfl) rfl ?_
    refine lo (wanted_n rfl rfl (c := true) rfl rfl) rfl ?_
    refine lo (wanted_n rfl rfl (c := true) rfl rfl) rfl ?_
    refine lv rfl rfl (v := (.bool true)) (hv_pick (t := true) rfl rfl) ?_
    refine ln (qn ?_)
    exact ⟨_, ⟨H, c6, e4, trivial⟩, (hc rfl (hc rfl (hc rfl (hc rfl (hc rfl hn)))))⟩
   ·replace H := H.2 d0
    refine ly (wanted_y rfl rfl rfl d0) rfl (HStep.of_val (v := (.int .i64 a1)) (vm rfl) ?_)
    refine ly (wanted_y rfl rfl rfl d0) rfl (HStep.of_val (v := (ptr g 2)) (vf TyTCb.fld24_2 (b := g) (o := 0) rfl) ?_)
    refine ly (wanted_y rfl rfl rfl d0) rfl (HStep.of_val (v := (.int .i64 a0)) (vl TyTCb.agg3 rfl (rc c6 rfl)) ?_)
    refine ly (wanted_y rfl rfl rfl d0) rfl (HStep.of_val (v := (.bool (decide (a1 ≥ a0)))) (vr rfl rfl rfl) ?_)
    refine lv rfl rfl (v := (.bool (decide (a1 ≥ a0)))) (hv_pick_f rfl d0 rfl) (lv rfl rfl (vm rfl) ?_)
    rcases bool_or (decide (a1 ≥ a0)) with d3 | d3
    ·replace H := H.1 d3
     refine lo (wanted_n rfl rfl rfl d3) rfl ?_
     refine lo (wanted_n rfl rfl rfl d3) rfl ?_
     refine lo (wanted_n rfl rfl rfl d3) rfl ?_
     refine lo (wanted_n rfl rfl rfl d3) rfl ?_
     refine lv rfl rfl (v := (.bool true)) (hv_pick_t rfl d3 rfl) ?_
     refine ln (qn ?_)
     exact ⟨_, ⟨H, c6, e4, trivial⟩, (hc rfl (hc rfl (hc rfl (hc rfl (hc rfl hn)))))⟩
    ·replace H := H.2 d3
     refine ly (wanted_y rfl rfl rfl d3) rfl (HStep.of_val (v := (.agg #[(.int .i64 a6), (.int .i64 a5), (.int .i64 a0), (.int .i64 a4)])) (vL (vs := [(.int .i64 a6), (.int .i64 a5), (.int .i64 a0), (.int .i64 a4)]) TyTCb.agg24 TyTCb.sz24 rfl (cc (rc c6 rfl) (cc (rc c6 rfl) (cc (rc c6 rfl) (cc (rc c6 rfl) cn))))) ?_)
     refine ly (wanted_y rfl rfl rfl d3) rfl (HStep.of_val (v := (.slice b9 b2 b1)) (vm rfl) ?_)
     refine ly (wanted_y rfl rfl rfl d3) rfl (sc TyTCb.cb20 rfl (HC.mono H ?_))
     rintro _ h6 ⟨l1, g2, rfl, H⟩
     replace c6 := Ext.row l1 c6
     replace e4 := Ext.row l1 e4
     refine ly (wanted_y rfl rfl rfl d3) rfl (HStep.of_val (v := (.bool (!g2))) (hv_not (b := g2) rfl) ?_)
     refine lv rfl rfl (v := (.bool (!g2))) (hv_pick_f rfl d3 rfl) ?_
     refine ln (qn ?_)
     exact ⟨_, ⟨H, c6, e4, trivial⟩, (hc rfl (hc rfl (hc rfl (hc rfl (hc rfl hn)))))⟩
  ·rintro ρ h5 ⟨j, ⟨n9, b0, c1, -⟩, hH⟩
   have H := i5 j h5 n9; clear j2 i5
   refine xh _ hH ?_
   refine xc (b := j) rfl (fun i7 => ?_) (fun i7 => ?_)
   ·replace H := H.1 i7
    refine xs (xr ?_)
    refine lv rfl rfl (v := (.agg #[(.int .i64 0), (.bool false), (.int .u64 0), (.int .u64 0), (.int .i64 0), (.slice none 0 0), (.int .i64 0), (.int .i64 0), (.bool false)])) (vb (vs := []) (cs := #[(.int .i64 0), (.bool false), (.int .u64 0), (.int .u64 0), (.int .i64 0), (.slice none 0 0), (.int .i64 0), (.int .i64 0), (.bool false)]) TyTCb.z36 TyTCb.pl36 rfl (by kernel_rfl)) ?_
    refine lp rfl rfl (hn_stores (vs := [(.int .i64 0), (.bool false), (.int .u64 0), (.int .u64 0), (.int .i64 0), (.slice none 0 0), (.int .i64 0), (.int .i64 0), (.bool false)]) rfl rfl TyTCb.sz36 rfl (HWs_row c1 (by simp)) ?_)
    intro h7 j1
    replace b0 := row_hsets_ne j1 j9 b0
    have b5 : h7[pb]? = some (.cells #[(.int .i64 0), (.bool false), (.int .u64 0), (.int .u64 0), (.int .i64 0), (.slice none 0 0), (.int .i64 0), (.int .i64 0), (.bool false)] 36 (0, 0)) := row_hsets_eq j1 c1 (by simp [sets])
    replace H := H h7 (fr_hsets_of j1)
    refine lv rfl rfl (va rfl) ?_
    refine ln (qn (xt (qr ?_)))
    exact endQ_ret _ (res_two Tryd.results13 (rv_cell (vs := [(.int .i64 0), (.bool false), (.int .u64 0), (.int .u64 0), (.int .i64 0), (.slice none 0 0), (.int .i64 0), (.int .i64 0), (.bool false)]) TyTCb.agg36 TyTCb.sz36 rfl (cc (rc b5 rfl) (cc (rc b5 rfl) (cc (rc b5 rfl) (cc (rc b5 rfl) (cc (rc b5 rfl) (cc (rc b5 rfl) (cc (rc b5 rfl) (cc (rc b5 rfl) (cc (rc b5 rfl) cn)))))))))) (rv_tmp rfl)) H
   ·replace H := H.2 i7
    refine xi (qn (xs (xr ?_)))
    refine lv rfl rfl (vL (vs := [(.int .i64 a6), (.int .i64 a5), (.int .i64 a0), (.int .i64 a4)]) TyTCb.agg24 TyTCb.sz24 rfl (cc (rc b0 rfl) (cc (rc b0 rfl) (cc (rc b0 rfl) (cc (rc b0 rfl) cn))))) (lv rfl rfl (vm rfl) ?_)
    refine lp rfl rfl (sc TyTCb.cb37 rfl (HC.mono H ?_))
    rintro _ h8 ⟨l5, a9, a3, a2, r1, rfl, H⟩
    replace b0 := Ext.row l5 b0
    replace c1 := Ext.row l5 c1
    refine lv rfl rfl (vm rfl) (lv rfl rfl (vx rfl rfl) (lv rfl rfl (vx rfl rfl) ?_))
    refine lp rfl rfl (hn_alloc TyTCb.z31 ?_)
    intro hv h9 g6 k4
    have k0 := ext_pushed_f21_sh k4
    have m6 := Nat.ne_of_lt (Nat.lt_of_lt_of_eq (row_lt b0) (Eq.symm g6))
    have l0 := Nat.ne_of_lt (Nat.lt_of_lt_of_eq (row_lt c1) (Eq.symm g6))
    have j8 : Array.size h8 ≤ hv := Nat.le_of_eq (Eq.symm g6)
    have l2 : h9[hv]? = some (.cells #[(.int .u64 0), (.int .u64 0), (.int .i64 0)] 31 (0, 0)) := by rw [k4]; exact push_new g6
    replace b0 := Ext.row k0 b0
    replace c1 := Ext.row k0 c1
    refine lp rfl rfl (hn_stores (vs := [(.int .u64 a9), (.int .u64 a3), (.int .i64 a2)]) rfl rfl TyTCb.sz31 rfl (HWs_row l2 (by simp)) ?_)
    intro d9 g8
    replace b0 := row_hsets_ne g8 m6 b0
    replace c1 := row_hsets_ne g8 l0 c1
    have c2 : d9[hv]? = some (.cells #[(.int .u64 a9), (.int .u64 a3), (.int .i64 a2)] 31 (0, 0)) := row_hsets_eq g8 l2 rfl
    have l8 := ext_hsets g8 k0 j8
    refine lv rfl rfl (va rfl) ?_
    refine ln (qn (xs ?_))
    refine xk (fun ρ h' => d9 = h' ∧ Has ρ [(1, (.int .i64 a1)), (2, (.slice b9 b2 b1)), (3, (ptr g 0)), (6, (ptr pb 0)), (9, (ptr hv 0)), (52, (.bool ((r1 != 0) || (a2 != a1))))]) ?_ ?_
    ·refine xr ?_
     refine lv rfl rfl (vm rfl) (lv rfl rfl (vr rfl rfl rfl) (lv rfl rfl (vm rfl) ?_))
     rcases bool_or (r1 != 0) with c7 | c7
     ·refine lo (wanted_n rfl rfl rfl c7) rfl ?_
      refine lo (wanted_n rfl rfl rfl c7) rfl ?_
      refine lo (wanted_n rfl rfl rfl c7) rfl ?_
      refine lo (wanted_n rfl rfl rfl c7) rfl ?_
      refine lv rfl rfl (v := (.bool true)) (hv_pick_t rfl c7 rfl) ?_
      refine ln (qn ?_)
      exact ⟨rfl, (hc rfl (hc rfl (hc rfl (hc rfl (hc rfl (hc (show ((.bool true) : Value) = (.bool ((r1 != 0) || (a2 != a1))) from (by first | rfl | ((try rw [c7]); all_goals first | rfl | (simp only [Bool.true_or, Bool.or_true, Bool.false_or, Bool.or_false, Bool.true_and, Bool.and_true, Bool.false_and, Bool.and_false, Bool.not_true, Bool.not_false, Bool.cond_true, Bool.cond_false]; done)) | simp [c7])) hn))))))⟩
     ·refine ly (wanted_y rfl rfl rfl c7) rfl (HStep.of_val (v := (ptr hv 2)) (vf TyTCb.fld31_2 (b := hv) (o := 0) rfl) ?_)
      refine ly (wanted_y rfl rfl rfl c7) rfl (HStep.of_val (v := (.int .i64 a2)) (vl TyTCb.agg3 rfl (rc c2 rfl)) ?_)
      refine ly (wanted_y rfl rfl rfl c7) rfl (HStep.of_val (v := (.int .i64 a1)) (vm rfl) ?_)
      refine ly (wanted_y rfl rfl rfl c7) rfl (HStep.of_val (v := (.bool (a2 != a1))) (vr rfl rfl rfl) ?_)
      refine lv rfl rfl (v := (.bool (a2 != a1))) (hv_pick_f rfl c7 rfl) ?_
      refine ln (qn ?_)
      exact ⟨rfl, (hc rfl (hc rfl (hc rfl (hc rfl (hc rfl (hc (show ((.bool (a2 != a1)) : Value) = (.bool ((r1 != 0) || (a2 != a1))) from (by first | rfl | ((try rw [c7]); all_goals first | rfl | (simp only [Bool.true_or, Bool.or_true, Bool.false_or, Bool.or_false, Bool.true_and, Bool.and_true, Bool.false_and, Bool.and_false, Bool.not_true, Bool.not_false, Bool.cond_true, Bool.cond_false]; done)) | simp [c7])) hn))))))⟩
    ·rintro ρ _ ⟨rfl, hH⟩
     refine xh _ hH ?_
     refine xc (b := ((r1 != 0) || (a2 != a1))) rfl (fun i4 => ?_) (fun i4 => ?_)
     ·replace H := H.1 i4
      refine xs (xr ?_)
      refine lv rfl rfl (vm rfl) (lv rfl rfl (v := (.agg #[(.int .i64 0), (.int .i64 1)])) (vb (vs := [(0, (.int .i64 0)), (1, (.int .i64 1))]) (cs := #[(.int .i64 0), (.int .i64 1)]) TyTCb.z34 TyTCb.pl34 rfl (by kernel_rfl)) (lv rfl rfl (v := (.agg #[(.int .i64 a1), (.bool false), (.int .u64 0), (.int .u64 0), (.int .i64 0), (.slice none 0 0), (.int .i64 0), (.int .i64 1), (.bool false)])) (vb (vs := [(0, (.int .i64 a1)), (4, (.agg #[(.int .i64 0), (.int .i64 1)]))]) (cs := #[(.int .i64 a1), (.bool false), (.int .u64 0), (.int .u64 0), (.int .i64 0), (.slice none 0 0), (.int .i64 0), (.int .i64 1), (.bool false)]) TyTCb.z36 TyTCb.pl36 rfl (by kernel_rfl)) ?_))
      replace H := H hv d9 j8 (row_lt c2) l8
      refine lp rfl rfl (hn_stores (vs := [(.int .i64 a1), (.bool false), (.int .u64 0), (.int .u64 0), (.int .i64 0), (.slice none 0 0), (.int .i64 0), (.int .i64 1), (.bool false)]) rfl rfl TyTCb.sz36 rfl (HWs_row c1 (by simp)) ?_)
      intro i1 g3
      replace b0 := row_hsets_ne g3 j9 b0
      replace c2 := row_hsets_ne g3 (Ne.symm l0) c2
      have b5 : i1[pb]? = some (.cells #[(.int .i64 a1), (.bool false), (.int .u64 0), (.int .u64 0), (.int .i64 0), (.slice none 0 0), (.int .i64 0), (.int .i64 1), (.bool false)] 36 (0, 0)) := row_hsets_eq g3 c1 (by simp [sets])
      replace H := H i1 (fr_hsets_of g3)
      refine lv rfl rfl (va rfl) ?_
      refine ln (qn (xt (qr ?_)))
      exact endQ_ret _ (res_two Tryd.results13 (rv_cell (vs := [(.int .i64 a1), (.bool false), (.int .u64 0), (.int .u64 0), (.int .i64 0), (.slice none 0 0), (.int .i64 0), (.int .i64 1), (.bool false)]) TyTCb.agg36 TyTCb.sz36 rfl (cc (rc b5 rfl) (cc (rc b5 rfl) (cc (rc b5 rfl) (cc (rc b5 rfl) (cc (rc b5 rfl) (cc (rc b5 rfl) (cc (rc b5 rfl) (cc (rc b5 rfl) (cc (rc b5 rfl) cn)))))))))) (rv_tmp rfl)) H
     ·replace H := H.2 i4
      refine xi (qn (xs (xr ?_)))
      refine lv rfl rfl (vL (vs := [(.int .i64 a6), (.int .i64 a5), (.int .i64 a0), (.int .i64 a4)]) TyTCb.agg24 TyTCb.sz24 rfl (cc (rc b0 rfl) (cc (rc b0 rfl) (cc (rc b0 rfl) (cc (rc b0 rfl) cn))))) (lv rfl rfl (vm rfl) ?_)
      replace H := H hv d9 j8 (row_lt c2) l8
      refine lp rfl rfl (sc TyTCb.cb21 rfl (HC.mono H ?_))
      rintro _ g0 ⟨j0, r0, a8, b8, b7, b3, rfl, H⟩
      replace b0 := Ext.row j0 b0
      replace c1 := Ext.row j0 c1
      replace c2 := Ext.row j0 c2
      refine lv rfl rfl (vm rfl) (lv rfl rfl (vx rfl rfl) (lv rfl rfl (vx rfl rfl) ?_))
      refine lp rfl rfl (hn_alloc TyTCb.z34 ?_)
      intro d8 m4 f5 l4
      have g7 := ext_pushed_f21_sh l4
      have n2 := Nat.ne_of_lt (Nat.lt_of_lt_of_eq (row_lt b0) (Eq.symm f5))
      have o1 := Nat.ne_of_lt (Nat.lt_of_lt_of_eq (row_lt c1) (Eq.symm f5))
      have m8 := Nat.ne_of_lt (Nat.lt_of_lt_of_eq (row_lt c2) (Eq.symm f5))
      have k5 : Array.size g0 ≤ d8 := Nat.le_of_eq (Eq.symm f5)
      have k3 : m4[d8]? = some (.cells #[(.int .i64 0), (.int .i64 0)] 34 (0, 0)) := by rw [l4]; exact push_new f5
      replace b0 := Ext.row g7 b0
      replace c1 := Ext.row g7 c1
      replace c2 := Ext.row g7 c2
      refine lv rfl rfl (va rfl) ?_
      refine lp rfl rfl (hn_stores (vs := [(.int .i64 b7), (.int .i64 b3)]) rfl rfl TyTCb.sz34 rfl (HWs_row k3 (by simp)) ?_)
      intro f7 f3
      replace b0 := row_hsets_ne f3 n2 b0
      replace c1 := row_hsets_ne f3 o1 c1
      replace c2 := row_hsets_ne f3 m8 c2
      have f1 : f7[d8]? = some (.cells #[(.int .i64 b7), (.int .i64 b3)] 34 (0, 0)) := row_hsets_eq f3 k3 rfl
      have m9 := ext_hsets f3 g7 k5
      refine ln (qn (xs (xr ?_)))
      refine lv rfl rfl (vL (vs := [(.int .i64 a6), (.int .i64 a5), (.int .i64 a0), (.int .i64 a4)]) TyTCb.agg24 TyTCb.sz24 rfl (cc (rc b0 rfl) (cc (rc b0 rfl) (cc (rc b0 rfl) (cc (rc b0 rfl) cn))))) ?_
      replace H := H d8 f7 k5 (row_lt f1) m9
      refine lp rfl rfl (sc TyTCb.cb38 rfl (HC.mono H ?_))
      rintro _ k8 ⟨g4, e2, e6, rfl, H⟩
      replace b0 := Ext.row g4 b0
      replace c1 := Ext.row g4 c1
      replace c2 := Ext.row g4 c2
      replace f1 := Ext.row g4 f1
      refine lv rfl rfl (vm rfl) (lv rfl rfl (vx rfl rfl) (lv rfl rfl (vx rfl rfl) (lv rfl rfl (va rfl) (lv rfl rfl (va rfl) ?_))))
      refine ln (qn (xs (xs (xr ?_))))
      refine lv rfl rfl (vm rfl) (lv rfl rfl (v := (.int .i64 (a8 : Int))) (hv_len (n := a8) TyTCb.u32 rfl) (lv rfl rfl (vm rfl) ?_))
      refine ln (qn (xb ?_))
      obtain ⟨i3, g9, m7, n0⟩ := H
      refine xl (σ := Int × Int) (fun s => [(1, (.int .i64 a1)), (2, (.slice b9 b2 b1)), (3, (ptr g 0)), (6, (ptr pb 0)), (9, (ptr hv 0)), (11, (.slice r0 a8 b8)), (12, (ptr d8 0)), (13, (.int .i64 s.1)), (68, (.int .i64 (a8 : Int))), (69, (.int .i64 s.2))]) (fun s h' => i3 s.1 s.2 h' ∧ h'[g]? = some (.cells #[(.int .i64 a6), (.int .i64 a5), (.int .i64 a0), (.int .i64 a4)] 24 (0, 0)) ∧ h'[pb]? = some (.cells #[(.int .i64 0), (.bool false), (.int .u64 0), (.int .u64 0), (.int .i64 0), (.slice none 0 0), (.int .i64 0), (.int .i64 0), (.bool false)] 36 (0, 0)) ∧ h'[hv]? = some (.cells #[(.int .u64 a9), (.int .u64 a3), (.int .i64 a2)] 31 (0, 0)) ∧ h'[d8]? = some (.cells #[(.int .i64 b7), (.int .i64 b3)] 34 (0, 0)) ∧ True) (fun s h' => g9 s.1 s.2 h') (e2, 0) ⟨m7, b0, c1, c2, f1, trivial⟩ (hc rfl (hc rfl (hc rfl (hc rfl (hc rfl (hc rfl (hc rfl (hc rfl (hc rfl (hc rfl hn)))))))))) ?_
      rintro ⟨e0, v⟩ ρ e8 ⟨n4, e5, d5, c9, d6, -⟩
      have H := n0 e0 v e8 n4
      refine xs (xr ?_)
      refine lv rfl rfl (vr rfl rfl rfl) ?_
      refine ln (qn (xs ?_))
      refine xc (b := decide (v < (a8 : Int))) rfl (fun j6 => ?_) (fun j6 => ?_)
      ·replace H := H.1 j6
       refine xi (qn (xs (xb (xs (xr ?_)))))
       refine lv rfl rfl (vm rfl) (lv rfl rfl (va rfl) ?_)
       refine ln (qn (xs (xr ?_)))
       refine lv rfl rfl (vm rfl) (lv rfl rfl (vm rfl) (lv rfl rfl (vm rfl) ?_))
       obtain ⟨c3, c5, o4, j3, i6, Hq⟩ := H
       subst o4
       have H := Hq; clear Hq
       refine lv rfl rfl (v := (ptr c3 (c5 + (Int.toNat v) * 7))) (vi TyTCb.el32 rfl rfl j3 i6) (lv rfl rfl (v := (ptr c3 (c5 + (Int.toNat v) * 7))) (vf TyTCb.fld45_0 (b := c3) (o := c5 + (Int.toNat v) * 7) rfl) ?_)
       obtain ⟨o0, g5, H⟩ := H
       refine lp rfl rfl (hn_store (v := (.int .i64 a1)) rfl rfl TyTCb.sz3 rfl o0 ?_)
       intro f2 f6
       replace H := H f2 f6
       replace e5 := row_hset_ne f6 (g5 _ (by simp)) e5
       replace d5 := row_hset_ne f6 (g5 _ (by simp)) d5
       replace c9 := row_hset_ne f6 (g5 _ (by simp)) c9
       replace d6 := row_hset_ne f6 (g5 _ (by simp)) d6
       refine ln (qn ?_)
       refine hx_draw TyTCb.mixed [.pure, .pure, .pure, .pure, .read, .pure, .pure, .pure, .pure, .read, .pure, .pure] [0, 1, 2, 3, 4, 5, 6, 7, 8, 9, 10, 11] (by kernel_rfl) ?_
       refine pp (i := 0) rfl (wanted_0 rfl) rfl (.slice (some ⟨c3, c5, none⟩) a8 b8) (fun _ => vm rfl) ?_
       refine pp (i := 1) rfl (wanted_0 rfl) rfl (.int .i64 v) (fun _ => vm rfl) ?_
       refine pp (i := 2) rfl (wanted_0 rfl) rfl (ptr c3 (c5 + (Int.toNat v) * 7)) (fun _ => vi TyTCb.el32 rfl rfl j3 i6) ?_
       refine pp (i := 3) rfl (wanted_0 rfl) rfl (ptr c3 ((c5 + (Int.toNat v) * 7) + 1)) (fun _ => vf TyTCb.fld45_1 (b := c3) (o := c5 + (Int.toNat v) * 7) rfl) ?_
       obtain ⟨x, o3, H⟩ := H
       refine pr (i := 4) rfl (wanted_0 rfl) rfl (.int .i64 x) (fun _ he => vl TyTCb.agg3 rfl (Ext.cell he o3)) ?_
       refine pp (i := 5) rfl (wanted_0 rfl) rfl (.slice (some ⟨c3, c5, none⟩) a8 b8) (fun _ => vm rfl) ?_
       refine pp (i := 6) rfl (wanted_0 rfl) rfl (.int .i64 v) (fun _ => vm rfl) ?_
       refine pp (i := 7) rfl (wanted_0 rfl) rfl (ptr c3 (c5 + (Int.toNat v) * 7)) (fun _ => vi TyTCb.el32 rfl rfl j3 i6) ?_
       refine pp (i := 8) rfl (wanted_0 rfl) rfl (ptr c3 ((c5 + (Int.toNat v) * 7) + 2)) (fun _ => vf TyTCb.fld45_2 (b := c3) (o := c5 + (Int.toNat v) * 7) rfl) ?_
       obtain ⟨e9, o2, H⟩ := H
       refine pr (i := 9) rfl (wanted_0 rfl) rfl (.int .i64 e9) (fun _ he => vl TyTCb.agg3 rfl (Ext.cell he o2)) ?_
       refine pp (i := 10) rfl (wanted_0 rfl) rfl (.int .i64 (IntKind.i64.wrap (x + e9))) (fun _ => vr rfl rfl rfl) ?_
       refine pp (i := 11) rfl (wanted_0 rfl) rfl (.int .i64 (IntKind.i64.wrap (x + e9))) (fun _ => va rfl) ?_
       refine hp_nil ?_
       refine bn (qn (xr ?_))
       refine lv rfl rfl (vr rfl rfl rfl) (lv rfl rfl (vm rfl) ?_)
       refine ln (qn ?_)
       exact ⟨(IntKind.i64.wrap (x + e9), IntKind.i64.wrap (v + 1)), ⟨⟨H.1, e5, d5, c9, d6, trivial⟩, H.2⟩, (hc rfl (hc rfl (hc rfl (hc rfl (hc rfl (hc rfl (hc rfl (hc rfl (hc rfl (hc rfl hn))))))))))⟩
      ·replace H := H.2 j6
       refine xe (qe (qe (bh (qn (xs (xr ?_))))))
       refine lv rfl rfl (vL (vs := [(.int .i64 a6), (.int .i64 a5), (.int .i64 a0), (.int .i64 a4)]) TyTCb.agg24 TyTCb.sz24 rfl (cc (rc e5 rfl) (cc (rc e5 rfl) (cc (rc e5 rfl) (cc (rc e5 rfl) cn))))) (lv rfl rfl (vm rfl) ?_)
       refine lp rfl rfl (sc TyTCb.cb39 rfl (HC.mono H ?_))
       rintro _ f4 ⟨j4, a7, b6, b4, d4, d2, rfl, H⟩
       replace d5 := Ext.row j4 d5
       replace c9 := Ext.row j4 c9
       replace d6 := Ext.row j4 d6
       refine lv rfl rfl (vm rfl) (lv rfl rfl (vx rfl rfl) (lv rfl rfl (vx rfl rfl) ?_))
       refine lp rfl rfl (hn_alloc TyTCb.z88 ?_)
       intro f m0 f8 k6
       have i0 := ext_pushed_f21_sh k6
       have n6 := Nat.ne_of_lt (Nat.lt_of_lt_of_eq (row_lt d5) (Eq.symm f8))
       have n1 := Nat.ne_of_lt (Nat.lt_of_lt_of_eq (row_lt c9) (Eq.symm f8))
       have n3 := Nat.ne_of_lt (Nat.lt_of_lt_of_eq (row_lt d6) (Eq.symm f8))
       have k2 : Array.size f4 ≤ f := Nat.le_of_eq (Eq.symm f8)
       have k1 : m0[f]? = some (.cells #[(.int .i64 0), (.int .i64 0), (.int .u32 0), (.int .u32 0)] 88 (0, 0)) := by rw [k6]; exact push_new f8
       replace d5 := Ext.row i0 d5
       replace c9 := Ext.row i0 c9
       replace d6 := Ext.row i0 d6
       refine lp rfl rfl (hn_stores (vs := [(.int .i64 a7), (.int .i64 b6), (.int .u32 b4), (.int .u32 d4)]) rfl rfl TyTCb.sz88 rfl (HWs_row k1 (by simp)) ?_)
       intro e3 f9
       replace d5 := row_hsets_ne f9 n6 d5
       replace c9 := row_hsets_ne f9 n1 c9
       replace d6 := row_hsets_ne f9 n3 d6
       have f0 : e3[f]? = some (.cells #[(.int .i64 a7), (.int .i64 b6), (.int .u32 b4), (.int .u32 d4)] 88 (0, 0)) := row_hsets_eq f9 k1 rfl
       have k9 := ext_hsets f9 i0 k2
       refine lv rfl rfl (va rfl) ?_
       refine ln (qn ?_)
       obtain ⟨c0, j7, j5⟩ := H
       refine xk (fun ρ h' => e3 = h' ∧ Has ρ [(1, (.int .i64 a1)), (6, (ptr pb 0)), (9, (ptr hv 0)), (11, (.slice r0 a8 b8)), (12, (ptr d8 0)), (17, (.bool c0))]) ?_ ?_
       ·have H := j7; clear j7 j5
        refine hx_draw TyTCb.mixed [.pure, .pure, .pure, .pure, .read, .pure, .read, .read, .pure, .pure, .pure, .pure, .read, .pure, .pure, .pure, .pure, .pure, .pure, .read, .pure, .pure, .pure, .pure] [0, 1, 2, 3, 4, 5, 6, 7, 8, 9, 10, 11, 12, 13, 14, 15, 16, 17, 18, 19, 20, 21, 22, 23] (by kernel_rfl) ?_
        refine pp (i := 0) rfl (wanted_0 rfl) rfl (.int .i64 d2) (fun _ => vm rfl) ?_
        refine pp (i := 1) rfl (wanted_0 rfl) rfl (.bool (d2 == 0)) (fun _ => vr rfl rfl rfl) ?_
        refine pp (i := 2) rfl (wanted_0 rfl) rfl (.bool (d2 == 0)) (fun _ => vm rfl) ?_
        rcases bool_or (d2 == 0) with c4 | c4
        ·replace H := H.1 c4
         refine pp (i := 3) rfl (wanted_y rfl rfl rfl c4) rfl (ptr f 2) (fun _ => vf TyTCb.fld88_2 (b := f) (o := 0) rfl) ?_
         refine pr (i := 4) rfl (wanted_y rfl rfl rfl c4) rfl (.int .u32 b4) (fun _ he => vl TyTCb.agg86 rfl (Ext.cell he (rc f0 rfl))) ?_
         refine pp (i := 5) rfl (wanted_y rfl rfl rfl c4) rfl (ptr hv 1) (fun _ => vf TyTCb.fld31_1 (b := hv) (o := 0) rfl) ?_
         refine pr (i := 6) rfl (wanted_y rfl rfl rfl c4) rfl (.int .u64 a3) (fun _ he => vl TyTCb.agg29 rfl (Ext.cell he (rc c9 rfl))) ?_
         replace H := H f e3 k2 (row_lt f0) k9
         obtain ⟨e7, n7, H⟩ := H
         refine pr (i := 7) rfl (wanted_y rfl rfl rfl c4) rfl (.int .u32 e7) (fun _ he => hv_call TyTCb.cb40 (vs := [(.int .u64 a3)]) rfl (n7 _ he)) ?_
         refine pp (i := 8) rfl (wanted_y rfl rfl rfl c4) rfl (.bool (b4 == e7)) (fun _ => vr rfl rfl rfl) ?_
         refine pp (i := 9) rfl (wanted_0 rfl) rfl (.bool (b4 == e7)) (fun _ => hv_pick_t rfl c4 rfl) ?_
         refine pp (i := 10) rfl (wanted_0 rfl) rfl (.bool (b4 == e7)) (fun _ => vm rfl) ?_
         rcases bool_or (b4 == e7) with c8 | c8
         ·replace H := H.1 c8
          refine pp (i := 11) rfl (wanted_y rfl rfl rfl c8) rfl (ptr f 0) (fun _ => vf TyTCb.fld88_0 (b := f) (o := 0) rfl) ?_
          refine pr (i := 12) rfl (wanted_y rfl rfl rfl c8) rfl (.int .i64 a7) (fun _ he => vl TyTCb.agg3 rfl (Ext.cell he (rc f0 rfl))) ?_
          refine pp (i := 13) rfl (wanted_y rfl rfl rfl c8) rfl (.slice r0 a8 b8) (fun _ => vm rfl) ?_
          refine pp (i := 14) rfl (wanted_y rfl rfl rfl c8) rfl (.int .i64 (a8 : Int)) (fun _ => hv_len (n := a8) TyTCb.u32 rfl) ?_
          refine pp (i := 15) rfl (wanted_y rfl rfl rfl c8) rfl (.bool (a7 == (a8 : Int))) (fun _ => vr rfl rfl rfl) ?_
          refine pp (i := 16) rfl (wanted_0 rfl) rfl (.bool (a7 == (a8 : Int))) (fun _ => hv_pick_t rfl c8 rfl) ?_
          refine pp (i := 17) rfl (wanted_0 rfl) rfl (.bool (a7 == (a8 : Int))) (fun _ => vm rfl) ?_
          rcases bool_or (a7 == (a8 : Int)) with d1 | d1
          ·replace H := H.1 d1
           refine pp (i := 18) rfl (wanted_y rfl rfl rfl d1) rfl (ptr f 1) (fun _ => vf TyTCb.fld88_1 (b := f) (o := 0) rfl) ?_
           refine pr (i := 19) rfl (wanted_y rfl rfl rfl d1) rfl (.int .i64 b6) (fun _ he => vl TyTCb.agg3 rfl (Ext.cell he (rc f0 rfl))) ?_
           refine pp (i := 20) rfl (wanted_y rfl rfl rfl d1) rfl (.int .i64 e0) (fun _ => vm rfl) ?_
           refine pp (i := 21) rfl (wanted_y rfl rfl rfl d1) rfl (.bool (b6 == e0)) (fun _ => vr rfl rfl rfl) ?_
           refine pp (i := 22) rfl (wanted_0 rfl) rfl (.bool (b6 == e0)) (fun _ => hv_pick_t rfl d1 rfl) ?_
           refine pp (i := 23) rfl (wanted_0 rfl) rfl (.bool (b6 == e0)) (fun _ => va rfl) ?_
           refine hp_nil ?_
           refine qn ?_
           obtain rfl := H
           exact ⟨rfl, (hc rfl (hc rfl (hc rfl (hc rfl (hc rfl (hc rfl hn))))))⟩
          ·replace H := H.2 d1
           refine pn (i := 18) rfl (wanted_n rfl rfl rfl d1) ?_
           refine pn (i := 19) rfl (wanted_n rfl rfl rfl d1) ?_
           refine pn (i := 20) rfl (wanted_n rfl rfl rfl d1) ?_
           refine pn (i := 21) rfl (wanted_n rfl rfl rfl d1) ?_
           refine pp (i := 22) rfl (wanted_0 rfl) rfl (.bool false) (fun _ => hv_pick_f rfl d1 rfl) ?_
           refine pp (i := 23) rfl (wanted_0 rfl) rfl (.bool false) (fun _ => va rfl) ?_
           refine hp_nil ?_
           refine qn ?_
           obtain rfl := H
           exact ⟨rfl, (hc rfl (hc rfl (hc rfl (hc rfl (hc rfl (hc rfl hn))))))⟩
         ·replace H := H.2 c8
          refine pn (i := 11) rfl (wanted_n rfl rfl rfl c8) ?_
          refine pn (i := 12) rfl (wanted_n rfl rfl rfl c8) ?_
          refine pn (i := 13) rfl (wanted_n rfl rfl rfl c8) ?_
          refine pn (i := 14) rfl (wanted_n rfl rfl rfl c8) ?_
          refine pn (i := 15) rfl (wanted_n rfl rfl rfl c8) ?_
          refine pp (i := 16) rfl (wanted_0 rfl) rfl (.bool false) (fun _ => hv_pick_f rfl c8 rfl) ?_
          refine pp (i := 17) rfl (wanted_0 rfl) rfl (.bool false) (fun _ => vm rfl) ?_
          refine pn (i := 18) rfl (wanted_n rfl rfl (c := false) rfl rfl) ?_
          refine pn (i := 19) rfl (wanted_n rfl rfl (c := false) rfl rfl) ?_
          refine pn (i := 20) rfl (wanted_n rfl rfl (c := false) rfl rfl) ?_
          refine pn (i := 21) rfl (wanted_n rfl rfl (c := false) rfl rfl) ?_
          refine pp (i := 22) rfl (wanted_0 rfl) rfl (.bool false) (fun _ => hv_pick (t := false) rfl rfl) ?_
          refine pp (i := 23) rfl (wanted_0 rfl) rfl (.bool false) (fun _ => va rfl) ?_
          refine hp_nil ?_
          refine qn ?_
          obtain rfl := H
          exact ⟨rfl, (hc rfl (hc rfl (hc rfl (hc rfl (hc rfl (hc rfl hn))))))⟩
        ·replace H := H.2 c4
         refine pn (i := 3) rfl (wanted_n rfl rfl rfl c4) ?_
         refine pn (i := 4) rfl (wanted_n rfl rfl rfl c4) ?_
         refine pn (i := 5) rfl (wanted_n rfl rfl rfl c4) ?_
         refine pn (i := 6) rfl (wanted_n rfl rfl rfl c4) ?_
         refine pn (i := 7) rfl (wanted_n rfl rfl rfl c4) ?_
         refine pn (i := 8) rfl (wanted_n rfl rfl rfl c4) ?_
         refine pp (i := 9) rfl (wanted_0 rfl) rfl (.bool false) (fun _ => hv_pick_f rfl c4 rfl) ?_
         refine pp (i := 10) rfl (wanted_0 rfl) rfl (.bool false) (fun _ => vm rfl) ?_
         refine pn (i := 11) rfl (wanted_n rfl rfl (c := false) rfl rfl) ?_
         refine pn (i := 12) rfl (wanted_n rfl rfl (c := false) rfl rfl) ?_
         refine pn (i := 13) rfl (wanted_n rfl rfl (c := false) rfl rfl) ?_
         refine pn (i := 14) rfl (wanted_n rfl rfl (c := false) rfl rfl) ?_
         refine pn (i := 15) rfl (wanted_n rfl rfl (c := false) rfl rfl) ?_
         refine pp (i := 16) rfl (wanted_0 rfl) rfl (.bool false) (fun _ => hv_pick (t := false) rfl rfl) ?_
         refine pp (i := 17) rfl (wanted_0 rfl) rfl (.bool false) (fun _ => vm rfl) ?_
         refine pn (i := 18) rfl (wanted_n rfl rfl (c := false) rfl rfl) ?_
         refine pn (i := 19) rfl (wanted_n rfl rfl (c := false) rfl rfl) ?_
         refine pn (i := 20) rfl (wanted_n rfl rfl (c := false) rfl rfl) ?_
         refine pn (i := 21) rfl (wanted_n rfl rfl (c := false) rfl rfl) ?_
         refine pp (i := 22) rfl (wanted_0 rfl) rfl (.bool false) (fun _ => hv_pick (t := false) rfl rfl) ?_
         refine pp (i := 23) rfl (wanted_0 rfl) rfl (.bool false) (fun _ => va rfl) ?_
         refine hp_nil ?_
         refine qn ?_
         obtain rfl := H
         exact ⟨rfl, (hc rfl (hc rfl (hc rfl (hc rfl (hc rfl (hc rfl hn))))))⟩
       ·have H := j5; clear j7 j5
        rintro ρ _ ⟨rfl, hH⟩
        refine xh _ hH ?_
        refine xs (xr ?_)
        refine lv rfl rfl (vm rfl) (lv rfl rfl (vL (vs := [(.int .u64 a9), (.int .u64 a3), (.int .i64 a2)]) TyTCb.agg31 TyTCb.sz31 rfl (cc (rc c9 rfl) (cc (rc c9 rfl) (cc (rc c9 rfl) cn)))) (lv rfl rfl (vm rfl) (lv rfl rfl (vL (vs := [(.int .i64 b7), (.int .i64 b3)]) TyTCb.agg34 TyTCb.sz34 rfl (cc (rc d6 rfl) (cc (rc d6 rfl) cn))) (lv rfl rfl (vm rfl) (lv rfl rfl (v := (.agg #[(.int .i64 a1), (.bool true), (.int .u64 a9), (.int .u64 a3), (.int .i64 a2), (.slice r0 a8 b8), (.int .i64 b7), (.int .i64 b3), (.bool c0)])) (vb (vs := [(0, (.int .i64 a1)), (1, (.bool true)), (2, (.agg #[(.int .u64 a9), (.int .u64 a3), (.int .i64 a2)])), (3, (.slice r0 a8 b8)), (4, (.agg #[(.int .i64 b7), (.int .i64 b3)])), (5, (.bool c0))]) (cs := #[(.int .i64 a1), (.bool true), (.int .u64 a9), (.int .u64 a3), (.int .i64 a2), (.slice r0 a8 b8), (.int .i64 b7), (.int .i64 b3), (.bool c0)]) TyTCb.z36 TyTCb.pl36 rfl (by kernel_rfl)) ?_)))))
        replace H := H e3 k9
        refine lp rfl rfl (hn_stores (vs := [(.int .i64 a1), (.bool true), (.int .u64 a9), (.int .u64 a3), (.int .i64 a2), (.slice r0 a8 b8), (.int .i64 b7), (.int .i64 b3), (.bool c0)]) rfl rfl TyTCb.sz36 rfl (HWs_row d5 (by simp)) ?_)
        intro i2 l7
        have d7 : i2[pb]? = some (.cells #[(.int .i64 a1), (.bool true), (.int .u64 a9), (.int .u64 a3), (.int .i64 a2), (.slice r0 a8 b8), (.int .i64 b7), (.int .i64 b3), (.bool c0)] 36 (0, 0)) := row_hsets_eq l7 d5 (by simp [sets])
        replace H := H i2 (fr_hsets_of l7)
        refine lv rfl rfl (va rfl) ?_
        refine ln (qn (xt ?_))
        exact endQ_ret _ (res_two Tryd.results13 (rv_cell (vs := [(.int .i64 a1), (.bool true), (.int .u64 a9), (.int .u64 a3), (.int .i64 a2), (.slice r0 a8 b8), (.int .i64 b7), (.int .i64 b3), (.bool c0)]) TyTCb.agg36 TyTCb.sz36 rfl (cc (rc d7 rfl) (cc (rc d7 rfl) (cc (rc d7 rfl) (cc (rc d7 rfl) (cc (rc d7 rfl) (cc (rc d7 rfl) (cc (rc d7 rfl) (cc (rc d7 rfl) (cc (rc d7 rfl) cn)))))))))) (rv_tmp rfl)) H
theorem f20_sh (a3 : Int) (a1 : Int) (a0 : Int) (a2 : Int) (a9 : Option Addr) (a4 : Nat) (a7 : Nat) (h : Heap) (R : Value → Heap → Prop)
  (H : (∃ A8 : Bool → Heap → Prop, (∀ (g : Nat) (h1 : Heap), Array.size h ≤ g → g < Array.size h1 → Ext h h1 → HC Tryd.prog 16 #[(.agg #[(.int .i64 a3), (.int .i64 a1), (.int .i64 a0), (.int .i64 a2)])] h1 (fun vv h3 => Ext h1 h3 ∧ ∃ r : Int, vv = (.int .i64 r) ∧ (((r == 0) = true → HC Tryd.prog 45 #[(.agg #[(.int .i64 a3), (.int .i64 a1), (.int .i64 a0), (.int .i64 a2)])] h3 (fun vv h4 => Ext h3 h4 ∧ ∃ a8 : Int, vv = (.int .i64 a8) ∧ (A8 ((a4 : Int) == a8) h4))) ∧ ((r == 0) = false → (A8 false h3))))) ∧ (∀ (j : Bool) (h2 : Heap), A8 j h2 → R (.bool j) h2))) :
  HC Tryd.prog 20 #[(.agg #[(.int .i64 a3), (.int .i64 a1), (.int .i64 a0), (.int .i64 a2)]), (.slice a9 a4 a7)] h R := by
 refine hc_of (args := [(.agg #[(.int .i64 a3), (.int .i64 a1), (.int .i64 a0), (.int .i64 a2)]), (.slice a9 a4 a7)]) Tryd.func20 rfl Tryd.ntmps20 (Nat.le_of_ble_eq_true rfl) ?_
 refine xs (xr ?_)
 refine lp rfl rfl (hn_box (v := (.agg #[(.int .i64 a3), (.int .i64 a1), (.int .i64 a0), (.int .i64 a2)])) rfl ?_)
 intro g h1 b3 b2
 have b6 := ext_pushed_f21_sh b2
 have b5 : Array.size h ≤ g := Nat.le_of_eq (Eq.symm b3)
 have a6 : h1[g]? = some (.cells #[(.int .i64 a3), (.int .i64 a1), (.int .i64 a0), (.int .i64 a2)] 24 (0, 0)) := by rw [b2]; exact push_new b3
 refine lv rfl rfl (va rfl) ?_
 refine ln (qn ?_)
 obtain ⟨A8, b0, b1⟩ := H
 refine xk (fun ρ h' => ∃ j : Bool, (A8 j h' ∧ True) ∧ Has ρ [(4, (.bool j))]) ?_ ?_
 ·have H := b0; clear b0 b1
  refine xr ?_
  refine lv rfl rfl (vL (vs := [(.int .i64 a3), (.int .i64 a1), (.int .i64 a0), (.int .i64 a2)]) TyTCb.agg24 TyTCb.sz24 rfl (cc (rc a6 rfl) (cc (rc a6 rfl) (cc (rc a6 rfl) (cc (rc a6 rfl) cn))))) ?_
  replace H := H g h1 b5 (row_lt a6) b6
  refine lp rfl rfl (sc TyTCb.cb16 rfl (HC.mono H ?_))
  rintro _ h3 ⟨b4, r, rfl, H⟩
  replace a6 := Ext.row b4 a6
  refine lv rfl rfl (vr rfl rfl rfl) (lv rfl rfl (vm rfl) ?_)
  rcases bool_or (r == 0) with a5 | a5
  ·replace H := H.1 a5
   refine ly (wanted_y rfl rfl rfl a5) rfl (HStep.of_val (v := (.slice a9 a4 a7)) (vm rfl) ?_)
   refine ly (wanted_y rfl rfl rfl a5) rfl (HStep.of_val (v := (.int .i64 (a4 : Int))) (hv_len (n := a4) TyTCb.u25 rfl) ?_)
   refine ly (wanted_y rfl rfl rfl a5) rfl (HStep.of_val (v := (.agg #[(.int .i64 a3), (.int .i64 a1), (.int .i64 a0), (.int .i64 a2)])) (vL (vs := [(.int .i64 a3), (.int .i64 a1), (.int .i64 a0), (.int .i64 a2)]) TyTCb.agg24 TyTCb.sz24 rfl (cc (rc a6 rfl) (cc (rc a6 rfl) (cc (rc a6 rfl) (cc (rc a6 rfl) cn))))) ?_)
   refine ly (wanted_y rfl rfl rfl a5) rfl (sc TyTCb.cb45 rfl (HC.mono H ?_))
   rintro _ h4 ⟨b8, a8, rfl, H⟩
   refine ly (wanted_y rfl rfl rfl a5) rfl (HStep.of_val (v := (.bool ((a4 : Int) == a8))) (vr rfl rfl rfl) ?_)
   refine lv rfl rfl (v := (.bool ((a4 : Int) == a8))) (hv_pick_t rfl a5 rfl) (lv rfl rfl (va rfl) ?_)
   refine ln (qn ?_)
   exact ⟨_, ⟨H, trivial⟩, (hc rfl hn)⟩
  ·replace H := H.2 a5
   refine lo (wanted_n rfl rfl rfl a5) rfl ?_
   refine lo (wanted_n rfl rfl rfl a5) rfl ?_
   refine lo (wanted_n rfl rfl rfl a5) rfl ?_
   refine lo (wanted_n rfl rfl rfl a5) rfl ?_
   refine lo (wanted_n rfl rfl rfl a5) rfl ?_
   refine lv rfl rfl (v := (.bool false)) (hv_pick_f rfl a5 rfl) (lv rfl rfl (va rfl) ?_)
   refine ln (qn ?_)
   exact ⟨_, ⟨H, trivial⟩, (hc rfl hn)⟩
 ·rintro ρ h2 ⟨j, ⟨b7, -⟩, hH⟩
  have H := b1 j h2 b7; clear b0 b1
  refine xh _ hH ?_
  refine xt ?_
  exact endQ_ret _ (res_one Tryd.results20 (rv_tmp rfl)) H
theorem f21_sh (a0 : Int) (a5 : Int) (a1 : Int) (a4 : Int) (d1 : Option Addr) (a6 : Nat) (b1 : Nat) (h : Heap) (R : Value → Heap → Prop)
  (H : (∀ (g : Nat) (pb : Nat) (h2 : Heap), Array.size h ≤ g → g < Array.size h2 → Array.size h ≤ pb → pb < Array.size h2 → Ext h h2 → HC Tryd.prog 37 #[(.agg #[(.int .i64 a0), (.int .i64 a5), (.int .i64 a1), (.int .i64 a4)]), (.slice d1 a6 b1)] h2 (fun vv h3 => Ext h2 h3 ∧ ∃ b9 a8 b5 r1 : Int, vv = (.tuple #[(.agg #[(.int .u64 b9), (.int .u64 a8), (.int .i64 b5)]), (.int .i64 r1)]) ∧ (((r1 != 0) = true → (∀ (hv : Nat) (h5 : Heap), Array.size h3 ≤ hv → hv < Array.size h5 → Ext h3 h5 → (∀ h6, Fr (fun i => i = pb) h5 h6 → R (.tuple #[(.slice none 0 0), (.agg #[(.int .i64 0), (.int .i64 1)])]) h6))) ∧ ((r1 != 0) = false → (∀ (hv : Nat) (h5 : Heap), Array.size h3 ≤ hv → hv < Array.size h5 → Ext h3 h5 → HC Tryd.prog 38 #[(.agg #[(.int .i64 a0), (.int .i64 a5), (.int .i64 a1), (.int .i64 a4)]), (.int .i64 32)] h5 (fun vv h7 => Ext h5 h7 ∧ ∃ r0 e2 : Int, vv = (.tuple #[(.int .i64 r0), (.int .i64 e2)]) ∧ (∃ (e9 : Option Addr → Nat → Nat → Int → Int → Int → Heap → Prop) (e4 : Option Addr → Nat → Nat → Int → Int → Int → Heap → Nat), e9 none 0 0 r0 0 0 h7 ∧ (∀ (c8 : Option Addr) (b3 : Nat) (b2 : Nat) (a2 : Int) (d8 : Int) (c7 : Int) (h8 : Heap), e9 c8 b3 b2 a2 d8 c7 h8 → (((decide (a2 > (IntKind.i64.wrap ((IntKind.i64.wrap ((a6 : Int) - 24)) - 24)))) = true → (∀ h9, Fr (fun i => i = pb) h8 h9 → R (.tuple #[(.slice c8 b3 b2), (.agg #[(.int .i64 a2), (.int .i64 4)])]) h9)) ∧ ((decide (a2 > (IntKind.i64.wrap ((IntKind.i64.wrap ((a6 : Int) - 24)) - 24)))) = false → (∃ b7 b8 : Nat, d1 = some ⟨b7, b8, none⟩ ∧ (0 : Int) ≤ a2 ∧ a2 < (a6 : Int) ∧ (∃ x : Int, hcell h8 b7 (b8 + (Int.toNat a2) * 1) = some (.int .u8 x) ∧ (((x == 0) = true → (a0 ≠ 0 ∧ (e9 c8 b3 b2 (IntKind.i64.wrap ((IntKind.i64.wrap ((IntKind.i64.wrap (Int.tdiv a2 a0)) + 1)) * a0)) d8 c7 h8 ∧ e4 c8 b3 b2 (IntKind.i64.wrap ((IntKind.i64.wrap ((IntKind.i64.wrap (Int.tdiv a2 a0)) + 1)) * a0)) d8 c7 h8 < e4 c8 b3 b2 a2 d8 c7 h8))) ∧ ((x == 0) = false → (((x == 255) = true → (∀ g8, Fr (fun i => i = pb) h8 g8 → R (.tuple #[(.slice c8 b3 b2), (.agg #[(.int .i64 a2), (.int .i64 2)])]) g8)) ∧ ((x == 255) = false → (∃ g9 : Nat → Nat → Int → Int → Heap → Prop, (∃ r : Int, (∀ k8, Ext h8 k8 → HC Tryd.prog 40 #[(.int .u64 a8)] k8 (fun vv h' => vv = (.int .u32 r) ∧ h' = k8)) ∧ ((HC Tryd.prog 47 #[(.agg #[(.int .i64 a0), (.int .i64 a5), (.int .i64 a1), (.int .i64 a4)]), (.int .u32 r), (.slice (some ⟨b7, b8, none⟩) a6 b1), (.int .i64 a2)] h8 (fun vv g6 => Ext h8 g6 ∧ ∃ a9 a3 : Int, ∃ b0 a7 : ByteArray, ∃ c1 r2 : Int, vv = (.tuple #[(.agg #[(.int .i64 a9), (.int .u64 a3), (.string b0), (.string a7)]), (.int .i64 c1), (.int .i64 r2)]) ∧ (∀ d2 f1, d2 = Array.size g6 → f1 = Array.push g6 (.cells #[(.int .i64 0), (.int .u64 0), (.string ByteArray.empty), (.string ByteArray.empty)] 43) → (HWs f1 d2 0 4 ∧ Off d2 [g, pb, hv] ∧ ∀ k0, k0 = hsets f1 d2 0 [(.int .i64 a9), (.int .u64 a3), (.string b0), (.string a7)] → (g9 d2 0 c1 r2 k0))))) ∧ ((∀ d2 f0, d2 = Array.size h8 → f0 = Array.push h8 (.cells #[(.int .i64 0), (.int .u64 0), (.string ByteArray.empty), (.string ByteArray.empty)] 43) → HC Tryd.prog 47 #[(.agg #[(.int .i64 a0), (.int .i64 a5), (.int .i64 a1), (.int .i64 a4)]), (.int .u32 r), (.slice (some ⟨b7, b8, none⟩) a6 b1), (.int .i64 a2)] f0 (fun vv j7 => Ext f0 j7 ∧ ∃ a9 a3 : Int, ∃ b0 a7 : ByteArray, ∃ c1 r2 : Int, vv = (.tuple #[(.agg #[(.int .i64 a9), (.int .u64 a3), (.string b0), (.string a7)]), (.int .i64 c1), (.int .i64 r2)]) ∧ (HWs j7 d2 0 4 ∧ Off d2 [g, pb, hv] ∧ ∀ j6, j6 = hsets j7 d2 0 [(.int .i64 a9), (.int .u64 a3), (.string b0), (.string a7)] → (g9 d2 0 c1 r2 j6))))))) ∧ (∀ (e0 : Nat) (e1 : Nat) (c5 : Int) (e : Int) (d9 : Heap), g9 e0 e1 c5 e d9 → (((e != 0) = true → (∀ g7, Fr (fun i => i = pb) d9 g7 → R (.tuple #[(.slice c8 b3 b2), (.agg #[(.int .i64 a2), (.int .i64 3)])]) g7)) ∧ ((e != 0) = false → (∃ c6 b6 : Int, ∃ d0 c3 : ByteArray, hcell d9 e0 e1 = some (.int .i64 c6) ∧ hcell d9 e0 (e1 + 1) = some (.int .u64 b6) ∧ hcell d9 e0 (e1 + 2) = some (.string d0) ∧ hcell d9 e0 (e1 + 3) = some (.string c3) ∧ (∀ nb f2, nb = Array.size d9 → f2 = Array.push d9 (.cells #[(.int .i64 0), (.int .i64 a2), (.int .i64 c5), (.int .i64 c6), (.int .u64 b6), (.string d0), (.string c3)] 45) → HAppend Tryd.prog 32 32 (.slice c8 b3 b2) (.slice (some ⟨nb, 0, none⟩) 1 1) f2 (fun vv j9 => Kp [g, pb, hv] f2 j9 ∧ ∃ ap : Option Addr, ∃ e7 e6 : Nat, vv = (.slice ap e7 e6) ∧ HC Tryd.prog 38 #[(.agg #[(.int .i64 a0), (.int .i64 a5), (.int .i64 a1), (.int .i64 a4)]), (.int .i64 (IntKind.i64.wrap (a2 + c5)))] j9 (fun vv j8 => Ext j9 j8 ∧ ∃ d3 e5 : Int, vv = (.tuple #[(.int .i64 d3), (.int .i64 e5)]) ∧ (e9 ap e7 e6 d3 d8 c7 j8 ∧ e4 ap e7 e6 d3 d8 c7 j8 < e4 c8 b3 b2 a2 d8 c7 h8)))))))))))))))))))))))))) :
  HC Tryd.prog 21 #[(.agg #[(.int .i64 a0), (.int .i64 a5), (.int .i64 a1), (.int .i64 a4)]), (.slice d1 a6 b1)] h R := by
 refine hc_of (args := [(.agg #[(.int .i64 a0), (.int .i64 a5), (.int .i64 a1), (.int .i64 a4)]), (.slice d1 a6 b1)]) Tryd.func21 rfl Tryd.ntmps21 (Nat.le_of_ble_eq_true rfl) ?_
 refine xs (xr ?_)
 refine lp rfl rfl (hn_box (v := (.agg #[(.int .i64 a0), (.int .i64 a5), (.int .i64 a1), (.int .i64 a4)])) rfl ?_)
 intro g h1 l7 l8
 have l6 := ext_pushed_f21_sh l8
 have n8 : Array.size h ≤ g := Nat.le_of_eq (Eq.symm l7)
 have c4 : h1[g]? = some (.cells #[(.int .i64 a0), (.int .i64 a5), (.int .i64 a1), (.int .i64 a4)] 24 (0, 0)) := by rw [l8]; exact push_new l7
 refine lv rfl rfl (va rfl) ?_
 refine lp rfl rfl (hn_alloc TyTCb.z34 ?_)
 intro pb h2 l3 l4
 have l5 := ext_pushed_f21_sh l4
 have g4 := Nat.ne_of_lt (Nat.lt_of_lt_of_eq (row_lt c4) (Eq.symm l3))
 have m8 : Array.size h ≤ pb := Nat.le_trans (Ext.size l6) (Nat.le_of_eq (Eq.symm l3))
 have d4 : h2[pb]? = some (.cells #[(.int .i64 0), (.int .i64 0)] 34 (0, 0)) := by rw [l4]; exact push_new l3
 replace c4 := Ext.row l5 c4
 have m4 := Ext.trans l6 l5
 refine ln (qn (xs (xr ?_)))
 refine lv rfl rfl (va rfl) ?_
 refine ln (qn (xs (xr ?_)))
 refine lv rfl rfl (vL (vs := [(.int .i64 a0), (.int .i64 a5), (.int .i64 a1), (.int .i64 a4)]) TyTCb.agg24 TyTCb.sz24 rfl (cc (rc c4 rfl) (cc (rc c4 rfl) (cc (rc c4 rfl) (cc (rc c4 rfl) cn))))) (lv rfl rfl (vm rfl) ?_)
 replace H := H g pb h2 n8 (row_lt c4) m8 (row_lt d4) m4
 refine lp rfl rfl (sc TyTCb.cb37 rfl (HC.mono H ?_))
 rintro _ h3 ⟨k7, b9, a8, b5, r1, rfl, H⟩
 replace c4 := Ext.row k7 c4
 replace d4 := Ext.row k7 d4
 refine lv rfl rfl (vm rfl) (lv rfl rfl (vx rfl rfl) (lv rfl rfl (vx rfl rfl) ?_))
 refine lp rfl rfl (hn_alloc TyTCb.z31 ?_)
 intro hv h4 f6 k9
 have j3 := ext_pushed_f21_sh k9
 have m9 := Nat.ne_of_lt (Nat.lt_of_lt_of_eq (row_lt c4) (Eq.symm f6))
 have e8 := Nat.ne_of_lt (Nat.lt_of_lt_of_eq (row_lt d4) (Eq.symm f6))
 have j1 : Array.size h3 ≤ hv := Nat.le_of_eq (Eq.symm f6)
 have l0 : h4[hv]? = some (.cells #[(.int .u64 0), (.int .u64 0), (.int .i64 0)] 31 (0, 0)) := by rw [k9]; exact push_new f6
 replace c4 := Ext.row j3 c4
 replace d4 := Ext.row j3 d4
 refine lp rfl rfl (hn_stores (vs := [(.int .u64 b9), (.int .u64 a8), (.int .i64 b5)]) rfl rfl TyTCb.sz31 rfl (HWs_row l0 (by simp)) ?_)
 intro h5 g0
 replace c4 := row_hsets_ne g0 m9 c4
 replace d4 := row_hsets_ne g0 e8 d4
 have d6 : h5[hv]? = some (.cells #[(.int .u64 b9), (.int .u64 a8), (.int .i64 b5)] 31 (0, 0)) := row_hsets_eq g0 l0 rfl
 have l2 := ext_hsets g0 j3 j1
 refine lv rfl rfl (va rfl) ?_
 refine ln (qn (xs (xs (xr ?_))))
 refine lv rfl rfl (vm rfl) (lv rfl rfl (vr rfl rfl rfl) ?_)
 refine ln (qn ?_)
 refine xc (b := r1 != 0) rfl (fun j2 => ?_) (fun j2 => ?_)
 ·replace H := H.1 j2
  refine xs (xr ?_)
  refine lv rfl rfl (vm rfl) (lv rfl rfl (v := (.agg #[(.int .i64 0), (.int .i64 1)])) (vb (vs := [(0, (.int .i64 0)), (1, (.int .i64 1))]) (cs := #[(.int .i64 0), (.int .i64 1)]) TyTCb.z34 TyTCb.pl34 rfl (by kernel_rfl)) (lv rfl rfl (va rfl) ?_))
  replace H := H hv h5 j1 (row_lt d6) l2
  refine lp rfl rfl (hn_stores (vs := [(.int .i64 0), (.int .i64 1)]) rfl rfl TyTCb.sz34 rfl (HWs_row d4 (by simp)) ?_)
  intro h6 f4
  replace c4 := row_hsets_ne f4 g4 c4
  replace d6 := row_hsets_ne f4 (Ne.symm e8) d6
  have l1 : h6[pb]? = some (.cells #[(.int .i64 0), (.int .i64 1)] 34 (0, 0)) := row_hsets_eq f4 d4 rfl
  replace H := H h6 (fr_hsets_of f4)
  refine ln (qn (xt (qr ?_)))
  exact endQ_ret _ (res_two Tryd.results21 (rv_tmp rfl) (rv_cell (vs := [(.int .i64 0), (.int .i64 1)]) TyTCb.agg34 TyTCb.sz34 rfl (cc (rc l1 rfl) (cc (rc l1 rfl) cn)))) H
 ·replace H := H.2 j2
  refine xi (qn (xs (xr ?_)))
  refine lv rfl rfl (vL (vs := [(.int .i64 a0), (.int .i64 a5), (.int .i64 a1), (.int .i64 a4)]) TyTCb.agg24 TyTCb.sz24 rfl (cc (rc c4 rfl) (cc (rc c4 rfl) (cc (rc c4 rfl) (cc (rc c4 rfl) cn))))) ?_
  replace H := H hv h5 j1 (row_lt d6) l2
  refine lp rfl rfl (sc TyTCb.cb38 rfl (HC.mono H ?_))
  rintro _ h7 ⟨i7, r0, e2, rfl, H⟩
  replace c4 := Ext.row i7 c4
  replace d4 := Ext.row i7 d4
  replace d6 := Ext.row i7 d6
  refine lv rfl rfl (vm rfl) (lv rfl rfl (vx rfl rfl) (lv rfl rfl (vx rfl rfl) (lv rfl rfl (va rfl) (lv rfl rfl (va rfl) ?_))))
  refine ln (qn (xb ?_))
  obtain ⟨e9, e4, n3, m2⟩ := H
  refine xl (σ := Option Addr × Nat × Nat × Int × Int × Int) (fun s => [(1, (.slice d1 a6 b1)), (2, (ptr g 0)), (5, (ptr pb 0)), (6, (.slice s.1 s.2.1 s.2.2.1)), (7, (ptr hv 0)), (9, (.int .i64 s.2.2.2.1))]) (fun s h' => e9 s.1 s.2.1 s.2.2.1 s.2.2.2.1 s.2.2.2.2.1 s.2.2.2.2.2 h' ∧ h'[g]? = some (.cells #[(.int .i64 a0), (.int .i64 a5), (.int .i64 a1), (.int .i64 a4)] 24 (0, 0)) ∧ h'[pb]? = some (.cells #[(.int .i64 s.2.2.2.2.1), (.int .i64 s.2.2.2.2.2)] 34 (0, 0)) ∧ h'[hv]? = some (.cells #[(.int .u64 b9), (.int .u64 a8), (.int .i64 b5)] 31 (0, 0)) ∧ True) (fun s h' => e4 s.1 s.2.1 s.2.2.1 s.2.2.2.1 s.2.2.2.2.1 s.2.2.2.2.2 h') (none, 0, 0, r0, 0, 0) ⟨n3, c4, d4, d6, trivial⟩ (hc rfl (hc rfl (hc rfl (hc rfl (hc rfl (hc rfl hn)))))) ?_
  rintro ⟨c8, b3, b2, a2, d8, c7⟩ ρ h8 ⟨m7, b4, c2, c0, -⟩
  have H := m2 c8 b3 b2 a2 d8 c7 h8 m7
  refine xb (xs (xs (xr ?_)))
  refine lv rfl rfl (vm rfl) (lv rfl rfl (vm rfl) (lv rfl rfl (v := (.int .i64 (a6 : Int))) (hv_len (n := a6) TyTCb.u25 rfl) (lv rfl rfl (vr rfl rfl rfl) (lv rfl rfl (vr rfl rfl rfl) (lv rfl rfl (vr rfl rfl rfl) ?_)))))
  refine ln (qn ?_)
  refine xc (b := decide (a2 > (IntKind.i64.wrap ((IntKind.i64.wrap ((a6 : Int) - 24)) - 24)))) rfl (fun i1 => ?_) (fun i1 => ?_)
  ·replace H := H.1 i1
   refine xs (xr ?_)
   refine lv rfl rfl (vm rfl) (lv rfl rfl (vm rfl) (lv rfl rfl (v := (.agg #[(.int .i64 a2), (.int .i64 4)])) (vb (vs := [(0, (.int .i64 a2)), (1, (.int .i64 4))]) (cs := #[(.int .i64 a2), (.int .i64 4)]) TyTCb.z34 TyTCb.pl34 rfl (by kernel_rfl)) (lv rfl rfl (va rfl) ?_)))
   refine lp rfl rfl (hn_stores (vs := [(.int .i64 a2), (.int .i64 4)]) rfl rfl TyTCb.sz34 rfl (HWs_row c2 (by simp)) ?_)
   intro h9 g3
   replace b4 := row_hsets_ne g3 g4 b4
   replace c0 := row_hsets_ne g3 (Ne.symm e8) c0
   have e3 : h9[pb]? = some (.cells #[(.int .i64 a2), (.int .i64 4)] 34 (0, 0)) := row_hsets_eq g3 c2 rfl
   replace H := H h9 (fr_hsets_of g3)
   refine ln (qn (xt (qr (br (qr (br ?_))))))
   exact endQ_ret _ (res_two Tryd.results21 (rv_tmp rfl) (rv_cell (vs := [(.int .i64 a2), (.int .i64 4)]) TyTCb.agg34 TyTCb.sz34 rfl (cc (rc e3 rfl) (cc (rc e3 rfl) cn)))) H
  ·replace H := H.2 i1
   refine xi (qn (xs (xs (xr ?_))))
   refine lv rfl rfl (vm rfl) (lv rfl rfl (vm rfl) ?_)
   obtain ⟨b7, b8, n7, k4, k6, Hq⟩ := H
   subst n7
   have H := Hq; clear Hq
   refine lv rfl rfl (v := (ptr b7 (b8 + (Int.toNat a2) * 1))) (vi TyTCb.el25 rfl rfl k4 k6) ?_
   obtain ⟨x, k5, H⟩ := H
   refine lv rfl rfl (vl TyTCb.agg5 rfl k5) (lv rfl rfl (vr rfl rfl rfl) ?_)
   refine ln (qn ?_)
   refine xc (b := x == 0) rfl (fun i3 => ?_) (fun i3 => ?_)
   ·replace H := H.1 i3
    refine xs ?_
    refine hx_draw TyTCb.mixed [.pure, .pure, .read, .pure, .pure, .pure, .read, .pure, .pure] [0, 1, 2, 3, 4, 5, 6, 7, 8] (by kernel_rfl) ?_
    refine pp (i := 0) rfl (wanted_0 rfl) rfl (.int .i64 a2) (fun _ => vm rfl) ?_
    refine pp (i := 1) rfl (wanted_0 rfl) rfl (ptr g 0) (fun _ => vf TyTCb.fld24_0 (b := g) (o := 0) rfl) ?_
    refine pr (i := 2) rfl (wanted_0 rfl) rfl (.int .i64 a0) (fun _ he => vl TyTCb.agg3 rfl (Ext.cell he (rc b4 rfl))) ?_
    obtain ⟨m0, H⟩ := H
    refine pp (i := 3) rfl (wanted_0 rfl) rfl (.int .i64 (IntKind.i64.wrap (Int.tdiv a2 a0))) (fun _ => hv_quo rfl rfl m0) ?_
    refine pp (i := 4) rfl (wanted_0 rfl) rfl (.int .i64 (IntKind.i64.wrap ((IntKind.i64.wrap (Int.tdiv a2 a0)) + 1))) (fun _ => vr rfl rfl rfl) ?_
    refine pp (i := 5) rfl (wanted_0 rfl) rfl (ptr g 0) (fun _ => vf TyTCb.fld24_0 (b := g) (o := 0) rfl) ?_
    refine pr (i := 6) rfl (wanted_0 rfl) rfl (.int .i64 a0) (fun _ he => vl TyTCb.agg3 rfl (Ext.cell he (rc b4 rfl))) ?_
    refine pp (i := 7) rfl (wanted_0 rfl) rfl (.int .i64 (IntKind.i64.wrap ((IntKind.i64.wrap ((IntKind.i64.wrap (Int.tdiv a2 a0)) + 1)) * a0))) (fun _ => vr rfl rfl rfl) ?_
    refine pp (i := 8) rfl (wanted_0 rfl) rfl (.int .i64 (IntKind.i64.wrap ((IntKind.i64.wrap ((IntKind.i64.wrap (Int.tdiv a2 a0)) + 1)) * a0))) (fun _ => va rfl) ?_
    refine hp_nil ?_
    refine qn (xe (qe (bh (qn ?_))))
    exact ⟨(c8, b3, b2, IntKind.i64.wrap ((IntKind.i64.wrap ((IntKind.i64.wrap (Int.tdiv a2 a0)) + 1)) * a0), d8, c7), ⟨⟨H.1, b4, c2, c0, trivial⟩, H.2⟩, (hc rfl (hc rfl (hc rfl (hc rfl (hc rfl (hc rfl hn))))))⟩
   ·replace H := H.2 i3
    refine xi (qn (xs (xs (xr ?_))))
    refine lv rfl rfl (vm rfl) (lv rfl rfl (vm rfl) (lv rfl rfl (v := (ptr b7 (b8 + (Int.toNat a2) * 1))) (vi TyTCb.el25 rfl rfl k4 k6) (lv rfl rfl (vl TyTCb.agg5 rfl k5) (lv rfl rfl (vr rfl rfl rfl) ?_))))
    refine ln (qn ?_)
    refine xc (b := x == 255) rfl (fun i4 => ?_) (fun i4 => ?_)
    ·replace H := H.1 i4
     refine xs (xr ?_)
     refine lv rfl rfl (vm rfl) (lv rfl rfl (vm rfl) (lv rfl rfl (v := (.agg #[(.int .i64 a2), (.int .i64 2)])) (vb (vs := [(0, (.int .i64 a2)), (1, (.int .i64 2))]) (cs := #[(.int .i64 a2), (.int .i64 2)]) TyTCb.z34 TyTCb.pl34 rfl (by kernel_rfl)) (lv rfl rfl (va rfl) ?_)))
     refine lp rfl rfl (hn_stores (vs := [(.int .i64 a2), (.int .i64 2)]) rfl rfl TyTCb.sz34 rfl (HWs_row c2 (by simp)) ?_)
     intro g8 g2
     replace b4 := row_hsets_ne g2 g4 b4
     replace c0 := row_hsets_ne g2 (Ne.symm e8) c0
     have e3 : g8[pb]? = some (.cells #[(.int .i64 a2), (.int .i64 2)] 34 (0, 0)) := row_hsets_eq g2 c2 rfl
     replace H := H g8 (fr_hsets_of g2)
     refine ln (qn (xt (qr (br (qr (br ?_))))))
     exact endQ_ret _ (res_two Tryd.results21 (rv_tmp rfl) (rv_cell (vs := [(.int .i64 a2), (.int .i64 2)]) TyTCb.agg34 TyTCb.sz34 rfl (cc (rc e3 rfl) (cc (rc e3 rfl) cn)))) H
    ·replace H := H.2 i4
     refine xi (qn ?_)
     obtain ⟨g9, i5, j4⟩ := H
     refine xk (fun ρ h' => ∃ e0 e1 : Nat, ∃ c5 e : Int, (g9 e0 e1 c5 e h' ∧ h'[g]? = some (.cells #[(.int .i64 a0), (.int .i64 a5), (.int .i64 a1), (.int .i64 a4)] 24 (0, 0)) ∧ h'[pb]? = some (.cells #[(.int .i64 d8), (.int .i64 c7)] 34 (0, 0)) ∧ h'[hv]? = some (.cells #[(.int .u64 b9), (.int .u64 a8), (.int .i64 b5)] 31 (0, 0)) ∧ True) ∧ Has ρ [(1, (.slice (some ⟨b7, b8, none⟩) a6 b1)), (2, (ptr g 0)), (5, (ptr pb 0)), (6, (.slice c8 b3 b2)), (7, (ptr hv 0)), (9, (.int .i64 a2)), (11, (ptr e0 e1)), (12, (.int .i64 c5)), (13, (.int .i64 e))]) ?_ ?_
     ·have H := i5; clear i5 j4
      refine hx_tree TyTCb.mixed (fun _ _ => True) fit_true [.read, .pure, .read, .read, .pure, .pure, .ext, .pure, .pure, .pure, .pure, .ext, .wild, .pure, .pure] (.one 0 (.one 1 (.one 2 (.one 3 (.one 4 (.one 5 (.fork [6, 11] fun k => bif k == 6 then (.one 7 (.one 8 (.one 9 (.one 10 (.one 11 (.one 12 (.one 13 (.one 14 .done)))))))) else (.one 6 (.one 7 (.one 8 (.one 9 (.one 10 (.one 12 (.one 13 (.one 14 .done))))))))))))))) (by kernel_rfl) ?_
      refine to (ho_read (i := 0) rfl (wanted_0 rfl) rfl (.agg #[(.int .i64 a0), (.int .i64 a5), (.int .i64 a1), (.int .i64 a4)]) (fun _ he => vL (vs := [(.int .i64 a0), (.int .i64 a5), (.int .i64 a1), (.int .i64 a4)]) TyTCb.agg24 TyTCb.sz24 rfl (cc (Ext.cell he (rc b4 rfl)) (cc (Ext.cell he (rc b4 rfl)) (cc (Ext.cell he (rc b4 rfl)) (cc (Ext.cell he (rc b4 rfl)) cn))))) ?_)
      refine to (ho_pure (i := 1) rfl (wanted_0 rfl) rfl (ptr hv 1) (fun _ => vf TyTCb.fld31_1 (b := hv) (o := 0) rfl) ?_)
      refine to (ho_read (i := 2) rfl (wanted_0 rfl) rfl (.int .u64 a8) (fun _ he => vl TyTCb.agg29 rfl (Ext.cell he (rc c0 rfl))) ?_)
      obtain ⟨r, n5, H⟩ := H
      refine to (ho_read (i := 3) rfl (wanted_0 rfl) rfl (.int .u32 r) (fun _ he => hv_call TyTCb.cb40 (vs := [(.int .u64 a8)]) rfl (n5 _ he)) ?_)
      refine to (ho_pure (i := 4) rfl (wanted_0 rfl) rfl (.slice (some ⟨b7, b8, none⟩) a6 b1) (fun _ => vm rfl) ?_)
      refine to (ho_pure (i := 5) rfl (wanted_0 rfl) rfl (.int .i64 a2) (fun _ => vm rfl) ?_)
      refine ht_fork2 rfl rfl ?_ ?_
      ·replace H := H.1
       refine ho_ext (i := 6) rfl (wanted_0 rfl) rfl (sc TyTCb.cb47 rfl (HC.mono H ?_))
       rintro _ g6 ⟨f8, a9, a3, b0, a7, c1, r2, rfl, H⟩
       refine ⟨f8, ?_⟩
       replace b4 := Ext.row f8 b4
       replace c2 := Ext.row f8 c2
       replace c0 := Ext.row f8 c0
       refine to (ho_pure (i := 7) rfl (wanted_0 rfl) rfl (.tuple #[(.agg #[(.int .i64 a9), (.int .u64 a3), (.string b0), (.string a7)]), (.int .i64 c1), (.int .i64 r2)]) (fun _ => vm rfl) ?_)
       refine to (ho_pure (i := 8) rfl (wanted_0 rfl) rfl (.agg #[(.int .i64 a9), (.int .u64 a3), (.string b0), (.string a7)]) (fun _ => vx (vs := #[(.agg #[(.int .i64 a9), (.int .u64 a3), (.string b0), (.string a7)]), (.int .i64 c1), (.int .i64 r2)]) rfl rfl) ?_)
       refine to (ho_pure (i := 9) rfl (wanted_0 rfl) rfl (.int .i64 c1) (fun _ => vx (vs := #[(.agg #[(.int .i64 a9), (.int .u64 a3), (.string b0), (.string a7)]), (.int .i64 c1), (.int .i64 r2)]) rfl rfl) ?_)
       refine to (ho_pure (i := 10) rfl (wanted_0 rfl) rfl (.int .i64 r2) (fun _ => vx (vs := #[(.agg #[(.int .i64 a9), (.int .u64 a3), (.string b0), (.string a7)]), (.int .i64 c1), (.int .i64 r2)]) rfl rfl) ?_)
       refine to (ho_ext (i := 11) rfl (wanted_0 rfl) rfl (hn_alloc TyTCb.z43 ?_))
       intro d2 f1 m5 k2
       replace H := H d2 f1 m5 k2
       have f5 := ext_pushed_f21_sh k2
       replace b4 := Ext.row f5 b4
       replace c2 := Ext.row f5 c2
       replace c0 := Ext.row f5 c0
       refine ⟨f5, ?_⟩
       obtain ⟨l9, i9, H⟩ := H
       refine to (ho_wild (i := 12) rfl (wanted_0 rfl) rfl (hn_stores (vs := [(.int .i64 a9), (.int .u64 a3), (.string b0), (.string a7)]) rfl rfl TyTCb.sz43 rfl l9 ?_))
       intro k0 f9
       replace H := H k0 f9
       replace b4 := row_hsets_ne f9 (i9 _ (by simp)) b4
       replace c2 := row_hsets_ne f9 (i9 _ (by simp)) c2
       replace c0 := row_hsets_ne f9 (i9 _ (by simp)) c0
       refine to (ho_pure (i := 13) rfl (wanted_0 rfl) rfl (.int .i64 c1) (fun _ => va rfl) ?_)
       refine to (ho_pure (i := 14) rfl (wanted_0 rfl) rfl (.int .i64 r2) (fun _ => va rfl) ?_)
       refine ht_done ?_
       refine qn ?_
       exact ⟨_, _, _, _, ⟨H, b4, c2, c0, trivial⟩, (hc rfl (hc rfl (hc rfl (hc rfl (hc rfl (hc rfl (hc rfl (hc rfl (hc rfl hn)))))))))⟩
      ·replace H := H.2
       refine ho_ext (i := 11) rfl (wanted_0 rfl) rfl (hn_alloc TyTCb.z43 ?_)
       intro d2 f0 n0 k3
       replace H := H d2 f0 n0 k3
       have g5 := ext_pushed_f21_sh k3
       replace b4 := Ext.row g5 b4
       replace c2 := Ext.row g5 c2
       replace c0 := Ext.row g5 c0
       refine ⟨g5, ?_⟩
       refine to (ho_ext (i := 6) rfl (wanted_0 rfl) rfl (sc TyTCb.cb47 rfl (HC.mono H ?_)))
       rintro _ j7 ⟨f7, a9, a3, b0, a7, c1, r2, rfl, H⟩
       refine ⟨f7, ?_⟩
       replace b4 := Ext.row f7 b4
       replace c2 := Ext.row f7 c2
       replace c0 := Ext.row f7 c0
       refine to (ho_pure (i := 7) rfl (wanted_0 rfl) rfl (.tuple #[(.agg #[(.int .i64 a9), (.int .u64 a3), (.string b0), (.string a7)]), (.int .i64 c1), (.int .i64 r2)]) (fun _ => vm rfl) ?_)
       refine to (ho_pure (i := 8) rfl (wanted_0 rfl) rfl (.agg #[(.int .i64 a9), (.int .u64 a3), (.string b0), (.string a7)]) (fun _ => vx (vs := #[(.agg #[(.int .i64 a9), (.int .u64 a3), (.string b0), (.string a7)]), (.int .i64 c1), (.int .i64 r2)]) rfl rfl) ?_)
       refine to (ho_pure (i := 9) rfl (wanted_0 rfl) rfl (.int .i64 c1) (fun _ => vx (vs := #[(.agg #[(.int .i64 a9), (.int .u64 a3), (.string b0), (.string a7)]), (.int .i64 c1), (.int .i64 r2)]) rfl rfl) ?_)
       refine to (ho_pure (i := 10) rfl (wanted_0 rfl) rfl (.int .i64 r2) (fun _ => vx (vs := #[(.agg #[(.int .i64 a9), (.int .u64 a3), (.string b0), (.string a7)]), (.int .i64 c1), (.int .i64 r2)]) rfl rfl) ?_)
       obtain ⟨n1, i8, H⟩ := H
       refine to (ho_wild (i := 12) rfl (wanted_0 rfl) rfl (hn_stores (vs := [(.int .i64 a9), (.int .u64 a3), (.string b0), (.string a7)]) rfl rfl TyTCb.sz43 rfl n1 ?_))
       intro j6 f3
       replace H := H j6 f3
       replace b4 := row_hsets_ne f3 (i8 _ (by simp)) b4
       replace c2 := row_hsets_ne f3 (i8 _ (by simp)) c2
       replace c0 := row_hsets_ne f3 (i8 _ (by simp)) c0
       refine to (ho_pure (i := 13) rfl (wanted_0 rfl) rfl (.int .i64 c1) (fun _ => va rfl) ?_)
       refine to (ho_pure (i := 14) rfl (wanted_0 rfl) rfl (.int .i64 r2) (fun _ => va rfl) ?_)
       refine ht_done ?_
       refine qn ?_
       exact ⟨_, _, _, _, ⟨H, b4, c2, c0, trivial⟩, (hc rfl (hc rfl (hc rfl (hc rfl (hc rfl (hc rfl (hc rfl (hc rfl (hc rfl hn)))))))))⟩
     ·rintro ρ d9 ⟨e0, e1, c5, e, ⟨m1, c9, d5, d7, -⟩, hH⟩
      have H := j4 e0 e1 c5 e d9 m1; clear i5 j4
      refine xh _ hH ?_
      refine xs (xs (xr ?_))
      refine lv rfl rfl (vm rfl) (lv rfl rfl (vr rfl rfl rfl) ?_)
      refine ln (qn ?_)
      refine xc (b := e != 0) rfl (fun j0 => ?_) (fun j0 => ?_)
      ·replace H := H.1 j0
       refine xs (xr ?_)
       refine lv rfl rfl (vm rfl) (lv rfl rfl (vm rfl) (lv rfl rfl (v := (.agg #[(.int .i64 a2), (.int .i64 3)])) (vb (vs := [(0, (.int .i64 a2)), (1, (.int .i64 3))]) (cs := #[(.int .i64 a2), (.int .i64 3)]) TyTCb.z34 TyTCb.pl34 rfl (by kernel_rfl)) (lv rfl rfl (va rfl) ?_)))
       refine lp rfl rfl (hn_stores (vs := [(.int .i64 a2), (.int .i64 3)]) rfl rfl TyTCb.sz34 rfl (HWs_row d5 (by simp)) ?_)
       intro g7 g1
       replace c9 := row_hsets_ne g1 g4 c9
       replace d7 := row_hsets_ne g1 (Ne.symm e8) d7
       have j5 : g7[pb]? = some (.cells #[(.int .i64 a2), (.int .i64 3)] 34 (0, 0)) := row_hsets_eq g1 d5 rfl
       replace H := H g7 (fr_hsets_of g1)
       refine ln (qn (xt (qr (br (qr (br ?_))))))
       exact endQ_ret _ (res_two Tryd.results21 (rv_tmp rfl) (rv_cell (vs := [(.int .i64 a2), (.int .i64 3)]) TyTCb.agg34 TyTCb.sz34 rfl (cc (rc j5 rfl) (cc (rc j5 rfl) cn)))) H
      ·replace H := H.2 j0
       refine xi (qn (xs (xr ?_)))
       refine lv rfl rfl (vm rfl) (lv rfl rfl (vm rfl) (lv rfl rfl (vm rfl) ?_))
       obtain ⟨c6, b6, d0, c3, n2, n4, n6, m3, H⟩ := H
       refine lv rfl rfl (vL (vs := [(.int .i64 c6), (.int .u64 b6), (.string d0), (.string c3)]) TyTCb.agg43 TyTCb.sz43 rfl (cc n2 (cc n4 (cc n6 (cc m3 cn))))) (lv rfl rfl (v := (.agg #[(.int .i64 0), (.int .i64 a2), (.int .i64 c5), (.int .i64 c6), (.int .u64 b6), (.string d0), (.string c3)])) (vb (vs := [(1, (.int .i64 a2)), (2, (.int .i64 c5)), (3, (.agg #[(.int .i64 c6), (.int .u64 b6), (.string d0), (.string c3)]))]) (cs := #[(.int .i64 0), (.int .i64 a2), (.int .i64 c5), (.int .i64 c6), (.int .u64 b6), (.string d0), (.string c3)]) TyTCb.z45 TyTCb.pl45 rfl (by kernel_rfl)) ?_)
       refine lp rfl rfl (hn_buildSlice (n := 1) (vs := [(0, (.agg #[(.int .i64 0), (.int .i64 a2), (.int .i64 c5), (.int .i64 c6), (.int .u64 b6), (.string d0), (.string c3)]))]) (cs := #[(.int .i64 0), (.int .i64 a2), (.int .i64 c5), (.int .i64 c6), (.int .u64 b6), (.string d0), (.string c3)]) TyTCb.u32 TyTCb.sz45 TyTCb.z45 rfl rfl (by kernel_rfl) ?_)
       intro nb f2 m6 k1
       replace H := H nb f2 m6 k1
       have i6 := ext_pushed_f21_sh k1
       replace c9 := Ext.row i6 c9
       replace d5 := Ext.row i6 d5
       replace d7 := Ext.row i6 d7
       refine lp rfl rfl (hs_append rfl rfl (HAppend.mono H ?_))
       rintro _ j9 ⟨i2, ap, e7, e6, rfl, H⟩
       replace c9 := Kp.row i2 (by simp) c9
       replace d5 := Kp.row i2 (by simp) d5
       replace d7 := Kp.row i2 (by simp) d7
       refine lv rfl rfl (va rfl) ?_
       refine ln (qn (xr ?_))
       refine lv rfl rfl (vL (vs := [(.int .i64 a0), (.int .i64 a5), (.int .i64 a1), (.int .i64 a4)]) TyTCb.agg24 TyTCb.sz24 rfl (cc (rc c9 rfl) (cc (rc c9 rfl) (cc (rc c9 rfl) (cc (rc c9 rfl) cn))))) (lv rfl rfl (vm rfl) (lv rfl rfl (vm rfl) (lv rfl rfl (vr rfl rfl rfl) ?_)))
       refine lp rfl rfl (sc TyTCb.cb38 rfl (HC.mono H ?_))
       rintro _ j8 ⟨i0, d3, e5, rfl, H⟩
       replace c9 := Ext.row i0 c9
       replace d5 := Ext.row i0 d5
       replace d7 := Ext.row i0 d7
       refine lv rfl rfl (vm rfl) (lv rfl rfl (vx rfl rfl) (lv rfl rfl (vx rfl rfl) (lv rfl rfl (va rfl) ?_)))
       refine ln (bn (qn ?_))
       exact ⟨(ap, e7, e6, d3, d8, c7), ⟨⟨H.1, c9, d5, d7, trivial⟩, H.2⟩, (hc rfl (hc rfl (hc rfl (hc rfl (hc rfl (hc rfl hn))))))⟩
end Go.Proofs.YthjehlocmikchaaDoor
