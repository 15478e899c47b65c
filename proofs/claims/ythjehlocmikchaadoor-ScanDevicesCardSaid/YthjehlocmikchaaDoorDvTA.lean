import Derived.Test.YthjehlocmikchaaDoorDvDeq
import Derived.Test.YthjehlocmikchaaDoorDvDrw
import Derived.Test.YthjehlocmikchaaDoorDvRng
import Derived.Test.YthjehlocmikchaaDoorProg
namespace Go.Proofs.YthjehlocmikchaaDoor
open Go
open Go.Proofs.YthjehlocmikchaaDoor renaming hl_val → lv, hl_step → lp, hl_nil → ln, hl_yes → ly, hl_no → lo, hx_seq → xs, hx_region → xr, hx_cond → xc, hx_block → xb, hx_loopT → xl, hx_cut → xk, hx_has → xh, hx_skip → xi, hx_ret → xt, hx_exit → xe, seqQ_n → qn, seqQ_ret → qr, seqQ_exit → qe, blockQ_n → bn, blockQ_ret → br, blockQ_here → bh, hv_move → vm, hv_assign → va, hv_arith → vr, hv_load → vl, hv_loads → vL, hv_extract → vx, hv_field → vf, hv_build → vb, hv_index → vi, hp_pure → pp, hp_read → pr, has_cons → hc, has_nil → hn, hcells_cons → cc, hcells_nil → cn, rowcell → rc, hs_call → sc
set_option maxRecDepth 100000
set_option maxHeartbeats 4000000
theorem TyTA.agg24 : aggB Tryd.prog 24 = some true := by kernel_rfl
theorem TyTA.agg25 : aggB Tryd.prog 25 = some false := by kernel_rfl
theorem TyTA.agg3 : aggB Tryd.prog 3 = some false := by kernel_rfl
theorem TyTA.agg5 : aggB Tryd.prog 5 = some false := by kernel_rfl
theorem TyTA.cb104 : CallB Tryd.prog 104 := fun _ _ => Tryd.call104 _ _
theorem TyTA.cb106 : CallB Tryd.prog 106 := fun _ _ => Tryd.call106 _ _
theorem TyTA.cb114 : CallB Tryd.prog 114 := fun _ _ => Tryd.call114 _ _
theorem TyTA.cb16 : CallB Tryd.prog 16 := fun _ _ => Tryd.call16 _ _
theorem TyTA.cb31 : CallB Tryd.prog 31 := fun _ _ => Tryd.call31 _ _
theorem TyTA.cb41 : CallB Tryd.prog 41 := fun _ _ => Tryd.call41 _ _
theorem TyTA.cb50 : CallB Tryd.prog 50 := fun _ _ => Tryd.call50 _ _
theorem TyTA.cb59 : CallB Tryd.prog 59 := fun _ _ => Tryd.call59 _ _
theorem TyTA.cb60 : CallB Tryd.prog 60 := fun _ _ => Tryd.call60 _ _
theorem TyTA.cb63 : CallB Tryd.prog 63 := fun _ _ => Tryd.call63 _ _
theorem TyTA.cb72 : CallB Tryd.prog 72 := fun _ _ => Tryd.call72 _ _
theorem TyTA.cb81 : CallB Tryd.prog 81 := fun _ _ => Tryd.call81 _ _
theorem TyTA.cb87 : CallB Tryd.prog 87 := fun _ _ => Tryd.call87 _ _
theorem TyTA.ea152 : elA Tryd.prog 152 = some (64, 1) := by kernel_rfl
theorem TyTA.el25 : elB Tryd.prog 25 = some 1 := by kernel_rfl
theorem TyTA.fld24_0 : fldB Tryd.prog 24 0 = some 0 := by kernel_rfl
theorem TyTA.fld24_1 : fldB Tryd.prog 24 1 = some 1 := by kernel_rfl
theorem TyTA.fld24_2 : fldB Tryd.prog 24 2 = some 2 := by kernel_rfl
theorem TyTA.fld24_3 : fldB Tryd.prog 24 3 = some 3 := by kernel_rfl
theorem TyTA.mixed : Tryd.prog.follows .mixedOrders = true := by kernel_rfl
theorem TyTA.pl24 : plB Tryd.prog 24 = some [(0, 1), (1, 1), (2, 1), (3, 1)] := by kernel_rfl
theorem TyTA.sz24 : szB Tryd.prog 24 = some 4 := by kernel_rfl
theorem TyTA.sz5 : szB Tryd.prog 5 = some 1 := by kernel_rfl
theorem TyTA.u122 : Tryd.prog.underlying 122 = some (.int .u64) := by kernel_rfl
theorem TyTA.u25 : Tryd.prog.underlying 25 = some (.slice 5) := by kernel_rfl
theorem TyTA.u29 : Tryd.prog.underlying 29 = some (.int .u64) := by kernel_rfl
theorem TyTA.u3 : Tryd.prog.underlying 3 = some (.int .i64) := by kernel_rfl
theorem TyTA.u5 : Tryd.prog.underlying 5 = some (.int .u8) := by kernel_rfl
theorem TyTA.u86 : Tryd.prog.underlying 86 = some (.int .u32) := by kernel_rfl
theorem TyTA.z24 : zeroB Tryd.prog 24 (.agg #[(.int .i64 0), (.int .i64 0), (.int .i64 0), (.int .i64 0)]) := by unfold zeroB; kernel_rfl
theorem ext_pushed_f44_sh {h h1 : Heap} {o : Obj} (e : h1 = Array.push h o) : Ext h h1 := by rw [e]; exact Ext.push _ _
theorem f41_sh (n : Int) (lo : Int) (hi : Int) (h : Heap) (R : Value → Heap → Prop)
  (H : (∃ (I1 : Int → Prop) (a0 : Int → Nat), I1 lo ∧ (∀ (p : Int), I1 p → (((decide (p ≤ hi)) = true → (((n == p) = true → R (.bool true) h) ∧ ((n == p) = false → (I1 (IntKind.i64.wrap (p * 2)) ∧ a0 (IntKind.i64.wrap (p * 2)) < a0 p)))) ∧ ((decide (p ≤ hi)) = false → R (.bool false) h))))) :
  HC Tryd.prog 41 #[(.int .i64 n), (.int .i64 lo), (.int .i64 hi)] h R := by
 refine hc_of (args := [(.int .i64 n), (.int .i64 lo), (.int .i64 hi)]) Tryd.func41 rfl Tryd.ntmps41 (Nat.le_of_ble_eq_true rfl) ?_
 refine xs (xr ?_)
 refine lv rfl rfl (va rfl) ?_
 refine ln (qn (xs (xs (xr ?_))))
 refine lv rfl rfl (vm rfl) (lv rfl rfl (va rfl) ?_)
 refine ln (qn (xb ?_))
 obtain ⟨I1, a0, a5, a3⟩ := H
 refine xl (σ := Int) (fun s => [(0, (.int .i64 n)), (2, (.int .i64 hi)), (7, (.int .i64 s))]) (fun s h' => I1 s ∧ h = h') (fun s _ => a0 s) lo ⟨a5, rfl⟩ (hc rfl (hc rfl (hc rfl hn))) ?_
 rintro p ρ _ ⟨a4, rfl⟩
 have H := a3 p a4
 refine xs (xs (xr ?_))
 refine lv rfl rfl (vm rfl) (lv rfl rfl (vm rfl) (lv rfl rfl (vr rfl rfl rfl) ?_))
 refine ln (qn ?_)
 refine xc (b := decide (p ≤ hi)) rfl (fun a2 => ?_) (fun a2 => ?_)
 ·replace H := H.1 a2
  refine xi (qn (xs (xb (xs (xr ?_)))))
  refine lv rfl rfl (vm rfl) (lv rfl rfl (vm rfl) (lv rfl rfl (vr rfl rfl rfl) ?_))
  refine ln (qn ?_)
  refine xc (b := n == p) rfl (fun a1 => ?_) (fun a1 => ?_)
  ·replace H := H.1 a1
   refine xs (xr ?_)
   refine lv rfl rfl (va rfl) ?_
   refine ln (qn (xt (br (qr (qr (br (qr ?_)))))))
   exact endQ_ret _ (res_one Tryd.results41 (rv_tmp rfl)) H
  ·replace H := H.2 a1
   refine xi (bn (qn (xr ?_)))
   refine lv rfl rfl (vm rfl) (lv rfl rfl (vr rfl rfl rfl) (lv rfl rfl (va rfl) ?_))
   refine ln (qn ?_)
   exact ⟨IntKind.i64.wrap (p * 2), ⟨⟨H.1, rfl⟩, H.2⟩, (hc rfl (hc rfl (hc rfl hn)))⟩
 ·replace H := H.2 a2
  refine xe (qe (qe (bh (qn (xs (xr ?_))))))
  refine lv rfl rfl (va rfl) ?_
  refine ln (qn (xt ?_))
  exact endQ_ret _ (res_one Tryd.results41 (rv_tmp rfl)) H
theorem f45_sh (a1 : Int) (a0 : Int) (a2 : Int) (a3 : Int) (h : Heap) (R : Value → Heap → Prop)
  (H : (∀ (h1 : Heap), Ext h h1 → R (.int .i64 (IntKind.i64.wrap (a1 * a0))) h1)) :
  HC Tryd.prog 45 #[(.agg #[(.int .i64 a1), (.int .i64 a0), (.int .i64 a2), (.int .i64 a3)])] h R := by
 refine hc_of (args := [(.agg #[(.int .i64 a1), (.int .i64 a0), (.int .i64 a2), (.int .i64 a3)])]) Tryd.func45 rfl Tryd.ntmps45 (Nat.le_of_ble_eq_true rfl) ?_
 refine xs (xr ?_)
 refine lp rfl rfl (hn_box (v := (.agg #[(.int .i64 a1), (.int .i64 a0), (.int .i64 a2), (.int .i64 a3)])) rfl ?_)
 intro g h1 a4 a5
 have a7 := ext_pushed_f44_sh a5
 have a8 : Array.size h ≤ g := Nat.le_of_eq (Eq.symm a4)
 have a6 : h1[g]? = some (.cells #[(.int .i64 a1), (.int .i64 a0), (.int .i64 a2), (.int .i64 a3)] 24 (0, 0)) := by rw [a5]; exact push_new a4
 refine lv rfl rfl (va rfl) ?_
 refine ln (qn (xs (xr ?_)))
 refine lv rfl rfl (v := (ptr g 0)) (vf TyTA.fld24_0 (b := g) (o := 0) rfl) (lv rfl rfl (vl TyTA.agg3 rfl (rc a6 rfl)) (lv rfl rfl (v := (ptr g 1)) (vf TyTA.fld24_1 (b := g) (o := 0) rfl) (lv rfl rfl (vl TyTA.agg3 rfl (rc a6 rfl)) (lv rfl rfl (vr rfl rfl rfl) (lv rfl rfl (va rfl) ?_)))))
 refine ln (qn (xt ?_))
 replace H := H h1 a7
 exact endQ_ret _ (res_one Tryd.results45 (rv_tmp rfl)) H
theorem f50_sh (a2 : Int) (a1 : Int) (a0 : Int) (a3 : Int) (h : Heap) (R : Value → Heap → Prop)
  (H : (∀ (h1 : Heap), Ext h h1 → R (.int .i64 (IntKind.i64.wrap ((IntKind.i64.wrap (a2 * a1)) * a0))) h1)) :
  HC Tryd.prog 50 #[(.agg #[(.int .i64 a2), (.int .i64 a1), (.int .i64 a0), (.int .i64 a3)])] h R := by
 refine hc_of (args := [(.agg #[(.int .i64 a2), (.int .i64 a1), (.int .i64 a0), (.int .i64 a3)])]) Tryd.func50 rfl Tryd.ntmps50 (Nat.le_of_ble_eq_true rfl) ?_
 refine xs (xr ?_)
 refine lp rfl rfl (hn_box (v := (.agg #[(.int .i64 a2), (.int .i64 a1), (.int .i64 a0), (.int .i64 a3)])) rfl ?_)
 intro g h1 a5 a6
 have a7 := ext_pushed_f44_sh a6
 have a8 : Array.size h ≤ g := Nat.le_of_eq (Eq.symm a5)
 have a4 : h1[g]? = some (.cells #[(.int .i64 a2), (.int .i64 a1), (.int .i64 a0), (.int .i64 a3)] 24 (0, 0)) := by rw [a6]; exact push_new a5
 refine lv rfl rfl (va rfl) ?_
 refine ln (qn (xs (xr ?_)))
 refine lv rfl rfl (v := (ptr g 0)) (vf TyTA.fld24_0 (b := g) (o := 0) rfl) (lv rfl rfl (vl TyTA.agg3 rfl (rc a4 rfl)) (lv rfl rfl (v := (ptr g 1)) (vf TyTA.fld24_1 (b := g) (o := 0) rfl) (lv rfl rfl (vl TyTA.agg3 rfl (rc a4 rfl)) (lv rfl rfl (vr rfl rfl rfl) (lv rfl rfl (v := (ptr g 2)) (vf TyTA.fld24_2 (b := g) (o := 0) rfl) ?_)))))
 refine lv rfl rfl (vl TyTA.agg3 rfl (rc a4 rfl)) (lv rfl rfl (vr rfl rfl rfl) (lv rfl rfl (va rfl) ?_))
 refine ln (qn (xt ?_))
 replace H := H h1 a7
 exact endQ_ret _ (res_one Tryd.results50 (rv_tmp rfl)) H
theorem f16_sh (a1 : Int) (a0 : Int) (a2 : Int) (a3 : Int) (h : Heap) (R : Value → Heap → Prop)
  (H : (∃ j : Bool, (∀ (g : Nat) (h1 : Heap), Array.size h ≤ g → g < Array.size h1 → Ext h h1 → (∃ r : Bool, HC Tryd.prog 41 #[(.int .i64 a1), (.int .i64 16), (.int .i64 4096)] h1 (fun vv h' => vv = (.bool r) ∧ h' = h1) ∧ (((!r) = true → (j = true)) ∧ ((!r) = false → (((decide (a0 < 1)) = true → (j = true)) ∧ ((decide (a0 < 1)) = false → (((decide (a0 > 64)) = true → (j = true)) ∧ ((decide (a0 > 64)) = false → (((decide (a2 < 2)) = true → (j = true)) ∧ ((decide (a2 < 2)) = false → (((decide (a2 > 256)) = true → (j = true)) ∧ ((decide (a2 > 256)) = false → (∃ b2 : Bool, HC Tryd.prog 41 #[(.int .i64 a3), (.int .i64 1), (.int .i64 a1)] h1 (fun vv h' => vv = (.bool b2) ∧ h' = h1) ∧ (j = (!b2))))))))))))))) ∧ ((j = true → (∀ (h1 : Heap), Ext h h1 → R (.int .i64 20) h1)) ∧ (j = false → ((((decide ((IntKind.i64.wrap (a1 * a0)) < 128)) || ((decide ((IntKind.i64.wrap ((IntKind.i64.wrap (a1 * a0)) - 48)) < a3)) || (decide ((IntKind.i64.wrap ((IntKind.i64.wrap (a1 * a0)) * a2)) > 1048576)))) = true → (∀ (h1 : Heap), Ext h h1 → R (.int .i64 20) h1)) ∧ (((decide ((IntKind.i64.wrap (a1 * a0)) < 128)) || ((decide ((IntKind.i64.wrap ((IntKind.i64.wrap (a1 * a0)) - 48)) < a3)) || (decide ((IntKind.i64.wrap ((IntKind.i64.wrap (a1 * a0)) * a2)) > 1048576)))) = false → (∀ (h1 : Heap), Ext h h1 → R (.int .i64 0) h1))))))) :
  HC Tryd.prog 16 #[(.agg #[(.int .i64 a1), (.int .i64 a0), (.int .i64 a2), (.int .i64 a3)])] h R := by
 refine hc_of (args := [(.agg #[(.int .i64 a1), (.int .i64 a0), (.int .i64 a2), (.int .i64 a3)])]) Tryd.func16 rfl Tryd.ntmps16 (Nat.le_of_ble_eq_true rfl) ?_
 refine xs (xr ?_)
 refine lp rfl rfl (hn_box (v := (.agg #[(.int .i64 a1), (.int .i64 a0), (.int .i64 a2), (.int .i64 a3)])) rfl ?_)
 intro g h1 b9 b8
 have b5 := ext_pushed_f44_sh b8
 have c1 : Array.size h ≤ g := Nat.le_of_eq (Eq.symm b9)
 have a7 : h1[g]? = some (.cells #[(.int .i64 a1), (.int .i64 a0), (.int .i64 a2), (.int .i64 a3)] 24 (0, 0)) := by rw [b8]; exact push_new b9
 refine lv rfl rfl (va rfl) ?_
 refine ln (qn (xs ?_))
 obtain ⟨j, b7, b6⟩ := H
 refine xk (fun ρ h' => h1 = h' ∧ Has ρ [(1, (ptr g 0)), (34, (.bool j))]) ?_ ?_
 ·have H := b7; clear b7 b6
  refine xr ?_
  refine lv rfl rfl (v := (ptr g 0)) (vf TyTA.fld24_0 (b := g) (o := 0) rfl) (lv rfl rfl (vl TyTA.agg3 rfl (rc a7 rfl)) ?_)
  replace H := H g h1 c1 (row_lt a7) b5
  obtain ⟨r, c2, H⟩ := H
  refine lv rfl rfl (hv_call TyTA.cb41 (vs := [(.int .i64 a1), (.int .i64 16), (.int .i64 4096)]) rfl c2) (lv rfl rfl (v := (.bool (!r))) (hv_not (b := r) rfl) (lv rfl rfl (vm rfl) ?_))
  rcases bool_or (!r) with b1 | b1
  ·replace H := H.1 b1
   refine lo (wanted_n rfl rfl rfl b1) rfl ?_
   refine lo (wanted_n rfl rfl rfl b1) rfl ?_
   refine lo (wanted_n rfl rfl rfl b1) rfl ?_
   refine lv rfl rfl (v := (.bool true)) (hv_pick_t rfl b1 rfl) (lv rfl rfl (vm rfl) ?_)
   refine lo (wanted_n rfl rfl (c := true) rfl rfl) rfl ?_
   refine lo (wanted_n rfl rfl (c := true) rfl rfl) rfl ?_
   refine lo (wanted_n rfl rfl (c := true) rfl rfl) rfl ?_
   refine lv rfl rfl (v := (.bool true)) (hv_pick (t := true) rfl rfl) (lv rfl rfl (vm rfl) ?_)
   refine lo (wanted_n rfl rfl (c := true) rfl rfl) rfl ?_
   refine lo (wanted_n rfl rfl (c := true) rfl rfl) rfl ?_
   refine lo (wanted_n rfl rfl (c := true) rfl rfl) rfl ?_
   refine lv rfl rfl (v := (.bool true)) (hv_pick (t := true) rfl rfl) (lv rfl rfl (vm rfl) ?_)
   refine lo (wanted_n rfl rfl (c := true) rfl rfl) rfl ?_
   refine lo (wanted_n rfl rfl (c := true) rfl rfl) rfl ?_
   refine lo (wanted_n rfl rfl (c := true) rfl rfl) rfl ?_
   refine lv rfl rfl (v := (.bool true)) (hv_pick (t := true) rfl rfl) (lv rfl rfl (vm rfl) ?_)
   refine lo (wanted_n rfl rfl (c := true) rfl rfl) rfl ?_
   refine lo (wanted_n rfl rfl (c := true) rfl rfl) rfl ?_
   refine lo (wanted_n rfl rfl (c := true) rfl rfl) rfl ?_
   refine lo (wanted_n rfl rfl (c := true) rfl rfl) rfl ?_
   refine lo (wanted_n rfl rfl (c := true) rfl rfl) rfl ?_
   refine lo (wanted_n rfl rfl (c := true) rfl rfl) rfl ?_
   refine lv rfl rfl (v := (.bool true)) (hv_pick (t := true) rfl rfl) ?_
   refine ln (qn ?_)
   obtain rfl := H
   exact ⟨rfl, (hc rfl (hc rfl hn))⟩
  ·replace H := H.2 b1
   refine ly (wanted_y rfl rfl rfl b1) rfl (HStep.of_val (v := (ptr g 1)) (vf TyTA.fld24_1 (b := g) (o := 0) rfl) ?_)
   refine ly (wanted_y rfl rfl rfl b1) rfl (HStep.of_val (v := (.int .i64 a0)) (vl TyTA.agg3 rfl (rc a7 rfl)) ?_)
   refine ly (wanted_y rfl rfl rfl b1) rfl (HStep.of_val (v := (.bool (decide (a0 < 1)))) (vr rfl rfl rfl) ?_)
   refine lv rfl rfl (v := (.bool (decide (a0 < 1)))) (hv_pick_f rfl b1 rfl) (lv rfl rfl (vm rfl) ?_)
   rcases bool_or (decide (a0 < 1)) with a9 | a9
   ·replace H := H.1 a9
    refine lo (wanted_n rfl rfl rfl a9) rfl ?_
    refine lo (wanted_n rfl rfl rfl a9) rfl ?_
    refine lo (wanted_n rfl rfl rfl a9) rfl ?_
    refine lv rfl rfl (v := (.bool true)) (hv_pick_t rfl a9 rfl) (lv rfl rfl (vm rfl) ?_)
    refine lo (wanted_n rfl rfl (c := true) rfl rfl) rfl ?_
    refine lo (wanted_n rfl rfl (c := true) rfl rfl) rfl ?_
    refine lo (wanted_n rfl rfl (c := true) rfl rfl) rfl ?_
    refine lv rfl rfl (v := (.bool true)) (hv_pick (t := true) rfl rfl) (lv rfl rfl (vm rfl) ?_)
    refine lo (wanted_n rfl rfl (c := true) rfl rfl) rfl ?_
    refine lo (wanted_n rfl rfl (c := true) rfl rfl) rfl ?_
    refine lo (wanted_n rfl rfl (c := true) rfl rfl) rfl ?_
    refine lv rfl rfl (v := (.bool true)) (hv_pick (t := true) rfl rfl) (lv rfl rfl (vm rfl) ?_)
    refine lo (wanted_n rfl rfl (c := true) rfl rfl) rfl ?_
    refine lo (wanted_n rfl rfl (c := true) rfl rfl) rfl ?_
    refine lo (wanted_n rfl rfl (c := true) rfl rfl) rfl ?_
    refine lo (wanted_n rfl rfl (c := true) rfl rfl) rfl ?_
    refine lo (wanted_n rfl rfl (c := true) rfl rfl) rfl ?_
    refine lo (wanted_n rfl rfl (c := true) rfl rfl) rfl ?_
    refine lv rfl rfl (v := (.bool true)) (hv_pick (t := true) rfl rfl) ?_
    refine ln (qn ?_)
    obtain rfl := H
    exact ⟨rfl, (hc rfl (hc rfl hn))⟩
   ·replace H := H.2 a9
    refine ly (wanted_y rfl rfl rfl a9) rfl (HStep.of_val (v := (ptr g 1)) (vf TyTA.fld24_1 (b := g) (o := 0) rfl) ?_)
    refine ly (wanted_y rfl rfl rfl a9) rfl (HStep.of_val (v := (.int .i64 a0)) (vl TyTA.agg3 rfl (rc a7 rfl)) ?_)
    refine ly (wanted_y rfl rfl rfl a9) rfl (HStep.of_val (v := (.bool (decide (a0 > 64)))) (vr rfl rfl rfl) ?_)
    refine lv rfl rfl (v := (.bool (decide (a0 > 64)))) (hv_pick_f rfl a9 rfl) (lv rfl rfl (vm rfl) ?_)
    rcases bool_or (decide (a0 > 64)) with b0 | b0
    ·replace H := H.1 b0
     refine lo (wanted_n rfl rfl rfl b0) rfl ?_
     refine lo (wanted_n rfl rfl rfl b0) rfl ?_
     refine lo (wanted_n rfl rfl rfl b0) rfl ?_
     refine lv rfl rfl (v := (.bool true)) (hv_pick_t rfl b0 rfl) (lv rfl rfl (vm rfl) ?_)
     refine lo (wanted_n rfl rfl (c := true) rfl rfl) rfl ?_
     refine lo (wanted_n rfl rfl (c := true) rfl rfl) rfl ?_
     refine lo (wanted_n rfl rfl (c := true) rfl rfl) rfl ?_
     refine lv rfl rfl (v := (.bool true)) (hv_pick (t := true) rfl rfl) (lv rfl rfl (vm rfl) ?_)
     refine lo (wanted_n rfl rfl (c := true) rfl rfl) rfl ?_
     refine lo (wanted_n rfl rfl (c := true) rfl rfl) rfl ?_
     refine lo (wanted_n rfl rfl (c := true) rfl rfl) rfl ?_
     refine lo (wanted_n rfl rfl (c := true) rfl rfl) rfl ?_
     refine lo (wanted_n rfl rfl (c := true) rfl rfl) rfl ?_
     refine lo (wanted_n rfl rfl (c := true) rfl rfl) rfl ?_
     refine lv rfl rfl (v := (.bool true)) (hv_pick (t := true) rfl rfl) ?_
     refine ln (qn ?_)
     obtain rfl := H
     exact ⟨rfl, (hc rfl (hc rfl hn))⟩
    ·replace H := H.2 b0
     refine ly (wanted_y rfl rfl rfl b0) rfl (HStep.of_val (v := (ptr g 2)) (vf TyTA.fld24_2 (b := g) (o := 0) rfl) ?_)
     refine ly (wanted_y rfl rfl rfl b0) rfl (HStep.of_val (v := (.int .i64 a2)) (vl TyTA.agg3 rfl (rc a7 rfl)) ?_)
     refine ly (wanted_y rfl rfl rfl b0) rfl (HStep.of_val (v := (.bool (decide (a2 < 2)))) (vr rfl rfl rfl) ?_)
     refine lv rfl rfl (v := (.bool (decide (a2 < 2)))) (hv_pick_f rfl b0 rfl) (lv rfl rfl (vm rfl) ?_)
     rcases bool_or (decide (a2 < 2)) with a8 | a8
     ·replace H := H.1 a8
      refine lo (wanted_n rfl rfl rfl a8) rfl ?_
      refine lo (wanted_n rfl rfl rfl a8) rfl ?_
      refine lo (wanted_n rfl rfl rfl a8) rfl ?_
      refine lv rfl rfl (v := (.bool true)) (hv_pick_t rfl a8 rfl) (lv rfl rfl (vm rfl) ?_)
      refine lo (wanted_n rfl rfl (c := true) rfl rfl) rfl ?_
      refine lo (wanted_n rfl rfl (c := true) rfl rfl) rfl ?_
      refine lo (wanted_n rfl rfl (c := true) rfl rfl) rfl ?_
      refine lo (wanted_n rfl rfl (c := true) rfl rfl) rfl ?_
      refine lo (wanted_n rfl rfl (c := true) rfl rfl) rfl ?_
      refine lo (wanted_n rfl rfl (c := true) rfl rfl) rfl ?_
      refine lv rfl rfl (v := (.bool true)) (hv_pick (t := true) rfl rfl) ?_
      refine ln (qn ?_)
      obtain rfl := H
      exact ⟨rfl, (hc rfl (hc rfl hn))⟩
     ·replace H := H.2 a8
      refine ly (wanted_y rfl rfl rfl a8) rfl (HStep.of_val (v := (ptr g 2)) (vf TyTA.fld24_2 (b := g) (o := 0) rfl) ?_)
      refine ly (wanted_y rfl rfl rfl a8) rfl (HStep.of_val (v := (.int .i64 a2)) (vl TyTA.agg3 rfl (rc a7 rfl)) ?_)
      refine ly (wanted_y rfl rfl rfl a8) rfl (HStep.of_val (v := (.bool (decide (a2 > 256)))) (vr rfl rfl rfl) ?_)
      refine lv rfl rfl (v := (.bool (decide (a2 > 256)))) (hv_pick_f rfl a8 rfl) (lv rfl rfl (vm rfl) ?_)
      rcases bool_or (decide (a2 > 256)) with a6 | a6
      ·replace H := H.1 a6
       refine lo (wanted_n rfl rfl rfl a6) rfl ?_
       refine lo (wanted_n rfl rfl rfl a6) rfl ?_
       refine lo (wanted_n rfl rfl rfl a6) rfl ?_
       refine lo (wanted_n rfl rfl rfl a6) rfl ?_
       refine lo (wanted_n rfl rfl rfl a6) rfl ?_
       refine lo (wanted_n rfl rfl rfl a6) rfl ?_
       refine lv rfl rfl (v := (.bool true)) (hv_pick_t rfl a6 rfl) ?_
       refine ln (qn ?_)
       obtain rfl := H
       exact ⟨rfl, (hc rfl (hc rfl hn))⟩
      ·replace H := H.2 a6
       refine ly (wanted_y rfl rfl rfl a6) rfl (HStep.of_val (v := (ptr g 3)) (vf TyTA.fld24_3 (b := g) (o := 0) rfl) ?_)
       refine ly (wanted_y rfl rfl rfl a6) rfl (HStep.of_val (v := (.int .i64 a3)) (vl TyTA.agg3 rfl (rc a7 rfl)) ?_)
       refine ly (wanted_y rfl rfl rfl a6) rfl (HStep.of_val (v := (ptr g 0)) (vf TyTA.fld24_0 (b := g) (o := 0) rfl) ?_)
       refine ly (wanted_y rfl rfl rfl a6) rfl (HStep.of_val (v := (.int .i64 a1)) (vl TyTA.agg3 rfl (rc a7 rfl)) ?_)
       obtain ⟨b2, c0, H⟩ := H
       refine ly (wanted_y rfl rfl rfl a6) rfl (HStep.of_val (v := (.bool b2)) (hv_call TyTA.cb41 (vs := [(.int .i64 a3), (.int .i64 1), (.int .i64 a1)]) rfl c0) ?_)
       refine ly (wanted_y rfl rfl rfl a6) rfl (HStep.of_val (v := (.bool (!b2))) (hv_not (b := b2) rfl) ?_)
       refine lv rfl rfl (v := (.bool (!b2))) (hv_pick_f rfl a6 rfl) ?_
       refine ln (qn ?_)
       obtain rfl := H
       exact ⟨rfl, (hc rfl (hc rfl hn))⟩
 ·have H := b6; clear b7 b6
  rintro ρ _ ⟨rfl, hH⟩
  refine xh _ hH ?_
  refine xc (b := j) rfl (fun b3 => ?_) (fun b3 => ?_)
  ·replace H := H.1 b3
   refine xs (xr ?_)
   refine lv rfl rfl (va rfl) ?_
   refine ln (qn (xt (qr ?_)))
   replace H := H h1 b5
   exact endQ_ret _ (res_one Tryd.results16 (rv_tmp rfl)) H
  ·replace H := H.2 b3
   refine xi (qn (xs ?_))
   refine xk (fun ρ h' => h1 = h' ∧ Has ρ [(62, (.bool ((decide ((IntKind.i64.wrap (a1 * a0)) < 128)) || ((decide ((IntKind.i64.wrap ((IntKind.i64.wrap (a1 * a0)) - 48)) < a3)) || (decide ((IntKind.i64.wrap ((IntKind.i64.wrap (a1 * a0)) * a2)) > 1048576))))))]) ?_ ?_
   ·refine xr ?_
    refine lv rfl rfl (v := (ptr g 0)) (vf TyTA.fld24_0 (b := g) (o := 0) rfl) (lv rfl rfl (vl TyTA.agg3 rfl (rc a7 rfl)) (lv rfl rfl (v := (ptr g 1)) (vf TyTA.fld24_1 (b := g) (o := 0) rfl) (lv rfl rfl (vl TyTA.agg3 rfl (rc a7 rfl)) (lv rfl rfl (vr rfl rfl rfl) (lv rfl rfl (vr rfl rfl rfl) ?_)))))
    refine lv rfl rfl (vm rfl) ?_
    rcases bool_or (decide ((IntKind.i64.wrap (a1 * a0)) < 128)) with a4 | a4
    ·refine lo (wanted_n rfl rfl rfl a4) rfl ?_
     refine lo (wanted_n rfl rfl rfl a4) rfl ?_
     refine lo (wanted_n rfl rfl rfl a4) rfl ?_
     refine lo (wanted_n rfl rfl rfl a4) rfl ?_
     refine lo (wanted_n rfl rfl rfl a4) rfl ?_
     refine lo (wanted_n rfl rfl rfl a4) rfl ?_
     refine lo (wanted_n rfl rfl rfl a4) rfl ?_
     refine lo (wanted_n rfl rfl rfl a4) rfl ?_
     refine lo (wanted_n rfl rfl rfl a4) rfl ?_
     refine lv rfl rfl (v := (.bool true)) (hv_pick_t rfl a4 rfl) (lv rfl rfl (vm rfl) ?_)
     refine lo (wanted_n rfl rfl (c := true) rfl rfl) rfl ?_
     refine lo (wanted_n rfl rfl (c := true) rfl rfl) rfl ?_
     refine lo (wanted_n rfl rfl (c := true) rfl rfl) rfl ?_
     refine lo (wanted_n rfl rfl (c := true) rfl rfl) rfl ?_
     refine lo (wanted_n rfl rfl (c := true) rfl rfl) rfl ?_
     refine lo (wanted_n rfl rfl (c := true) rfl rfl) rfl ?_
     refine lo (wanted_n rfl rfl (c := true) rfl rfl) rfl ?_
     refine lo (wanted_n rfl rfl (c := true) rfl rfl) rfl ?_
     refine lo (wanted_n rfl rfl (c := true) rfl rfl) rfl ?_
     refine lv rfl rfl (v := (.bool true)) (hv_pick (t := true) rfl rfl) ?_
     refine ln (qn ?_)
     exact ⟨rfl, (hc (show ((.bool true) : Value) = (.bool ((decide ((IntKind.i64.wrap (a1 * a0)) < 128)) || ((decide ((IntKind.i64.wrap ((IntKind.i64.wrap (a1 * a0)) - 48)) < a3)) || (decide ((IntKind.i64.wrap ((IntKind.i64.wrap (a1 * a0)) * a2)) > 1048576))))) from (by first | rfl | ((try rw [a4]); all_goals first | rfl | (simp only [Bool.true_or, Bool.or_true, Bool.false_or, Bool.or_false, Bool.true_and, Bool.and_true, Bool.false_and, Bool.and_false, Bool.not_true, Bool.not_false, Bool.cond_true, Bool.cond_false]; done)) | simp [a4])) hn)⟩
    ·refine ly (wanted_y rfl rfl rfl a4) rfl (HStep.of_val (v := (ptr g 0)) (vf TyTA.fld24_0 (b := g) (o := 0) rfl) ?_)
     refine ly (wanted_y rfl rfl rfl a4) rfl (HStep.of_val (v := (.int .i64 a1)) (vl TyTA.agg3 rfl (rc a7 rfl)) ?_)
     refine ly (wanted_y rfl rfl rfl a4) rfl (HStep.of_val (v := (ptr g 1)) (vf TyTA.fld24_1 (b := g) (o := 0) rfl) ?_)
     refine ly (wanted_y rfl rfl rfl a4) rfl (HStep.of_val (v := (.int .i64 a0)) (vl TyTA.agg3 rfl (rc a7 rfl)) ?_)
     refine ly (wanted_y rfl rfl rfl a4) rfl (HStep.of_val (v := (.int .i64 (IntKind.i64.wrap (a1 * a0)))) (vr rfl rfl rfl) ?_)
     refine ly (wanted_y rfl rfl rfl a4) rfl (HStep.of_val (v := (.int .i64 (IntKind.i64.wrap ((IntKind.i64.wrap (a1 * a0)) - 48)))) (vr rfl rfl rfl) ?_)
     refine ly (wanted_y rfl rfl rfl a4) rfl (HStep.of_val (v := (ptr g 3)) (vf TyTA.fld24_3 (b := g) (o := 0) rfl) ?_)
     refine ly (wanted_y rfl rfl rfl a4) rfl (HStep.of_val (v := (.int .i64 a3)) (vl TyTA.agg3 rfl (rc a7 rfl)) ?_)
     refine ly (wanted_y rfl rfl rfl a4) rfl (HStep.of_val (v := (.bool (decide ((IntKind.i64.wrap ((IntKind.i64.wrap (a1 * a0)) - 48)) < a3)))) (vr rfl rfl rfl) ?_)
     refine lv rfl rfl (v := (.bool (decide ((IntKind.i64.wrap ((IntKind.i64.wrap (a1 * a0)) - 48)) < a3)))) (hv_pick_f rfl a4 rfl) (lv rfl rfl (vm rfl) ?_)
     rcases bool_or (decide ((IntKind.i64.wrap ((IntKind.i64.wrap (a1 * a0)) - 48)) < a3)) with a5 | a5
     ·refine lo (wanted_n rfl rfl rfl a5) rfl ?_
      refine lo (wanted_n rfl rfl rfl a5) rfl ?_
      refine lo (wanted_n rfl rfl rfl a5) rfl ?_
      refine lo (wanted_n rfl rfl rfl a5) rfl ?_
      refine lo (wanted_n rfl rfl rfl a5) rfl ?_
      refine lo (wanted_n rfl rfl rfl a5) rfl ?_
      refine lo (wanted_n rfl rfl rfl a5) rfl ?_
      refine lo (wanted_n rfl rfl rfl a5) rfl ?_
      refine lo (wanted_n rfl rfl rfl a5) rfl ?_
      refine lv rfl rfl (v := (.bool true)) (hv_pick_t rfl a5 rfl) ?_
      refine ln (qn ?_)
      exact ⟨rfl, (hc (show ((.bool true) : Value) = (.bool ((decide ((IntKind.i64.wrap (a1 * a0)) < 128)) || ((decide ((IntKind.i64.wrap ((IntKind.i64.wrap (a1 * a0)) - 48)) < a3)) || (decide ((IntKind.i64.wrap ((IntKind.i64.wrap (a1 * a0)) * a2)) > 1048576))))) from (by first | rfl | ((try rw [a4]); (try rw [a5]); all_goals first | rfl | (simp only [Bool.true_or, Bool.or_true, Bool.false_or, Bool.or_false, Bool.true_and, Bool.and_true, Bool.false_and, Bool.and_false, Bool.not_true, Bool.not_false, Bool.cond_true, Bool.cond_false]; done)) | simp [a4, a5])) hn)⟩
     ·refine ly (wanted_y rfl rfl rfl a5) rfl (HStep.of_val (v := (ptr g 0)) (vf TyTA.fld24_0 (b := g) (o := 0) rfl) ?_)
      refine ly (wanted_y rfl rfl rfl a5) rfl (HStep.of_val (v := (.int .i64 a1)) (vl TyTA.agg3 rfl (rc a7 rfl)) ?_)
      refine ly (wanted_y rfl rfl rfl a5) rfl (HStep.of_val (v := (ptr g 1)) (vf TyTA.fld24_1 (b := g) (o := 0) rfl) ?_)
      refine ly (wanted_y rfl rfl rfl a5) rfl (HStep.of_val (v := (.int .i64 a0)) (vl TyTA.agg3 rfl (rc a7 rfl)) ?_)
      refine ly (wanted_y rfl rfl rfl a5) rfl (HStep.of_val (v := (.int .i64 (IntKind.i64.wrap (a1 * a0)))) (vr rfl rfl rfl) ?_)
      refine ly (wanted_y rfl rfl rfl a5) rfl (HStep.of_val (v := (ptr g 2)) (vf TyTA.fld24_2 (b := g) (o := 0) rfl) ?_)
      refine ly (wanted_y rfl rfl rfl a5) rfl (HStep.of_val (v := (.int .i64 a2)) (vl TyTA.agg3 rfl (rc a7 rfl)) ?_)
      refine ly (wanted_y rfl rfl rfl a5) rfl (HStep.of_val (v := (.int .i64 (IntKind.i64.wrap ((IntKind.i64.wrap (a1 * a0)) * a2)))) (vr rfl rfl rfl) ?_)
      refine ly (wanted_y rfl rfl rfl a5) rfl (HStep.of_val (v := (.bool (decide ((IntKind.i64.wrap ((IntKind.i64.wrap (a1 * a0)) * a2)) > 1048576)))) (vr rfl rfl rfl) ?_)
      refine lv rfl rfl (v := (.bool (decide ((IntKind.i64.wrap ((IntKind.i64.wrap (a1 * a0)) * a2)) > 1048576)))) (hv_pick_f rfl a5 rfl) ?_
      refine ln (qn ?_)
      exact ⟨rfl, (hc (show ((.bool (decide ((IntKind.i64.wrap ((IntKind.i64.wrap (a1 * a0)) * a2)) > 1048576))) : Value) = (.bool ((decide ((IntKind.i64.wrap (a1 * a0)) < 128)) || ((decide ((IntKind.i64.wrap ((IntKind.i64.wrap (a1 * a0)) - 48)) < a3)) || (decide ((IntKind.i64.wrap ((IntKind.i64.wrap (a1 * a0)) * a2)) > 1048576))))) from (by first | rfl | ((try rw [a4]); (try rw [a5]); all_goals first | rfl | (simp only [Bool.true_or, Bool.or_true, Bool.false_or, Bool.or_false, Bool.true_and, Bool.and_true, Bool.false_and, Bool.and_false, Bool.not_true, Bool.not_false, Bool.cond_true, Bool.cond_false]; done)) | simp [a4, a5])) hn)⟩
   ·rintro ρ _ ⟨rfl, hH⟩
    refine xh _ hH ?_
    refine xc (b := ((decide ((IntKind.i64.wrap (a1 * a0)) < 128)) || ((decide ((IntKind.i64.wrap ((IntKind.i64.wrap (a1 * a0)) - 48)) < a3)) || (decide ((IntKind.i64.wrap ((IntKind.i64.wrap (a1 * a0)) * a2)) > 1048576))))) rfl (fun b4 => ?_) (fun b4 => ?_)
    ·replace H := H.1 b4
     refine xs (xr ?_)
     refine lv rfl rfl (va rfl) ?_
     refine ln (qn (xt (qr ?_)))
     replace H := H h1 b5
     exact endQ_ret _ (res_one Tryd.results16 (rv_tmp rfl)) H
    ·replace H := H.2 b4
     refine xi (qn (xs (xr ?_)))
     refine lv rfl rfl (va rfl) ?_
     refine ln (qn (xt ?_))
     replace H := H h1 b5
     exact endQ_ret _ (res_one Tryd.results16 (rv_tmp rfl)) H
theorem f38_sh (a3 : Int) (a2 : Int) (a1 : Int) (a0 : Int) (n : Int) (h : Heap) (R : Value → Heap → Prop)
  (H : (∀ (g : Nat) (h1 : Heap), Array.size h ≤ g → g < Array.size h1 → Ext h h1 → HC Tryd.prog 16 #[(.agg #[(.int .i64 a3), (.int .i64 a2), (.int .i64 a1), (.int .i64 a0)])] h1 (fun vv h2 => Ext h1 h2 ∧ ∃ r : Int, vv = (.int .i64 r) ∧ (((r != 0) = true → R (.tuple #[(.int .i64 0), (.int .i64 20)]) h2) ∧ ((r != 0) = false → (∃ a9 : Bool → Heap → Prop, (((decide (n < 0)) = true → (a9 true h2)) ∧ ((decide (n < 0)) = false → HC Tryd.prog 50 #[(.agg #[(.int .i64 a3), (.int .i64 a2), (.int .i64 a1), (.int .i64 a0)])] h2 (fun vv h4 => Ext h2 h4 ∧ ∃ b0 : Int, vv = (.int .i64 b0) ∧ (a9 (decide (n > b0)) h4)))) ∧ (∀ (j : Bool) (h3 : Heap), a9 j h3 → ((j = true → R (.tuple #[(.int .i64 0), (.int .i64 23)]) h3) ∧ (j = false → (∃ (a8 : Int → Prop) (a7 : Int → Nat), a8 n ∧ (∀ (a4 : Int), a8 a4 → (a0 ≠ 0 ∧ ((((Int.tmod a4 a0) != 0) = true → (a8 (IntKind.i64.wrap (a4 + 1)) ∧ a7 (IntKind.i64.wrap (a4 + 1)) < a7 a4)) ∧ (((Int.tmod a4 a0) != 0) = false → R (.tuple #[(.int .i64 a4), (.int .i64 0)]) h3)))))))))))))) :
  HC Tryd.prog 38 #[(.agg #[(.int .i64 a3), (.int .i64 a2), (.int .i64 a1), (.int .i64 a0)]), (.int .i64 n)] h R := by
 refine hc_of (args := [(.agg #[(.int .i64 a3), (.int .i64 a2), (.int .i64 a1), (.int .i64 a0)]), (.int .i64 n)]) Tryd.func38 rfl Tryd.ntmps38 (Nat.le_of_ble_eq_true rfl) ?_
 refine xs (xr ?_)
 refine lp rfl rfl (hn_box (v := (.agg #[(.int .i64 a3), (.int .i64 a2), (.int .i64 a1), (.int .i64 a0)])) rfl ?_)
 intro g h1 b7 b6
 have c6 := ext_pushed_f44_sh b6
 have c7 : Array.size h ≤ g := Nat.le_of_eq (Eq.symm b7)
 have a6 : h1[g]? = some (.cells #[(.int .i64 a3), (.int .i64 a2), (.int .i64 a1), (.int .i64 a0)] 24 (0, 0)) := by rw [b6]; exact push_new b7
 refine lv rfl rfl (va rfl) (lv rfl rfl (va rfl) ?_)
 refine ln (qn (xs (xs (xr ?_))))
 refine lv rfl rfl (vL (vs := [(.int .i64 a3), (.int .i64 a2), (.int .i64 a1), (.int .i64 a0)]) TyTA.agg24 TyTA.sz24 rfl (cc (rc a6 rfl) (cc (rc a6 rfl) (cc (rc a6 rfl) (cc (rc a6 rfl) cn))))) ?_
 replace H := H g h1 c7 (row_lt a6) c6
 refine lp rfl rfl (sc TyTA.cb16 rfl (HC.mono H ?_))
 rintro _ h2 ⟨c5, r, rfl, H⟩
 replace a6 := Ext.row c5 a6
 refine lv rfl rfl (vr rfl rfl rfl) ?_
 refine ln (qn ?_)
 refine xc (b := r != 0) rfl (fun b3 => ?_) (fun b3 => ?_)
 ·replace H := H.1 b3
  refine xs (xr ?_)
  refine lv rfl rfl (va rfl) (lv rfl rfl (va rfl) ?_)
  refine ln (qn (xt (qr ?_)))
  exact endQ_ret _ (res_two Tryd.results38 (rv_tmp rfl) (rv_tmp rfl)) H
 ·replace H := H.2 b3
  refine xi (qn (xs ?_))
  obtain ⟨a9, b4, b5⟩ := H
  refine xk (fun ρ h' => ∃ j : Bool, (a9 j h' ∧ h'[g]? = some (.cells #[(.int .i64 a3), (.int .i64 a2), (.int .i64 a1), (.int .i64 a0)] 24 (0, 0)) ∧ True) ∧ Has ρ [(1, (.int .i64 n)), (2, (ptr g 0)), (16, (.bool j))]) ?_ ?_
  ·have H := b4; clear b4 b5
   refine xr ?_
   refine lv rfl rfl (vm rfl) (lv rfl rfl (vr rfl rfl rfl) (lv rfl rfl (vm rfl) ?_))
   rcases bool_or (decide (n < 0)) with a5 | a5
   ·replace H := H.1 a5
    refine lo (wanted_n rfl rfl rfl a5) rfl ?_
    refine lo (wanted_n rfl rfl rfl a5) rfl ?_
    refine lo (wanted_n rfl rfl rfl a5) rfl ?_
    refine lo (wanted_n rfl rfl rfl a5) rfl ?_
    refine lv rfl rfl (v := (.bool true)) (hv_pick_t rfl a5 rfl) ?_
    refine ln (qn ?_)
    exact ⟨_, ⟨H, a6, trivial⟩, (hc rfl (hc rfl (hc rfl hn)))⟩
   ·replace H := H.2 a5
    refine ly (wanted_y rfl rfl rfl a5) rfl (HStep.of_val (v := (.int .i64 n)) (vm rfl) ?_)
    refine ly (wanted_y rfl rfl rfl a5) rfl (HStep.of_val (v := (.agg #[(.int .i64 a3), (.int .i64 a2), (.int .i64 a1), (.int .i64 a0)])) (vL (vs := [(.int .i64 a3), (.int .i64 a2), (.int .i64 a1), (.int .i64 a0)]) TyTA.agg24 TyTA.sz24 rfl (cc (rc a6 rfl) (cc (rc a6 rfl) (cc (rc a6 rfl) (cc (rc a6 rfl) cn))))) ?_)
    refine ly (wanted_y rfl rfl rfl a5) rfl (sc TyTA.cb50 rfl (HC.mono H ?_))
    rintro _ h4 ⟨b8, b0, rfl, H⟩
    replace a6 := Ext.row b8 a6
    refine ly (wanted_y rfl rfl rfl a5) rfl (HStep.of_val (v := (.bool (decide (n > b0)))) (vr rfl rfl rfl) ?_)
    refine lv rfl rfl (v := (.bool (decide (n > b0)))) (hv_pick_f rfl a5 rfl) ?_
    refine ln (qn ?_)
    exact ⟨_, ⟨H, a6, trivial⟩, (hc rfl (hc rfl (hc rfl hn)))⟩
  ·rintro ρ h3 ⟨j, ⟨b9, c4, -⟩, hH⟩
   have H := b5 j h3 b9; clear b4 b5
   refine xh _ hH ?_
   refine xc (b := j) rfl (fun b2 => ?_) (fun b2 => ?_)
   ·replace H := H.1 b2
    refine xs (xr ?_)
    refine lv rfl rfl (va rfl) (lv rfl rfl (va rfl) ?_)
    refine ln (qn (xt (qr ?_)))
    exact endQ_ret _ (res_two Tryd.results38 (rv_tmp rfl) (rv_tmp rfl)) H
   ·replace H := H.2 b2
    refine xi (qn (xs (xb ?_)))
    obtain ⟨a8, a7, c3, c1⟩ := H
    refine xl (σ := Int) (fun s => [(1, (.int .i64 s)), (2, (ptr g 0))]) (fun s h' => a8 s ∧ h3 = h') (fun s _ => a7 s) n ⟨c3, rfl⟩ (hc rfl (hc rfl hn)) ?_
    rintro a4 ρ _ ⟨c2, rfl⟩
    have H := c1 a4 c2
    refine xs (xs (xr ?_))
    refine lv rfl rfl (vm rfl) (lv rfl rfl (v := (ptr g 3)) (vf TyTA.fld24_3 (b := g) (o := 0) rfl) (lv rfl rfl (vl TyTA.agg3 rfl (rc c4 rfl)) ?_))
    obtain ⟨c0, H⟩ := H
    refine lv rfl rfl (v := (.int .i64 (Int.tmod a4 a0))) (hv_rem rfl rfl c0) (lv rfl rfl (vr rfl rfl rfl) ?_)
    refine ln (qn ?_)
    refine xc (b := (Int.tmod a4 a0) != 0) rfl (fun b1 => ?_) (fun b1 => ?_)
    ·replace H := H.1 b1
     refine xi (qn (xb (xr ?_)))
     refine lv rfl rfl (vm rfl) (lv rfl rfl (vr rfl rfl rfl) (lv rfl rfl (va rfl) ?_))
     refine ln (bn (qn ?_))
     exact ⟨IntKind.i64.wrap (a4 + 1), ⟨⟨H.1, rfl⟩, H.2⟩, (hc rfl (hc rfl hn))⟩
    ·replace H := H.2 b1
     refine xe (qe (qe (bh (qn (xs (xr ?_))))))
     refine lv rfl rfl (vm rfl) (lv rfl rfl (va rfl) (lv rfl rfl (va rfl) ?_))
     refine ln (qn (xt ?_))
     exact endQ_ret _ (res_two Tryd.results38 (rv_tmp rfl) (rv_tmp rfl)) H
theorem f31_sh (a2 : Int) (a0 : Int) (a1 : Int) (a3 : Int) (h : Heap) (R : Value → Heap → Prop)
  (H : (∀ (g : Nat) (h1 : Heap), Array.size h ≤ g → g < Array.size h1 → Ext h h1 → HC Tryd.prog 59 #[(.agg #[(.int .i64 a2), (.int .i64 a0), (.int .i64 a1), (.int .i64 a3)])] h1 (fun vv h2 => Ext h1 h2 ∧ ∃ r : Int, vv = (.int .i64 r) ∧ (((r != 0) = true → R (.tuple #[(.int .i64 0), (.int .i64 0), (.int .i64 r)]) h2) ∧ ((r != 0) = false → R (.tuple #[(.int .i64 (IntKind.i64.wrap (a2 * a0))), (.int .i64 (IntKind.i64.wrap ((IntKind.i64.wrap (a2 * a0)) * a1))), (.int .i64 0)]) h2))))) :
  HC Tryd.prog 31 #[(.agg #[(.int .i64 a2), (.int .i64 a0), (.int .i64 a1), (.int .i64 a3)])] h R := by
 refine hc_of (args := [(.agg #[(.int .i64 a2), (.int .i64 a0), (.int .i64 a1), (.int .i64 a3)])]) Tryd.func31 rfl Tryd.ntmps31 (Nat.le_of_ble_eq_true rfl) ?_
 refine xs (xr ?_)
 refine lp rfl rfl (hn_box (v := (.agg #[(.int .i64 a2), (.int .i64 a0), (.int .i64 a1), (.int .i64 a3)])) rfl ?_)
 intro g h1 a6 a7
 have a9 := ext_pushed_f44_sh a7
 have a8 : Array.size h ≤ g := Nat.le_of_eq (Eq.symm a6)
 have a4 : h1[g]? = some (.cells #[(.int .i64 a2), (.int .i64 a0), (.int .i64 a1), (.int .i64 a3)] 24 (0, 0)) := by rw [a7]; exact push_new a6
 refine lv rfl rfl (va rfl) (lv rfl rfl (va rfl) (lv rfl rfl (va rfl) ?_))
 refine ln (qn (xs (xs (xr ?_))))
 refine lv rfl rfl (vL (vs := [(.int .i64 a2), (.int .i64 a0), (.int .i64 a1), (.int .i64 a3)]) TyTA.agg24 TyTA.sz24 rfl (cc (rc a4 rfl) (cc (rc a4 rfl) (cc (rc a4 rfl) (cc (rc a4 rfl) cn))))) ?_
 replace H := H g h1 a8 (row_lt a4) a9
 refine lp rfl rfl (sc TyTA.cb59 rfl (HC.mono H ?_))
 rintro _ h2 ⟨b0, r, rfl, H⟩
 replace a4 := Ext.row b0 a4
 refine lv rfl rfl (va rfl) ?_
 refine ln (qn (xs (xr ?_)))
 refine lv rfl rfl (vm rfl) (lv rfl rfl (vr rfl rfl rfl) ?_)
 refine ln (qn ?_)
 refine xc (b := r != 0) rfl (fun a5 => ?_) (fun a5 => ?_)
 ·replace H := H.1 a5
  refine xs (xr ?_)
  refine lv rfl rfl (vm rfl) (lv rfl rfl (va rfl) (lv rfl rfl (va rfl) (lv rfl rfl (va rfl) ?_)))
  refine ln (qn (xt (qr ?_)))
  exact endQ_ret _ (res_three Tryd.results31 (rv_tmp rfl) (rv_tmp rfl) (rv_tmp rfl)) H
 ·replace H := H.2 a5
  refine xi (qn (xs (xr ?_)))
  refine lv rfl rfl (v := (ptr g 0)) (vf TyTA.fld24_0 (b := g) (o := 0) rfl) (lv rfl rfl (vl TyTA.agg3 rfl (rc a4 rfl)) (lv rfl rfl (v := (ptr g 1)) (vf TyTA.fld24_1 (b := g) (o := 0) rfl) (lv rfl rfl (vl TyTA.agg3 rfl (rc a4 rfl)) (lv rfl rfl (vr rfl rfl rfl) (lv rfl rfl (va rfl) ?_)))))
  refine ln (qn (xs ?_))
  refine hx_draw TyTA.mixed [.pure, .pure, .pure, .read, .pure, .pure, .pure, .pure] [0, 1, 2, 3, 4, 5, 6, 7] (by kernel_rfl) ?_
  refine pp (i := 0) rfl (wanted_0 rfl) rfl (.int .i64 (IntKind.i64.wrap (a2 * a0))) (fun _ => vm rfl) ?_
  refine pp (i := 1) rfl (wanted_0 rfl) rfl (.int .i64 (IntKind.i64.wrap (a2 * a0))) (fun _ => vm rfl) ?_
  refine pp (i := 2) rfl (wanted_0 rfl) rfl (ptr g 2) (fun _ => vf TyTA.fld24_2 (b := g) (o := 0) rfl) ?_
  refine pr (i := 3) rfl (wanted_0 rfl) rfl (.int .i64 a1) (fun _ he => vl TyTA.agg3 rfl (Ext.cell he (rc a4 rfl))) ?_
  refine pp (i := 4) rfl (wanted_0 rfl) rfl (.int .i64 (IntKind.i64.wrap ((IntKind.i64.wrap (a2 * a0)) * a1))) (fun _ => vr rfl rfl rfl) ?_
  refine pp (i := 5) rfl (wanted_0 rfl) rfl (.int .i64 (IntKind.i64.wrap (a2 * a0))) (fun _ => va rfl) ?_
  refine pp (i := 6) rfl (wanted_0 rfl) rfl (.int .i64 (IntKind.i64.wrap ((IntKind.i64.wrap (a2 * a0)) * a1))) (fun _ => va rfl) ?_
  refine pp (i := 7) rfl (wanted_0 rfl) rfl (.int .i64 0) (fun _ => va rfl) ?_
  refine hp_nil ?_
  refine qn (xt ?_)
  exact endQ_ret _ (res_three Tryd.results31 (rv_tmp rfl) (rv_tmp rfl) (rv_tmp rfl)) H
theorem f33_sh (a4 : Int) (a2 : Int) (a1 : Int) (a0 : Int) (n : Int) (h : Heap) (R : Value → Heap → Prop)
  (H : (∀ (g : Nat) (h1 : Heap), Array.size h ≤ g → g < Array.size h1 → Ext h h1 → HC Tryd.prog 31 #[(.agg #[(.int .i64 a4), (.int .i64 a2), (.int .i64 a1), (.int .i64 a0)])] h1 (fun vv h2 => Ext h1 h2 ∧ ∃ r0 r1 r2 : Int, vv = (.tuple #[(.int .i64 r0), (.int .i64 r1), (.int .i64 r2)]) ∧ (((r2 != 0) = true → R (.tuple #[(.int .i64 0), (.int .i64 r2)]) h2) ∧ ((r2 != 0) = false → ((((decide (n < 0)) || (decide (n > r1))) = true → R (.tuple #[(.int .i64 0), (.int .i64 23)]) h2) ∧ (((decide (n < 0)) || (decide (n > r1))) = false → (∃ r : Int, HC Tryd.prog 63 #[(.int .i64 n), (.int .i64 a0)] h2 (fun vv h' => vv = (.int .i64 r) ∧ h' = h2) ∧ R (.tuple #[(.int .i64 r), (.int .i64 0)]) h2)))))))) :
  HC Tryd.prog 33 #[(.agg #[(.int .i64 a4), (.int .i64 a2), (.int .i64 a1), (.int .i64 a0)]), (.int .i64 n)] h R := by
 refine hc_of (args := [(.agg #[(.int .i64 a4), (.int .i64 a2), (.int .i64 a1), (.int .i64 a0)]), (.int .i64 n)]) Tryd.func33 rfl Tryd.ntmps33 (Nat.le_of_ble_eq_true rfl) ?_
 refine xs (xr ?_)
 refine lp rfl rfl (hn_box (v := (.agg #[(.int .i64 a4), (.int .i64 a2), (.int .i64 a1), (.int .i64 a0)])) rfl ?_)
 intro g h1 a9 a8
 have b3 := ext_pushed_f44_sh a8
 have b1 : Array.size h ≤ g := Nat.le_of_eq (Eq.symm a9)
 have a5 : h1[g]? = some (.cells #[(.int .i64 a4), (.int .i64 a2), (.int .i64 a1), (.int .i64 a0)] 24 (0, 0)) := by rw [a8]; exact push_new a9
 refine lv rfl rfl (va rfl) (lv rfl rfl (va rfl) ?_)
 refine ln (qn (xs (xr ?_)))
 refine lv rfl rfl (vL (vs := [(.int .i64 a4), (.int .i64 a2), (.int .i64 a1), (.int .i64 a0)]) TyTA.agg24 TyTA.sz24 rfl (cc (rc a5 rfl) (cc (rc a5 rfl) (cc (rc a5 rfl) (cc (rc a5 rfl) cn))))) ?_
 replace H := H g h1 b1 (row_lt a5) b3
 refine lp rfl rfl (sc TyTA.cb31 rfl (HC.mono H ?_))
 rintro _ h2 ⟨b2, r0, r1, r2, rfl, H⟩
 replace a5 := Ext.row b2 a5
 refine lv rfl rfl (vm rfl) (lv rfl rfl (vx rfl rfl) (lv rfl rfl (vx rfl rfl) (lv rfl rfl (vx rfl rfl) (lv rfl rfl (va rfl) (lv rfl rfl (va rfl) ?_)))))
 refine lv rfl rfl (va rfl) ?_
 refine ln (qn (xs (xb (xs (xr ?_)))))
 refine lv rfl rfl (vm rfl) (lv rfl rfl (vr rfl rfl rfl) (lv rfl rfl (va rfl) ?_))
 refine ln (qn ?_)
 refine xc (b := r2 != 0) rfl (fun a7 => ?_) (fun a7 => ?_)
 ·replace H := H.1 a7
  refine xs (xr ?_)
  refine lv rfl rfl (vm rfl) (lv rfl rfl (va rfl) (lv rfl rfl (va rfl) ?_))
  refine ln (qn (xt (br (qr ?_))))
  exact endQ_ret _ (res_two Tryd.results33 (rv_tmp rfl) (rv_tmp rfl)) H
 ·replace H := H.2 a7
  refine xk (fun ρ h' => h2 = h' ∧ Has ρ [(1, (.int .i64 n)), (2, (ptr g 0)), (19, (.bool ((decide (n < 0)) || (decide (n > r1)))))]) ?_ ?_
  ·refine xr ?_
   refine lv rfl rfl (vm rfl) (lv rfl rfl (vr rfl rfl rfl) (lv rfl rfl (vm rfl) ?_))
   rcases bool_or (decide (n < 0)) with a3 | a3
   ·refine lo (wanted_n rfl rfl rfl a3) rfl ?_
    refine lo (wanted_n rfl rfl rfl a3) rfl ?_
    refine lo (wanted_n rfl rfl rfl a3) rfl ?_
    refine lv rfl rfl (v := (.bool true)) (hv_pick_t rfl a3 rfl) (lv rfl rfl (va rfl) ?_)
    refine ln (qn ?_)
    exact ⟨rfl, (hc rfl (hc rfl (hc (show ((.bool true) : Value) = (.bool ((decide (n < 0)) || (decide (n > r1)))) from (by first | rfl | ((try rw [a3]); all_goals first | rfl | (simp only [Bool.true_or, Bool.or_true, Bool.false_or, Bool.or_false, Bool.true_and, Bool.and_true, Bool.false_and, Bool.and_false, Bool.not_true, Bool.not_false, Bool.cond_true, Bool.cond_false]; done)) | simp [a3])) hn)))⟩
   ·refine ly (wanted_y rfl rfl rfl a3) rfl (HStep.of_val (v := (.int .i64 n)) (vm rfl) ?_)
    refine ly (wanted_y rfl rfl rfl a3) rfl (HStep.of_val (v := (.int .i64 r1)) (vm rfl) ?_)
    refine ly (wanted_y rfl rfl rfl a3) rfl (HStep.of_val (v := (.bool (decide (n > r1)))) (vr rfl rfl rfl) ?_)
    refine lv rfl rfl (v := (.bool (decide (n > r1)))) (hv_pick_f rfl a3 rfl) (lv rfl rfl (va rfl) ?_)
    refine ln (qn ?_)
    exact ⟨rfl, (hc rfl (hc rfl (hc (show ((.bool (decide (n > r1))) : Value) = (.bool ((decide (n < 0)) || (decide (n > r1)))) from (by first | rfl | ((try rw [a3]); all_goals first | rfl | (simp only [Bool.true_or, Bool.or_true, Bool.false_or, Bool.or_false, Bool.true_and, Bool.and_true, Bool.false_and, Bool.and_false, Bool.not_true, Bool.not_false, Bool.cond_true, Bool.cond_false]; done)) | simp [a3])) hn)))⟩
  ·rintro ρ _ ⟨rfl, hH⟩
   refine xh _ hH ?_
   refine xc (b := ((decide (n < 0)) || (decide (n > r1)))) rfl (fun a6 => ?_) (fun a6 => ?_)
   ·replace H := H.1 a6
    refine xs (xr ?_)
    refine lv rfl rfl (va rfl) (lv rfl rfl (va rfl) ?_)
    refine ln (qn (xt (br (qr ?_))))
    exact endQ_ret _ (res_two Tryd.results33 (rv_tmp rfl) (rv_tmp rfl)) H
   ·replace H := H.2 a6
    refine xi (bn (qn (xs (xr ?_))))
    refine lv rfl rfl (vm rfl) (lv rfl rfl (v := (ptr g 3)) (vf TyTA.fld24_3 (b := g) (o := 0) rfl) (lv rfl rfl (vl TyTA.agg3 rfl (rc a5 rfl)) ?_))
    obtain ⟨r, b0, H⟩ := H
    refine lv rfl rfl (hv_call TyTA.cb63 (vs := [(.int .i64 n), (.int .i64 a0)]) rfl b0) (lv rfl rfl (va rfl) (lv rfl rfl (va rfl) ?_))
    refine ln (qn (xt ?_))
    exact endQ_ret _ (res_two Tryd.results33 (rv_tmp rfl) (rv_tmp rfl)) H
theorem f59_sh (a1 : Int) (a0 : Int) (a2 : Int) (a3 : Int) (h : Heap) (R : Value → Heap → Prop)
  (H : (∃ j : Bool, (∀ (g : Nat) (h1 : Heap), Array.size h ≤ g → g < Array.size h1 → Ext h h1 → (∃ r : Bool, HC Tryd.prog 81 #[(.int .i64 a1), (.int .i64 16), (.int .i64 4096)] h1 (fun vv h' => vv = (.bool r) ∧ h' = h1) ∧ (((!r) = true → (j = (!r))) ∧ ((!r) = false → ((((decide (a0 < 1)) || (decide (a0 > 64))) = true → (j = ((decide (a0 < 1)) || (decide (a0 > 64))))) ∧ (((decide (a0 < 1)) || (decide (a0 > 64))) = false → (((decide (a2 < 2)) = true → (j = true)) ∧ ((decide (a2 < 2)) = false → (j = (decide (a2 > 256))))))))))) ∧ ((j = true → (∀ (h1 : Heap), Ext h h1 → R (.int .i64 20) h1)) ∧ (j = false → (∀ (g : Nat) (h1 : Heap), Array.size h ≤ g → g < Array.size h1 → Ext h h1 → (∃ a9 : Bool, HC Tryd.prog 81 #[(.int .i64 a3), (.int .i64 1), (.int .i64 a1)] h1 (fun vv h' => vv = (.bool a9) ∧ h' = h1) ∧ (((!a9) = true → R (.int .i64 20) h1) ∧ ((!a9) = false → ((((decide ((IntKind.i64.wrap (a1 * a0)) < 128)) || ((decide ((IntKind.i64.wrap ((IntKind.i64.wrap (a1 * a0)) * a2)) > 1048576)) || (decide ((IntKind.i64.wrap (a1 * a0)) < (IntKind.i64.wrap ((IntKind.i64.wrap ((if a3 > 32 then a3 else 32) + 24)) + 24)))))) = true → R (.int .i64 20) h1) ∧ (((decide ((IntKind.i64.wrap (a1 * a0)) < 128)) || ((decide ((IntKind.i64.wrap ((IntKind.i64.wrap (a1 * a0)) * a2)) > 1048576)) || (decide ((IntKind.i64.wrap (a1 * a0)) < (IntKind.i64.wrap ((IntKind.i64.wrap ((if a3 > 32 then a3 else 32) + 24)) + 24)))))) = false → R (.int .i64 0) h1)))))))))) :
  HC Tryd.prog 59 #[(.agg #[(.int .i64 a1), (.int .i64 a0), (.int .i64 a2), (.int .i64 a3)])] h R := by
 refine hc_of (args := [(.agg #[(.int .i64 a1), (.int .i64 a0), (.int .i64 a2), (.int .i64 a3)])]) Tryd.func59 rfl Tryd.ntmps59 (Nat.le_of_ble_eq_true rfl) ?_
 refine xs (xr ?_)
 refine lp rfl rfl (hn_box (v := (.agg #[(.int .i64 a1), (.int .i64 a0), (.int .i64 a2), (.int .i64 a3)])) rfl ?_)
 intro g h1 c0 b9
 have b6 := ext_pushed_f44_sh b9
 have b8 : Array.size h ≤ g := Nat.le_of_eq (Eq.symm c0)
 have a8 : h1[g]? = some (.cells #[(.int .i64 a1), (.int .i64 a0), (.int .i64 a2), (.int .i64 a3)] 24 (0, 0)) := by rw [b9]; exact push_new c0
 refine lv rfl rfl (va rfl) ?_
 refine ln (qn (xs (xb ?_)))
 obtain ⟨j, b7, b5⟩ := H
 refine xk (fun ρ h' => h1 = h' ∧ Has ρ [(1, (ptr g 0)), (4, (.bool j))]) ?_ ?_
 ·have H := b7; clear b7 b5
  refine xs (xr ?_)
  refine lv rfl rfl (v := (ptr g 0)) (vf TyTA.fld24_0 (b := g) (o := 0) rfl) (lv rfl rfl (vl TyTA.agg3 rfl (rc a8 rfl)) ?_)
  replace H := H g h1 b8 (row_lt a8) b6
  obtain ⟨r, c2, H⟩ := H
  refine lv rfl rfl (hv_call TyTA.cb81 (vs := [(.int .i64 a1), (.int .i64 16), (.int .i64 4096)]) rfl c2) (lv rfl rfl (v := (.bool (!r))) (hv_not (b := r) rfl) (lv rfl rfl (va rfl) ?_))
  refine ln (qn ?_)
  refine xc (b := !r) rfl (fun b4 => ?_) (fun b4 => ?_)
  ·replace H := H.1 b4
   refine xi (qn ?_)
   obtain rfl := H
   exact ⟨rfl, (hc rfl (hc rfl hn))⟩
  ·replace H := H.2 b4
   refine xk (fun ρ h' => h1 = h' ∧ Has ρ [(1, (ptr g 0)), (4, (.bool ((decide (a0 < 1)) || (decide (a0 > 64)))))]) ?_ ?_
   ·refine xr ?_
    refine lv rfl rfl (v := (ptr g 1)) (vf TyTA.fld24_1 (b := g) (o := 0) rfl) (lv rfl rfl (vl TyTA.agg3 rfl (rc a8 rfl)) (lv rfl rfl (vr rfl rfl rfl) (lv rfl rfl (vm rfl) ?_)))
    rcases bool_or (decide (a0 < 1)) with a6 | a6
    ·refine lo (wanted_n rfl rfl rfl a6) rfl ?_
     refine lo (wanted_n rfl rfl rfl a6) rfl ?_
     refine lo (wanted_n rfl rfl rfl a6) rfl ?_
     refine lv rfl rfl (v := (.bool true)) (hv_pick_t rfl a6 rfl) (lv rfl rfl (va rfl) ?_)
     refine ln (qn ?_)
     exact ⟨rfl, (hc rfl (hc (show ((.bool true) : Value) = (.bool ((decide (a0 < 1)) || (decide (a0 > 64)))) from (by first | rfl | ((try rw [a6]); all_goals first | rfl | (simp only [Bool.true_or, Bool.or_true, Bool.false_or, Bool.or_false, Bool.true_and, Bool.and_true, Bool.false_and, Bool.and_false, Bool.not_true, Bool.not_false, Bool.cond_true, Bool.cond_false]; done)) | simp [a6])) hn))⟩
    ·refine ly (wanted_y rfl rfl rfl a6) rfl (HStep.of_val (v := (ptr g 1)) (vf TyTA.fld24_1 (b := g) (o := 0) rfl) ?_)
     refine ly (wanted_y rfl rfl rfl a6) rfl (HStep.of_val (v := (.int .i64 a0)) (vl TyTA.agg3 rfl (rc a8 rfl)) ?_)
     refine ly (wanted_y rfl rfl rfl a6) rfl (HStep.of_val (v := (.bool (decide (a0 > 64)))) (vr rfl rfl rfl) ?_)
     refine lv rfl rfl (v := (.bool (decide (a0 > 64)))) (hv_pick_f rfl a6 rfl) (lv rfl rfl (va rfl) ?_)
     refine ln (qn ?_)
     exact ⟨rfl, (hc rfl (hc (show ((.bool (decide (a0 > 64))) : Value) = (.bool ((decide (a0 < 1)) || (decide (a0 > 64)))) from (by first | rfl | ((try rw [a6]); all_goals first | rfl | (simp only [Bool.true_or, Bool.or_true, Bool.false_or, Bool.or_false, Bool.true_and, Bool.and_true, Bool.false_and, Bool.and_false, Bool.not_true, Bool.not_false, Bool.cond_true, Bool.cond_false]; done)) | simp [a6])) hn))⟩
   ·rintro ρ _ ⟨rfl, hH⟩
    refine xh _ hH ?_
    refine xc (b := ((decide (a0 < 1)) || (decide (a0 > 64)))) rfl (fun b3 => ?_) (fun b3 => ?_)
    ·replace H := H.1 b3
     refine xi (qn ?_)
     obtain rfl := H
     exact ⟨rfl, (hc rfl (hc rfl hn))⟩
    ·replace H := H.2 b3
     refine xr ?_
     refine lv rfl rfl (v := (ptr g 2)) (vf TyTA.fld24_2 (b := g) (o := 0) rfl) (lv rfl rfl (vl TyTA.agg3 rfl (rc a8 rfl)) (lv rfl rfl (vr rfl rfl rfl) (lv rfl rfl (vm rfl) ?_)))
     rcases bool_or (decide (a2 < 2)) with a7 | a7
     ·replace H := H.1 a7
      refine lo (wanted_n rfl rfl rfl a7) rfl ?_
      refine lo (wanted_n rfl rfl rfl a7) rfl ?_
      refine lo (wanted_n rfl rfl rfl a7) rfl ?_
      refine lv rfl rfl (v := (.bool true)) (hv_pick_t rfl a7 rfl) (lv rfl rfl (va rfl) ?_)
      refine ln (qn ?_)
      obtain rfl := H
      exact ⟨rfl, (hc rfl (hc rfl hn))⟩
     ·replace H := H.2 a7
      refine ly (wanted_y rfl rfl rfl a7) rfl (HStep.of_val (v := (ptr g 2)) (vf TyTA.fld24_2 (b := g) (o := 0) rfl) ?_)
      refine ly (wanted_y rfl rfl rfl a7) rfl (HStep.of_val (v := (.int .i64 a2)) (vl TyTA.agg3 rfl (rc a8 rfl)) ?_)
      refine ly (wanted_y rfl rfl rfl a7) rfl (HStep.of_val (v := (.bool (decide (a2 > 256)))) (vr rfl rfl rfl) ?_)
      refine lv rfl rfl (v := (.bool (decide (a2 > 256)))) (hv_pick_f rfl a7 rfl) (lv rfl rfl (va rfl) ?_)
      refine ln (qn ?_)
      obtain rfl := H
      exact ⟨rfl, (hc rfl (hc rfl hn))⟩
 ·have H := b5; clear b7 b5
  rintro ρ _ ⟨rfl, hH⟩
  refine xh _ hH ?_
  refine xc (b := j) rfl (fun b1 => ?_) (fun b1 => ?_)
  ·replace H := H.1 b1
   refine xs (xr ?_)
   refine lv rfl rfl (va rfl) ?_
   refine ln (qn (xt (br (qr ?_))))
   replace H := H h1 b6
   exact endQ_ret _ (res_one Tryd.results59 (rv_tmp rfl)) H
  ·replace H := H.2 b1
   refine xs (xr ?_)
   refine lv rfl rfl (v := (ptr g 3)) (vf TyTA.fld24_3 (b := g) (o := 0) rfl) (lv rfl rfl (vl TyTA.agg3 rfl (rc a8 rfl)) (lv rfl rfl (v := (ptr g 0)) (vf TyTA.fld24_0 (b := g) (o := 0) rfl) (lv rfl rfl (vl TyTA.agg3 rfl (rc a8 rfl)) ?_)))
   replace H := H g h1 b8 (row_lt a8) b6
   obtain ⟨a9, c1, H⟩ := H
   refine lv rfl rfl (hv_call TyTA.cb81 (vs := [(.int .i64 a3), (.int .i64 1), (.int .i64 a1)]) rfl c1) (lv rfl rfl (v := (.bool (!a9))) (hv_not (b := a9) rfl) (lv rfl rfl (va rfl) ?_))
   refine ln (qn ?_)
   refine xc (b := !a9) rfl (fun b0 => ?_) (fun b0 => ?_)
   ·replace H := H.1 b0
    refine xs (xr ?_)
    refine lv rfl rfl (va rfl) ?_
    refine ln (qn (xt (br (qr ?_))))
    exact endQ_ret _ (res_one Tryd.results59 (rv_tmp rfl)) H
   ·replace H := H.2 b0
    refine xi (bn (qn (xs (xr ?_))))
    refine lv rfl rfl (v := (ptr g 0)) (vf TyTA.fld24_0 (b := g) (o := 0) rfl) (lv rfl rfl (vl TyTA.agg3 rfl (rc a8 rfl)) (lv rfl rfl (v := (ptr g 1)) (vf TyTA.fld24_1 (b := g) (o := 0) rfl) (lv rfl rfl (vl TyTA.agg3 rfl (rc a8 rfl)) (lv rfl rfl (vr rfl rfl rfl) (lv rfl rfl (va rfl) ?_)))))
    refine ln (qn (xs ?_))
    refine xk (fun ρ h' => h1 = h' ∧ Has ρ [(54, (.bool ((decide ((IntKind.i64.wrap (a1 * a0)) < 128)) || ((decide ((IntKind.i64.wrap ((IntKind.i64.wrap (a1 * a0)) * a2)) > 1048576)) || (decide ((IntKind.i64.wrap (a1 * a0)) < (IntKind.i64.wrap ((IntKind.i64.wrap ((if a3 > 32 then a3 else 32) + 24)) + 24))))))))]) ?_ ?_
    ·refine xr ?_
     refine lv rfl rfl (vm rfl) (lv rfl rfl (vr rfl rfl rfl) (lv rfl rfl (vm rfl) ?_))
     rcases bool_or (decide ((IntKind.i64.wrap (a1 * a0)) < 128)) with a5 | a5
     ·refine lo (wanted_n rfl rfl rfl a5) rfl ?_
      refine lo (wanted_n rfl rfl rfl a5) rfl ?_
      refine lo (wanted_n rfl rfl rfl a5) rfl ?_
      refine lo (wanted_n rfl rfl rfl a5) rfl ?_
      refine lo (wanted_n rfl rfl rfl a5) rfl ?_
      refine lv rfl rfl (v := (.bool true)) (hv_pick_t rfl a5 rfl) (lv rfl rfl (vm rfl) ?_)
      refine lo (wanted_n rfl rfl (c := true) rfl rfl) rfl ?_
      refine lo (wanted_n rfl rfl (c := true) rfl rfl) rfl ?_
      refine lo (wanted_n rfl rfl (c := true) rfl rfl) rfl ?_
      refine lo (wanted_n rfl rfl (c := true) rfl rfl) rfl ?_
      refine lo (wanted_n rfl rfl (c := true) rfl rfl) rfl ?_
      refine lo (wanted_n rfl rfl (c := true) rfl rfl) rfl ?_
      refine lo (wanted_n rfl rfl (c := true) rfl rfl) rfl ?_
      refine lv rfl rfl (v := (.bool true)) (hv_pick (t := true) rfl rfl) ?_
      refine ln (qn ?_)
      exact ⟨rfl, (hc (show ((.bool true) : Value) = (.bool ((decide ((IntKind.i64.wrap (a1 * a0)) < 128)) || ((decide ((IntKind.i64.wrap ((IntKind.i64.wrap (a1 * a0)) * a2)) > 1048576)) || (decide ((IntKind.i64.wrap (a1 * a0)) < (IntKind.i64.wrap ((IntKind.i64.wrap ((if a3 > 32 then a3 else 32) + 24)) + 24))))))) from (by first | rfl | ((try rw [a5]); all_goals first | rfl | (simp only [Bool.true_or, Bool.or_true, Bool.false_or, Bool.or_false, Bool.true_and, Bool.and_true, Bool.false_and, Bool.and_false, Bool.not_true, Bool.not_false, Bool.cond_true, Bool.cond_false]; done)) | simp [a5])) hn)⟩
     ·refine ly (wanted_y rfl rfl rfl a5) rfl (HStep.of_val (v := (.int .i64 (IntKind.i64.wrap (a1 * a0)))) (vm rfl) ?_)
      refine ly (wanted_y rfl rfl rfl a5) rfl (HStep.of_val (v := (ptr g 2)) (vf TyTA.fld24_2 (b := g) (o := 0) rfl) ?_)
      refine ly (wanted_y rfl rfl rfl a5) rfl (HStep.of_val (v := (.int .i64 a2)) (vl TyTA.agg3 rfl (rc a8 rfl)) ?_)
      refine ly (wanted_y rfl rfl rfl a5) rfl (HStep.of_val (v := (.int .i64 (IntKind.i64.wrap ((IntKind.i64.wrap (a1 * a0)) * a2)))) (vr rfl rfl rfl) ?_)
      refine ly (wanted_y rfl rfl rfl a5) rfl (HStep.of_val (v := (.bool (decide ((IntKind.i64.wrap ((IntKind.i64.wrap (a1 * a0)) * a2)) > 1048576)))) (vr rfl rfl rfl) ?_)
      refine lv rfl rfl (v := (.bool (decide ((IntKind.i64.wrap ((IntKind.i64.wrap (a1 * a0)) * a2)) > 1048576)))) (hv_pick_f rfl a5 rfl) (lv rfl rfl (vm rfl) ?_)
      rcases bool_or (decide ((IntKind.i64.wrap ((IntKind.i64.wrap (a1 * a0)) * a2)) > 1048576)) with a4 | a4
      ·refine lo (wanted_n rfl rfl rfl a4) rfl ?_
       refine lo (wanted_n rfl rfl rfl a4) rfl ?_
       refine lo (wanted_n rfl rfl rfl a4) rfl ?_
       refine lo (wanted_n rfl rfl rfl a4) rfl ?_
       refine lo (wanted_n rfl rfl rfl a4) rfl ?_
       refine lo (wanted_n rfl rfl rfl a4) rfl ?_
       refine lo (wanted_n rfl rfl rfl a4) rfl ?_
       refine lv rfl rfl (v := (.bool true)) (hv_pick_t rfl a4 rfl) ?_
       refine ln (qn ?_)
       exact ⟨rfl, (hc (show ((.bool true) : Value) = (.bool ((decide ((IntKind.i64.wrap (a1 * a0)) < 128)) || ((decide ((IntKind.i64.wrap ((IntKind.i64.wrap (a1 * a0)) * a2)) > 1048576)) || (decide ((IntKind.i64.wrap (a1 * a0)) < (IntKind.i64.wrap ((IntKind.i64.wrap ((if a3 > 32 then a3 else 32) + 24)) + 24))))))) from (by first | rfl | ((try rw [a5]); (try rw [a4]); all_goals first | rfl | (simp only [Bool.true_or, Bool.or_true, Bool.false_or, Bool.or_false, Bool.true_and, Bool.and_true, Bool.false_and, Bool.and_false, Bool.not_true, Bool.not_false, Bool.cond_true, Bool.cond_false]; done)) | simp [a5, a4])) hn)⟩
      ·refine ly (wanted_y rfl rfl rfl a4) rfl (HStep.of_val (v := (.int .i64 (IntKind.i64.wrap (a1 * a0)))) (vm rfl) ?_)
       refine ly (wanted_y rfl rfl rfl a4) rfl (HStep.of_val (v := (ptr g 3)) (vf TyTA.fld24_3 (b := g) (o := 0) rfl) ?_)
       refine ly (wanted_y rfl rfl rfl a4) rfl (HStep.of_val (v := (.int .i64 a3)) (vl TyTA.agg3 rfl (rc a8 rfl)) ?_)
       refine ly (wanted_y rfl rfl rfl a4) rfl (HStep.of_val (v := (.int .i64 (if a3 > 32 then a3 else 32))) (hv_max rfl rfl) ?_)
       refine ly (wanted_y rfl rfl rfl a4) rfl (HStep.of_val (v := (.int .i64 (IntKind.i64.wrap ((if a3 > 32 then a3 else 32) + 24)))) (vr rfl rfl rfl) ?_)
       refine ly (wanted_y rfl rfl rfl a4) rfl (HStep.of_val (v := (.int .i64 (IntKind.i64.wrap ((IntKind.i64.wrap ((if a3 > 32 then a3 else 32) + 24)) + 24)))) (vr rfl rfl rfl) ?_)
       refine ly (wanted_y rfl rfl rfl a4) rfl (HStep.of_val (v := (.bool (decide ((IntKind.i64.wrap (a1 * a0)) < (IntKind.i64.wrap ((IntKind.i64.wrap ((if a3 > 32 then a3 else 32) + 24)) + 24)))))) (vr rfl rfl rfl) ?_)
       refine lv rfl rfl (v := (.bool (decide ((IntKind.i64.wrap (a1 * a0)) < (IntKind.i64.wrap ((IntKind.i64.wrap ((if a3 > 32 then a3 else 32) + 24)) + 24)))))) (hv_pick_f rfl a4 rfl) ?_
       refine ln (qn ?_)
       exact ⟨rfl, (hc (show ((.bool (decide ((IntKind.i64.wrap (a1 * a0)) < (IntKind.i64.wrap ((IntKind.i64.wrap ((if a3 > 32 then a3 else 32) + 24)) + 24))))) : Value) = (.bool ((decide ((IntKind.i64.wrap (a1 * a0)) < 128)) || ((decide ((IntKind.i64.wrap ((IntKind.i64.wrap (a1 * a0)) * a2)) > 1048576)) || (decide ((IntKind.i64.wrap (a1 * a0)) < (IntKind.i64.wrap ((IntKind.i64.wrap ((if a3 > 32 then a3 else 32) + 24)) + 24))))))) from (by first | rfl | ((try rw [a5]); (try rw [a4]); all_goals first | rfl | (simp only [Bool.true_or, Bool.or_true, Bool.false_or, Bool.or_false, Bool.true_and, Bool.and_true, Bool.false_and, Bool.and_false, Bool.not_true, Bool.not_false, Bool.cond_true, Bool.cond_false]; done)) | simp [a5, a4])) hn)⟩
    ·rintro ρ _ ⟨rfl, hH⟩
     refine xh _ hH ?_
     refine xc (b := ((decide ((IntKind.i64.wrap (a1 * a0)) < 128)) || ((decide ((IntKind.i64.wrap ((IntKind.i64.wrap (a1 * a0)) * a2)) > 1048576)) || (decide ((IntKind.i64.wrap (a1 * a0)) < (IntKind.i64.wrap ((IntKind.i64.wrap ((if a3 > 32 then a3 else 32) + 24)) + 24))))))) rfl (fun b2 => ?_) (fun b2 => ?_)
     ·replace H := H.1 b2
      refine xs (xr ?_)
      refine lv rfl rfl (va rfl) ?_
      refine ln (qn (xt (qr ?_)))
      exact endQ_ret _ (res_one Tryd.results59 (rv_tmp rfl)) H
     ·replace H := H.2 b2
      refine xi (qn (xs (xr ?_)))
      refine lv rfl rfl (va rfl) ?_
      refine ln (qn (xt ?_))
      exact endQ_ret _ (res_one Tryd.results59 (rv_tmp rfl)) H
theorem f63_sh (n : Int) (a0 : Int) (h : Heap) (R : Value → Heap → Prop)
  (H : R (.int .i64 (ibandNot .i64 (IntKind.i64.wrap ((IntKind.i64.wrap (n + a0)) - 1)) (IntKind.i64.wrap (a0 - 1)))) h) :
  HC Tryd.prog 63 #[(.int .i64 n), (.int .i64 a0)] h R := by
 refine hc_of (args := [(.int .i64 n), (.int .i64 a0)]) Tryd.func63 rfl Tryd.ntmps63 (Nat.le_of_ble_eq_true rfl) ?_
 refine xs (xr ?_)
 refine lv rfl rfl (va rfl) ?_
 refine ln (qn (xs (xr ?_)))
 refine lv rfl rfl (vm rfl) (lv rfl rfl (vm rfl) (lv rfl rfl (vr rfl rfl rfl) (lv rfl rfl (vr rfl rfl rfl) (lv rfl rfl (vm rfl) (lv rfl rfl (vr rfl rfl rfl) ?_)))))
 refine lv rfl rfl (v := (.int .i64 (ibandNot .i64 (IntKind.i64.wrap ((IntKind.i64.wrap (n + a0)) - 1)) (IntKind.i64.wrap (a0 - 1))))) (hv_bits rfl rfl rfl) (lv rfl rfl (va rfl) ?_)
 refine ln (qn (xt ?_))
 exact endQ_ret _ (res_one Tryd.results63 (rv_tmp rfl)) H
theorem f81_sh (n : Int) (a3 : Int) (a1 : Int) (h : Heap) (R : Value → Heap → Prop)
  (H : R (.bool ((decide (n ≥ a3)) && ((decide (n ≤ a1)) && ((iband .i64 n (IntKind.i64.wrap (n - 1))) == 0)))) h) :
  HC Tryd.prog 81 #[(.int .i64 n), (.int .i64 a3), (.int .i64 a1)] h R := by
 refine hc_of (args := [(.int .i64 n), (.int .i64 a3), (.int .i64 a1)]) Tryd.func81 rfl Tryd.ntmps81 (Nat.le_of_ble_eq_true rfl) ?_
 refine xs (xr ?_)
 refine lv rfl rfl (va rfl) ?_
 refine ln (qn ?_)
 refine xk (fun ρ h' => h = h' ∧ Has ρ [(6, (.bool ((decide (n ≥ a3)) && ((decide (n ≤ a1)) && ((iband .i64 n (IntKind.i64.wrap (n - 1))) == 0)))))]) ?_ ?_
 ·refine xr ?_
  refine lv rfl rfl (vm rfl) (lv rfl rfl (vm rfl) (lv rfl rfl (vr rfl rfl rfl) (lv rfl rfl (vm rfl) ?_)))
  rcases bool_or (decide (n ≥ a3)) with a2 | a2
  ·refine ly (wanted_y rfl rfl rfl a2) rfl (HStep.of_val (v := (.int .i64 n)) (vm rfl) ?_)
   refine ly (wanted_y rfl rfl rfl a2) rfl (HStep.of_val (v := (.int .i64 a1)) (vm rfl) ?_)
   refine ly (wanted_y rfl rfl rfl a2) rfl (HStep.of_val (v := (.bool (decide (n ≤ a1)))) (vr rfl rfl rfl) ?_)
   refine lv rfl rfl (v := (.bool (decide (n ≤ a1)))) (hv_pick_t rfl a2 rfl) (lv rfl rfl (vm rfl) ?_)
   rcases bool_or (decide (n ≤ a1)) with a0 | a0
   ·refine ly (wanted_y rfl rfl rfl a0) rfl (HStep.of_val (v := (.int .i64 n)) (vm rfl) ?_)
    refine ly (wanted_y rfl rfl rfl a0) rfl (HStep.of_val (v := (.int .i64 n)) (vm rfl) ?_)
    refine ly (wanted_y rfl rfl rfl a0) rfl (HStep.of_val (v := (.int .i64 (IntKind.i64.wrap (n - 1)))) (vr rfl rfl rfl) ?_)
    refine ly (wanted_y rfl rfl rfl a0) rfl (HStep.of_val (v := (.int .i64 (iband .i64 n (IntKind.i64.wrap (n - 1))))) (hv_bits rfl rfl rfl) ?_)
    refine ly (wanted_y rfl rfl rfl a0) rfl (HStep.of_val (v := (.bool ((iband .i64 n (IntKind.i64.wrap (n - 1))) == 0))) (vr rfl rfl rfl) ?_)
    refine lv rfl rfl (v := (.bool ((iband .i64 n (IntKind.i64.wrap (n - 1))) == 0))) (hv_pick_t rfl a0 rfl) (lv rfl rfl (va rfl) ?_)
    refine ln (qn ?_)
    exact ⟨rfl, (hc (show ((.bool ((iband .i64 n (IntKind.i64.wrap (n - 1))) == 0)) : Value) = (.bool ((decide (n ≥ a3)) && ((decide (n ≤ a1)) && ((iband .i64 n (IntKind.i64.wrap (n - 1))) == 0)))) from (by first | rfl | ((try rw [a2]); (try rw [a0]); all_goals first | rfl | (simp only [Bool.true_or, Bool.or_true, Bool.false_or, Bool.or_false, Bool.true_and, Bool.and_true, Bool.false_and, Bool.and_false, Bool.not_true, Bool.not_false, Bool.cond_true, Bool.cond_false]; done)) | simp [a2, a0])) hn)⟩
   ·refine lo (wanted_n rfl rfl rfl a0) rfl ?_
    refine lo (wanted_n rfl rfl rfl a0) rfl ?_
    refine lo (wanted_n rfl rfl rfl a0) rfl ?_
    refine lo (wanted_n rfl rfl rfl a0) rfl ?_
    refine lo (wanted_n rfl rfl rfl a0) rfl ?_
    refine lv rfl rfl (v := (.bool false)) (hv_pick_f rfl a0 rfl) (lv rfl rfl (va rfl) ?_)
    refine ln (qn ?_)
    exact ⟨rfl, (hc (show ((.bool false) : Value) = (.bool ((decide (n ≥ a3)) && ((decide (n ≤ a1)) && ((iband .i64 n (IntKind.i64.wrap (n - 1))) == 0)))) from (by first | rfl | ((try rw [a2]); (try rw [a0]); all_goals first | rfl | (simp only [Bool.true_or, Bool.or_true, Bool.false_or, Bool.or_false, Bool.true_and, Bool.and_true, Bool.false_and, Bool.and_false, Bool.not_true, Bool.not_false, Bool.cond_true, Bool.cond_false]; done)) | simp [a2, a0])) hn)⟩
  ·refine lo (wanted_n rfl rfl rfl a2) rfl ?_
   refine lo (wanted_n rfl rfl rfl a2) rfl ?_
   refine lo (wanted_n rfl rfl rfl a2) rfl ?_
   refine lv rfl rfl (v := (.bool false)) (hv_pick_f rfl a2 rfl) (lv rfl rfl (vm rfl) ?_)
   refine lo (wanted_n rfl rfl (c := false) rfl rfl) rfl ?_
   refine lo (wanted_n rfl rfl (c := false) rfl rfl) rfl ?_
   refine lo (wanted_n rfl rfl (c := false) rfl rfl) rfl ?_
   refine lo (wanted_n rfl rfl (c := false) rfl rfl) rfl ?_
   refine lo (wanted_n rfl rfl (c := false) rfl rfl) rfl ?_
   refine lv rfl rfl (v := (.bool false)) (hv_pick (t := false) rfl rfl) (lv rfl rfl (va rfl) ?_)
   refine ln (qn ?_)
   exact ⟨rfl, (hc (show ((.bool false) : Value) = (.bool ((decide (n ≥ a3)) && ((decide (n ≤ a1)) && ((iband .i64 n (IntKind.i64.wrap (n - 1))) == 0)))) from (by first | rfl | ((try rw [a2]); all_goals first | rfl | (simp only [Bool.true_or, Bool.or_true, Bool.false_or, Bool.or_false, Bool.true_and, Bool.and_true, Bool.false_and, Bool.and_false, Bool.not_true, Bool.not_false, Bool.cond_true, Bool.cond_false]; done)) | simp [a2])) hn)⟩
 ·rintro ρ _ ⟨rfl, hH⟩
  refine xh _ hH ?_
  refine xt ?_
  exact endQ_ret _ (res_one Tryd.results81 (rv_tmp rfl)) H
theorem f30_sh  (h : Heap) (R : Value → Heap → Prop)
  (H : (∀ (h2 : Heap), Ext h h2 → R (.agg #[(.int .i64 64), (.int .i64 4), (.int .i64 3), (.int .i64 8)]) h2)) :
  HC Tryd.prog 30 #[] h R := by
 refine hc_of (args := []) Tryd.func30 rfl Tryd.ntmps30 (Nat.le_of_ble_eq_true rfl) ?_
 refine xs (xr ?_)
 refine lp rfl rfl (hn_alloc TyTA.z24 ?_)
 intro pb h1 a1 a2
 have a5 := ext_pushed_f44_sh a2
 have a6 : Array.size h ≤ pb := Nat.le_of_eq (Eq.symm a1)
 have a3 : h1[pb]? = some (.cells #[(.int .i64 0), (.int .i64 0), (.int .i64 0), (.int .i64 0)] 24 (0, 0)) := by rw [a2]; exact push_new a1
 refine ln (qn (xs (xr ?_)))
 refine lv rfl rfl (v := (.agg #[(.int .i64 64), (.int .i64 4), (.int .i64 3), (.int .i64 8)])) (vb (vs := [(0, (.int .i64 64)), (1, (.int .i64 4)), (2, (.int .i64 3)), (3, (.int .i64 8))]) (cs := #[(.int .i64 64), (.int .i64 4), (.int .i64 3), (.int .i64 8)]) TyTA.z24 TyTA.pl24 rfl (by kernel_rfl)) ?_
 refine lp rfl rfl (hn_stores (vs := [(.int .i64 64), (.int .i64 4), (.int .i64 3), (.int .i64 8)]) rfl rfl TyTA.sz24 rfl (HWs_row a3 (by simp)) ?_)
 intro h2 a4
 have a0 : h2[pb]? = some (.cells #[(.int .i64 64), (.int .i64 4), (.int .i64 3), (.int .i64 8)] 24 (0, 0)) := row_hsets_eq a4 a3 rfl
 have a7 := ext_hsets a4 a5 a6
 refine ln (qn (xt ?_))
 replace H := H h2 a7
 exact endQ_ret _ (res_one Tryd.results30 (rv_cell (vs := [(.int .i64 64), (.int .i64 4), (.int .i64 3), (.int .i64 8)]) TyTA.agg24 TyTA.sz24 rfl (cc (rc a0 rfl) (cc (rc a0 rfl) (cc (rc a0 rfl) (cc (rc a0 rfl) cn)))))) H
theorem f36_sh (a0 : Int) (h : Heap) (R : Value → Heap → Prop)
  (H : R (.int .u32 (IntKind.u32.wrap a0)) h) :
  HC Tryd.prog 36 #[(.int .u64 a0)] h R := by
 refine hc_of (args := [(.int .u64 a0)]) Tryd.func36 rfl Tryd.ntmps36 (Nat.le_of_ble_eq_true rfl) ?_
 refine xs (xr ?_)
 refine lv rfl rfl (va rfl) ?_
 refine ln (qn (xs (xr ?_)))
 refine lv rfl rfl (vm rfl) (lv rfl rfl (v := (.int .u32 (IntKind.u32.wrap a0))) (hv_convInt TyTA.u29 TyTA.u86 rfl) (lv rfl rfl (va rfl) ?_))
 refine ln (qn (xt ?_))
 exact endQ_ret _ (res_one Tryd.results36 (rv_tmp rfl)) H
theorem f40_sh (a0 : Int) (h : Heap) (R : Value → Heap → Prop)
  (H : R (.int .u32 (IntKind.u32.wrap (Int.tmod a0 4294967296))) h) :
  HC Tryd.prog 40 #[(.int .u64 a0)] h R := by
 refine hc_of (args := [(.int .u64 a0)]) Tryd.func40 rfl Tryd.ntmps40 (Nat.le_of_ble_eq_true rfl) ?_
 refine xs (xr ?_)
 refine lv rfl rfl (va rfl) ?_
 refine ln (qn (xs (xr ?_)))
 refine lv rfl rfl (vm rfl) (lv rfl rfl (v := (.int .u64 (Int.tmod a0 4294967296))) (hv_rem rfl rfl (by decide)) (lv rfl rfl (v := (.int .u32 (IntKind.u32.wrap (Int.tmod a0 4294967296)))) (hv_convInt TyTA.u29 TyTA.u86 rfl) (lv rfl rfl (va rfl) ?_)))
 refine ln (qn (xt ?_))
 exact endQ_ret _ (res_one Tryd.results40 (rv_tmp rfl)) H
theorem f42_sh (n : Int) (h : Heap) (R : Value → Heap → Prop)
  (H : (∃ (I1 : Int → Int → Prop) (a1 : Int → Int → Nat), I1 n 0 ∧ (∀ (a0 : Int) (k : Int), I1 a0 k → (((decide (a0 > 1)) = true → (I1 (IntKind.i64.wrap (Int.tdiv a0 2)) (IntKind.i64.wrap (k + 1)) ∧ a1 (IntKind.i64.wrap (Int.tdiv a0 2)) (IntKind.i64.wrap (k + 1)) < a1 a0 k)) ∧ ((decide (a0 > 1)) = false → R (.int .u8 (IntKind.u8.wrap k)) h))))) :
  HC Tryd.prog 42 #[(.int .i64 n)] h R := by
 refine hc_of (args := [(.int .i64 n)]) Tryd.func42 rfl Tryd.ntmps42 (Nat.le_of_ble_eq_true rfl) ?_
 refine xs (xr ?_)
 refine lv rfl rfl (va rfl) ?_
 refine ln (qn (xs (xr ?_)))
 refine lv rfl rfl (va rfl) ?_
 refine ln (qn (xs (xb ?_)))
 obtain ⟨I1, a1, a5, a3⟩ := H
 refine xl (σ := Int × Int) (fun s => [(0, (.int .i64 s.1)), (3, (.int .i64 s.2))]) (fun s h' => I1 s.1 s.2 ∧ h = h') (fun s _ => a1 s.1 s.2) (n, 0) ⟨a5, rfl⟩ (hc rfl (hc rfl hn)) ?_
 rintro ⟨a0, k⟩ ρ _ ⟨a4, rfl⟩
 have H := a3 a0 k a4
 refine xs (xs (xr ?_))
 refine lv rfl rfl (vm rfl) (lv rfl rfl (vr rfl rfl rfl) ?_)
 refine ln (qn ?_)
 refine xc (b := decide (a0 > 1)) rfl (fun a2 => ?_) (fun a2 => ?_)
 ·replace H := H.1 a2
  refine xi (qn (xb (xs (xr ?_))))
  refine lv rfl rfl (vm rfl) (lv rfl rfl (v := (.int .i64 (IntKind.i64.wrap (Int.tdiv a0 2)))) (hv_quo rfl rfl (by decide)) (lv rfl rfl (va rfl) ?_))
  refine ln (qn (xr ?_))
  refine lv rfl rfl (vm rfl) (lv rfl rfl (vr rfl rfl rfl) (lv rfl rfl (va rfl) ?_))
  refine ln (bn (qn ?_))
  exact ⟨(IntKind.i64.wrap (Int.tdiv a0 2), IntKind.i64.wrap (k + 1)), ⟨⟨H.1, rfl⟩, H.2⟩, (hc rfl (hc rfl hn))⟩
 ·replace H := H.2 a2
  refine xe (qe (qe (bh (qn (xs (xr ?_))))))
  refine lv rfl rfl (vm rfl) (lv rfl rfl (v := (.int .u8 (IntKind.u8.wrap k))) (hv_convInt TyTA.u3 TyTA.u5 rfl) (lv rfl rfl (va rfl) ?_))
  refine ln (qn (xt ?_))
  exact endQ_ret _ (res_one Tryd.results42 (rv_tmp rfl)) H
theorem f69_sh (b : Option Addr) (a2 : Nat) (a5 : Nat) (a0 : Int) (n : Int) (h : Heap) (R : Value → Heap → Prop)
  (H : (∃ (I1 : Int → Int → Prop) (a4 : Int → Int → Nat), I1 0 (IntKind.i64.wrap (n - 1)) ∧ (∀ (x : Int) (i : Int), I1 x i → (((decide (i ≥ 0)) = true → (∃ a6 a3 : Nat, b = some ⟨a6, a3, none⟩ ∧ (0 : Int) ≤ IntKind.i64.wrap (a0 + i) ∧ IntKind.i64.wrap (a0 + i) < (a2 : Int) ∧ (∃ a1 : Int, hcell h a6 (a3 + (Int.toNat (IntKind.i64.wrap (a0 + i))) * 1) = some (.int .u8 a1) ∧ (I1 (IntKind.u64.wrap ((IntKind.u64.wrap (x * 256)) + (IntKind.u64.wrap a1))) (IntKind.i64.wrap (i - 1)) ∧ a4 (IntKind.u64.wrap ((IntKind.u64.wrap (x * 256)) + (IntKind.u64.wrap a1))) (IntKind.i64.wrap (i - 1)) < a4 x i)))) ∧ ((decide (i ≥ 0)) = false → R (.int .u64 x) h))))) :
  HC Tryd.prog 69 #[(.slice b a2 a5), (.int .i64 a0), (.int .i64 n)] h R := by
 refine hc_of (args := [(.slice b a2 a5), (.int .i64 a0), (.int .i64 n)]) Tryd.func69 rfl Tryd.ntmps69 (Nat.le_of_ble_eq_true rfl) ?_
 refine xs (xr ?_)
 refine lv rfl rfl (va rfl) ?_
 refine ln (qn (xs (xr ?_)))
 refine lv rfl rfl (va rfl) ?_
 refine ln (qn (xs (xs (xr ?_))))
 refine lv rfl rfl (vm rfl) (lv rfl rfl (vr rfl rfl rfl) (lv rfl rfl (va rfl) ?_))
 refine ln (qn (xb ?_))
 obtain ⟨I1, a4, b0, b2⟩ := H
 refine xl (σ := Int × Int) (fun s => [(0, (.slice b a2 a5)), (1, (.int .i64 a0)), (7, (.int .u64 s.1)), (8, (.int .i64 s.2))]) (fun s h' => I1 s.1 s.2 ∧ h = h') (fun s _ => a4 s.1 s.2) (0, IntKind.i64.wrap (n - 1)) ⟨b0, rfl⟩ (hc rfl (hc rfl (hc rfl (hc rfl hn)))) ?_
 rintro ⟨x, i⟩ ρ _ ⟨b3, rfl⟩
 have H := b2 x i b3
 refine xs (xs (xr ?_))
 refine lv rfl rfl (vm rfl) (lv rfl rfl (vr rfl rfl rfl) ?_)
 refine ln (qn ?_)
 refine xc (b := decide (i ≥ 0)) rfl (fun a7 => ?_) (fun a7 => ?_)
 ·replace H := H.1 a7
  refine xi (qn (xs (xb (xr ?_))))
  refine lv rfl rfl (vm rfl) (lv rfl rfl (vr rfl rfl rfl) (lv rfl rfl (vm rfl) (lv rfl rfl (vm rfl) (lv rfl rfl (vm rfl) (lv rfl rfl (vr rfl rfl rfl) ?_)))))
  obtain ⟨a6, a3, b1, a8, a9, Hq⟩ := H
  subst b1
  have H := Hq; clear Hq
  refine lv rfl rfl (v := (ptr a6 (a3 + (Int.toNat (IntKind.i64.wrap (a0 + i))) * 1))) (vi TyTA.el25 rfl rfl a8 a9) ?_
  obtain ⟨a1, b4, H⟩ := H
  refine lv rfl rfl (vl TyTA.agg5 rfl b4) (lv rfl rfl (v := (.int .u64 (IntKind.u64.wrap a1))) (hv_convInt TyTA.u5 TyTA.u29 rfl) (lv rfl rfl (vr rfl rfl rfl) (lv rfl rfl (va rfl) ?_)))
  refine ln (bn (qn (xr ?_)))
  refine lv rfl rfl (vm rfl) (lv rfl rfl (vr rfl rfl rfl) (lv rfl rfl (va rfl) ?_))
  refine ln (qn ?_)
  exact ⟨(IntKind.u64.wrap ((IntKind.u64.wrap (x * 256)) + (IntKind.u64.wrap a1)), IntKind.i64.wrap (i - 1)), ⟨⟨H.1, rfl⟩, H.2⟩, (hc rfl (hc rfl (hc rfl (hc rfl hn))))⟩
 ·replace H := H.2 a7
  refine xe (qe (qe (bh (qn (xs (xr ?_))))))
  refine lv rfl rfl (vm rfl) (lv rfl rfl (va rfl) ?_)
  refine ln (qn (xt ?_))
  exact endQ_ret _ (res_one Tryd.results69 (rv_tmp rfl)) H
theorem f60_sh (b : Option Addr) (a0 : Nat) (a3 : Nat) (h : Heap) (R : Value → Heap → Prop)
  (H : (∃ (I1 : Int → Int → Prop) (a2 : Int → Int → Nat), I1 0 0 ∧ (∀ (n : Int) (v : Int), I1 n v → (((decide (v < (a0 : Int))) = true → (∃ a4 a1 : Nat, b = some ⟨a4, a1, none⟩ ∧ (0 : Int) ≤ v ∧ v < (a0 : Int) ∧ (∃ x : Int, hcell h a4 (a1 + (Int.toNat v) * 1) = some (.int .u8 x) ∧ ((0 : Int) ≤ IntKind.i64.wrap (8 * v) ∧ (I1 (ibor .u64 n (IntKind.u64.wrap ((IntKind.u64.wrap x) * 2 ^ min (Int.toNat (IntKind.i64.wrap (8 * v))) 64))) (IntKind.i64.wrap (v + 1)) ∧ a2 (ibor .u64 n (IntKind.u64.wrap ((IntKind.u64.wrap x) * 2 ^ min (Int.toNat (IntKind.i64.wrap (8 * v))) 64))) (IntKind.i64.wrap (v + 1)) < a2 n v))))) ∧ ((decide (v < (a0 : Int))) = false → R (.int .u64 n) h))))) :
  HC Tryd.prog 60 #[(.slice b a0 a3)] h R := by
 refine hc_of (args := [(.slice b a0 a3)]) Tryd.func60 rfl Tryd.ntmps60 (Nat.le_of_ble_eq_true rfl) ?_
 refine xs (xr ?_)
 refine lv rfl rfl (va rfl) ?_
 refine ln (qn (xs (xr ?_)))
 refine lv rfl rfl (va rfl) ?_
 refine ln (qn (xs (xs (xr ?_))))
 refine lv rfl rfl (vm rfl) (lv rfl rfl (v := (.int .i64 (a0 : Int))) (hv_len (n := a0) TyTA.u25 rfl) (lv rfl rfl (vm rfl) ?_))
 refine ln (qn (xb ?_))
 obtain ⟨I1, a2, a9, b1⟩ := H
 refine xl (σ := Int × Int) (fun s => [(3, (.int .u64 s.1)), (6, (.slice b a0 a3)), (7, (.int .i64 (a0 : Int))), (8, (.int .i64 s.2))]) (fun s h' => I1 s.1 s.2 ∧ h = h') (fun s _ => a2 s.1 s.2) (0, 0) ⟨a9, rfl⟩ (hc rfl (hc rfl (hc rfl (hc rfl hn)))) ?_
 rintro ⟨n, v⟩ ρ _ ⟨b2, rfl⟩
 have H := b1 n v b2
 refine xs (xr ?_)
 refine lv rfl rfl (vr rfl rfl rfl) ?_
 refine ln (qn (xs ?_))
 refine xc (b := decide (v < (a0 : Int))) rfl (fun a5 => ?_) (fun a5 => ?_)
 ·replace H := H.1 a5
  refine xi (qn (xs (xb (xs (xr ?_)))))
  refine lv rfl rfl (vm rfl) ?_
  obtain ⟨a4, a1, b0, a7, a8, Hq⟩ := H
  subst b0
  have H := Hq; clear Hq
  refine lv rfl rfl (v := (ptr a4 (a1 + (Int.toNat v) * 1))) (vi TyTA.el25 rfl rfl a7 a8) ?_
  obtain ⟨x, b3, H⟩ := H
  refine lv rfl rfl (vl TyTA.agg5 rfl b3) (lv rfl rfl (va rfl) (lv rfl rfl (va rfl) ?_))
  refine ln (qn (xr ?_))
  refine lv rfl rfl (vm rfl) (lv rfl rfl (vm rfl) (lv rfl rfl (v := (.int .u64 (IntKind.u64.wrap x))) (hv_convInt TyTA.u5 TyTA.u29 rfl) (lv rfl rfl (vm rfl) (lv rfl rfl (vr rfl rfl rfl) ?_))))
  obtain ⟨a6, H⟩ := H
  refine lv rfl rfl (v := (.int .u64 (IntKind.u64.wrap ((IntKind.u64.wrap x) * 2 ^ min (Int.toNat (IntKind.i64.wrap (8 * v))) 64)))) (hv_shift rfl rfl a6 rfl) (lv rfl rfl (v := (.int .u64 (ibor .u64 n (IntKind.u64.wrap ((IntKind.u64.wrap x) * 2 ^ min (Int.toNat (IntKind.i64.wrap (8 * v))) 64))))) (hv_bits rfl rfl rfl) (lv rfl rfl (va rfl) ?_))
  refine ln (bn (qn (xr ?_)))
  refine lv rfl rfl (vr rfl rfl rfl) (lv rfl rfl (vm rfl) ?_)
  refine ln (qn ?_)
  exact ⟨(ibor .u64 n (IntKind.u64.wrap ((IntKind.u64.wrap x) * 2 ^ min (Int.toNat (IntKind.i64.wrap (8 * v))) 64)), IntKind.i64.wrap (v + 1)), ⟨⟨H.1, rfl⟩, H.2⟩, (hc rfl (hc rfl (hc rfl (hc rfl hn))))⟩
 ·replace H := H.2 a5
  refine xe (qe (qe (bh (qn (xs (xr ?_))))))
  refine lv rfl rfl (vm rfl) (lv rfl rfl (va rfl) ?_)
  refine ln (qn (xt ?_))
  exact endQ_ret _ (res_one Tryd.results60 (rv_tmp rfl)) H
theorem f66_sh (i : Int) (a2 : Nat) (a1 : Nat) (h : Heap) (R : Value → Heap → Prop)
  (H : (∃ x : Option Addr, ∃ a3 a0 : Nat, hcell h a2 a1 = some (.slice x a3 a0) ∧ (0 ≤ (IntKind.i64.wrap (4 * i) : Int) ∧ IntKind.i64.wrap (4 * i) ≤ IntKind.i64.wrap ((IntKind.i64.wrap (4 * i)) + 4) ∧ IntKind.i64.wrap ((IntKind.i64.wrap (4 * i)) + 4) ≤ (a0 : Int) ∧ ∀ sl : Option Addr, sl = slA x (Int.toNat (IntKind.i64.wrap (4 * i))) 1 a0 → (∃ r : Int, HC Tryd.prog 60 #[(.slice sl (Int.toNat (IntKind.i64.wrap ((IntKind.i64.wrap (4 * i)) + 4)) - Int.toNat (IntKind.i64.wrap (4 * i))) (a0 - Int.toNat (IntKind.i64.wrap (4 * i))))] h (fun vv h' => vv = (.int .u64 r) ∧ h' = h) ∧ R (.int .u64 r) h)))) :
  HC Tryd.prog 66 #[(.int .i64 i), (ptr a2 a1)] h R := by
 refine hc_of (args := [(.int .i64 i), (ptr a2 a1)]) Tryd.func66 rfl Tryd.ntmps66 (Nat.le_of_ble_eq_true rfl) ?_
 refine xs (xr ?_)
 refine lv rfl rfl (va rfl) ?_
 refine ln (qn (xs (xr ?_)))
 obtain ⟨x, a3, a0, a8, H⟩ := H
 refine lv rfl rfl (vl TyTA.agg25 rfl a8) (lv rfl rfl (vm rfl) (lv rfl rfl (vr rfl rfl rfl) (lv rfl rfl (vm rfl) (lv rfl rfl (vr rfl rfl rfl) (lv rfl rfl (vr rfl rfl rfl) ?_)))))
 obtain ⟨a5, a7, a4, H⟩ := H
 obtain ⟨sl, hq5⟩ : ∃ q, q = slA x (Int.toNat (IntKind.i64.wrap (4 * i))) 1 a0 := ⟨_, rfl⟩
 replace H := H sl hq5
 refine lv rfl rfl (v := (.slice sl (Int.toNat (IntKind.i64.wrap ((IntKind.i64.wrap (4 * i)) + 4)) - Int.toNat (IntKind.i64.wrap (4 * i))) (a0 - Int.toNat (IntKind.i64.wrap (4 * i))))) (hv_slice (l := IntKind.i64.wrap (4 * i)) (r := IntKind.i64.wrap ((IntKind.i64.wrap (4 * i)) + 4)) TyTA.u25 TyTA.sz5 rfl (sl_some rfl) (sh_some rfl) a5 a7 a4 hq5) ?_
 obtain ⟨r, a6, H⟩ := H
 refine lv rfl rfl (hv_call TyTA.cb60 (vs := [(.slice sl (Int.toNat (IntKind.i64.wrap ((IntKind.i64.wrap (4 * i)) + 4)) - Int.toNat (IntKind.i64.wrap (4 * i))) (a0 - Int.toNat (IntKind.i64.wrap (4 * i))))]) rfl a6) (lv rfl rfl (va rfl) ?_)
 refine ln (qn (xt ?_))
 exact endQ_ret _ (res_one Tryd.results66 (rv_tmp rfl)) H
theorem f103_sh (n : Int) (h : Heap) (R : Value → Heap → Prop)
  (H : (∃ r : Int, HC Tryd.prog 104 #[(.int .u64 (IntKind.u64.wrap n))] h (fun vv h' => vv = (.int .i64 r) ∧ h' = h) ∧ R (.int .u8 (IntKind.u8.wrap r)) h)) :
  HC Tryd.prog 103 #[(.int .i64 n)] h R := by
 refine hc_of (args := [(.int .i64 n)]) Tryd.func103 rfl Tryd.ntmps103 (Nat.le_of_ble_eq_true rfl) ?_
 refine xs (xr ?_)
 refine lv rfl rfl (va rfl) ?_
 refine ln (qn (xs (xr ?_)))
 refine lv rfl rfl (vm rfl) (lv rfl rfl (v := (.int .u64 (IntKind.u64.wrap n))) (hv_convInt TyTA.u3 TyTA.u122 rfl) ?_)
 obtain ⟨r, a0, H⟩ := H
 refine lv rfl rfl (hv_call TyTA.cb104 (vs := [(.int .u64 (IntKind.u64.wrap n))]) rfl a0) (lv rfl rfl (v := (.int .u8 (IntKind.u8.wrap r))) (hv_convInt TyTA.u3 TyTA.u5 rfl) (lv rfl rfl (va rfl) ?_))
 refine ln (qn (xt ?_))
 exact endQ_ret _ (res_one Tryd.results103 (rv_tmp rfl)) H
theorem f104_sh (x : Int) (h : Heap) (R : Value → Heap → Prop)
  (H : (∃ r : Int, HC Tryd.prog 114 #[(.int .u64 x)] h (fun vv h' => vv = (.int .i64 r) ∧ h' = h) ∧ R (.int .i64 r) h)) :
  HC Tryd.prog 104 #[(.int .u64 x)] h R := by
 refine hc_of (args := [(.int .u64 x)]) Tryd.func104 rfl Tryd.ntmps104 (Nat.le_of_ble_eq_true rfl) ?_
 refine xs (xr ?_)
 refine lv rfl rfl (va rfl) ?_
 refine ln (qn (xs ?_))
 refine xc (b := false) rfl (fun hb => by cases hb) (fun _ => ?_)
 refine xi (qn (xs (xr ?_)))
 refine lv rfl rfl (vm rfl) ?_
 obtain ⟨r, a0, H⟩ := H
 refine lv rfl rfl (hv_call TyTA.cb114 (vs := [(.int .u64 x)]) rfl a0) (lv rfl rfl (va rfl) ?_)
 refine ln (qn (xt ?_))
 exact endQ_ret _ (res_one Tryd.results104 (rv_tmp rfl)) H
theorem f114_sh (x : Int) (h : Heap) (R : Value → Heap → Prop)
  (H : (((x == 0) = true → R (.int .i64 64) h) ∧ ((x == 0) = false → ((0 : Int) ≤ Int.fdiv (IntKind.u64.wrap ((iband .u64 x (IntKind.u64.wrap (0 - x))) * 285870213051353865)) (2 ^ min (Int.toNat 58) 64) ∧ Int.fdiv (IntKind.u64.wrap ((iband .u64 x (IntKind.u64.wrap (0 - x))) * 285870213051353865)) (2 ^ min (Int.toNat 58) 64) < 64 ∧ (∃ a0 : Int, hcell h 2 (0 + (Int.toNat (Int.fdiv (IntKind.u64.wrap ((iband .u64 x (IntKind.u64.wrap (0 - x))) * 285870213051353865)) (2 ^ min (Int.toNat 58) 64))) * 1) = some (.int .u8 a0) ∧ R (.int .i64 (IntKind.i64.wrap a0)) h))))) :
  HC Tryd.prog 114 #[(.int .u64 x)] h R := by
 refine hc_of (args := [(.int .u64 x)]) Tryd.func114 rfl Tryd.ntmps114 (Nat.le_of_ble_eq_true rfl) ?_
 refine xs (xr ?_)
 refine lv rfl rfl (va rfl) ?_
 refine ln (qn (xs (xs (xr ?_))))
 refine lv rfl rfl (vm rfl) (lv rfl rfl (vr rfl rfl rfl) ?_)
 refine ln (qn ?_)
 refine xc (b := x == 0) rfl (fun a1 => ?_) (fun a1 => ?_)
 ·replace H := H.1 a1
  refine xs (xr ?_)
  refine lv rfl rfl (va rfl) ?_
  refine ln (qn (xt (qr ?_)))
  exact endQ_ret _ (res_one Tryd.results114 (rv_tmp rfl)) H
 ·replace H := H.2 a1
  refine xi (qn (xs (xr ?_)))
  refine lv rfl rfl (vm rfl) (lv rfl rfl (vm rfl) (lv rfl rfl (v := (.int .u64 (IntKind.u64.wrap (0 - x)))) (hv_neg rfl) (lv rfl rfl (v := (.int .u64 (iband .u64 x (IntKind.u64.wrap (0 - x))))) (hv_bits rfl rfl rfl) (lv rfl rfl (vr rfl rfl rfl) (lv rfl rfl (v := (.int .u64 (Int.fdiv (IntKind.u64.wrap ((iband .u64 x (IntKind.u64.wrap (0 - x))) * 285870213051353865)) (2 ^ min (Int.toNat 58) 64)))) (hv_shift rfl rfl (by decide) rfl) ?_)))))
  obtain ⟨a4, a3, H⟩ := H
  refine lv rfl rfl (v := (ptr 2 (0 + (Int.toNat (Int.fdiv (IntKind.u64.wrap ((iband .u64 x (IntKind.u64.wrap (0 - x))) * 285870213051353865)) (2 ^ min (Int.toNat 58) 64))) * 1))) (hv_indexA TyTA.ea152 (b := 2) (o := 0) rfl rfl a4 a3) ?_
  obtain ⟨a0, a2, H⟩ := H
  refine lv rfl rfl (vl TyTA.agg5 rfl a2) (lv rfl rfl (v := (.int .i64 (IntKind.i64.wrap a0))) (hv_convInt TyTA.u5 TyTA.u3 rfl) (lv rfl rfl (va rfl) ?_))
  refine ln (qn (xt ?_))
  exact endQ_ret _ (res_one Tryd.results114 (rv_tmp rfl)) H
theorem f106_sh (x : Int) (n : Int) (h : Heap) (R : Value → Heap → Prop)
  (H : (∃ (I1 : Int → Int → Prop) (a3 : Int → Int → Nat), I1 x 0 ∧ (∀ (a0 : Int) (v : Int), I1 a0 v → (((decide (v < n)) = true → (∀ a2 : Int, a2 = (bif (iband .u32 a0 1) == 1 then ibxor .u32 (Int.fdiv a0 (2 ^ min (Int.toNat 1) 32)) 2197175160 else Int.fdiv a0 (2 ^ min (Int.toNat 1) 32)) → (I1 a2 (IntKind.i64.wrap (v + 1)) ∧ a3 a2 (IntKind.i64.wrap (v + 1)) < a3 a0 v))) ∧ ((decide (v < n)) = false → R (.int .u32 a0) h))))) :
  HC Tryd.prog 106 #[(.int .u32 x), (.int .i64 n)] h R := by
 refine hc_of (args := [(.int .u32 x), (.int .i64 n)]) Tryd.func106 rfl Tryd.ntmps106 (Nat.le_of_ble_eq_true rfl) ?_
 refine xs (xr ?_)
 refine lv rfl rfl (va rfl) ?_
 refine ln (qn (xs (xs (xr ?_))))
 refine lv rfl rfl (vm rfl) (lv rfl rfl (vm rfl) ?_)
 refine ln (qn (xb ?_))
 obtain ⟨I1, a3, a7, a5⟩ := H
 refine xl (σ := Int × Int) (fun s => [(0, (.int .u32 s.1)), (6, (.int .i64 n)), (7, (.int .i64 s.2))]) (fun s h' => I1 s.1 s.2 ∧ h = h') (fun s _ => a3 s.1 s.2) (x, 0) ⟨a7, rfl⟩ (hc rfl (hc rfl (hc rfl hn))) ?_
 rintro ⟨a0, v⟩ ρ _ ⟨a6, rfl⟩
 have H := a5 a0 v a6
 refine xs (xr ?_)
 refine lv rfl rfl (vr rfl rfl rfl) ?_
 refine ln (qn (xs ?_))
 refine xc (b := decide (v < n)) rfl (fun a4 => ?_) (fun a4 => ?_)
 ·replace H := H.1 a4
  refine xi (qn ?_)
  obtain ⟨a2, hq9⟩ : ∃ q : Int, q = (bif (iband .u32 a0 1) == 1 then ibxor .u32 (Int.fdiv a0 (2 ^ min (Int.toNat 1) 32)) 2197175160 else Int.fdiv a0 (2 ^ min (Int.toNat 1) 32)) := ⟨_, rfl⟩
  replace H := H a2 hq9
  refine xk (fun ρ h' => h = h' ∧ Has ρ [(0, (.int .u32 a2)), (6, (.int .i64 n)), (7, (.int .i64 v))]) ?_ ?_
  ·refine xb (xs (xr ?_))
   refine lv rfl rfl (vm rfl) (lv rfl rfl (v := (.int .u32 (iband .u32 a0 1))) (hv_bits rfl rfl rfl) (lv rfl rfl (va rfl) ?_))
   refine ln (qn (xs (xr ?_)))
   refine lv rfl rfl (vm rfl) (lv rfl rfl (v := (.int .u32 (Int.fdiv a0 (2 ^ min (Int.toNat 1) 32)))) (hv_shift rfl rfl (by decide) rfl) (lv rfl rfl (va rfl) ?_))
   refine ln (qn (xs (xr ?_)))
   refine lv rfl rfl (vm rfl) (lv rfl rfl (vr rfl rfl rfl) ?_)
   refine ln (qn ?_)
   refine xc (b := (iband .u32 a0 1) == 1) rfl (fun a1 => ?_) (fun a1 => ?_)
   ·refine xr ?_
    refine lv rfl rfl (vm rfl) (lv rfl rfl (v := (.int .u32 (ibxor .u32 (Int.fdiv a0 (2 ^ min (Int.toNat 1) 32)) 2197175160))) (hv_bits rfl rfl rfl) (lv rfl rfl (va rfl) ?_))
    refine ln (bn (qn ?_))
    exact ⟨rfl, (hc (show ((.int .u32 (ibxor .u32 (Int.fdiv a0 (2 ^ min (Int.toNat 1) 32)) 2197175160)) : Value) = (.int .u32 a2) from (by first | rfl | ((try rw [a1]); (try rw [hq9]); (try rw [a1]); all_goals first | rfl | (simp only [Bool.true_or, Bool.or_true, Bool.false_or, Bool.or_false, Bool.true_and, Bool.and_true, Bool.false_and, Bool.and_false, Bool.not_true, Bool.not_false, Bool.cond_true, Bool.cond_false]; done)) | simp [a1, hq9, a1])) (hc rfl (hc rfl hn)))⟩
   ·refine xi (bn (qn ?_))
    exact ⟨rfl, (hc (show ((.int .u32 (Int.fdiv a0 (2 ^ min (Int.toNat 1) 32))) : Value) = (.int .u32 a2) from (by first | rfl | ((try rw [a1]); (try rw [hq9]); (try rw [a1]); all_goals first | rfl | (simp only [Bool.true_or, Bool.or_true, Bool.false_or, Bool.or_false, Bool.true_and, Bool.and_true, Bool.false_and, Bool.and_false, Bool.not_true, Bool.not_false, Bool.cond_true, Bool.cond_false]; done)) | simp [a1, hq9, a1])) (hc rfl (hc rfl hn)))⟩
  ·rintro ρ _ ⟨rfl, hH⟩
   refine xh _ hH ?_
   refine xr ?_
   refine lv rfl rfl (vr rfl rfl rfl) (lv rfl rfl (vm rfl) ?_)
   refine ln (qn ?_)
   exact ⟨(a2, IntKind.i64.wrap (v + 1)), ⟨⟨H.1, rfl⟩, H.2⟩, (hc rfl (hc rfl (hc rfl hn)))⟩
 ·replace H := H.2 a4
  refine xe (qe (qe (bh (qn (xs (xr ?_))))))
  refine lv rfl rfl (vm rfl) (lv rfl rfl (va rfl) ?_)
  refine ln (qn (xt ?_))
  exact endQ_ret _ (res_one Tryd.results106 (rv_tmp rfl)) H
theorem f87_sh (a2 : Int) (b : Option Addr) (a0 : Nat) (a4 : Nat) (h : Heap) (R : Value → Heap → Prop)
  (H : (∃ (I1 : Int → Int → Prop) (a5 : Int → Int → Nat), I1 (ibxor .u32 4294967295 a2) 0 ∧ (∀ (x : Int) (v : Int), I1 x v → (((decide (v < (a0 : Int))) = true → (∃ a6 a3 : Nat, b = some ⟨a6, a3, none⟩ ∧ (0 : Int) ≤ v ∧ v < (a0 : Int) ∧ (∃ a1 : Int, hcell h a6 (a3 + (Int.toNat v) * 1) = some (.int .u8 a1) ∧ (∃ r : Int, HC Tryd.prog 106 #[(.int .u32 (ibxor .u32 x (IntKind.u32.wrap a1))), (.int .i64 8)] h (fun vv h' => vv = (.int .u32 r) ∧ h' = h) ∧ (I1 r (IntKind.i64.wrap (v + 1)) ∧ a5 r (IntKind.i64.wrap (v + 1)) < a5 x v))))) ∧ ((decide (v < (a0 : Int))) = false → R (.int .u32 (ibxor .u32 4294967295 x)) h))))) :
  HC Tryd.prog 87 #[(.int .u32 a2), (.slice b a0 a4)] h R := by
 refine hc_of (args := [(.int .u32 a2), (.slice b a0 a4)]) Tryd.func87 rfl Tryd.ntmps87 (Nat.le_of_ble_eq_true rfl) ?_
 refine xs (xr ?_)
 refine lv rfl rfl (va rfl) ?_
 refine ln (qn (xs (xr ?_)))
 refine lv rfl rfl (vm rfl) (lv rfl rfl (v := (.int .u32 (ibxor .u32 4294967295 a2))) (hv_unXor rfl rfl) (lv rfl rfl (va rfl) ?_))
 refine ln (qn (xs (xs (xr ?_))))
 refine lv rfl rfl (vm rfl) (lv rfl rfl (v := (.int .i64 (a0 : Int))) (hv_len (n := a0) TyTA.u25 rfl) (lv rfl rfl (vm rfl) ?_))
 refine ln (qn (xb ?_))
 obtain ⟨I1, a5, b1, b3⟩ := H
 refine xl (σ := Int × Int) (fun s => [(5, (.int .u32 s.1)), (10, (.slice b a0 a4)), (11, (.int .i64 (a0 : Int))), (12, (.int .i64 s.2))]) (fun s h' => I1 s.1 s.2 ∧ h = h') (fun s _ => a5 s.1 s.2) (ibxor .u32 4294967295 a2, 0) ⟨b1, rfl⟩ (hc rfl (hc rfl (hc rfl (hc rfl hn)))) ?_
 rintro ⟨x, v⟩ ρ _ ⟨b4, rfl⟩
 have H := b3 x v b4
 refine xs (xr ?_)
 refine lv rfl rfl (vr rfl rfl rfl) ?_
 refine ln (qn (xs ?_))
 refine xc (b := decide (v < (a0 : Int))) rfl (fun a7 => ?_) (fun a7 => ?_)
 ·replace H := H.1 a7
  refine xi (qn (xs (xb (xs (xr ?_)))))
  obtain ⟨a6, a3, b2, a9, b0, Hq⟩ := H
  subst b2
  have H := Hq; clear Hq
  refine lv rfl rfl (v := (ptr a6 (a3 + (Int.toNat v) * 1))) (vi TyTA.el25 rfl rfl a9 b0) ?_
  obtain ⟨a1, b5, H⟩ := H
  refine lv rfl rfl (vl TyTA.agg5 rfl b5) (lv rfl rfl (va rfl) ?_)
  refine ln (qn (xs (xr ?_)))
  refine lv rfl rfl (vm rfl) (lv rfl rfl (vm rfl) (lv rfl rfl (v := (.int .u32 (IntKind.u32.wrap a1))) (hv_convInt TyTA.u5 TyTA.u86 rfl) (lv rfl rfl (v := (.int .u32 (ibxor .u32 x (IntKind.u32.wrap a1)))) (hv_bits rfl rfl rfl) (lv rfl rfl (va rfl) ?_))))
  refine ln (qn (xr ?_))
  refine lv rfl rfl (vm rfl) ?_
  obtain ⟨r, a8, H⟩ := H
  refine lv rfl rfl (hv_call TyTA.cb106 (vs := [(.int .u32 (ibxor .u32 x (IntKind.u32.wrap a1))), (.int .i64 8)]) rfl a8) (lv rfl rfl (va rfl) ?_)
  refine ln (bn (qn (xr ?_)))
  refine lv rfl rfl (vr rfl rfl rfl) (lv rfl rfl (vm rfl) ?_)
  refine ln (qn ?_)
  exact ⟨(r, IntKind.i64.wrap (v + 1)), ⟨⟨H.1, rfl⟩, H.2⟩, (hc rfl (hc rfl (hc rfl (hc rfl hn))))⟩
 ·replace H := H.2 a7
  refine xe (qe (qe (bh (qn (xs (xr ?_))))))
  refine lv rfl rfl (vm rfl) (lv rfl rfl (v := (.int .u32 (ibxor .u32 4294967295 x))) (hv_unXor rfl rfl) (lv rfl rfl (va rfl) ?_))
  refine ln (qn (xt ?_))
  exact endQ_ret _ (res_one Tryd.results87 (rv_tmp rfl)) H
theorem f68_sh (b : Option Addr) (a1 : Nat) (a0 : Nat) (h : Heap) (R : Value → Heap → Prop)
  (H : (∃ r : Int, HC Tryd.prog 87 #[(.int .u32 0), (.slice b a1 a0)] h (fun vv h' => vv = (.int .u32 r) ∧ h' = h) ∧ R (.int .u32 r) h)) :
  HC Tryd.prog 68 #[(.slice b a1 a0)] h R := by
 refine hc_of (args := [(.slice b a1 a0)]) Tryd.func68 rfl Tryd.ntmps68 (Nat.le_of_ble_eq_true rfl) ?_
 refine xs (xr ?_)
 refine lv rfl rfl (va rfl) ?_
 refine ln (qn (xs (xr ?_)))
 refine lv rfl rfl (vm rfl) ?_
 obtain ⟨r, a2, H⟩ := H
 refine lv rfl rfl (hv_call TyTA.cb87 (vs := [(.int .u32 0), (.slice b a1 a0)]) rfl a2) (lv rfl rfl (va rfl) ?_)
 refine ln (qn (xt ?_))
 exact endQ_ret _ (res_one Tryd.results68 (rv_tmp rfl)) H
theorem f72_sh (a4 : Int) (b : Option Addr) (a1 : Nat) (a5 : Nat) (h : Heap) (R : Value → Heap → Prop)
  (H : (∃ (I1 : Int → Int → Prop) (b1 : Int → Int → Nat), I1 (ibxor .u32 4294967295 a4) 0 ∧ (∀ (sv : Int) (i : Int), I1 sv i → (((decide (i < (a1 : Int))) = true → (∃ a6 a7 : Nat, b = some ⟨a6, a7, none⟩ ∧ (0 : Int) ≤ i ∧ i < (a1 : Int) ∧ (∃ x : Int, hcell h a6 (a7 + (Int.toNat i) * 1) = some (.int .u8 x) ∧ (∃ (a9 : Int → Int → Prop) (a8 : Int → Int → Nat), a9 (ibxor .u32 sv (IntKind.u32.wrap x)) 0 ∧ (∀ (a0 : Int) (k : Int), a9 a0 k → (((decide (k < 8)) = true → (∀ a3 : Int, a3 = (bif (Int.tmod a0 2) == 1 then ibxor .u32 (IntKind.u32.wrap (Int.tdiv a0 2)) 2197175160 else IntKind.u32.wrap (Int.tdiv a0 2)) → (a9 a3 (IntKind.i64.wrap (k + 1)) ∧ a8 a3 (IntKind.i64.wrap (k + 1)) < a8 a0 k))) ∧ ((decide (k < 8)) = false → (I1 a0 (IntKind.i64.wrap (i + 1)) ∧ b1 a0 (IntKind.i64.wrap (i + 1)) < b1 sv i)))))))) ∧ ((decide (i < (a1 : Int))) = false → R (.int .u32 (ibxor .u32 4294967295 sv)) h))))) :
  HC Tryd.prog 72 #[(.int .u32 a4), (.slice b a1 a5)] h R := by
 refine hc_of (args := [(.int .u32 a4), (.slice b a1 a5)]) Tryd.func72 rfl Tryd.ntmps72 (Nat.le_of_ble_eq_true rfl) ?_
 refine xs (xr ?_)
 refine lv rfl rfl (va rfl) ?_
 refine ln (qn (xs (xr ?_)))
 refine lv rfl rfl (vm rfl) (lv rfl rfl (v := (.int .u32 (ibxor .u32 4294967295 a4))) (hv_unXor rfl rfl) (lv rfl rfl (va rfl) ?_))
 refine ln (qn (xs (xs (xr ?_))))
 refine lv rfl rfl (va rfl) ?_
 refine ln (qn (xb ?_))
 obtain ⟨I1, b1, b8, c0⟩ := H
 refine xl (σ := Int × Int) (fun s => [(1, (.slice b a1 a5)), (5, (.int .u32 s.1)), (6, (.int .i64 s.2))]) (fun s h' => I1 s.1 s.2 ∧ h = h') (fun s _ => b1 s.1 s.2) (ibxor .u32 4294967295 a4, 0) ⟨b8, rfl⟩ (hc rfl (hc rfl (hc rfl hn))) ?_
 rintro ⟨sv, i⟩ ρ _ ⟨c1, rfl⟩
 have H := c0 sv i c1
 refine xs (xs (xr ?_))
 refine lv rfl rfl (vm rfl) (lv rfl rfl (vm rfl) (lv rfl rfl (v := (.int .i64 (a1 : Int))) (hv_len (n := a1) TyTA.u25 rfl) (lv rfl rfl (vr rfl rfl rfl) ?_)))
 refine ln (qn ?_)
 refine xc (b := decide (i < (a1 : Int))) rfl (fun b2 => ?_) (fun b2 => ?_)
 ·replace H := H.1 b2
  refine xi (qn (xs (xb (xs (xr ?_)))))
  refine lv rfl rfl (vm rfl) (lv rfl rfl (vm rfl) (lv rfl rfl (vm rfl) ?_))
  obtain ⟨a6, a7, b9, b6, b7, Hq⟩ := H
  subst b9
  have H := Hq; clear Hq
  refine lv rfl rfl (v := (ptr a6 (a7 + (Int.toNat i) * 1))) (vi TyTA.el25 rfl rfl b6 b7) ?_
  obtain ⟨x, c2, H⟩ := H
  refine lv rfl rfl (vl TyTA.agg5 rfl c2) (lv rfl rfl (v := (.int .u32 (IntKind.u32.wrap x))) (hv_convInt TyTA.u5 TyTA.u86 rfl) (lv rfl rfl (v := (.int .u32 (ibxor .u32 sv (IntKind.u32.wrap x)))) (hv_bits rfl rfl rfl) (lv rfl rfl (va rfl) ?_)))
  refine ln (qn (xs (xr ?_)))
  refine lv rfl rfl (va rfl) ?_
  refine ln (qn (xb ?_))
  obtain ⟨a9, a8, b4, b3⟩ := H
  refine xl (σ := Int × Int) (fun s => [(1, (.slice (some ⟨a6, a7, none⟩) a1 a5)), (5, (.int .u32 s.1)), (6, (.int .i64 i)), (7, (.int .i64 s.2))]) (fun s h' => a9 s.1 s.2 ∧ h = h') (fun s _ => a8 s.1 s.2) (ibxor .u32 sv (IntKind.u32.wrap x), 0) ⟨b4, rfl⟩ (hc rfl (hc rfl (hc rfl (hc rfl hn)))) ?_
  rintro ⟨a0, k⟩ ρ _ ⟨b5, rfl⟩
  have H := b3 a0 k b5
  refine xs (xs (xr ?_))
  refine lv rfl rfl (vm rfl) (lv rfl rfl (vr rfl rfl rfl) ?_)
  refine ln (qn ?_)
  refine xc (b := decide (k < 8)) rfl (fun b0 => ?_) (fun b0 => ?_)
  ·replace H := H.1 b0
   refine xi (qn ?_)
   obtain ⟨a3, hq18⟩ : ∃ q : Int, q = (bif (Int.tmod a0 2) == 1 then ibxor .u32 (IntKind.u32.wrap (Int.tdiv a0 2)) 2197175160 else IntKind.u32.wrap (Int.tdiv a0 2)) := ⟨_, rfl⟩
   replace H := H a3 hq18
   refine xk (fun ρ h' => h = h' ∧ Has ρ [(1, (.slice (some ⟨a6, a7, none⟩) a1 a5)), (5, (.int .u32 a3)), (6, (.int .i64 i)), (7, (.int .i64 k))]) ?_ ?_
   ·refine xb (xs (xr ?_))
    refine lv rfl rfl (vm rfl) (lv rfl rfl (v := (.int .u32 (Int.tmod a0 2))) (hv_rem rfl rfl (by decide)) (lv rfl rfl (vr rfl rfl rfl) ?_))
    refine ln (qn ?_)
    refine xc (b := (Int.tmod a0 2) == 1) rfl (fun a2 => ?_) (fun a2 => ?_)
    ·refine xr ?_
     refine lv rfl rfl (vm rfl) (lv rfl rfl (v := (.int .u32 (IntKind.u32.wrap (Int.tdiv a0 2)))) (hv_quo rfl rfl (by decide)) (lv rfl rfl (v := (.int .u32 (ibxor .u32 (IntKind.u32.wrap (Int.tdiv a0 2)) 2197175160))) (hv_bits rfl rfl rfl) (lv rfl rfl (va rfl) ?_)))
     refine ln (bn (qn ?_))
     exact ⟨rfl, (hc rfl (hc (show ((.int .u32 (ibxor .u32 (IntKind.u32.wrap (Int.tdiv a0 2)) 2197175160)) : Value) = (.int .u32 a3) from (by first | rfl | ((try rw [a2]); (try rw [hq18]); (try rw [a2]); all_goals first | rfl | (simp only [Bool.true_or, Bool.or_true, Bool.false_or, Bool.or_false, Bool.true_and, Bool.and_true, Bool.false_and, Bool.and_false, Bool.not_true, Bool.not_false, Bool.cond_true, Bool.cond_false]; done)) | simp [a2, hq18, a2])) (hc rfl (hc rfl hn))))⟩
    ·refine xr ?_
     refine lv rfl rfl (vm rfl) (lv rfl rfl (v := (.int .u32 (IntKind.u32.wrap (Int.tdiv a0 2)))) (hv_quo rfl rfl (by decide)) (lv rfl rfl (va rfl) ?_))
     refine ln (bn (qn ?_))
     exact ⟨rfl, (hc rfl (hc (show ((.int .u32 (IntKind.u32.wrap (Int.tdiv a0 2))) : Value) = (.int .u32 a3) from (by first | rfl | ((try rw [a2]); (try rw [hq18]); (try rw [a2]); all_goals first | rfl | (simp only [Bool.true_or, Bool.or_true, Bool.false_or, Bool.or_false, Bool.true_and, Bool.and_true, Bool.false_and, Bool.and_false, Bool.not_true, Bool.not_false, Bool.cond_true, Bool.cond_false]; done)) | simp [a2, hq18, a2])) (hc rfl (hc rfl hn))))⟩
   ·rintro ρ _ ⟨rfl, hH⟩
    refine xh _ hH ?_
    refine xr ?_
    refine lv rfl rfl (vm rfl) (lv rfl rfl (vr rfl rfl rfl) (lv rfl rfl (va rfl) ?_))
    refine ln (qn ?_)
    exact ⟨(a3, IntKind.i64.wrap (k + 1)), ⟨⟨H.1, rfl⟩, H.2⟩, (hc rfl (hc rfl (hc rfl (hc rfl hn))))⟩
  ·replace H := H.2 b0
   refine xe (qe (qe (bh (bn (qn (xr ?_))))))
   refine lv rfl rfl (vm rfl) (lv rfl rfl (vr rfl rfl rfl) (lv rfl rfl (va rfl) ?_))
   refine ln (qn ?_)
   exact ⟨(a0, IntKind.i64.wrap (i + 1)), ⟨⟨H.1, rfl⟩, H.2⟩, (hc rfl (hc rfl (hc rfl hn)))⟩
 ·replace H := H.2 b2
  refine xe (qe (qe (bh (qn (xs (xr ?_))))))
  refine lv rfl rfl (vm rfl) (lv rfl rfl (v := (.int .u32 (ibxor .u32 4294967295 sv))) (hv_unXor rfl rfl) (lv rfl rfl (va rfl) ?_))
  refine ln (qn (xt ?_))
  exact endQ_ret _ (res_one Tryd.results72 (rv_tmp rfl)) H
theorem f44_sh (b : Option Addr) (a1 : Nat) (a0 : Nat) (h : Heap) (R : Value → Heap → Prop)
  (H : (∃ r : Int, HC Tryd.prog 72 #[(.int .u32 0), (.slice b a1 a0)] h (fun vv h' => vv = (.int .u32 r) ∧ h' = h) ∧ R (.int .u32 r) h)) :
  HC Tryd.prog 44 #[(.slice b a1 a0)] h R := by
 refine hc_of (args := [(.slice b a1 a0)]) Tryd.func44 rfl Tryd.ntmps44 (Nat.le_of_ble_eq_true rfl) ?_
 refine xs (xr ?_)
 refine lv rfl rfl (va rfl) ?_
 refine ln (qn (xs (xr ?_)))
 refine lv rfl rfl (vm rfl) ?_
 obtain ⟨r, a2, H⟩ := H
 refine lv rfl rfl (hv_call TyTA.cb72 (vs := [(.int .u32 0), (.slice b a1 a0)]) rfl a2) (lv rfl rfl (va rfl) ?_)
 refine ln (qn (xt ?_))
 exact endQ_ret _ (res_one Tryd.results44 (rv_tmp rfl)) H
end Go.Proofs.YthjehlocmikchaaDoor
