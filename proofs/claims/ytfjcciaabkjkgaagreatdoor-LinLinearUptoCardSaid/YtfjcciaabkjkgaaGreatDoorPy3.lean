import Derived.Shelf.SlSortCmp.NoneTotal
import Derived.Shelf.SlSortCmp.QuietGrown
import Derived.Deep.LoopGhost
import Derived.Deep.Draws
import Derived.Lib.Walk
import Derived.Test.YtfjcciaabkjkgaaGreatDoorProg
import Derived.Test.YtfjcciaabkjkgaaGreatDoorPy1
import Derived.Test.YtfjcciaabkjkgaaGreatDoorPy2
namespace Go.Proofs.YtfjcciaabkjkgaaGreatDoor
open Go
open Go.Proofs.YtfjcciaabkjkgaaGreatDoor renaming hl_val → lv, hl_step → lp, hl_nil → ln, hl_yes → ly, hl_no → lo, hx_seq → xs, hx_region → xr, hx_cond → xc, hx_block → xb, hx_loopT → xl, hx_cut → xk, hx_has → xh, hx_skip → xi, hx_ret → xt, hx_exit → xe, seqQ_n → qn, seqQ_ret → qr, seqQ_exit → qe, blockQ_n → bn, blockQ_ret → br, blockQ_here → bh, hv_move → vm, hv_assign → va, hv_arith → vr, hv_load → vl, hv_loads → vL, hv_field → vf, hv_build → vb, hv_index → vi, hp_pure → pp, hp_read → pr, hp_no → pn, has_cons → hc, has_nil → hn, hcells_cons → cc, hcells_nil → cn, rowcell → rc, hs_call → sc
set_option maxRecDepth 100000
set_option maxHeartbeats 4000000
theorem TyShC.agg3 : aggB Tryz.prog 3 = some false := by kernel_rfl
theorem TyShC.agg4 : aggB Tryz.prog 4 = some false := by kernel_rfl
theorem TyShC.agg40 : aggB Tryz.prog 40 = some true := by kernel_rfl
theorem TyShC.agg9 : aggB Tryz.prog 9 = some false := by kernel_rfl
theorem TyShC.agg95 : aggB Tryz.prog 95 = some true := by kernel_rfl
theorem TyShC.cb107 : CallB Tryz.prog 107 := fun _ _ => Tryz.call107 _ _
theorem TyShC.cb123 : CallB Tryz.prog 123 := fun _ _ => Tryz.call123 _ _
theorem TyShC.cb46 : CallB Tryz.prog 46 := fun _ _ => Tryz.call46 _ _
theorem TyShC.cb58 : CallB Tryz.prog 58 := fun _ _ => Tryz.call58 _ _
theorem TyShC.cb59 : CallB Tryz.prog 59 := fun _ _ => Tryz.call59 _ _
theorem TyShC.cb61 : CallB Tryz.prog 61 := fun _ _ => Tryz.call61 _ _
theorem TyShC.el69 : elB Tryz.prog 69 = some 2 := by kernel_rfl
theorem TyShC.fld40_0 : fldB Tryz.prog 40 0 = some 0 := by kernel_rfl
theorem TyShC.fld40_1 : fldB Tryz.prog 40 1 = some 1 := by kernel_rfl
theorem TyShC.fld40_2 : fldB Tryz.prog 40 2 = some 2 := by kernel_rfl
theorem TyShC.fld40_4 : fldB Tryz.prog 40 4 = some 4 := by kernel_rfl
theorem TyShC.fld40_6 : fldB Tryz.prog 40 6 = some 6 := by kernel_rfl
theorem TyShC.fld40_7 : fldB Tryz.prog 40 7 = some 7 := by kernel_rfl
theorem TyShC.fld95_0 : fldB Tryz.prog 95 0 = some 0 := by kernel_rfl
theorem TyShC.fld95_1 : fldB Tryz.prog 95 1 = some 1 := by kernel_rfl
theorem TyShC.mixed : Tryz.prog.follows .mixedOrders = true := by kernel_rfl
theorem TyShC.pl95 : plB Tryz.prog 95 = some [(0, 1), (1, 1)] := by kernel_rfl
theorem TyShC.se95 : seB Tryz.prog 95 = some [(4, 0), (9, 1)] := by kernel_rfl
theorem TyShC.sz40 : szB Tryz.prog 40 = some 8 := by kernel_rfl
theorem TyShC.sz9 : szB Tryz.prog 9 = some 1 := by kernel_rfl
theorem TyShC.sz95 : szB Tryz.prog 95 = some 2 := by kernel_rfl
theorem TyShC.u105 : Tryz.prog.underlying 105 = some (.map 3 103) := by kernel_rfl
theorem TyShC.u3 : Tryz.prog.underlying 3 = some (.int .i64) := by kernel_rfl
theorem TyShC.u69 : Tryz.prog.underlying 69 = some (.slice 95) := by kernel_rfl
theorem TyShC.z95 : zeroB Tryz.prog 95 (.agg #[(.bool false), (.string ByteArray.empty)]) := by unfold zeroB; kernel_rfl
theorem ext_pushed_f67_sh {h h1 : Heap} {o : Obj} (e : h1 = Array.push h o) : Ext h h1 := by rw [e]; exact Ext.push _ _
theorem f38_sh (a0 : Int) (a5 : ByteArray) (a2 : ByteArray) (a7 : Int) (a3 : Bool) (a4 : Int) (a1 : Int) (a6 : Int) (h : Heap) (R : Value → Heap → Prop)
  (H : (((((decide (a0 < 1)) || (decide (a0 > 5))) || (((decide (a1 < 0)) || ((decide (Ml.Mv.to ⟨a0, a5, a2, a7, a3, a4, a1, a6⟩ ≥ 0)) && (decide (a6 < a1)))) || ((a3 && (!(Ml.hits ⟨a0, a5, a2, a7, a3, a4, a1, a6⟩))) || ((((a0 != 2) && (!(Ml.hits ⟨a0, a5, a2, a7, a3, a4, a1, a6⟩))) && (!decide (a2 = ByteArray.empty))) || (((a0 == 4) || (a0 == 5)) && (!decide (a5 = ByteArray.empty))))))) = true → (∀ (h4 : Heap), Ext h h4 → R (.int .i64 230) h4)) ∧ ((((decide (a0 < 1)) || (decide (a0 > 5))) || (((decide (a1 < 0)) || ((decide (Ml.Mv.to ⟨a0, a5, a2, a7, a3, a4, a1, a6⟩ ≥ 0)) && (decide (a6 < a1)))) || ((a3 && (!(Ml.hits ⟨a0, a5, a2, a7, a3, a4, a1, a6⟩))) || ((((a0 != 2) && (!(Ml.hits ⟨a0, a5, a2, a7, a3, a4, a1, a6⟩))) && (!decide (a2 = ByteArray.empty))) || (((a0 == 4) || (a0 == 5)) && (!decide (a5 = ByteArray.empty))))))) = false → (∀ (h4 : Heap), Ext h h4 → R (.int .i64 0) h4)))) :
  HC Tryz.prog 38 #[(.agg #[(.int .i64 a0), (.string a5), (.string a2), (.int .i64 a7), (.bool a3), (.int .i64 a4), (.int .i64 a1), (.int .i64 a6)])] h R := by
 refine hc_of (args := [(.agg #[(.int .i64 a0), (.string a5), (.string a2), (.int .i64 a7), (.bool a3), (.int .i64 a4), (.int .i64 a1), (.int .i64 a6)])]) Tryz.func38 rfl Tryz.ntmps38 (Nat.le_of_ble_eq_true rfl) ?_
 refine xs (xr ?_)
 refine lp rfl rfl (hn_box (v := (.agg #[(.int .i64 a0), (.string a5), (.string a2), (.int .i64 a7), (.bool a3), (.int .i64 a4), (.int .i64 a1), (.int .i64 a6)])) rfl ?_)
 intro m h1 d3 d4
 have d5 := ext_pushed_f67_sh d4
 have d8 : Array.size h ≤ m := Nat.le_of_eq (Eq.symm d3)
 have b9 : h1[m]? = some (.cells #[(.int .i64 a0), (.string a5), (.string a2), (.int .i64 a7), (.bool a3), (.int .i64 a4), (.int .i64 a1), (.int .i64 a6)] 40 (0, 0)) := by rw [d4]; exact push_new d3
 refine lv rfl rfl (va rfl) ?_
 refine ln (qn ?_)
 refine xk (fun ρ h' => h1 = h' ∧ Has ρ [(1, (ptr m 0)), (3, (.bool ((a0 == 4) || (a0 == 5))))]) ?_ ?_
 ·refine xr ?_
  refine lv rfl rfl (v := (ptr m 0)) (vf TyShC.fld40_0 (b := m) (o := 0) rfl) (lv rfl rfl (vl TyShC.agg3 rfl (rc b9 rfl)) (lv rfl rfl (vr rfl rfl rfl) (lv rfl rfl (vm rfl) ?_)))
  rcases bool_or (a0 == 4) with c0 | c0
  ·refine lo (wanted_n rfl rfl rfl c0) rfl ?_
   refine lo (wanted_n rfl rfl rfl c0) rfl ?_
   refine lo (wanted_n rfl rfl rfl c0) rfl ?_
   refine lv rfl rfl (v := (.bool true)) (hv_pick_t rfl c0 rfl) (lv rfl rfl (va rfl) ?_)
   refine ln (qn ?_)
   exact ⟨rfl, (hc rfl (hc (show ((.bool true) : Value) = (.bool ((a0 == 4) || (a0 == 5))) from (by first | rfl | ((try rw [c0]); all_goals first | rfl | (simp only [Bool.true_or, Bool.or_true, Bool.false_or, Bool.or_false, Bool.true_and, Bool.and_true, Bool.false_and, Bool.and_false, Bool.not_true, Bool.not_false, Bool.cond_true, Bool.cond_false]; done)) | simp [c0])) hn))⟩
  ·refine ly (wanted_y rfl rfl rfl c0) rfl (HStep.of_val (v := (ptr m 0)) (vf TyShC.fld40_0 (b := m) (o := 0) rfl) ?_)
   refine ly (wanted_y rfl rfl rfl c0) rfl (HStep.of_val (v := (.int .i64 a0)) (vl TyShC.agg3 rfl (rc b9 rfl)) ?_)
   refine ly (wanted_y rfl rfl rfl c0) rfl (HStep.of_val (v := (.bool (a0 == 5))) (vr rfl rfl rfl) ?_)
   refine lv rfl rfl (v := (.bool (a0 == 5))) (hv_pick_f rfl c0 rfl) (lv rfl rfl (va rfl) ?_)
   refine ln (qn ?_)
   exact ⟨rfl, (hc rfl (hc (show ((.bool (a0 == 5)) : Value) = (.bool ((a0 == 4) || (a0 == 5))) from (by first | rfl | ((try rw [c0]); all_goals first | rfl | (simp only [Bool.true_or, Bool.or_true, Bool.false_or, Bool.or_false, Bool.true_and, Bool.and_true, Bool.false_and, Bool.and_false, Bool.not_true, Bool.not_false, Bool.cond_true, Bool.cond_false]; done)) | simp [c0])) hn))⟩
 ·rintro ρ _ ⟨rfl, hH⟩
  refine xh _ hH ?_
  refine xk (fun ρ h' => (Ext h h' ∧ h'[m]? = some (.cells #[(.int .i64 a0), (.string a5), (.string a2), (.int .i64 a7), (.bool a3), (.int .i64 a4), (.int .i64 a1), (.int .i64 a6)] 40 (0, 0)) ∧ True) ∧ Has ρ [(1, (ptr m 0)), (3, (.bool ((a0 == 4) || (a0 == 5)))), (4, (.bool ((a0 != 2) && (!(Ml.hits ⟨a0, a5, a2, a7, a3, a4, a1, a6⟩)))))]) ?_ ?_
  ·refine xr ?_
   refine lv rfl rfl (v := (ptr m 0)) (vf TyShC.fld40_0 (b := m) (o := 0) rfl) (lv rfl rfl (vl TyShC.agg3 rfl (rc b9 rfl)) (lv rfl rfl (vr rfl rfl rfl) (lv rfl rfl (vm rfl) ?_)))
   rcases bool_or (a0 != 2) with b2 | b2
   ·refine ly (wanted_y rfl rfl rfl b2) rfl (HStep.of_val (v := (.agg #[(.int .i64 a0), (.string a5), (.string a2), (.int .i64 a7), (.bool a3), (.int .i64 a4), (.int .i64 a1), (.int .i64 a6)])) (vL (vs := [(.int .i64 a0), (.string a5), (.string a2), (.int .i64 a7), (.bool a3), (.int .i64 a4), (.int .i64 a1), (.int .i64 a6)]) TyShC.agg40 TyShC.sz40 rfl (cc (rc b9 rfl) (cc (rc b9 rfl) (cc (rc b9 rfl) (cc (rc b9 rfl) (cc (rc b9 rfl) (cc (rc b9 rfl) (cc (rc b9 rfl) (cc (rc b9 rfl) cn))))))))) ?_)
    refine ly (wanted_y rfl rfl rfl b2) rfl (sc TyShC.cb58 rfl (HC.mono (hits_c (⟨a0, a5, a2, a7, a3, a4, a1, a6⟩) _) ?_))
    rintro _ h3 ⟨rfl, d2⟩
    replace b9 := Ext.row d2 b9
    have d6 := Ext.trans d5 d2
    refine ly (wanted_y rfl rfl rfl b2) rfl (HStep.of_val (v := (.bool (!(Ml.hits ⟨a0, a5, a2, a7, a3, a4, a1, a6⟩)))) (hv_not (b := Ml.hits ⟨a0, a5, a2, a7, a3, a4, a1, a6⟩) rfl) ?_)
    refine lv rfl rfl (v := (.bool (!(Ml.hits ⟨a0, a5, a2, a7, a3, a4, a1, a6⟩)))) (hv_pick_t rfl b2 rfl) (lv rfl rfl (va rfl) ?_)
    refine ln (qn ?_)
    exact ⟨⟨d6, (row_congr b9 (by first | rfl | ((try rw [b2]); all_goals first | rfl | (simp only [Bool.true_or, Bool.or_true, Bool.false_or, Bool.or_false, Bool.true_and, Bool.and_true, Bool.false_and, Bool.and_false, Bool.not_true, Bool.not_false, Bool.cond_true, Bool.cond_false]; done)) | simp [b2])), trivial⟩, (hc rfl (hc rfl (hc (show ((.bool (!(Ml.hits ⟨a0, a5, a2, a7, a3, a4, a1, a6⟩))) : Value) = (.bool ((a0 != 2) && (!(Ml.hits ⟨a0, a5, a2, a7, a3, a4, a1, a6⟩)))) from (by first | rfl | ((try rw [b2]); all_goals first | rfl | (simp only [Bool.true_or, Bool.or_true, Bool.false_or, Bool.or_false, Bool.true_and, Bool.and_true, Bool.false_and, Bool.and_false, Bool.not_true, Bool.not_false, Bool.cond_true, Bool.cond_false]; done)) | simp [b2])) hn)))⟩
   ·refine lo (wanted_n rfl rfl rfl b2) rfl ?_
    refine lo (wanted_n rfl rfl rfl b2) rfl ?_
    refine lo (wanted_n rfl rfl rfl b2) rfl ?_
    refine lv rfl rfl (v := (.bool false)) (hv_pick_f rfl b2 rfl) (lv rfl rfl (va rfl) ?_)
    refine ln (qn ?_)
    exact ⟨⟨d5, (row_congr b9 (by first | rfl | ((try rw [b2]); all_goals first | rfl | (simp only [Bool.true_or, Bool.or_true, Bool.false_or, Bool.or_false, Bool.true_and, Bool.and_true, Bool.false_and, Bool.and_false, Bool.not_true, Bool.not_false, Bool.cond_true, Bool.cond_false]; done)) | simp [b2])), trivial⟩, (hc rfl (hc rfl (hc (show ((.bool false) : Value) = (.bool ((a0 != 2) && (!(Ml.hits ⟨a0, a5, a2, a7, a3, a4, a1, a6⟩)))) from (by first | rfl | ((try rw [b2]); all_goals first | rfl | (simp only [Bool.true_or, Bool.or_true, Bool.false_or, Bool.or_false, Bool.true_and, Bool.and_true, Bool.false_and, Bool.and_false, Bool.not_true, Bool.not_false, Bool.cond_true, Bool.cond_false]; done)) | simp [b2])) hn)))⟩
  ·rintro ρ h2 ⟨⟨c6, b0, -⟩, hH⟩
   refine xh _ hH ?_
   refine xs (xb ?_)
   refine xk (fun ρ h' => (Ext h h' ∧ True) ∧ Has ρ [(21, (.bool (((decide (a0 < 1)) || (decide (a0 > 5))) || (((decide (a1 < 0)) || ((decide (Ml.Mv.to ⟨a0, a5, a2, a7, a3, a4, a1, a6⟩ ≥ 0)) && (decide (a6 < a1)))) || ((a3 && (!(Ml.hits ⟨a0, a5, a2, a7, a3, a4, a1, a6⟩))) || ((((a0 != 2) && (!(Ml.hits ⟨a0, a5, a2, a7, a3, a4, a1, a6⟩))) && (!decide (a2 = ByteArray.empty))) || (((a0 == 4) || (a0 == 5)) && (!decide (a5 = ByteArray.empty)))))))))]) ?_ ?_
   ·refine xk (fun ρ h' => h2 = h' ∧ Has ρ [(1, (ptr m 0)), (3, (.bool ((a0 == 4) || (a0 == 5)))), (4, (.bool ((a0 != 2) && (!(Ml.hits ⟨a0, a5, a2, a7, a3, a4, a1, a6⟩))))), (21, (.bool ((decide (a0 < 1)) || (decide (a0 > 5)))))]) ?_ ?_
    ·refine xr ?_
     refine lv rfl rfl (v := (ptr m 0)) (vf TyShC.fld40_0 (b := m) (o := 0) rfl) (lv rfl rfl (vl TyShC.agg3 rfl (rc b0 rfl)) (lv rfl rfl (vr rfl rfl rfl) (lv rfl rfl (vm rfl) ?_)))
     rcases bool_or (decide (a0 < 1)) with b3 | b3
     ·refine lo (wanted_n rfl rfl rfl b3) rfl ?_
      refine lo (wanted_n rfl rfl rfl b3) rfl ?_
      refine lo (wanted_n rfl rfl rfl b3) rfl ?_
      refine lv rfl rfl (v := (.bool true)) (hv_pick_t rfl b3 rfl) (lv rfl rfl (va rfl) ?_)
      refine ln (qn ?_)
      exact ⟨rfl, (hc rfl (hc rfl (hc rfl (hc (show ((.bool true) : Value) = (.bool ((decide (a0 < 1)) || (decide (a0 > 5)))) from (by first | rfl | ((try rw [b3]); all_goals first | rfl | (simp only [Bool.true_or, Bool.or_true, Bool.false_or, Bool.or_false, Bool.true_and, Bool.and_true, Bool.false_and, Bool.and_false, Bool.not_true, Bool.not_false, Bool.cond_true, Bool.cond_false]; done)) | simp [b3])) hn))))⟩
     ·refine ly (wanted_y rfl rfl rfl b3) rfl (HStep.of_val (v := (ptr m 0)) (vf TyShC.fld40_0 (b := m) (o := 0) rfl) ?_)
      refine ly (wanted_y rfl rfl rfl b3) rfl (HStep.of_val (v := (.int .i64 a0)) (vl TyShC.agg3 rfl (rc b0 rfl)) ?_)
      refine ly (wanted_y rfl rfl rfl b3) rfl (HStep.of_val (v := (.bool (decide (a0 > 5)))) (vr rfl rfl rfl) ?_)
      refine lv rfl rfl (v := (.bool (decide (a0 > 5)))) (hv_pick_f rfl b3 rfl) (lv rfl rfl (va rfl) ?_)
      refine ln (qn ?_)
      exact ⟨rfl, (hc rfl (hc rfl (hc rfl (hc (show ((.bool (decide (a0 > 5))) : Value) = (.bool ((decide (a0 < 1)) || (decide (a0 > 5)))) from (by first | rfl | ((try rw [b3]); all_goals first | rfl | (simp only [Bool.true_or, Bool.or_true, Bool.false_or, Bool.or_false, Bool.true_and, Bool.and_true, Bool.false_and, Bool.and_false, Bool.not_true, Bool.not_false, Bool.cond_true, Bool.cond_false]; done)) | simp [b3])) hn))))⟩
    ·rintro ρ _ ⟨rfl, hH⟩
     refine xh _ hH ?_
     refine xc (b := ((decide (a0 < 1)) || (decide (a0 > 5)))) rfl (fun b7 => ?_) (fun b7 => ?_)
     ·refine xi (qn ?_)
      exact ⟨⟨c6, trivial⟩, (hc (show ((.bool ((decide (a0 < 1)) || (decide (a0 > 5)))) : Value) = (.bool (((decide (a0 < 1)) || (decide (a0 > 5))) || (((decide (a1 < 0)) || ((decide (Ml.Mv.to ⟨a0, a5, a2, a7, a3, a4, a1, a6⟩ ≥ 0)) && (decide (a6 < a1)))) || ((a3 && (!(Ml.hits ⟨a0, a5, a2, a7, a3, a4, a1, a6⟩))) || ((((a0 != 2) && (!(Ml.hits ⟨a0, a5, a2, a7, a3, a4, a1, a6⟩))) && (!decide (a2 = ByteArray.empty))) || (((a0 == 4) || (a0 == 5)) && (!decide (a5 = ByteArray.empty)))))))) from (by first | rfl | ((try rw [b7]); all_goals first | rfl | (simp only [Bool.true_or, Bool.or_true, Bool.false_or, Bool.or_false, Bool.true_and, Bool.and_true, Bool.false_and, Bool.and_false, Bool.not_true, Bool.not_false, Bool.cond_true, Bool.cond_false]; done)) | simp [b7])) hn)⟩
     ·refine xk (fun ρ h' => (Ext h h' ∧ h'[m]? = some (.cells #[(.int .i64 a0), (.string a5), (.string a2), (.int .i64 a7), (.bool a3), (.int .i64 a4), (.int .i64 a1), (.int .i64 a6)] 40 (0, 0)) ∧ True) ∧ Has ρ [(1, (ptr m 0)), (3, (.bool ((a0 == 4) || (a0 == 5)))), (4, (.bool ((a0 != 2) && (!(Ml.hits ⟨a0, a5, a2, a7, a3, a4, a1, a6⟩))))), (21, (.bool ((decide (a1 < 0)) || ((decide (Ml.Mv.to ⟨a0, a5, a2, a7, a3, a4, a1, a6⟩ ≥ 0)) && (decide (a6 < a1))))))]) ?_ ?_
      ·refine xr ?_
       refine lv rfl rfl (v := (ptr m 6)) (vf TyShC.fld40_6 (b := m) (o := 0) rfl) (lv rfl rfl (vl TyShC.agg3 rfl (rc b0 rfl)) (lv rfl rfl (vr rfl rfl rfl) (lv rfl rfl (vm rfl) ?_)))
       rcases bool_or (decide (a1 < 0)) with a8 | a8
       ·refine lo (wanted_n rfl rfl rfl a8) rfl ?_
        refine lo (wanted_n rfl rfl rfl a8) rfl ?_
        refine lo (wanted_n rfl rfl rfl a8) rfl ?_
        refine lo (wanted_u rfl rfl rfl) rfl ?_
        refine lo (wanted_u rfl rfl rfl) rfl ?_
        refine lo (wanted_u rfl rfl rfl) rfl ?_
        refine lo (wanted_u rfl rfl rfl) rfl ?_
        refine lo (wanted_u rfl rfl rfl) rfl ?_
        refine lo (wanted_n rfl rfl rfl a8) rfl ?_
        refine lv rfl rfl (v := (.bool true)) (hv_pick_t rfl a8 rfl) (lv rfl rfl (va rfl) ?_)
        refine ln (qn ?_)
        exact ⟨⟨c6, (row_congr b0 (by first | rfl | ((try rw [a8]); all_goals first | rfl | (simp only [Bool.true_or, Bool.or_true, Bool.false_or, Bool.or_false, Bool.true_and, Bool.and_true, Bool.false_and, Bool.and_false, Bool.not_true, Bool.not_false, Bool.cond_true, Bool.cond_false]; done)) | simp [a8])), trivial⟩, (hc rfl (hc rfl (hc rfl (hc (show ((.bool true) : Value) = (.bool ((decide (a1 < 0)) || ((decide (Ml.Mv.to ⟨a0, a5, a2, a7, a3, a4, a1, a6⟩ ≥ 0)) && (decide (a6 < a1))))) from (by first | rfl | ((try rw [a8]); all_goals first | rfl | (simp only [Bool.true_or, Bool.or_true, Bool.false_or, Bool.or_false, Bool.true_and, Bool.and_true, Bool.false_and, Bool.and_false, Bool.not_true, Bool.not_false, Bool.cond_true, Bool.cond_false]; done)) | simp [a8])) hn))))⟩
       ·refine ly (wanted_y rfl rfl rfl a8) rfl (HStep.of_val (v := (.agg #[(.int .i64 a0), (.string a5), (.string a2), (.int .i64 a7), (.bool a3), (.int .i64 a4), (.int .i64 a1), (.int .i64 a6)])) (vL (vs := [(.int .i64 a0), (.string a5), (.string a2), (.int .i64 a7), (.bool a3), (.int .i64 a4), (.int .i64 a1), (.int .i64 a6)]) TyShC.agg40 TyShC.sz40 rfl (cc (rc b0 rfl) (cc (rc b0 rfl) (cc (rc b0 rfl) (cc (rc b0 rfl) (cc (rc b0 rfl) (cc (rc b0 rfl) (cc (rc b0 rfl) (cc (rc b0 rfl) cn))))))))) ?_)
        refine ly (wanted_y rfl rfl rfl a8) rfl (sc TyShC.cb59 rfl (HC.mono (returned_c (⟨a0, a5, a2, a7, a3, a4, a1, a6⟩) _) ?_))
        rintro _ h6 ⟨rfl, c7⟩
        replace b0 := Ext.row c7 b0
        have d1 := Ext.trans c6 c7
        refine ly (wanted_y rfl rfl rfl a8) rfl (HStep.of_val (v := (.bool (decide (Ml.Mv.to ⟨a0, a5, a2, a7, a3, a4, a1, a6⟩ ≥ 0)))) (vm rfl) ?_)
        rcases bool_or (decide (Ml.Mv.to ⟨a0, a5, a2, a7, a3, a4, a1, a6⟩ ≥ 0)) with a9 | a9
        ·refine ly (wanted_y rfl rfl rfl a9) rfl (HStep.of_val (v := (ptr m 7)) (vf TyShC.fld40_7 (b := m) (o := 0) rfl) ?_)
         refine ly (wanted_y rfl rfl rfl a9) rfl (HStep.of_val (v := (.int .i64 a6)) (vl TyShC.agg3 rfl (rc b0 rfl)) ?_)
         refine ly (wanted_y rfl rfl rfl a9) rfl (HStep.of_val (v := (ptr m 6)) (vf TyShC.fld40_6 (b := m) (o := 0) rfl) ?_)
         refine ly (wanted_y rfl rfl rfl a9) rfl (HStep.of_val (v := (.int .i64 a1)) (vl TyShC.agg3 rfl (rc b0 rfl)) ?_)
         refine ly (wanted_y rfl rfl rfl a9) rfl (HStep.of_val (v := (.bool (decide (a6 < a1)))) (vr rfl rfl rfl) ?_)
         refine ly (wanted_y rfl rfl rfl a8) rfl (HStep.of_val (v := (.bool (decide (a6 < a1)))) (hv_pick_t rfl a9 rfl) ?_)
         refine lv rfl rfl (v := (.bool (decide (a6 < a1)))) (hv_pick_f rfl a8 rfl) (lv rfl rfl (va rfl) ?_)
         refine ln (qn ?_)
         exact ⟨⟨d1, (row_congr b0 (by first | rfl | ((try rw [a8]); (try rw [a9]); all_goals first | rfl | (simp only [Bool.true_or, Bool.or_true, Bool.false_or, Bool.or_false, Bool.true_and, Bool.and_true, Bool.false_and, Bool.and_false, Bool.not_true, Bool.not_false, Bool.cond_true, Bool.cond_false]; done)) | simp [a8, a9])), trivial⟩, (hc rfl (hc rfl (hc rfl (hc (show ((.bool (decide (a6 < a1))) : Value) = (.bool ((decide (a1 < 0)) || ((decide (Ml.Mv.to ⟨a0, a5, a2, a7, a3, a4, a1, a6⟩ ≥ 0)) && (decide (a6 < a1))))) from (by first | rfl | ((try rw [a8]); (try rw [a9]); all_goals first | rfl | (simp only [Bool.true_or, Bool.or_true, Bool.false_or, Bool.or_false, Bool.true_and, Bool.and_true, Bool.false_and, Bool.and_false, Bool.not_true, Bool.not_false, Bool.cond_true, Bool.cond_false]; done)) | simp [a8, a9])) hn))))⟩
        ·refine lo (wanted_n rfl rfl rfl a9) rfl ?_
         refine lo (wanted_n rfl rfl rfl a9) rfl ?_
         refine lo (wanted_n rfl rfl rfl a9) rfl ?_
         refine lo (wanted_n rfl rfl rfl a9) rfl ?_
         refine lo (wanted_n rfl rfl rfl a9) rfl ?_
         refine ly (wanted_y rfl rfl rfl a8) rfl (HStep.of_val (v := (.bool false)) (hv_pick_f rfl a9 rfl) ?_)
         refine lv rfl rfl (v := (.bool false)) (hv_pick_f rfl a8 rfl) (lv rfl rfl (va rfl) ?_)
         refine ln (qn ?_)
         exact ⟨⟨d1, (row_congr b0 (by first | rfl | ((try rw [a8]); (try rw [a9]); all_goals first | rfl | (simp only [Bool.true_or, Bool.or_true, Bool.false_or, Bool.or_false, Bool.true_and, Bool.and_true, Bool.false_and, Bool.and_false, Bool.not_true, Bool.not_false, Bool.cond_true, Bool.cond_false]; done)) | simp [a8, a9])), trivial⟩, (hc rfl (hc rfl (hc rfl (hc (show ((.bool false) : Value) = (.bool ((decide (a1 < 0)) || ((decide (Ml.Mv.to ⟨a0, a5, a2, a7, a3, a4, a1, a6⟩ ≥ 0)) && (decide (a6 < a1))))) from (by first | rfl | ((try rw [a8]); (try rw [a9]); all_goals first | rfl | (simp only [Bool.true_or, Bool.or_true, Bool.false_or, Bool.or_false, Bool.true_and, Bool.and_true, Bool.false_and, Bool.and_false, Bool.not_true, Bool.not_false, Bool.cond_true, Bool.cond_false]; done)) | simp [a8, a9])) hn))))⟩
      ·rintro ρ h5 ⟨⟨c4, b5, -⟩, hH⟩
       refine xh _ hH ?_
       refine xc (b := ((decide (a1 < 0)) || ((decide (Ml.Mv.to ⟨a0, a5, a2, a7, a3, a4, a1, a6⟩ ≥ 0)) && (decide (a6 < a1))))) rfl (fun b8 => ?_) (fun b8 => ?_)
       ·refine xi (qn ?_)
        exact ⟨⟨c4, trivial⟩, (hc (show ((.bool ((decide (a1 < 0)) || ((decide (Ml.Mv.to ⟨a0, a5, a2, a7, a3, a4, a1, a6⟩ ≥ 0)) && (decide (a6 < a1))))) : Value) = (.bool (((decide (a0 < 1)) || (decide (a0 > 5))) || (((decide (a1 < 0)) || ((decide (Ml.Mv.to ⟨a0, a5, a2, a7, a3, a4, a1, a6⟩ ≥ 0)) && (decide (a6 < a1)))) || ((a3 && (!(Ml.hits ⟨a0, a5, a2, a7, a3, a4, a1, a6⟩))) || ((((a0 != 2) && (!(Ml.hits ⟨a0, a5, a2, a7, a3, a4, a1, a6⟩))) && (!decide (a2 = ByteArray.empty))) || (((a0 == 4) || (a0 == 5)) && (!decide (a5 = ByteArray.empty)))))))) from (by first | rfl | ((try rw [b7]); (try rw [b8]); all_goals first | rfl | (simp only [Bool.true_or, Bool.or_true, Bool.false_or, Bool.or_false, Bool.true_and, Bool.and_true, Bool.false_and, Bool.and_false, Bool.not_true, Bool.not_false, Bool.cond_true, Bool.cond_false]; done)) | simp [b7, b8])) hn)⟩
       ·refine xk (fun ρ h' => (Ext h h' ∧ h'[m]? = some (.cells #[(.int .i64 a0), (.string a5), (.string a2), (.int .i64 a7), (.bool a3), (.int .i64 a4), (.int .i64 a1), (.int .i64 a6)] 40 (0, 0)) ∧ True) ∧ Has ρ [(1, (ptr m 0)), (3, (.bool ((a0 == 4) || (a0 == 5)))), (4, (.bool ((a0 != 2) && (!(Ml.hits ⟨a0, a5, a2, a7, a3, a4, a1, a6⟩))))), (21, (.bool (a3 && (!(Ml.hits ⟨a0, a5, a2, a7, a3, a4, a1, a6⟩)))))]) ?_ ?_
        ·refine xr ?_
         refine lv rfl rfl (v := (ptr m 4)) (vf TyShC.fld40_4 (b := m) (o := 0) rfl) (lv rfl rfl (vl TyShC.agg4 rfl (rc b5 rfl)) (lv rfl rfl (vm rfl) ?_))
         rcases bool_or (a3) with b1 | b1
         ·refine ly (wanted_y rfl rfl rfl b1) rfl (HStep.of_val (v := (.agg #[(.int .i64 a0), (.string a5), (.string a2), (.int .i64 a7), (.bool a3), (.int .i64 a4), (.int .i64 a1), (.int .i64 a6)])) (vL (vs := [(.int .i64 a0), (.string a5), (.string a2), (.int .i64 a7), (.bool a3), (.int .i64 a4), (.int .i64 a1), (.int .i64 a6)]) TyShC.agg40 TyShC.sz40 rfl (cc (rc b5 rfl) (cc (rc b5 rfl) (cc (rc b5 rfl) (cc (rc b5 rfl) (cc (rc b5 rfl) (cc (rc b5 rfl) (cc (rc b5 rfl) (cc (rc b5 rfl) cn))))))))) ?_)
          refine ly (wanted_y rfl rfl rfl b1) rfl (sc TyShC.cb58 rfl (HC.mono (hits_c (⟨a0, a5, a2, a7, a3, a4, a1, a6⟩) _) ?_))
          rintro _ h8 ⟨rfl, c8⟩
          replace b5 := Ext.row c8 b5
          have d7 := Ext.trans c4 c8
          refine ly (wanted_y rfl rfl rfl b1) rfl (HStep.of_val (v := (.bool (!(Ml.hits ⟨a0, a5, a2, a7, a3, a4, a1, a6⟩)))) (hv_not (b := Ml.hits ⟨a0, a5, a2, a7, a3, a4, a1, a6⟩) rfl) ?_)
          refine lv rfl rfl (v := (.bool (!(Ml.hits ⟨a0, a5, a2, a7, a3, a4, a1, a6⟩)))) (hv_pick_t rfl b1 rfl) (lv rfl rfl (va rfl) ?_)
          refine ln (qn ?_)
          exact ⟨⟨d7, (row_congr b5 (by first | rfl | ((try rw [b1]); all_goals first | rfl | (simp only [Bool.true_or, Bool.or_true, Bool.false_or, Bool.or_false, Bool.true_and, Bool.and_true, Bool.false_and, Bool.and_false, Bool.not_true, Bool.not_false, Bool.cond_true, Bool.cond_false]; done)) | simp [b1])), trivial⟩, (hc rfl (hc rfl (hc rfl (hc (show ((.bool (!(Ml.hits ⟨a0, a5, a2, a7, a3, a4, a1, a6⟩))) : Value) = (.bool (a3 && (!(Ml.hits ⟨a0, a5, a2, a7, a3, a4, a1, a6⟩)))) from (by first | rfl | ((try rw [b1]); all_goals first | rfl | (simp only [Bool.true_or, Bool.or_true, Bool.false_or, Bool.or_false, Bool.true_and, Bool.and_true, Bool.false_and, Bool.and_false, Bool.not_true, Bool.not_false, Bool.cond_true, Bool.cond_false]; done)) | simp [b1])) hn))))⟩
         ·refine lo (wanted_n rfl rfl rfl b1) rfl ?_
          refine lo (wanted_n rfl rfl rfl b1) rfl ?_
          refine lo (wanted_n rfl rfl rfl b1) rfl ?_
          refine lv rfl rfl (v := (.bool false)) (hv_pick_f rfl b1 rfl) (lv rfl rfl (va rfl) ?_)
          refine ln (qn ?_)
          exact ⟨⟨c4, (row_congr b5 (by first | rfl | ((try rw [b1]); all_goals first | rfl | (simp only [Bool.true_or, Bool.or_true, Bool.false_or, Bool.or_false, Bool.true_and, Bool.and_true, Bool.false_and, Bool.and_false, Bool.not_true, Bool.not_false, Bool.cond_true, Bool.cond_false]; done)) | simp [b1])), trivial⟩, (hc rfl (hc rfl (hc rfl (hc (show ((.bool false) : Value) = (.bool (a3 && (!(Ml.hits ⟨a0, a5, a2, a7, a3, a4, a1, a6⟩)))) from (by first | rfl | ((try rw [b1]); all_goals first | rfl | (simp only [Bool.true_or, Bool.or_true, Bool.false_or, Bool.or_false, Bool.true_and, Bool.and_true, Bool.false_and, Bool.and_false, Bool.not_true, Bool.not_false, Bool.cond_true, Bool.cond_false]; done)) | simp [b1])) hn))))⟩
        ·rintro ρ h7 ⟨⟨c3, d0, -⟩, hH⟩
         refine xh _ hH ?_
         refine xc (b := (a3 && (!(Ml.hits ⟨a0, a5, a2, a7, a3, a4, a1, a6⟩)))) rfl (fun c1 => ?_) (fun c1 => ?_)
         ·refine xi (qn ?_)
          exact ⟨⟨c3, trivial⟩, (hc (show ((.bool (a3 && (!(Ml.hits ⟨a0, a5, a2, a7, a3, a4, a1, a6⟩)))) : Value) = (.bool (((decide (a0 < 1)) || (decide (a0 > 5))) || (((decide (a1 < 0)) || ((decide (Ml.Mv.to ⟨a0, a5, a2, a7, a3, a4, a1, a6⟩ ≥ 0)) && (decide (a6 < a1)))) || ((a3 && (!(Ml.hits ⟨a0, a5, a2, a7, a3, a4, a1, a6⟩))) || ((((a0 != 2) && (!(Ml.hits ⟨a0, a5, a2, a7, a3, a4, a1, a6⟩))) && (!decide (a2 = ByteArray.empty))) || (((a0 == 4) || (a0 == 5)) && (!decide (a5 = ByteArray.empty)))))))) from (by first | rfl | ((try rw [b7]); (try rw [b8]); (try rw [c1]); all_goals first | rfl | (simp only [Bool.true_or, Bool.or_true, Bool.false_or, Bool.or_false, Bool.true_and, Bool.and_true, Bool.false_and, Bool.and_false, Bool.not_true, Bool.not_false, Bool.cond_true, Bool.cond_false]; done)) | simp [b7, b8, c1])) hn)⟩
         ·refine xk (fun ρ h' => h7 = h' ∧ Has ρ [(1, (ptr m 0)), (3, (.bool ((a0 == 4) || (a0 == 5)))), (21, (.bool (((a0 != 2) && (!(Ml.hits ⟨a0, a5, a2, a7, a3, a4, a1, a6⟩))) && (!decide (a2 = ByteArray.empty)))))]) ?_ ?_
          ·refine xr ?_
           refine lv rfl rfl (vm rfl) (lv rfl rfl (vm rfl) ?_)
           rcases bool_or (((a0 != 2) && (!(Ml.hits ⟨a0, a5, a2, a7, a3, a4, a1, a6⟩)))) with b4 | b4
           ·refine ly (wanted_y rfl rfl rfl b4) rfl (HStep.of_val (v := (ptr m 2)) (vf TyShC.fld40_2 (b := m) (o := 0) rfl) ?_)
            refine ly (wanted_y rfl rfl rfl b4) rfl (HStep.of_val (v := (.string a2)) (vl TyShC.agg9 rfl (rc d0 rfl)) ?_)
            refine ly (wanted_y rfl rfl rfl b4) rfl (HStep.of_val (v := (.bool (!decide (a2 = ByteArray.empty)))) (hv_str rfl rfl rfl) ?_)
            refine lv rfl rfl (v := (.bool (!decide (a2 = ByteArray.empty)))) (hv_pick_t rfl b4 rfl) (lv rfl rfl (va rfl) ?_)
            refine ln (qn ?_)
            exact ⟨rfl, (hc rfl (hc rfl (hc (show ((.bool (!decide (a2 = ByteArray.empty))) : Value) = (.bool (((a0 != 2) && (!(Ml.hits ⟨a0, a5, a2, a7, a3, a4, a1, a6⟩))) && (!decide (a2 = ByteArray.empty)))) from (by first | rfl | ((try rw [b4]); all_goals first | rfl | (simp only [Bool.true_or, Bool.or_true, Bool.false_or, Bool.or_false, Bool.true_and, Bool.and_true, Bool.false_and, Bool.and_false, Bool.not_true, Bool.not_false, Bool.cond_true, Bool.cond_false]; done)) | simp [b4])) hn)))⟩
           ·refine lo (wanted_n rfl rfl rfl b4) rfl ?_
            refine lo (wanted_n rfl rfl rfl b4) rfl ?_
            refine lo (wanted_n rfl rfl rfl b4) rfl ?_
            refine lv rfl rfl (v := (.bool false)) (hv_pick_f rfl b4 rfl) (lv rfl rfl (va rfl) ?_)
            refine ln (qn ?_)
            exact ⟨rfl, (hc rfl (hc rfl (hc (show ((.bool false) : Value) = (.bool (((a0 != 2) && (!(Ml.hits ⟨a0, a5, a2, a7, a3, a4, a1, a6⟩))) && (!decide (a2 = ByteArray.empty)))) from (by first | rfl | ((try rw [b4]); all_goals first | rfl | (simp only [Bool.true_or, Bool.or_true, Bool.false_or, Bool.or_false, Bool.true_and, Bool.and_true, Bool.false_and, Bool.and_false, Bool.not_true, Bool.not_false, Bool.cond_true, Bool.cond_false]; done)) | simp [b4])) hn)))⟩
          ·rintro ρ _ ⟨rfl, hH⟩
           refine xh _ hH ?_
           refine xc (b := (((a0 != 2) && (!(Ml.hits ⟨a0, a5, a2, a7, a3, a4, a1, a6⟩))) && (!decide (a2 = ByteArray.empty)))) rfl (fun c2 => ?_) (fun c2 => ?_)
           ·refine xi (qn ?_)
            exact ⟨⟨c3, trivial⟩, (hc (show ((.bool (((a0 != 2) && (!(Ml.hits ⟨a0, a5, a2, a7, a3, a4, a1, a6⟩))) && (!decide (a2 = ByteArray.empty)))) : Value) = (.bool (((decide (a0 < 1)) || (decide (a0 > 5))) || (((decide (a1 < 0)) || ((decide (Ml.Mv.to ⟨a0, a5, a2, a7, a3, a4, a1, a6⟩ ≥ 0)) && (decide (a6 < a1)))) || ((a3 && (!(Ml.hits ⟨a0, a5, a2, a7, a3, a4, a1, a6⟩))) || ((((a0 != 2) && (!(Ml.hits ⟨a0, a5, a2, a7, a3, a4, a1, a6⟩))) && (!decide (a2 = ByteArray.empty))) || (((a0 == 4) || (a0 == 5)) && (!decide (a5 = ByteArray.empty)))))))) from (by first | rfl | ((try rw [b7]); (try rw [b8]); (try rw [c1]); (try rw [c2]); all_goals first | rfl | (simp only [Bool.true_or, Bool.or_true, Bool.false_or, Bool.or_false, Bool.true_and, Bool.and_true, Bool.false_and, Bool.and_false, Bool.not_true, Bool.not_false, Bool.cond_true, Bool.cond_false]; done)) | simp [b7, b8, c1, c2])) hn)⟩
           ·refine xr ?_
            refine lv rfl rfl (vm rfl) (lv rfl rfl (vm rfl) ?_)
            rcases bool_or (((a0 == 4) || (a0 == 5))) with b6 | b6
            ·refine ly (wanted_y rfl rfl rfl b6) rfl (HStep.of_val (v := (ptr m 1)) (vf TyShC.fld40_1 (b := m) (o := 0) rfl) ?_)
             refine ly (wanted_y rfl rfl rfl b6) rfl (HStep.of_val (v := (.string a5)) (vl TyShC.agg9 rfl (rc d0 rfl)) ?_)
             refine ly (wanted_y rfl rfl rfl b6) rfl (HStep.of_val (v := (.bool (!decide (a5 = ByteArray.empty)))) (hv_str rfl rfl rfl) ?_)
             refine lv rfl rfl (v := (.bool (!decide (a5 = ByteArray.empty)))) (hv_pick_t rfl b6 rfl) (lv rfl rfl (va rfl) ?_)
             refine ln (qn ?_)
             exact ⟨⟨c3, trivial⟩, (hc (show ((.bool (!decide (a5 = ByteArray.empty))) : Value) = (.bool (((decide (a0 < 1)) || (decide (a0 > 5))) || (((decide (a1 < 0)) || ((decide (Ml.Mv.to ⟨a0, a5, a2, a7, a3, a4, a1, a6⟩ ≥ 0)) && (decide (a6 < a1)))) || ((a3 && (!(Ml.hits ⟨a0, a5, a2, a7, a3, a4, a1, a6⟩))) || ((((a0 != 2) && (!(Ml.hits ⟨a0, a5, a2, a7, a3, a4, a1, a6⟩))) && (!decide (a2 = ByteArray.empty))) || (((a0 == 4) || (a0 == 5)) && (!decide (a5 = ByteArray.empty)))))))) from (by first | rfl | ((try rw [b7]); (try rw [b8]); (try rw [c1]); (try rw [c2]); (try rw [b6]); all_goals first | rfl | (simp only [Bool.true_or, Bool.or_true, Bool.false_or, Bool.or_false, Bool.true_and, Bool.and_true, Bool.false_and, Bool.and_false, Bool.not_true, Bool.not_false, Bool.cond_true, Bool.cond_false]; done)) | simp [b7, b8, c1, c2, b6])) hn)⟩
            ·refine lo (wanted_n rfl rfl rfl b6) rfl ?_
             refine lo (wanted_n rfl rfl rfl b6) rfl ?_
             refine lo (wanted_n rfl rfl rfl b6) rfl ?_
             refine lv rfl rfl (v := (.bool false)) (hv_pick_f rfl b6 rfl) (lv rfl rfl (va rfl) ?_)
             refine ln (qn ?_)
             exact ⟨⟨c3, trivial⟩, (hc (show ((.bool false) : Value) = (.bool (((decide (a0 < 1)) || (decide (a0 > 5))) || (((decide (a1 < 0)) || ((decide (Ml.Mv.to ⟨a0, a5, a2, a7, a3, a4, a1, a6⟩ ≥ 0)) && (decide (a6 < a1)))) || ((a3 && (!(Ml.hits ⟨a0, a5, a2, a7, a3, a4, a1, a6⟩))) || ((((a0 != 2) && (!(Ml.hits ⟨a0, a5, a2, a7, a3, a4, a1, a6⟩))) && (!decide (a2 = ByteArray.empty))) || (((a0 == 4) || (a0 == 5)) && (!decide (a5 = ByteArray.empty)))))))) from (by first | rfl | ((try rw [b7]); (try rw [b8]); (try rw [c1]); (try rw [c2]); (try rw [b6]); all_goals first | rfl | (simp only [Bool.true_or, Bool.or_true, Bool.false_or, Bool.or_false, Bool.true_and, Bool.and_true, Bool.false_and, Bool.and_false, Bool.not_true, Bool.not_false, Bool.cond_true, Bool.cond_false]; done)) | simp [b7, b8, c1, c2, b6])) hn)⟩
   ·rintro ρ h4 ⟨⟨c9, -⟩, hH⟩
    refine xh _ hH ?_
    refine xc (b := (((decide (a0 < 1)) || (decide (a0 > 5))) || (((decide (a1 < 0)) || ((decide (Ml.Mv.to ⟨a0, a5, a2, a7, a3, a4, a1, a6⟩ ≥ 0)) && (decide (a6 < a1)))) || ((a3 && (!(Ml.hits ⟨a0, a5, a2, a7, a3, a4, a1, a6⟩))) || ((((a0 != 2) && (!(Ml.hits ⟨a0, a5, a2, a7, a3, a4, a1, a6⟩))) && (!decide (a2 = ByteArray.empty))) || (((a0 == 4) || (a0 == 5)) && (!decide (a5 = ByteArray.empty)))))))) rfl (fun c5 => ?_) (fun c5 => ?_)
    ·replace H := H.1 c5
     refine xs (xr ?_)
     refine lv rfl rfl (va rfl) ?_
     refine ln (qn (xt (br (qr ?_))))
     replace H := H h4 c9
     exact endQ_ret _ (res_one Tryz.results38 (rv_tmp rfl)) H
    ·replace H := H.2 c5
     refine xi (bn (qn (xs (xr ?_))))
     refine lv rfl rfl (va rfl) ?_
     refine ln (qn (xt ?_))
     replace H := H h4 c9
     exact endQ_ret _ (res_one Tryz.results38 (rv_tmp rfl)) H
theorem f88_sh (a2 : Bool) (a1 : ByteArray) (a4 : Int) (a7 : ByteArray) (a0 : ByteArray) (a8 : Int) (a9 : Bool) (a5 : Int) (a6 : Int) (b1 : Int) (h : Heap) (R : Value → Heap → Prop)
  (H : ((((Ml.hits ⟨a4, a7, a0, a8, a9, a5, a6, b1⟩) && ((!a2) || (!decide (a1 = a0)))) = true → (∀ (h3 : Heap), Ext h h3 → R (.slice none 0 0) h3)) ∧ (((Ml.hits ⟨a4, a7, a0, a8, a9, a5, a6, b1⟩) && ((!a2) || (!decide (a1 = a0)))) = false → (∀ (h3 : Heap), Ext h h3 → (∀ nb h5, nb = Array.size h3 → h5 = Array.push h3 (.cells #[(.bool a2), (.string a1)] 95) → R (.slice (some ⟨nb, 0, none⟩) 1 1) h5))))) :
  HC Tryz.prog 88 #[(.agg #[(.bool a2), (.string a1)]), (.agg #[(.int .i64 a4), (.string a7), (.string a0), (.int .i64 a8), (.bool a9), (.int .i64 a5), (.int .i64 a6), (.int .i64 b1)])] h R := by
 refine hc_of (args := [(.agg #[(.bool a2), (.string a1)]), (.agg #[(.int .i64 a4), (.string a7), (.string a0), (.int .i64 a8), (.bool a9), (.int .i64 a5), (.int .i64 a6), (.int .i64 b1)])]) Tryz.func88 rfl Tryz.ntmps88 (Nat.le_of_ble_eq_true rfl) ?_
 refine xs (xr ?_)
 refine lp rfl rfl (hn_box (v := (.agg #[(.bool a2), (.string a1)])) rfl ?_)
 intro b4 h1 c2 c3
 have c6 := ext_pushed_f67_sh c3
 have d2 : Array.size h ≤ b4 := Nat.le_of_eq (Eq.symm c2)
 have b3 : h1[b4]? = some (.cells #[(.bool a2), (.string a1)] 95 (0, 0)) := by rw [c3]; exact push_new c2
 refine lp rfl rfl (hn_box (v := (.agg #[(.int .i64 a4), (.string a7), (.string a0), (.int .i64 a8), (.bool a9), (.int .i64 a5), (.int .i64 a6), (.int .i64 b1)])) rfl ?_)
 intro m h2 c0 c5
 have c4 := ext_pushed_f67_sh c5
 have d1 := Nat.ne_of_lt (Nat.lt_of_lt_of_eq (row_lt b3) (Eq.symm c0))
 have c9 : Array.size h ≤ m := Nat.le_trans (Ext.size c6) (Nat.le_of_eq (Eq.symm c0))
 have b2 : h2[m]? = some (.cells #[(.int .i64 a4), (.string a7), (.string a0), (.int .i64 a8), (.bool a9), (.int .i64 a5), (.int .i64 a6), (.int .i64 b1)] 40 (0, 0)) := by rw [c5]; exact push_new c0
 replace b3 := Ext.row c4 b3
 have c8 := Ext.trans c6 c4
 refine lv rfl rfl (va rfl) ?_
 refine ln (qn (xs ?_))
 refine xk (fun ρ h' => (Ext h h' ∧ h'[b4]? = some (.cells #[(.bool a2), (.string a1)] 95 (0, 0)) ∧ True) ∧ Has ρ [(2, (ptr b4 0)), (18, (.bool ((Ml.hits ⟨a4, a7, a0, a8, a9, a5, a6, b1⟩) && ((!a2) || (!decide (a1 = a0))))))]) ?_ ?_
 ·refine xr ?_
  refine lv rfl rfl (vL (vs := [(.int .i64 a4), (.string a7), (.string a0), (.int .i64 a8), (.bool a9), (.int .i64 a5), (.int .i64 a6), (.int .i64 b1)]) TyShC.agg40 TyShC.sz40 rfl (cc (rc b2 rfl) (cc (rc b2 rfl) (cc (rc b2 rfl) (cc (rc b2 rfl) (cc (rc b2 rfl) (cc (rc b2 rfl) (cc (rc b2 rfl) (cc (rc b2 rfl) cn))))))))) ?_
  refine lp rfl rfl (sc TyShC.cb58 rfl (HC.mono (hits_c (⟨a4, a7, a0, a8, a9, a5, a6, b1⟩) _) ?_))
  rintro _ h4 ⟨rfl, b5⟩
  replace b3 := Ext.row b5 b3
  replace b2 := Ext.row b5 b2
  have b7 := Ext.trans c8 b5
  refine lv rfl rfl (vm rfl) ?_
  rcases bool_or (Ml.hits ⟨a4, a7, a0, a8, a9, a5, a6, b1⟩) with a3 | a3
  ·refine ly (wanted_y rfl rfl rfl a3) rfl (HStep.of_val (v := (ptr b4 0)) (vf TyShC.fld95_0 (b := b4) (o := 0) rfl) ?_)
   refine ly (wanted_y rfl rfl rfl a3) rfl (HStep.of_val (v := (.bool a2)) (vl TyShC.agg4 rfl (rc b3 rfl)) ?_)
   refine ly (wanted_y rfl rfl rfl a3) rfl (HStep.of_val (v := (.bool (!a2))) (hv_not (b := a2) rfl) ?_)
   refine ly (wanted_y rfl rfl rfl a3) rfl (HStep.of_val (v := (.bool (!a2))) (vm rfl) ?_)
   rcases bool_or (!a2) with b0 | b0
   ·refine lo (wanted_n rfl rfl rfl b0) rfl ?_
    refine lo (wanted_n rfl rfl rfl b0) rfl ?_
    refine lo (wanted_n rfl rfl rfl b0) rfl ?_
    refine lo (wanted_n rfl rfl rfl b0) rfl ?_
    refine lo (wanted_n rfl rfl rfl b0) rfl ?_
    refine ly (wanted_y rfl rfl rfl a3) rfl (HStep.of_val (v := (.bool true)) (hv_pick_t rfl b0 rfl) ?_)
    refine lv rfl rfl (v := (.bool true)) (hv_pick_t rfl a3 rfl) ?_
    refine ln (qn ?_)
    exact ⟨⟨b7, (row_congr b3 (by first | rfl | ((try rw [a3]); (try rw [b0]); all_goals first | rfl | (simp only [Bool.true_or, Bool.or_true, Bool.false_or, Bool.or_false, Bool.true_and, Bool.and_true, Bool.false_and, Bool.and_false, Bool.not_true, Bool.not_false, Bool.cond_true, Bool.cond_false]; done)) | simp [a3, b0])), trivial⟩, (hc rfl (hc (show ((.bool true) : Value) = (.bool ((Ml.hits ⟨a4, a7, a0, a8, a9, a5, a6, b1⟩) && ((!a2) || (!decide (a1 = a0))))) from (by first | rfl | ((try rw [a3]); (try rw [b0]); all_goals first | rfl | (simp only [Bool.true_or, Bool.or_true, Bool.false_or, Bool.or_false, Bool.true_and, Bool.and_true, Bool.false_and, Bool.and_false, Bool.not_true, Bool.not_false, Bool.cond_true, Bool.cond_false]; done)) | simp [a3, b0])) hn))⟩
   ·refine ly (wanted_y rfl rfl rfl b0) rfl (HStep.of_val (v := (ptr b4 1)) (vf TyShC.fld95_1 (b := b4) (o := 0) rfl) ?_)
    refine ly (wanted_y rfl rfl rfl b0) rfl (HStep.of_val (v := (.string a1)) (vl TyShC.agg9 rfl (rc b3 rfl)) ?_)
    refine ly (wanted_y rfl rfl rfl b0) rfl (HStep.of_val (v := (ptr m 2)) (vf TyShC.fld40_2 (b := m) (o := 0) rfl) ?_)
    refine ly (wanted_y rfl rfl rfl b0) rfl (HStep.of_val (v := (.string a0)) (vl TyShC.agg9 rfl (rc b2 rfl)) ?_)
    refine ly (wanted_y rfl rfl rfl b0) rfl (HStep.of_val (v := (.bool (!decide (a1 = a0)))) (hv_str rfl rfl rfl) ?_)
    refine ly (wanted_y rfl rfl rfl a3) rfl (HStep.of_val (v := (.bool (!decide (a1 = a0)))) (hv_pick_f rfl b0 rfl) ?_)
    refine lv rfl rfl (v := (.bool (!decide (a1 = a0)))) (hv_pick_t rfl a3 rfl) ?_
    refine ln (qn ?_)
    exact ⟨⟨b7, (row_congr b3 (by first | rfl | ((try rw [a3]); (try rw [b0]); all_goals first | rfl | (simp only [Bool.true_or, Bool.or_true, Bool.false_or, Bool.or_false, Bool.true_and, Bool.and_true, Bool.false_and, Bool.and_false, Bool.not_true, Bool.not_false, Bool.cond_true, Bool.cond_false]; done)) | simp [a3, b0])), trivial⟩, (hc rfl (hc (show ((.bool (!decide (a1 = a0))) : Value) = (.bool ((Ml.hits ⟨a4, a7, a0, a8, a9, a5, a6, b1⟩) && ((!a2) || (!decide (a1 = a0))))) from (by first | rfl | ((try rw [a3]); (try rw [b0]); all_goals first | rfl | (simp only [Bool.true_or, Bool.or_true, Bool.false_or, Bool.or_false, Bool.true_and, Bool.and_true, Bool.false_and, Bool.and_false, Bool.not_true, Bool.not_false, Bool.cond_true, Bool.cond_false]; done)) | simp [a3, b0])) hn))⟩
  ·refine lo (wanted_n rfl rfl rfl a3) rfl ?_
   refine lo (wanted_n rfl rfl rfl a3) rfl ?_
   refine lo (wanted_n rfl rfl rfl a3) rfl ?_
   refine lo (wanted_n rfl rfl rfl a3) rfl ?_
   refine lo (wanted_u rfl rfl rfl) rfl ?_
   refine lo (wanted_u rfl rfl rfl) rfl ?_
   refine lo (wanted_u rfl rfl rfl) rfl ?_
   refine lo (wanted_u rfl rfl rfl) rfl ?_
   refine lo (wanted_u rfl rfl rfl) rfl ?_
   refine lo (wanted_n rfl rfl rfl a3) rfl ?_
   refine lv rfl rfl (v := (.bool false)) (hv_pick_f rfl a3 rfl) ?_
   refine ln (qn ?_)
   exact ⟨⟨b7, (row_congr b3 (by first | rfl | ((try rw [a3]); all_goals first | rfl | (simp only [Bool.true_or, Bool.or_true, Bool.false_or, Bool.or_false, Bool.true_and, Bool.and_true, Bool.false_and, Bool.and_false, Bool.not_true, Bool.not_false, Bool.cond_true, Bool.cond_false]; done)) | simp [a3])), trivial⟩, (hc rfl (hc (show ((.bool false) : Value) = (.bool ((Ml.hits ⟨a4, a7, a0, a8, a9, a5, a6, b1⟩) && ((!a2) || (!decide (a1 = a0))))) from (by first | rfl | ((try rw [a3]); all_goals first | rfl | (simp only [Bool.true_or, Bool.or_true, Bool.false_or, Bool.or_false, Bool.true_and, Bool.and_true, Bool.false_and, Bool.and_false, Bool.not_true, Bool.not_false, Bool.cond_true, Bool.cond_false]; done)) | simp [a3])) hn))⟩
 ·rintro ρ h3 ⟨⟨b8, b9, -⟩, hH⟩
  refine xh _ hH ?_
  refine xc (b := ((Ml.hits ⟨a4, a7, a0, a8, a9, a5, a6, b1⟩) && ((!a2) || (!decide (a1 = a0))))) rfl (fun b6 => ?_) (fun b6 => ?_)
  ·replace H := H.1 b6
   refine xs (xr ?_)
   refine lv rfl rfl (va rfl) ?_
   refine ln (qn (xt (qr ?_)))
   replace H := H h3 b8
   exact endQ_ret _ (res_one Tryz.results88 (rv_tmp rfl)) H
  ·replace H := H.2 b6
   refine xi (qn (xs (xr ?_)))
   refine lv rfl rfl (vL (vs := [(.bool a2), (.string a1)]) TyShC.agg95 TyShC.sz95 rfl (cc (rc b9 rfl) (cc (rc b9 rfl) cn))) ?_
   replace H := H h3 b8
   refine lp rfl rfl (hn_buildSlice (n := 1) (vs := [(0, (.agg #[(.bool a2), (.string a1)]))]) (cs := #[(.bool a2), (.string a1)]) TyShC.u69 TyShC.sz95 TyShC.z95 rfl rfl (by kernel_rfl) ?_)
   intro nb h5 c7 c1
   replace H := H nb h5 c7 c1
   have d0 := ext_pushed_f67_sh c1
   refine lv rfl rfl (va rfl) ?_
   refine ln (qn (xt ?_))
   exact endQ_ret _ (res_one Tryz.results88 (rv_tmp rfl)) H
theorem f89_sh (a8 : Bool) (a4 : ByteArray) (a1 : Int) (a7 : ByteArray) (a0 : ByteArray) (a5 : Int) (a6 : Bool) (a2 : Int) (a3 : Int) (a9 : Int) (h : Heap) (R : Value → Heap → Prop)
  (H : ((((Ml.fate ⟨a1, a7, a0, a5, a6, a2, a3, a9⟩ : Int) == 1) = true → (∀ (b3 : Nat) (b4 : Nat) (h5 : Heap), Array.size h ≤ b3 → b3 < Array.size h5 → Array.size h ≤ b4 → b4 < Array.size h5 → Ext h h5 → (∀ nb h6, nb = Array.size h5 → h6 = Array.push h5 (.cells #[(.bool true), (.string a0)] 95) → R (.slice (some ⟨nb, 0, none⟩) 1 1) h6))) ∧ (((Ml.fate ⟨a1, a7, a0, a5, a6, a2, a3, a9⟩ : Int) == 1) = false → ((((Ml.fate ⟨a1, a7, a0, a5, a6, a2, a3, a9⟩ : Int) == 2) = true → (∀ (b3 : Nat) (b4 : Nat) (h5 : Heap), Array.size h ≤ b3 → b3 < Array.size h5 → Array.size h ≤ b4 → b4 < Array.size h5 → Ext h h5 → HC Tryz.prog 46 #[] h5 (fun vv h7 => Kp [b3, b4] h5 h7 ∧ ∃ r : Option Addr, ∃ c6 c7 : Nat, vv = (.slice r c6 c7) ∧ R (.slice r c6 c7) h7))) ∧ (((Ml.fate ⟨a1, a7, a0, a5, a6, a2, a3, a9⟩ : Int) == 2) = false → ((((Ml.fate ⟨a1, a7, a0, a5, a6, a2, a3, a9⟩ : Int) == 3) = true → (∀ (b3 : Nat) (h8 : Heap), Array.size h ≤ b3 → b3 < Array.size h8 → Ext h h8 → (∀ nb h9, nb = Array.size h8 → h9 = Array.push h8 (.cells #[(.bool true), (.string a0), (.bool false), (.string ByteArray.empty), (.bool a8), (.string a4)] 95) → R (.slice (some ⟨nb, 0, none⟩) 3 3) h9))) ∧ (((Ml.fate ⟨a1, a7, a0, a5, a6, a2, a3, a9⟩ : Int) == 3) = false → (∀ (h5 : Heap), Ext h h5 → (∀ nb c0, nb = Array.size h5 → c0 = Array.push h5 (.cells #[(.bool a8), (.string a4)] 95) → R (.slice (some ⟨nb, 0, none⟩) 1 1) c0))))))))) :
  HC Tryz.prog 89 #[(.agg #[(.bool a8), (.string a4)]), (.agg #[(.int .i64 a1), (.string a7), (.string a0), (.int .i64 a5), (.bool a6), (.int .i64 a2), (.int .i64 a3), (.int .i64 a9)])] h R := by
 refine hc_of (args := [(.agg #[(.bool a8), (.string a4)]), (.agg #[(.int .i64 a1), (.string a7), (.string a0), (.int .i64 a5), (.bool a6), (.int .i64 a2), (.int .i64 a3), (.int .i64 a9)])]) Tryz.func89 rfl Tryz.ntmps89 (Nat.le_of_ble_eq_true rfl) ?_
 refine xs (xr ?_)
 refine lp rfl rfl (hn_box (v := (.agg #[(.bool a8), (.string a4)])) rfl ?_)
 intro b3 h1 d9 e0
 have e3 := ext_pushed_f67_sh e0
 have d7 : Array.size h ≤ b3 := Nat.le_of_eq (Eq.symm d9)
 have b0 : h1[b3]? = some (.cells #[(.bool a8), (.string a4)] 95 (0, 0)) := by rw [e0]; exact push_new d9
 refine lp rfl rfl (hn_box (v := (.agg #[(.int .i64 a1), (.string a7), (.string a0), (.int .i64 a5), (.bool a6), (.int .i64 a2), (.int .i64 a3), (.int .i64 a9)])) rfl ?_)
 intro m h2 d5 e1
 have e2 := ext_pushed_f67_sh e1
 have f3 := Nat.ne_of_lt (Nat.lt_of_lt_of_eq (row_lt b0) (Eq.symm d5))
 have f4 : Array.size h ≤ m := Nat.le_trans (Ext.size e3) (Nat.le_of_eq (Eq.symm d5))
 have b2 : h2[m]? = some (.cells #[(.int .i64 a1), (.string a7), (.string a0), (.int .i64 a5), (.bool a6), (.int .i64 a2), (.int .i64 a3), (.int .i64 a9)] 40 (0, 0)) := by rw [e1]; exact push_new d5
 replace b0 := Ext.row e2 b0
 have d6 := Ext.trans e3 e2
 refine lv rfl rfl (va rfl) ?_
 refine ln (qn (xs (xr ?_)))
 refine lv rfl rfl (v := (ptr m 2)) (vf TyShC.fld40_2 (b := m) (o := 0) rfl) (lv rfl rfl (vl TyShC.agg9 rfl (rc b2 rfl)) (lv rfl rfl (v := (.agg #[(.bool true), (.string a0)])) (vb (vs := [(0, (.bool true)), (1, (.string a0))]) (cs := #[(.bool true), (.string a0)]) TyShC.z95 TyShC.pl95 rfl (by kernel_rfl)) ?_))
 refine lp rfl rfl (hn_alloc TyShC.z95 ?_)
 intro b4 h3 b8 d8
 have c4 := ext_pushed_f67_sh d8
 have e4 := Nat.ne_of_lt (Nat.lt_of_lt_of_eq (row_lt b0) (Eq.symm b8))
 have e9 := Nat.ne_of_lt (Nat.lt_of_lt_of_eq (row_lt b2) (Eq.symm b8))
 have c3 : Array.size h ≤ b4 := Nat.le_trans (Ext.size d6) (Nat.le_of_eq (Eq.symm b8))
 have d4 : h3[b4]? = some (.cells #[(.bool false), (.string ByteArray.empty)] 95 (0, 0)) := by rw [d8]; exact push_new b8
 replace b0 := Ext.row c4 b0
 replace b2 := Ext.row c4 b2
 have e8 := Ext.trans d6 c4
 refine lp rfl rfl (hn_stores (vs := [(.bool true), (.string a0)]) rfl rfl TyShC.sz95 rfl (HWs_row d4 (by simp)) ?_)
 intro h4 b9
 replace b0 := row_hsets_ne b9 e4 b0
 replace b2 := row_hsets_ne b9 e9 b2
 have b1 : h4[b4]? = some (.cells #[(.bool true), (.string a0)] 95 (0, 0)) := row_hsets_eq b9 d4 rfl
 have e5 := ext_hsets b9 e8 c3
 refine ln (qn (xs (xs (xr ?_))))
 refine lv rfl rfl (vL (vs := [(.int .i64 a1), (.string a7), (.string a0), (.int .i64 a5), (.bool a6), (.int .i64 a2), (.int .i64 a3), (.int .i64 a9)]) TyShC.agg40 TyShC.sz40 rfl (cc (rc b2 rfl) (cc (rc b2 rfl) (cc (rc b2 rfl) (cc (rc b2 rfl) (cc (rc b2 rfl) (cc (rc b2 rfl) (cc (rc b2 rfl) (cc (rc b2 rfl) cn))))))))) ?_
 refine lp rfl rfl (sc TyShC.cb107 rfl (HC.mono (fate_c (⟨a1, a7, a0, a5, a6, a2, a3, a9⟩) _) ?_))
 rintro _ h5 ⟨rfl, b6⟩
 replace b0 := Ext.row b6 b0
 replace b2 := Ext.row b6 b2
 replace b1 := Ext.row b6 b1
 have b7 := Ext.trans e5 b6
 refine ln (qn (xb (xs (xr ?_))))
 refine lv rfl rfl (vr rfl rfl rfl) (lv rfl rfl (va rfl) ?_)
 refine ln (qn ?_)
 refine xc (b := (Ml.fate ⟨a1, a7, a0, a5, a6, a2, a3, a9⟩ : Int) == 1) rfl (fun c1 => ?_) (fun c1 => ?_)
 ·replace H := H.1 c1
  refine xs (xr ?_)
  refine lv rfl rfl (vL (vs := [(.bool true), (.string a0)]) TyShC.agg95 TyShC.sz95 rfl (cc (rc b1 rfl) (cc (rc b1 rfl) cn))) ?_
  replace H := H b3 b4 h5 d7 (row_lt b0) c3 (row_lt b1) b7
  refine lp rfl rfl (hn_buildSlice (n := 1) (vs := [(0, (.agg #[(.bool true), (.string a0)]))]) (cs := #[(.bool true), (.string a0)]) TyShC.u69 TyShC.sz95 TyShC.z95 rfl rfl (by kernel_rfl) ?_)
  intro nb h6 e6 c9
  replace H := H nb h6 e6 c9
  have d0 := ext_pushed_f67_sh c9
  replace b0 := Ext.row d0 b0
  replace b1 := Ext.row d0 b1
  refine lv rfl rfl (va rfl) ?_
  refine ln (qn (xt (br (qr ?_))))
  exact endQ_ret _ (res_one Tryz.results89 (rv_tmp rfl)) H
 ·replace H := H.2 c1
  refine xs (xr ?_)
  refine lv rfl rfl (vr rfl rfl rfl) (lv rfl rfl (va rfl) ?_)
  refine ln (qn ?_)
  refine xc (b := (Ml.fate ⟨a1, a7, a0, a5, a6, a2, a3, a9⟩ : Int) == 2) rfl (fun c2 => ?_) (fun c2 => ?_)
  ·replace H := H.1 c2
   refine xs (xr ?_)
   replace H := H b3 b4 h5 d7 (row_lt b0) c3 (row_lt b1) b7
   refine lp rfl rfl (sc TyShC.cb46 rfl (HC.mono H ?_))
   rintro _ h7 ⟨d2, r, c6, c7, rfl, H⟩
   replace b0 := Kp.row d2 (by simp) b0
   replace b1 := Kp.row d2 (by simp) b1
   refine lv rfl rfl (va rfl) ?_
   refine ln (qn (xt (br (qr ?_))))
   exact endQ_ret _ (res_one Tryz.results89 (rv_tmp rfl)) H
  ·replace H := H.2 c2
   refine xs (xr ?_)
   refine lv rfl rfl (vr rfl rfl rfl) (lv rfl rfl (va rfl) ?_)
   refine ln (qn ?_)
   refine xc (b := (Ml.fate ⟨a1, a7, a0, a5, a6, a2, a3, a9⟩ : Int) == 3) rfl (fun c5 => ?_) (fun c5 => ?_)
   ·replace H := H.1 c5
    refine xs ?_
    refine hx_draw TyShC.mixed [.read, .ext, .read, .ext, .pure] [0, 2, 1, 3, 4] (by kernel_rfl) ?_
    refine pr (i := 0) rfl (wanted_0 rfl) rfl (.agg #[(.bool true), (.string a0)]) (fun _ he => vL (vs := [(.bool true), (.string a0)]) TyShC.agg95 TyShC.sz95 rfl (cc (Ext.cell he (rc b1 rfl)) (cc (Ext.cell he (rc b1 rfl)) cn))) ?_
    refine pr (i := 2) rfl (wanted_0 rfl) rfl (.agg #[(.bool a8), (.string a4)]) (fun _ he => vL (vs := [(.bool a8), (.string a4)]) TyShC.agg95 TyShC.sz95 rfl (cc (Ext.cell he (rc b0 rfl)) (cc (Ext.cell he (rc b0 rfl)) cn))) ?_
    refine hp_ext (i := 1) rfl (wanted_0 rfl) rfl (sc TyShC.cb61 rfl (HC.mono (none_c  _) ?_))
    rintro _ h8 ⟨rfl, b5⟩
    refine ⟨b5, ?_⟩
    replace b0 := Ext.row b5 b0
    replace b2 := Ext.row b5 b2
    replace b1 := Ext.row b5 b1
    have f1 := Ext.trans b7 b5
    replace H := H b3 h8 d7 (row_lt b0) f1
    refine hp_ext (i := 3) rfl (wanted_0 rfl) rfl (hn_buildSlice (n := 3) (vs := [(0, (.agg #[(.bool true), (.string a0)])), (1, (.agg #[(.bool false), (.string ByteArray.empty)])), (2, (.agg #[(.bool a8), (.string a4)]))]) (cs := #[(.bool true), (.string a0), (.bool false), (.string ByteArray.empty), (.bool a8), (.string a4)]) TyShC.u69 TyShC.sz95 TyShC.z95 rfl rfl (by kernel_rfl) ?_)
    intro nb h9 f0 d3
    replace H := H nb h9 f0 d3
    have d1 := ext_pushed_f67_sh d3
    replace b0 := Ext.row d1 b0
    refine ⟨d1, ?_⟩
    refine pp (i := 4) rfl (wanted_0 rfl) rfl (.slice (some ⟨nb, 0, none⟩) 3 3) (fun _ => va rfl) ?_
    refine hp_nil ?_
    refine qn (xt (br (qr ?_)))
    exact endQ_ret _ (res_one Tryz.results89 (rv_tmp rfl)) H
   ·replace H := H.2 c5
    refine xi (bn (qn (xs (xr ?_))))
    refine lv rfl rfl (vL (vs := [(.bool a8), (.string a4)]) TyShC.agg95 TyShC.sz95 rfl (cc (rc b0 rfl) (cc (rc b0 rfl) cn))) ?_
    replace H := H h5 b7
    refine lp rfl rfl (hn_buildSlice (n := 1) (vs := [(0, (.agg #[(.bool a8), (.string a4)]))]) (cs := #[(.bool a8), (.string a4)]) TyShC.u69 TyShC.sz95 TyShC.z95 rfl rfl (by kernel_rfl) ?_)
    intro nb c0 e7 c8
    replace H := H nb c0 e7 c8
    have f2 := ext_pushed_f67_sh c8
    refine lv rfl rfl (va rfl) ?_
    refine ln (qn (xt ?_))
    exact endQ_ret _ (res_one Tryz.results89 (rv_tmp rfl)) H
theorem f90_sh (a5 : Bool) (a0 : ByteArray) (a2 : Int) (a6 : ByteArray) (a1 : ByteArray) (a7 : Int) (a8 : Bool) (a3 : Int) (a4 : Int) (a9 : Int) (h : Heap) (R : Value → Heap → Prop)
  (H : ((((Ml.fate ⟨a2, a6, a1, a7, a8, a3, a4, a9⟩ : Int) == 1) = true → (∀ (b2 : Nat) (h3 : Heap), Array.size h ≤ b2 → b2 < Array.size h3 → Ext h h3 → HC Tryz.prog 46 #[] h3 (fun vv h4 => Kp [b2] h3 h4 ∧ ∃ r : Option Addr, ∃ b8 b9 : Nat, vv = (.slice r b8 b9) ∧ R (.slice r b8 b9) h4))) ∧ (((Ml.fate ⟨a2, a6, a1, a7, a8, a3, a4, a9⟩ : Int) == 1) = false → ((((Ml.fate ⟨a2, a6, a1, a7, a8, a3, a4, a9⟩ : Int) == 3) = true → (∀ (b2 : Nat) (h5 : Heap), Array.size h ≤ b2 → b2 < Array.size h5 → Ext h h5 → (∀ nb h6, nb = Array.size h5 → h6 = Array.push h5 (.cells #[(.bool false), (.string ByteArray.empty), (.bool a5), (.string a0)] 95) → R (.slice (some ⟨nb, 0, none⟩) 2 2) h6))) ∧ (((Ml.fate ⟨a2, a6, a1, a7, a8, a3, a4, a9⟩ : Int) == 3) = false → (∀ (h3 : Heap), Ext h h3 → (∀ nb h7, nb = Array.size h3 → h7 = Array.push h3 (.cells #[(.bool a5), (.string a0)] 95) → R (.slice (some ⟨nb, 0, none⟩) 1 1) h7))))))) :
  HC Tryz.prog 90 #[(.agg #[(.bool a5), (.string a0)]), (.agg #[(.int .i64 a2), (.string a6), (.string a1), (.int .i64 a7), (.bool a8), (.int .i64 a3), (.int .i64 a4), (.int .i64 a9)])] h R := by
 refine hc_of (args := [(.agg #[(.bool a5), (.string a0)]), (.agg #[(.int .i64 a2), (.string a6), (.string a1), (.int .i64 a7), (.bool a8), (.int .i64 a3), (.int .i64 a4), (.int .i64 a9)])]) Tryz.func90 rfl Tryz.ntmps90 (Nat.le_of_ble_eq_true rfl) ?_
 refine xs (xr ?_)
 refine lp rfl rfl (hn_box (v := (.agg #[(.bool a5), (.string a0)])) rfl ?_)
 intro b2 h1 c4 c5
 have c8 := ext_pushed_f67_sh c5
 have c9 : Array.size h ≤ b2 := Nat.le_of_eq (Eq.symm c4)
 have b0 : h1[b2]? = some (.cells #[(.bool a5), (.string a0)] 95 (0, 0)) := by rw [c5]; exact push_new c4
 refine lp rfl rfl (hn_box (v := (.agg #[(.int .i64 a2), (.string a6), (.string a1), (.int .i64 a7), (.bool a8), (.int .i64 a3), (.int .i64 a4), (.int .i64 a9)])) rfl ?_)
 intro m h2 c1 c7
 have c6 := ext_pushed_f67_sh c7
 have d6 := Nat.ne_of_lt (Nat.lt_of_lt_of_eq (row_lt b0) (Eq.symm c1))
 have d5 : Array.size h ≤ m := Nat.le_trans (Ext.size c8) (Nat.le_of_eq (Eq.symm c1))
 have b1 : h2[m]? = some (.cells #[(.int .i64 a2), (.string a6), (.string a1), (.int .i64 a7), (.bool a8), (.int .i64 a3), (.int .i64 a4), (.int .i64 a9)] 40 (0, 0)) := by rw [c7]; exact push_new c1
 replace b0 := Ext.row c6 b0
 have d3 := Ext.trans c8 c6
 refine lv rfl rfl (va rfl) ?_
 refine ln (qn (xs (xs (xr ?_))))
 refine lv rfl rfl (vL (vs := [(.int .i64 a2), (.string a6), (.string a1), (.int .i64 a7), (.bool a8), (.int .i64 a3), (.int .i64 a4), (.int .i64 a9)]) TyShC.agg40 TyShC.sz40 rfl (cc (rc b1 rfl) (cc (rc b1 rfl) (cc (rc b1 rfl) (cc (rc b1 rfl) (cc (rc b1 rfl) (cc (rc b1 rfl) (cc (rc b1 rfl) (cc (rc b1 rfl) cn))))))))) ?_
 refine lp rfl rfl (sc TyShC.cb107 rfl (HC.mono (fate_c (⟨a2, a6, a1, a7, a8, a3, a4, a9⟩) _) ?_))
 rintro _ h3 ⟨rfl, b5⟩
 replace b0 := Ext.row b5 b0
 replace b1 := Ext.row b5 b1
 have b7 := Ext.trans d3 b5
 refine ln (qn (xb (xs (xr ?_))))
 refine lv rfl rfl (vr rfl rfl rfl) (lv rfl rfl (va rfl) ?_)
 refine ln (qn ?_)
 refine xc (b := (Ml.fate ⟨a2, a6, a1, a7, a8, a3, a4, a9⟩ : Int) == 1) rfl (fun b6 => ?_) (fun b6 => ?_)
 ·replace H := H.1 b6
  refine xs (xr ?_)
  replace H := H b2 h3 c9 (row_lt b0) b7
  refine lp rfl rfl (sc TyShC.cb46 rfl (HC.mono H ?_))
  rintro _ h4 ⟨d2, r, b8, b9, rfl, H⟩
  replace b0 := Kp.row d2 (by simp) b0
  refine lv rfl rfl (va rfl) ?_
  refine ln (qn (xt (br (qr ?_))))
  exact endQ_ret _ (res_one Tryz.results90 (rv_tmp rfl)) H
 ·replace H := H.2 b6
  refine xs (xr ?_)
  refine lv rfl rfl (vr rfl rfl rfl) (lv rfl rfl (va rfl) ?_)
  refine ln (qn ?_)
  refine xc (b := (Ml.fate ⟨a2, a6, a1, a7, a8, a3, a4, a9⟩ : Int) == 3) rfl (fun b4 => ?_) (fun b4 => ?_)
  ·replace H := H.1 b4
   refine xs ?_
   refine hx_draw TyShC.mixed [.ext, .read, .ext, .pure] [1, 0, 2, 3] (by kernel_rfl) ?_
   refine pr (i := 1) rfl (wanted_0 rfl) rfl (.agg #[(.bool a5), (.string a0)]) (fun _ he => vL (vs := [(.bool a5), (.string a0)]) TyShC.agg95 TyShC.sz95 rfl (cc (Ext.cell he (rc b0 rfl)) (cc (Ext.cell he (rc b0 rfl)) cn))) ?_
   refine hp_ext (i := 0) rfl (wanted_0 rfl) rfl (sc TyShC.cb61 rfl (HC.mono (none_c  _) ?_))
   rintro _ h5 ⟨rfl, b3⟩
   refine ⟨b3, ?_⟩
   replace b0 := Ext.row b3 b0
   replace b1 := Ext.row b3 b1
   have d4 := Ext.trans b7 b3
   replace H := H b2 h5 c9 (row_lt b0) d4
   refine hp_ext (i := 2) rfl (wanted_0 rfl) rfl (hn_buildSlice (n := 2) (vs := [(0, (.agg #[(.bool false), (.string ByteArray.empty)])), (1, (.agg #[(.bool a5), (.string a0)]))]) (cs := #[(.bool false), (.string ByteArray.empty), (.bool a5), (.string a0)]) TyShC.u69 TyShC.sz95 TyShC.z95 rfl rfl (by kernel_rfl) ?_)
   intro nb h6 d1 c3
   replace H := H nb h6 d1 c3
   have c0 := ext_pushed_f67_sh c3
   replace b0 := Ext.row c0 b0
   refine ⟨c0, ?_⟩
   refine pp (i := 3) rfl (wanted_0 rfl) rfl (.slice (some ⟨nb, 0, none⟩) 2 2) (fun _ => va rfl) ?_
   refine hp_nil ?_
   refine qn (xt (br (qr ?_)))
   exact endQ_ret _ (res_one Tryz.results90 (rv_tmp rfl)) H
  ·replace H := H.2 b4
   refine xi (bn (qn (xs (xr ?_))))
   refine lv rfl rfl (vL (vs := [(.bool a5), (.string a0)]) TyShC.agg95 TyShC.sz95 rfl (cc (rc b0 rfl) (cc (rc b0 rfl) cn))) ?_
   replace H := H h3 b7
   refine lp rfl rfl (hn_buildSlice (n := 1) (vs := [(0, (.agg #[(.bool a5), (.string a0)]))]) (cs := #[(.bool a5), (.string a0)]) TyShC.u69 TyShC.sz95 TyShC.z95 rfl rfl (by kernel_rfl) ?_)
   intro nb h7 d0 c2
   replace H := H nb h7 d0 c2
   have d7 := ext_pushed_f67_sh c2
   refine lv rfl rfl (va rfl) ?_
   refine ln (qn (xt ?_))
   exact endQ_ret _ (res_one Tryz.results90 (rv_tmp rfl)) H
theorem f46_sh  (h : Heap) (R : Value → Heap → Prop)
  (H : (∀ (h1 : Heap), Ext h h1 → (∀ nb h2, nb = Array.size h1 → h2 = Array.push h1 (.cells #[(.bool false), (.string ByteArray.empty)] 95) → R (.slice (some ⟨nb, 0, none⟩) 1 1) h2))) :
  HC Tryz.prog 46 #[] h R := by
 refine hc_of (args := []) Tryz.func46 rfl Tryz.ntmps46 (Nat.le_of_ble_eq_true rfl) ?_
 refine xs (xr ?_)
 refine lv rfl rfl (va rfl) ?_
 refine ln (qn (xs (xr ?_)))
 refine lp rfl rfl (sc TyShC.cb61 rfl (HC.mono (none_c  _) ?_))
 rintro _ h1 ⟨rfl, a1⟩
 replace H := H h1 a1
 refine lp rfl rfl (hn_buildSlice (n := 1) (vs := [(0, (.agg #[(.bool false), (.string ByteArray.empty)]))]) (cs := #[(.bool false), (.string ByteArray.empty)]) TyShC.u69 TyShC.sz95 TyShC.z95 rfl rfl (by kernel_rfl) ?_)
 intro nb h2 a2 a0
 replace H := H nb h2 a2 a0
 have a3 := ext_pushed_f67_sh a0
 refine lv rfl rfl (va rfl) ?_
 refine ln (qn (xt ?_))
 exact endQ_ret _ (res_one Tryz.results46 (rv_tmp rfl)) H
theorem f51_sh  (h : Heap) (R : Value → Heap → Prop)
  (H : (∀ nb h1, nb = Array.size h → h1 = Array.push h (.cells #[(.bool false), (.string ByteArray.empty)] 95) → R (.slice (some ⟨nb, 0, none⟩) 1 1) h1)) :
  HC Tryz.prog 51 #[] h R := by
 refine hc_of (args := []) Tryz.func51 rfl Tryz.ntmps51 (Nat.le_of_ble_eq_true rfl) ?_
 refine xs (xr ?_)
 refine lv rfl rfl (va rfl) ?_
 refine ln (qn (xs (xr ?_)))
 refine lv rfl rfl (v := (.agg #[(.bool false), (.string ByteArray.empty)])) (vb (vs := []) (cs := #[(.bool false), (.string ByteArray.empty)]) TyShC.z95 TyShC.pl95 rfl (by kernel_rfl)) ?_
 refine lp rfl rfl (hn_buildSlice (n := 1) (vs := [(0, (.agg #[(.bool false), (.string ByteArray.empty)]))]) (cs := #[(.bool false), (.string ByteArray.empty)]) TyShC.u69 TyShC.sz95 TyShC.z95 rfl rfl (by kernel_rfl) ?_)
 intro nb h1 a1 a0
 replace H := H nb h1 a1 a0
 have a2 := ext_pushed_f67_sh a0
 refine lv rfl rfl (va rfl) ?_
 refine ln (qn (xt ?_))
 exact endQ_ret _ (res_one Tryz.results51 (rv_tmp rfl)) H
theorem f66_sh  (h : Heap) (R : Value → Heap → Prop)
  (H : (∀ mb h1, mb = Array.size h → Ext h h1 → Array.size h1 = Array.size h + 1 → MapL h1 mb (Value.int .i64) [] → (∃ kv : List (Int × Value), MapL h1 mb (Value.int .i64) kv ∧ ∀ h2, Only mb h1 h2 → MapL h2 mb (Value.int .i64) (kput kv 1 (.func (.func 88) #[] #[])) → (∃ a0 : List (Int × Value), MapL h2 mb (Value.int .i64) a0 ∧ ∀ h3, Only mb h2 h3 → MapL h3 mb (Value.int .i64) (kput a0 2 (.func (.func 89) #[] #[])) → (∃ a1 : List (Int × Value), MapL h3 mb (Value.int .i64) a1 ∧ ∀ h4, Only mb h3 h4 → MapL h4 mb (Value.int .i64) (kput a1 3 (.func (.func 90) #[] #[])) → R (.map (some mb)) h4))))) :
  HC Tryz.prog 66 #[] h R := by
 refine hc_of (args := []) Tryz.func66 rfl Tryz.ntmps66 (Nat.le_of_ble_eq_true rfl) ?_
 refine xs (xr ?_)
 refine lv rfl rfl (va rfl) ?_
 refine ln (qn (xs (xr ?_)))
 refine lp rfl rfl (hn_makeMap (enc := (Value.int .i64)) ?_)
 intro mb h1 a6 b3 b4 a7
 replace H := H mb h1 a6 b3 b4 a7
 obtain ⟨kv, a9, H⟩ := H
 refine lp rfl rfl (hn_mapIns (l := kv) (a := 1) (intK .i64) TyShC.u105 TyShC.u3 rfl rfl rfl a9 ?_)
 intro h2 b2 a8
 replace H := H h2 b2 a8
 obtain ⟨a0, b0, H⟩ := H
 refine lp rfl rfl (hn_mapIns (l := a0) (a := 2) (intK .i64) TyShC.u105 TyShC.u3 rfl rfl rfl b0 ?_)
 intro h3 b1 a4
 replace H := H h3 b1 a4
 obtain ⟨a1, a5, H⟩ := H
 refine lp rfl rfl (hn_mapIns (l := a1) (a := 3) (intK .i64) TyShC.u105 TyShC.u3 rfl rfl rfl a5 ?_)
 intro h4 a2 a3
 replace H := H h4 a2 a3
 refine lv rfl rfl (vm rfl) (lv rfl rfl (va rfl) ?_)
 refine ln (qn (xt ?_))
 exact endQ_ret _ (res_one Tryz.results66 (rv_tmp rfl)) H
theorem f106_sh (l : Option Addr) (a1 : Nat) (a3 : Nat) (a0 : Bool) (a9 : ByteArray) (h : Heap) (R : Value → Heap → Prop)
  (H : (∀ mc : ByteArray, mc = (bif !a0 then ByteArray.empty else a9) → (∃ (d0 : Int → Prop) (c5 : Int → Nat), d0 0 ∧ (∀ (i : Int), d0 i → (∃ j : Bool, (((decide (i < (a1 : Int))) = true → (∃ d1 c9 : Nat, l = some ⟨d1, c9, none⟩ ∧ (0 : Int) ≤ i ∧ i < (a1 : Int) ∧ (∃ b0 : Bool, ∃ a7 : ByteArray, hcell h d1 (c9 + (Int.toNat i) * 2) = some (.bool b0) ∧ hcell h d1 ((c9 + (Int.toNat i) * 2) + 1) = some (.string a7) ∧ (j = (Ml.mlt ⟨b0, a7⟩ ⟨a0, mc⟩))))) ∧ ((decide (i < (a1 : Int))) = false → (j = false))) ∧ ((j = true → (d0 (IntKind.i64.wrap (i + 1)) ∧ c5 (IntKind.i64.wrap (i + 1)) < c5 i)) ∧ (j = false → (∃ c3 : Bool, (((decide (i < (a1 : Int))) = true → (∃ b6 b7 : Nat, l = some ⟨b6, b7, none⟩ ∧ (0 : Int) ≤ i ∧ i < (a1 : Int) ∧ (∃ a6 : Bool, ∃ a2 : ByteArray, hcell h b6 (b7 + (Int.toNat i) * 2) = some (.bool a6) ∧ hcell h b6 ((b7 + (Int.toNat i) * 2) + 1) = some (.string a2) ∧ (c3 = ((a6 == a0 && (a2 == mc && true))))))) ∧ ((decide (i < (a1 : Int))) = false → (c3 = false))) ∧ ((c3 = true → (∀ (h5 : Heap), Ext h h5 → R (.slice l a1 a3) h5)) ∧ (c3 = false → (∀ (m : Nat) (h5 : Heap), Array.size h ≤ m → m < Array.size h5 → Ext h h5 → (∀ nb h7, nb = Array.size h5 → h7 = Array.push h5 (.cells #[] 95) → (0 ≤ ((0 : Int) : Int) ∧ (0 : Int) ≤ i ∧ i ≤ (a3 : Int) ∧ ∀ sl : Option Addr, sl = slA l (Int.toNat 0) 2 a3 → HAppend Tryz.prog 69 69 (.slice (some ⟨nb, 0, none⟩) 0 0) (.slice sl (Int.toNat i - Int.toNat 0) (a3 - Int.toNat 0)) h7 (fun vv h8 => Kp [m] h7 h8 ∧ ∃ ap : Option Addr, ∃ c1 c0 : Nat, vv = (.slice ap c1 c0) ∧ (∀ c7 h9, c7 = Array.size h8 → h9 = Array.push h8 (.cells #[(.bool a0), (.string mc)] 95) → HAppend Tryz.prog 69 69 (.slice ap c1 c0) (.slice (some ⟨c7, 0, none⟩) 1 1) h9 (fun vv e6 => ∃ b9 : Option Addr, ∃ b2 b3 : Nat, vv = (.slice b9 b2 b3) ∧ (0 ≤ (i : Int) ∧ i ≤ (a1 : Int) ∧ (a1 : Int) ≤ (a3 : Int) ∧ ∀ c4 : Option Addr, c4 = slA l (Int.toNat i) 2 a3 → HAppend Tryz.prog 69 69 (.slice b9 b2 b3) (.slice c4 (Int.toNat (a1 : Int) - Int.toNat i) (a3 - Int.toNat i)) e6 (fun vv e7 => ∃ c6 : Option Addr, ∃ b5 b4 : Nat, vv = (.slice c6 b5 b4) ∧ R (.slice c6 b5 b4) e7)))))))))))))))))) :
  HC Tryz.prog 106 #[(.slice l a1 a3), (.agg #[(.bool a0), (.string a9)])] h R := by
 refine hc_of (args := [(.slice l a1 a3), (.agg #[(.bool a0), (.string a9)])]) Tryz.func106 rfl Tryz.ntmps106 (Nat.le_of_ble_eq_true rfl) ?_
 refine xs (xr ?_)
 refine lp rfl rfl (hn_box (v := (.agg #[(.bool a0), (.string a9)])) rfl ?_)
 intro m h1 e4 e5
 have e8 := ext_pushed_f67_sh e5
 have e9 : Array.size h ≤ m := Nat.le_of_eq (Eq.symm e4)
 have d9 : h1[m]? = some (.cells #[(.bool a0), (.string a9)] 95 (0, 0)) := by rw [e5]; exact push_new e4
 refine lv rfl rfl (va rfl) ?_
 refine ln (qn ?_)
 obtain ⟨mc, hq8⟩ : ∃ q : ByteArray, q = (bif !a0 then ByteArray.empty else a9) := ⟨_, rfl⟩
 replace H := H mc hq8
 refine xk (fun ρ h' => (Ext h h' ∧ h'[m]? = some (.cells #[(.bool a0), (.string mc)] 95 (0, 0)) ∧ True) ∧ Has ρ [(0, (.slice l a1 a3)), (3, (ptr m 0))]) ?_ ?_
 ·refine xs (xr ?_)
  refine lv rfl rfl (v := (ptr m 0)) (vf TyShC.fld95_0 (b := m) (o := 0) rfl) (lv rfl rfl (vl TyShC.agg4 rfl (rc d9 rfl)) (lv rfl rfl (v := (.bool (!a0))) (hv_not (b := a0) rfl) ?_))
  refine ln (qn ?_)
  refine xc (b := !a0) rfl (fun b1 => ?_) (fun b1 => ?_)
  ·refine xr ?_
   refine lv rfl rfl (v := (ptr m 1)) (vf TyShC.fld95_1 (b := m) (o := 0) rfl) ?_
   refine lp rfl rfl (hn_store (v := (.string ByteArray.empty)) rfl rfl TyShC.sz9 rfl (HW_row d9 (by simp)) ?_)
   intro h3 e0
   have f9 : h3[m]? = some (.cells #[(.bool a0), (.string ByteArray.empty)] 95 (0, 0)) := row_hset_eq e0 d9 rfl
   have g8 := ext_hset e0 e8 e9
   refine ln (qn ?_)
   exact ⟨⟨g8, (row_congr f9 (by first | rfl | ((try rw [b1]); (try rw [hq8]); (try rw [b1]); all_goals first | rfl | (simp only [Bool.true_or, Bool.or_true, Bool.false_or, Bool.or_false, Bool.true_and, Bool.and_true, Bool.false_and, Bool.and_false, Bool.not_true, Bool.not_false, Bool.cond_true, Bool.cond_false]; done)) | simp [b1, hq8, b1])), trivial⟩, (hc rfl (hc rfl hn))⟩
  ·refine xi (qn ?_)
   exact ⟨⟨e8, (row_congr d9 (by first | rfl | ((try rw [b1]); (try rw [hq8]); (try rw [b1]); all_goals first | rfl | (simp only [Bool.true_or, Bool.or_true, Bool.false_or, Bool.or_false, Bool.true_and, Bool.and_true, Bool.false_and, Bool.and_false, Bool.not_true, Bool.not_false, Bool.cond_true, Bool.cond_false]; done)) | simp [b1, hq8, b1])), trivial⟩, (hc rfl (hc rfl hn))⟩
 ·rintro ρ h2 ⟨⟨i6, f2, -⟩, hH⟩
  refine xh _ hH ?_
  refine xs (xr ?_)
  refine lv rfl rfl (va rfl) ?_
  refine ln (qn (xs (xb ?_)))
  obtain ⟨d0, c5, g3, g6⟩ := H
  refine xl (σ := Int) (fun s => [(0, (.slice l a1 a3)), (3, (ptr m 0)), (5, (.int .i64 s))]) (fun s h' => d0 s ∧ Ext h h' ∧ h'[m]? = some (.cells #[(.bool a0), (.string mc)] 95 (0, 0)) ∧ True) (fun s _ => c5 s) 0 ⟨g3, i6, f2, trivial⟩ (hc rfl (hc rfl (hc rfl hn))) ?_
  rintro i ρ h4 ⟨f0, c8, b8, -⟩
  have H := g6 i f0
  refine xs ?_
  obtain ⟨j, d5, d3⟩ := H
  refine xk (fun ρ h' => (Ext h h' ∧ h'[m]? = some (.cells #[(.bool a0), (.string mc)] 95 (0, 0)) ∧ True) ∧ Has ρ [(0, (.slice l a1 a3)), (3, (ptr m 0)), (5, (.int .i64 i)), (22, (.bool j))]) ?_ ?_
  ·have H := d5; clear d5 d3
   refine hx_draw TyShC.mixed [.pure, .pure, .pure, .pure, .pure, .pure, .pure, .pure, .read, .read, .ext, .pure] [0, 1, 2, 3, 4, 5, 6, 7, 8, 9, 10, 11] (by kernel_rfl) ?_
   refine pp (i := 0) rfl (wanted_0 rfl) rfl (.int .i64 i) (fun _ => vm rfl) ?_
   refine pp (i := 1) rfl (wanted_0 rfl) rfl (.slice l a1 a3) (fun _ => vm rfl) ?_
   refine pp (i := 2) rfl (wanted_0 rfl) rfl (.int .i64 (a1 : Int)) (fun _ => hv_len (n := a1) TyShC.u69 rfl) ?_
   refine pp (i := 3) rfl (wanted_0 rfl) rfl (.bool (decide (i < (a1 : Int)))) (fun _ => vr rfl rfl rfl) ?_
   refine pp (i := 4) rfl (wanted_0 rfl) rfl (.bool (decide (i < (a1 : Int)))) (fun _ => vm rfl) ?_
   rcases bool_or (decide (i < (a1 : Int))) with a5 | a5
   ·replace H := H.1 a5
    refine pp (i := 5) rfl (wanted_y rfl rfl rfl a5) rfl (.slice l a1 a3) (fun _ => vm rfl) ?_
    refine pp (i := 6) rfl (wanted_y rfl rfl rfl a5) rfl (.int .i64 i) (fun _ => vm rfl) ?_
    obtain ⟨d1, c9, e2, g9, f3, Hq⟩ := H
    subst e2
    have H := Hq; clear Hq
    refine pp (i := 7) rfl (wanted_y rfl rfl rfl a5) rfl (ptr d1 (c9 + (Int.toNat i) * 2)) (fun _ => vi TyShC.el69 rfl rfl g9 f3) ?_
    obtain ⟨b0, a7, i2, f1, H⟩ := H
    refine pr (i := 8) rfl (wanted_y rfl rfl rfl a5) rfl (.agg #[(.bool b0), (.string a7)]) (fun _ he => vL (vs := [(.bool b0), (.string a7)]) TyShC.agg95 TyShC.sz95 rfl (cc (Ext.cell he (Ext.cell c8 i2)) (cc (Ext.cell he (Ext.cell c8 f1)) cn))) ?_
    refine pr (i := 9) rfl (wanted_y rfl rfl rfl a5) rfl (.agg #[(.bool a0), (.string mc)]) (fun _ he => vL (vs := [(.bool a0), (.string mc)]) TyShC.agg95 TyShC.sz95 rfl (cc (Ext.cell he (rc b8 rfl)) (cc (Ext.cell he (rc b8 rfl)) cn))) ?_
    refine hp_ext (i := 10) rfl (wanted_y rfl rfl rfl a5) rfl (sc TyShC.cb123 rfl (HC.mono (before_c (⟨b0, a7⟩) (⟨a0, mc⟩) _) ?_))
    rintro _ h6 ⟨rfl, d2⟩
    refine ⟨d2, ?_⟩
    replace b8 := Ext.row d2 b8
    have i0 := Ext.trans c8 d2
    refine pp (i := 11) rfl (wanted_0 rfl) rfl (.bool (Ml.mlt ⟨b0, a7⟩ ⟨a0, mc⟩)) (fun _ => hv_pick_t rfl a5 rfl) ?_
    refine hp_nil ?_
    refine qn ?_
    obtain rfl := H
    exact ⟨⟨i0, b8, trivial⟩, (hc rfl (hc rfl (hc rfl (hc rfl hn))))⟩
   ·replace H := H.2 a5
    refine pn (i := 5) rfl (wanted_n rfl rfl rfl a5) ?_
    refine pn (i := 6) rfl (wanted_n rfl rfl rfl a5) ?_
    refine pn (i := 7) rfl (wanted_n rfl rfl rfl a5) ?_
    refine pn (i := 8) rfl (wanted_n rfl rfl rfl a5) ?_
    refine pn (i := 9) rfl (wanted_n rfl rfl rfl a5) ?_
    refine pn (i := 10) rfl (wanted_n rfl rfl rfl a5) ?_
    refine pp (i := 11) rfl (wanted_0 rfl) rfl (.bool false) (fun _ => hv_pick_f rfl a5 rfl) ?_
    refine hp_nil ?_
    refine qn ?_
    obtain rfl := H
    exact ⟨⟨c8, b8, trivial⟩, (hc rfl (hc rfl (hc rfl (hc rfl hn))))⟩
  ·have H := d3; clear d5 d3
   rintro ρ h5 ⟨⟨c2, a8, -⟩, hH⟩
   refine xh _ hH ?_
   refine xc (b := j) rfl (fun d7 => ?_) (fun d7 => ?_)
   ·replace H := H.1 d7
    refine xi (qn (xb (xr ?_)))
    refine lv rfl rfl (vm rfl) (lv rfl rfl (vr rfl rfl rfl) (lv rfl rfl (va rfl) ?_))
    refine ln (bn (qn ?_))
    exact ⟨IntKind.i64.wrap (i + 1), ⟨⟨H.1, c2, a8, trivial⟩, H.2⟩, (hc rfl (hc rfl (hc rfl hn)))⟩
   ·replace H := H.2 d7
    refine xe (qe (qe (bh (qn (xs ?_)))))
    obtain ⟨c3, d8, d4⟩ := H
    refine xk (fun ρ h' => h5 = h' ∧ Has ρ [(0, (.slice l a1 a3)), (3, (ptr m 0)), (5, (.int .i64 i)), (36, (.bool c3))]) ?_ ?_
    ·have H := d8; clear d8 d4
     refine hx_draw TyShC.mixed [.pure, .pure, .pure, .pure, .pure, .pure, .pure, .pure, .read, .read, .pure, .pure] [0, 1, 2, 3, 4, 5, 6, 7, 8, 9, 10, 11] (by kernel_rfl) ?_
     refine pp (i := 0) rfl (wanted_0 rfl) rfl (.int .i64 i) (fun _ => vm rfl) ?_
     refine pp (i := 1) rfl (wanted_0 rfl) rfl (.slice l a1 a3) (fun _ => vm rfl) ?_
     refine pp (i := 2) rfl (wanted_0 rfl) rfl (.int .i64 (a1 : Int)) (fun _ => hv_len (n := a1) TyShC.u69 rfl) ?_
     refine pp (i := 3) rfl (wanted_0 rfl) rfl (.bool (decide (i < (a1 : Int)))) (fun _ => vr rfl rfl rfl) ?_
     refine pp (i := 4) rfl (wanted_0 rfl) rfl (.bool (decide (i < (a1 : Int)))) (fun _ => vm rfl) ?_
     rcases bool_or (decide (i < (a1 : Int))) with a4 | a4
     ·replace H := H.1 a4
      refine pp (i := 5) rfl (wanted_y rfl rfl rfl a4) rfl (.slice l a1 a3) (fun _ => vm rfl) ?_
      refine pp (i := 6) rfl (wanted_y rfl rfl rfl a4) rfl (.int .i64 i) (fun _ => vm rfl) ?_
      obtain ⟨b6, b7, e2, f5, g4, Hq⟩ := H
      subst e2
      have H := Hq; clear Hq
      refine pp (i := 7) rfl (wanted_y rfl rfl rfl a4) rfl (ptr b6 (b7 + (Int.toNat i) * 2)) (fun _ => vi TyShC.el69 rfl rfl f5 g4) ?_
      obtain ⟨a6, a2, f6, i1, H⟩ := H
      refine pr (i := 8) rfl (wanted_y rfl rfl rfl a4) rfl (.agg #[(.bool a6), (.string a2)]) (fun _ he => vL (vs := [(.bool a6), (.string a2)]) TyShC.agg95 TyShC.sz95 rfl (cc (Ext.cell he (Ext.cell c2 f6)) (cc (Ext.cell he (Ext.cell c2 i1)) cn))) ?_
      refine pr (i := 9) rfl (wanted_y rfl rfl rfl a4) rfl (.agg #[(.bool a0), (.string mc)]) (fun _ he => vL (vs := [(.bool a0), (.string mc)]) TyShC.agg95 TyShC.sz95 rfl (cc (Ext.cell he (rc a8 rfl)) (cc (Ext.cell he (rc a8 rfl)) cn))) ?_
      refine pp (i := 10) rfl (wanted_y rfl rfl rfl a4) rfl (.bool ((a6 == a0 && (a2 == mc && true)))) (fun _ => hv_structEq (xs := [(.bool a6), (.string a2)]) (ys := [(.bool a0), (.string mc)]) (b := (a6 == a0 && (a2 == mc && true))) TyShC.se95 rfl rfl (by kernel_rfl) rfl) ?_
      refine pp (i := 11) rfl (wanted_0 rfl) rfl (.bool ((a6 == a0 && (a2 == mc && true)))) (fun _ => hv_pick_t rfl a4 rfl) ?_
      refine hp_nil ?_
      refine qn ?_
      obtain rfl := H
      exact ⟨rfl, (hc rfl (hc rfl (hc rfl (hc rfl hn))))⟩
     ·replace H := H.2 a4
      refine pn (i := 5) rfl (wanted_n rfl rfl rfl a4) ?_
      refine pn (i := 6) rfl (wanted_n rfl rfl rfl a4) ?_
      refine pn (i := 7) rfl (wanted_n rfl rfl rfl a4) ?_
      refine pn (i := 8) rfl (wanted_n rfl rfl rfl a4) ?_
      refine pn (i := 9) rfl (wanted_n rfl rfl rfl a4) ?_
      refine pn (i := 10) rfl (wanted_n rfl rfl rfl a4) ?_
      refine pp (i := 11) rfl (wanted_0 rfl) rfl (.bool false) (fun _ => hv_pick_f rfl a4 rfl) ?_
      refine hp_nil ?_
      refine qn ?_
      obtain rfl := H
      exact ⟨rfl, (hc rfl (hc rfl (hc rfl (hc rfl hn))))⟩
    ·have H := d4; clear d8 d4
     rintro ρ _ ⟨rfl, hH⟩
     refine xh _ hH ?_
     refine xc (b := c3) rfl (fun d6 => ?_) (fun d6 => ?_)
     ·replace H := H.1 d6
      refine xs (xr ?_)
      refine lv rfl rfl (vm rfl) (lv rfl rfl (va rfl) ?_)
      refine ln (qn (xt (qr ?_)))
      replace H := H h5 c2
      exact endQ_ret _ (res_one Tryz.results106 (rv_tmp rfl)) H
     ·replace H := H.2 d6
      refine xi (qn (xs (xr ?_)))
      replace H := H m h5 e9 (row_lt a8) c2
      refine lp rfl rfl (hn_buildSlice (n := 0) (vs := []) (cs := #[]) TyShC.u69 TyShC.sz95 TyShC.z95 rfl rfl (by kernel_rfl) ?_)
      intro nb h7 g2 e3
      replace H := H nb h7 g2 e3
      have f7 := ext_pushed_f67_sh e3
      replace a8 := Ext.row f7 a8
      refine lv rfl rfl (vm rfl) (lv rfl rfl (vm rfl) ?_)
      obtain ⟨g0, f4, f8, H⟩ := H
      obtain ⟨sl, hq47⟩ : ∃ q, q = slA l (Int.toNat 0) 2 a3 := ⟨_, rfl⟩
      replace H := H sl hq47
      refine lv rfl rfl (v := (.slice sl (Int.toNat i - Int.toNat 0) (a3 - Int.toNat 0))) (hv_slice (l := 0) (r := i) TyShC.u69 TyShC.sz95 rfl sl_none (sh_some rfl) g0 f4 f8 hq47) ?_
      refine lp rfl rfl (hs_append rfl rfl (HAppend.mono H ?_))
      rintro _ h8 ⟨g7, ap, c1, c0, rfl, H⟩
      replace a8 := Kp.row g7 (by simp) a8
      refine lv rfl rfl (va rfl) ?_
      refine ln (qn (xs (xr ?_)))
      refine lv rfl rfl (vm rfl) (lv rfl rfl (vL (vs := [(.bool a0), (.string mc)]) TyShC.agg95 TyShC.sz95 rfl (cc (rc a8 rfl) (cc (rc a8 rfl) cn))) ?_)
      refine lp rfl rfl (hn_buildSlice (n := 1) (vs := [(0, (.agg #[(.bool a0), (.string mc)]))]) (cs := #[(.bool a0), (.string mc)]) TyShC.u69 TyShC.sz95 TyShC.z95 rfl rfl (by kernel_rfl) ?_)
      intro c7 h9 g5 e1
      replace H := H c7 h9 g5 e1
      have g1 := ext_pushed_f67_sh e1
      replace a8 := Ext.row g1 a8
      refine lp rfl rfl (hs_append rfl rfl (HAppend.mono H ?_))
      rintro _ e6 ⟨b9, b2, b3, rfl, H⟩
      refine lv rfl rfl (va rfl) ?_
      refine ln (qn (xs (xr ?_)))
      refine lv rfl rfl (vm rfl) (lv rfl rfl (vm rfl) (lv rfl rfl (vm rfl) ?_))
      obtain ⟨i4, i3, i5, H⟩ := H
      obtain ⟨c4, hq55⟩ : ∃ q, q = slA l (Int.toNat i) 2 a3 := ⟨_, rfl⟩
      replace H := H c4 hq55
      refine lv rfl rfl (v := (.slice c4 (Int.toNat (a1 : Int) - Int.toNat i) (a3 - Int.toNat i))) (hv_slice (l := i) (r := (a1 : Int)) TyShC.u69 TyShC.sz95 rfl (sl_some rfl) sh_none i4 i3 i5 hq55) ?_
      refine lp rfl rfl (hs_append rfl rfl (HAppend.mono H ?_))
      rintro _ e7 ⟨c6, b5, b4, rfl, H⟩
      refine lv rfl rfl (va rfl) ?_
      refine ln (qn (xt ?_))
      exact endQ_ret _ (res_one Tryz.results106 (rv_tmp rfl)) H
theorem f70_sh (sv : Option Addr) (a0 : Nat) (a2 : Nat) (h : Heap) (R : Value → Heap → Prop)
  (H : (((decide ((a0 : Int) < 2)) = true → R (.slice sv a0 a2) h) ∧ ((decide ((a0 : Int) < 2)) = false → (∃ (I2 : Int → Prop) (c6 : Int → Nat), I2 1 ∧ (∀ (k : Int), I2 k → (((decide (k < (a0 : Int))) = true → (∃ a5 a6 : Nat, sv = some ⟨a5, a6, none⟩ ∧ (0 : Int) ≤ k ∧ k < (a0 : Int) ∧ (∃ b2 : Bool, ∃ b0 : ByteArray, hcell h a5 (a6 + (Int.toNat k) * 2) = some (.bool b2) ∧ hcell h a5 ((a6 + (Int.toNat k) * 2) + 1) = some (.string b0) ∧ ((0 : Int) ≤ IntKind.i64.wrap (k - 1) ∧ IntKind.i64.wrap (k - 1) < (a0 : Int) ∧ (∃ a9 : Bool, ∃ a7 : ByteArray, hcell h a5 (a6 + (Int.toNat (IntKind.i64.wrap (k - 1))) * 2) = some (.bool a9) ∧ hcell h a5 ((a6 + (Int.toNat (IntKind.i64.wrap (k - 1))) * 2) + 1) = some (.string a7) ∧ ((((b2 == a9 && (b0 == a7 && true))) = true → (0 ≤ (k : Int) ∧ k ≤ (a0 : Int) ∧ (a0 : Int) ≤ (a2 : Int) ∧ ∀ sl : Option Addr, sl = slA (some ⟨a5, a6, none⟩) (Int.toNat k) 2 a2 → (∃ (c0 : Int → Int → Heap → Prop) (b8 : Int → Int → Heap → Nat), c0 k 1 h ∧ (∀ (a3 : Int) (k2 : Int) (h1 : Heap), c0 a3 k2 h1 → (((decide (k2 < (((Int.toNat (a0 : Int) - Int.toNat k) : Nat) : Int))) = true → (∃ b9 : Int → Heap → Prop, (∃ b3 b4 : Nat, sl = some ⟨b3, b4, none⟩ ∧ (0 : Int) ≤ k2 ∧ k2 < (((Int.toNat (a0 : Int) - Int.toNat k) : Nat) : Int) ∧ (∃ a4 : Bool, ∃ a1 : ByteArray, hcell h1 b3 (b4 + (Int.toNat k2) * 2) = some (.bool a4) ∧ hcell h1 b3 ((b4 + (Int.toNat k2) * 2) + 1) = some (.string a1) ∧ ((0 : Int) ≤ IntKind.i64.wrap (k2 - 1) ∧ IntKind.i64.wrap (k2 - 1) < (((Int.toNat (a0 : Int) - Int.toNat k) : Nat) : Int) ∧ (∃ b1 : Bool, ∃ a8 : ByteArray, hcell h1 b3 (b4 + (Int.toNat (IntKind.i64.wrap (k2 - 1))) * 2) = some (.bool b1) ∧ hcell h1 b3 ((b4 + (Int.toNat (IntKind.i64.wrap (k2 - 1))) * 2) + 1) = some (.string a8) ∧ (((!((a4 == b1 && (a1 == a8 && true)))) = true → ((0 : Int) ≤ a3 ∧ a3 < (a0 : Int) ∧ (HWs h1 a5 (a6 + (Int.toNat a3) * 2) 2 ∧ ∀ h3, h3 = hsets h1 a5 (a6 + (Int.toNat a3) * 2) [(.bool a4), (.string a1)] → (b9 (IntKind.i64.wrap (a3 + 1)) h3)))) ∧ ((!((a4 == b1 && (a1 == a8 && true)))) = false → (b9 a3 h1))))))) ∧ (∀ (b5 : Int) (h2 : Heap), b9 b5 h2 → (c0 b5 (IntKind.i64.wrap (k2 + 1)) h2 ∧ b8 b5 (IntKind.i64.wrap (k2 + 1)) h2 < b8 a3 k2 h1)))) ∧ ((decide (k2 < (((Int.toNat (a0 : Int) - Int.toNat k) : Nat) : Int))) = false → (0 ≤ (a3 : Int) ∧ a3 ≤ (a0 : Int) ∧ (a0 : Int) ≤ (a2 : Int) ∧ ∀ b7 : Option Addr, b7 = slA (some ⟨a5, a6, none⟩) (Int.toNat a3) 2 a2 → (((Int.toNat (a0 : Int) - Int.toNat a3) ≠ 0 → ∃ cb co : Nat, b7 = some ⟨cb, co, none⟩ ∧ HWs h1 cb co ((Int.toNat (a0 : Int) - Int.toNat a3) * 2)) ∧ ∀ h4, ((Int.toNat (a0 : Int) - Int.toNat a3) = 0 → h4 = h1) → (∀ cb co : Nat, (Int.toNat (a0 : Int) - Int.toNat a3) ≠ 0 → b7 = some ⟨cb, co, none⟩ → h4 = hsets h1 cb co (zcells [(.bool false), (.string ByteArray.empty)] (Int.toNat (a0 : Int) - Int.toNat a3))) → (0 ≤ ((0 : Int) : Int) ∧ (0 : Int) ≤ a3 ∧ a3 ≤ (a2 : Int) ∧ ∀ b6 : Option Addr, b6 = slA (some ⟨a5, a6, none⟩) (Int.toNat 0) 2 a2 → R (.slice b6 (Int.toNat a3 - Int.toNat 0) (a2 - Int.toNat 0)) h4))))))))) ∧ (((b2 == a9 && (b0 == a7 && true))) = false → (I2 (IntKind.i64.wrap (k + 1)) ∧ c6 (IntKind.i64.wrap (k + 1)) < c6 k)))))))) ∧ ((decide (k < (a0 : Int))) = false → R (.slice sv a0 a2) h))))))) :
  HC Tryz.prog 70 #[(.slice sv a0 a2)] h R := by
 refine hc_of (args := [(.slice sv a0 a2)]) Tryz.func70 rfl Tryz.ntmps70 (Nat.le_of_ble_eq_true rfl) ?_
 refine xs (xr ?_)
 refine lv rfl rfl (va rfl) ?_
 refine ln (qn (xs (xs (xr ?_))))
 refine lv rfl rfl (vm rfl) (lv rfl rfl (v := (.int .i64 (a0 : Int))) (hv_len (n := a0) TyShC.u69 rfl) (lv rfl rfl (vr rfl rfl rfl) ?_))
 refine ln (qn ?_)
 refine xc (b := decide ((a0 : Int) < 2)) rfl (fun d3 => ?_) (fun d3 => ?_)
 ·replace H := H.1 d3
  refine xs (xr ?_)
  refine lv rfl rfl (vm rfl) (lv rfl rfl (va rfl) ?_)
  refine ln (qn (xt (qr ?_)))
  exact endQ_ret _ (res_one Tryz.results70 (rv_tmp rfl)) H
 ·replace H := H.2 d3
  refine xi (qn (xs (xs (xr ?_))))
  refine lv rfl rfl (va rfl) ?_
  refine ln (qn (xb ?_))
  obtain ⟨I2, c6, g5, g6⟩ := H
  refine xl (σ := Int) (fun s => [(0, (.slice sv a0 a2)), (3, (.int .i64 s))]) (fun s h' => I2 s ∧ h = h') (fun s _ => c6 s) 1 ⟨g5, rfl⟩ (hc rfl (hc rfl hn)) ?_
  rintro k ρ _ ⟨g8, rfl⟩
  have H := g6 k g8
  refine xs (xs (xr ?_))
  refine lv rfl rfl (vm rfl) (lv rfl rfl (vm rfl) (lv rfl rfl (v := (.int .i64 (a0 : Int))) (hv_len (n := a0) TyShC.u69 rfl) (lv rfl rfl (vr rfl rfl rfl) ?_)))
  refine ln (qn ?_)
  refine xc (b := decide (k < (a0 : Int))) rfl (fun d0 => ?_) (fun d0 => ?_)
  ·replace H := H.1 d0
   refine xi (qn (xs (xb (xs ?_))))
   refine hx_draw TyShC.mixed [.pure, .pure, .pure, .read, .pure, .pure, .pure, .pure, .read, .pure] [0, 1, 2, 3, 4, 5, 6, 7, 8, 9] (by kernel_rfl) ?_
   refine pp (i := 0) rfl (wanted_0 rfl) rfl (.slice sv a0 a2) (fun _ => vm rfl) ?_
   refine pp (i := 1) rfl (wanted_0 rfl) rfl (.int .i64 k) (fun _ => vm rfl) ?_
   obtain ⟨a5, a6, d2, g4, g7, Hq⟩ := H
   subst d2
   have H := Hq; clear Hq
   refine pp (i := 2) rfl (wanted_0 rfl) rfl (ptr a5 (a6 + (Int.toNat k) * 2)) (fun _ => vi TyShC.el69 rfl rfl g4 g7) ?_
   obtain ⟨b2, b0, e8, f2, H⟩ := H
   refine pr (i := 3) rfl (wanted_0 rfl) rfl (.agg #[(.bool b2), (.string b0)]) (fun _ he => vL (vs := [(.bool b2), (.string b0)]) TyShC.agg95 TyShC.sz95 rfl (cc (Ext.cell he e8) (cc (Ext.cell he f2) cn))) ?_
   refine pp (i := 4) rfl (wanted_0 rfl) rfl (.slice (some ⟨a5, a6, none⟩) a0 a2) (fun _ => vm rfl) ?_
   refine pp (i := 5) rfl (wanted_0 rfl) rfl (.int .i64 k) (fun _ => vm rfl) ?_
   refine pp (i := 6) rfl (wanted_0 rfl) rfl (.int .i64 (IntKind.i64.wrap (k - 1))) (fun _ => vr rfl rfl rfl) ?_
   obtain ⟨g1, d7, H⟩ := H
   refine pp (i := 7) rfl (wanted_0 rfl) rfl (ptr a5 (a6 + (Int.toNat (IntKind.i64.wrap (k - 1))) * 2)) (fun _ => vi TyShC.el69 rfl rfl g1 d7) ?_
   obtain ⟨a9, a7, f1, f4, H⟩ := H
   refine pr (i := 8) rfl (wanted_0 rfl) rfl (.agg #[(.bool a9), (.string a7)]) (fun _ he => vL (vs := [(.bool a9), (.string a7)]) TyShC.agg95 TyShC.sz95 rfl (cc (Ext.cell he f1) (cc (Ext.cell he f4) cn))) ?_
   refine pp (i := 9) rfl (wanted_0 rfl) rfl (.bool ((b2 == a9 && (b0 == a7 && true)))) (fun _ => hv_structEq (xs := [(.bool b2), (.string b0)]) (ys := [(.bool a9), (.string a7)]) (b := (b2 == a9 && (b0 == a7 && true))) TyShC.se95 rfl rfl (by kernel_rfl) rfl) ?_
   refine hp_nil ?_
   refine qn ?_
   refine xc (b := ((b2 == a9 && (b0 == a7 && true)))) rfl (fun c3 => ?_) (fun c3 => ?_)
   ·replace H := H.1 c3
    refine xs (xr ?_)
    refine lv rfl rfl (vm rfl) (lv rfl rfl (vm rfl) ?_)
    obtain ⟨d5, d4, d6, H⟩ := H
    obtain ⟨sl, hq20⟩ : ∃ q, q = slA (some ⟨a5, a6, none⟩) (Int.toNat k) 2 a2 := ⟨_, rfl⟩
    replace H := H sl hq20
    refine lv rfl rfl (v := (.slice sl (Int.toNat (a0 : Int) - Int.toNat k) (a2 - Int.toNat k))) (hv_slice (l := k) (r := (a0 : Int)) TyShC.u69 TyShC.sz95 rfl (sl_some rfl) sh_none d5 d4 d6 hq20) (lv rfl rfl (va rfl) ?_)
    refine ln (qn (xs (xs (xr ?_))))
    refine lv rfl rfl (va rfl) ?_
    refine ln (qn (xb ?_))
    obtain ⟨c0, b8, e1, f0⟩ := H
    refine xl (σ := Int × Int) (fun s => [(0, (.slice (some ⟨a5, a6, none⟩) a0 a2)), (3, (.int .i64 s.1)), (4, (.slice sl (Int.toNat (a0 : Int) - Int.toNat k) (a2 - Int.toNat k))), (5, (.int .i64 s.2))]) (fun s h' => c0 s.1 s.2 h' ∧ True) (fun s h' => b8 s.1 s.2 h') (k, 1) ⟨e1, trivial⟩ (hc rfl (hc rfl (hc rfl (hc rfl hn)))) ?_
    rintro ⟨a3, k2⟩ ρ h1 ⟨g0, -⟩
    have H := f0 a3 k2 h1 g0
    refine xs (xs (xr ?_))
    refine lv rfl rfl (vm rfl) (lv rfl rfl (vm rfl) (lv rfl rfl (v := (.int .i64 (((Int.toNat (a0 : Int) - Int.toNat k) : Nat) : Int))) (hv_len (n := (Int.toNat (a0 : Int) - Int.toNat k)) TyShC.u69 rfl) (lv rfl rfl (vr rfl rfl rfl) ?_)))
    refine ln (qn ?_)
    refine xc (b := decide (k2 < (((Int.toNat (a0 : Int) - Int.toNat k) : Nat) : Int))) rfl (fun c1 => ?_) (fun c1 => ?_)
    ·replace H := H.1 c1
     refine xi (qn ?_)
     obtain ⟨b9, c5, c2⟩ := H
     refine xk (fun ρ h' => ∃ b5 : Int, (b9 b5 h' ∧ True) ∧ Has ρ [(0, (.slice (some ⟨a5, a6, none⟩) a0 a2)), (3, (.int .i64 b5)), (4, (.slice sl (Int.toNat (a0 : Int) - Int.toNat k) (a2 - Int.toNat k))), (5, (.int .i64 k2))]) ?_ ?_
     ·have H := c5; clear c5 c2
      refine xb (xs ?_)
      refine hx_draw TyShC.mixed [.pure, .pure, .pure, .read, .pure, .pure, .pure, .pure, .read, .pure] [0, 1, 2, 3, 4, 5, 6, 7, 8, 9] (by kernel_rfl) ?_
      refine pp (i := 0) rfl (wanted_0 rfl) rfl (.slice sl (Int.toNat (a0 : Int) - Int.toNat k) (a2 - Int.toNat k)) (fun _ => vm rfl) ?_
      refine pp (i := 1) rfl (wanted_0 rfl) rfl (.int .i64 k2) (fun _ => vm rfl) ?_
      obtain ⟨b3, b4, d2, d1, c7, Hq⟩ := H
      subst d2
      have H := Hq; clear Hq
      refine pp (i := 2) rfl (wanted_0 rfl) rfl (ptr b3 (b4 + (Int.toNat k2) * 2)) (fun _ => vi TyShC.el69 rfl rfl d1 c7) ?_
      obtain ⟨a4, a1, c8, c9, H⟩ := H
      refine pr (i := 3) rfl (wanted_0 rfl) rfl (.agg #[(.bool a4), (.string a1)]) (fun _ he => vL (vs := [(.bool a4), (.string a1)]) TyShC.agg95 TyShC.sz95 rfl (cc (Ext.cell he c8) (cc (Ext.cell he c9) cn))) ?_
      refine pp (i := 4) rfl (wanted_0 rfl) rfl (.slice (some ⟨b3, b4, none⟩) (Int.toNat (a0 : Int) - Int.toNat k) (a2 - Int.toNat k)) (fun _ => vm rfl) ?_
      refine pp (i := 5) rfl (wanted_0 rfl) rfl (.int .i64 k2) (fun _ => vm rfl) ?_
      refine pp (i := 6) rfl (wanted_0 rfl) rfl (.int .i64 (IntKind.i64.wrap (k2 - 1))) (fun _ => vr rfl rfl rfl) ?_
      obtain ⟨f7, e3, H⟩ := H
      refine pp (i := 7) rfl (wanted_0 rfl) rfl (ptr b3 (b4 + (Int.toNat (IntKind.i64.wrap (k2 - 1))) * 2)) (fun _ => vi TyShC.el69 rfl rfl f7 e3) ?_
      obtain ⟨b1, a8, e2, e4, H⟩ := H
      refine pr (i := 8) rfl (wanted_0 rfl) rfl (.agg #[(.bool b1), (.string a8)]) (fun _ he => vL (vs := [(.bool b1), (.string a8)]) TyShC.agg95 TyShC.sz95 rfl (cc (Ext.cell he e2) (cc (Ext.cell he e4) cn))) ?_
      refine pp (i := 9) rfl (wanted_0 rfl) rfl (.bool (!((a4 == b1 && (a1 == a8 && true))))) (fun _ => hv_structEq (xs := [(.bool a4), (.string a1)]) (ys := [(.bool b1), (.string a8)]) (b := (a4 == b1 && (a1 == a8 && true))) TyShC.se95 rfl rfl (by kernel_rfl) rfl) ?_
      refine hp_nil ?_
      refine qn ?_
      refine xc (b := !((a4 == b1 && (a1 == a8 && true)))) rfl (fun c4 => ?_) (fun c4 => ?_)
      ·replace H := H.1 c4
       refine xs (xr ?_)
       refine lv rfl rfl (vm rfl) (lv rfl rfl (vm rfl) (lv rfl rfl (vm rfl) (lv rfl rfl (vm rfl) (lv rfl rfl (v := (ptr b3 (b4 + (Int.toNat k2) * 2))) (vi TyShC.el69 rfl rfl d1 c7) (lv rfl rfl (vL (vs := [(.bool a4), (.string a1)]) TyShC.agg95 TyShC.sz95 rfl (cc c8 (cc c9 cn))) ?_)))))
       obtain ⟨e7, f8, H⟩ := H
       refine lv rfl rfl (v := (ptr a5 (a6 + (Int.toNat a3) * 2))) (vi TyShC.el69 rfl rfl e7 f8) ?_
       obtain ⟨f9, H⟩ := H
       refine lp rfl rfl (hn_stores (vs := [(.bool a4), (.string a1)]) rfl rfl TyShC.sz95 rfl f9 ?_)
       intro h3 f6
       replace H := H h3 f6
       refine ln (qn (xr ?_))
       refine lv rfl rfl (vm rfl) (lv rfl rfl (vr rfl rfl rfl) (lv rfl rfl (va rfl) ?_))
       refine ln (bn (qn ?_))
       exact ⟨_, ⟨H, trivial⟩, (hc rfl (hc rfl (hc rfl (hc rfl hn))))⟩
      ·replace H := H.2 c4
       refine xi (bn (qn ?_))
       exact ⟨_, ⟨H, trivial⟩, (hc rfl (hc rfl (hc rfl (hc rfl hn))))⟩
     ·rintro ρ h2 ⟨b5, ⟨d8, -⟩, hH⟩
      have H := c2 b5 h2 d8; clear c5 c2
      refine xh _ hH ?_
      refine xr ?_
      refine lv rfl rfl (vm rfl) (lv rfl rfl (vr rfl rfl rfl) (lv rfl rfl (va rfl) ?_))
      refine ln (qn ?_)
      exact ⟨(b5, IntKind.i64.wrap (k2 + 1)), ⟨⟨H.1, trivial⟩, H.2⟩, (hc rfl (hc rfl (hc rfl (hc rfl hn))))⟩
    ·replace H := H.2 c1
     refine xe (qe (qe (bh (qn (xs (xr ?_))))))
     refine lv rfl rfl (vm rfl) (lv rfl rfl (vm rfl) ?_)
     obtain ⟨e5, e6, d9, H⟩ := H
     obtain ⟨b7, hq49⟩ : ∃ q, q = slA (some ⟨a5, a6, none⟩) (Int.toNat a3) 2 a2 := ⟨_, rfl⟩
     replace H := H b7 hq49
     refine lv rfl rfl (v := (.slice b7 (Int.toNat (a0 : Int) - Int.toNat a3) (a2 - Int.toNat a3))) (hv_slice (l := a3) (r := (a0 : Int)) TyShC.u69 TyShC.sz95 rfl (sl_some rfl) sh_none e5 e6 d9 hq49) ?_
     obtain ⟨e9, H⟩ := H
     refine lp rfl rfl (hn_clear2 (zs := [(.bool false), (.string ByteArray.empty)]) TyShC.u69 TyShC.z95 rfl (by decide) rfl rfl e9 ?_)
     intro h4 e0 f5
     replace H := H h4 e0 f5
     refine ln (qn (xs (xr ?_)))
     refine lv rfl rfl (vm rfl) (lv rfl rfl (vm rfl) ?_)
     obtain ⟨g2, g3, f3, H⟩ := H
     obtain ⟨b6, hq56⟩ : ∃ q, q = slA (some ⟨a5, a6, none⟩) (Int.toNat 0) 2 a2 := ⟨_, rfl⟩
     replace H := H b6 hq56
     refine lv rfl rfl (v := (.slice b6 (Int.toNat a3 - Int.toNat 0) (a2 - Int.toNat 0))) (hv_slice (l := 0) (r := a3) TyShC.u69 TyShC.sz95 rfl sl_none (sh_some rfl) g2 g3 f3 hq56) (lv rfl rfl (va rfl) ?_)
     refine ln (qn (xt (br (qr (qr (br (qr ?_)))))))
     exact endQ_ret _ (res_one Tryz.results70 (rv_tmp rfl)) H
   ·replace H := H.2 c3
    refine xi (bn (qn (xr ?_)))
    refine lv rfl rfl (vm rfl) (lv rfl rfl (vr rfl rfl rfl) (lv rfl rfl (va rfl) ?_))
    refine ln (qn ?_)
    exact ⟨IntKind.i64.wrap (k + 1), ⟨⟨H.1, rfl⟩, H.2⟩, (hc rfl (hc rfl hn))⟩
  ·replace H := H.2 d0
   refine xe (qe (qe (bh (qn (xs (xr ?_))))))
   refine lv rfl rfl (vm rfl) (lv rfl rfl (va rfl) ?_)
   refine ln (qn (xt ?_))
   exact endQ_ret _ (res_one Tryz.results70 (rv_tmp rfl)) H
theorem f67_sh (a1 : Bool) (a0 : ByteArray) (a4 : Int) (a8 : ByteArray) (a2 : ByteArray) (a9 : Int) (a3 : Bool) (a5 : Int) (a6 : Int) (To : Int) (h : Heap) (R : Value → Heap → Prop)
  (H : (∀ (h2 : Heap), Ext h h2 → (∀ nb h3, nb = Array.size h2 → h3 = Array.push h2 (.cells #[(.bool a1), (.string a0)] 95) → R (.slice (some ⟨nb, 0, none⟩) 1 1) h3))) :
  HC Tryz.prog 67 #[(.agg #[(.bool a1), (.string a0)]), (.agg #[(.int .i64 a4), (.string a8), (.string a2), (.int .i64 a9), (.bool a3), (.int .i64 a5), (.int .i64 a6), (.int .i64 To)])] h R := by
 refine hc_of (args := [(.agg #[(.bool a1), (.string a0)]), (.agg #[(.int .i64 a4), (.string a8), (.string a2), (.int .i64 a9), (.bool a3), (.int .i64 a5), (.int .i64 a6), (.int .i64 To)])]) Tryz.func67 rfl Tryz.ntmps67 (Nat.le_of_ble_eq_true rfl) ?_
 refine xs (xr ?_)
 refine lp rfl rfl (hn_box (v := (.agg #[(.bool a1), (.string a0)])) rfl ?_)
 intro b2 h1 b3 b4
 have b6 := ext_pushed_f67_sh b4
 have c4 : Array.size h ≤ b2 := Nat.le_of_eq (Eq.symm b3)
 have a7 : h1[b2]? = some (.cells #[(.bool a1), (.string a0)] 95 (0, 0)) := by rw [b4]; exact push_new b3
 refine lp rfl rfl (hn_box (v := (.agg #[(.int .i64 a4), (.string a8), (.string a2), (.int .i64 a9), (.bool a3), (.int .i64 a5), (.int .i64 a6), (.int .i64 To)])) rfl ?_)
 intro x h2 b0 b7
 have b5 := ext_pushed_f67_sh b7
 have c2 := Nat.ne_of_lt (Nat.lt_of_lt_of_eq (row_lt a7) (Eq.symm b0))
 have c0 : Array.size h ≤ x := Nat.le_trans (Ext.size b6) (Nat.le_of_eq (Eq.symm b0))
 have c3 : h2[x]? = some (.cells #[(.int .i64 a4), (.string a8), (.string a2), (.int .i64 a9), (.bool a3), (.int .i64 a5), (.int .i64 a6), (.int .i64 To)] 40 (0, 0)) := by rw [b7]; exact push_new b0
 replace a7 := Ext.row b5 a7
 have b9 := Ext.trans b6 b5
 refine lv rfl rfl (va rfl) ?_
 refine ln (qn (xs (xr ?_)))
 refine lv rfl rfl (vL (vs := [(.bool a1), (.string a0)]) TyShC.agg95 TyShC.sz95 rfl (cc (rc a7 rfl) (cc (rc a7 rfl) cn))) ?_
 replace H := H h2 b9
 refine lp rfl rfl (hn_buildSlice (n := 1) (vs := [(0, (.agg #[(.bool a1), (.string a0)]))]) (cs := #[(.bool a1), (.string a0)]) TyShC.u69 TyShC.sz95 TyShC.z95 rfl rfl (by kernel_rfl) ?_)
 intro nb h3 b8 b1
 replace H := H nb h3 b8 b1
 have c1 := ext_pushed_f67_sh b1
 refine lv rfl rfl (va rfl) ?_
 refine ln (qn (xt ?_))
 exact endQ_ret _ (res_one Tryz.results67 (rv_tmp rfl)) H
end Go.Proofs.YtfjcciaabkjkgaaGreatDoor
namespace Go.Proofs.YtfjcciaabkjkgaaGreatDoor
open Go Ml
abbrev tMt : TypeId := 95
abbrev tMts : TypeId := 69
abbrev tMv : TypeId := 40
abbrev tMvs : TypeId := 22
theorem aMt : AppT Tryz.prog tMts tMt eMt.k 24 := ⟨by kernel_rfl, by kernel_rfl, by kernel_rfl, ⟨.agg #[.bool false, .string ByteArray.empty], [.bool false, .string ByteArray.empty], by unfold zeroB; kernel_rfl, rfl, rfl⟩, by decide⟩
theorem aMv : AppT Tryz.prog tMvs tMv eMv.k 80 := ⟨by kernel_rfl, by kernel_rfl, by kernel_rfl, ⟨.agg #[.int .i64 0, .string ByteArray.empty, .string ByteArray.empty, .int .i64 0, .bool false, .int .i64 0, .int .i64 0, .int .i64 0], [.int .i64 0, .string ByteArray.empty, .string ByteArray.empty, .int .i64 0, .bool false, .int .i64 0, .int .i64 0, .int .i64 0], by unfold zeroB; kernel_rfl, rfl, rfl⟩, by decide⟩
theorem check_c (m : Mv) (h : Heap) : HC Tryz.prog 38 #[mvV m] h fun v h' => v = .int .i64 (check m) ∧ Ext h h' := by
  obtain ⟨k, key, val, err, hit, life, fr, to⟩ := m
  refine f38_sh _ _ _ _ _ _ _ _ _ _ ⟨fun e _ x => ⟨?_, x⟩, fun e _ x => ⟨?_, x⟩⟩
  · unfold check
    rw [if_pos]
    simp only [hits] at e ⊢
    by_cases h1 : k = 1 <;> by_cases h2 : k = 2 <;> by_cases h3 : err = 0 <;> by_cases h4 : to ≥ 0 <;> by_cases h5 : val = ByteArray.empty <;> by_cases h6 : key = ByteArray.empty <;> cases hit <;> simp_all <;> omega
  · unfold check
    rw [if_neg]
    simp only [hits] at e ⊢
    by_cases h1 : k = 1 <;> by_cases h2 : k = 2 <;> by_cases h3 : err = 0 <;> by_cases h4 : to ≥ 0 <;> by_cases h5 : val = ByteArray.empty <;> by_cases h6 : key = ByteArray.empty <;> cases hit <;> simp_all <;> omega
theorem start_c (h : Heap) : HC Tryz.prog 46 #[] h fun v h' => New eMt tMt h h' v Ml.start :=
  f46_sh _ _ fun _ x _ _ eb eh => New.lit x eb eh rfl rfl
theorem rstart_c (h : Heap) : HC Tryz.prog 51 #[] h fun v h' => New eMt tMt h h' v Ml.start :=
  f51_sh _ _ fun _ _ eb eh => New.lit (Ext.refl _) eb eh rfl rfl
theorem gets_c (w : Mt) (m : Mv) (hk : m.kind = 1) (h : Heap) : HC Tryz.prog 88 #[mtV w, mvV m] h fun v h' => New eMt tMt h h' v (outs m w) := by
  refine f88_sh _ _ _ _ _ _ _ _ _ _ _ _ ⟨fun e _ x => ?_, fun e _ x _ _ eb eh => ?_⟩
  · have : outs m w = [] := by
      unfold outs; rw [if_pos hk, if_pos]
      simp at e; exact ⟨e.1, e.2⟩
    rw [this]; exact New.nil x
  · have : outs m w = [w] := by
      unfold outs; rw [if_pos hk, if_neg]
      rintro ⟨h1, h2⟩
      have h3 : hits ⟨m.kind, m.key, m.val, m.err, m.hit, m.life, m.fr, m.to⟩ = true := h1
      rw [h3] at e
      simp at e
      rcases h2 with h2 | h2
      · rw [h2] at e; simp at e
      · exact h2 e.2
    rw [this]; exact New.lit x eb eh rfl rfl
theorem puts_c (w : Mt) (m : Mv) (hk : m.kind = 2) (h : Heap) : HC Tryz.prog 89 #[mtV w, mvV m] h fun v h' => New eMt tMt h h' v (outs m w) := by
  have e0 : outs m w = putF (fate m) ⟨true, m.val⟩ w := by unfold outs; rw [if_neg (by omega), if_pos hk]
  have eta : (⟨m.kind, m.key, m.val, m.err, m.hit, m.life, m.fr, m.to⟩ : Mv) = m := rfl
  refine f89_sh _ _ _ _ _ _ _ _ _ _ _ _ ⟨fun e _ _ _ _ _ _ _ x _ _ eb eh => ?_, fun e1 => ⟨fun e _ _ h5 _ _ _ _ x => ?_, fun e2 => ⟨fun e _ _ _ _ x _ _ eb eh => ?_, fun e3 _ x _ _ eb eh => ?_⟩⟩⟩
  · have hf : fate m = 1 := by simp only [eta, beq_iff_eq] at e; omega
    rw [e0, hf]; exact New.lit x eb eh rfl rfl
  · have hf : fate m = 2 := by simp only [eta, beq_iff_eq] at e; omega
    rw [e0, hf]
    refine (start_c h5).mono ?_
    rintro v h7 ⟨a, c, rfl, x7, s7, w7⟩
    exact ⟨x7.kp _, a, _, c, rfl, a, c, rfl, x.trans x7, s7, w7.down x.size⟩
  · have hf : fate m = 3 := by simp only [eta, beq_iff_eq] at e; omega
    rw [e0, hf]; exact New.lit x eb eh rfl rfl
  · have hf : fate m ≠ 1 ∧ fate m ≠ 2 ∧ fate m ≠ 3 := by simp [eta] at e1 e2 e3; omega
    have : putF (fate m) ⟨true, m.val⟩ w = [w] := by unfold putF; rw [if_neg hf.1, if_neg hf.2.1, if_neg hf.2.2]
    rw [e0, this]; exact New.lit x eb eh rfl rfl
theorem deletes_c (w : Mt) (m : Mv) (hk : m.kind = 3) (h : Heap) : HC Tryz.prog 90 #[mtV w, mvV m] h fun v h' => New eMt tMt h h' v (outs m w) := by
  have e0 : outs m w = delF (fate m) w := by unfold outs; rw [if_neg (by omega), if_neg (by omega), if_pos hk]
  have eta : (⟨m.kind, m.key, m.val, m.err, m.hit, m.life, m.fr, m.to⟩ : Mv) = m := rfl
  refine f90_sh _ _ _ _ _ _ _ _ _ _ _ _ ⟨fun e _ h5 _ _ x => ?_, fun e1 => ⟨fun e _ _ _ _ x _ _ eb eh => ?_, fun e3 _ x _ _ eb eh => ?_⟩⟩
  · have hf : fate m = 1 := by simp only [eta, beq_iff_eq] at e; omega
    rw [e0, hf]
    refine (start_c h5).mono ?_
    rintro v h7 ⟨a, c, rfl, x7, s7, w7⟩
    exact ⟨x7.kp _, a, _, c, rfl, a, c, rfl, x.trans x7, s7, w7.down x.size⟩
  · have hf : fate m = 3 := by simp only [eta, beq_iff_eq] at e; omega
    rw [e0, hf]; exact New.lit x eb eh rfl rfl
  · have hf : fate m ≠ 1 ∧ fate m ≠ 3 := by simp [eta] at e1 e3; omega
    have : delF (fate m) w = [w] := by unfold delF; rw [if_neg hf.1, if_neg hf.2]
    rw [e0, this]; exact New.lit x eb eh rfl rfl
theorem other_c (w : Mt) (m : Mv) (hk : m.kind ≠ 1 ∧ m.kind ≠ 2 ∧ m.kind ≠ 3) (h : Heap) : HC Tryz.prog 67 #[mtV w, mvV m] h fun v h' => New eMt tMt h h' v (outs m w) := by
  have : outs m w = [w] := by unfold outs; rw [if_neg hk.1, if_neg hk.2.1, if_neg hk.2.2]
  rw [this]
  exact f67_sh _ _ _ _ _ _ _ _ _ _ _ _ fun _ x _ _ eb eh => New.lit x eb eh rfl rfl
end Go.Proofs.YtfjcciaabkjkgaaGreatDoor
namespace Go.Proofs.YtfjcciaabkjkgaaGreatDoor
open Go Ml
theorem mt_eq (x y : Mt) : (x.has == y.has && (x.val == y.val && true)) = decide (x = y) := by
  obtain ⟨a, b⟩ := x; obtain ⟨c, d⟩ := y
  rw [Bool.eq_iff_iff]
  simp [ba_beq]
end Go.Proofs.YtfjcciaabkjkgaaGreatDoor
namespace Go.Proofs.YtfjcciaabkjkgaaGreatDoor
open Go Ml
theorem compact_c {h : Heap} {a : Option Addr} {c N : Nat} {L : List Mt} (s : Sl eMt h a c L) (w : Own eMt.k tMt N h a c) (hl : L.length ≤ 1099511627776) :
    HC Tryz.prog 70 #[.slice a L.length c] h fun v h' => Fr (blkA a) h h' ∧ ∃ a' c', v = .slice a' (comp L).length c' ∧ Sl eMt h' a' c' (comp L) ∧ Own eMt.k tMt N h' a' c' ∧ ∀ b, blkA a' b → blkA a b := by
  have hle := s.le
  have done : comp L = L → (Fr (blkA a) h h ∧ ∃ a' c', Value.slice a L.length c = .slice a' (comp L).length c' ∧ Sl eMt h a' c' (comp L) ∧ Own eMt.k tMt N h a' c' ∧ ∀ b, blkA a' b → blkA a b) := fun e => by
    rw [e]; exact ⟨Fr.refl _ _, a, c, rfl, s, w, fun _ h => h⟩
  refine f70_sh _ _ _ _ _ ⟨fun e => ?_, fun e => ⟨fun i => ∃ j : Nat, i = j ∧ 1 ≤ j ∧ j ≤ L.length ∧ comp (L.take j) = L.take j, fun i => L.length - i.toNat, ⟨1, rfl, Nat.le_refl _, by simp at e; omega, ?_⟩, ?_⟩⟩
  · refine done ?_
    have : L.length < 2 := by simp at e; omega
    match L, this with
    | [], _ => rfl
    | [_], _ => rfl
  · have : 2 ≤ L.length := by simp at e; omega
    match L, this with
    | x :: _ :: _, _ => rfl
  rintro _ ⟨j, rfl, hj1, hj, hcj⟩
  refine ⟨fun hlt => ?_, fun hge => ?_⟩
  · have hjl := lt_of_dec hlt
    rw [wsub j hj1 (by omega)]
    obtain ⟨b, o, rfl, hc⟩ := s.addr (by omega)
    have c1 := hc j _ (List.getElem?_eq_getElem hjl)
    have c0 := hc (j - 1) _ (List.getElem?_eq_getElem (by omega : j - 1 < L.length))
    refine ⟨b, o, rfl, by omega, by omega, L[j].has, L[j].val, c1.1, c1.2.1, by omega, by omega, L[j - 1].has, L[j - 1].val, c0.1, c0.2.1, fun e2 => ?_, fun e2 => ?_⟩
    · rw [mt_eq] at e2
      have he : L[j] = L[j - 1] := by simpa using e2
      have hcj1 : comp (L.take (j + 1)) = L.take j := by rw [comp_take L j hj1 hjl, if_pos he.symm, hcj]; simp
      refine ⟨by omega, by omega, by omega, fun sl es => ?_⟩
      refine ⟨fun k1 k2 h1 => ∃ (u r : Nat) (M : List Mt), k1 = u ∧ k2 = r ∧ 1 ≤ r ∧ j + r ≤ L.length ∧ j ≤ u ∧ u ≤ j + r - 1 ∧ M.length = L.length ∧ M.take u = comp (L.take (j + r)) ∧ (∀ t, j + r - 1 ≤ t → M[t]? = L[t]?) ∧ Sl eMt h1 (some ⟨b, o, none⟩) c M ∧ Own eMt.k tMt N h1 (some ⟨b, o, none⟩) c ∧ Fr (blkA (some ⟨b, o, none⟩)) h h1,
        fun _ k2 _ => L.length - k2.toNat, ⟨j, 1, L, rfl, rfl, by omega, by omega, by omega, by omega, rfl, hcj1.symm, fun _ _ => rfl, s, w, Fr.refl _ _⟩, ?_⟩
      rintro _ _ h1 ⟨u, r, M, rfl, rfl, hr1, hr, hu, hur, hM, htk, hsame, s1, w1, f1⟩
      obtain ⟨o', eo, ho'⟩ := slA_some (b := b) (o := o) (l := j) (sz := 2) (m := c)
      have hjc : j ≠ c := by have := s.le; omega
      have ho'' := ho' hjc
      have esl : sl = some ⟨b, o', none⟩ := es.trans eo
      refine ⟨fun hlt2 => ?_, fun hge2 => ?_⟩
      · have hrl : j + r < L.length := by simp at hlt2; omega
        have cell : ∀ t, j + r - 1 ≤ t → (ht : t < L.length) → HCells h1 b (o' + (t - j) * 2) [.bool L[t].has, .string L[t].val] := fun t ht1 ht => by
          have hx : M[t]? = some L[t] := by rw [hsame t ht1]; exact List.getElem?_eq_getElem ht
          obtain ⟨b', o2, e, hc⟩ := s1.at hx
          cases e
          have : o' + (t - j) * 2 = o + t * 2 := by omega
          rw [this]; exact hc
        have d1 := cell (j + r) (by omega) hrl
        have d0 := cell (j + r - 1) (by omega) (by omega)
        rw [wsub r hr1 (by omega)]
        have e1 : j + r - j = r := by omega
        have e0 : j + r - 1 - j = r - 1 := by omega
        rw [e1] at d1; rw [e0] at d0
        refine ⟨fun k1 h2 => ∃ (u' : Nat) (M : List Mt), k1 = u' ∧ j ≤ u' ∧ u' ≤ j + r ∧ M.length = L.length ∧ M.take u' = comp (L.take (j + r + 1)) ∧ (∀ t, j + r ≤ t → M[t]? = L[t]?) ∧ Sl eMt h2 (some ⟨b, o, none⟩) c M ∧ Own eMt.k tMt N h2 (some ⟨b, o, none⟩) c ∧ Fr (blkA (some ⟨b, o, none⟩)) h h2, ?_, ?_⟩
        · refine ⟨b, o', esl, by omega, by simp; omega, L[j + r].has, L[j + r].val, d1.1, d1.2.1, by omega, by simp; omega, L[j + r - 1].has, L[j + r - 1].val, d0.1, d0.2.1, fun e3 => ?_, fun e3 => ?_⟩
          · rw [mt_eq] at e3
            have hne : ¬ L[j + r] = L[j + r - 1] := by simpa using e3
            obtain ⟨hw, s2, w2⟩ := s1.put w1 (i := u) (by omega) L[j + r]
            refine ⟨by omega, by omega, hw, fun h3 e4 => ?_⟩
            rw [wadd u (by omega)]
            have eh : h3 = hsets h1 b (o + u * eMt.k) (eMt.enc L[j + r]) := e4
            rw [← eh] at s2 w2
            refine ⟨u + 1, M.set u L[j + r], rfl, by omega, by omega, by simpa using hM, ?_, fun t ht => ?_, s2, w2, ?_⟩
            · rw [comp_take L (j + r) (by omega) hrl, if_neg (fun h => hne h.symm), ← htk, List.take_add_one, List.getElem?_set_self (by omega)]
              rw [List.take_set_of_le (Nat.le_refl _)]
              rfl
            · rw [List.getElem?_set_ne (by omega)]; exact hsame t (by omega)
            · rw [eh]; exact f1.trans (fr_hsets (fun b' => b' = b) (fun _ => rfl)) (fun i _ hi => by rw [blkA_some]; exact hi)
          · rw [mt_eq] at e3
            have he3 : L[j + r] = L[j + r - 1] := by simpa using e3
            refine ⟨u, M, rfl, hu, by omega, hM, ?_, fun t ht => hsame t (by omega), s1, w1, f1⟩
            rw [comp_take L (j + r) (by omega) hrl, if_pos he3.symm, ← htk]; simp
        · rintro _ h2 ⟨u', M', rfl, hu1, hu2, hM', htk', hsame', s2, w2, f2⟩
          rw [wadd r (by omega)]
          refine ⟨⟨u', r + 1, M', rfl, rfl, by omega, by omega, hu1, by omega, hM', htk', fun t ht => hsame' t (by omega), s2, w2, f2⟩, ?_⟩
          simp only [Int.toNat_natCast]; omega
      · have hrl : j + r = L.length := by simp at hge2; omega
        have hulen : u = (comp L).length := by
          have := congrArg List.length htk
          rw [hrl, List.take_length, List.length_take] at this; omega
        obtain ⟨cs, hrow, hcs, _⟩ := w1.row
        have hul : u ≤ L.length := by omega
        refine ⟨by omega, by omega, by omega, fun sl1 es1 => ?_⟩
        obtain ⟨o3, eo3, ho3⟩ := slA_some (b := b) (o := o) (l := u) (sz := 2) (m := c)
        have es1' : sl1 = some ⟨b, o3, none⟩ := es1.trans eo3
        have ho3' : L.length - u ≠ 0 → o3 = o + u * 2 := fun hn => ho3 (by have := s.le; omega)
        refine ⟨fun hn => ⟨b, o3, es1', ?_⟩, fun h4 q1 q2 => ?_⟩
        · rw [ho3' (by simpa using hn)]
          have k2 : eMt.k = 2 := rfl
          rw [k2] at hcs
          refine HWs_row hrow ?_
          simp; omega
        · refine ⟨by omega, by omega, by omega, fun sl2 es2 => ?_⟩
          have final : Fr (blkA (some ⟨b, o, none⟩)) h h4 ∧ Sl eMt h4 (some ⟨b, o, none⟩) c (comp L) ∧ Own eMt.k tMt N h4 (some ⟨b, o, none⟩) c := by
            have e5 : M.take u = comp L := by rw [htk, hrl, List.take_length]
            by_cases hn : L.length - u = 0
            · rw [q1 (by simpa using hn)]
              have : M.take u = M := List.take_of_length_le (by omega)
              rw [← e5, this]
              exact ⟨f1, s1, w1⟩
            · rw [q2 b o3 (by simpa using hn) es1']
              refine ⟨f1.trans (fr_hsets (fun b' => b' = b) (fun _ => rfl)) (fun i _ hi => by rw [blkA_some]; exact hi), ?_, Own.hsets w1 _ _ _⟩
              rw [← e5]
              exact s1.before (by rw [ho3' hn]; exact Nat.le_refl _) _
          obtain ⟨g1, g2, g3⟩ := final
          have es2' : sl2 = some ⟨b, o, none⟩ := by
            rw [es2]; unfold slA; split <;> simp [add_lit]
          refine ⟨g1, sl2, c, ?_, by rw [es2']; exact g2, by rw [es2']; exact g3, fun b' hb' => by rw [es2'] at hb'; exact hb'⟩
          rw [← hulen]; simp
    · rw [mt_eq] at e2
      have hne : ¬ L[j] = L[j - 1] := by simpa using e2
      rw [wadd j (by omega)]
      refine ⟨⟨j + 1, rfl, by omega, hjl, ?_⟩, by simp only [Int.toNat_natCast]; omega⟩
      rw [comp_take L j hj1 hjl, if_neg (fun h => hne h.symm), hcj, List.take_add_one, List.getElem?_eq_getElem hjl]
      rfl
  · have hjl : j = L.length := by have := ge_of_dec hge; omega
    rw [hjl, List.take_length] at hcj
    exact done hcj
end Go.Proofs.YtfjcciaabkjkgaaGreatDoor
namespace Go.Proofs.YtfjcciaabkjkgaaGreatDoor
open Go
open Go.Proofs.YtfjcciaabkjkgaaGreatDoor renaming hl_val → lv, hl_step → lp, hl_nil → ln, hl_yes → ly, hl_no → lo, hx_seq → xs, hx_region → xr, hx_cond → xc, hx_block → xb, hx_loopT → xl, hx_cut → xk, hx_has → xh, hx_skip → xi, hx_ret → xt, hx_exit → xe, seqQ_n → qn, seqQ_exit → qe, blockQ_n → bn, blockQ_here → bh, hv_move → vm, hv_assign → va, hv_arith → vr, hv_load → vl, hv_loads → vL, hv_extract → vx, hv_field → vf, hv_build → vb, hv_index → vi, hp_pure → pp, hp_read → pr, has_cons → hc, has_nil → hn, hcells_cons → cc, hcells_nil → cn, rowcell → rc, hs_call → sc
set_option maxRecDepth 100000
set_option maxHeartbeats 4000000
theorem TyShD.agg27 : aggB Tryz.prog 27 = some false := by kernel_rfl
theorem TyShD.agg3 : aggB Tryz.prog 3 = some false := by kernel_rfl
theorem TyShD.agg4 : aggB Tryz.prog 4 = some false := by kernel_rfl
theorem TyShD.agg40 : aggB Tryz.prog 40 = some true := by kernel_rfl
theorem TyShD.agg9 : aggB Tryz.prog 9 = some false := by kernel_rfl
theorem TyShD.agg95 : aggB Tryz.prog 95 = some true := by kernel_rfl
theorem TyShD.cb105 : CallB Tryz.prog 105 := fun _ _ => Tryz.call105 _ _
theorem TyShD.cb106 : CallB Tryz.prog 106 := fun _ _ => Tryz.call106 _ _
theorem TyShD.cb66 : CallB Tryz.prog 66 := fun _ _ => Tryz.call66 _ _
theorem TyShD.cb68 : CallB Tryz.prog 68 := fun _ _ => Tryz.call68 _ _
theorem TyShD.cb70 : CallB Tryz.prog 70 := fun _ _ => Tryz.call70 _ _
theorem TyShD.el69 : elB Tryz.prog 69 = some 2 := by kernel_rfl
theorem TyShD.fld40_0 : fldB Tryz.prog 40 0 = some 0 := by kernel_rfl
theorem TyShD.fld40_2 : fldB Tryz.prog 40 2 = some 2 := by kernel_rfl
theorem TyShD.fld40_3 : fldB Tryz.prog 40 3 = some 3 := by kernel_rfl
theorem TyShD.fld40_4 : fldB Tryz.prog 40 4 = some 4 := by kernel_rfl
theorem TyShD.fld40_7 : fldB Tryz.prog 40 7 = some 7 := by kernel_rfl
theorem TyShD.fld95_0 : fldB Tryz.prog 95 0 = some 0 := by kernel_rfl
theorem TyShD.fld95_1 : fldB Tryz.prog 95 1 = some 1 := by kernel_rfl
theorem TyShD.mixed : Tryz.prog.follows .mixedOrders = true := by kernel_rfl
theorem TyShD.pl95 : plB Tryz.prog 95 = some [(0, 1), (1, 1)] := by kernel_rfl
theorem TyShD.sz40 : szB Tryz.prog 40 = some 8 := by kernel_rfl
theorem TyShD.sz95 : szB Tryz.prog 95 = some 2 := by kernel_rfl
theorem TyShD.u105 : Tryz.prog.underlying 105 = some (.map 3 103) := by kernel_rfl
theorem TyShD.u3 : Tryz.prog.underlying 3 = some (.int .i64) := by kernel_rfl
theorem TyShD.u69 : Tryz.prog.underlying 69 = some (.slice 95) := by kernel_rfl
theorem TyShD.z103 : zeroB Tryz.prog 103 .nilFunc := by unfold zeroB; kernel_rfl
theorem TyShD.z95 : zeroB Tryz.prog 95 (.agg #[(.bool false), (.string ByteArray.empty)]) := by unfold zeroB; kernel_rfl
theorem ext_pushed_f87_sh {h h1 : Heap} {o : Obj} (e : h1 = Array.push h o) : Ext h h1 := by rw [e]; exact Ext.push _ _
theorem f54_sh (l : Option Addr) (b2 : Nat) (c3 : Nat) (a0 : Int) (a9 : ByteArray) (a3 : ByteArray) (b1 : Int) (b0 : Bool) (a7 : Int) (a6 : Int) (b3 : Int) (h : Heap) (R : Value → Heap → Prop)
  (H : (∀ (m : Nat) (h1 : Heap), Array.size h ≤ m → m < Array.size h1 → Ext h h1 → HC Tryz.prog 66 #[] h1 (fun vv h2 => Ext h1 h2 ∧ ∃ r : Option Nat, vv = (.map r) ∧ (∃ d4 : Nat, r = some d4 ∧ ∃ kv : List (Int × Value), MapL h2 d4 (Value.int .i64) kv ∧ ∃ x : Value, (lk kv a0).getD .nilFunc = x ∧ (∀ b6 : Value, b6 = (bif !((lk kv a0).isSome) then (.func (.func 67) #[] #[]) else x) → (∃ (c6 : Option Addr → Nat → Nat → Int → Heap → Prop) (c2 : Option Addr → Nat → Nat → Int → Heap → Nat), c6 none 0 0 0 h2 ∧ (∀ (b5 : Option Addr) (a5 : Nat) (a4 : Nat) (v : Int) (h3 : Heap), c6 b5 a5 a4 v h3 → (((decide (v < (b2 : Int))) = true → (∃ c7 c5 : Nat, l = some ⟨c7, c5, none⟩ ∧ (0 : Int) ≤ v ∧ v < (b2 : Int) ∧ (∃ a8 : Bool, ∃ a1 : ByteArray, hcell h3 c7 (c5 + (Int.toNat v) * 2) = some (.bool a8) ∧ hcell h3 c7 ((c5 + (Int.toNat v) * 2) + 1) = some (.string a1) ∧ (∀ (h5 : Heap), Ext h3 h5 → HCV Tryz.prog b6 [(.agg #[(.bool a8), (.string a1)]), (.agg #[(.int .i64 a0), (.string a9), (.string a3), (.int .i64 b1), (.bool b0), (.int .i64 a7), (.int .i64 a6), (.int .i64 b3)])] h5 (fun vv h6 => Kp [m] h5 h6 ∧ ∃ b9 : Option Addr, ∃ c1 c0 : Nat, vv = (.slice b9 c1 c0) ∧ HAppend Tryz.prog 69 69 (.slice b5 a5 a4) (.slice b9 c1 c0) h6 (fun vv h7 => Kp [m] h6 h7 ∧ ∃ ap : Option Addr, ∃ b7 b8 : Nat, vv = (.slice ap b7 b8) ∧ (c6 ap b7 b8 (IntKind.i64.wrap (v + 1)) h7 ∧ c2 ap b7 b8 (IntKind.i64.wrap (v + 1)) h7 < c2 b5 a5 a4 v h3))))))) ∧ ((decide (v < (b2 : Int))) = false → HC Tryz.prog 68 #[(.slice b5 a5 a4), (.func (.func 69) #[] #[])] h3 (fun vv h8 => vv = (.tuple #[]) ∧ HC Tryz.prog 70 #[(.slice b5 a5 a4)] h8 (fun vv h9 => ∃ b9 : Option Addr, ∃ c1 c0 : Nat, vv = (.slice b9 c1 c0) ∧ R (.slice b9 c1 c0) h9))))))))))) :
  HC Tryz.prog 54 #[(.slice l b2 c3), (.agg #[(.int .i64 a0), (.string a9), (.string a3), (.int .i64 b1), (.bool b0), (.int .i64 a7), (.int .i64 a6), (.int .i64 b3)])] h R := by
 refine hc_of (args := [(.slice l b2 c3), (.agg #[(.int .i64 a0), (.string a9), (.string a3), (.int .i64 b1), (.bool b0), (.int .i64 a7), (.int .i64 a6), (.int .i64 b3)])]) Tryz.func54 rfl Tryz.ntmps54 (Nat.le_of_ble_eq_true rfl) ?_
 refine xs (xr ?_)
 refine lp rfl rfl (hn_box (v := (.agg #[(.int .i64 a0), (.string a9), (.string a3), (.int .i64 b1), (.bool b0), (.int .i64 a7), (.int .i64 a6), (.int .i64 b3)])) rfl ?_)
 intro m h1 d8 e0
 have f6 := ext_pushed_f87_sh e0
 have f3 : Array.size h ≤ m := Nat.le_of_eq (Eq.symm d8)
 have c4 : h1[m]? = some (.cells #[(.int .i64 a0), (.string a9), (.string a3), (.int .i64 b1), (.bool b0), (.int .i64 a7), (.int .i64 a6), (.int .i64 b3)] 40 (0, 0)) := by rw [e0]; exact push_new d8
 refine lv rfl rfl (va rfl) ?_
 refine ln (qn (xs ?_))
 refine hx_draw TyShD.mixed [.ext, .pure, .read, .read, .pure, .pure, .pure, .pure, .pure] [1, 2, 0, 3, 4, 5, 6, 7, 8] (by kernel_rfl) ?_
 refine pp (i := 1) rfl (wanted_0 rfl) rfl (ptr m 0) (fun _ => vf TyShD.fld40_0 (b := m) (o := 0) rfl) ?_
 refine pr (i := 2) rfl (wanted_0 rfl) rfl (.int .i64 a0) (fun _ he => vl TyShD.agg3 rfl (Ext.cell he (rc c4 rfl))) ?_
 replace H := H m h1 f3 (row_lt c4) f6
 refine hp_ext (i := 0) rfl (wanted_0 rfl) rfl (sc TyShD.cb66 rfl (HC.mono H ?_))
 rintro _ h2 ⟨d9, r, rfl, H⟩
 refine ⟨d9, ?_⟩
 replace c4 := Ext.row d9 c4
 obtain ⟨d4, d2, Hq⟩ := H
 subst d2
 have H := Hq; clear Hq
 obtain ⟨kv, f5, x, f4, H⟩ := H
 refine pr (i := 3) rfl (wanted_0 rfl) rfl (.tuple #[x, (.bool ((lk kv a0).isSome))]) (fun _ he => hv_look2 (l := kv) (a := a0) (intK .i64) TyShD.u105 TyShD.u3 TyShD.z103 rfl rfl (MapL.ext he f5) f4) ?_
 refine pp (i := 4) rfl (wanted_0 rfl) rfl (.tuple #[x, (.bool ((lk kv a0).isSome))]) (fun _ => vm rfl) ?_
 refine pp (i := 5) rfl (wanted_0 rfl) rfl x (fun _ => vx (vs := #[x, (.bool ((lk kv a0).isSome))]) rfl rfl) ?_
 refine pp (i := 6) rfl (wanted_0 rfl) rfl (.bool ((lk kv a0).isSome)) (fun _ => vx (vs := #[x, (.bool ((lk kv a0).isSome))]) rfl rfl) ?_
 refine pp (i := 7) rfl (wanted_0 rfl) rfl x (fun _ => va rfl) ?_
 refine pp (i := 8) rfl (wanted_0 rfl) rfl (.bool ((lk kv a0).isSome)) (fun _ => va rfl) ?_
 refine hp_nil ?_
 refine qn ?_
 obtain ⟨b6, hq11⟩ : ∃ q : Value, q = (bif !((lk kv a0).isSome) then (.func (.func 67) #[] #[]) else x) := ⟨_, rfl⟩
 replace H := H b6 hq11
 refine xk (fun ρ h' => h2 = h' ∧ Has ρ [(0, (.slice l b2 c3)), (3, (ptr m 0)), (5, b6)]) ?_ ?_
 ·refine xs (xr ?_)
  refine lv rfl rfl (vm rfl) (lv rfl rfl (v := (.bool (!((lk kv a0).isSome)))) (hv_not (b := (lk kv a0).isSome) rfl) ?_)
  refine ln (qn ?_)
  refine xc (b := !((lk kv a0).isSome)) rfl (fun b4 => ?_) (fun b4 => ?_)
  ·refine xr ?_
   refine lv rfl rfl (va rfl) ?_
   refine ln (qn ?_)
   exact ⟨rfl, (hc rfl (hc rfl (hc (show ((.func (.func 67) #[] #[]) : Value) = b6 from (by first | rfl | ((try rw [b4]); (try rw [hq11]); (try rw [b4]); all_goals first | rfl | (simp only [Bool.true_or, Bool.or_true, Bool.false_or, Bool.or_false, Bool.true_and, Bool.and_true, Bool.false_and, Bool.and_false, Bool.not_true, Bool.not_false, Bool.cond_true, Bool.cond_false]; done)) | simp [b4, hq11, b4])) hn)))⟩
  ·refine xi (qn ?_)
   exact ⟨rfl, (hc rfl (hc rfl (hc (show (x : Value) = b6 from (by first | rfl | ((try rw [b4]); (try rw [hq11]); (try rw [b4]); all_goals first | rfl | (simp only [Bool.true_or, Bool.or_true, Bool.false_or, Bool.or_false, Bool.true_and, Bool.and_true, Bool.false_and, Bool.and_false, Bool.not_true, Bool.not_false, Bool.cond_true, Bool.cond_false]; done)) | simp [b4, hq11, b4])) hn)))⟩
 ·rintro ρ _ ⟨rfl, hH⟩
  refine xh _ hH ?_
  refine xs (xr ?_)
  refine lv rfl rfl (va rfl) ?_
  refine ln (qn (xs (xs (xr ?_))))
  refine lv rfl rfl (vm rfl) (lv rfl rfl (v := (.int .i64 (b2 : Int))) (hv_len (n := b2) TyShD.u69 rfl) (lv rfl rfl (vm rfl) ?_))
  refine ln (qn (xb ?_))
  obtain ⟨c6, c2, e7, e9⟩ := H
  refine xl (σ := Option Addr × Nat × Nat × Int) (fun s => [(3, (ptr m 0)), (5, b6), (7, (.slice s.1 s.2.1 s.2.2.1)), (19, (.slice l b2 c3)), (20, (.int .i64 (b2 : Int))), (21, (.int .i64 s.2.2.2))]) (fun s h' => c6 s.1 s.2.1 s.2.2.1 s.2.2.2 h' ∧ h'[m]? = some (.cells #[(.int .i64 a0), (.string a9), (.string a3), (.int .i64 b1), (.bool b0), (.int .i64 a7), (.int .i64 a6), (.int .i64 b3)] 40 (0, 0)) ∧ True) (fun s h' => c2 s.1 s.2.1 s.2.2.1 s.2.2.2 h') (none, 0, 0, 0) ⟨e7, c4, trivial⟩ (hc rfl (hc rfl (hc rfl (hc rfl (hc rfl (hc rfl hn)))))) ?_
  rintro ⟨b5, a5, a4, v⟩ ρ h3 ⟨e3, a2, -⟩
  have H := e9 b5 a5 a4 v h3 e3
  refine xs (xr ?_)
  refine lv rfl rfl (vr rfl rfl rfl) ?_
  refine ln (qn (xs ?_))
  refine xc (b := decide (v < (b2 : Int))) rfl (fun d0 => ?_) (fun d0 => ?_)
  ·replace H := H.1 d0
   refine xi (qn (xs (xb (xs (xr ?_)))))
   obtain ⟨c7, c5, d2, f1, e1, Hq⟩ := H
   subst d2
   have H := Hq; clear Hq
   refine lv rfl rfl (v := (ptr c7 (c5 + (Int.toNat v) * 2))) (vi TyShD.el69 rfl rfl f1 e1) ?_
   obtain ⟨a8, a1, f2, f0, H⟩ := H
   refine lv rfl rfl (vL (vs := [(.bool a8), (.string a1)]) TyShD.agg95 TyShD.sz95 rfl (cc f2 (cc f0 cn))) ?_
   refine lp rfl rfl (hn_alloc TyShD.z95 ?_)
   intro d6 h4 c9 d3
   have d7 := ext_pushed_f87_sh d3
   have e5 := Nat.ne_of_lt (Nat.lt_of_lt_of_eq (row_lt a2) (Eq.symm c9))
   have e8 : Array.size h3 ≤ d6 := Nat.le_of_eq (Eq.symm c9)
   have d5 : h4[d6]? = some (.cells #[(.bool false), (.string ByteArray.empty)] 95 (0, 0)) := by rw [d3]; exact push_new c9
   replace a2 := Ext.row d7 a2
   refine lp rfl rfl (hn_stores (vs := [(.bool a8), (.string a1)]) rfl rfl TyShD.sz95 rfl (HWs_row d5 (by simp)) ?_)
   intro h5 c8
   replace a2 := row_hsets_ne c8 e5 a2
   have d1 : h5[d6]? = some (.cells #[(.bool a8), (.string a1)] 95 (0, 0)) := row_hsets_eq c8 d5 rfl
   have e4 := ext_hsets c8 d7 e8
   refine ln (qn (xr ?_))
   refine lv rfl rfl (vm rfl) (lv rfl rfl (vm rfl) (lv rfl rfl (vL (vs := [(.bool a8), (.string a1)]) TyShD.agg95 TyShD.sz95 rfl (cc (rc d1 rfl) (cc (rc d1 rfl) cn))) (lv rfl rfl (vL (vs := [(.int .i64 a0), (.string a9), (.string a3), (.int .i64 b1), (.bool b0), (.int .i64 a7), (.int .i64 a6), (.int .i64 b3)]) TyShD.agg40 TyShD.sz40 rfl (cc (rc a2 rfl) (cc (rc a2 rfl) (cc (rc a2 rfl) (cc (rc a2 rfl) (cc (rc a2 rfl) (cc (rc a2 rfl) (cc (rc a2 rfl) (cc (rc a2 rfl) cn))))))))) ?_)))
   replace H := H h5 e4
   refine lp rfl rfl (hs_callF (vs := [(.agg #[(.bool a8), (.string a1)]), (.agg #[(.int .i64 a0), (.string a9), (.string a3), (.int .i64 b1), (.bool b0), (.int .i64 a7), (.int .i64 a6), (.int .i64 b3)])]) rfl rfl (HCV.mono H ?_))
   rintro _ h6 ⟨e6, b9, c1, c0, rfl, H⟩
   replace a2 := Kp.row e6 (by simp) a2
   refine lp rfl rfl (hs_append rfl rfl (HAppend.mono H ?_))
   rintro _ h7 ⟨e2, ap, b7, b8, rfl, H⟩
   replace a2 := Kp.row e2 (by simp) a2
   refine lv rfl rfl (va rfl) ?_
   refine ln (bn (qn (xr ?_)))
   refine lv rfl rfl (vr rfl rfl rfl) (lv rfl rfl (vm rfl) ?_)
   refine ln (qn ?_)
   exact ⟨(ap, b7, b8, IntKind.i64.wrap (v + 1)), ⟨⟨H.1, a2, trivial⟩, H.2⟩, (hc rfl (hc rfl (hc rfl (hc rfl (hc rfl (hc rfl hn))))))⟩
  ·replace H := H.2 d0
   refine xe (qe (qe (bh (qn (xs (xr ?_))))))
   refine lv rfl rfl (vm rfl) ?_
   refine lp rfl rfl (sc TyShD.cb68 rfl (HC.mono H ?_))
   rintro _ h8 ⟨rfl, H⟩
   refine ln (qn (xs (xr ?_)))
   refine lv rfl rfl (vm rfl) ?_
   refine lp rfl rfl (sc TyShD.cb70 rfl (HC.mono H ?_))
   rintro _ h9 ⟨b9, c1, c0, rfl, H⟩
   refine lv rfl rfl (va rfl) ?_
   refine ln (qn (xt ?_))
   exact endQ_ret _ (res_one Tryz.results54 (rv_tmp rfl)) H
theorem f87_sh (l : Option Addr) (c4 : Nat) (d0 : Nat) (a1 : Int) (a7 : ByteArray) (a0 : ByteArray) (a2 : Int) (a3 : Bool) (a5 : Int) (a4 : Int) (a6 : Int) (h : Heap) (R : Value → Heap → Prop)
  (H : (∀ (m : Nat) (h2 : Heap), Array.size h ≤ m → m < Array.size h2 → Ext h h2 → (∃ (e3 : Option Addr → Nat → Nat → Int → Heap → Prop) (e1 : Option Addr → Nat → Nat → Int → Heap → Nat), e3 none 0 0 0 h2 ∧ (∀ (c9 : Option Addr) (c0 : Nat) (b9 : Nat) (i : Int) (h3 : Heap), e3 c9 c0 b9 i h3 → (((decide (i < (c4 : Int))) = true → (∃ d9 : Option Addr → Nat → Nat → Heap → Prop, (∃ d2 d1 : Nat, l = some ⟨d2, d1, none⟩ ∧ (0 : Int) ≤ i ∧ i < (c4 : Int) ∧ (∃ a9 : Bool, ∃ a8 : ByteArray, hcell h3 d2 (d1 + (Int.toNat i) * 2) = some (.bool a9) ∧ hcell h3 d2 ((d1 + (Int.toNat i) * 2) + 1) = some (.string a8) ∧ (((((a1 == 1) && ((decide (a6 ≥ 0)) && ((a2 == 0) && a3))) && ((!a9) || (!decide (a8 = a0)))) = true → (∀ (h6 : Heap), Ext h3 h6 → (d9 c9 c0 b9 h6))) ∧ ((((a1 == 1) && ((decide (a6 ≥ 0)) && ((a2 == 0) && a3))) && ((!a9) || (!decide (a8 = a0)))) = false → (∃ e4 : Option Addr → Nat → Nat → Heap → Prop, ((((Ml.doesR ⟨a1, a7, a0, a2, a3, a5, a4, a6⟩).1) = true → (∀ (h6 : Heap), Ext h3 h6 → HC Tryz.prog 106 #[(.slice c9 c0 b9), (.agg #[(.bool a9), (.string a8)])] h6 (fun vv h8 => Kp [m] h6 h8 ∧ ∃ r : Option Addr, ∃ g2 g1 : Nat, vv = (.slice r g2 g1) ∧ (e4 r g2 g1 h8)))) ∧ (((Ml.doesR ⟨a1, a7, a0, a2, a3, a5, a4, a6⟩).1) = false → (∀ (h6 : Heap), Ext h3 h6 → (e4 c9 c0 b9 h6)))) ∧ (∀ (c3 : Option Addr) (b1 : Nat) (b2 : Nat) (h7 : Heap), e4 c3 b1 b2 h7 → (∃ e2 : Option Addr → Nat → Nat → Heap → Prop, ((((Ml.doesR ⟨a1, a7, a0, a2, a3, a5, a4, a6⟩).2.1) = true → HC Tryz.prog 106 #[(.slice c3 b1 b2), (.agg #[(.bool true), (.string a0)])] h7 (fun vv g4 => Kp [m] h7 g4 ∧ ∃ g0 : Option Addr, ∃ d4 d5 : Nat, vv = (.slice g0 d4 d5) ∧ (e2 g0 d4 d5 g4))) ∧ (((Ml.doesR ⟨a1, a7, a0, a2, a3, a5, a4, a6⟩).2.1) = false → (e2 c3 b1 b2 h7))) ∧ (∀ (c2 : Option Addr) (b3 : Nat) (b4 : Nat) (h9 : Heap), e2 c2 b3 b4 h9 → ((((Ml.doesR ⟨a1, a7, a0, a2, a3, a5, a4, a6⟩).2.2) = true → HC Tryz.prog 106 #[(.slice c2 b3 b4), (.agg #[(.bool false), (.string ByteArray.empty)])] h9 (fun vv g6 => Kp [m] h9 g6 ∧ ∃ f9 : Option Addr, ∃ d6 d7 : Nat, vv = (.slice f9 d6 d7) ∧ (d9 f9 d6 d7 g6))) ∧ (((Ml.doesR ⟨a1, a7, a0, a2, a3, a5, a4, a6⟩).2.2) = false → (d9 c2 b3 b4 h9))))))))))) ∧ (∀ (c6 : Option Addr) (b7 : Nat) (b8 : Nat) (h4 : Heap), d9 c6 b7 b8 h4 → (e3 c6 b7 b8 (IntKind.i64.wrap (i + 1)) h4 ∧ e1 c6 b7 b8 (IntKind.i64.wrap (i + 1)) h4 < e1 c9 c0 b9 i h3)))) ∧ ((decide (i < (c4 : Int))) = false → R (.slice c9 c0 b9) h3)))))) :
  HC Tryz.prog 87 #[(.slice l c4 d0), (.agg #[(.int .i64 a1), (.string a7), (.string a0), (.int .i64 a2), (.bool a3), (.int .i64 a5), (.int .i64 a4), (.int .i64 a6)])] h R := by
 refine hc_of (args := [(.slice l c4 d0), (.agg #[(.int .i64 a1), (.string a7), (.string a0), (.int .i64 a2), (.bool a3), (.int .i64 a5), (.int .i64 a4), (.int .i64 a6)])]) Tryz.func87 rfl Tryz.ntmps87 (Nat.le_of_ble_eq_true rfl) ?_
 refine xs (xr ?_)
 refine lp rfl rfl (hn_box (v := (.agg #[(.int .i64 a1), (.string a7), (.string a0), (.int .i64 a2), (.bool a3), (.int .i64 a5), (.int .i64 a4), (.int .i64 a6)])) rfl ?_)
 intro m h1 g8 i0
 have k0 := ext_pushed_f87_sh i0
 have j7 : Array.size h ≤ m := Nat.le_of_eq (Eq.symm g8)
 have c5 : h1[m]? = some (.cells #[(.int .i64 a1), (.string a7), (.string a0), (.int .i64 a2), (.bool a3), (.int .i64 a5), (.int .i64 a4), (.int .i64 a6)] 40 (0, 0)) := by rw [i0]; exact push_new g8
 refine lv rfl rfl (va rfl) ?_
 refine ln (qn (xs (xr ?_)))
 refine lv rfl rfl (va rfl) ?_
 refine ln (qn (xs (xr ?_)))
 refine lv rfl rfl (vL (vs := [(.int .i64 a1), (.string a7), (.string a0), (.int .i64 a2), (.bool a3), (.int .i64 a5), (.int .i64 a4), (.int .i64 a6)]) TyShD.agg40 TyShD.sz40 rfl (cc (rc c5 rfl) (cc (rc c5 rfl) (cc (rc c5 rfl) (cc (rc c5 rfl) (cc (rc c5 rfl) (cc (rc c5 rfl) (cc (rc c5 rfl) (cc (rc c5 rfl) cn))))))))) ?_
 refine lp rfl rfl (sc TyShD.cb105 rfl (HC.mono (does_c (⟨a1, a7, a0, a2, a3, a5, a4, a6⟩) _) ?_))
 rintro _ h2 ⟨rfl, g9⟩
 replace c5 := Ext.row g9 c5
 have j9 := Ext.trans k0 g9
 refine lv rfl rfl (vm rfl) (lv rfl rfl (vx rfl rfl) (lv rfl rfl (vx rfl rfl) (lv rfl rfl (vx rfl rfl) (lv rfl rfl (va rfl) (lv rfl rfl (va rfl) ?_)))))
 refine lv rfl rfl (va rfl) ?_
 refine ln (qn ?_)
 refine xk (fun ρ h' => h2 = h' ∧ Has ρ [(0, (.slice l c4 d0)), (3, (ptr m 0)), (5, (.slice none 0 0)), (6, (.bool ((Ml.doesR ⟨a1, a7, a0, a2, a3, a5, a4, a6⟩).1))), (7, (.bool ((Ml.doesR ⟨a1, a7, a0, a2, a3, a5, a4, a6⟩).2.1))), (8, (.bool ((Ml.doesR ⟨a1, a7, a0, a2, a3, a5, a4, a6⟩).2.2))), (9, (.bool ((a1 == 1) && ((decide (a6 ≥ 0)) && ((a2 == 0) && a3)))))]) ?_ ?_
 ·refine xr ?_
  refine lv rfl rfl (v := (ptr m 0)) (vf TyShD.fld40_0 (b := m) (o := 0) rfl) (lv rfl rfl (vl TyShD.agg3 rfl (rc c5 rfl)) (lv rfl rfl (vr rfl rfl rfl) (lv rfl rfl (vm rfl) ?_)))
  rcases bool_or (a1 == 1) with b5 | b5
  ·refine ly (wanted_y rfl rfl rfl b5) rfl (HStep.of_val (v := (ptr m 7)) (vf TyShD.fld40_7 (b := m) (o := 0) rfl) ?_)
   refine ly (wanted_y rfl rfl rfl b5) rfl (HStep.of_val (v := (.int .i64 a6)) (vl TyShD.agg3 rfl (rc c5 rfl)) ?_)
   refine ly (wanted_y rfl rfl rfl b5) rfl (HStep.of_val (v := (.bool (decide (a6 ≥ 0)))) (vr rfl rfl rfl) ?_)
   refine lv rfl rfl (v := (.bool (decide (a6 ≥ 0)))) (hv_pick_t rfl b5 rfl) (lv rfl rfl (vm rfl) ?_)
   rcases bool_or (decide (a6 ≥ 0)) with c1 | c1
   ·refine ly (wanted_y rfl rfl rfl c1) rfl (HStep.of_val (v := (ptr m 3)) (vf TyShD.fld40_3 (b := m) (o := 0) rfl) ?_)
    refine ly (wanted_y rfl rfl rfl c1) rfl (HStep.of_val (v := (.int .i64 a2)) (vl TyShD.agg27 rfl (rc c5 rfl)) ?_)
    refine ly (wanted_y rfl rfl rfl c1) rfl (HStep.of_val (v := (.bool (a2 == 0))) (vr rfl rfl rfl) ?_)
    refine lv rfl rfl (v := (.bool (a2 == 0))) (hv_pick_t rfl c1 rfl) (lv rfl rfl (vm rfl) ?_)
    rcases bool_or (a2 == 0) with c8 | c8
    ·refine ly (wanted_y rfl rfl rfl c8) rfl (HStep.of_val (v := (ptr m 4)) (vf TyShD.fld40_4 (b := m) (o := 0) rfl) ?_)
     refine ly (wanted_y rfl rfl rfl c8) rfl (HStep.of_val (v := (.bool a3)) (vl TyShD.agg4 rfl (rc c5 rfl)) ?_)
     refine lv rfl rfl (v := (.bool a3)) (hv_pick_t rfl c8 rfl) (lv rfl rfl (va rfl) ?_)
     refine ln (qn ?_)
     exact ⟨rfl, (hc rfl (hc rfl (hc rfl (hc rfl (hc rfl (hc rfl (hc (show ((.bool a3) : Value) = (.bool ((a1 == 1) && ((decide (a6 ≥ 0)) && ((a2 == 0) && a3)))) from (by first | rfl | ((try rw [b5]); (try rw [c1]); (try rw [c8]); all_goals first | rfl | (simp only [Bool.true_or, Bool.or_true, Bool.false_or, Bool.or_false, Bool.true_and, Bool.and_true, Bool.false_and, Bool.and_false, Bool.not_true, Bool.not_false, Bool.cond_true, Bool.cond_false]; done)) | simp [b5, c1, c8])) hn)))))))⟩
    ·refine lo (wanted_n rfl rfl rfl c8) rfl ?_
     refine lo (wanted_n rfl rfl rfl c8) rfl ?_
     refine lv rfl rfl (v := (.bool false)) (hv_pick_f rfl c8 rfl) (lv rfl rfl (va rfl) ?_)
     refine ln (qn ?_)
     exact ⟨rfl, (hc rfl (hc rfl (hc rfl (hc rfl (hc rfl (hc rfl (hc (show ((.bool false) : Value) = (.bool ((a1 == 1) && ((decide (a6 ≥ 0)) && ((a2 == 0) && a3)))) from (by first | rfl | ((try rw [b5]); (try rw [c1]); (try rw [c8]); all_goals first | rfl | (simp only [Bool.true_or, Bool.or_true, Bool.false_or, Bool.or_false, Bool.true_and, Bool.and_true, Bool.false_and, Bool.and_false, Bool.not_true, Bool.not_false, Bool.cond_true, Bool.cond_false]; done)) | simp [b5, c1, c8])) hn)))))))⟩
   ·refine lo (wanted_n rfl rfl rfl c1) rfl ?_
    refine lo (wanted_n rfl rfl rfl c1) rfl ?_
    refine lo (wanted_n rfl rfl rfl c1) rfl ?_
    refine lv rfl rfl (v := (.bool false)) (hv_pick_f rfl c1 rfl) (lv rfl rfl (vm rfl) ?_)
    refine lo (wanted_n rfl rfl (c := false) rfl rfl) rfl ?_
    refine lo (wanted_n rfl rfl (c := false) rfl rfl) rfl ?_
    refine lv rfl rfl (v := (.bool false)) (hv_pick (t := false) rfl rfl) (lv rfl rfl (va rfl) ?_)
    refine ln (qn ?_)
    exact ⟨rfl, (hc rfl (hc rfl (hc rfl (hc rfl (hc rfl (hc rfl (hc (show ((.bool false) : Value) = (.bool ((a1 == 1) && ((decide (a6 ≥ 0)) && ((a2 == 0) && a3)))) from (by first | rfl | ((try rw [b5]); (try rw [c1]); all_goals first | rfl | (simp only [Bool.true_or, Bool.or_true, Bool.false_or, Bool.or_false, Bool.true_and, Bool.and_true, Bool.false_and, Bool.and_false, Bool.not_true, Bool.not_false, Bool.cond_true, Bool.cond_false]; done)) | simp [b5, c1])) hn)))))))⟩
  ·refine lo (wanted_n rfl rfl rfl b5) rfl ?_
   refine lo (wanted_n rfl rfl rfl b5) rfl ?_
   refine lo (wanted_n rfl rfl rfl b5) rfl ?_
   refine lv rfl rfl (v := (.bool false)) (hv_pick_f rfl b5 rfl) (lv rfl rfl (vm rfl) ?_)
   refine lo (wanted_n rfl rfl (c := false) rfl rfl) rfl ?_
   refine lo (wanted_n rfl rfl (c := false) rfl rfl) rfl ?_
   refine lo (wanted_n rfl rfl (c := false) rfl rfl) rfl ?_
   refine lv rfl rfl (v := (.bool false)) (hv_pick (t := false) rfl rfl) (lv rfl rfl (vm rfl) ?_)
   refine lo (wanted_n rfl rfl (c := false) rfl rfl) rfl ?_
   refine lo (wanted_n rfl rfl (c := false) rfl rfl) rfl ?_
   refine lv rfl rfl (v := (.bool false)) (hv_pick (t := false) rfl rfl) (lv rfl rfl (va rfl) ?_)
   refine ln (qn ?_)
   exact ⟨rfl, (hc rfl (hc rfl (hc rfl (hc rfl (hc rfl (hc rfl (hc (show ((.bool false) : Value) = (.bool ((a1 == 1) && ((decide (a6 ≥ 0)) && ((a2 == 0) && a3)))) from (by first | rfl | ((try rw [b5]); all_goals first | rfl | (simp only [Bool.true_or, Bool.or_true, Bool.false_or, Bool.or_false, Bool.true_and, Bool.and_true, Bool.false_and, Bool.and_false, Bool.not_true, Bool.not_false, Bool.cond_true, Bool.cond_false]; done)) | simp [b5])) hn)))))))⟩
 ·rintro ρ _ ⟨rfl, hH⟩
  refine xh _ hH ?_
  refine xs (xs (xr ?_))
  refine lv rfl rfl (va rfl) ?_
  refine ln (qn (xb ?_))
  replace H := H m h2 j7 (row_lt c5) j9
  obtain ⟨e3, e1, j3, j5⟩ := H
  refine xl (σ := Option Addr × Nat × Nat × Int) (fun s => [(0, (.slice l c4 d0)), (3, (ptr m 0)), (5, (.slice s.1 s.2.1 s.2.2.1)), (6, (.bool ((Ml.doesR ⟨a1, a7, a0, a2, a3, a5, a4, a6⟩).1))), (7, (.bool ((Ml.doesR ⟨a1, a7, a0, a2, a3, a5, a4, a6⟩).2.1))), (8, (.bool ((Ml.doesR ⟨a1, a7, a0, a2, a3, a5, a4, a6⟩).2.2))), (9, (.bool ((a1 == 1) && ((decide (a6 ≥ 0)) && ((a2 == 0) && a3))))), (10, (.int .i64 s.2.2.2))]) (fun s h' => e3 s.1 s.2.1 s.2.2.1 s.2.2.2 h' ∧ h'[m]? = some (.cells #[(.int .i64 a1), (.string a7), (.string a0), (.int .i64 a2), (.bool a3), (.int .i64 a5), (.int .i64 a4), (.int .i64 a6)] 40 (0, 0)) ∧ True) (fun s h' => e1 s.1 s.2.1 s.2.2.1 s.2.2.2 h') (none, 0, 0, 0) ⟨j3, c5, trivial⟩ (hc rfl (hc rfl (hc rfl (hc rfl (hc rfl (hc rfl (hc rfl (hc rfl hn)))))))) ?_
  rintro ⟨c9, c0, b9, i⟩ ρ h3 ⟨i3, c7, -⟩
  have H := j5 c9 c0 b9 i h3 i3
  refine xs (xs (xr ?_))
  refine lv rfl rfl (vm rfl) (lv rfl rfl (vm rfl) (lv rfl rfl (v := (.int .i64 (c4 : Int))) (hv_len (n := c4) TyShD.u69 rfl) (lv rfl rfl (vr rfl rfl rfl) ?_)))
  refine ln (qn ?_)
  refine xc (b := decide (i < (c4 : Int))) rfl (fun e6 => ?_) (fun e6 => ?_)
  ·replace H := H.1 e6
   refine xi (qn ?_)
   obtain ⟨d9, f8, f2⟩ := H
   refine xk (fun ρ h' => ∃ c6 : Option Addr, ∃ b7 b8 : Nat, (d9 c6 b7 b8 h' ∧ h'[m]? = some (.cells #[(.int .i64 a1), (.string a7), (.string a0), (.int .i64 a2), (.bool a3), (.int .i64 a5), (.int .i64 a4), (.int .i64 a6)] 40 (0, 0)) ∧ True) ∧ Has ρ [(0, (.slice l c4 d0)), (3, (ptr m 0)), (5, (.slice c6 b7 b8)), (6, (.bool ((Ml.doesR ⟨a1, a7, a0, a2, a3, a5, a4, a6⟩).1))), (7, (.bool ((Ml.doesR ⟨a1, a7, a0, a2, a3, a5, a4, a6⟩).2.1))), (8, (.bool ((Ml.doesR ⟨a1, a7, a0, a2, a3, a5, a4, a6⟩).2.2))), (9, (.bool ((a1 == 1) && ((decide (a6 ≥ 0)) && ((a2 == 0) && a3))))), (10, (.int .i64 i))]) ?_ ?_
   ·have H := f8; clear f8 f2
    refine xb (xs (xr ?_))
    refine lv rfl rfl (vm rfl) (lv rfl rfl (vm rfl) ?_)
    obtain ⟨d2, d1, j8, j2, i5, Hq⟩ := H
    subst j8
    have H := Hq; clear Hq
    refine lv rfl rfl (v := (ptr d2 (d1 + (Int.toNat i) * 2))) (vi TyShD.el69 rfl rfl j2 i5) ?_
    obtain ⟨a9, a8, i9, j0, H⟩ := H
    refine lv rfl rfl (vL (vs := [(.bool a9), (.string a8)]) TyShD.agg95 TyShD.sz95 rfl (cc i9 (cc j0 cn))) ?_
    refine lp rfl rfl (hn_alloc TyShD.z95 ?_)
    intro x h5 f6 g3
    have g7 := ext_pushed_f87_sh g3
    have j1 := Nat.ne_of_lt (Nat.lt_of_lt_of_eq (row_lt c7) (Eq.symm f6))
    have i4 : Array.size h3 ≤ x := Nat.le_of_eq (Eq.symm f6)
    have g5 : h5[x]? = some (.cells #[(.bool false), (.string ByteArray.empty)] 95 (0, 0)) := by rw [g3]; exact push_new f6
    replace c7 := Ext.row g7 c7
    refine lp rfl rfl (hn_stores (vs := [(.bool a9), (.string a8)]) rfl rfl TyShD.sz95 rfl (HWs_row g5 (by simp)) ?_)
    intro h6 f1
    replace c7 := row_hsets_ne f1 j1 c7
    have d3 : h6[x]? = some (.cells #[(.bool a9), (.string a8)] 95 (0, 0)) := row_hsets_eq f1 g5 rfl
    have f5 := ext_hsets f1 g7 i4
    refine ln (qn (xs ?_))
    refine xk (fun ρ h' => h6 = h' ∧ Has ρ [(0, (.slice (some ⟨d2, d1, none⟩) c4 d0)), (3, (ptr m 0)), (5, (.slice c9 c0 b9)), (6, (.bool ((Ml.doesR ⟨a1, a7, a0, a2, a3, a5, a4, a6⟩).1))), (7, (.bool ((Ml.doesR ⟨a1, a7, a0, a2, a3, a5, a4, a6⟩).2.1))), (8, (.bool ((Ml.doesR ⟨a1, a7, a0, a2, a3, a5, a4, a6⟩).2.2))), (9, (.bool ((a1 == 1) && ((decide (a6 ≥ 0)) && ((a2 == 0) && a3))))), (10, (.int .i64 i)), (11, (ptr x 0)), (57, (.bool (((a1 == 1) && ((decide (a6 ≥ 0)) && ((a2 == 0) && a3))) && ((!a9) || (!decide (a8 = a0))))))]) ?_ ?_
    ·refine xr ?_
     refine lv rfl rfl (vm rfl) (lv rfl rfl (vm rfl) ?_)
     rcases bool_or (((a1 == 1) && ((decide (a6 ≥ 0)) && ((a2 == 0) && a3)))) with b0 | b0
     ·refine ly (wanted_y rfl rfl rfl b0) rfl (HStep.of_val (v := (ptr x 0)) (vf TyShD.fld95_0 (b := x) (o := 0) rfl) ?_)
      refine ly (wanted_y rfl rfl rfl b0) rfl (HStep.of_val (v := (.bool a9)) (vl TyShD.agg4 rfl (rc d3 rfl)) ?_)
      refine ly (wanted_y rfl rfl rfl b0) rfl (HStep.of_val (v := (.bool (!a9))) (hv_not (b := a9) rfl) ?_)
      refine ly (wanted_y rfl rfl rfl b0) rfl (HStep.of_val (v := (.bool (!a9))) (vm rfl) ?_)
      rcases bool_or (!a9) with b6 | b6
      ·refine lo (wanted_n rfl rfl rfl b6) rfl ?_
       refine lo (wanted_n rfl rfl rfl b6) rfl ?_
       refine lo (wanted_n rfl rfl rfl b6) rfl ?_
       refine lo (wanted_n rfl rfl rfl b6) rfl ?_
       refine lo (wanted_n rfl rfl rfl b6) rfl ?_
       refine ly (wanted_y rfl rfl rfl b0) rfl (HStep.of_val (v := (.bool true)) (hv_pick_t rfl b6 rfl) ?_)
       refine lv rfl rfl (v := (.bool true)) (hv_pick_t rfl b0 rfl) ?_
       refine ln (qn ?_)
       exact ⟨rfl, (hc rfl (hc rfl (hc rfl (hc rfl (hc rfl (hc rfl (hc rfl (hc rfl (hc rfl (hc (show ((.bool true) : Value) = (.bool (((a1 == 1) && ((decide (a6 ≥ 0)) && ((a2 == 0) && a3))) && ((!a9) || (!decide (a8 = a0))))) from (by first | rfl | ((try rw [b0]); (try rw [b6]); all_goals first | rfl | (simp only [Bool.true_or, Bool.or_true, Bool.false_or, Bool.or_false, Bool.true_and, Bool.and_true, Bool.false_and, Bool.and_false, Bool.not_true, Bool.not_false, Bool.cond_true, Bool.cond_false]; done)) | simp [b0, b6])) hn))))))))))⟩
      ·refine ly (wanted_y rfl rfl rfl b6) rfl (HStep.of_val (v := (ptr x 1)) (vf TyShD.fld95_1 (b := x) (o := 0) rfl) ?_)
       refine ly (wanted_y rfl rfl rfl b6) rfl (HStep.of_val (v := (.string a8)) (vl TyShD.agg9 rfl (rc d3 rfl)) ?_)
       refine ly (wanted_y rfl rfl rfl b6) rfl (HStep.of_val (v := (ptr m 2)) (vf TyShD.fld40_2 (b := m) (o := 0) rfl) ?_)
       refine ly (wanted_y rfl rfl rfl b6) rfl (HStep.of_val (v := (.string a0)) (vl TyShD.agg9 rfl (rc c7 rfl)) ?_)
       refine ly (wanted_y rfl rfl rfl b6) rfl (HStep.of_val (v := (.bool (!decide (a8 = a0)))) (hv_str rfl rfl rfl) ?_)
       refine ly (wanted_y rfl rfl rfl b0) rfl (HStep.of_val (v := (.bool (!decide (a8 = a0)))) (hv_pick_f rfl b6 rfl) ?_)
       refine lv rfl rfl (v := (.bool (!decide (a8 = a0)))) (hv_pick_t rfl b0 rfl) ?_
       refine ln (qn ?_)
       exact ⟨rfl, (hc rfl (hc rfl (hc rfl (hc rfl (hc rfl (hc rfl (hc rfl (hc rfl (hc rfl (hc (show ((.bool (!decide (a8 = a0))) : Value) = (.bool (((a1 == 1) && ((decide (a6 ≥ 0)) && ((a2 == 0) && a3))) && ((!a9) || (!decide (a8 = a0))))) from (by first | rfl | ((try rw [b0]); (try rw [b6]); all_goals first | rfl | (simp only [Bool.true_or, Bool.or_true, Bool.false_or, Bool.or_false, Bool.true_and, Bool.and_true, Bool.false_and, Bool.and_false, Bool.not_true, Bool.not_false, Bool.cond_true, Bool.cond_false]; done)) | simp [b0, b6])) hn))))))))))⟩
     ·refine lo (wanted_n rfl rfl rfl b0) rfl ?_
      refine lo (wanted_n rfl rfl rfl b0) rfl ?_
      refine lo (wanted_n rfl rfl rfl b0) rfl ?_
      refine lo (wanted_n rfl rfl rfl b0) rfl ?_
      refine lo (wanted_u rfl rfl rfl) rfl ?_
      refine lo (wanted_u rfl rfl rfl) rfl ?_
      refine lo (wanted_u rfl rfl rfl) rfl ?_
      refine lo (wanted_u rfl rfl rfl) rfl ?_
      refine lo (wanted_u rfl rfl rfl) rfl ?_
      refine lo (wanted_n rfl rfl rfl b0) rfl ?_
      refine lv rfl rfl (v := (.bool false)) (hv_pick_f rfl b0 rfl) ?_
      refine ln (qn ?_)
      exact ⟨rfl, (hc rfl (hc rfl (hc rfl (hc rfl (hc rfl (hc rfl (hc rfl (hc rfl (hc rfl (hc (show ((.bool false) : Value) = (.bool (((a1 == 1) && ((decide (a6 ≥ 0)) && ((a2 == 0) && a3))) && ((!a9) || (!decide (a8 = a0))))) from (by first | rfl | ((try rw [b0]); all_goals first | rfl | (simp only [Bool.true_or, Bool.or_true, Bool.false_or, Bool.or_false, Bool.true_and, Bool.and_true, Bool.false_and, Bool.and_false, Bool.not_true, Bool.not_false, Bool.cond_true, Bool.cond_false]; done)) | simp [b0])) hn))))))))))⟩
    ·rintro ρ _ ⟨rfl, hH⟩
     refine xh _ hH ?_
     refine xc (b := (((a1 == 1) && ((decide (a6 ≥ 0)) && ((a2 == 0) && a3))) && ((!a9) || (!decide (a8 = a0))))) rfl (fun e7 => ?_) (fun e7 => ?_)
     ·replace H := H.1 e7
      refine xe (qe (bh ?_))
      replace H := H h6 f5
      refine qn ?_
      exact ⟨_, _, _, ⟨H, c7, trivial⟩, (hc rfl (hc rfl (hc rfl (hc rfl (hc rfl (hc rfl (hc rfl (hc rfl hn))))))))⟩
     ·replace H := H.2 e7
      refine xi (qn ?_)
      obtain ⟨e4, f0, e9⟩ := H
      refine xk (fun ρ h' => ∃ c3 : Option Addr, ∃ b1 b2 : Nat, (e4 c3 b1 b2 h' ∧ h'[m]? = some (.cells #[(.int .i64 a1), (.string a7), (.string a0), (.int .i64 a2), (.bool a3), (.int .i64 a5), (.int .i64 a4), (.int .i64 a6)] 40 (0, 0)) ∧ True) ∧ Has ρ [(0, (.slice (some ⟨d2, d1, none⟩) c4 d0)), (3, (ptr m 0)), (5, (.slice c3 b1 b2)), (6, (.bool ((Ml.doesR ⟨a1, a7, a0, a2, a3, a5, a4, a6⟩).1))), (7, (.bool ((Ml.doesR ⟨a1, a7, a0, a2, a3, a5, a4, a6⟩).2.1))), (8, (.bool ((Ml.doesR ⟨a1, a7, a0, a2, a3, a5, a4, a6⟩).2.2))), (9, (.bool ((a1 == 1) && ((decide (a6 ≥ 0)) && ((a2 == 0) && a3))))), (10, (.int .i64 i))]) ?_ ?_
      ·have H := f0; clear f0 e9
       refine xs (xr ?_)
       refine lv rfl rfl (vm rfl) ?_
       refine ln (qn ?_)
       refine xc (b := (Ml.doesR ⟨a1, a7, a0, a2, a3, a5, a4, a6⟩).1) rfl (fun f3 => ?_) (fun f3 => ?_)
       ·replace H := H.1 f3
        refine xr ?_
        refine lv rfl rfl (vm rfl) (lv rfl rfl (vL (vs := [(.bool a9), (.string a8)]) TyShD.agg95 TyShD.sz95 rfl (cc (rc d3 rfl) (cc (rc d3 rfl) cn))) ?_)
        replace H := H h6 f5
        refine lp rfl rfl (sc TyShD.cb106 rfl (HC.mono H ?_))
        rintro _ h8 ⟨i6, r, g2, g1, rfl, H⟩
        replace c7 := Kp.row i6 (by simp) c7
        refine lv rfl rfl (va rfl) ?_
        refine ln (qn ?_)
        exact ⟨_, _, _, ⟨H, c7, trivial⟩, (hc rfl (hc rfl (hc rfl (hc rfl (hc rfl (hc rfl (hc rfl (hc rfl hn))))))))⟩
       ·replace H := H.2 f3
        refine xi ?_
        replace H := H h6 f5
        refine qn ?_
        exact ⟨_, _, _, ⟨H, c7, trivial⟩, (hc rfl (hc rfl (hc rfl (hc rfl (hc rfl (hc rfl (hc rfl (hc rfl hn))))))))⟩
      ·rintro ρ h7 ⟨c3, b1, b2, ⟨j6, d8, -⟩, hH⟩
       have H := e9 c3 b1 b2 h7 j6; clear f0 e9
       refine xh _ hH ?_
       obtain ⟨e2, e8, f7⟩ := H
       refine xk (fun ρ h' => ∃ c2 : Option Addr, ∃ b3 b4 : Nat, (e2 c2 b3 b4 h' ∧ h'[m]? = some (.cells #[(.int .i64 a1), (.string a7), (.string a0), (.int .i64 a2), (.bool a3), (.int .i64 a5), (.int .i64 a4), (.int .i64 a6)] 40 (0, 0)) ∧ True) ∧ Has ρ [(0, (.slice (some ⟨d2, d1, none⟩) c4 d0)), (3, (ptr m 0)), (5, (.slice c2 b3 b4)), (6, (.bool ((Ml.doesR ⟨a1, a7, a0, a2, a3, a5, a4, a6⟩).1))), (7, (.bool ((Ml.doesR ⟨a1, a7, a0, a2, a3, a5, a4, a6⟩).2.1))), (8, (.bool ((Ml.doesR ⟨a1, a7, a0, a2, a3, a5, a4, a6⟩).2.2))), (9, (.bool ((a1 == 1) && ((decide (a6 ≥ 0)) && ((a2 == 0) && a3))))), (10, (.int .i64 i))]) ?_ ?_
       ·have H := e8; clear e8 f7
        refine xs (xr ?_)
        refine lv rfl rfl (vm rfl) ?_
        refine ln (qn ?_)
        refine xc (b := (Ml.doesR ⟨a1, a7, a0, a2, a3, a5, a4, a6⟩).2.1) rfl (fun e5 => ?_) (fun e5 => ?_)
        ·replace H := H.1 e5
         refine xr ?_
         refine lv rfl rfl (vm rfl) (lv rfl rfl (v := (ptr m 2)) (vf TyShD.fld40_2 (b := m) (o := 0) rfl) (lv rfl rfl (vl TyShD.agg9 rfl (rc d8 rfl)) (lv rfl rfl (v := (.agg #[(.bool true), (.string a0)])) (vb (vs := [(0, (.bool true)), (1, (.string a0))]) (cs := #[(.bool true), (.string a0)]) TyShD.z95 TyShD.pl95 rfl (by kernel_rfl)) ?_)))
         refine lp rfl rfl (sc TyShD.cb106 rfl (HC.mono H ?_))
         rintro _ g4 ⟨i1, g0, d4, d5, rfl, H⟩
         replace d8 := Kp.row i1 (by simp) d8
         refine lv rfl rfl (va rfl) ?_
         refine ln (qn ?_)
         exact ⟨_, _, _, ⟨H, d8, trivial⟩, (hc rfl (hc rfl (hc rfl (hc rfl (hc rfl (hc rfl (hc rfl (hc rfl hn))))))))⟩
        ·replace H := H.2 e5
         refine xi (qn ?_)
         exact ⟨_, _, _, ⟨H, d8, trivial⟩, (hc rfl (hc rfl (hc rfl (hc rfl (hc rfl (hc rfl (hc rfl (hc rfl hn))))))))⟩
       ·rintro ρ h9 ⟨c2, b3, b4, ⟨i7, e0, -⟩, hH⟩
        have H := f7 c2 b3 b4 h9 i7; clear e8 f7
        refine xh _ hH ?_
        refine xs (xr ?_)
        refine lv rfl rfl (vm rfl) ?_
        refine ln (qn ?_)
        refine xc (b := (Ml.doesR ⟨a1, a7, a0, a2, a3, a5, a4, a6⟩).2.2) rfl (fun f4 => ?_) (fun f4 => ?_)
        ·replace H := H.1 f4
         refine xr ?_
         refine lv rfl rfl (vm rfl) (lv rfl rfl (v := (.agg #[(.bool false), (.string ByteArray.empty)])) (vb (vs := []) (cs := #[(.bool false), (.string ByteArray.empty)]) TyShD.z95 TyShD.pl95 rfl (by kernel_rfl)) ?_)
         refine lp rfl rfl (sc TyShD.cb106 rfl (HC.mono H ?_))
         rintro _ g6 ⟨i8, f9, d6, d7, rfl, H⟩
         replace e0 := Kp.row i8 (by simp) e0
         refine lv rfl rfl (va rfl) ?_
         refine ln (bn (qn ?_))
         exact ⟨_, _, _, ⟨H, e0, trivial⟩, (hc rfl (hc rfl (hc rfl (hc rfl (hc rfl (hc rfl (hc rfl (hc rfl hn))))))))⟩
        ·replace H := H.2 f4
         refine xi (bn (qn ?_))
         exact ⟨_, _, _, ⟨H, e0, trivial⟩, (hc rfl (hc rfl (hc rfl (hc rfl (hc rfl (hc rfl (hc rfl (hc rfl hn))))))))⟩
   ·rintro ρ h4 ⟨c6, b7, b8, ⟨i2, j4, -⟩, hH⟩
    have H := f2 c6 b7 b8 h4 i2; clear f8 f2
    refine xh _ hH ?_
    refine xr ?_
    refine lv rfl rfl (vm rfl) (lv rfl rfl (vr rfl rfl rfl) (lv rfl rfl (va rfl) ?_))
    refine ln (qn ?_)
    exact ⟨(c6, b7, b8, IntKind.i64.wrap (i + 1)), ⟨⟨H.1, j4, trivial⟩, H.2⟩, (hc rfl (hc rfl (hc rfl (hc rfl (hc rfl (hc rfl (hc rfl (hc rfl hn))))))))⟩
  ·replace H := H.2 e6
   refine xe (qe (qe (bh (qn (xs (xr ?_))))))
   refine lv rfl rfl (vm rfl) (lv rfl rfl (va rfl) ?_)
   refine ln (qn (xt ?_))
   exact endQ_ret _ (res_one Tryz.results87 (rv_tmp rfl)) H
end Go.Proofs.YtfjcciaabkjkgaaGreatDoor
namespace Go.Proofs.YtfjcciaabkjkgaaGreatDoor
open Go Go.Shelf Go.Sort
theorem one_eq : ∀ v : Value, v.oneCell' = oneC v := fun v => by cases v <;> rfl
theorem calls_of {P : Program} {f : FuncId} {args : Array Value} {h : Heap} {R : Value → Heap → Prop} (hc : HC P f args h R) {w : World} (hw : w.heap = h) : Calls P f args w fun e w' => ∃ v, e = .returned v ∧ Sim w w' ∧ R v w'.heap := hc w hw
section
variable {α : Type} [Inhabited α]
theorem holds_of {E : Elt α} {T : TypeId} {N : Nat} {b o c : Nat} {L : List α} {w : World} (s : Sl E w.heap (some ⟨b, o, none⟩) c L) (ow : Own E.k T N w.heap (some ⟨b, o, none⟩) c) : HoldsK E.enc E.k w b o L.toArray := by
  intro j hj
  rw [size_flatK] at hj
  simp only [List.size_toArray] at hj
  have hk : 0 < E.k := by rcases Nat.eq_zero_or_pos E.k with h | h; · rw [h] at hj; omega
                          · exact h
  have hi : j / E.k < L.length := by rw [Nat.div_lt_iff_lt_mul hk]; exact hj
  have hr : j % E.k < E.k := Nat.mod_lt _ hk
  rw [get_flatK _ _ _ _ (by simpa using hj)]
  have hx : L[j / E.k]? = some L[j / E.k] := List.getElem?_eq_getElem hi
  have e1 : L.toArray[j / E.k]! = L[j / E.k] := by simp [hi]
  rw [e1]
  have hlen : j % E.k < (E.enc L[j / E.k]).length := by rw [E.len]; exact hr
  have hv : (E.enc L[j / E.k])[j % E.k]? = some (E.enc L[j / E.k])[j % E.k] := List.getElem?_eq_getElem hlen
  have e2 : (E.enc L[j / E.k])[j % E.k]! = (E.enc L[j / E.k])[j % E.k] := by simp [hlen]
  rw [e2]
  obtain ⟨b', o', e, hc⟩ := s.at hx
  cases e
  have h1 := hc.get hv
  have hd : j / E.k * E.k + j % E.k = j := by rw [Nat.mul_comm]; exact Nat.div_add_mod j E.k
  rw [Nat.add_assoc, hd] at h1
  refine ⟨by rw [cell_hcell]; exact h1, ?_⟩
  rcases ow with ⟨e, _⟩ | ⟨b2, o2, cs, e, _, h2, _⟩
  · cases e
  · cases e
    unfold World.frozen?
    simp only [h2]
    simp
theorem heap_sort {E : Elt α} {T : TypeId} {N : Nat} {b o c : Nat} {L : List α} {w : World} (s : Sl E w.heap (some ⟨b, o, none⟩) c L) (ow : Own E.k T N w.heap (some ⟨b, o, none⟩) c) {d : Array α} (hd : d.size = L.length) (m : Nat) (os : Array Obj) :
    Fr (· = b) w.heap (sortWorldK E.enc E.k w b o m d os).heap ∧ Sl E (sortWorldK E.enc E.k w b o m d os).heap (some ⟨b, o, none⟩) c d.toList ∧ Own E.k T N (sortWorldK E.enc E.k w b o m d os).heap (some ⟨b, o, none⟩) c ∧ Sim w (sortWorldK E.enc E.k w b o m d os) := by
  rcases ow with ⟨e, _⟩ | ⟨b2, o2, cs, e, hlow, h2, h3⟩
  · cases e
  cases e
  have hh : (sortWorldK E.enc E.k w b o m d os).heap = (w.heap.modify b (onCells (putCells id o (flatK E.enc E.k d)))) ++ os := rfl
  have hlt := row_lt h2
  have hrow : (sortWorldK E.enc E.k w b o m d os).heap[b]? = some (.cells (putCells id o (flatK E.enc E.k d) cs) T (0, 0)) := by
    rw [hh, Array.getElem?_append, if_pos (by simpa using hlt), Array.getElem?_modify, if_pos rfl, h2]; rfl
  have hother : ∀ i, i < w.heap.size → i ≠ b → (sortWorldK E.enc E.k w b o m d os).heap[i]? = w.heap[i]? := fun i hi hn => by
    rw [hh, Array.getElem?_append, if_pos (by simpa using hi), Array.getElem?_modify, if_neg (Ne.symm hn)]
  have hle := s.le
  have hfit : L.length * E.k ≤ c * E.k := Nat.mul_le_mul_right _ hle
  refine ⟨⟨by rw [hh]; simp, fun i hi hn => hother i hi hn⟩, Sl.of_row hrow (by simpa [hd] using hle) fun j v hv => ?_, .inr ⟨b, o, _, rfl, hlow, hrow, by simpa [putCells] using h3⟩, ⟨rfl, rfl, rfl, by rw [hh]; simp, fun i hi => ?_⟩⟩
  · have hj := (List.getElem?_eq_some_iff.1 hv).1
    rw [flat_len, Array.length_toList, hd] at hj
    have hk : 0 < E.k := by rcases Nat.eq_zero_or_pos E.k with h | h; · rw [h] at hj; omega
                            · exact h
    have hjc : o + j < cs.size := by omega
    unfold putCells
    rw [Array.getElem?_mapIdx, Array.getElem?_eq_getElem hjc, Option.map_some, if_pos ⟨by omega, by rw [size_flatK, hd]; omega⟩, show o + j - o = j by omega, get_flatK _ _ _ _ (by rw [hd]; exact hj)]
    obtain ⟨i, x, r, h4, h5, rfl⟩ := flat_inv E d.toList j v hv
    have hr := (List.getElem?_eq_some_iff.1 h5).1
    rw [E.len] at hr
    have e1 : (i * E.k + r) / E.k = i := by rw [Nat.mul_comm, Nat.mul_add_div hk, Nat.div_eq_of_lt hr]; rfl
    have e2 : (i * E.k + r) % E.k = r := by rw [Nat.mul_comm, Nat.mul_add_mod, Nat.mod_eq_of_lt hr]
    rw [e1, e2]
    have h6 : d[i]? = some x := by simpa using h4
    have e3 : d[i]! = x := by
      obtain ⟨h7, h8⟩ := Array.getElem?_eq_some_iff.1 h6
      rw [getElem!_pos d i h7, h8]
    rw [e3]
    simp [h5]
  · by_cases hib : i = b
    · subst hib; rw [h2] at hi; cases hi
    · rw [hother i (row_lt hi) hib]; exact hi
theorem perm_of {d d' : Array α} (hp : PermIn 0 d.size d d') : d'.size = d.size ∧ d'.toList.Perm d.toList := by
  obtain ⟨h1, _, h3⟩ := hp
  refine ⟨h1, ?_⟩
  have e : ∀ x : Array α, (x.extract 0 x.size).toList = x.toList := fun x => by rw [Array.extract_size]
  have h4 : (d'.extract 0 d.size).toList = d'.toList := by rw [← h1]; exact e d'
  rw [h4, e d] at h3; exact h3
theorem sorted_of {lt : α → α → Bool} {d : Array α} {n : Nat} (hn : d.size = n) (hs : SortedIn lt 0 n d) : d.toList.Pairwise (fun x y => lt y x = false) := by
  rw [List.pairwise_iff_getElem]
  intro i j hi hj hij
  have hi' : i < d.size := by simpa using hi
  have hj' : j < d.size := by simpa using hj
  have := hs i j (Nat.zero_le _) hij (by omega)
  simpa [hi', hj'] using this
theorem hc_sort {P : Program} {ρ : Ren} (L0 : SlLaysF0.n6 P ρ) (E : Elt α) (aE : ∀ w, (isAgg (ρ.t 24)).run P w = .ok true w) (zE : ∀ w, (Go.sizeOf (ρ.t 24)).run P w = .ok E.k w) (cf : α → α → Int) (hO : SWO (ltOf cf)) (g : Nat) (cb : Array Value)
    (eg : ∀ args w, (callFunc g args).run P w = .ok (.enter g args) w) {h : Heap} {a : Option Addr} {c N : Nat} {T : TypeId} {L : List α} (s : Sl E h a c L) (ow : Own E.k T N h a c)
    (hcmp : ∀ w, Fr (blkA a) h w.heap → ∀ x y, Calls P g (#[.agg (E.enc x).toArray, .agg (E.enc y).toArray] ++ cb) w fun e w' => e = .returned (.int .i64 (cf x y)) ∧ ∃ q os', w' = grow (w.drewN q) os') (hsz : L.length < 4611686018427387904) :
    HC P (ρ.f 6) #[.slice a L.length c, .func (.func g) #[] cb] h fun v h' => v = .tuple #[] ∧ Fr (blkA a) h h' ∧ ∃ L', L'.Perm L ∧ L'.Pairwise (fun x y => ltOf cf y x = false) ∧ Sl E h' a c L' ∧ Own E.k T N h' a c := by
  by_cases hl : L = []
  · subst hl
    intro w hw
    refine (AnyF.slices_SortFunc_none L0 a c (.func (.func g) #[] cb) w).mono ?_
    rintro e w' ⟨rfl, rfl⟩
    exact ⟨_, rfl, Sim.refl _, rfl, by rw [hw]; exact Fr.refl _ _, [], List.Perm.refl _, List.Pairwise.nil, by rw [hw]; exact s, by rw [hw]; exact ow⟩
  · obtain ⟨b, o, rfl, _⟩ := s.addr (List.length_pos_iff.2 hl)
    intro w hw
    subst hw
    have hb : b < w.heap.size := (ow.low (blkA_of rfl)).2
    have hsz' : L.toArray.size = L.length := by simp
    have hcl : CmpLays P g cb E.enc E.k cf b o L.toArray.size w := by
      intro m os dk hdk x y
      obtain ⟨f1, _, _, s1⟩ := heap_sort s ow (d := dk) (by simpa using hdk) m os
      exact hcmp _ (f1.mono fun i _ e => blkA_some.2 e) x y
    have hcon := AnyQ.slices_SortFunc L0 E.k aE zE E.enc E.len (fun x v hv => by rw [one_eq]; exact E.one x v hv) cf hO g cb b o c L.toArray w eg hcl (holds_of s ow) hb (by simpa using hsz)
    rw [hsz'] at hcon
    refine hcon.mono ?_
    rintro e w' ⟨rfl, d', n, os, hp, hs, rfl⟩
    obtain ⟨q1, q2⟩ := perm_of (d := L.toArray) (d' := d') (by rw [hsz']; exact hp)
    obtain ⟨f1, s1, o1, m1⟩ := heap_sort s ow (d := d') (by simpa using q1) n os
    exact ⟨_, rfl, m1, rfl, f1.mono fun i _ e => blkA_some.2 e, d'.toList, by simpa using q2, sorted_of (by simpa using q1) hs, s1, o1⟩
end
end Go.Proofs.YtfjcciaabkjkgaaGreatDoor
namespace Go.Proofs.YtfjcciaabkjkgaaGreatDoor
open Go Go.Shelf Go.Proofs
def Lay.sortMt_ren : Go.Shelf.Ren := ⟨fun | 6 => 68 | 15 => 57 | 14 => 91 | 28 => 82 | 29 => 83 | 20 => 108 | 21 => 109 | 22 => 110 | 23 => 111 | 24 => 112 | 25 => 113 | 26 => 114 | 27 => 115 | 46 => 124 | 47 => 97 | 48 => 98 | 49 => 125 | 50 => 126 | 57 => 141 | n => n, fun | 22 => 69 | 24 => 95 | 25 => 108 | 3 => 3 | 39 => 88 | 0 => 0 | 53 => 67 | 55 => 125 | 4 => 4 | 46 => 116 | 45 => 115 | 50 => 121 | 5 => 5 | 9 => 9 | 66 => 132 | 70 => 136 | 76 => 153 | 77 => 154 | n => n, fun | n => n⟩
theorem Lay.sortMt : Go.Proofs.SlLaysF0.n6 Tryz.prog Lay.sortMt_ren := {
  mixed := by kernel_rfl,
  f6 := ⟨Tryz.f68.name, by decide, Tryz.func68.trans (congrArg some (by kernel_rfl))⟩,
  f14 := ⟨Tryz.f91.name, by decide, Tryz.func91.trans (congrArg some (by kernel_rfl))⟩,
  f15 := Tryz.func57.trans (congrArg some (by kernel_rfl)),
  f20 := ⟨Tryz.f108.name, by decide, Tryz.func108.trans (congrArg some (by kernel_rfl))⟩,
  f21 := ⟨Tryz.f109.name, by decide, Tryz.func109.trans (congrArg some (by kernel_rfl))⟩,
  f22 := ⟨Tryz.f110.name, by decide, Tryz.func110.trans (congrArg some (by kernel_rfl))⟩,
  f23 := ⟨Tryz.f111.name, by decide, Tryz.func111.trans (congrArg some (by kernel_rfl))⟩,
  f24 := ⟨Tryz.f112.name, by decide, Tryz.func112.trans (congrArg some (by kernel_rfl))⟩,
  f25 := ⟨Tryz.f113.name, by decide, Tryz.func113.trans (congrArg some (by kernel_rfl))⟩,
  f26 := ⟨Tryz.f114.name, by decide, Tryz.func114.trans (congrArg some (by kernel_rfl))⟩,
  f27 := ⟨Tryz.f115.name, by decide, Tryz.func115.trans (congrArg some (by kernel_rfl))⟩,
  f28 := Tryz.func82.trans (congrArg some (by kernel_rfl)),
  f29 := Tryz.func83.trans (congrArg some (by kernel_rfl)),
  f46 := ⟨Tryz.f124.name, by decide, Tryz.func124.trans (congrArg some (by kernel_rfl))⟩,
  f47 := Tryz.func97.trans (congrArg some (by kernel_rfl)),
  f48 := Tryz.func98.trans (congrArg some (by kernel_rfl)),
  f49 := ⟨Tryz.f125.name, by decide, Tryz.func125.trans (congrArg some (by kernel_rfl))⟩,
  f50 := ⟨Tryz.f126.name, by decide, Tryz.func126.trans (congrArg some (by kernel_rfl))⟩,
  f57 := ⟨Tryz.f141.name, by decide, Tryz.func141.trans (congrArg some (by kernel_rfl))⟩,
  t0 := Tryz.underlying0,
  a0 := Tryz.isAgg0,
  z0 := Tryz.sizeOf0,
  v0 := Tryz.zeroValue0,
  t3 := Tryz.underlying3,
  a3 := Tryz.isAgg3,
  z3 := Tryz.sizeOf3,
  v3 := Tryz.zeroValue3,
  t4 := Tryz.underlying4,
  a4 := Tryz.isAgg4,
  z4 := Tryz.sizeOf4,
  v4 := Tryz.zeroValue4,
  t5 := Tryz.underlying5,
  a5 := Tryz.isAgg5,
  z5 := Tryz.sizeOf5,
  v5 := Tryz.zeroValue5,
  t9 := Tryz.underlying9,
  a9 := Tryz.isAgg9,
  z9 := Tryz.sizeOf9,
  v9 := Tryz.zeroValue9,
  t22 := Tryz.underlying69,
  a22 := Tryz.isAgg69,
  z22 := Tryz.sizeOf69,
  v22 := Tryz.zeroValue69,
  t25 := Tryz.underlying108,
  a25 := Tryz.isAgg108,
  z25 := Tryz.sizeOf108,
  v25 := Tryz.zeroValue108,
  t39 := Tryz.underlying88,
  a39 := Tryz.isAgg88,
  z39 := Tryz.sizeOf88,
  v39 := Tryz.zeroValue88,
  t45 := Tryz.underlying115,
  a45 := Tryz.isAgg115,
  z45 := Tryz.sizeOf115,
  v45 := Tryz.zeroValue115,
  t46 := Tryz.underlying116,
  a46 := Tryz.isAgg116,
  z46 := Tryz.sizeOf116,
  v46 := Tryz.zeroValue116,
  t50 := Tryz.underlying121,
  a50 := Tryz.isAgg121,
  z50 := Tryz.sizeOf121,
  v50 := Tryz.zeroValue121,
  t53 := Tryz.underlying67,
  a53 := Tryz.isAgg67,
  z53 := Tryz.sizeOf67,
  v53 := Tryz.zeroValue67,
  t55 := Tryz.underlying125,
  a55 := Tryz.isAgg125,
  z55 := Tryz.sizeOf125,
  v55 := Tryz.zeroValue125,
  t66 := Tryz.underlying132,
  a66 := Tryz.isAgg132,
  z66 := Tryz.sizeOf132,
  v66 := Tryz.zeroValue132,
  t70 := Tryz.underlying136,
  a70 := Tryz.isAgg136,
  z70 := Tryz.sizeOf136,
  v70 := Tryz.zeroValue136,
  t76 := Tryz.underlying153,
  a76 := Tryz.isAgg153,
  z76 := Tryz.sizeOf153,
  v76 := Tryz.zeroValue153,
  t77 := Tryz.underlying154,
  a77 := Tryz.isAgg154,
  z77 := Tryz.sizeOf154,
  v77 := Tryz.zeroValue154 }
end Go.Proofs.YtfjcciaabkjkgaaGreatDoor
namespace Go.Proofs.YtfjcciaabkjkgaaGreatDoor
open Go Ml Go.Shelf Go.RowKit Go.Lib Go.Sort
set_option maxHeartbeats 1000000 in
theorem isNaN_w (x : Str) (w : World) : Calls Tryz.prog 116 #[.string x] w fun e w' => e = .returned (.bool false) ∧ w' = w := by
  go_enter Tryz.func116, Tryz.ntmps116
  go_wp2
  go_ret
  exact ⟨by simp, rfl⟩
set_option maxHeartbeats 1000000 in
theorem gtr_w (x y : Str) (w : World) : (binOp BinOp.gtr 9 (Value.string x) (Value.string y)).run Tryz.prog w = .ok (.bool (slt y x)) w := by
  have : binOp BinOp.gtr 9 (Value.string x) (Value.string y) = pure (.bool (slt y x)) := by simp only [binOp, Op.stringOp, str_lss, str_eql, str_leq, Bool.not_not]
  rw [this]; rfl
set_option maxHeartbeats 1000000 in
theorem cmp_w (x y : Str) (w : World) : Calls Tryz.prog 92 #[.string x, .string y] w fun e w' => e = .returned (.int .i64 (scmp x y)) ∧ w' = w := by
  go_enter Tryz.func92, Tryz.ntmps92
  go_wp2_with (go_at_call 116; refine (isNaN_w _ _).mono ?_; rintro e w' ⟨rfl, rfl⟩)
  · rename_i e1
    rw [str_lss] at e1
    go_ret
    exact ⟨by simp [scmp, e1], rfl⟩
  · rename_i e1 _ _ _ _ _ _
    rw [str_lss] at e1
    rw [gtr_w]
    generalize e2 : slt y x = b
    go_wp2
    all_goals go_ret
    all_goals exact ⟨by simp_all [scmp], rfl⟩
set_option maxHeartbeats 1000000 in
theorem compare_w (a b : Mt) (w : World) : Calls Tryz.prog 69 #[mtV a, mtV b] w fun e w' => e = .returned (.int .i64 (mcmp a b)) ∧ ∃ q os', w' = grow (w.drewN q) os' := by
  obtain ⟨a1, a2⟩ := a
  obtain ⟨b1, b2⟩ := b
  unfold mtV
  have hcon := fun W' => cmp_w a2 b2 W'
  generalize hr : scmp a2 b2 = r at hcon
  have key : mcmp ⟨a1, a2⟩ ⟨b1, b2⟩ = if a1 = b1 then r else if b1 then -1 else 1 := by
    rw [← hr]
    by_cases e : a1 = b1
    · rw [if_pos e]
      subst e
      unfold mcmp scmp mlt
      simp only [Mt.mk.injEq, true_and, if_true]
      cases e1 : slt a2 b2 with
      | true =>
        have : a2 ≠ b2 := fun e => by rw [e, slt_irrefl] at e1; cases e1
        simp [this]
      | false =>
        rcases slt_or e1 with e2 | e2
        · subst e2; simp [slt_irrefl]
        · have : a2 ≠ b2 := fun e => by rw [e, slt_irrefl] at e2; cases e2
          simp [this, e2]
    · rw [if_neg e]
      unfold mcmp mlt
      simp [e]
  have k1 : (a1 == b1) = true → mcmp ⟨a1, a2⟩ ⟨b1, b2⟩ = r := fun e => by rw [key, if_pos (by simpa using e)]
  have k2 : (a1 == b1) = false → b1 = true → mcmp ⟨a1, a2⟩ ⟨b1, b2⟩ = -1 := fun e e2 => by rw [key, if_neg (by simpa using e), if_pos e2]
  have k3 : (a1 == b1) = false → b1 = false → mcmp ⟨a1, a2⟩ ⟨b1, b2⟩ = 1 := fun e e2 => by rw [key, if_neg (by simpa using e), if_neg (by simp [e2])]
  clear key hr
  generalize mcmp ⟨a1, a2⟩ ⟨b1, b2⟩ = m at k1 k2 k3
  go_enter Tryz.func69, Tryz.ntmps69
  go_wp2_with (go_at_call 92; refine (hcon _).mono ?_; rintro e w' ⟨rfl, rfl⟩)
  all_goals go_ret
  all_goals refine ⟨?_, 0, _, by rw [alloc_eq_grow, alloc_eq_grow, grow_grow]; rfl⟩
  · rename_i e; rw [k1 e]; rfl
  · rename_i e1 e2; rw [k2 e1 e2]; rfl
  · rename_i e1 e2; rw [k3 e1 e2]; rfl
end Go.Proofs.YtfjcciaabkjkgaaGreatDoor
namespace Go.Proofs.YtfjcciaabkjkgaaGreatDoor
open Go Ml
instance : Inhabited Mt := ⟨nil⟩
theorem lt_mcmp (x y : Mt) : ltOf mcmp x y = mlt x y := by
  unfold ltOf mcmp
  by_cases e : x = y
  · subst e; simp [mlt_irrefl]
  · rw [if_neg e]; cases h : mlt x y <;> simp
theorem swo_mcmp : Go.Sort.SWO (ltOf mcmp) where
  irrefl x := by rw [lt_mcmp]; exact mlt_irrefl x
  trans x y z h1 h2 := by rw [lt_mcmp] at *; exact mlt_trans h1 h2
  ntrans x y z h1 h2 := by
    rw [lt_mcmp] at *
    cases h : mlt x z with
    | false => rfl
    | true =>
      exfalso
      by_cases e : mlt y x = true
      · have := mlt_trans e h; rw [this] at h2; cases h2
      · have e1 : mlt y x = false := by simpa using e
        have := mlt_total h1 e1
        subst this; rw [h] at h2; cases h2
theorem sort_c {h : Heap} {a : Option Addr} {c N : Nat} {L : List Mt} (s : Sl eMt h a c L) (w : Own eMt.k tMt N h a c) (hl : L.length ≤ 1099511627776) :
    HC Tryz.prog 68 #[.slice a L.length c, .func (.func 69) #[] #[]] h fun v h' => v = .tuple #[] ∧ Fr (blkA a) h h' ∧ ∃ L', L'.Perm L ∧ L'.Pairwise (fun x y => mlt y x = false) ∧ Sl eMt h' a c L' ∧ Own eMt.k tMt N h' a c := by
  refine (hc_sort Lay.sortMt eMt Tryz.isAgg95 Tryz.sizeOf95 mcmp swo_mcmp 69 #[] (fun args w => Tryz.call69 args w) s w (fun w' _ x y => ?_) (by omega)).mono ?_
  · exact compare_w x y w'
  · rintro v h' ⟨rfl, f, L', hp, hs, s', w'⟩
    exact ⟨rfl, f, L', hp, hs.imp fun h => by rw [lt_mcmp] at h; exact h, s', w'⟩
def kindsL : List (Int × Value) := kput (kput (kput [] 1 (.func (.func 88) #[] #[])) 2 (.func (.func 89) #[] #[])) 3 (.func (.func 90) #[] #[])
theorem kinds_c (h : Heap) : HC Tryz.prog 66 #[] h fun v h' => Ext h h' ∧ ∃ mb, v = .map (some mb) ∧ MapL h' mb (Value.int .i64) kindsL :=
  f66_sh _ _ fun mb h1 eb x1 _ m1 => ⟨[], m1, fun h2 o2 m2 => ⟨_, m2, fun h3 o3 m3 => ⟨_, m3, fun h4 o4 m4 =>
    ⟨ext_only (ext_only (ext_only x1 o2 (by omega)) o3 (by omega)) o4 (by omega), mb, rfl, m4⟩⟩⟩⟩
theorem cb1 : CallB Tryz.prog 88 := fun _ _ => Tryz.call88 _ _
theorem cb2 : CallB Tryz.prog 89 := fun _ _ => Tryz.call89 _ _
theorem cb3 : CallB Tryz.prog 90 := fun _ _ => Tryz.call90 _ _
theorem cb4 : CallB Tryz.prog 67 := fun _ _ => Tryz.call67 _ _
theorem does_cv (m : Mv) (w : Mt) (h : Heap) : HCV Tryz.prog (bif !((lk kindsL m.kind).isSome) then (.func (.func 67) #[] #[]) else (lk kindsL m.kind).getD .nilFunc) [mtV w, mvV m] h fun v h' => New eMt tMt h h' v (outs m w) := by
  have e : lk kindsL m.kind = if m.kind = 3 then some (.func (.func 90) #[] #[]) else if m.kind = 2 then some (.func (.func 89) #[] #[]) else if m.kind = 1 then some (.func (.func 88) #[] #[]) else none := by
    unfold kindsL; rw [lk_kput, lk_kput, lk_kput]; rfl
  rw [e]
  by_cases h3 : m.kind = 3
  · rw [if_pos h3]; exact hcv_func cb3 (deletes_c w m h3 h)
  · rw [if_neg h3]
    by_cases h2 : m.kind = 2
    · rw [if_pos h2]; exact hcv_func cb2 (puts_c w m h2 h)
    · rw [if_neg h2]
      by_cases h1 : m.kind = 1
      · rw [if_pos h1]; exact hcv_func cb1 (gets_c w m h1 h)
      · rw [if_neg h1]; exact hcv_func cb4 (other_c w m ⟨h1, h2, h3⟩ h)
theorem next_c {h : Heap} {a : Option Addr} {c : Nat} {L : List Mt} (s : Sl eMt h a c L) (hl : L.length ≤ 68719476736) (m : Mv) :
    HC Tryz.prog 54 #[.slice a L.length c, mvV m] h fun v h' => New eMt tMt h h' v (next L m) := by
  refine f54_sh _ _ _ _ _ _ _ _ _ _ _ _ _ fun mb h1 lo lt x1 => (kinds_c h1).mono ?_
  rintro _ h2 ⟨x2, rm, rfl, ml⟩
  refine ⟨x2, some rm, rfl, rm, rfl, kindsL, ml, _, rfl, fun b6 hb6 => ?_⟩
  subst hb6
  refine ⟨fun a' n' c' v h3 => ∃ j : Nat, v = j ∧ j ≤ L.length ∧ n' = ((L.take j).flatMap (outs m)).length ∧ Ext h1 h3 ∧ Sl eMt h3 a' c' ((L.take j).flatMap (outs m)) ∧ Own eMt.k tMt h1.size h3 a' c',
    fun _ _ _ v _ => L.length - v.toNat, ⟨0, rfl, Nat.zero_le _, rfl, x2, Sl.nil _ _, Own.nil _ _ _ _⟩, ?_⟩
  rintro out _ c' _ h3 ⟨j, rfl, hj, rfl, x3, s3, w3⟩
  have b3 := flat_outs_len m (L.take j)
  have bt : (L.take j).length ≤ L.length := by simp; omega
  refine ⟨fun hlt => ?_, fun hge => ?_⟩
  · have hjl := lt_of_dec hlt
    obtain ⟨b, o, e0, hc⟩ := (s.ext (x1.trans x3)).at (List.getElem?_eq_getElem hjl)
    refine ⟨b, o, e0, by omega, by omega, L[j].has, L[j].val, hc.1, hc.2.1, fun h5 x5 => (does_cv m L[j] h5).mono ?_⟩
    rintro v h6 ⟨a6, c6, rfl, x6, s6, w6⟩
    have bo := outs_len m L[j]
    have x36 := x3.trans (x5.trans x6)
    refine ⟨x6.kp _, a6, _, c6, rfl, app_own aMt x36 (s3.ext (x5.trans x6)) (w3.ext (x5.trans x6)) rfl s6 rfl (by omega) ?_⟩
    intro a7 c7 h7 x7 f7 s7 w7 _
    refine ⟨f7.kp fun b hb => ?_, a7, _, c7, rfl, ?_⟩
    · simp at hb; subst hb
      intro hb; have := (w3.low hb).1; omega
    · rw [wadd j (by omega), ← List.length_append, ← flat_take L (outs m) j hjl] at *
      exact ⟨⟨j + 1, rfl, hjl, rfl, x7, s7, w7⟩, by simp only [Int.toNat_natCast]; omega⟩
  · have hjl : j = L.length := by have := ge_of_dec hge; omega
    subst hjl
    rw [List.take_length] at *
    refine (sort_c s3 w3 (by omega)).mono ?_
    rintro _ h8 ⟨rfl, f8, L', hp, hs, s8, w8⟩
    refine ⟨rfl, ?_⟩
    rw [← hp.length_eq]
    have x8 := w3.grown x3 f8
    refine (compact_c s8 w8 (by rw [hp.length_eq]; omega)).mono ?_
    rintro v h9 ⟨f9, a9, c9, rfl, s9, w9, bl⟩
    rw [next_of_sort hp hs] at *
    exact ⟨a9, _, c9, rfl, a9, c9, rfl, x1.trans (w8.grown x8 f9), s9, w9.down x1.size⟩
end Go.Proofs.YtfjcciaabkjkgaaGreatDoor
namespace Go.Proofs.YtfjcciaabkjkgaaGreatDoor
namespace Ml
def stepK (key : Str) (s : List Mt) (m : Mv) : List Mt := if keyed m = true ∧ m.key = key then next s m else s
def run (key : Str) (s : List Mt) (l : List Mv) : List Mt := l.foldl (stepK key) s
def Sub (s t : List Mt) : Prop := ∀ x ∈ s, x ∈ t
theorem next_sub {s t : List Mt} (h : Sub s t) (m : Mv) : Sub (next s m) (next t m) := fun x hx => by
  rw [next_mem] at *; obtain ⟨w, hw, hx⟩ := hx; exact ⟨w, h w hw, hx⟩
theorem Sub.ne {s t : List Mt} (h : Sub s t) (hs : s ≠ []) : t ≠ [] := fun e => by
  cases s with
  | nil => exact hs rfl
  | cons x l => have := h x (by simp); rw [e] at this; cases this
end Ml
end Go.Proofs.YtfjcciaabkjkgaaGreatDoor
namespace Go.Proofs.YtfjcciaabkjkgaaGreatDoor
namespace Ml
instance : Inhabited Mv := ⟨⟨0, ByteArray.empty, ByteArray.empty, 0, false, 0, 0, 0⟩⟩
def ah (a b : Mv) : Prop := a.life < b.life ∨ (a.life = b.life ∧ 0 ≤ a.to ∧ a.to < b.fr)
instance (a b : Mv) : Decidable (ah a b) := by unfold ah; infer_instance
def okT (a : Mv) : Prop := 0 ≤ a.to → a.fr ≤ a.to
theorem ah_irr {a : Mv} (h : okT a) : ¬ ah a a := by
  rintro (g | ⟨_, g1, g2⟩)
  · omega
  · have := h g1; omega
def mv (l : List Mv) (i : Nat) : Mv := l.getD i default
theorem mv_at {l : List Mv} {i : Nat} (h : i < l.length) : mv l i = l[i] := by unfold mv; rw [List.getD_eq_getElem?_getD, List.getElem?_eq_getElem h]; rfl
abbrev Fam := Str → List Mt
def upd (st : Fam) (m : Mv) : Fam := fun k => stepK k (st k) m
def Lv (st : Fam) (m : Mv) : Prop := keyed m = true → next (st m.key) m ≠ []
def del (R : Nat → Prop) (i : Nat) : Nat → Prop := fun j => R j ∧ j ≠ i
def mini (l : List Mv) (R : Nat → Prop) (i : Nat) : Prop := R i ∧ ∀ j, R j → ¬ ah (mv l j) (mv l i)
inductive Cmp (l : List Mv) : (Nat → Prop) → Fam → Prop
  | done {R : Nat → Prop} {st : Fam} (h : ∀ i, ¬ R i) : Cmp l R st
  | step {R : Nat → Prop} {st : Fam} (i : Nat) (h : mini l R i) (g : Lv st (mv l i)) (k : Cmp l (del R i) (upd st (mv l i))) : Cmp l R st
def ofK (l : List Mv) (R : Nat → Prop) (k : Str) : Nat → Prop := fun i => R i ∧ keyed (mv l i) = true ∧ (mv l i).key = k
section
variable {l : List Mv} {R : Nat → Prop} {st : Fam}
theorem upd_other {m : Mv} {k : Str} (h : ¬ (keyed m = true ∧ m.key = k)) : upd st m k = st k := by unfold upd stepK; rw [if_neg h]
theorem upd_own {m : Mv} (h : keyed m = true) : upd st m m.key = next (st m.key) m := by unfold upd stepK; rw [if_pos ⟨h, rfl⟩]
theorem Cmp.congr {R : Nat → Prop} {st : Fam} (c : Cmp l R st) : ∀ {st' : Fam}, (∀ i, R i → keyed (mv l i) = true → st' (mv l i).key = st (mv l i).key) → Cmp l R st' := by
  induction c with
  | done h => exact fun _ => .done h
  | @step R st i h g k ih =>
    intro st' e
    refine .step i h (fun q => ?_) (ih fun j hj kj => ?_)
    · rw [e i h.1 q]; exact g q
    · unfold upd
      rw [e j hj.1 kj]
theorem ofK_del_in {i : Nat} {k : Str} : ofK l (del R i) k = del (ofK l R k) i := by
  funext j; unfold ofK del; apply propext
  constructor
  · rintro ⟨⟨a, b⟩, c⟩; exact ⟨⟨a, c⟩, b⟩
  · rintro ⟨⟨a, c⟩, b⟩; exact ⟨⟨a, b⟩, c⟩
theorem ofK_del_out {i : Nat} {k : Str} (h : ¬ (keyed (mv l i) = true ∧ (mv l i).key = k)) : ofK l (del R i) k = ofK l R k := by
  funext j; unfold ofK del; apply propext
  constructor
  · rintro ⟨⟨a, _⟩, c⟩; exact ⟨a, c⟩
  · rintro ⟨a, c⟩; exact ⟨⟨a, fun e => h (by rw [← e]; exact c)⟩, c⟩
theorem Cmp.ofK {R : Nat → Prop} {st : Fam} (c : Cmp l R st) (k : Str) : Cmp l (Ml.ofK l R k) st := by
  induction c with
  | done h => exact .done fun i q => h i q.1
  | @step R st i h g _ ih =>
    by_cases hk : keyed (mv l i) = true ∧ (mv l i).key = k
    · rw [ofK_del_in] at ih
      exact .step i ⟨⟨h.1, hk⟩, fun j q => h.2 j q.1⟩ g ih
    · rw [ofK_del_out hk] at ih
      exact ih.congr fun j hj kj => by rw [hj.2.2, upd_other hk]
def Fst (l : List Mv) (R : Nat → Prop) (st : Fam) (c : Nat) : Prop :=
  R c ∧ (keyed (mv l c) = true → mini l (Ml.ofK l R (mv l c).key) c ∧ Lv st (mv l c) ∧ Cmp l (del (Ml.ofK l R (mv l c).key) c) (upd st (mv l c)))
def erl (a b : Mv) : Prop := a.life < b.life ∨ (a.life = b.life ∧ a.fr ≤ b.fr)
theorem exists_erl : ∀ (L : List Nat) (P : Nat → Prop), (∃ i ∈ L, P i) → ∃ c ∈ L, P c ∧ ∀ d ∈ L, P d → erl (mv l c) (mv l d)
  | [], _, ⟨_, h, _⟩ => by cases h
  | x :: L, P, _ => by
    by_cases hL : ∃ i ∈ L, P i
    · obtain ⟨c, hc, pc, mc⟩ := exists_erl L P hL
      by_cases hx : P x ∧ ¬ erl (mv l c) (mv l x)
      · refine ⟨x, by simp, hx.1, fun d hd pd => ?_⟩
        rcases List.mem_cons.1 hd with rfl | hd
        · exact .inr ⟨rfl, Int.le_refl _⟩
        · have := mc d hd pd
          have h2 := hx.2
          unfold erl at *
          omega
      · refine ⟨c, by simp [hc], pc, fun d hd pd => ?_⟩
        rcases List.mem_cons.1 hd with rfl | hd
        · exact Classical.byContradiction fun q => hx ⟨pd, q⟩
        · exact mc d hd pd
    · obtain ⟨i, hi, pi⟩ := ‹∃ i ∈ x :: L, P i›
      rcases List.mem_cons.1 hi with rfl | hi
      · refine ⟨i, by simp, pi, fun d hd pd => ?_⟩
        rcases List.mem_cons.1 hd with rfl | hd
        · exact .inr ⟨rfl, Int.le_refl _⟩
        · exact absurd ⟨d, hd, pd⟩ hL
      · exact absurd ⟨i, hi, pi⟩ hL
theorem some_next {L : List Nat} (hR : ∀ i, R i ↔ i ∈ L) (ht : ∀ i, R i → okT (mv l i)) (hk : ∀ k, Cmp l (ofK l R k) st) (hne : ∃ i, R i) : ∃ c, mini l R c ∧ Fst l R st c := by
  have cand : ∀ i, R i → ∃ c, Fst l R st c ∧ (c = i ∨ (keyed (mv l c) = true ∧ keyed (mv l i) = true ∧ (mv l c).key = (mv l i).key)) := by
    intro i hi
    by_cases q : keyed (mv l i) = true
    · cases hk (mv l i).key with
      | done h => exact absurd ⟨hi, q, rfl⟩ (h i)
      | step c h g k => exact ⟨c, ⟨h.1.1, fun _ => by rw [h.1.2.2]; exact ⟨h, g, k⟩⟩, .inr ⟨h.1.2.1, q, h.1.2.2⟩⟩
    · exact ⟨i, ⟨hi, fun g => absurd g q⟩, .inl rfl⟩
  obtain ⟨i, hi⟩ := hne
  obtain ⟨c0, f0, _⟩ := cand i hi
  obtain ⟨c, hc, fc, mc⟩ := exists_erl (l := l) L (Fst l R st) ⟨c0, (hR _).1 f0.1, f0⟩
  refine ⟨c, ⟨fc.1, fun j hj a => ?_⟩, fc⟩
  obtain ⟨d, fd, e⟩ := cand j hj
  have hcd := mc d ((hR _).1 fd.1) fd
  have ad : ah (mv l j) (mv l d) := by unfold ah erl at *; omega
  rcases e with rfl | ⟨q1, q2, q3⟩
  · exact ah_irr (ht _ hj) ad
  · exact (fd.2 q1).1.2 j ⟨hj, q2, q3.symm⟩ ad
theorem ofK_step {c : Nat} (hk : ∀ k, Cmp l (ofK l R k) st) (f : Fst l R st c) (k : Str) : Cmp l (ofK l (del R c) k) (upd st (mv l c)) := by
  by_cases q : keyed (mv l c) = true ∧ (mv l c).key = k
  · obtain ⟨_, _, g⟩ := f.2 q.1
    rw [q.2] at g
    rw [ofK_del_in]; exact g
  · rw [ofK_del_out q]
    exact (hk k).congr fun j hj kj => by rw [hj.2.2, upd_other q]
theorem cmp_of_keys : ∀ (n : Nat) {L : List Nat} {R : Nat → Prop} {st : Fam}, L.Nodup → L.length = n → (∀ i, R i ↔ i ∈ L) → (∀ i, R i → okT (mv l i)) → (∀ k, Cmp l (ofK l R k) st) → Cmp l R st
  | 0, L, R, st, _, hn, hR, _, _ => .done fun i q => by
    rw [List.eq_nil_of_length_eq_zero hn] at hR; cases (hR i).1 q
  | n + 1, L, R, st, hd, hn, hR, ht, hk => by
    obtain ⟨i, hi⟩ : ∃ i, R i := by
      cases L with
      | nil => cases hn
      | cons x L => exact ⟨x, (hR x).2 (by simp)⟩
    obtain ⟨c, hm, f⟩ := some_next hR ht hk ⟨i, hi⟩
    refine .step c hm (fun q => (f.2 q).2.1 q) (cmp_of_keys n (L := L.erase c) (hd.erase c) ?_ (fun j => ?_) (fun j q => ht j q.1) (ofK_step hk f))
    · rw [List.length_erase_of_mem ((hR c).1 hm.1)]; omega
    · rw [hd.mem_erase_iff]
      unfold del
      rw [hR j]
      exact And.comm
def Ok (l : List Mv) (R : Nat → Prop) (st : Fam) (i : Nat) : Prop := mini l R i ∧ Lv st (mv l i) ∧ Cmp l (del R i) (upd st (mv l i))
theorem ok_iff {L : List Nat} (hd : L.Nodup) (hR : ∀ i, R i ↔ i ∈ L) (ht : ∀ i, R i → okT (mv l i)) (hk : ∀ k, Cmp l (ofK l R k) st) {i : Nat} (hm : mini l R i) :
    Ok l R st i ↔ (keyed (mv l i) = true → Lv st (mv l i) ∧ Cmp l (del (ofK l R (mv l i).key) i) (upd st (mv l i))) := by
  constructor
  · rintro ⟨_, g, c⟩ q
    have := c.ofK (mv l i).key
    rw [ofK_del_in] at this
    exact ⟨g, this⟩
  · intro f
    have hF : Fst l R st i := ⟨hm.1, fun q => ⟨⟨⟨hm.1, q, rfl⟩, fun j hj => hm.2 j hj.1⟩, (f q).1, (f q).2⟩⟩
    refine ⟨hm, fun q => (f q).1 q, cmp_of_keys _ (hd.erase i) rfl (fun j => ?_) (fun j q => ht j q.1) (ofK_step hk hF)⟩
    rw [hd.mem_erase_iff]
    unfold del
    rw [hR j]
    exact And.comm
theorem ok_some {L : List Nat} (hd : L.Nodup) (hR : ∀ i, R i ↔ i ∈ L) (ht : ∀ i, R i → okT (mv l i)) (hk : ∀ k, Cmp l (ofK l R k) st) (hne : ∃ i, R i) : ∃ i, Ok l R st i := by
  obtain ⟨c, hm, f⟩ := some_next hR ht hk hne
  exact ⟨c, (ok_iff hd hR ht hk hm).2 fun q => (f.2 q).2⟩
theorem Ok.cmp {i : Nat} (h : Ok l R st i) : Cmp l R st := .step i h.1 h.2.1 h.2.2
theorem cmp_ok (c : Cmp l R st) (hne : ∃ i, R i) : ∃ i, Ok l R st i := by
  cases c with
  | done h => obtain ⟨i, hi⟩ := hne; exact absurd hi (h i)
  | step i h g k => exact ⟨i, h, g, k⟩
inductive Gr (l : List Mv) : (Nat → Prop) → Fam → List Nat → Prop
  | nil {R : Nat → Prop} {st : Fam} (h : ∀ i, ¬ R i) : Gr l R st []
  | cons {R : Nat → Prop} {st : Fam} {i : Nat} {t : List Nat} (h : Ok l R st i) (g : ∀ j, j < i → ¬ Ok l R st j) (k : Gr l (del R i) (upd st (mv l i)) t) : Gr l R st (i :: t)
theorem Gr.unique {R : Nat → Prop} {st : Fam} {a : List Nat} (p : Gr l R st a) : ∀ {b : List Nat}, Gr l R st b → a = b := by
  induction p with
  | nil h =>
    intro b q
    cases q with
    | nil => rfl
    | cons g _ _ => exact absurd g.1.1 (h _)
  | @cons R st i t h g k ih =>
    intro b q
    cases q with
    | nil h' => exact absurd h.1.1 (h' _)
    | @cons _ _ j t' h' g' k' =>
      have : i = j := by
        rcases Nat.lt_trichotomy i j with e | e | e
        · exact absurd h (g' i e)
        · exact e
        · exact absurd h' (g j e)
      subst this
      rw [ih k']
theorem Gr.cmp {a : List Nat} (p : Gr l R st a) : Cmp l R st := by
  cases p with
  | nil h => exact .done h
  | cons h _ _ => exact h.cmp
theorem Gr.mem {R : Nat → Prop} {st : Fam} {a : List Nat} (p : Gr l R st a) : (∀ i, R i ↔ i ∈ a) ∧ a.Nodup := by
  induction p with
  | nil h => exact ⟨fun i => ⟨fun q => absurd q (h i), fun q => by cases q⟩, List.nodup_nil⟩
  | @cons R st i t h g k ih =>
    refine ⟨fun j => ⟨fun q => ?_, fun q => ?_⟩, List.nodup_cons.2 ⟨fun q => ((ih.1 i).2 q).2 rfl, ih.2⟩⟩
    · by_cases e : j = i
      · simp [e]
      · exact List.mem_cons_of_mem _ ((ih.1 j).1 ⟨q, e⟩)
    · rcases List.mem_cons.1 q with rfl | q
      · exact h.1.1
      · exact ((ih.1 j).2 q).1
end
end Ml
end Go.Proofs.YtfjcciaabkjkgaaGreatDoor
namespace Go.Proofs.YtfjcciaabkjkgaaGreatDoor
namespace Ml
section
variable {l l' : List Mv}
theorem Cmp.mono (f : Nat → Nat) {R : Nat → Prop} {st : Fam} (c : Cmp l R st) : ∀ {R' : Nat → Prop} {st' : Fam}, (∀ i, R' i → R (f i)) → (∀ i j, R' i → R' j → f i = f j → i = j) →
    (∀ i j, R' i → R' j → ah (mv l' j) (mv l' i) → ah (mv l (f j)) (mv l (f i))) → (∀ i, R' i → keyed (mv l' i) = keyed (mv l (f i)) ∧ (mv l' i).key = (mv l (f i)).key) →
    (∀ i, R' i → ∀ s s', Srt s' → Sub s s' → Sub (next s (mv l (f i))) (next s' (mv l' i))) → (∀ i, R i → (∃ j, R' j ∧ f j = i) ∨ ∀ s, Sub (next s (mv l i)) s) → (∀ k, Sub (st k) (st' k) ∧ Srt (st' k)) → Cmp l' R' st' := by
  induction c with
  | done h => exact fun h1 _ _ _ _ _ _ => .done fun i q => h _ (h1 i q)
  | @step R st i h g _ ih =>
    intro R' st' h1 h2 h3 h4 h5 h6 h7
    by_cases q : ∃ j, R' j ∧ f j = i
    · obtain ⟨j, hj, rfl⟩ := q
      refine .step j ⟨hj, fun j' hj' a => h.2 _ (h1 j' hj') (h3 j j' hj hj' a)⟩ (fun q => ?_) (ih (fun i q => ⟨h1 i q.1, fun e => q.2 (h2 i j q.1 hj e)⟩) (fun i j p q => h2 i j p.1 q.1) (fun i j p q => h3 i j p.1 q.1) (fun i p => h4 i p.1) (fun i p => h5 i p.1) (fun i p => ?_) fun k => ?_)
      · rw [(h4 j hj).2]
        exact Sub.ne (h5 j hj _ _ (h7 _).2 (h7 _).1) (g (by rw [← (h4 j hj).1]; exact q))
      · rcases h6 i p.1 with ⟨j', a, b⟩ | b
        · exact .inl ⟨j', ⟨a, fun e => p.2 (by rw [← b, e])⟩, b⟩
        · exact .inr b
      · unfold upd stepK
        rw [(h4 j hj).1, (h4 j hj).2]
        split
        · exact ⟨h5 j hj _ _ (h7 _).2 (h7 _).1, next_srt _ _⟩
        · exact h7 k
    · have hs := (h6 i h.1).resolve_left q
      refine ih (fun j p => ⟨h1 j p, fun e => q ⟨j, p, e⟩⟩) h2 h3 h4 h5 (fun j p => h6 j p.1) fun k => ⟨fun x hx => (h7 k).1 x ?_, (h7 k).2⟩
      unfold upd stepK at hx
      split at hx
      · exact hs _ x hx
      · exact hx
theorem open_sub {m : Mv} (h : m.to < 0) (s : List Mt) : Sub s (next s m) := fun x hx => by
  rw [next_mem]
  refine ⟨x, hx, ?_⟩
  have hf : fate m = 3 := by unfold fate; rw [if_pos (.inl h)]
  have hh : ¬ (hits m = true ∧ (x.has = false ∨ x.val ≠ m.val)) := by
    rintro ⟨q, _⟩; simp [hits] at q; omega
  unfold outs
  split
  · first | (rw [if_neg hh]; simp) | simp
  · split
    · rw [hf]; simp [putF]
    · split
      · rw [hf]; simp [delF]
      · simp
theorem cmp_open : ∀ (n : Nat) {L : List Nat} {R : Nat → Prop} {st : Fam}, L.Nodup → L.length = n → (∀ i, R i ↔ i ∈ L) → (∀ i, R i → (mv l i).to < 0) → (∀ k, st k ≠ []) → Cmp l R st
  | 0, L, R, st, _, hn, hR, _, _ => .done fun i q => by
    rw [List.eq_nil_of_length_eq_zero hn] at hR; cases (hR i).1 q
  | n + 1, L, R, st, hd, hn, hR, ht, hs => by
    obtain ⟨i, hi⟩ : ∃ i, i ∈ L := by
      cases L with
      | nil => cases hn
      | cons x L => exact ⟨x, by simp⟩
    obtain ⟨c, hc, _, mc⟩ := exists_erl (l := l) L (fun _ => True) ⟨i, hi, trivial⟩
    have hcR := (hR c).2 hc
    refine .step c ⟨hcR, fun j hj a => ?_⟩ (fun _ => Sub.ne (open_sub (ht c hcR) _) (hs _)) (cmp_open n (L := L.erase c) (hd.erase c) ?_ (fun j => ?_) (fun j q => ht j q.1) fun k => ?_)
    · have h1 := mc j ((hR j).1 hj) trivial
      have h2 := ht j hj
      unfold ah erl at *; omega
    · rw [List.length_erase_of_mem hc]; omega
    · rw [hd.mem_erase_iff]
      unfold del
      rw [hR j]
      exact And.comm
    · unfold upd stepK
      split
      · exact Sub.ne (open_sub (ht c hcR) _) (hs _)
      · exact hs k
theorem Cmp.cut (f : Nat → Nat) (drp : Nat → Prop) {R : Nat → Prop} {st : Fam} (c : Cmp l R st) : ∀ {R' : Nat → Prop} {st' : Fam} {L : List Nat}, L.Nodup → (∀ i, R' i ↔ i ∈ L) → (∀ i, R' i → R (f i)) → (∀ i j, R' i → R' j → f i = f j → i = j) →
    (∀ i j, R' i → R' j → ah (mv l' j) (mv l' i) → ah (mv l (f j)) (mv l (f i))) → (∀ i, R' i → keyed (mv l' i) = keyed (mv l (f i)) ∧ (mv l' i).key = (mv l (f i)).key) →
    (∀ i, R' i → ∀ s s', Srt s' → Sub s s' → Sub (next s (mv l (f i))) (next s' (mv l' i))) → (∀ i, R i → (∃ j, R' j ∧ f j = i) ∨ drp i) → (∀ i j, R i → drp i → R' j → ¬ ah (mv l (f j)) (mv l i) → (mv l' j).to < 0) → (∀ k, Sub (st k) (st' k) ∧ Srt (st' k)) → (∀ k, st' k ≠ []) → Cmp l' R' st' := by
  induction c with
  | done h => exact fun _ _ h1 _ _ _ _ _ _ _ _ => .done fun i q => h _ (h1 i q)
  | @step R st i h g _ ih =>
    intro R' st' L hd hL h1 h2 h3 h4 h5 h6 h8 h7 h9
    by_cases q : ∃ j, R' j ∧ f j = i
    · obtain ⟨j, hj, rfl⟩ := q
      have hlv : Lv st' (mv l' j) := fun q => by
        rw [(h4 j hj).2]
        exact Sub.ne (h5 j hj _ _ (h7 _).2 (h7 _).1) (g (by rw [← (h4 j hj).1]; exact q))
      refine .step j ⟨hj, fun j' hj' a => h.2 _ (h1 j' hj') (h3 j j' hj hj' a)⟩ hlv (ih (hd.erase j) (fun i => ?_) (fun i q => ⟨h1 i q.1, fun e => q.2 (h2 i j q.1 hj e)⟩) (fun i j p q => h2 i j p.1 q.1) (fun i j p q => h3 i j p.1 q.1) (fun i p => h4 i p.1) (fun i p => h5 i p.1) (fun i p => ?_) (fun i j p q r => h8 i j p.1 q r.1) (fun k => ?_) fun k => ?_)
      · rw [hd.mem_erase_iff]
        unfold del
        rw [hL i]
        exact And.comm
      · rcases h6 i p.1 with ⟨j', a, b⟩ | b
        · exact .inl ⟨j', ⟨a, fun e => p.2 (by rw [← b, e])⟩, b⟩
        · exact .inr b
      · unfold upd stepK
        rw [(h4 j hj).1, (h4 j hj).2]
        split
        · exact ⟨h5 j hj _ _ (h7 _).2 (h7 _).1, next_srt _ _⟩
        · exact h7 k
      · unfold upd stepK
        split
        · next q => rw [← q.2]; exact hlv q.1
        · exact h9 k
    · have hdr := (h6 i h.1).resolve_left q
      exact cmp_open _ hd rfl hL (fun j hj => h8 i j h.1 hdr hj (h.2 _ (h1 j hj))) h9
end
end Ml
end Go.Proofs.YtfjcciaabkjkgaaGreatDoor
