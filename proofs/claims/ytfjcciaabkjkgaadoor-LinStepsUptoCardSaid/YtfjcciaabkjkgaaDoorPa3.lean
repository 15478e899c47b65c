import Derived.Shelf.SlSortCmp.NoneTotal
import Derived.Shelf.SlSortCmp.QuietGrown
import Derived.Deep.LoopGhost
import Derived.Deep.Draws
import Derived.Lib.Walk
import Derived.Test.YtfjcciaabkjkgaaDoorProg
import Derived.Test.YtfjcciaabkjkgaaDoorPa1
import Derived.Test.YtfjcciaabkjkgaaDoorPa2
namespace Go.Proofs.YtfjcciaabkjkgaaDoor
open Go
open Go.Proofs.YtfjcciaabkjkgaaDoor renaming hl_val → lv, hl_step → lp, hl_nil → ln, hl_yes → ly, hl_no → lo, hx_seq → xs, hx_region → xr, hx_cond → xc, hx_block → xb, hx_loopT → xl, hx_cut → xk, hx_has → xh, hx_skip → xi, hx_ret → xt, hx_exit → xe, seqQ_n → qn, seqQ_ret → qr, seqQ_exit → qe, blockQ_n → bn, blockQ_ret → br, blockQ_here → bh, hv_move → vm, hv_assign → va, hv_arith → vr, hv_load → vl, hv_loads → vL, hv_field → vf, hv_build → vb, hv_index → vi, hp_pure → pp, hp_read → pr, hp_no → pn, has_cons → hc, has_nil → hn, hcells_cons → cc, hcells_nil → cn, rowcell → rc, hs_call → sc
set_option maxRecDepth 100000
set_option maxHeartbeats 4000000
theorem TyShC.agg3 : aggB Tryd.prog 3 = some false := by kernel_rfl
theorem TyShC.agg30 : aggB Tryd.prog 30 = some true := by kernel_rfl
theorem TyShC.agg4 : aggB Tryd.prog 4 = some false := by kernel_rfl
theorem TyShC.agg62 : aggB Tryd.prog 62 = some true := by kernel_rfl
theorem TyShC.agg9 : aggB Tryd.prog 9 = some false := by kernel_rfl
theorem TyShC.cb20 : CallB Tryd.prog 20 := fun _ _ => Tryd.call20 _ _
theorem TyShC.cb35 : CallB Tryd.prog 35 := fun _ _ => Tryd.call35 _ _
theorem TyShC.cb36 : CallB Tryd.prog 36 := fun _ _ => Tryd.call36 _ _
theorem TyShC.cb37 : CallB Tryd.prog 37 := fun _ _ => Tryd.call37 _ _
theorem TyShC.cb57 : CallB Tryd.prog 57 := fun _ _ => Tryd.call57 _ _
theorem TyShC.cb69 : CallB Tryd.prog 69 := fun _ _ => Tryd.call69 _ _
theorem TyShC.el43 : elB Tryd.prog 43 = some 2 := by kernel_rfl
theorem TyShC.fld30_0 : fldB Tryd.prog 30 0 = some 0 := by kernel_rfl
theorem TyShC.fld30_1 : fldB Tryd.prog 30 1 = some 1 := by kernel_rfl
theorem TyShC.fld30_2 : fldB Tryd.prog 30 2 = some 2 := by kernel_rfl
theorem TyShC.fld30_4 : fldB Tryd.prog 30 4 = some 4 := by kernel_rfl
theorem TyShC.fld30_6 : fldB Tryd.prog 30 6 = some 6 := by kernel_rfl
theorem TyShC.fld30_7 : fldB Tryd.prog 30 7 = some 7 := by kernel_rfl
theorem TyShC.fld62_0 : fldB Tryd.prog 62 0 = some 0 := by kernel_rfl
theorem TyShC.fld62_1 : fldB Tryd.prog 62 1 = some 1 := by kernel_rfl
theorem TyShC.mixed : Tryd.prog.follows .mixedOrders = true := by kernel_rfl
theorem TyShC.pl62 : plB Tryd.prog 62 = some [(0, 1), (1, 1)] := by kernel_rfl
theorem TyShC.se62 : seB Tryd.prog 62 = some [(4, 0), (9, 1)] := by kernel_rfl
theorem TyShC.sz30 : szB Tryd.prog 30 = some 8 := by kernel_rfl
theorem TyShC.sz62 : szB Tryd.prog 62 = some 2 := by kernel_rfl
theorem TyShC.sz9 : szB Tryd.prog 9 = some 1 := by kernel_rfl
theorem TyShC.u3 : Tryd.prog.underlying 3 = some (.int .i64) := by kernel_rfl
theorem TyShC.u43 : Tryd.prog.underlying 43 = some (.slice 62) := by kernel_rfl
theorem TyShC.u67 : Tryd.prog.underlying 67 = some (.map 3 65) := by kernel_rfl
theorem TyShC.z62 : zeroB Tryd.prog 62 (.agg #[(.bool false), (.string ByteArray.empty)]) := by unfold zeroB; kernel_rfl
theorem ext_pushed_f39_sh {h h1 : Heap} {o : Obj} (e : h1 = Array.push h o) : Ext h h1 := by rw [e]; exact Ext.push _ _
theorem f18_sh (a0 : Int) (a5 : ByteArray) (a2 : ByteArray) (a7 : Int) (a3 : Bool) (a4 : Int) (a1 : Int) (a6 : Int) (h : Heap) (R : Value → Heap → Prop)
  (H : (((((decide (a0 < 1)) || (decide (a0 > 5))) || (((decide (a1 < 0)) || ((decide (Ml.Mv.to ⟨a0, a5, a2, a7, a3, a4, a1, a6⟩ ≥ 0)) && (decide (a6 < a1)))) || ((a3 && (!(Ml.hits ⟨a0, a5, a2, a7, a3, a4, a1, a6⟩))) || ((((a0 != 2) && (!(Ml.hits ⟨a0, a5, a2, a7, a3, a4, a1, a6⟩))) && (!decide (a2 = ByteArray.empty))) || (((a0 == 4) || (a0 == 5)) && (!decide (a5 = ByteArray.empty))))))) = true → (∀ (h4 : Heap), Ext h h4 → R (.int .i64 230) h4)) ∧ ((((decide (a0 < 1)) || (decide (a0 > 5))) || (((decide (a1 < 0)) || ((decide (Ml.Mv.to ⟨a0, a5, a2, a7, a3, a4, a1, a6⟩ ≥ 0)) && (decide (a6 < a1)))) || ((a3 && (!(Ml.hits ⟨a0, a5, a2, a7, a3, a4, a1, a6⟩))) || ((((a0 != 2) && (!(Ml.hits ⟨a0, a5, a2, a7, a3, a4, a1, a6⟩))) && (!decide (a2 = ByteArray.empty))) || (((a0 == 4) || (a0 == 5)) && (!decide (a5 = ByteArray.empty))))))) = false → (∀ (h4 : Heap), Ext h h4 → R (.int .i64 0) h4)))) :
  HC Tryd.prog 18 #[(.agg #[(.int .i64 a0), (.string a5), (.string a2), (.int .i64 a7), (.bool a3), (.int .i64 a4), (.int .i64 a1), (.int .i64 a6)])] h R := by
 refine hc_of (args := [(.agg #[(.int .i64 a0), (.string a5), (.string a2), (.int .i64 a7), (.bool a3), (.int .i64 a4), (.int .i64 a1), (.int .i64 a6)])]) Tryd.func18 rfl Tryd.ntmps18 (Nat.le_of_ble_eq_true rfl) ?_
 refine xs (xr ?_)
 refine lp rfl rfl (hn_box (v := (.agg #[(.int .i64 a0), (.string a5), (.string a2), (.int .i64 a7), (.bool a3), (.int .i64 a4), (.int .i64 a1), (.int .i64 a6)])) rfl ?_)
 intro m h1 d3 d4
 have d5 := ext_pushed_f39_sh d4
 have d8 : Array.size h ≤ m := Nat.le_of_eq (Eq.symm d3)
 have b8 : h1[m]? = some (.cells #[(.int .i64 a0), (.string a5), (.string a2), (.int .i64 a7), (.bool a3), (.int .i64 a4), (.int .i64 a1), (.int .i64 a6)] 30 (0, 0)) := by rw [d4]; exact push_new d3
 refine lv rfl rfl (va rfl) ?_
 refine ln (qn ?_)
 refine xk (fun ρ h' => h1 = h' ∧ Has ρ [(1, (ptr m 0)), (3, (.bool ((a0 == 4) || (a0 == 5))))]) ?_ ?_
 ·refine xr ?_
  refine lv rfl rfl (v := (ptr m 0)) (vf TyShC.fld30_0 (b := m) (o := 0) rfl) (lv rfl rfl (vl TyShC.agg3 rfl (rc b8 rfl)) (lv rfl rfl (vr rfl rfl rfl) (lv rfl rfl (vm rfl) ?_)))
  rcases bool_or (a0 == 4) with c0 | c0
  ·refine lo (wanted_n rfl rfl rfl c0) rfl ?_
   refine lo (wanted_n rfl rfl rfl c0) rfl ?_
   refine lo (wanted_n rfl rfl rfl c0) rfl ?_
   refine lv rfl rfl (v := (.bool true)) (hv_pick_t rfl c0 rfl) (lv rfl rfl (va rfl) ?_)
   refine ln (qn ?_)
   exact ⟨rfl, (hc rfl (hc (show ((.bool true) : Value) = (.bool ((a0 == 4) || (a0 == 5))) from (by first | rfl | ((try rw [c0]); all_goals first | rfl | (simp only [Bool.true_or, Bool.or_true, Bool.false_or, Bool.or_false, Bool.true_and, Bool.and_true, Bool.false_and, Bool.and_false, Bool.not_true, Bool.not_false, Bool.cond_true, Bool.cond_false]; done)) | simp [c0])) hn))⟩
  ·refine ly (wanted_y rfl rfl rfl c0) rfl (HStep.of_val (v := (ptr m 0)) (vf TyShC.fld30_0 (b := m) (o := 0) rfl) ?_)
   refine ly (wanted_y rfl rfl rfl c0) rfl (HStep.of_val (v := (.int .i64 a0)) (vl TyShC.agg3 rfl (rc b8 rfl)) ?_)
   refine ly (wanted_y rfl rfl rfl c0) rfl (HStep.of_val (v := (.bool (a0 == 5))) (vr rfl rfl rfl) ?_)
   refine lv rfl rfl (v := (.bool (a0 == 5))) (hv_pick_f rfl c0 rfl) (lv rfl rfl (va rfl) ?_)
   refine ln (qn ?_)
   exact ⟨rfl, (hc rfl (hc (show ((.bool (a0 == 5)) : Value) = (.bool ((a0 == 4) || (a0 == 5))) from (by first | rfl | ((try rw [c0]); all_goals first | rfl | (simp only [Bool.true_or, Bool.or_true, Bool.false_or, Bool.or_false, Bool.true_and, Bool.and_true, Bool.false_and, Bool.and_false, Bool.not_true, Bool.not_false, Bool.cond_true, Bool.cond_false]; done)) | simp [c0])) hn))⟩
 ·rintro ρ _ ⟨rfl, hH⟩
  refine xh _ hH ?_
  refine xk (fun ρ h' => (Ext h h' ∧ h'[m]? = some (.cells #[(.int .i64 a0), (.string a5), (.string a2), (.int .i64 a7), (.bool a3), (.int .i64 a4), (.int .i64 a1), (.int .i64 a6)] 30 (0, 0)) ∧ True) ∧ Has ρ [(1, (ptr m 0)), (3, (.bool ((a0 == 4) || (a0 == 5)))), (4, (.bool ((a0 != 2) && (!(Ml.hits ⟨a0, a5, a2, a7, a3, a4, a1, a6⟩)))))]) ?_ ?_
  ·refine xr ?_
   refine lv rfl rfl (v := (ptr m 0)) (vf TyShC.fld30_0 (b := m) (o := 0) rfl) (lv rfl rfl (vl TyShC.agg3 rfl (rc b8 rfl)) (lv rfl rfl (vr rfl rfl rfl) (lv rfl rfl (vm rfl) ?_)))
   rcases bool_or (a0 != 2) with b2 | b2
   ·refine ly (wanted_y rfl rfl rfl b2) rfl (HStep.of_val (v := (.agg #[(.int .i64 a0), (.string a5), (.string a2), (.int .i64 a7), (.bool a3), (.int .i64 a4), (.int .i64 a1), (.int .i64 a6)])) (vL (vs := [(.int .i64 a0), (.string a5), (.string a2), (.int .i64 a7), (.bool a3), (.int .i64 a4), (.int .i64 a1), (.int .i64 a6)]) TyShC.agg30 TyShC.sz30 rfl (cc (rc b8 rfl) (cc (rc b8 rfl) (cc (rc b8 rfl) (cc (rc b8 rfl) (cc (rc b8 rfl) (cc (rc b8 rfl) (cc (rc b8 rfl) (cc (rc b8 rfl) cn))))))))) ?_)
    refine ly (wanted_y rfl rfl rfl b2) rfl (sc TyShC.cb35 rfl (HC.mono (hits_c (⟨a0, a5, a2, a7, a3, a4, a1, a6⟩) _) ?_))
    rintro _ h3 ⟨rfl, d2⟩
    replace b8 := Ext.row d2 b8
    have d7 := Ext.trans d5 d2
    refine ly (wanted_y rfl rfl rfl b2) rfl (HStep.of_val (v := (.bool (!(Ml.hits ⟨a0, a5, a2, a7, a3, a4, a1, a6⟩)))) (hv_not (b := Ml.hits ⟨a0, a5, a2, a7, a3, a4, a1, a6⟩) rfl) ?_)
    refine lv rfl rfl (v := (.bool (!(Ml.hits ⟨a0, a5, a2, a7, a3, a4, a1, a6⟩)))) (hv_pick_t rfl b2 rfl) (lv rfl rfl (va rfl) ?_)
    refine ln (qn ?_)
    exact ⟨⟨d7, (row_congr b8 (by first | rfl | ((try rw [b2]); all_goals first | rfl | (simp only [Bool.true_or, Bool.or_true, Bool.false_or, Bool.or_false, Bool.true_and, Bool.and_true, Bool.false_and, Bool.and_false, Bool.not_true, Bool.not_false, Bool.cond_true, Bool.cond_false]; done)) | simp [b2])), trivial⟩, (hc rfl (hc rfl (hc (show ((.bool (!(Ml.hits ⟨a0, a5, a2, a7, a3, a4, a1, a6⟩))) : Value) = (.bool ((a0 != 2) && (!(Ml.hits ⟨a0, a5, a2, a7, a3, a4, a1, a6⟩)))) from (by first | rfl | ((try rw [b2]); all_goals first | rfl | (simp only [Bool.true_or, Bool.or_true, Bool.false_or, Bool.or_false, Bool.true_and, Bool.and_true, Bool.false_and, Bool.and_false, Bool.not_true, Bool.not_false, Bool.cond_true, Bool.cond_false]; done)) | simp [b2])) hn)))⟩
   ·refine lo (wanted_n rfl rfl rfl b2) rfl ?_
    refine lo (wanted_n rfl rfl rfl b2) rfl ?_
    refine lo (wanted_n rfl rfl rfl b2) rfl ?_
    refine lv rfl rfl (v := (.bool false)) (hv_pick_f rfl b2 rfl) (lv rfl rfl (va rfl) ?_)
    refine ln (qn ?_)
    exact ⟨⟨d5, (row_congr b8 (by first | rfl | ((try rw [b2]); all_goals first | rfl | (simp only [Bool.true_or, Bool.or_true, Bool.false_or, Bool.or_false, Bool.true_and, Bool.and_true, Bool.false_and, Bool.and_false, Bool.not_true, Bool.not_false, Bool.cond_true, Bool.cond_false]; done)) | simp [b2])), trivial⟩, (hc rfl (hc rfl (hc (show ((.bool false) : Value) = (.bool ((a0 != 2) && (!(Ml.hits ⟨a0, a5, a2, a7, a3, a4, a1, a6⟩)))) from (by first | rfl | ((try rw [b2]); all_goals first | rfl | (simp only [Bool.true_or, Bool.or_true, Bool.false_or, Bool.or_false, Bool.true_and, Bool.and_true, Bool.false_and, Bool.and_false, Bool.not_true, Bool.not_false, Bool.cond_true, Bool.cond_false]; done)) | simp [b2])) hn)))⟩
  ·rintro ρ h2 ⟨⟨c5, b0, -⟩, hH⟩
   refine xh _ hH ?_
   refine xs (xb ?_)
   refine xk (fun ρ h' => (Ext h h' ∧ True) ∧ Has ρ [(21, (.bool (((decide (a0 < 1)) || (decide (a0 > 5))) || (((decide (a1 < 0)) || ((decide (Ml.Mv.to ⟨a0, a5, a2, a7, a3, a4, a1, a6⟩ ≥ 0)) && (decide (a6 < a1)))) || ((a3 && (!(Ml.hits ⟨a0, a5, a2, a7, a3, a4, a1, a6⟩))) || ((((a0 != 2) && (!(Ml.hits ⟨a0, a5, a2, a7, a3, a4, a1, a6⟩))) && (!decide (a2 = ByteArray.empty))) || (((a0 == 4) || (a0 == 5)) && (!decide (a5 = ByteArray.empty)))))))))]) ?_ ?_
   ·refine xk (fun ρ h' => h2 = h' ∧ Has ρ [(1, (ptr m 0)), (3, (.bool ((a0 == 4) || (a0 == 5)))), (4, (.bool ((a0 != 2) && (!(Ml.hits ⟨a0, a5, a2, a7, a3, a4, a1, a6⟩))))), (21, (.bool ((decide (a0 < 1)) || (decide (a0 > 5)))))]) ?_ ?_
    ·refine xr ?_
     refine lv rfl rfl (v := (ptr m 0)) (vf TyShC.fld30_0 (b := m) (o := 0) rfl) (lv rfl rfl (vl TyShC.agg3 rfl (rc b0 rfl)) (lv rfl rfl (vr rfl rfl rfl) (lv rfl rfl (vm rfl) ?_)))
     rcases bool_or (decide (a0 < 1)) with b4 | b4
     ·refine lo (wanted_n rfl rfl rfl b4) rfl ?_
      refine lo (wanted_n rfl rfl rfl b4) rfl ?_
      refine lo (wanted_n rfl rfl rfl b4) rfl ?_
      refine lv rfl rfl (v := (.bool true)) (hv_pick_t rfl b4 rfl) (lv rfl rfl (va rfl) ?_)
      refine ln (qn ?_)
      exact ⟨rfl, (hc rfl (hc rfl (hc rfl (hc (show ((.bool true) : Value) = (.bool ((decide (a0 < 1)) || (decide (a0 > 5)))) from (by first | rfl | ((try rw [b4]); all_goals first | rfl | (simp only [Bool.true_or, Bool.or_true, Bool.false_or, Bool.or_false, Bool.true_and, Bool.and_true, Bool.false_and, Bool.and_false, Bool.not_true, Bool.not_false, Bool.cond_true, Bool.cond_false]; done)) | simp [b4])) hn))))⟩
     ·refine ly (wanted_y rfl rfl rfl b4) rfl (HStep.of_val (v := (ptr m 0)) (vf TyShC.fld30_0 (b := m) (o := 0) rfl) ?_)
      refine ly (wanted_y rfl rfl rfl b4) rfl (HStep.of_val (v := (.int .i64 a0)) (vl TyShC.agg3 rfl (rc b0 rfl)) ?_)
      refine ly (wanted_y rfl rfl rfl b4) rfl (HStep.of_val (v := (.bool (decide (a0 > 5)))) (vr rfl rfl rfl) ?_)
      refine lv rfl rfl (v := (.bool (decide (a0 > 5)))) (hv_pick_f rfl b4 rfl) (lv rfl rfl (va rfl) ?_)
      refine ln (qn ?_)
      exact ⟨rfl, (hc rfl (hc rfl (hc rfl (hc (show ((.bool (decide (a0 > 5))) : Value) = (.bool ((decide (a0 < 1)) || (decide (a0 > 5)))) from (by first | rfl | ((try rw [b4]); all_goals first | rfl | (simp only [Bool.true_or, Bool.or_true, Bool.false_or, Bool.or_false, Bool.true_and, Bool.and_true, Bool.false_and, Bool.and_false, Bool.not_true, Bool.not_false, Bool.cond_true, Bool.cond_false]; done)) | simp [b4])) hn))))⟩
    ·rintro ρ _ ⟨rfl, hH⟩
     refine xh _ hH ?_
     refine xc (b := ((decide (a0 < 1)) || (decide (a0 > 5)))) rfl (fun b6 => ?_) (fun b6 => ?_)
     ·refine xi (qn ?_)
      exact ⟨⟨c5, trivial⟩, (hc (show ((.bool ((decide (a0 < 1)) || (decide (a0 > 5)))) : Value) = (.bool (((decide (a0 < 1)) || (decide (a0 > 5))) || (((decide (a1 < 0)) || ((decide (Ml.Mv.to ⟨a0, a5, a2, a7, a3, a4, a1, a6⟩ ≥ 0)) && (decide (a6 < a1)))) || ((a3 && (!(Ml.hits ⟨a0, a5, a2, a7, a3, a4, a1, a6⟩))) || ((((a0 != 2) && (!(Ml.hits ⟨a0, a5, a2, a7, a3, a4, a1, a6⟩))) && (!decide (a2 = ByteArray.empty))) || (((a0 == 4) || (a0 == 5)) && (!decide (a5 = ByteArray.empty)))))))) from (by first | rfl | ((try rw [b6]); all_goals first | rfl | (simp only [Bool.true_or, Bool.or_true, Bool.false_or, Bool.or_false, Bool.true_and, Bool.and_true, Bool.false_and, Bool.and_false, Bool.not_true, Bool.not_false, Bool.cond_true, Bool.cond_false]; done)) | simp [b6])) hn)⟩
     ·refine xk (fun ρ h' => (Ext h h' ∧ h'[m]? = some (.cells #[(.int .i64 a0), (.string a5), (.string a2), (.int .i64 a7), (.bool a3), (.int .i64 a4), (.int .i64 a1), (.int .i64 a6)] 30 (0, 0)) ∧ True) ∧ Has ρ [(1, (ptr m 0)), (3, (.bool ((a0 == 4) || (a0 == 5)))), (4, (.bool ((a0 != 2) && (!(Ml.hits ⟨a0, a5, a2, a7, a3, a4, a1, a6⟩))))), (21, (.bool ((decide (a1 < 0)) || ((decide (Ml.Mv.to ⟨a0, a5, a2, a7, a3, a4, a1, a6⟩ ≥ 0)) && (decide (a6 < a1))))))]) ?_ ?_
      ·refine xr ?_
       refine lv rfl rfl (v := (ptr m 6)) (vf TyShC.fld30_6 (b := m) (o := 0) rfl) (lv rfl rfl (vl TyShC.agg3 rfl (rc b0 rfl)) (lv rfl rfl (vr rfl rfl rfl) (lv rfl rfl (vm rfl) ?_)))
       rcases bool_or (decide (a1 < 0)) with a8 | a8
       ·refine lo (wanted_n rfl rfl rfl a8) rfl ?_
        refine lo (wanted_n rfl rfl rfl a8) rfl ?_
        refine lo (wanted_n rfl rfl rfl a8) rfl ?_
        refine lo (wanted_u rfl rfl rfl) rfl ?_
        refine lo (wanted_u rfl rfl rfl) rfl ?_
        refine lo (wanted_u rfl rfl rfl) rfl ?_
        refine lo (wanted_u rfl rfl rfl) rfl ?_
        refine lo (wanted_u rfl rfl rfl) rfl ?_
        refine lo (wanted_n rfl rfl rfl a8) rfl ?_
        refine lv rfl rfl (v := (.bool true)) (hv_pick_t rfl a8 rfl) (lv rfl rfl (va rfl) ?_)
        refine ln (qn ?_)
        exact ⟨⟨c5, (row_congr b0 (by first | rfl | ((try rw [a8]); all_goals first | rfl | (simp only [Bool.true_or, Bool.or_true, Bool.false_or, Bool.or_false, Bool.true_and, Bool.and_true, Bool.false_and, Bool.and_false, Bool.not_true, Bool.not_false, Bool.cond_true, Bool.cond_false]; done)) | simp [a8])), trivial⟩, (hc rfl (hc rfl (hc rfl (hc (show ((.bool true) : Value) = (.bool ((decide (a1 < 0)) || ((decide (Ml.Mv.to ⟨a0, a5, a2, a7, a3, a4, a1, a6⟩ ≥ 0)) && (decide (a6 < a1))))) from (by first | rfl | ((try rw [a8]); all_goals first | rfl | (simp only [Bool.true_or, Bool.or_true, Bool.false_or, Bool.or_false, Bool.true_and, Bool.and_true, Bool.false_and, Bool.and_false, Bool.not_true, Bool.not_false, Bool.cond_true, Bool.cond_false]; done)) | simp [a8])) hn))))⟩
       ·refine ly (wanted_y rfl rfl rfl a8) rfl (HStep.of_val (v := (.agg #[(.int .i64 a0), (.string a5), (.string a2), (.int .i64 a7), (.bool a3), (.int .i64 a4), (.int .i64 a1), (.int .i64 a6)])) (vL (vs := [(.int .i64 a0), (.string a5), (.string a2), (.int .i64 a7), (.bool a3), (.int .i64 a4), (.int .i64 a1), (.int .i64 a6)]) TyShC.agg30 TyShC.sz30 rfl (cc (rc b0 rfl) (cc (rc b0 rfl) (cc (rc b0 rfl) (cc (rc b0 rfl) (cc (rc b0 rfl) (cc (rc b0 rfl) (cc (rc b0 rfl) (cc (rc b0 rfl) cn))))))))) ?_)
        refine ly (wanted_y rfl rfl rfl a8) rfl (sc TyShC.cb36 rfl (HC.mono (returned_c (⟨a0, a5, a2, a7, a3, a4, a1, a6⟩) _) ?_))
        rintro _ h6 ⟨rfl, c8⟩
        replace b0 := Ext.row c8 b0
        have d1 := Ext.trans c5 c8
        refine ly (wanted_y rfl rfl rfl a8) rfl (HStep.of_val (v := (.bool (decide (Ml.Mv.to ⟨a0, a5, a2, a7, a3, a4, a1, a6⟩ ≥ 0)))) (vm rfl) ?_)
        rcases bool_or (decide (Ml.Mv.to ⟨a0, a5, a2, a7, a3, a4, a1, a6⟩ ≥ 0)) with a9 | a9
        ·refine ly (wanted_y rfl rfl rfl a9) rfl (HStep.of_val (v := (ptr m 7)) (vf TyShC.fld30_7 (b := m) (o := 0) rfl) ?_)
         refine ly (wanted_y rfl rfl rfl a9) rfl (HStep.of_val (v := (.int .i64 a6)) (vl TyShC.agg3 rfl (rc b0 rfl)) ?_)
         refine ly (wanted_y rfl rfl rfl a9) rfl (HStep.of_val (v := (ptr m 6)) (vf TyShC.fld30_6 (b := m) (o := 0) rfl) ?_)
         refine ly (wanted_y rfl rfl rfl a9) rfl (HStep.of_val (v := (.int .i64 a1)) (vl TyShC.agg3 rfl (rc b0 rfl)) ?_)
         refine ly (wanted_y rfl rfl rfl a9) rfl (HStep.of_val (v := (.bool (decide (a6 < a1)))) (vr rfl rfl rfl) ?_)
         refine ly (wanted_y rfl rfl rfl a8) rfl (HStep.of_val (v := (.bool (decide (a6 < a1)))) (hv_pick_t rfl a9 rfl) ?_)
         refine lv rfl rfl (v := (.bool (decide (a6 < a1)))) (hv_pick_f rfl a8 rfl) (lv rfl rfl (va rfl) ?_)
         refine ln (qn ?_)
         exact ⟨⟨d1, (row_congr b0 (by first | rfl | ((try rw [a8]); (try rw [a9]); all_goals first | rfl | (simp only [Bool.true_or, Bool.or_true, Bool.false_or, Bool.or_false, Bool.true_and, Bool.and_true, Bool.false_and, Bool.and_false, Bool.not_true, Bool.not_false, Bool.cond_true, Bool.cond_false]; done)) | simp [a8, a9])), trivial⟩, (hc rfl (hc rfl (hc rfl (hc (show ((.bool (decide (a6 < a1))) : Value) = (.bool ((decide (a1 < 0)) || ((decide (Ml.Mv.to ⟨a0, a5, a2, a7, a3, a4, a1, a6⟩ ≥ 0)) && (decide (a6 < a1))))) from (by first | rfl | ((try rw [a8]); (try rw [a9]); all_goals first | rfl | (simp only [Bool.true_or, Bool.or_true, Bool.false_or, Bool.or_false, Bool.true_and, Bool.and_true, Bool.false_and, Bool.and_false, Bool.not_true, Bool.not_false, Bool.cond_true, Bool.cond_false]; done)) | simp [a8, a9])) hn))))⟩
        ·refine lo (wanted_n rfl rfl rfl a9) rfl ?_
         refine lo (wanted_n rfl rfl rfl a9) rfl ?_
         refine lo (wanted_n rfl rfl rfl a9) rfl ?_
         refine lo (wanted_n rfl rfl rfl a9) rfl ?_
         refine lo (wanted_n rfl rfl rfl a9) rfl ?_
         refine ly (wanted_y rfl rfl rfl a8) rfl (HStep.of_val (v := (.bool false)) (hv_pick_f rfl a9 rfl) ?_)
         refine lv rfl rfl (v := (.bool false)) (hv_pick_f rfl a8 rfl) (lv rfl rfl (va rfl) ?_)
         refine ln (qn ?_)
         exact ⟨⟨d1, (row_congr b0 (by first | rfl | ((try rw [a8]); (try rw [a9]); all_goals first | rfl | (simp only [Bool.true_or, Bool.or_true, Bool.false_or, Bool.or_false, Bool.true_and, Bool.and_true, Bool.false_and, Bool.and_false, Bool.not_true, Bool.not_false, Bool.cond_true, Bool.cond_false]; done)) | simp [a8, a9])), trivial⟩, (hc rfl (hc rfl (hc rfl (hc (show ((.bool false) : Value) = (.bool ((decide (a1 < 0)) || ((decide (Ml.Mv.to ⟨a0, a5, a2, a7, a3, a4, a1, a6⟩ ≥ 0)) && (decide (a6 < a1))))) from (by first | rfl | ((try rw [a8]); (try rw [a9]); all_goals first | rfl | (simp only [Bool.true_or, Bool.or_true, Bool.false_or, Bool.or_false, Bool.true_and, Bool.and_true, Bool.false_and, Bool.and_false, Bool.not_true, Bool.not_false, Bool.cond_true, Bool.cond_false]; done)) | simp [a8, a9])) hn))))⟩
      ·rintro ρ h5 ⟨⟨c6, b3, -⟩, hH⟩
       refine xh _ hH ?_
       refine xc (b := ((decide (a1 < 0)) || ((decide (Ml.Mv.to ⟨a0, a5, a2, a7, a3, a4, a1, a6⟩ ≥ 0)) && (decide (a6 < a1))))) rfl (fun b9 => ?_) (fun b9 => ?_)
       ·refine xi (qn ?_)
        exact ⟨⟨c6, trivial⟩, (hc (show ((.bool ((decide (a1 < 0)) || ((decide (Ml.Mv.to ⟨a0, a5, a2, a7, a3, a4, a1, a6⟩ ≥ 0)) && (decide (a6 < a1))))) : Value) = (.bool (((decide (a0 < 1)) || (decide (a0 > 5))) || (((decide (a1 < 0)) || ((decide (Ml.Mv.to ⟨a0, a5, a2, a7, a3, a4, a1, a6⟩ ≥ 0)) && (decide (a6 < a1)))) || ((a3 && (!(Ml.hits ⟨a0, a5, a2, a7, a3, a4, a1, a6⟩))) || ((((a0 != 2) && (!(Ml.hits ⟨a0, a5, a2, a7, a3, a4, a1, a6⟩))) && (!decide (a2 = ByteArray.empty))) || (((a0 == 4) || (a0 == 5)) && (!decide (a5 = ByteArray.empty)))))))) from (by first | rfl | ((try rw [b6]); (try rw [b9]); all_goals first | rfl | (simp only [Bool.true_or, Bool.or_true, Bool.false_or, Bool.or_false, Bool.true_and, Bool.and_true, Bool.false_and, Bool.and_false, Bool.not_true, Bool.not_false, Bool.cond_true, Bool.cond_false]; done)) | simp [b6, b9])) hn)⟩
       ·refine xk (fun ρ h' => (Ext h h' ∧ h'[m]? = some (.cells #[(.int .i64 a0), (.string a5), (.string a2), (.int .i64 a7), (.bool a3), (.int .i64 a4), (.int .i64 a1), (.int .i64 a6)] 30 (0, 0)) ∧ True) ∧ Has ρ [(1, (ptr m 0)), (3, (.bool ((a0 == 4) || (a0 == 5)))), (4, (.bool ((a0 != 2) && (!(Ml.hits ⟨a0, a5, a2, a7, a3, a4, a1, a6⟩))))), (21, (.bool (a3 && (!(Ml.hits ⟨a0, a5, a2, a7, a3, a4, a1, a6⟩)))))]) ?_ ?_
        ·refine xr ?_
         refine lv rfl rfl (v := (ptr m 4)) (vf TyShC.fld30_4 (b := m) (o := 0) rfl) (lv rfl rfl (vl TyShC.agg4 rfl (rc b3 rfl)) (lv rfl rfl (vm rfl) ?_))
         rcases bool_or (a3) with b1 | b1
         ·refine ly (wanted_y rfl rfl rfl b1) rfl (HStep.of_val (v := (.agg #[(.int .i64 a0), (.string a5), (.string a2), (.int .i64 a7), (.bool a3), (.int .i64 a4), (.int .i64 a1), (.int .i64 a6)])) (vL (vs := [(.int .i64 a0), (.string a5), (.string a2), (.int .i64 a7), (.bool a3), (.int .i64 a4), (.int .i64 a1), (.int .i64 a6)]) TyShC.agg30 TyShC.sz30 rfl (cc (rc b3 rfl) (cc (rc b3 rfl) (cc (rc b3 rfl) (cc (rc b3 rfl) (cc (rc b3 rfl) (cc (rc b3 rfl) (cc (rc b3 rfl) (cc (rc b3 rfl) cn))))))))) ?_)
          refine ly (wanted_y rfl rfl rfl b1) rfl (sc TyShC.cb35 rfl (HC.mono (hits_c (⟨a0, a5, a2, a7, a3, a4, a1, a6⟩) _) ?_))
          rintro _ h8 ⟨rfl, c9⟩
          replace b3 := Ext.row c9 b3
          have d6 := Ext.trans c6 c9
          refine ly (wanted_y rfl rfl rfl b1) rfl (HStep.of_val (v := (.bool (!(Ml.hits ⟨a0, a5, a2, a7, a3, a4, a1, a6⟩)))) (hv_not (b := Ml.hits ⟨a0, a5, a2, a7, a3, a4, a1, a6⟩) rfl) ?_)
          refine lv rfl rfl (v := (.bool (!(Ml.hits ⟨a0, a5, a2, a7, a3, a4, a1, a6⟩)))) (hv_pick_t rfl b1 rfl) (lv rfl rfl (va rfl) ?_)
          refine ln (qn ?_)
          exact ⟨⟨d6, (row_congr b3 (by first | rfl | ((try rw [b1]); all_goals first | rfl | (simp only [Bool.true_or, Bool.or_true, Bool.false_or, Bool.or_false, Bool.true_and, Bool.and_true, Bool.false_and, Bool.and_false, Bool.not_true, Bool.not_false, Bool.cond_true, Bool.cond_false]; done)) | simp [b1])), trivial⟩, (hc rfl (hc rfl (hc rfl (hc (show ((.bool (!(Ml.hits ⟨a0, a5, a2, a7, a3, a4, a1, a6⟩))) : Value) = (.bool (a3 && (!(Ml.hits ⟨a0, a5, a2, a7, a3, a4, a1, a6⟩)))) from (by first | rfl | ((try rw [b1]); all_goals first | rfl | (simp only [Bool.true_or, Bool.or_true, Bool.false_or, Bool.or_false, Bool.true_and, Bool.and_true, Bool.false_and, Bool.and_false, Bool.not_true, Bool.not_false, Bool.cond_true, Bool.cond_false]; done)) | simp [b1])) hn))))⟩
         ·refine lo (wanted_n rfl rfl rfl b1) rfl ?_
          refine lo (wanted_n rfl rfl rfl b1) rfl ?_
          refine lo (wanted_n rfl rfl rfl b1) rfl ?_
          refine lv rfl rfl (v := (.bool false)) (hv_pick_f rfl b1 rfl) (lv rfl rfl (va rfl) ?_)
          refine ln (qn ?_)
          exact ⟨⟨c6, (row_congr b3 (by first | rfl | ((try rw [b1]); all_goals first | rfl | (simp only [Bool.true_or, Bool.or_true, Bool.false_or, Bool.or_false, Bool.true_and, Bool.and_true, Bool.false_and, Bool.and_false, Bool.not_true, Bool.not_false, Bool.cond_true, Bool.cond_false]; done)) | simp [b1])), trivial⟩, (hc rfl (hc rfl (hc rfl (hc (show ((.bool false) : Value) = (.bool (a3 && (!(Ml.hits ⟨a0, a5, a2, a7, a3, a4, a1, a6⟩)))) from (by first | rfl | ((try rw [b1]); all_goals first | rfl | (simp only [Bool.true_or, Bool.or_true, Bool.false_or, Bool.or_false, Bool.true_and, Bool.and_true, Bool.false_and, Bool.and_false, Bool.not_true, Bool.not_false, Bool.cond_true, Bool.cond_false]; done)) | simp [b1])) hn))))⟩
        ·rintro ρ h7 ⟨⟨c3, d0, -⟩, hH⟩
         refine xh _ hH ?_
         refine xc (b := (a3 && (!(Ml.hits ⟨a0, a5, a2, a7, a3, a4, a1, a6⟩)))) rfl (fun c1 => ?_) (fun c1 => ?_)
         ·refine xi (qn ?_)
          exact ⟨⟨c3, trivial⟩, (hc (show ((.bool (a3 && (!(Ml.hits ⟨a0, a5, a2, a7, a3, a4, a1, a6⟩)))) : Value) = (.bool (((decide (a0 < 1)) || (decide (a0 > 5))) || (((decide (a1 < 0)) || ((decide (Ml.Mv.to ⟨a0, a5, a2, a7, a3, a4, a1, a6⟩ ≥ 0)) && (decide (a6 < a1)))) || ((a3 && (!(Ml.hits ⟨a0, a5, a2, a7, a3, a4, a1, a6⟩))) || ((((a0 != 2) && (!(Ml.hits ⟨a0, a5, a2, a7, a3, a4, a1, a6⟩))) && (!decide (a2 = ByteArray.empty))) || (((a0 == 4) || (a0 == 5)) && (!decide (a5 = ByteArray.empty)))))))) from (by first | rfl | ((try rw [b6]); (try rw [b9]); (try rw [c1]); all_goals first | rfl | (simp only [Bool.true_or, Bool.or_true, Bool.false_or, Bool.or_false, Bool.true_and, Bool.and_true, Bool.false_and, Bool.and_false, Bool.not_true, Bool.not_false, Bool.cond_true, Bool.cond_false]; done)) | simp [b6, b9, c1])) hn)⟩
         ·refine xk (fun ρ h' => h7 = h' ∧ Has ρ [(1, (ptr m 0)), (3, (.bool ((a0 == 4) || (a0 == 5)))), (21, (.bool (((a0 != 2) && (!(Ml.hits ⟨a0, a5, a2, a7, a3, a4, a1, a6⟩))) && (!decide (a2 = ByteArray.empty)))))]) ?_ ?_
          ·refine xr ?_
           refine lv rfl rfl (vm rfl) (lv rfl rfl (vm rfl) ?_)
           rcases bool_or (((a0 != 2) && (!(Ml.hits ⟨a0, a5, a2, a7, a3, a4, a1, a6⟩)))) with b7 | b7
           ·refine ly (wanted_y rfl rfl rfl b7) rfl (HStep.of_val (v := (ptr m 2)) (vf TyShC.fld30_2 (b := m) (o := 0) rfl) ?_)
            refine ly (wanted_y rfl rfl rfl b7) rfl (HStep.of_val (v := (.string a2)) (vl TyShC.agg9 rfl (rc d0 rfl)) ?_)
            refine ly (wanted_y rfl rfl rfl b7) rfl (HStep.of_val (v := (.bool (!decide (a2 = ByteArray.empty)))) (hv_str rfl rfl rfl) ?_)
            refine lv rfl rfl (v := (.bool (!decide (a2 = ByteArray.empty)))) (hv_pick_t rfl b7 rfl) (lv rfl rfl (va rfl) ?_)
            refine ln (qn ?_)
            exact ⟨rfl, (hc rfl (hc rfl (hc (show ((.bool (!decide (a2 = ByteArray.empty))) : Value) = (.bool (((a0 != 2) && (!(Ml.hits ⟨a0, a5, a2, a7, a3, a4, a1, a6⟩))) && (!decide (a2 = ByteArray.empty)))) from (by first | rfl | ((try rw [b7]); all_goals first | rfl | (simp only [Bool.true_or, Bool.or_true, Bool.false_or, Bool.or_false, Bool.true_and, Bool.and_true, Bool.false_and, Bool.and_false, Bool.not_true, Bool.not_false, Bool.cond_true, Bool.cond_false]; done)) | simp [b7])) hn)))⟩
           ·refine lo (wanted_n rfl rfl rfl b7) rfl ?_
            refine lo (wanted_n rfl rfl rfl b7) rfl ?_
            refine lo (wanted_n rfl rfl rfl b7) rfl ?_
            refine lv rfl rfl (v := (.bool false)) (hv_pick_f rfl b7 rfl) (lv rfl rfl (va rfl) ?_)
            refine ln (qn ?_)
            exact ⟨rfl, (hc rfl (hc rfl (hc (show ((.bool false) : Value) = (.bool (((a0 != 2) && (!(Ml.hits ⟨a0, a5, a2, a7, a3, a4, a1, a6⟩))) && (!decide (a2 = ByteArray.empty)))) from (by first | rfl | ((try rw [b7]); all_goals first | rfl | (simp only [Bool.true_or, Bool.or_true, Bool.false_or, Bool.or_false, Bool.true_and, Bool.and_true, Bool.false_and, Bool.and_false, Bool.not_true, Bool.not_false, Bool.cond_true, Bool.cond_false]; done)) | simp [b7])) hn)))⟩
          ·rintro ρ _ ⟨rfl, hH⟩
           refine xh _ hH ?_
           refine xc (b := (((a0 != 2) && (!(Ml.hits ⟨a0, a5, a2, a7, a3, a4, a1, a6⟩))) && (!decide (a2 = ByteArray.empty)))) rfl (fun c2 => ?_) (fun c2 => ?_)
           ·refine xi (qn ?_)
            exact ⟨⟨c3, trivial⟩, (hc (show ((.bool (((a0 != 2) && (!(Ml.hits ⟨a0, a5, a2, a7, a3, a4, a1, a6⟩))) && (!decide (a2 = ByteArray.empty)))) : Value) = (.bool (((decide (a0 < 1)) || (decide (a0 > 5))) || (((decide (a1 < 0)) || ((decide (Ml.Mv.to ⟨a0, a5, a2, a7, a3, a4, a1, a6⟩ ≥ 0)) && (decide (a6 < a1)))) || ((a3 && (!(Ml.hits ⟨a0, a5, a2, a7, a3, a4, a1, a6⟩))) || ((((a0 != 2) && (!(Ml.hits ⟨a0, a5, a2, a7, a3, a4, a1, a6⟩))) && (!decide (a2 = ByteArray.empty))) || (((a0 == 4) || (a0 == 5)) && (!decide (a5 = ByteArray.empty)))))))) from (by first | rfl | ((try rw [b6]); (try rw [b9]); (try rw [c1]); (try rw [c2]); all_goals first | rfl | (simp only [Bool.true_or, Bool.or_true, Bool.false_or, Bool.or_false, Bool.true_and, Bool.and_true, Bool.false_and, Bool.and_false, Bool.not_true, Bool.not_false, Bool.cond_true, Bool.cond_false]; done)) | simp [b6, b9, c1, c2])) hn)⟩
           ·refine xr ?_
            refine lv rfl rfl (vm rfl) (lv rfl rfl (vm rfl) ?_)
            rcases bool_or (((a0 == 4) || (a0 == 5))) with b5 | b5
            ·refine ly (wanted_y rfl rfl rfl b5) rfl (HStep.of_val (v := (ptr m 1)) (vf TyShC.fld30_1 (b := m) (o := 0) rfl) ?_)
             refine ly (wanted_y rfl rfl rfl b5) rfl (HStep.of_val (v := (.string a5)) (vl TyShC.agg9 rfl (rc d0 rfl)) ?_)
             refine ly (wanted_y rfl rfl rfl b5) rfl (HStep.of_val (v := (.bool (!decide (a5 = ByteArray.empty)))) (hv_str rfl rfl rfl) ?_)
             refine lv rfl rfl (v := (.bool (!decide (a5 = ByteArray.empty)))) (hv_pick_t rfl b5 rfl) (lv rfl rfl (va rfl) ?_)
             refine ln (qn ?_)
             exact ⟨⟨c3, trivial⟩, (hc (show ((.bool (!decide (a5 = ByteArray.empty))) : Value) = (.bool (((decide (a0 < 1)) || (decide (a0 > 5))) || (((decide (a1 < 0)) || ((decide (Ml.Mv.to ⟨a0, a5, a2, a7, a3, a4, a1, a6⟩ ≥ 0)) && (decide (a6 < a1)))) || ((a3 && (!(Ml.hits ⟨a0, a5, a2, a7, a3, a4, a1, a6⟩))) || ((((a0 != 2) && (!(Ml.hits ⟨a0, a5, a2, a7, a3, a4, a1, a6⟩))) && (!decide (a2 = ByteArray.empty))) || (((a0 == 4) || (a0 == 5)) && (!decide (a5 = ByteArray.empty)))))))) from (by first | rfl | ((try rw [b6]); (try rw [b9]); (try rw [c1]); (try rw [c2]); (try rw [b5]); all_goals first | rfl | (simp only [Bool.true_or, Bool.or_true, Bool.false_or, Bool.or_false, Bool.true_and, Bool.and_true, Bool.false_and, Bool.and_false, Bool.not_true, Bool.not_false, Bool.cond_true, Bool.cond_false]; done)) | simp [b6, b9, c1, c2, b5])) hn)⟩
            ·refine lo (wanted_n rfl rfl rfl b5) rfl ?_
             refine lo (wanted_n rfl rfl rfl b5) rfl ?_
             refine lo (wanted_n rfl rfl rfl b5) rfl ?_
             refine lv rfl rfl (v := (.bool false)) (hv_pick_f rfl b5 rfl) (lv rfl rfl (va rfl) ?_)
             refine ln (qn ?_)
             exact ⟨⟨c3, trivial⟩, (hc (show ((.bool false) : Value) = (.bool (((decide (a0 < 1)) || (decide (a0 > 5))) || (((decide (a1 < 0)) || ((decide (Ml.Mv.to ⟨a0, a5, a2, a7, a3, a4, a1, a6⟩ ≥ 0)) && (decide (a6 < a1)))) || ((a3 && (!(Ml.hits ⟨a0, a5, a2, a7, a3, a4, a1, a6⟩))) || ((((a0 != 2) && (!(Ml.hits ⟨a0, a5, a2, a7, a3, a4, a1, a6⟩))) && (!decide (a2 = ByteArray.empty))) || (((a0 == 4) || (a0 == 5)) && (!decide (a5 = ByteArray.empty)))))))) from (by first | rfl | ((try rw [b6]); (try rw [b9]); (try rw [c1]); (try rw [c2]); (try rw [b5]); all_goals first | rfl | (simp only [Bool.true_or, Bool.or_true, Bool.false_or, Bool.or_false, Bool.true_and, Bool.and_true, Bool.false_and, Bool.and_false, Bool.not_true, Bool.not_false, Bool.cond_true, Bool.cond_false]; done)) | simp [b6, b9, c1, c2, b5])) hn)⟩
   ·rintro ρ h4 ⟨⟨c7, -⟩, hH⟩
    refine xh _ hH ?_
    refine xc (b := (((decide (a0 < 1)) || (decide (a0 > 5))) || (((decide (a1 < 0)) || ((decide (Ml.Mv.to ⟨a0, a5, a2, a7, a3, a4, a1, a6⟩ ≥ 0)) && (decide (a6 < a1)))) || ((a3 && (!(Ml.hits ⟨a0, a5, a2, a7, a3, a4, a1, a6⟩))) || ((((a0 != 2) && (!(Ml.hits ⟨a0, a5, a2, a7, a3, a4, a1, a6⟩))) && (!decide (a2 = ByteArray.empty))) || (((a0 == 4) || (a0 == 5)) && (!decide (a5 = ByteArray.empty)))))))) rfl (fun c4 => ?_) (fun c4 => ?_)
    ·replace H := H.1 c4
     refine xs (xr ?_)
     refine lv rfl rfl (va rfl) ?_
     refine ln (qn (xt (br (qr ?_))))
     replace H := H h4 c7
     exact endQ_ret _ (res_one Tryd.results18 (rv_tmp rfl)) H
    ·replace H := H.2 c4
     refine xi (bn (qn (xs (xr ?_))))
     refine lv rfl rfl (va rfl) ?_
     refine ln (qn (xt ?_))
     replace H := H h4 c7
     exact endQ_ret _ (res_one Tryd.results18 (rv_tmp rfl)) H
theorem f48_sh (a2 : Bool) (a1 : ByteArray) (a6 : Int) (a8 : ByteArray) (a0 : ByteArray) (a9 : Int) (a7 : Bool) (a5 : Int) (a4 : Int) (b1 : Int) (h : Heap) (R : Value → Heap → Prop)
  (H : ((((Ml.hits ⟨a6, a8, a0, a9, a7, a5, a4, b1⟩) && ((!a2) || (!decide (a1 = a0)))) = true → (∀ (h3 : Heap), Ext h h3 → R (.slice none 0 0) h3)) ∧ (((Ml.hits ⟨a6, a8, a0, a9, a7, a5, a4, b1⟩) && ((!a2) || (!decide (a1 = a0)))) = false → (∀ (h3 : Heap), Ext h h3 → (∀ nb h5, nb = Array.size h3 → h5 = Array.push h3 (.cells #[(.bool a2), (.string a1)] 62) → R (.slice (some ⟨nb, 0, none⟩) 1 1) h5))))) :
  HC Tryd.prog 48 #[(.agg #[(.bool a2), (.string a1)]), (.agg #[(.int .i64 a6), (.string a8), (.string a0), (.int .i64 a9), (.bool a7), (.int .i64 a5), (.int .i64 a4), (.int .i64 b1)])] h R := by
 refine hc_of (args := [(.agg #[(.bool a2), (.string a1)]), (.agg #[(.int .i64 a6), (.string a8), (.string a0), (.int .i64 a9), (.bool a7), (.int .i64 a5), (.int .i64 a4), (.int .i64 b1)])]) Tryd.func48 rfl Tryd.ntmps48 (Nat.le_of_ble_eq_true rfl) ?_
 refine xs (xr ?_)
 refine lp rfl rfl (hn_box (v := (.agg #[(.bool a2), (.string a1)])) rfl ?_)
 intro b4 h1 c4 c5
 have c6 := ext_pushed_f39_sh c5
 have d2 : Array.size h ≤ b4 := Nat.le_of_eq (Eq.symm c4)
 have b3 : h1[b4]? = some (.cells #[(.bool a2), (.string a1)] 62 (0, 0)) := by rw [c5]; exact push_new c4
 refine lp rfl rfl (hn_box (v := (.agg #[(.int .i64 a6), (.string a8), (.string a0), (.int .i64 a9), (.bool a7), (.int .i64 a5), (.int .i64 a4), (.int .i64 b1)])) rfl ?_)
 intro m h2 c0 c2
 have c3 := ext_pushed_f39_sh c2
 have d1 := Nat.ne_of_lt (Nat.lt_of_lt_of_eq (row_lt b3) (Eq.symm c0))
 have d0 : Array.size h ≤ m := Nat.le_trans (Ext.size c6) (Nat.le_of_eq (Eq.symm c0))
 have b2 : h2[m]? = some (.cells #[(.int .i64 a6), (.string a8), (.string a0), (.int .i64 a9), (.bool a7), (.int .i64 a5), (.int .i64 a4), (.int .i64 b1)] 30 (0, 0)) := by rw [c2]; exact push_new c0
 replace b3 := Ext.row c3 b3
 have c7 := Ext.trans c6 c3
 refine lv rfl rfl (va rfl) ?_
 refine ln (qn (xs ?_))
 refine xk (fun ρ h' => (Ext h h' ∧ h'[b4]? = some (.cells #[(.bool a2), (.string a1)] 62 (0, 0)) ∧ True) ∧ Has ρ [(2, (ptr b4 0)), (18, (.bool ((Ml.hits ⟨a6, a8, a0, a9, a7, a5, a4, b1⟩) && ((!a2) || (!decide (a1 = a0))))))]) ?_ ?_
 ·refine xr ?_
  refine lv rfl rfl (vL (vs := [(.int .i64 a6), (.string a8), (.string a0), (.int .i64 a9), (.bool a7), (.int .i64 a5), (.int .i64 a4), (.int .i64 b1)]) TyShC.agg30 TyShC.sz30 rfl (cc (rc b2 rfl) (cc (rc b2 rfl) (cc (rc b2 rfl) (cc (rc b2 rfl) (cc (rc b2 rfl) (cc (rc b2 rfl) (cc (rc b2 rfl) (cc (rc b2 rfl) cn))))))))) ?_
  refine lp rfl rfl (sc TyShC.cb35 rfl (HC.mono (hits_c (⟨a6, a8, a0, a9, a7, a5, a4, b1⟩) _) ?_))
  rintro _ h4 ⟨rfl, b6⟩
  replace b3 := Ext.row b6 b3
  replace b2 := Ext.row b6 b2
  have b5 := Ext.trans c7 b6
  refine lv rfl rfl (vm rfl) ?_
  rcases bool_or (Ml.hits ⟨a6, a8, a0, a9, a7, a5, a4, b1⟩) with a3 | a3
  ·refine ly (wanted_y rfl rfl rfl a3) rfl (HStep.of_val (v := (ptr b4 0)) (vf TyShC.fld62_0 (b := b4) (o := 0) rfl) ?_)
   refine ly (wanted_y rfl rfl rfl a3) rfl (HStep.of_val (v := (.bool a2)) (vl TyShC.agg4 rfl (rc b3 rfl)) ?_)
   refine ly (wanted_y rfl rfl rfl a3) rfl (HStep.of_val (v := (.bool (!a2))) (hv_not (b := a2) rfl) ?_)
   refine ly (wanted_y rfl rfl rfl a3) rfl (HStep.of_val (v := (.bool (!a2))) (vm rfl) ?_)
   rcases bool_or (!a2) with b0 | b0
   ·refine lo (wanted_n rfl rfl rfl b0) rfl ?_
    refine lo (wanted_n rfl rfl rfl b0) rfl ?_
    refine lo (wanted_n rfl rfl rfl b0) rfl ?_
    refine lo (wanted_n rfl rfl rfl b0) rfl ?_
    refine lo (wanted_n rfl rfl rfl b0) rfl ?_
    refine ly (wanted_y rfl rfl rfl a3) rfl (HStep.of_val (v := (.bool true)) (hv_pick_t rfl b0 rfl) ?_)
    refine lv rfl rfl (v := (.bool true)) (hv_pick_t rfl a3 rfl) ?_
    refine ln (qn ?_)
    exact ⟨⟨b5, (row_congr b3 (by first | rfl | ((try rw [a3]); (try rw [b0]); all_goals first | rfl | (simp only [Bool.true_or, Bool.or_true, Bool.false_or, Bool.or_false, Bool.true_and, Bool.and_true, Bool.false_and, Bool.and_false, Bool.not_true, Bool.not_false, Bool.cond_true, Bool.cond_false]; done)) | simp [a3, b0])), trivial⟩, (hc rfl (hc (show ((.bool true) : Value) = (.bool ((Ml.hits ⟨a6, a8, a0, a9, a7, a5, a4, b1⟩) && ((!a2) || (!decide (a1 = a0))))) from (by first | rfl | ((try rw [a3]); (try rw [b0]); all_goals first | rfl | (simp only [Bool.true_or, Bool.or_true, Bool.false_or, Bool.or_false, Bool.true_and, Bool.and_true, Bool.false_and, Bool.and_false, Bool.not_true, Bool.not_false, Bool.cond_true, Bool.cond_false]; done)) | simp [a3, b0])) hn))⟩
   ·refine ly (wanted_y rfl rfl rfl b0) rfl (HStep.of_val (v := (ptr b4 1)) (vf TyShC.fld62_1 (b := b4) (o := 0) rfl) ?_)
    refine ly (wanted_y rfl rfl rfl b0) rfl (HStep.of_val (v := (.string a1)) (vl TyShC.agg9 rfl (rc b3 rfl)) ?_)
    refine ly (wanted_y rfl rfl rfl b0) rfl (HStep.of_val (v := (ptr m 2)) (vf TyShC.fld30_2 (b := m) (o := 0) rfl) ?_)
    refine ly (wanted_y rfl rfl rfl b0) rfl (HStep.of_val (v := (.string a0)) (vl TyShC.agg9 rfl (rc b2 rfl)) ?_)
    refine ly (wanted_y rfl rfl rfl b0) rfl (HStep.of_val (v := (.bool (!decide (a1 = a0)))) (hv_str rfl rfl rfl) ?_)
    refine ly (wanted_y rfl rfl rfl a3) rfl (HStep.of_val (v := (.bool (!decide (a1 = a0)))) (hv_pick_f rfl b0 rfl) ?_)
    refine lv rfl rfl (v := (.bool (!decide (a1 = a0)))) (hv_pick_t rfl a3 rfl) ?_
    refine ln (qn ?_)
    exact ⟨⟨b5, (row_congr b3 (by first | rfl | ((try rw [a3]); (try rw [b0]); all_goals first | rfl | (simp only [Bool.true_or, Bool.or_true, Bool.false_or, Bool.or_false, Bool.true_and, Bool.and_true, Bool.false_and, Bool.and_false, Bool.not_true, Bool.not_false, Bool.cond_true, Bool.cond_false]; done)) | simp [a3, b0])), trivial⟩, (hc rfl (hc (show ((.bool (!decide (a1 = a0))) : Value) = (.bool ((Ml.hits ⟨a6, a8, a0, a9, a7, a5, a4, b1⟩) && ((!a2) || (!decide (a1 = a0))))) from (by first | rfl | ((try rw [a3]); (try rw [b0]); all_goals first | rfl | (simp only [Bool.true_or, Bool.or_true, Bool.false_or, Bool.or_false, Bool.true_and, Bool.and_true, Bool.false_and, Bool.and_false, Bool.not_true, Bool.not_false, Bool.cond_true, Bool.cond_false]; done)) | simp [a3, b0])) hn))⟩
  ·refine lo (wanted_n rfl rfl rfl a3) rfl ?_
   refine lo (wanted_n rfl rfl rfl a3) rfl ?_
   refine lo (wanted_n rfl rfl rfl a3) rfl ?_
   refine lo (wanted_n rfl rfl rfl a3) rfl ?_
   refine lo (wanted_u rfl rfl rfl) rfl ?_
   refine lo (wanted_u rfl rfl rfl) rfl ?_
   refine lo (wanted_u rfl rfl rfl) rfl ?_
   refine lo (wanted_u rfl rfl rfl) rfl ?_
   refine lo (wanted_u rfl rfl rfl) rfl ?_
   refine lo (wanted_n rfl rfl rfl a3) rfl ?_
   refine lv rfl rfl (v := (.bool false)) (hv_pick_f rfl a3 rfl) ?_
   refine ln (qn ?_)
   exact ⟨⟨b5, (row_congr b3 (by first | rfl | ((try rw [a3]); all_goals first | rfl | (simp only [Bool.true_or, Bool.or_true, Bool.false_or, Bool.or_false, Bool.true_and, Bool.and_true, Bool.false_and, Bool.and_false, Bool.not_true, Bool.not_false, Bool.cond_true, Bool.cond_false]; done)) | simp [a3])), trivial⟩, (hc rfl (hc (show ((.bool false) : Value) = (.bool ((Ml.hits ⟨a6, a8, a0, a9, a7, a5, a4, b1⟩) && ((!a2) || (!decide (a1 = a0))))) from (by first | rfl | ((try rw [a3]); all_goals first | rfl | (simp only [Bool.true_or, Bool.or_true, Bool.false_or, Bool.or_false, Bool.true_and, Bool.and_true, Bool.false_and, Bool.and_false, Bool.not_true, Bool.not_false, Bool.cond_true, Bool.cond_false]; done)) | simp [a3])) hn))⟩
 ·rintro ρ h3 ⟨⟨c1, b9, -⟩, hH⟩
  refine xh _ hH ?_
  refine xc (b := ((Ml.hits ⟨a6, a8, a0, a9, a7, a5, a4, b1⟩) && ((!a2) || (!decide (a1 = a0))))) rfl (fun b7 => ?_) (fun b7 => ?_)
  ·replace H := H.1 b7
   refine xs (xr ?_)
   refine lv rfl rfl (va rfl) ?_
   refine ln (qn (xt (qr ?_)))
   replace H := H h3 c1
   exact endQ_ret _ (res_one Tryd.results48 (rv_tmp rfl)) H
  ·replace H := H.2 b7
   refine xi (qn (xs (xr ?_)))
   refine lv rfl rfl (vL (vs := [(.bool a2), (.string a1)]) TyShC.agg62 TyShC.sz62 rfl (cc (rc b9 rfl) (cc (rc b9 rfl) cn))) ?_
   replace H := H h3 c1
   refine lp rfl rfl (hn_buildSlice (n := 1) (vs := [(0, (.agg #[(.bool a2), (.string a1)]))]) (cs := #[(.bool a2), (.string a1)]) TyShC.u43 TyShC.sz62 TyShC.z62 rfl rfl (by kernel_rfl) ?_)
   intro nb h5 c8 b8
   replace H := H nb h5 c8 b8
   have c9 := ext_pushed_f39_sh b8
   refine lv rfl rfl (va rfl) ?_
   refine ln (qn (xt ?_))
   exact endQ_ret _ (res_one Tryd.results48 (rv_tmp rfl)) H
theorem f49_sh (a8 : Bool) (a4 : ByteArray) (a3 : Int) (a6 : ByteArray) (a0 : ByteArray) (a7 : Int) (a5 : Bool) (a2 : Int) (a1 : Int) (a9 : Int) (h : Heap) (R : Value → Heap → Prop)
  (H : ((((Ml.fate ⟨a3, a6, a0, a7, a5, a2, a1, a9⟩ : Int) == 1) = true → (∀ (b3 : Nat) (b4 : Nat) (h5 : Heap), Array.size h ≤ b3 → b3 < Array.size h5 → Array.size h ≤ b4 → b4 < Array.size h5 → Ext h h5 → (∀ nb h6, nb = Array.size h5 → h6 = Array.push h5 (.cells #[(.bool true), (.string a0)] 62) → R (.slice (some ⟨nb, 0, none⟩) 1 1) h6))) ∧ (((Ml.fate ⟨a3, a6, a0, a7, a5, a2, a1, a9⟩ : Int) == 1) = false → ((((Ml.fate ⟨a3, a6, a0, a7, a5, a2, a1, a9⟩ : Int) == 2) = true → (∀ (b3 : Nat) (b4 : Nat) (h5 : Heap), Array.size h ≤ b3 → b3 < Array.size h5 → Array.size h ≤ b4 → b4 < Array.size h5 → Ext h h5 → HC Tryd.prog 20 #[] h5 (fun vv h7 => Kp [b3, b4] h5 h7 ∧ ∃ r : Option Addr, ∃ c6 c7 : Nat, vv = (.slice r c6 c7) ∧ R (.slice r c6 c7) h7))) ∧ (((Ml.fate ⟨a3, a6, a0, a7, a5, a2, a1, a9⟩ : Int) == 2) = false → ((((Ml.fate ⟨a3, a6, a0, a7, a5, a2, a1, a9⟩ : Int) == 3) = true → (∀ (b3 : Nat) (h8 : Heap), Array.size h ≤ b3 → b3 < Array.size h8 → Ext h h8 → (∀ nb h9, nb = Array.size h8 → h9 = Array.push h8 (.cells #[(.bool true), (.string a0), (.bool false), (.string ByteArray.empty), (.bool a8), (.string a4)] 62) → R (.slice (some ⟨nb, 0, none⟩) 3 3) h9))) ∧ (((Ml.fate ⟨a3, a6, a0, a7, a5, a2, a1, a9⟩ : Int) == 3) = false → (∀ (h5 : Heap), Ext h h5 → (∀ nb c0, nb = Array.size h5 → c0 = Array.push h5 (.cells #[(.bool a8), (.string a4)] 62) → R (.slice (some ⟨nb, 0, none⟩) 1 1) c0))))))))) :
  HC Tryd.prog 49 #[(.agg #[(.bool a8), (.string a4)]), (.agg #[(.int .i64 a3), (.string a6), (.string a0), (.int .i64 a7), (.bool a5), (.int .i64 a2), (.int .i64 a1), (.int .i64 a9)])] h R := by
 refine hc_of (args := [(.agg #[(.bool a8), (.string a4)]), (.agg #[(.int .i64 a3), (.string a6), (.string a0), (.int .i64 a7), (.bool a5), (.int .i64 a2), (.int .i64 a1), (.int .i64 a9)])]) Tryd.func49 rfl Tryd.ntmps49 (Nat.le_of_ble_eq_true rfl) ?_
 refine xs (xr ?_)
 refine lp rfl rfl (hn_box (v := (.agg #[(.bool a8), (.string a4)])) rfl ?_)
 intro b3 h1 e1 e2
 have e3 := ext_pushed_f39_sh e2
 have d6 : Array.size h ≤ b3 := Nat.le_of_eq (Eq.symm e1)
 have b0 : h1[b3]? = some (.cells #[(.bool a8), (.string a4)] 62 (0, 0)) := by rw [e2]; exact push_new e1
 refine lp rfl rfl (hn_box (v := (.agg #[(.int .i64 a3), (.string a6), (.string a0), (.int .i64 a7), (.bool a5), (.int .i64 a2), (.int .i64 a1), (.int .i64 a9)])) rfl ?_)
 intro m h2 d3 d9
 have e0 := ext_pushed_f39_sh d9
 have f4 := Nat.ne_of_lt (Nat.lt_of_lt_of_eq (row_lt b0) (Eq.symm d3))
 have f2 : Array.size h ≤ m := Nat.le_trans (Ext.size e3) (Nat.le_of_eq (Eq.symm d3))
 have b2 : h2[m]? = some (.cells #[(.int .i64 a3), (.string a6), (.string a0), (.int .i64 a7), (.bool a5), (.int .i64 a2), (.int .i64 a1), (.int .i64 a9)] 30 (0, 0)) := by rw [d9]; exact push_new d3
 replace b0 := Ext.row e0 b0
 have d1 := Ext.trans e3 e0
 refine lv rfl rfl (va rfl) ?_
 refine ln (qn (xs (xr ?_)))
 refine lv rfl rfl (v := (ptr m 2)) (vf TyShC.fld30_2 (b := m) (o := 0) rfl) (lv rfl rfl (vl TyShC.agg9 rfl (rc b2 rfl)) (lv rfl rfl (v := (.agg #[(.bool true), (.string a0)])) (vb (vs := [(0, (.bool true)), (1, (.string a0))]) (cs := #[(.bool true), (.string a0)]) TyShC.z62 TyShC.pl62 rfl (by kernel_rfl)) ?_))
 refine lp rfl rfl (hn_alloc TyShC.z62 ?_)
 intro b4 h3 b8 d8
 have c4 := ext_pushed_f39_sh d8
 have e4 := Nat.ne_of_lt (Nat.lt_of_lt_of_eq (row_lt b0) (Eq.symm b8))
 have e9 := Nat.ne_of_lt (Nat.lt_of_lt_of_eq (row_lt b2) (Eq.symm b8))
 have c1 : Array.size h ≤ b4 := Nat.le_trans (Ext.size d1) (Nat.le_of_eq (Eq.symm b8))
 have d2 : h3[b4]? = some (.cells #[(.bool false), (.string ByteArray.empty)] 62 (0, 0)) := by rw [d8]; exact push_new b8
 replace b0 := Ext.row c4 b0
 replace b2 := Ext.row c4 b2
 have e6 := Ext.trans d1 c4
 refine lp rfl rfl (hn_stores (vs := [(.bool true), (.string a0)]) rfl rfl TyShC.sz62 rfl (HWs_row d2 (by simp)) ?_)
 intro h4 b9
 replace b0 := row_hsets_ne b9 e4 b0
 replace b2 := row_hsets_ne b9 e9 b2
 have b1 : h4[b4]? = some (.cells #[(.bool true), (.string a0)] 62 (0, 0)) := row_hsets_eq b9 d2 rfl
 have e5 := ext_hsets b9 e6 c1
 refine ln (qn (xs (xs (xr ?_))))
 refine lv rfl rfl (vL (vs := [(.int .i64 a3), (.string a6), (.string a0), (.int .i64 a7), (.bool a5), (.int .i64 a2), (.int .i64 a1), (.int .i64 a9)]) TyShC.agg30 TyShC.sz30 rfl (cc (rc b2 rfl) (cc (rc b2 rfl) (cc (rc b2 rfl) (cc (rc b2 rfl) (cc (rc b2 rfl) (cc (rc b2 rfl) (cc (rc b2 rfl) (cc (rc b2 rfl) cn))))))))) ?_
 refine lp rfl rfl (sc TyShC.cb57 rfl (HC.mono (fate_c (⟨a3, a6, a0, a7, a5, a2, a1, a9⟩) _) ?_))
 rintro _ h5 ⟨rfl, b6⟩
 replace b0 := Ext.row b6 b0
 replace b2 := Ext.row b6 b2
 replace b1 := Ext.row b6 b1
 have b7 := Ext.trans e5 b6
 refine ln (qn (xb (xs (xr ?_))))
 refine lv rfl rfl (vr rfl rfl rfl) (lv rfl rfl (va rfl) ?_)
 refine ln (qn ?_)
 refine xc (b := (Ml.fate ⟨a3, a6, a0, a7, a5, a2, a1, a9⟩ : Int) == 1) rfl (fun c2 => ?_) (fun c2 => ?_)
 ·replace H := H.1 c2
  refine xs (xr ?_)
  refine lv rfl rfl (vL (vs := [(.bool true), (.string a0)]) TyShC.agg62 TyShC.sz62 rfl (cc (rc b1 rfl) (cc (rc b1 rfl) cn))) ?_
  replace H := H b3 b4 h5 d6 (row_lt b0) c1 (row_lt b1) b7
  refine lp rfl rfl (hn_buildSlice (n := 1) (vs := [(0, (.agg #[(.bool true), (.string a0)]))]) (cs := #[(.bool true), (.string a0)]) TyShC.u43 TyShC.sz62 TyShC.z62 rfl rfl (by kernel_rfl) ?_)
  intro nb h6 f0 d7
  replace H := H nb h6 f0 d7
  have d0 := ext_pushed_f39_sh d7
  replace b0 := Ext.row d0 b0
  replace b1 := Ext.row d0 b1
  refine lv rfl rfl (va rfl) ?_
  refine ln (qn (xt (br (qr ?_))))
  exact endQ_ret _ (res_one Tryd.results49 (rv_tmp rfl)) H
 ·replace H := H.2 c2
  refine xs (xr ?_)
  refine lv rfl rfl (vr rfl rfl rfl) (lv rfl rfl (va rfl) ?_)
  refine ln (qn ?_)
  refine xc (b := (Ml.fate ⟨a3, a6, a0, a7, a5, a2, a1, a9⟩ : Int) == 2) rfl (fun c5 => ?_) (fun c5 => ?_)
  ·replace H := H.1 c5
   refine xs (xr ?_)
   replace H := H b3 b4 h5 d6 (row_lt b0) c1 (row_lt b1) b7
   refine lp rfl rfl (sc TyShC.cb20 rfl (HC.mono H ?_))
   rintro _ h7 ⟨d5, r, c6, c7, rfl, H⟩
   replace b0 := Kp.row d5 (by simp) b0
   replace b1 := Kp.row d5 (by simp) b1
   refine lv rfl rfl (va rfl) ?_
   refine ln (qn (xt (br (qr ?_))))
   exact endQ_ret _ (res_one Tryd.results49 (rv_tmp rfl)) H
  ·replace H := H.2 c5
   refine xs (xr ?_)
   refine lv rfl rfl (vr rfl rfl rfl) (lv rfl rfl (va rfl) ?_)
   refine ln (qn ?_)
   refine xc (b := (Ml.fate ⟨a3, a6, a0, a7, a5, a2, a1, a9⟩ : Int) == 3) rfl (fun c3 => ?_) (fun c3 => ?_)
   ·replace H := H.1 c3
    refine xs ?_
    refine hx_draw TyShC.mixed [.read, .ext, .read, .ext, .pure] [0, 2, 1, 3, 4] (by kernel_rfl) ?_
    refine pr (i := 0) rfl (wanted_0 rfl) rfl (.agg #[(.bool true), (.string a0)]) (fun _ he => vL (vs := [(.bool true), (.string a0)]) TyShC.agg62 TyShC.sz62 rfl (cc (Ext.cell he (rc b1 rfl)) (cc (Ext.cell he (rc b1 rfl)) cn))) ?_
    refine pr (i := 2) rfl (wanted_0 rfl) rfl (.agg #[(.bool a8), (.string a4)]) (fun _ he => vL (vs := [(.bool a8), (.string a4)]) TyShC.agg62 TyShC.sz62 rfl (cc (Ext.cell he (rc b0 rfl)) (cc (Ext.cell he (rc b0 rfl)) cn))) ?_
    refine hp_ext (i := 1) rfl (wanted_0 rfl) rfl (sc TyShC.cb37 rfl (HC.mono (none_c  _) ?_))
    rintro _ h8 ⟨rfl, b5⟩
    refine ⟨b5, ?_⟩
    replace b0 := Ext.row b5 b0
    replace b2 := Ext.row b5 b2
    replace b1 := Ext.row b5 b1
    have e7 := Ext.trans b7 b5
    replace H := H b3 h8 d6 (row_lt b0) e7
    refine hp_ext (i := 3) rfl (wanted_0 rfl) rfl (hn_buildSlice (n := 3) (vs := [(0, (.agg #[(.bool true), (.string a0)])), (1, (.agg #[(.bool false), (.string ByteArray.empty)])), (2, (.agg #[(.bool a8), (.string a4)]))]) (cs := #[(.bool true), (.string a0), (.bool false), (.string ByteArray.empty), (.bool a8), (.string a4)]) TyShC.u43 TyShC.sz62 TyShC.z62 rfl rfl (by kernel_rfl) ?_)
    intro nb h9 e8 c9
    replace H := H nb h9 e8 c9
    have d4 := ext_pushed_f39_sh c9
    replace b0 := Ext.row d4 b0
    refine ⟨d4, ?_⟩
    refine pp (i := 4) rfl (wanted_0 rfl) rfl (.slice (some ⟨nb, 0, none⟩) 3 3) (fun _ => va rfl) ?_
    refine hp_nil ?_
    refine qn (xt (br (qr ?_)))
    exact endQ_ret _ (res_one Tryd.results49 (rv_tmp rfl)) H
   ·replace H := H.2 c3
    refine xi (bn (qn (xs (xr ?_))))
    refine lv rfl rfl (vL (vs := [(.bool a8), (.string a4)]) TyShC.agg62 TyShC.sz62 rfl (cc (rc b0 rfl) (cc (rc b0 rfl) cn))) ?_
    replace H := H h5 b7
    refine lp rfl rfl (hn_buildSlice (n := 1) (vs := [(0, (.agg #[(.bool a8), (.string a4)]))]) (cs := #[(.bool a8), (.string a4)]) TyShC.u43 TyShC.sz62 TyShC.z62 rfl rfl (by kernel_rfl) ?_)
    intro nb c0 f1 c8
    replace H := H nb c0 f1 c8
    have f3 := ext_pushed_f39_sh c8
    refine lv rfl rfl (va rfl) ?_
    refine ln (qn (xt ?_))
    exact endQ_ret _ (res_one Tryd.results49 (rv_tmp rfl)) H
theorem f50_sh (a5 : Bool) (a0 : ByteArray) (a4 : Int) (a7 : ByteArray) (a1 : ByteArray) (a8 : Int) (a6 : Bool) (a3 : Int) (a2 : Int) (a9 : Int) (h : Heap) (R : Value → Heap → Prop)
  (H : ((((Ml.fate ⟨a4, a7, a1, a8, a6, a3, a2, a9⟩ : Int) == 1) = true → (∀ (b2 : Nat) (h3 : Heap), Array.size h ≤ b2 → b2 < Array.size h3 → Ext h h3 → HC Tryd.prog 20 #[] h3 (fun vv h4 => Kp [b2] h3 h4 ∧ ∃ r : Option Addr, ∃ b9 b8 : Nat, vv = (.slice r b9 b8) ∧ R (.slice r b9 b8) h4))) ∧ (((Ml.fate ⟨a4, a7, a1, a8, a6, a3, a2, a9⟩ : Int) == 1) = false → ((((Ml.fate ⟨a4, a7, a1, a8, a6, a3, a2, a9⟩ : Int) == 3) = true → (∀ (b2 : Nat) (h5 : Heap), Array.size h ≤ b2 → b2 < Array.size h5 → Ext h h5 → (∀ nb h6, nb = Array.size h5 → h6 = Array.push h5 (.cells #[(.bool false), (.string ByteArray.empty), (.bool a5), (.string a0)] 62) → R (.slice (some ⟨nb, 0, none⟩) 2 2) h6))) ∧ (((Ml.fate ⟨a4, a7, a1, a8, a6, a3, a2, a9⟩ : Int) == 3) = false → (∀ (h3 : Heap), Ext h h3 → (∀ nb h7, nb = Array.size h3 → h7 = Array.push h3 (.cells #[(.bool a5), (.string a0)] 62) → R (.slice (some ⟨nb, 0, none⟩) 1 1) h7))))))) :
  HC Tryd.prog 50 #[(.agg #[(.bool a5), (.string a0)]), (.agg #[(.int .i64 a4), (.string a7), (.string a1), (.int .i64 a8), (.bool a6), (.int .i64 a3), (.int .i64 a2), (.int .i64 a9)])] h R := by
 refine hc_of (args := [(.agg #[(.bool a5), (.string a0)]), (.agg #[(.int .i64 a4), (.string a7), (.string a1), (.int .i64 a8), (.bool a6), (.int .i64 a3), (.int .i64 a2), (.int .i64 a9)])]) Tryd.func50 rfl Tryd.ntmps50 (Nat.le_of_ble_eq_true rfl) ?_
 refine xs (xr ?_)
 refine lp rfl rfl (hn_box (v := (.agg #[(.bool a5), (.string a0)])) rfl ?_)
 intro b2 h1 c7 c8
 have c9 := ext_pushed_f39_sh c8
 have c5 : Array.size h ≤ b2 := Nat.le_of_eq (Eq.symm c7)
 have b0 : h1[b2]? = some (.cells #[(.bool a5), (.string a0)] 62 (0, 0)) := by rw [c8]; exact push_new c7
 refine lp rfl rfl (hn_box (v := (.agg #[(.int .i64 a4), (.string a7), (.string a1), (.int .i64 a8), (.bool a6), (.int .i64 a3), (.int .i64 a2), (.int .i64 a9)])) rfl ?_)
 intro m h2 c2 c4
 have c6 := ext_pushed_f39_sh c4
 have d7 := Nat.ne_of_lt (Nat.lt_of_lt_of_eq (row_lt b0) (Eq.symm c2))
 have d5 : Array.size h ≤ m := Nat.le_trans (Ext.size c9) (Nat.le_of_eq (Eq.symm c2))
 have b1 : h2[m]? = some (.cells #[(.int .i64 a4), (.string a7), (.string a1), (.int .i64 a8), (.bool a6), (.int .i64 a3), (.int .i64 a2), (.int .i64 a9)] 30 (0, 0)) := by rw [c4]; exact push_new c2
 replace b0 := Ext.row c6 b0
 have d1 := Ext.trans c9 c6
 refine lv rfl rfl (va rfl) ?_
 refine ln (qn (xs (xs (xr ?_))))
 refine lv rfl rfl (vL (vs := [(.int .i64 a4), (.string a7), (.string a1), (.int .i64 a8), (.bool a6), (.int .i64 a3), (.int .i64 a2), (.int .i64 a9)]) TyShC.agg30 TyShC.sz30 rfl (cc (rc b1 rfl) (cc (rc b1 rfl) (cc (rc b1 rfl) (cc (rc b1 rfl) (cc (rc b1 rfl) (cc (rc b1 rfl) (cc (rc b1 rfl) (cc (rc b1 rfl) cn))))))))) ?_
 refine lp rfl rfl (sc TyShC.cb57 rfl (HC.mono (fate_c (⟨a4, a7, a1, a8, a6, a3, a2, a9⟩) _) ?_))
 rintro _ h3 ⟨rfl, b6⟩
 replace b0 := Ext.row b6 b0
 replace b1 := Ext.row b6 b1
 have b5 := Ext.trans d1 b6
 refine ln (qn (xb (xs (xr ?_))))
 refine lv rfl rfl (vr rfl rfl rfl) (lv rfl rfl (va rfl) ?_)
 refine ln (qn ?_)
 refine xc (b := (Ml.fate ⟨a4, a7, a1, a8, a6, a3, a2, a9⟩ : Int) == 1) rfl (fun b4 => ?_) (fun b4 => ?_)
 ·replace H := H.1 b4
  refine xs (xr ?_)
  replace H := H b2 h3 c5 (row_lt b0) b5
  refine lp rfl rfl (sc TyShC.cb20 rfl (HC.mono H ?_))
  rintro _ h4 ⟨d0, r, b9, b8, rfl, H⟩
  replace b0 := Kp.row d0 (by simp) b0
  refine lv rfl rfl (va rfl) ?_
  refine ln (qn (xt (br (qr ?_))))
  exact endQ_ret _ (res_one Tryd.results50 (rv_tmp rfl)) H
 ·replace H := H.2 b4
  refine xs (xr ?_)
  refine lv rfl rfl (vr rfl rfl rfl) (lv rfl rfl (va rfl) ?_)
  refine ln (qn ?_)
  refine xc (b := (Ml.fate ⟨a4, a7, a1, a8, a6, a3, a2, a9⟩ : Int) == 3) rfl (fun b7 => ?_) (fun b7 => ?_)
  ·replace H := H.1 b7
   refine xs ?_
   refine hx_draw TyShC.mixed [.ext, .read, .ext, .pure] [1, 0, 2, 3] (by kernel_rfl) ?_
   refine pr (i := 1) rfl (wanted_0 rfl) rfl (.agg #[(.bool a5), (.string a0)]) (fun _ he => vL (vs := [(.bool a5), (.string a0)]) TyShC.agg62 TyShC.sz62 rfl (cc (Ext.cell he (rc b0 rfl)) (cc (Ext.cell he (rc b0 rfl)) cn))) ?_
   refine hp_ext (i := 0) rfl (wanted_0 rfl) rfl (sc TyShC.cb37 rfl (HC.mono (none_c  _) ?_))
   rintro _ h5 ⟨rfl, b3⟩
   refine ⟨b3, ?_⟩
   replace b0 := Ext.row b3 b0
   replace b1 := Ext.row b3 b1
   have d3 := Ext.trans b5 b3
   replace H := H b2 h5 c5 (row_lt b0) d3
   refine hp_ext (i := 2) rfl (wanted_0 rfl) rfl (hn_buildSlice (n := 2) (vs := [(0, (.agg #[(.bool false), (.string ByteArray.empty)])), (1, (.agg #[(.bool a5), (.string a0)]))]) (cs := #[(.bool false), (.string ByteArray.empty), (.bool a5), (.string a0)]) TyShC.u43 TyShC.sz62 TyShC.z62 rfl rfl (by kernel_rfl) ?_)
   intro nb h6 d2 c0
   replace H := H nb h6 d2 c0
   have c1 := ext_pushed_f39_sh c0
   replace b0 := Ext.row c1 b0
   refine ⟨c1, ?_⟩
   refine pp (i := 3) rfl (wanted_0 rfl) rfl (.slice (some ⟨nb, 0, none⟩) 2 2) (fun _ => va rfl) ?_
   refine hp_nil ?_
   refine qn (xt (br (qr ?_)))
   exact endQ_ret _ (res_one Tryd.results50 (rv_tmp rfl)) H
  ·replace H := H.2 b7
   refine xi (bn (qn (xs (xr ?_))))
   refine lv rfl rfl (vL (vs := [(.bool a5), (.string a0)]) TyShC.agg62 TyShC.sz62 rfl (cc (rc b0 rfl) (cc (rc b0 rfl) cn))) ?_
   replace H := H h3 b5
   refine lp rfl rfl (hn_buildSlice (n := 1) (vs := [(0, (.agg #[(.bool a5), (.string a0)]))]) (cs := #[(.bool a5), (.string a0)]) TyShC.u43 TyShC.sz62 TyShC.z62 rfl rfl (by kernel_rfl) ?_)
   intro nb h7 d4 c3
   replace H := H nb h7 d4 c3
   have d6 := ext_pushed_f39_sh c3
   refine lv rfl rfl (va rfl) ?_
   refine ln (qn (xt ?_))
   exact endQ_ret _ (res_one Tryd.results50 (rv_tmp rfl)) H
theorem f20_sh  (h : Heap) (R : Value → Heap → Prop)
  (H : (∀ (h1 : Heap), Ext h h1 → (∀ nb h2, nb = Array.size h1 → h2 = Array.push h1 (.cells #[(.bool false), (.string ByteArray.empty)] 62) → R (.slice (some ⟨nb, 0, none⟩) 1 1) h2))) :
  HC Tryd.prog 20 #[] h R := by
 refine hc_of (args := []) Tryd.func20 rfl Tryd.ntmps20 (Nat.le_of_ble_eq_true rfl) ?_
 refine xs (xr ?_)
 refine lv rfl rfl (va rfl) ?_
 refine ln (qn (xs (xr ?_)))
 refine lp rfl rfl (sc TyShC.cb37 rfl (HC.mono (none_c  _) ?_))
 rintro _ h1 ⟨rfl, a1⟩
 replace H := H h1 a1
 refine lp rfl rfl (hn_buildSlice (n := 1) (vs := [(0, (.agg #[(.bool false), (.string ByteArray.empty)]))]) (cs := #[(.bool false), (.string ByteArray.empty)]) TyShC.u43 TyShC.sz62 TyShC.z62 rfl rfl (by kernel_rfl) ?_)
 intro nb h2 a2 a0
 replace H := H nb h2 a2 a0
 have a3 := ext_pushed_f39_sh a0
 refine lv rfl rfl (va rfl) ?_
 refine ln (qn (xt ?_))
 exact endQ_ret _ (res_one Tryd.results20 (rv_tmp rfl)) H
theorem f43_sh  (h : Heap) (R : Value → Heap → Prop)
  (H : (∀ nb h1, nb = Array.size h → h1 = Array.push h (.cells #[(.bool false), (.string ByteArray.empty)] 62) → R (.slice (some ⟨nb, 0, none⟩) 1 1) h1)) :
  HC Tryd.prog 43 #[] h R := by
 refine hc_of (args := []) Tryd.func43 rfl Tryd.ntmps43 (Nat.le_of_ble_eq_true rfl) ?_
 refine xs (xr ?_)
 refine lv rfl rfl (va rfl) ?_
 refine ln (qn (xs (xr ?_)))
 refine lv rfl rfl (v := (.agg #[(.bool false), (.string ByteArray.empty)])) (vb (vs := []) (cs := #[(.bool false), (.string ByteArray.empty)]) TyShC.z62 TyShC.pl62 rfl (by kernel_rfl)) ?_
 refine lp rfl rfl (hn_buildSlice (n := 1) (vs := [(0, (.agg #[(.bool false), (.string ByteArray.empty)]))]) (cs := #[(.bool false), (.string ByteArray.empty)]) TyShC.u43 TyShC.sz62 TyShC.z62 rfl rfl (by kernel_rfl) ?_)
 intro nb h1 a1 a0
 replace H := H nb h1 a1 a0
 have a2 := ext_pushed_f39_sh a0
 refine lv rfl rfl (va rfl) ?_
 refine ln (qn (xt ?_))
 exact endQ_ret _ (res_one Tryd.results43 (rv_tmp rfl)) H
theorem f38_sh  (h : Heap) (R : Value → Heap → Prop)
  (H : (∀ mb h1, mb = Array.size h → Ext h h1 → Array.size h1 = Array.size h + 1 → MapL h1 mb (Value.int .i64) [] → (∃ kv : List (Int × Value), MapL h1 mb (Value.int .i64) kv ∧ ∀ h2, Only mb h1 h2 → MapL h2 mb (Value.int .i64) (kput kv 1 (.func (.func 48) #[] #[])) → (∃ a1 : List (Int × Value), MapL h2 mb (Value.int .i64) a1 ∧ ∀ h3, Only mb h2 h3 → MapL h3 mb (Value.int .i64) (kput a1 2 (.func (.func 49) #[] #[])) → (∃ a0 : List (Int × Value), MapL h3 mb (Value.int .i64) a0 ∧ ∀ h4, Only mb h3 h4 → MapL h4 mb (Value.int .i64) (kput a0 3 (.func (.func 50) #[] #[])) → R (.map (some mb)) h4))))) :
  HC Tryd.prog 38 #[] h R := by
 refine hc_of (args := []) Tryd.func38 rfl Tryd.ntmps38 (Nat.le_of_ble_eq_true rfl) ?_
 refine xs (xr ?_)
 refine lv rfl rfl (va rfl) ?_
 refine ln (qn (xs (xr ?_)))
 refine lp rfl rfl (hn_makeMap (enc := (Value.int .i64)) ?_)
 intro mb h1 b3 b0 a6 a8
 replace H := H mb h1 b3 b0 a6 a8
 obtain ⟨kv, b2, H⟩ := H
 refine lp rfl rfl (hn_mapIns (l := kv) (a := 1) (intK .i64) TyShC.u67 TyShC.u3 rfl rfl rfl b2 ?_)
 intro h2 a7 b4
 replace H := H h2 a7 b4
 obtain ⟨a1, a9, H⟩ := H
 refine lp rfl rfl (hn_mapIns (l := a1) (a := 2) (intK .i64) TyShC.u67 TyShC.u3 rfl rfl rfl a9 ?_)
 intro h3 b1 a4
 replace H := H h3 b1 a4
 obtain ⟨a0, a3, H⟩ := H
 refine lp rfl rfl (hn_mapIns (l := a0) (a := 3) (intK .i64) TyShC.u67 TyShC.u3 rfl rfl rfl a3 ?_)
 intro h4 a2 a5
 replace H := H h4 a2 a5
 refine lv rfl rfl (vm rfl) (lv rfl rfl (va rfl) ?_)
 refine ln (qn (xt ?_))
 exact endQ_ret _ (res_one Tryd.results38 (rv_tmp rfl)) H
theorem f55_sh (l : Option Addr) (a1 : Nat) (a3 : Nat) (a0 : Bool) (a9 : ByteArray) (h : Heap) (R : Value → Heap → Prop)
  (H : (∀ mc : ByteArray, mc = (bif !a0 then ByteArray.empty else a9) → (∃ (c9 : Int → Prop) (c5 : Int → Nat), c9 0 ∧ (∀ (i : Int), c9 i → (∃ j : Bool, (((decide (i < (a1 : Int))) = true → (∃ d1 d0 : Nat, l = some ⟨d1, d0, none⟩ ∧ (0 : Int) ≤ i ∧ i < (a1 : Int) ∧ (∃ b0 : Bool, ∃ a7 : ByteArray, hcell h d1 (d0 + (Int.toNat i) * 2) = some (.bool b0) ∧ hcell h d1 ((d0 + (Int.toNat i) * 2) + 1) = some (.string a7) ∧ (j = (Ml.mlt ⟨b0, a7⟩ ⟨a0, mc⟩))))) ∧ ((decide (i < (a1 : Int))) = false → (j = false))) ∧ ((j = true → (c9 (IntKind.i64.wrap (i + 1)) ∧ c5 (IntKind.i64.wrap (i + 1)) < c5 i)) ∧ (j = false → (∃ c3 : Bool, (((decide (i < (a1 : Int))) = true → (∃ b5 b4 : Nat, l = some ⟨b5, b4, none⟩ ∧ (0 : Int) ≤ i ∧ i < (a1 : Int) ∧ (∃ a6 : Bool, ∃ a2 : ByteArray, hcell h b5 (b4 + (Int.toNat i) * 2) = some (.bool a6) ∧ hcell h b5 ((b4 + (Int.toNat i) * 2) + 1) = some (.string a2) ∧ (c3 = ((a6 == a0 && (a2 == mc && true))))))) ∧ ((decide (i < (a1 : Int))) = false → (c3 = false))) ∧ ((c3 = true → (∀ (h5 : Heap), Ext h h5 → R (.slice l a1 a3) h5)) ∧ (c3 = false → (∀ (m : Nat) (h5 : Heap), Array.size h ≤ m → m < Array.size h5 → Ext h h5 → (∀ nb h7, nb = Array.size h5 → h7 = Array.push h5 (.cells #[] 62) → (0 ≤ ((0 : Int) : Int) ∧ (0 : Int) ≤ i ∧ i ≤ (a3 : Int) ∧ ∀ sl : Option Addr, sl = slA l (Int.toNat 0) 2 a3 → HAppend Tryd.prog 43 43 (.slice (some ⟨nb, 0, none⟩) 0 0) (.slice sl (Int.toNat i - Int.toNat 0) (a3 - Int.toNat 0)) h7 (fun vv h8 => Kp [m] h7 h8 ∧ ∃ ap : Option Addr, ∃ c1 b9 : Nat, vv = (.slice ap c1 b9) ∧ (∀ c8 h9, c8 = Array.size h8 → h9 = Array.push h8 (.cells #[(.bool a0), (.string mc)] 62) → HAppend Tryd.prog 43 43 (.slice ap c1 b9) (.slice (some ⟨c8, 0, none⟩) 1 1) h9 (fun vv e4 => ∃ c0 : Option Addr, ∃ b2 b3 : Nat, vv = (.slice c0 b2 b3) ∧ (0 ≤ (i : Int) ∧ i ≤ (a1 : Int) ∧ (a1 : Int) ≤ (a3 : Int) ∧ ∀ c2 : Option Addr, c2 = slA l (Int.toNat i) 2 a3 → HAppend Tryd.prog 43 43 (.slice c0 b2 b3) (.slice c2 (Int.toNat (a1 : Int) - Int.toNat i) (a3 - Int.toNat i)) e4 (fun vv e5 => ∃ c6 : Option Addr, ∃ b7 b6 : Nat, vv = (.slice c6 b7 b6) ∧ R (.slice c6 b7 b6) e5)))))))))))))))))) :
  HC Tryd.prog 55 #[(.slice l a1 a3), (.agg #[(.bool a0), (.string a9)])] h R := by
 refine hc_of (args := [(.slice l a1 a3), (.agg #[(.bool a0), (.string a9)])]) Tryd.func55 rfl Tryd.ntmps55 (Nat.le_of_ble_eq_true rfl) ?_
 refine xs (xr ?_)
 refine lp rfl rfl (hn_box (v := (.agg #[(.bool a0), (.string a9)])) rfl ?_)
 intro m h1 e7 e8
 have e9 := ext_pushed_f39_sh e8
 have e6 : Array.size h ≤ m := Nat.le_of_eq (Eq.symm e7)
 have d9 : h1[m]? = some (.cells #[(.bool a0), (.string a9)] 62 (0, 0)) := by rw [e8]; exact push_new e7
 refine lv rfl rfl (va rfl) ?_
 refine ln (qn ?_)
 obtain ⟨mc, hq8⟩ : ∃ q : ByteArray, q = (bif !a0 then ByteArray.empty else a9) := ⟨_, rfl⟩
 replace H := H mc hq8
 refine xk (fun ρ h' => (Ext h h' ∧ h'[m]? = some (.cells #[(.bool a0), (.string mc)] 62 (0, 0)) ∧ True) ∧ Has ρ [(0, (.slice l a1 a3)), (3, (ptr m 0))]) ?_ ?_
 ·refine xs (xr ?_)
  refine lv rfl rfl (v := (ptr m 0)) (vf TyShC.fld62_0 (b := m) (o := 0) rfl) (lv rfl rfl (vl TyShC.agg4 rfl (rc d9 rfl)) (lv rfl rfl (v := (.bool (!a0))) (hv_not (b := a0) rfl) ?_))
  refine ln (qn ?_)
  refine xc (b := !a0) rfl (fun b1 => ?_) (fun b1 => ?_)
  ·refine xr ?_
   refine lv rfl rfl (v := (ptr m 1)) (vf TyShC.fld62_1 (b := m) (o := 0) rfl) ?_
   refine lp rfl rfl (hn_store (v := (.string ByteArray.empty)) rfl rfl TyShC.sz9 rfl (HW_row d9 (by simp)) ?_)
   intro h3 e1
   have g8 : h3[m]? = some (.cells #[(.bool a0), (.string ByteArray.empty)] 62 (0, 0)) := row_hset_eq e1 d9 rfl
   have g6 := ext_hset e1 e9 e6
   refine ln (qn ?_)
   exact ⟨⟨g6, (row_congr g8 (by first | rfl | ((try rw [b1]); (try rw [hq8]); (try rw [b1]); all_goals first | rfl | (simp only [Bool.true_or, Bool.or_true, Bool.false_or, Bool.or_false, Bool.true_and, Bool.and_true, Bool.false_and, Bool.and_false, Bool.not_true, Bool.not_false, Bool.cond_true, Bool.cond_false]; done)) | simp [b1, hq8, b1])), trivial⟩, (hc rfl (hc rfl hn))⟩
  ·refine xi (qn ?_)
   exact ⟨⟨e9, (row_congr d9 (by first | rfl | ((try rw [b1]); (try rw [hq8]); (try rw [b1]); all_goals first | rfl | (simp only [Bool.true_or, Bool.or_true, Bool.false_or, Bool.or_false, Bool.true_and, Bool.and_true, Bool.false_and, Bool.and_false, Bool.not_true, Bool.not_false, Bool.cond_true, Bool.cond_false]; done)) | simp [b1, hq8, b1])), trivial⟩, (hc rfl (hc rfl hn))⟩
 ·rintro ρ h2 ⟨⟨i6, g7, -⟩, hH⟩
  refine xh _ hH ?_
  refine xs (xr ?_)
  refine lv rfl rfl (va rfl) ?_
  refine ln (qn (xs (xb ?_)))
  obtain ⟨c9, c5, f2, g9⟩ := H
  refine xl (σ := Int) (fun s => [(0, (.slice l a1 a3)), (3, (ptr m 0)), (5, (.int .i64 s))]) (fun s h' => c9 s ∧ Ext h h' ∧ h'[m]? = some (.cells #[(.bool a0), (.string mc)] 62 (0, 0)) ∧ True) (fun s _ => c5 s) 0 ⟨f2, i6, g7, trivial⟩ (hc rfl (hc rfl (hc rfl hn))) ?_
  rintro i ρ h4 ⟨f1, c7, b8, -⟩
  have H := g9 i f1
  refine xs ?_
  obtain ⟨j, d8, d5⟩ := H
  refine xk (fun ρ h' => (Ext h h' ∧ h'[m]? = some (.cells #[(.bool a0), (.string mc)] 62 (0, 0)) ∧ True) ∧ Has ρ [(0, (.slice l a1 a3)), (3, (ptr m 0)), (5, (.int .i64 i)), (22, (.bool j))]) ?_ ?_
  ·have H := d8; clear d8 d5
   refine hx_draw TyShC.mixed [.pure, .pure, .pure, .pure, .pure, .pure, .pure, .pure, .read, .read, .ext, .pure] [0, 1, 2, 3, 4, 5, 6, 7, 8, 9, 10, 11] (by kernel_rfl) ?_
   refine pp (i := 0) rfl (wanted_0 rfl) rfl (.int .i64 i) (fun _ => vm rfl) ?_
   refine pp (i := 1) rfl (wanted_0 rfl) rfl (.slice l a1 a3) (fun _ => vm rfl) ?_
   refine pp (i := 2) rfl (wanted_0 rfl) rfl (.int .i64 (a1 : Int)) (fun _ => hv_len (n := a1) TyShC.u43 rfl) ?_
   refine pp (i := 3) rfl (wanted_0 rfl) rfl (.bool (decide (i < (a1 : Int)))) (fun _ => vr rfl rfl rfl) ?_
   refine pp (i := 4) rfl (wanted_0 rfl) rfl (.bool (decide (i < (a1 : Int)))) (fun _ => vm rfl) ?_
   rcases bool_or (decide (i < (a1 : Int))) with a4 | a4
   ·replace H := H.1 a4
    refine pp (i := 5) rfl (wanted_y rfl rfl rfl a4) rfl (.slice l a1 a3) (fun _ => vm rfl) ?_
    refine pp (i := 6) rfl (wanted_y rfl rfl rfl a4) rfl (.int .i64 i) (fun _ => vm rfl) ?_
    obtain ⟨d1, d0, e0, g4, i1, Hq⟩ := H
    subst e0
    have H := Hq; clear Hq
    refine pp (i := 7) rfl (wanted_y rfl rfl rfl a4) rfl (ptr d1 (d0 + (Int.toNat i) * 2)) (fun _ => vi TyShC.el43 rfl rfl g4 i1) ?_
    obtain ⟨b0, a7, g1, i4, H⟩ := H
    refine pr (i := 8) rfl (wanted_y rfl rfl rfl a4) rfl (.agg #[(.bool b0), (.string a7)]) (fun _ he => vL (vs := [(.bool b0), (.string a7)]) TyShC.agg62 TyShC.sz62 rfl (cc (Ext.cell he (Ext.cell c7 g1)) (cc (Ext.cell he (Ext.cell c7 i4)) cn))) ?_
    refine pr (i := 9) rfl (wanted_y rfl rfl rfl a4) rfl (.agg #[(.bool a0), (.string mc)]) (fun _ he => vL (vs := [(.bool a0), (.string mc)]) TyShC.agg62 TyShC.sz62 rfl (cc (Ext.cell he (rc b8 rfl)) (cc (Ext.cell he (rc b8 rfl)) cn))) ?_
    refine hp_ext (i := 10) rfl (wanted_y rfl rfl rfl a4) rfl (sc TyShC.cb69 rfl (HC.mono (before_c (⟨b0, a7⟩) (⟨a0, mc⟩) _) ?_))
    rintro _ h6 ⟨rfl, d4⟩
    refine ⟨d4, ?_⟩
    replace b8 := Ext.row d4 b8
    have g3 := Ext.trans c7 d4
    refine pp (i := 11) rfl (wanted_0 rfl) rfl (.bool (Ml.mlt ⟨b0, a7⟩ ⟨a0, mc⟩)) (fun _ => hv_pick_t rfl a4 rfl) ?_
    refine hp_nil ?_
    refine qn ?_
    obtain rfl := H
    exact ⟨⟨g3, b8, trivial⟩, (hc rfl (hc rfl (hc rfl (hc rfl hn))))⟩
   ·replace H := H.2 a4
    refine pn (i := 5) rfl (wanted_n rfl rfl rfl a4) ?_
    refine pn (i := 6) rfl (wanted_n rfl rfl rfl a4) ?_
    refine pn (i := 7) rfl (wanted_n rfl rfl rfl a4) ?_
    refine pn (i := 8) rfl (wanted_n rfl rfl rfl a4) ?_
    refine pn (i := 9) rfl (wanted_n rfl rfl rfl a4) ?_
    refine pn (i := 10) rfl (wanted_n rfl rfl rfl a4) ?_
    refine pp (i := 11) rfl (wanted_0 rfl) rfl (.bool false) (fun _ => hv_pick_f rfl a4 rfl) ?_
    refine hp_nil ?_
    refine qn ?_
    obtain rfl := H
    exact ⟨⟨c7, b8, trivial⟩, (hc rfl (hc rfl (hc rfl (hc rfl hn))))⟩
  ·have H := d5; clear d8 d5
   rintro ρ h5 ⟨⟨c4, a8, -⟩, hH⟩
   refine xh _ hH ?_
   refine xc (b := j) rfl (fun d6 => ?_) (fun d6 => ?_)
   ·replace H := H.1 d6
    refine xi (qn (xb (xr ?_)))
    refine lv rfl rfl (vm rfl) (lv rfl rfl (vr rfl rfl rfl) (lv rfl rfl (va rfl) ?_))
    refine ln (bn (qn ?_))
    exact ⟨IntKind.i64.wrap (i + 1), ⟨⟨H.1, c4, a8, trivial⟩, H.2⟩, (hc rfl (hc rfl (hc rfl hn)))⟩
   ·replace H := H.2 d6
    refine xe (qe (qe (bh (qn (xs ?_)))))
    obtain ⟨c3, d7, d2⟩ := H
    refine xk (fun ρ h' => h5 = h' ∧ Has ρ [(0, (.slice l a1 a3)), (3, (ptr m 0)), (5, (.int .i64 i)), (36, (.bool c3))]) ?_ ?_
    ·have H := d7; clear d7 d2
     refine hx_draw TyShC.mixed [.pure, .pure, .pure, .pure, .pure, .pure, .pure, .pure, .read, .read, .pure, .pure] [0, 1, 2, 3, 4, 5, 6, 7, 8, 9, 10, 11] (by kernel_rfl) ?_
     refine pp (i := 0) rfl (wanted_0 rfl) rfl (.int .i64 i) (fun _ => vm rfl) ?_
     refine pp (i := 1) rfl (wanted_0 rfl) rfl (.slice l a1 a3) (fun _ => vm rfl) ?_
     refine pp (i := 2) rfl (wanted_0 rfl) rfl (.int .i64 (a1 : Int)) (fun _ => hv_len (n := a1) TyShC.u43 rfl) ?_
     refine pp (i := 3) rfl (wanted_0 rfl) rfl (.bool (decide (i < (a1 : Int)))) (fun _ => vr rfl rfl rfl) ?_
     refine pp (i := 4) rfl (wanted_0 rfl) rfl (.bool (decide (i < (a1 : Int)))) (fun _ => vm rfl) ?_
     rcases bool_or (decide (i < (a1 : Int))) with a5 | a5
     ·replace H := H.1 a5
      refine pp (i := 5) rfl (wanted_y rfl rfl rfl a5) rfl (.slice l a1 a3) (fun _ => vm rfl) ?_
      refine pp (i := 6) rfl (wanted_y rfl rfl rfl a5) rfl (.int .i64 i) (fun _ => vm rfl) ?_
      obtain ⟨b5, b4, e0, f9, f0, Hq⟩ := H
      subst e0
      have H := Hq; clear Hq
      refine pp (i := 7) rfl (wanted_y rfl rfl rfl a5) rfl (ptr b5 (b4 + (Int.toNat i) * 2)) (fun _ => vi TyShC.el43 rfl rfl f9 f0) ?_
      obtain ⟨a6, a2, i3, f6, H⟩ := H
      refine pr (i := 8) rfl (wanted_y rfl rfl rfl a5) rfl (.agg #[(.bool a6), (.string a2)]) (fun _ he => vL (vs := [(.bool a6), (.string a2)]) TyShC.agg62 TyShC.sz62 rfl (cc (Ext.cell he (Ext.cell c4 i3)) (cc (Ext.cell he (Ext.cell c4 f6)) cn))) ?_
      refine pr (i := 9) rfl (wanted_y rfl rfl rfl a5) rfl (.agg #[(.bool a0), (.string mc)]) (fun _ he => vL (vs := [(.bool a0), (.string mc)]) TyShC.agg62 TyShC.sz62 rfl (cc (Ext.cell he (rc a8 rfl)) (cc (Ext.cell he (rc a8 rfl)) cn))) ?_
      refine pp (i := 10) rfl (wanted_y rfl rfl rfl a5) rfl (.bool ((a6 == a0 && (a2 == mc && true)))) (fun _ => hv_structEq (xs := [(.bool a6), (.string a2)]) (ys := [(.bool a0), (.string mc)]) (b := (a6 == a0 && (a2 == mc && true))) TyShC.se62 rfl rfl (by kernel_rfl) rfl) ?_
      refine pp (i := 11) rfl (wanted_0 rfl) rfl (.bool ((a6 == a0 && (a2 == mc && true)))) (fun _ => hv_pick_t rfl a5 rfl) ?_
      refine hp_nil ?_
      refine qn ?_
      obtain rfl := H
      exact ⟨rfl, (hc rfl (hc rfl (hc rfl (hc rfl hn))))⟩
     ·replace H := H.2 a5
      refine pn (i := 5) rfl (wanted_n rfl rfl rfl a5) ?_
      refine pn (i := 6) rfl (wanted_n rfl rfl rfl a5) ?_
      refine pn (i := 7) rfl (wanted_n rfl rfl rfl a5) ?_
      refine pn (i := 8) rfl (wanted_n rfl rfl rfl a5) ?_
      refine pn (i := 9) rfl (wanted_n rfl rfl rfl a5) ?_
      refine pn (i := 10) rfl (wanted_n rfl rfl rfl a5) ?_
      refine pp (i := 11) rfl (wanted_0 rfl) rfl (.bool false) (fun _ => hv_pick_f rfl a5 rfl) ?_
      refine hp_nil ?_
      refine qn ?_
      obtain rfl := H
      exact ⟨rfl, (hc rfl (hc rfl (hc rfl (hc rfl hn))))⟩
    ·have H := d2; clear d7 d2
     rintro ρ _ ⟨rfl, hH⟩
     refine xh _ hH ?_
     refine xc (b := c3) rfl (fun d3 => ?_) (fun d3 => ?_)
     ·replace H := H.1 d3
      refine xs (xr ?_)
      refine lv rfl rfl (vm rfl) (lv rfl rfl (va rfl) ?_)
      refine ln (qn (xt (qr ?_)))
      replace H := H h5 c4
      exact endQ_ret _ (res_one Tryd.results55 (rv_tmp rfl)) H
     ·replace H := H.2 d3
      refine xi (qn (xs (xr ?_)))
      replace H := H m h5 e6 (row_lt a8) c4
      refine lp rfl rfl (hn_buildSlice (n := 0) (vs := []) (cs := #[]) TyShC.u43 TyShC.sz62 TyShC.z62 rfl rfl (by kernel_rfl) ?_)
      intro nb h7 g0 e3
      replace H := H nb h7 g0 e3
      have i2 := ext_pushed_f39_sh e3
      replace a8 := Ext.row i2 a8
      refine lv rfl rfl (vm rfl) (lv rfl rfl (vm rfl) ?_)
      obtain ⟨i5, g5, f5, H⟩ := H
      obtain ⟨sl, hq47⟩ : ∃ q, q = slA l (Int.toNat 0) 2 a3 := ⟨_, rfl⟩
      replace H := H sl hq47
      refine lv rfl rfl (v := (.slice sl (Int.toNat i - Int.toNat 0) (a3 - Int.toNat 0))) (hv_slice (l := 0) (r := i) TyShC.u43 TyShC.sz62 rfl sl_none (sh_some rfl) i5 g5 f5 hq47) ?_
      refine lp rfl rfl (hs_append rfl rfl (HAppend.mono H ?_))
      rintro _ h8 ⟨f3, ap, c1, b9, rfl, H⟩
      replace a8 := Kp.row f3 (by simp) a8
      refine lv rfl rfl (va rfl) ?_
      refine ln (qn (xs (xr ?_)))
      refine lv rfl rfl (vm rfl) (lv rfl rfl (vL (vs := [(.bool a0), (.string mc)]) TyShC.agg62 TyShC.sz62 rfl (cc (rc a8 rfl) (cc (rc a8 rfl) cn))) ?_)
      refine lp rfl rfl (hn_buildSlice (n := 1) (vs := [(0, (.agg #[(.bool a0), (.string mc)]))]) (cs := #[(.bool a0), (.string mc)]) TyShC.u43 TyShC.sz62 TyShC.z62 rfl rfl (by kernel_rfl) ?_)
      intro c8 h9 f8 e2
      replace H := H c8 h9 f8 e2
      have g2 := ext_pushed_f39_sh e2
      replace a8 := Ext.row g2 a8
      refine lp rfl rfl (hs_append rfl rfl (HAppend.mono H ?_))
      rintro _ e4 ⟨c0, b2, b3, rfl, H⟩
      refine lv rfl rfl (va rfl) ?_
      refine ln (qn (xs (xr ?_)))
      refine lv rfl rfl (vm rfl) (lv rfl rfl (vm rfl) (lv rfl rfl (vm rfl) ?_))
      obtain ⟨f7, f4, i0, H⟩ := H
      obtain ⟨c2, hq55⟩ : ∃ q, q = slA l (Int.toNat i) 2 a3 := ⟨_, rfl⟩
      replace H := H c2 hq55
      refine lv rfl rfl (v := (.slice c2 (Int.toNat (a1 : Int) - Int.toNat i) (a3 - Int.toNat i))) (hv_slice (l := i) (r := (a1 : Int)) TyShC.u43 TyShC.sz62 rfl (sl_some rfl) sh_none f7 f4 i0 hq55) ?_
      refine lp rfl rfl (hs_append rfl rfl (HAppend.mono H ?_))
      rintro _ e5 ⟨c6, b7, b6, rfl, H⟩
      refine lv rfl rfl (va rfl) ?_
      refine ln (qn (xt ?_))
      exact endQ_ret _ (res_one Tryd.results55 (rv_tmp rfl)) H
theorem f42_sh (sv : Option Addr) (a0 : Nat) (a2 : Nat) (h : Heap) (R : Value → Heap → Prop)
  (H : (((decide ((a0 : Int) < 2)) = true → R (.slice sv a0 a2) h) ∧ ((decide ((a0 : Int) < 2)) = false → (∃ (I2 : Int → Prop) (c6 : Int → Nat), I2 1 ∧ (∀ (k : Int), I2 k → (((decide (k < (a0 : Int))) = true → (∃ a6 a5 : Nat, sv = some ⟨a6, a5, none⟩ ∧ (0 : Int) ≤ k ∧ k < (a0 : Int) ∧ (∃ b2 : Bool, ∃ b0 : ByteArray, hcell h a6 (a5 + (Int.toNat k) * 2) = some (.bool b2) ∧ hcell h a6 ((a5 + (Int.toNat k) * 2) + 1) = some (.string b0) ∧ ((0 : Int) ≤ IntKind.i64.wrap (k - 1) ∧ IntKind.i64.wrap (k - 1) < (a0 : Int) ∧ (∃ a9 : Bool, ∃ a7 : ByteArray, hcell h a6 (a5 + (Int.toNat (IntKind.i64.wrap (k - 1))) * 2) = some (.bool a9) ∧ hcell h a6 ((a5 + (Int.toNat (IntKind.i64.wrap (k - 1))) * 2) + 1) = some (.string a7) ∧ ((((b2 == a9 && (b0 == a7 && true))) = true → (0 ≤ (k : Int) ∧ k ≤ (a0 : Int) ∧ (a0 : Int) ≤ (a2 : Int) ∧ ∀ sl : Option Addr, sl = slA (some ⟨a6, a5, none⟩) (Int.toNat k) 2 a2 → (∃ (b9 : Int → Int → Heap → Prop) (b8 : Int → Int → Heap → Nat), b9 k 1 h ∧ (∀ (a3 : Int) (k2 : Int) (h1 : Heap), b9 a3 k2 h1 → (((decide (k2 < (((Int.toNat (a0 : Int) - Int.toNat k) : Nat) : Int))) = true → (∃ c0 : Int → Heap → Prop, (∃ b3 b4 : Nat, sl = some ⟨b3, b4, none⟩ ∧ (0 : Int) ≤ k2 ∧ k2 < (((Int.toNat (a0 : Int) - Int.toNat k) : Nat) : Int) ∧ (∃ a4 : Bool, ∃ a1 : ByteArray, hcell h1 b3 (b4 + (Int.toNat k2) * 2) = some (.bool a4) ∧ hcell h1 b3 ((b4 + (Int.toNat k2) * 2) + 1) = some (.string a1) ∧ ((0 : Int) ≤ IntKind.i64.wrap (k2 - 1) ∧ IntKind.i64.wrap (k2 - 1) < (((Int.toNat (a0 : Int) - Int.toNat k) : Nat) : Int) ∧ (∃ b1 : Bool, ∃ a8 : ByteArray, hcell h1 b3 (b4 + (Int.toNat (IntKind.i64.wrap (k2 - 1))) * 2) = some (.bool b1) ∧ hcell h1 b3 ((b4 + (Int.toNat (IntKind.i64.wrap (k2 - 1))) * 2) + 1) = some (.string a8) ∧ (((!((a4 == b1 && (a1 == a8 && true)))) = true → ((0 : Int) ≤ a3 ∧ a3 < (a0 : Int) ∧ (HWs h1 a6 (a5 + (Int.toNat a3) * 2) 2 ∧ ∀ h3, h3 = hsets h1 a6 (a5 + (Int.toNat a3) * 2) [(.bool a4), (.string a1)] → (c0 (IntKind.i64.wrap (a3 + 1)) h3)))) ∧ ((!((a4 == b1 && (a1 == a8 && true)))) = false → (c0 a3 h1))))))) ∧ (∀ (b5 : Int) (h2 : Heap), c0 b5 h2 → (b9 b5 (IntKind.i64.wrap (k2 + 1)) h2 ∧ b8 b5 (IntKind.i64.wrap (k2 + 1)) h2 < b8 a3 k2 h1)))) ∧ ((decide (k2 < (((Int.toNat (a0 : Int) - Int.toNat k) : Nat) : Int))) = false → (0 ≤ (a3 : Int) ∧ a3 ≤ (a0 : Int) ∧ (a0 : Int) ≤ (a2 : Int) ∧ ∀ b6 : Option Addr, b6 = slA (some ⟨a6, a5, none⟩) (Int.toNat a3) 2 a2 → (((Int.toNat (a0 : Int) - Int.toNat a3) ≠ 0 → ∃ cb co : Nat, b6 = some ⟨cb, co, none⟩ ∧ HWs h1 cb co ((Int.toNat (a0 : Int) - Int.toNat a3) * 2)) ∧ ∀ h4, ((Int.toNat (a0 : Int) - Int.toNat a3) = 0 → h4 = h1) → (∀ cb co : Nat, (Int.toNat (a0 : Int) - Int.toNat a3) ≠ 0 → b6 = some ⟨cb, co, none⟩ → h4 = hsets h1 cb co (zcells [(.bool false), (.string ByteArray.empty)] (Int.toNat (a0 : Int) - Int.toNat a3))) → (0 ≤ ((0 : Int) : Int) ∧ (0 : Int) ≤ a3 ∧ a3 ≤ (a2 : Int) ∧ ∀ b7 : Option Addr, b7 = slA (some ⟨a6, a5, none⟩) (Int.toNat 0) 2 a2 → R (.slice b7 (Int.toNat a3 - Int.toNat 0) (a2 - Int.toNat 0)) h4))))))))) ∧ (((b2 == a9 && (b0 == a7 && true))) = false → (I2 (IntKind.i64.wrap (k + 1)) ∧ c6 (IntKind.i64.wrap (k + 1)) < c6 k)))))))) ∧ ((decide (k < (a0 : Int))) = false → R (.slice sv a0 a2) h))))))) :
  HC Tryd.prog 42 #[(.slice sv a0 a2)] h R := by
 refine hc_of (args := [(.slice sv a0 a2)]) Tryd.func42 rfl Tryd.ntmps42 (Nat.le_of_ble_eq_true rfl) ?_
 refine xs (xr ?_)
 refine lv rfl rfl (va rfl) ?_
 refine ln (qn (xs (xs (xr ?_))))
 refine lv rfl rfl (vm rfl) (lv rfl rfl (v := (.int .i64 (a0 : Int))) (hv_len (n := a0) TyShC.u43 rfl) (lv rfl rfl (vr rfl rfl rfl) ?_))
 refine ln (qn ?_)
 refine xc (b := decide ((a0 : Int) < 2)) rfl (fun d2 => ?_) (fun d2 => ?_)
 ·replace H := H.1 d2
  refine xs (xr ?_)
  refine lv rfl rfl (vm rfl) (lv rfl rfl (va rfl) ?_)
  refine ln (qn (xt (qr ?_)))
  exact endQ_ret _ (res_one Tryd.results42 (rv_tmp rfl)) H
 ·replace H := H.2 d2
  refine xi (qn (xs (xs (xr ?_))))
  refine lv rfl rfl (va rfl) ?_
  refine ln (qn (xb ?_))
  obtain ⟨I2, c6, g6, g5⟩ := H
  refine xl (σ := Int) (fun s => [(0, (.slice sv a0 a2)), (3, (.int .i64 s))]) (fun s h' => I2 s ∧ h = h') (fun s _ => c6 s) 1 ⟨g6, rfl⟩ (hc rfl (hc rfl hn)) ?_
  rintro k ρ _ ⟨g8, rfl⟩
  have H := g5 k g8
  refine xs (xs (xr ?_))
  refine lv rfl rfl (vm rfl) (lv rfl rfl (vm rfl) (lv rfl rfl (v := (.int .i64 (a0 : Int))) (hv_len (n := a0) TyShC.u43 rfl) (lv rfl rfl (vr rfl rfl rfl) ?_)))
  refine ln (qn ?_)
  refine xc (b := decide (k < (a0 : Int))) rfl (fun d1 => ?_) (fun d1 => ?_)
  ·replace H := H.1 d1
   refine xi (qn (xs (xb (xs ?_))))
   refine hx_draw TyShC.mixed [.pure, .pure, .pure, .read, .pure, .pure, .pure, .pure, .read, .pure] [0, 1, 2, 3, 4, 5, 6, 7, 8, 9] (by kernel_rfl) ?_
   refine pp (i := 0) rfl (wanted_0 rfl) rfl (.slice sv a0 a2) (fun _ => vm rfl) ?_
   refine pp (i := 1) rfl (wanted_0 rfl) rfl (.int .i64 k) (fun _ => vm rfl) ?_
   obtain ⟨a6, a5, c7, g7, g4, Hq⟩ := H
   subst c7
   have H := Hq; clear Hq
   refine pp (i := 2) rfl (wanted_0 rfl) rfl (ptr a6 (a5 + (Int.toNat k) * 2)) (fun _ => vi TyShC.el43 rfl rfl g7 g4) ?_
   obtain ⟨b2, b0, e2, d6, H⟩ := H
   refine pr (i := 3) rfl (wanted_0 rfl) rfl (.agg #[(.bool b2), (.string b0)]) (fun _ he => vL (vs := [(.bool b2), (.string b0)]) TyShC.agg62 TyShC.sz62 rfl (cc (Ext.cell he e2) (cc (Ext.cell he d6) cn))) ?_
   refine pp (i := 4) rfl (wanted_0 rfl) rfl (.slice (some ⟨a6, a5, none⟩) a0 a2) (fun _ => vm rfl) ?_
   refine pp (i := 5) rfl (wanted_0 rfl) rfl (.int .i64 k) (fun _ => vm rfl) ?_
   refine pp (i := 6) rfl (wanted_0 rfl) rfl (.int .i64 (IntKind.i64.wrap (k - 1))) (fun _ => vr rfl rfl rfl) ?_
   obtain ⟨e7, e1, H⟩ := H
   refine pp (i := 7) rfl (wanted_0 rfl) rfl (ptr a6 (a5 + (Int.toNat (IntKind.i64.wrap (k - 1))) * 2)) (fun _ => vi TyShC.el43 rfl rfl e7 e1) ?_
   obtain ⟨a9, a7, e5, f6, H⟩ := H
   refine pr (i := 8) rfl (wanted_0 rfl) rfl (.agg #[(.bool a9), (.string a7)]) (fun _ he => vL (vs := [(.bool a9), (.string a7)]) TyShC.agg62 TyShC.sz62 rfl (cc (Ext.cell he e5) (cc (Ext.cell he f6) cn))) ?_
   refine pp (i := 9) rfl (wanted_0 rfl) rfl (.bool ((b2 == a9 && (b0 == a7 && true)))) (fun _ => hv_structEq (xs := [(.bool b2), (.string b0)]) (ys := [(.bool a9), (.string a7)]) (b := (b2 == a9 && (b0 == a7 && true))) TyShC.se62 rfl rfl (by kernel_rfl) rfl) ?_
   refine hp_nil ?_
   refine qn ?_
   refine xc (b := ((b2 == a9 && (b0 == a7 && true)))) rfl (fun c1 => ?_) (fun c1 => ?_)
   ·replace H := H.1 c1
    refine xs (xr ?_)
    refine lv rfl rfl (vm rfl) (lv rfl rfl (vm rfl) ?_)
    obtain ⟨d5, e4, d4, H⟩ := H
    obtain ⟨sl, hq20⟩ : ∃ q, q = slA (some ⟨a6, a5, none⟩) (Int.toNat k) 2 a2 := ⟨_, rfl⟩
    replace H := H sl hq20
    refine lv rfl rfl (v := (.slice sl (Int.toNat (a0 : Int) - Int.toNat k) (a2 - Int.toNat k))) (hv_slice (l := k) (r := (a0 : Int)) TyShC.u43 TyShC.sz62 rfl (sl_some rfl) sh_none d5 e4 d4 hq20) (lv rfl rfl (va rfl) ?_)
    refine ln (qn (xs (xs (xr ?_))))
    refine lv rfl rfl (va rfl) ?_
    refine ln (qn (xb ?_))
    obtain ⟨b9, b8, d9, g1⟩ := H
    refine xl (σ := Int × Int) (fun s => [(0, (.slice (some ⟨a6, a5, none⟩) a0 a2)), (3, (.int .i64 s.1)), (4, (.slice sl (Int.toNat (a0 : Int) - Int.toNat k) (a2 - Int.toNat k))), (5, (.int .i64 s.2))]) (fun s h' => b9 s.1 s.2 h' ∧ True) (fun s h' => b8 s.1 s.2 h') (k, 1) ⟨d9, trivial⟩ (hc rfl (hc rfl (hc rfl (hc rfl hn)))) ?_
    rintro ⟨a3, k2⟩ ρ h1 ⟨g0, -⟩
    have H := g1 a3 k2 h1 g0
    refine xs (xs (xr ?_))
    refine lv rfl rfl (vm rfl) (lv rfl rfl (vm rfl) (lv rfl rfl (v := (.int .i64 (((Int.toNat (a0 : Int) - Int.toNat k) : Nat) : Int))) (hv_len (n := (Int.toNat (a0 : Int) - Int.toNat k)) TyShC.u43 rfl) (lv rfl rfl (vr rfl rfl rfl) ?_)))
    refine ln (qn ?_)
    refine xc (b := decide (k2 < (((Int.toNat (a0 : Int) - Int.toNat k) : Nat) : Int))) rfl (fun c2 => ?_) (fun c2 => ?_)
    ·replace H := H.1 c2
     refine xi (qn ?_)
     obtain ⟨c0, c3, c4⟩ := H
     refine xk (fun ρ h' => ∃ b5 : Int, (c0 b5 h' ∧ True) ∧ Has ρ [(0, (.slice (some ⟨a6, a5, none⟩) a0 a2)), (3, (.int .i64 b5)), (4, (.slice sl (Int.toNat (a0 : Int) - Int.toNat k) (a2 - Int.toNat k))), (5, (.int .i64 k2))]) ?_ ?_
     ·have H := c3; clear c3 c4
      refine xb (xs ?_)
      refine hx_draw TyShC.mixed [.pure, .pure, .pure, .read, .pure, .pure, .pure, .pure, .read, .pure] [0, 1, 2, 3, 4, 5, 6, 7, 8, 9] (by kernel_rfl) ?_
      refine pp (i := 0) rfl (wanted_0 rfl) rfl (.slice sl (Int.toNat (a0 : Int) - Int.toNat k) (a2 - Int.toNat k)) (fun _ => vm rfl) ?_
      refine pp (i := 1) rfl (wanted_0 rfl) rfl (.int .i64 k2) (fun _ => vm rfl) ?_
      obtain ⟨b3, b4, c7, c9, d0, Hq⟩ := H
      subst c7
      have H := Hq; clear Hq
      refine pp (i := 2) rfl (wanted_0 rfl) rfl (ptr b3 (b4 + (Int.toNat k2) * 2)) (fun _ => vi TyShC.el43 rfl rfl c9 d0) ?_
      obtain ⟨a4, a1, c8, d3, H⟩ := H
      refine pr (i := 3) rfl (wanted_0 rfl) rfl (.agg #[(.bool a4), (.string a1)]) (fun _ he => vL (vs := [(.bool a4), (.string a1)]) TyShC.agg62 TyShC.sz62 rfl (cc (Ext.cell he c8) (cc (Ext.cell he d3) cn))) ?_
      refine pp (i := 4) rfl (wanted_0 rfl) rfl (.slice (some ⟨b3, b4, none⟩) (Int.toNat (a0 : Int) - Int.toNat k) (a2 - Int.toNat k)) (fun _ => vm rfl) ?_
      refine pp (i := 5) rfl (wanted_0 rfl) rfl (.int .i64 k2) (fun _ => vm rfl) ?_
      refine pp (i := 6) rfl (wanted_0 rfl) rfl (.int .i64 (IntKind.i64.wrap (k2 - 1))) (fun _ => vr rfl rfl rfl) ?_
      obtain ⟨e9, e3, H⟩ := H
      refine pp (i := 7) rfl (wanted_0 rfl) rfl (ptr b3 (b4 + (Int.toNat (IntKind.i64.wrap (k2 - 1))) * 2)) (fun _ => vi TyShC.el43 rfl rfl e9 e3) ?_
      obtain ⟨b1, a8, f3, f8, H⟩ := H
      refine pr (i := 8) rfl (wanted_0 rfl) rfl (.agg #[(.bool b1), (.string a8)]) (fun _ he => vL (vs := [(.bool b1), (.string a8)]) TyShC.agg62 TyShC.sz62 rfl (cc (Ext.cell he f3) (cc (Ext.cell he f8) cn))) ?_
      refine pp (i := 9) rfl (wanted_0 rfl) rfl (.bool (!((a4 == b1 && (a1 == a8 && true))))) (fun _ => hv_structEq (xs := [(.bool a4), (.string a1)]) (ys := [(.bool b1), (.string a8)]) (b := (a4 == b1 && (a1 == a8 && true))) TyShC.se62 rfl rfl (by kernel_rfl) rfl) ?_
      refine hp_nil ?_
      refine qn ?_
      refine xc (b := !((a4 == b1 && (a1 == a8 && true)))) rfl (fun c5 => ?_) (fun c5 => ?_)
      ·replace H := H.1 c5
       refine xs (xr ?_)
       refine lv rfl rfl (vm rfl) (lv rfl rfl (vm rfl) (lv rfl rfl (vm rfl) (lv rfl rfl (vm rfl) (lv rfl rfl (v := (ptr b3 (b4 + (Int.toNat k2) * 2))) (vi TyShC.el43 rfl rfl c9 d0) (lv rfl rfl (vL (vs := [(.bool a4), (.string a1)]) TyShC.agg62 TyShC.sz62 rfl (cc c8 (cc d3 cn))) ?_)))))
       obtain ⟨f0, d7, H⟩ := H
       refine lv rfl rfl (v := (ptr a6 (a5 + (Int.toNat a3) * 2))) (vi TyShC.el43 rfl rfl f0 d7) ?_
       obtain ⟨f4, H⟩ := H
       refine lp rfl rfl (hn_stores (vs := [(.bool a4), (.string a1)]) rfl rfl TyShC.sz62 rfl f4 ?_)
       intro h3 f7
       replace H := H h3 f7
       refine ln (qn (xr ?_))
       refine lv rfl rfl (vm rfl) (lv rfl rfl (vr rfl rfl rfl) (lv rfl rfl (va rfl) ?_))
       refine ln (bn (qn ?_))
       exact ⟨_, ⟨H, trivial⟩, (hc rfl (hc rfl (hc rfl (hc rfl hn))))⟩
      ·replace H := H.2 c5
       refine xi (bn (qn ?_))
       exact ⟨_, ⟨H, trivial⟩, (hc rfl (hc rfl (hc rfl (hc rfl hn))))⟩
     ·rintro ρ h2 ⟨b5, ⟨f2, -⟩, hH⟩
      have H := c4 b5 h2 f2; clear c3 c4
      refine xh _ hH ?_
      refine xr ?_
      refine lv rfl rfl (vm rfl) (lv rfl rfl (vr rfl rfl rfl) (lv rfl rfl (va rfl) ?_))
      refine ln (qn ?_)
      exact ⟨(b5, IntKind.i64.wrap (k2 + 1)), ⟨⟨H.1, trivial⟩, H.2⟩, (hc rfl (hc rfl (hc rfl (hc rfl hn))))⟩
    ·replace H := H.2 c2
     refine xe (qe (qe (bh (qn (xs (xr ?_))))))
     refine lv rfl rfl (vm rfl) (lv rfl rfl (vm rfl) ?_)
     obtain ⟨e0, g2, g3, H⟩ := H
     obtain ⟨b6, hq49⟩ : ∃ q, q = slA (some ⟨a6, a5, none⟩) (Int.toNat a3) 2 a2 := ⟨_, rfl⟩
     replace H := H b6 hq49
     refine lv rfl rfl (v := (.slice b6 (Int.toNat (a0 : Int) - Int.toNat a3) (a2 - Int.toNat a3))) (hv_slice (l := a3) (r := (a0 : Int)) TyShC.u43 TyShC.sz62 rfl (sl_some rfl) sh_none e0 g2 g3 hq49) ?_
     obtain ⟨e8, H⟩ := H
     refine lp rfl rfl (hn_clear2 (zs := [(.bool false), (.string ByteArray.empty)]) TyShC.u43 TyShC.z62 rfl (by decide) rfl rfl e8 ?_)
     intro h4 f1 f9
     replace H := H h4 f1 f9
     refine ln (qn (xs (xr ?_)))
     refine lv rfl rfl (vm rfl) (lv rfl rfl (vm rfl) ?_)
     obtain ⟨d8, f5, e6, H⟩ := H
     obtain ⟨b7, hq56⟩ : ∃ q, q = slA (some ⟨a6, a5, none⟩) (Int.toNat 0) 2 a2 := ⟨_, rfl⟩
     replace H := H b7 hq56
     refine lv rfl rfl (v := (.slice b7 (Int.toNat a3 - Int.toNat 0) (a2 - Int.toNat 0))) (hv_slice (l := 0) (r := a3) TyShC.u43 TyShC.sz62 rfl sl_none (sh_some rfl) d8 f5 e6 hq56) (lv rfl rfl (va rfl) ?_)
     refine ln (qn (xt (br (qr (qr (br (qr ?_)))))))
     exact endQ_ret _ (res_one Tryd.results42 (rv_tmp rfl)) H
   ·replace H := H.2 c1
    refine xi (bn (qn (xr ?_)))
    refine lv rfl rfl (vm rfl) (lv rfl rfl (vr rfl rfl rfl) (lv rfl rfl (va rfl) ?_))
    refine ln (qn ?_)
    exact ⟨IntKind.i64.wrap (k + 1), ⟨⟨H.1, rfl⟩, H.2⟩, (hc rfl (hc rfl hn))⟩
  ·replace H := H.2 d1
   refine xe (qe (qe (bh (qn (xs (xr ?_))))))
   refine lv rfl rfl (vm rfl) (lv rfl rfl (va rfl) ?_)
   refine ln (qn (xt ?_))
   exact endQ_ret _ (res_one Tryd.results42 (rv_tmp rfl)) H
theorem f39_sh (a1 : Bool) (a0 : ByteArray) (a4 : Int) (a9 : ByteArray) (a2 : ByteArray) (a8 : Int) (a5 : Bool) (a3 : Int) (a6 : Int) (To : Int) (h : Heap) (R : Value → Heap → Prop)
  (H : (∀ (h2 : Heap), Ext h h2 → (∀ nb h3, nb = Array.size h2 → h3 = Array.push h2 (.cells #[(.bool a1), (.string a0)] 62) → R (.slice (some ⟨nb, 0, none⟩) 1 1) h3))) :
  HC Tryd.prog 39 #[(.agg #[(.bool a1), (.string a0)]), (.agg #[(.int .i64 a4), (.string a9), (.string a2), (.int .i64 a8), (.bool a5), (.int .i64 a3), (.int .i64 a6), (.int .i64 To)])] h R := by
 refine hc_of (args := [(.agg #[(.bool a1), (.string a0)]), (.agg #[(.int .i64 a4), (.string a9), (.string a2), (.int .i64 a8), (.bool a5), (.int .i64 a3), (.int .i64 a6), (.int .i64 To)])]) Tryd.func39 rfl Tryd.ntmps39 (Nat.le_of_ble_eq_true rfl) ?_
 refine xs (xr ?_)
 refine lp rfl rfl (hn_box (v := (.agg #[(.bool a1), (.string a0)])) rfl ?_)
 intro b7 h1 b4 b2
 have b5 := ext_pushed_f39_sh b2
 have c4 : Array.size h ≤ b7 := Nat.le_of_eq (Eq.symm b4)
 have a7 : h1[b7]? = some (.cells #[(.bool a1), (.string a0)] 62 (0, 0)) := by rw [b2]; exact push_new b4
 refine lp rfl rfl (hn_box (v := (.agg #[(.int .i64 a4), (.string a9), (.string a2), (.int .i64 a8), (.bool a5), (.int .i64 a3), (.int .i64 a6), (.int .i64 To)])) rfl ?_)
 intro x h2 b0 b3
 have b6 := ext_pushed_f39_sh b3
 have c1 := Nat.ne_of_lt (Nat.lt_of_lt_of_eq (row_lt a7) (Eq.symm b0))
 have c0 : Array.size h ≤ x := Nat.le_trans (Ext.size b5) (Nat.le_of_eq (Eq.symm b0))
 have c3 : h2[x]? = some (.cells #[(.int .i64 a4), (.string a9), (.string a2), (.int .i64 a8), (.bool a5), (.int .i64 a3), (.int .i64 a6), (.int .i64 To)] 30 (0, 0)) := by rw [b3]; exact push_new b0
 replace a7 := Ext.row b6 a7
 have b9 := Ext.trans b5 b6
 refine lv rfl rfl (va rfl) ?_
 refine ln (qn (xs (xr ?_)))
 refine lv rfl rfl (vL (vs := [(.bool a1), (.string a0)]) TyShC.agg62 TyShC.sz62 rfl (cc (rc a7 rfl) (cc (rc a7 rfl) cn))) ?_
 replace H := H h2 b9
 refine lp rfl rfl (hn_buildSlice (n := 1) (vs := [(0, (.agg #[(.bool a1), (.string a0)]))]) (cs := #[(.bool a1), (.string a0)]) TyShC.u43 TyShC.sz62 TyShC.z62 rfl rfl (by kernel_rfl) ?_)
 intro nb h3 b8 b1
 replace H := H nb h3 b8 b1
 have c2 := ext_pushed_f39_sh b1
 refine lv rfl rfl (va rfl) ?_
 refine ln (qn (xt ?_))
 exact endQ_ret _ (res_one Tryd.results39 (rv_tmp rfl)) H
end Go.Proofs.YtfjcciaabkjkgaaDoor
namespace Go.Proofs.YtfjcciaabkjkgaaDoor
open Go Ml
abbrev tMt : TypeId := 62
abbrev tMts : TypeId := 43
abbrev tMv : TypeId := 30
abbrev tMvs : TypeId := 22
theorem aMt : AppT Tryd.prog tMts tMt eMt.k 24 := ⟨by kernel_rfl, by kernel_rfl, by kernel_rfl, ⟨.agg #[.bool false, .string ByteArray.empty], [.bool false, .string ByteArray.empty], by unfold zeroB; kernel_rfl, rfl, rfl⟩, by decide⟩
theorem aMv : AppT Tryd.prog tMvs tMv eMv.k 80 := ⟨by kernel_rfl, by kernel_rfl, by kernel_rfl, ⟨.agg #[.int .i64 0, .string ByteArray.empty, .string ByteArray.empty, .int .i64 0, .bool false, .int .i64 0, .int .i64 0, .int .i64 0], [.int .i64 0, .string ByteArray.empty, .string ByteArray.empty, .int .i64 0, .bool false, .int .i64 0, .int .i64 0, .int .i64 0], by unfold zeroB; kernel_rfl, rfl, rfl⟩, by decide⟩
theorem check_c (m : Mv) (h : Heap) : HC Tryd.prog 18 #[mvV m] h fun v h' => v = .int .i64 (check m) ∧ Ext h h' := by
  obtain ⟨k, key, val, err, hit, life, fr, to⟩ := m
  refine f18_sh _ _ _ _ _ _ _ _ _ _ ⟨fun e _ x => ⟨?_, x⟩, fun e _ x => ⟨?_, x⟩⟩
  · unfold check
    rw [if_pos]
    simp only [hits] at e ⊢
    by_cases h1 : k = 1 <;> by_cases h2 : k = 2 <;> by_cases h3 : err = 0 <;> by_cases h4 : to ≥ 0 <;> by_cases h5 : val = ByteArray.empty <;> by_cases h6 : key = ByteArray.empty <;> cases hit <;> simp_all <;> omega
  · unfold check
    rw [if_neg]
    simp only [hits] at e ⊢
    by_cases h1 : k = 1 <;> by_cases h2 : k = 2 <;> by_cases h3 : err = 0 <;> by_cases h4 : to ≥ 0 <;> by_cases h5 : val = ByteArray.empty <;> by_cases h6 : key = ByteArray.empty <;> cases hit <;> simp_all <;> omega
theorem start_c (h : Heap) : HC Tryd.prog 20 #[] h fun v h' => New eMt tMt h h' v Ml.start :=
  f20_sh _ _ fun _ x _ _ eb eh => New.lit x eb eh rfl rfl
theorem rstart_c (h : Heap) : HC Tryd.prog 43 #[] h fun v h' => New eMt tMt h h' v Ml.start :=
  f43_sh _ _ fun _ _ eb eh => New.lit (Ext.refl _) eb eh rfl rfl
theorem gets_c (w : Mt) (m : Mv) (hk : m.kind = 1) (h : Heap) : HC Tryd.prog 48 #[mtV w, mvV m] h fun v h' => New eMt tMt h h' v (outs m w) := by
  refine f48_sh _ _ _ _ _ _ _ _ _ _ _ _ ⟨fun e _ x => ?_, fun e _ x _ _ eb eh => ?_⟩
  · have : outs m w = [] := by
      unfold outs; rw [if_pos hk, if_pos]
      simp at e; exact ⟨e.1, e.2⟩
    rw [this]; exact New.nil x
  · have : outs m w = [w] := by
      unfold outs; rw [if_pos hk, if_neg]
      rintro ⟨h1, h2⟩
      have h3 : hits ⟨m.kind, m.key, m.val, m.err, m.hit, m.life, m.fr, m.to⟩ = true := h1
      rw [h3] at e
      simp at e
      rcases h2 with h2 | h2
      · rw [h2] at e; simp at e
      · exact h2 e.2
    rw [this]; exact New.lit x eb eh rfl rfl
theorem puts_c (w : Mt) (m : Mv) (hk : m.kind = 2) (h : Heap) : HC Tryd.prog 49 #[mtV w, mvV m] h fun v h' => New eMt tMt h h' v (outs m w) := by
  have e0 : outs m w = putF (fate m) ⟨true, m.val⟩ w := by unfold outs; rw [if_neg (by omega), if_pos hk]
  have eta : (⟨m.kind, m.key, m.val, m.err, m.hit, m.life, m.fr, m.to⟩ : Mv) = m := rfl
  refine f49_sh _ _ _ _ _ _ _ _ _ _ _ _ ⟨fun e _ _ _ _ _ _ _ x _ _ eb eh => ?_, fun e1 => ⟨fun e _ _ h5 _ _ _ _ x => ?_, fun e2 => ⟨fun e _ _ _ _ x _ _ eb eh => ?_, fun e3 _ x _ _ eb eh => ?_⟩⟩⟩
  · have hf : fate m = 1 := by simp only [eta, beq_iff_eq] at e; omega
    rw [e0, hf]; exact New.lit x eb eh rfl rfl
  · have hf : fate m = 2 := by simp only [eta, beq_iff_eq] at e; omega
    rw [e0, hf]
    refine (start_c h5).mono ?_
    rintro v h7 ⟨a, c, rfl, x7, s7, w7⟩
    exact ⟨x7.kp _, a, _, c, rfl, a, c, rfl, x.trans x7, s7, w7.down x.size⟩
  · have hf : fate m = 3 := by simp only [eta, beq_iff_eq] at e; omega
    rw [e0, hf]; exact New.lit x eb eh rfl rfl
  · have hf : fate m ≠ 1 ∧ fate m ≠ 2 ∧ fate m ≠ 3 := by simp [eta] at e1 e2 e3; omega
    have : putF (fate m) ⟨true, m.val⟩ w = [w] := by unfold putF; rw [if_neg hf.1, if_neg hf.2.1, if_neg hf.2.2]
    rw [e0, this]; exact New.lit x eb eh rfl rfl
theorem deletes_c (w : Mt) (m : Mv) (hk : m.kind = 3) (h : Heap) : HC Tryd.prog 50 #[mtV w, mvV m] h fun v h' => New eMt tMt h h' v (outs m w) := by
  have e0 : outs m w = delF (fate m) w := by unfold outs; rw [if_neg (by omega), if_neg (by omega), if_pos hk]
  have eta : (⟨m.kind, m.key, m.val, m.err, m.hit, m.life, m.fr, m.to⟩ : Mv) = m := rfl
  refine f50_sh _ _ _ _ _ _ _ _ _ _ _ _ ⟨fun e _ h5 _ _ x => ?_, fun e1 => ⟨fun e _ _ _ _ x _ _ eb eh => ?_, fun e3 _ x _ _ eb eh => ?_⟩⟩
  · have hf : fate m = 1 := by simp only [eta, beq_iff_eq] at e; omega
    rw [e0, hf]
    refine (start_c h5).mono ?_
    rintro v h7 ⟨a, c, rfl, x7, s7, w7⟩
    exact ⟨x7.kp _, a, _, c, rfl, a, c, rfl, x.trans x7, s7, w7.down x.size⟩
  · have hf : fate m = 3 := by simp only [eta, beq_iff_eq] at e; omega
    rw [e0, hf]; exact New.lit x eb eh rfl rfl
  · have hf : fate m ≠ 1 ∧ fate m ≠ 3 := by simp [eta] at e1 e3; omega
    have : delF (fate m) w = [w] := by unfold delF; rw [if_neg hf.1, if_neg hf.2]
    rw [e0, this]; exact New.lit x eb eh rfl rfl
theorem other_c (w : Mt) (m : Mv) (hk : m.kind ≠ 1 ∧ m.kind ≠ 2 ∧ m.kind ≠ 3) (h : Heap) : HC Tryd.prog 39 #[mtV w, mvV m] h fun v h' => New eMt tMt h h' v (outs m w) := by
  have : outs m w = [w] := by unfold outs; rw [if_neg hk.1, if_neg hk.2.1, if_neg hk.2.2]
  rw [this]
  exact f39_sh _ _ _ _ _ _ _ _ _ _ _ _ fun _ x _ _ eb eh => New.lit x eb eh rfl rfl
end Go.Proofs.YtfjcciaabkjkgaaDoor
namespace Go.Proofs.YtfjcciaabkjkgaaDoor
open Go Ml
theorem mt_eq (x y : Mt) : (x.has == y.has && (x.val == y.val && true)) = decide (x = y) := by
  obtain ⟨a, b⟩ := x; obtain ⟨c, d⟩ := y
  rw [Bool.eq_iff_iff]
  simp [ba_beq]
theorem with_c {h : Heap} {a : Option Addr} {c : Nat} {L : List Mt} (s : Sl eMt h a c L) (hl : L.length ≤ 1099511627776) (m : Mt) :
    HC Tryd.prog 55 #[.slice a L.length c, mtV m] h fun v h' => Ext h h' ∧ Rd eMt h' v (insW L (norm m)) := by
  have hle := s.le
  refine f55_sh _ _ _ _ _ _ _ fun mc hmc => ?_
  subst hmc
  refine ⟨fun i => ∃ j : Nat, i = j ∧ j ≤ L.length ∧ ∀ t x, t < j → L[t]? = some x → mlt x (norm m) = true, fun i => L.length - i.toNat, ⟨0, rfl, Nat.zero_le _, fun t x ht => by omega⟩, ?_⟩
  rintro _ ⟨j, rfl, hj, hb⟩
  have fin : (∀ y, L[j]? = some y → mlt y (norm m) = false ∧ y ≠ norm m) → ∀ (m_b : Nat) (h5 : Heap), Array.size h ≤ m_b → m_b < Array.size h5 → Ext h h5 → ∀ nb h7, nb = Array.size h5 → h7 = Array.push h5 (.cells #[] tMt) →
      (0 ≤ (0 : Int) ∧ (0 : Int) ≤ (j : Int) ∧ (j : Int) ≤ (c : Int) ∧ ∀ sl : Option Addr, sl = slA a (Int.toNat 0) 2 c →
        HAppend Tryd.prog tMts tMts (.slice (some ⟨nb, 0, none⟩) 0 0) (.slice sl (Int.toNat (j : Int) - Int.toNat 0) (c - Int.toNat 0)) h7 (fun vv h8 => Kp [m_b] h7 h8 ∧ ∃ ap : Option Addr, ∃ ap_n ap_c : Nat, vv = (.slice ap ap_n ap_c) ∧
          (∀ nb_1 h9, nb_1 = Array.size h8 → h9 = Array.push h8 (.cells #[(.bool m.has), (.string (bif !m.has then ByteArray.empty else m.val))] tMt) →
            HAppend Tryd.prog tMts tMts (.slice ap ap_n ap_c) (.slice (some ⟨nb_1, 0, none⟩) 1 1) h9 (fun vv h10 => ∃ ap_1 : Option Addr, ∃ ap_n_1 ap_c_1 : Nat, vv = (.slice ap_1 ap_n_1 ap_c_1) ∧
              (0 ≤ (j : Int) ∧ (j : Int) ≤ (L.length : Int) ∧ (L.length : Int) ≤ (c : Int) ∧ ∀ sl_1 : Option Addr, sl_1 = slA a (Int.toNat (j : Int)) 2 c →
                HAppend Tryd.prog tMts tMts (.slice ap_1 ap_n_1 ap_c_1) (.slice sl_1 (Int.toNat (L.length : Int) - Int.toNat (j : Int)) (c - Int.toNat (j : Int))) h10 (fun vv h11 => ∃ ap_2 : Option Addr, ∃ ap_n_2 ap_c_2 : Nat, vv = (.slice ap_2 ap_n_2 ap_c_2) ∧ (Ext h h11 ∧ Rd eMt h11 (.slice ap_2 ap_n_2 ap_c_2) (insW L (norm m))))))))) := by
    intro hn m_b h5 lo lt5 x5 nb h7 eb eh
    have hmb : m_b ≠ nb := by omega
    refine ⟨by omega, by omega, by omega, fun sl es => ?_⟩
    subst es
    obtain ⟨a0, c0, e0, x0, s0, w0⟩ := New.lit (E := eMt) (h0 := h) (n := 0) (L := ([] : List Mt)) x5 eb eh rfl rfl
    cases e0
    refine app_own aMt x0 s0 w0 rfl ((s.ext x0).cut (l := 0) (r := j) (Nat.zero_le _) hj) (by simp; omega) (by simp; omega) ?_
    intro a1 c1 h8 x8 f8 s8 w8 _
    refine ⟨f8.kp fun b hb => by simp at hb; subst hb; rw [blkA_some]; exact hmb, a1, _, c1, rfl, ?_⟩
    intro nb1 h9 eb1 eh1
    refine app_one (x := norm m) aMt eb1 eh1 rfl x8 s8 w8 (by simp; omega) (by simp; omega) ?_
    intro a2 c2 h10 x10 _ s10 w10 _
    refine ⟨a2, _, c2, rfl, by omega, by omega, by omega, fun sl1 es1 => ?_⟩
    subst es1
    refine app_own aMt x10 s10 w10 (by simp; omega) ((s.ext x10).cut (l := j) (r := L.length) hj (Nat.le_refl _)) (by simp) (by simp; omega) ?_
    intro a3 c3 h11 x11 _ s11 _ _
    refine ⟨a3, _, c3, rfl, x11, a3, c3, ?_, s11.cast ?_⟩
    · rw [insW_at L (norm m) j hj hb (fun y hy => (hn y hy).1), if_neg (fun h => (hn _ h).2 rfl)]
      congr 1; simp; omega
    · rw [insW_at L (norm m) j hj hb (fun y hy => (hn y hy).1), if_neg (fun h => (hn _ h).2 rfl)]
      simp
  by_cases hjl : j < L.length
  · have hx := List.getElem?_eq_getElem hjl
    obtain ⟨b, o, e0, hc⟩ := s.at hx
    refine ⟨mlt L[j] (norm m), ⟨fun _ => ⟨b, o, e0, by omega, by omega, L[j].has, L[j].val, hc.1, hc.2.1, rfl⟩, fun e => absurd (ge_of_dec e) (by omega)⟩, fun e => ?_, fun e => ?_⟩
    · rw [wadd j (by omega)]
      refine ⟨⟨j + 1, rfl, hjl, fun t x ht hx' => ?_⟩, by simp only [Int.toNat_natCast]; omega⟩
      by_cases htj : t = j
      · subst htj; rw [hx] at hx'; cases hx'; exact e
      · exact hb t x (by omega) hx'
    · refine ⟨decide (L[j] = norm m), ⟨fun _ => ⟨b, o, e0, by omega, by omega, L[j].has, L[j].val, hc.1, hc.2.1, (mt_eq L[j] (norm m)).symm⟩, fun e => absurd (ge_of_dec e) (by omega)⟩, fun e2 h5 x5 => ?_, fun e2 => ?_⟩
      · have he : L[j] = norm m := by simpa using e2
        have := insW_at L (norm m) j hj hb (fun y hy => by rw [hx] at hy; cases hy; exact e)
        rw [hx, he, if_pos rfl] at this
        rw [this]
        exact ⟨x5, a, c, rfl, s.ext x5⟩
      · have hne : ¬ L[j] = norm m := by simpa using e2
        exact fin fun y hy => by rw [hx] at hy; cases hy; exact ⟨e, hne⟩
  · refine ⟨false, ⟨fun e => absurd (lt_of_dec e) hjl, fun _ => rfl⟩, fun e => (by cases e), fun _ => ⟨false, ⟨fun e => absurd (lt_of_dec e) hjl, fun _ => rfl⟩, fun e => (by cases e), fun _ => ?_⟩⟩
    exact fin fun y hy => absurd (List.getElem?_eq_some_iff.1 hy).1 hjl
end Go.Proofs.YtfjcciaabkjkgaaDoor
namespace Go.Proofs.YtfjcciaabkjkgaaDoor
open Go Ml
theorem compact_c {h : Heap} {a : Option Addr} {c N : Nat} {L : List Mt} (s : Sl eMt h a c L) (w : Own eMt.k tMt N h a c) (hl : L.length ≤ 1099511627776) :
    HC Tryd.prog 42 #[.slice a L.length c] h fun v h' => Fr (blkA a) h h' ∧ ∃ a' c', v = .slice a' (comp L).length c' ∧ Sl eMt h' a' c' (comp L) ∧ Own eMt.k tMt N h' a' c' ∧ ∀ b, blkA a' b → blkA a b := by
  have hle := s.le
  have done : comp L = L → (Fr (blkA a) h h ∧ ∃ a' c', Value.slice a L.length c = .slice a' (comp L).length c' ∧ Sl eMt h a' c' (comp L) ∧ Own eMt.k tMt N h a' c' ∧ ∀ b, blkA a' b → blkA a b) := fun e => by
    rw [e]; exact ⟨Fr.refl _ _, a, c, rfl, s, w, fun _ h => h⟩
  refine f42_sh _ _ _ _ _ ⟨fun e => ?_, fun e => ⟨fun i => ∃ j : Nat, i = j ∧ 1 ≤ j ∧ j ≤ L.length ∧ comp (L.take j) = L.take j, fun i => L.length - i.toNat, ⟨1, rfl, Nat.le_refl _, by simp at e; omega, ?_⟩, ?_⟩⟩
  · refine done ?_
    have : L.length < 2 := by simp at e; omega
    match L, this with
    | [], _ => rfl
    | [_], _ => rfl
  · have : 2 ≤ L.length := by simp at e; omega
    match L, this with
    | x :: _ :: _, _ => rfl
  rintro _ ⟨j, rfl, hj1, hj, hcj⟩
  refine ⟨fun hlt => ?_, fun hge => ?_⟩
  · have hjl := lt_of_dec hlt
    rw [wsub j hj1 (by omega)]
    obtain ⟨b, o, rfl, hc⟩ := s.addr (by omega)
    have c1 := hc j _ (List.getElem?_eq_getElem hjl)
    have c0 := hc (j - 1) _ (List.getElem?_eq_getElem (by omega : j - 1 < L.length))
    refine ⟨b, o, rfl, by omega, by omega, L[j].has, L[j].val, c1.1, c1.2.1, by omega, by omega, L[j - 1].has, L[j - 1].val, c0.1, c0.2.1, fun e2 => ?_, fun e2 => ?_⟩
    · rw [mt_eq] at e2
      have he : L[j] = L[j - 1] := by simpa using e2
      have hcj1 : comp (L.take (j + 1)) = L.take j := by rw [comp_take L j hj1 hjl, if_pos he.symm, hcj]; simp
      refine ⟨by omega, by omega, by omega, fun sl es => ?_⟩
      refine ⟨fun k1 k2 h1 => ∃ (u r : Nat) (M : List Mt), k1 = u ∧ k2 = r ∧ 1 ≤ r ∧ j + r ≤ L.length ∧ j ≤ u ∧ u ≤ j + r - 1 ∧ M.length = L.length ∧ M.take u = comp (L.take (j + r)) ∧ (∀ t, j + r - 1 ≤ t → M[t]? = L[t]?) ∧ Sl eMt h1 (some ⟨b, o, none⟩) c M ∧ Own eMt.k tMt N h1 (some ⟨b, o, none⟩) c ∧ Fr (blkA (some ⟨b, o, none⟩)) h h1,
        fun _ k2 _ => L.length - k2.toNat, ⟨j, 1, L, rfl, rfl, by omega, by omega, by omega, by omega, rfl, hcj1.symm, fun _ _ => rfl, s, w, Fr.refl _ _⟩, ?_⟩
      rintro _ _ h1 ⟨u, r, M, rfl, rfl, hr1, hr, hu, hur, hM, htk, hsame, s1, w1, f1⟩
      obtain ⟨o', eo, ho'⟩ := slA_some (b := b) (o := o) (l := j) (sz := 2) (m := c)
      have hjc : j ≠ c := by have := s.le; omega
      have ho'' := ho' hjc
      have esl : sl = some ⟨b, o', none⟩ := es.trans eo
      refine ⟨fun hlt2 => ?_, fun hge2 => ?_⟩
      · have hrl : j + r < L.length := by simp at hlt2; omega
        have cell : ∀ t, j + r - 1 ≤ t → (ht : t < L.length) → HCells h1 b (o' + (t - j) * 2) [.bool L[t].has, .string L[t].val] := fun t ht1 ht => by
          have hx : M[t]? = some L[t] := by rw [hsame t ht1]; exact List.getElem?_eq_getElem ht
          obtain ⟨b', o2, e, hc⟩ := s1.at hx
          cases e
          have : o' + (t - j) * 2 = o + t * 2 := by omega
          rw [this]; exact hc
        have d1 := cell (j + r) (by omega) hrl
        have d0 := cell (j + r - 1) (by omega) (by omega)
        rw [wsub r hr1 (by omega)]
        have e1 : j + r - j = r := by omega
        have e0 : j + r - 1 - j = r - 1 := by omega
        rw [e1] at d1; rw [e0] at d0
        refine ⟨fun k1 h2 => ∃ (u' : Nat) (M : List Mt), k1 = u' ∧ j ≤ u' ∧ u' ≤ j + r ∧ M.length = L.length ∧ M.take u' = comp (L.take (j + r + 1)) ∧ (∀ t, j + r ≤ t → M[t]? = L[t]?) ∧ Sl eMt h2 (some ⟨b, o, none⟩) c M ∧ Own eMt.k tMt N h2 (some ⟨b, o, none⟩) c ∧ Fr (blkA (some ⟨b, o, none⟩)) h h2, ?_, ?_⟩
        · refine ⟨b, o', esl, by omega, by simp; omega, L[j + r].has, L[j + r].val, d1.1, d1.2.1, by omega, by simp; omega, L[j + r - 1].has, L[j + r - 1].val, d0.1, d0.2.1, fun e3 => ?_, fun e3 => ?_⟩
          · rw [mt_eq] at e3
            have hne : ¬ L[j + r] = L[j + r - 1] := by simpa using e3
            obtain ⟨hw, s2, w2⟩ := s1.put w1 (i := u) (by omega) L[j + r]
            refine ⟨by omega, by omega, hw, fun h3 e4 => ?_⟩
            rw [wadd u (by omega)]
            have eh : h3 = hsets h1 b (o + u * eMt.k) (eMt.enc L[j + r]) := e4
            rw [← eh] at s2 w2
            refine ⟨u + 1, M.set u L[j + r], rfl, by omega, by omega, by simpa using hM, ?_, fun t ht => ?_, s2, w2, ?_⟩
            · rw [comp_take L (j + r) (by omega) hrl, if_neg (fun h => hne h.symm), ← htk, List.take_add_one, List.getElem?_set_self (by omega)]
              rw [List.take_set_of_le (Nat.le_refl _)]
              rfl
            · rw [List.getElem?_set_ne (by omega)]; exact hsame t (by omega)
            · rw [eh]; exact f1.trans (fr_hsets (fun b' => b' = b) (fun _ => rfl)) (fun i _ hi => by rw [blkA_some]; exact hi)
          · rw [mt_eq] at e3
            have he3 : L[j + r] = L[j + r - 1] := by simpa using e3
            refine ⟨u, M, rfl, hu, by omega, hM, ?_, fun t ht => hsame t (by omega), s1, w1, f1⟩
            rw [comp_take L (j + r) (by omega) hrl, if_pos he3.symm, ← htk]; simp
        · rintro _ h2 ⟨u', M', rfl, hu1, hu2, hM', htk', hsame', s2, w2, f2⟩
          rw [wadd r (by omega)]
          refine ⟨⟨u', r + 1, M', rfl, rfl, by omega, by omega, hu1, by omega, hM', htk', fun t ht => hsame' t (by omega), s2, w2, f2⟩, ?_⟩
          simp only [Int.toNat_natCast]; omega
      · have hrl : j + r = L.length := by simp at hge2; omega
        have hulen : u = (comp L).length := by
          have := congrArg List.length htk
          rw [hrl, List.take_length, List.length_take] at this; omega
        obtain ⟨cs, hrow, hcs, _⟩ := w1.row
        have hul : u ≤ L.length := by omega
        refine ⟨by omega, by omega, by omega, fun sl1 es1 => ?_⟩
        obtain ⟨o3, eo3, ho3⟩ := slA_some (b := b) (o := o) (l := u) (sz := 2) (m := c)
        have es1' : sl1 = some ⟨b, o3, none⟩ := es1.trans eo3
        have ho3' : L.length - u ≠ 0 → o3 = o + u * 2 := fun hn => ho3 (by have := s.le; omega)
        refine ⟨fun hn => ⟨b, o3, es1', ?_⟩, fun h4 q1 q2 => ?_⟩
        · rw [ho3' (by simpa using hn)]
          have k2 : eMt.k = 2 := rfl
          rw [k2] at hcs
          refine HWs_row hrow ?_
          simp; omega
        · refine ⟨by omega, by omega, by omega, fun sl2 es2 => ?_⟩
          have final : Fr (blkA (some ⟨b, o, none⟩)) h h4 ∧ Sl eMt h4 (some ⟨b, o, none⟩) c (comp L) ∧ Own eMt.k tMt N h4 (some ⟨b, o, none⟩) c := by
            have e5 : M.take u = comp L := by rw [htk, hrl, List.take_length]
            by_cases hn : L.length - u = 0
            · rw [q1 (by simpa using hn)]
              have : M.take u = M := List.take_of_length_le (by omega)
              rw [← e5, this]
              exact ⟨f1, s1, w1⟩
            · rw [q2 b o3 (by simpa using hn) es1']
              refine ⟨f1.trans (fr_hsets (fun b' => b' = b) (fun _ => rfl)) (fun i _ hi => by rw [blkA_some]; exact hi), ?_, Own.hsets w1 _ _ _⟩
              rw [← e5]
              exact s1.before (by rw [ho3' hn]; exact Nat.le_refl _) _
          obtain ⟨g1, g2, g3⟩ := final
          have es2' : sl2 = some ⟨b, o, none⟩ := by
            rw [es2]; unfold slA; split <;> simp [add_lit]
          refine ⟨g1, sl2, c, ?_, by rw [es2']; exact g2, by rw [es2']; exact g3, fun b' hb' => by rw [es2'] at hb'; exact hb'⟩
          rw [← hulen]; simp
    · rw [mt_eq] at e2
      have hne : ¬ L[j] = L[j - 1] := by simpa using e2
      rw [wadd j (by omega)]
      refine ⟨⟨j + 1, rfl, by omega, hjl, ?_⟩, by simp only [Int.toNat_natCast]; omega⟩
      rw [comp_take L j hj1 hjl, if_neg (fun h => hne h.symm), hcj, List.take_add_one, List.getElem?_eq_getElem hjl]
      rfl
  · have hjl : j = L.length := by have := ge_of_dec hge; omega
    rw [hjl, List.take_length] at hcj
    exact done hcj
end Go.Proofs.YtfjcciaabkjkgaaDoor
namespace Go.Proofs.YtfjcciaabkjkgaaDoor
open Go
open Go.Proofs.YtfjcciaabkjkgaaDoor renaming hl_val → lv, hl_step → lp, hl_nil → ln, hl_yes → ly, hl_no → lo, hx_seq → xs, hx_region → xr, hx_cond → xc, hx_block → xb, hx_loopT → xl, hx_cut → xk, hx_has → xh, hx_skip → xi, hx_ret → xt, hx_exit → xe, seqQ_n → qn, seqQ_exit → qe, blockQ_n → bn, blockQ_here → bh, hv_move → vm, hv_assign → va, hv_arith → vr, hv_load → vl, hv_loads → vL, hv_extract → vx, hv_field → vf, hv_build → vb, hv_index → vi, hp_pure → pp, hp_read → pr, has_cons → hc, has_nil → hn, hcells_cons → cc, hcells_nil → cn, rowcell → rc, hs_call → sc
set_option maxRecDepth 100000
set_option maxHeartbeats 4000000
theorem TyShD.agg25 : aggB Tryd.prog 25 = some false := by kernel_rfl
theorem TyShD.agg3 : aggB Tryd.prog 3 = some false := by kernel_rfl
theorem TyShD.agg30 : aggB Tryd.prog 30 = some true := by kernel_rfl
theorem TyShD.agg4 : aggB Tryd.prog 4 = some false := by kernel_rfl
theorem TyShD.agg62 : aggB Tryd.prog 62 = some true := by kernel_rfl
theorem TyShD.agg9 : aggB Tryd.prog 9 = some false := by kernel_rfl
theorem TyShD.cb38 : CallB Tryd.prog 38 := fun _ _ => Tryd.call38 _ _
theorem TyShD.cb40 : CallB Tryd.prog 40 := fun _ _ => Tryd.call40 _ _
theorem TyShD.cb42 : CallB Tryd.prog 42 := fun _ _ => Tryd.call42 _ _
theorem TyShD.cb54 : CallB Tryd.prog 54 := fun _ _ => Tryd.call54 _ _
theorem TyShD.cb55 : CallB Tryd.prog 55 := fun _ _ => Tryd.call55 _ _
theorem TyShD.el43 : elB Tryd.prog 43 = some 2 := by kernel_rfl
theorem TyShD.fld30_0 : fldB Tryd.prog 30 0 = some 0 := by kernel_rfl
theorem TyShD.fld30_2 : fldB Tryd.prog 30 2 = some 2 := by kernel_rfl
theorem TyShD.fld30_3 : fldB Tryd.prog 30 3 = some 3 := by kernel_rfl
theorem TyShD.fld30_4 : fldB Tryd.prog 30 4 = some 4 := by kernel_rfl
theorem TyShD.fld30_7 : fldB Tryd.prog 30 7 = some 7 := by kernel_rfl
theorem TyShD.fld62_0 : fldB Tryd.prog 62 0 = some 0 := by kernel_rfl
theorem TyShD.fld62_1 : fldB Tryd.prog 62 1 = some 1 := by kernel_rfl
theorem TyShD.mixed : Tryd.prog.follows .mixedOrders = true := by kernel_rfl
theorem TyShD.pl62 : plB Tryd.prog 62 = some [(0, 1), (1, 1)] := by kernel_rfl
theorem TyShD.sz30 : szB Tryd.prog 30 = some 8 := by kernel_rfl
theorem TyShD.sz62 : szB Tryd.prog 62 = some 2 := by kernel_rfl
theorem TyShD.u3 : Tryd.prog.underlying 3 = some (.int .i64) := by kernel_rfl
theorem TyShD.u43 : Tryd.prog.underlying 43 = some (.slice 62) := by kernel_rfl
theorem TyShD.u67 : Tryd.prog.underlying 67 = some (.map 3 65) := by kernel_rfl
theorem TyShD.z62 : zeroB Tryd.prog 62 (.agg #[(.bool false), (.string ByteArray.empty)]) := by unfold zeroB; kernel_rfl
theorem TyShD.z65 : zeroB Tryd.prog 65 .nilFunc := by unfold zeroB; kernel_rfl
theorem ext_pushed_f44_sh {h h1 : Heap} {o : Obj} (e : h1 = Array.push h o) : Ext h h1 := by rw [e]; exact Ext.push _ _
theorem f21_sh (l : Option Addr) (b2 : Nat) (c7 : Nat) (a0 : Int) (b1 : ByteArray) (a3 : ByteArray) (b0 : Int) (a9 : Bool) (a7 : Int) (a6 : Int) (b3 : Int) (h : Heap) (R : Value → Heap → Prop)
  (H : (∀ (m : Nat) (h1 : Heap), Array.size h ≤ m → m < Array.size h1 → Ext h h1 → HC Tryd.prog 38 #[] h1 (fun vv h2 => Ext h1 h2 ∧ ∃ r : Option Nat, vv = (.map r) ∧ (∃ d2 : Nat, r = some d2 ∧ ∃ kv : List (Int × Value), MapL h2 d2 (Value.int .i64) kv ∧ ∃ x : Value, (lk kv a0).getD .nilFunc = x ∧ (∀ b6 : Value, b6 = (bif !((lk kv a0).isSome) then (.func (.func 39) #[] #[]) else x) → (∃ (c6 : Option Addr → Nat → Nat → Int → Heap → Prop) (c2 : Option Addr → Nat → Nat → Int → Heap → Nat), c6 none 0 0 0 h2 ∧ (∀ (b5 : Option Addr) (a5 : Nat) (a4 : Nat) (v : Int) (h3 : Heap), c6 b5 a5 a4 v h3 → (((decide (v < (b2 : Int))) = true → (∃ c5 c4 : Nat, l = some ⟨c5, c4, none⟩ ∧ (0 : Int) ≤ v ∧ v < (b2 : Int) ∧ (∃ a8 : Bool, ∃ a1 : ByteArray, hcell h3 c5 (c4 + (Int.toNat v) * 2) = some (.bool a8) ∧ hcell h3 c5 ((c4 + (Int.toNat v) * 2) + 1) = some (.string a1) ∧ (∀ (h5 : Heap), Ext h3 h5 → HCV Tryd.prog b6 [(.agg #[(.bool a8), (.string a1)]), (.agg #[(.int .i64 a0), (.string b1), (.string a3), (.int .i64 b0), (.bool a9), (.int .i64 a7), (.int .i64 a6), (.int .i64 b3)])] h5 (fun vv h6 => Kp [m] h5 h6 ∧ ∃ b9 : Option Addr, ∃ c1 c0 : Nat, vv = (.slice b9 c1 c0) ∧ HAppend Tryd.prog 43 43 (.slice b5 a5 a4) (.slice b9 c1 c0) h6 (fun vv h7 => Kp [m] h6 h7 ∧ ∃ ap : Option Addr, ∃ b8 b7 : Nat, vv = (.slice ap b8 b7) ∧ (c6 ap b8 b7 (IntKind.i64.wrap (v + 1)) h7 ∧ c2 ap b8 b7 (IntKind.i64.wrap (v + 1)) h7 < c2 b5 a5 a4 v h3))))))) ∧ ((decide (v < (b2 : Int))) = false → HC Tryd.prog 40 #[(.slice b5 a5 a4), (.func (.func 41) #[] #[])] h3 (fun vv h8 => vv = (.tuple #[]) ∧ HC Tryd.prog 42 #[(.slice b5 a5 a4)] h8 (fun vv h9 => ∃ b9 : Option Addr, ∃ c1 c0 : Nat, vv = (.slice b9 c1 c0) ∧ R (.slice b9 c1 c0) h9))))))))))) :
  HC Tryd.prog 21 #[(.slice l b2 c7), (.agg #[(.int .i64 a0), (.string b1), (.string a3), (.int .i64 b0), (.bool a9), (.int .i64 a7), (.int .i64 a6), (.int .i64 b3)])] h R := by
 refine hc_of (args := [(.slice l b2 c7), (.agg #[(.int .i64 a0), (.string b1), (.string a3), (.int .i64 b0), (.bool a9), (.int .i64 a7), (.int .i64 a6), (.int .i64 b3)])]) Tryd.func21 rfl Tryd.ntmps21 (Nat.le_of_ble_eq_true rfl) ?_
 refine xs (xr ?_)
 refine lp rfl rfl (hn_box (v := (.agg #[(.int .i64 a0), (.string b1), (.string a3), (.int .i64 b0), (.bool a9), (.int .i64 a7), (.int .i64 a6), (.int .i64 b3)])) rfl ?_)
 intro m h1 e0 d9
 have f5 := ext_pushed_f44_sh d9
 have f6 : Array.size h ≤ m := Nat.le_of_eq (Eq.symm e0)
 have c3 : h1[m]? = some (.cells #[(.int .i64 a0), (.string b1), (.string a3), (.int .i64 b0), (.bool a9), (.int .i64 a7), (.int .i64 a6), (.int .i64 b3)] 30 (0, 0)) := by rw [d9]; exact push_new e0
 refine lv rfl rfl (va rfl) ?_
 refine ln (qn (xs ?_))
 refine hx_draw TyShD.mixed [.ext, .pure, .read, .read, .pure, .pure, .pure, .pure, .pure] [1, 2, 0, 3, 4, 5, 6, 7, 8] (by kernel_rfl) ?_
 refine pp (i := 1) rfl (wanted_0 rfl) rfl (ptr m 0) (fun _ => vf TyShD.fld30_0 (b := m) (o := 0) rfl) ?_
 refine pr (i := 2) rfl (wanted_0 rfl) rfl (.int .i64 a0) (fun _ he => vl TyShD.agg3 rfl (Ext.cell he (rc c3 rfl))) ?_
 replace H := H m h1 f6 (row_lt c3) f5
 refine hp_ext (i := 0) rfl (wanted_0 rfl) rfl (sc TyShD.cb38 rfl (HC.mono H ?_))
 rintro _ h2 ⟨d8, r, rfl, H⟩
 refine ⟨d8, ?_⟩
 replace c3 := Ext.row d8 c3
 obtain ⟨d2, d6, Hq⟩ := H
 subst d6
 have H := Hq; clear Hq
 obtain ⟨kv, f4, x, f3, H⟩ := H
 refine pr (i := 3) rfl (wanted_0 rfl) rfl (.tuple #[x, (.bool ((lk kv a0).isSome))]) (fun _ he => hv_look2 (l := kv) (a := a0) (intK .i64) TyShD.u67 TyShD.u3 TyShD.z65 rfl rfl (MapL.ext he f4) f3) ?_
 refine pp (i := 4) rfl (wanted_0 rfl) rfl (.tuple #[x, (.bool ((lk kv a0).isSome))]) (fun _ => vm rfl) ?_
 refine pp (i := 5) rfl (wanted_0 rfl) rfl x (fun _ => vx (vs := #[x, (.bool ((lk kv a0).isSome))]) rfl rfl) ?_
 refine pp (i := 6) rfl (wanted_0 rfl) rfl (.bool ((lk kv a0).isSome)) (fun _ => vx (vs := #[x, (.bool ((lk kv a0).isSome))]) rfl rfl) ?_
 refine pp (i := 7) rfl (wanted_0 rfl) rfl x (fun _ => va rfl) ?_
 refine pp (i := 8) rfl (wanted_0 rfl) rfl (.bool ((lk kv a0).isSome)) (fun _ => va rfl) ?_
 refine hp_nil ?_
 refine qn ?_
 obtain ⟨b6, hq11⟩ : ∃ q : Value, q = (bif !((lk kv a0).isSome) then (.func (.func 39) #[] #[]) else x) := ⟨_, rfl⟩
 replace H := H b6 hq11
 refine xk (fun ρ h' => h2 = h' ∧ Has ρ [(0, (.slice l b2 c7)), (3, (ptr m 0)), (5, b6)]) ?_ ?_
 ·refine xs (xr ?_)
  refine lv rfl rfl (vm rfl) (lv rfl rfl (v := (.bool (!((lk kv a0).isSome)))) (hv_not (b := (lk kv a0).isSome) rfl) ?_)
  refine ln (qn ?_)
  refine xc (b := !((lk kv a0).isSome)) rfl (fun b4 => ?_) (fun b4 => ?_)
  ·refine xr ?_
   refine lv rfl rfl (va rfl) ?_
   refine ln (qn ?_)
   exact ⟨rfl, (hc rfl (hc rfl (hc (show ((.func (.func 39) #[] #[]) : Value) = b6 from (by first | rfl | ((try rw [b4]); (try rw [hq11]); (try rw [b4]); all_goals first | rfl | (simp only [Bool.true_or, Bool.or_true, Bool.false_or, Bool.or_false, Bool.true_and, Bool.and_true, Bool.false_and, Bool.and_false, Bool.not_true, Bool.not_false, Bool.cond_true, Bool.cond_false]; done)) | simp [b4, hq11, b4])) hn)))⟩
  ·refine xi (qn ?_)
   exact ⟨rfl, (hc rfl (hc rfl (hc (show (x : Value) = b6 from (by first | rfl | ((try rw [b4]); (try rw [hq11]); (try rw [b4]); all_goals first | rfl | (simp only [Bool.true_or, Bool.or_true, Bool.false_or, Bool.or_false, Bool.true_and, Bool.and_true, Bool.false_and, Bool.and_false, Bool.not_true, Bool.not_false, Bool.cond_true, Bool.cond_false]; done)) | simp [b4, hq11, b4])) hn)))⟩
 ·rintro ρ _ ⟨rfl, hH⟩
  refine xh _ hH ?_
  refine xs (xr ?_)
  refine lv rfl rfl (va rfl) ?_
  refine ln (qn (xs (xs (xr ?_))))
  refine lv rfl rfl (vm rfl) (lv rfl rfl (v := (.int .i64 (b2 : Int))) (hv_len (n := b2) TyShD.u43 rfl) (lv rfl rfl (vm rfl) ?_))
  refine ln (qn (xb ?_))
  obtain ⟨c6, c2, e6, e8⟩ := H
  refine xl (σ := Option Addr × Nat × Nat × Int) (fun s => [(3, (ptr m 0)), (5, b6), (7, (.slice s.1 s.2.1 s.2.2.1)), (19, (.slice l b2 c7)), (20, (.int .i64 (b2 : Int))), (21, (.int .i64 s.2.2.2))]) (fun s h' => c6 s.1 s.2.1 s.2.2.1 s.2.2.2 h' ∧ h'[m]? = some (.cells #[(.int .i64 a0), (.string b1), (.string a3), (.int .i64 b0), (.bool a9), (.int .i64 a7), (.int .i64 a6), (.int .i64 b3)] 30 (0, 0)) ∧ True) (fun s h' => c2 s.1 s.2.1 s.2.2.1 s.2.2.2 h') (none, 0, 0, 0) ⟨e6, c3, trivial⟩ (hc rfl (hc rfl (hc rfl (hc rfl (hc rfl (hc rfl hn)))))) ?_
  rintro ⟨b5, a5, a4, v⟩ ρ h3 ⟨e1, a2, -⟩
  have H := e8 b5 a5 a4 v h3 e1
  refine xs (xr ?_)
  refine lv rfl rfl (vr rfl rfl rfl) ?_
  refine ln (qn (xs ?_))
  refine xc (b := decide (v < (b2 : Int))) rfl (fun c8 => ?_) (fun c8 => ?_)
  ·replace H := H.1 c8
   refine xi (qn (xs (xb (xs (xr ?_)))))
   obtain ⟨c5, c4, d6, e4, e7, Hq⟩ := H
   subst d6
   have H := Hq; clear Hq
   refine lv rfl rfl (v := (ptr c5 (c4 + (Int.toNat v) * 2))) (vi TyShD.el43 rfl rfl e4 e7) ?_
   obtain ⟨a8, a1, e5, e3, H⟩ := H
   refine lv rfl rfl (vL (vs := [(.bool a8), (.string a1)]) TyShD.agg62 TyShD.sz62 rfl (cc e5 (cc e3 cn))) ?_
   refine lp rfl rfl (hn_alloc TyShD.z62 ?_)
   intro d5 h4 d0 d7
   have d4 := ext_pushed_f44_sh d7
   have e9 := Nat.ne_of_lt (Nat.lt_of_lt_of_eq (row_lt a2) (Eq.symm d0))
   have f1 : Array.size h3 ≤ d5 := Nat.le_of_eq (Eq.symm d0)
   have d3 : h4[d5]? = some (.cells #[(.bool false), (.string ByteArray.empty)] 62 (0, 0)) := by rw [d7]; exact push_new d0
   replace a2 := Ext.row d4 a2
   refine lp rfl rfl (hn_stores (vs := [(.bool a8), (.string a1)]) rfl rfl TyShD.sz62 rfl (HWs_row d3 (by simp)) ?_)
   intro h5 c9
   replace a2 := row_hsets_ne c9 e9 a2
   have d1 : h5[d5]? = some (.cells #[(.bool a8), (.string a1)] 62 (0, 0)) := row_hsets_eq c9 d3 rfl
   have f2 := ext_hsets c9 d4 f1
   refine ln (qn (xr ?_))
   refine lv rfl rfl (vm rfl) (lv rfl rfl (vm rfl) (lv rfl rfl (vL (vs := [(.bool a8), (.string a1)]) TyShD.agg62 TyShD.sz62 rfl (cc (rc d1 rfl) (cc (rc d1 rfl) cn))) (lv rfl rfl (vL (vs := [(.int .i64 a0), (.string b1), (.string a3), (.int .i64 b0), (.bool a9), (.int .i64 a7), (.int .i64 a6), (.int .i64 b3)]) TyShD.agg30 TyShD.sz30 rfl (cc (rc a2 rfl) (cc (rc a2 rfl) (cc (rc a2 rfl) (cc (rc a2 rfl) (cc (rc a2 rfl) (cc (rc a2 rfl) (cc (rc a2 rfl) (cc (rc a2 rfl) cn))))))))) ?_)))
   replace H := H h5 f2
   refine lp rfl rfl (hs_callF (vs := [(.agg #[(.bool a8), (.string a1)]), (.agg #[(.int .i64 a0), (.string b1), (.string a3), (.int .i64 b0), (.bool a9), (.int .i64 a7), (.int .i64 a6), (.int .i64 b3)])]) rfl rfl (HCV.mono H ?_))
   rintro _ h6 ⟨e2, b9, c1, c0, rfl, H⟩
   replace a2 := Kp.row e2 (by simp) a2
   refine lp rfl rfl (hs_append rfl rfl (HAppend.mono H ?_))
   rintro _ h7 ⟨f0, ap, b8, b7, rfl, H⟩
   replace a2 := Kp.row f0 (by simp) a2
   refine lv rfl rfl (va rfl) ?_
   refine ln (bn (qn (xr ?_)))
   refine lv rfl rfl (vr rfl rfl rfl) (lv rfl rfl (vm rfl) ?_)
   refine ln (qn ?_)
   exact ⟨(ap, b8, b7, IntKind.i64.wrap (v + 1)), ⟨⟨H.1, a2, trivial⟩, H.2⟩, (hc rfl (hc rfl (hc rfl (hc rfl (hc rfl (hc rfl hn))))))⟩
  ·replace H := H.2 c8
   refine xe (qe (qe (bh (qn (xs (xr ?_))))))
   refine lv rfl rfl (vm rfl) ?_
   refine lp rfl rfl (sc TyShD.cb40 rfl (HC.mono H ?_))
   rintro _ h8 ⟨rfl, H⟩
   refine ln (qn (xs (xr ?_)))
   refine lv rfl rfl (vm rfl) ?_
   refine lp rfl rfl (sc TyShD.cb42 rfl (HC.mono H ?_))
   rintro _ h9 ⟨b9, c1, c0, rfl, H⟩
   refine lv rfl rfl (va rfl) ?_
   refine ln (qn (xt ?_))
   exact endQ_ret _ (res_one Tryd.results21 (rv_tmp rfl)) H
theorem f44_sh (l : Option Addr) (c4 : Nat) (d0 : Nat) (a1 : Int) (a7 : ByteArray) (a0 : ByteArray) (a2 : Int) (a3 : Bool) (a5 : Int) (a4 : Int) (a6 : Int) (h : Heap) (R : Value → Heap → Prop)
  (H : (∀ (m : Nat) (h2 : Heap), Array.size h ≤ m → m < Array.size h2 → Ext h h2 → (∃ (e4 : Option Addr → Nat → Nat → Int → Heap → Prop) (e0 : Option Addr → Nat → Nat → Int → Heap → Nat), e4 none 0 0 0 h2 ∧ (∀ (c9 : Option Addr) (c0 : Nat) (b9 : Nat) (i : Int) (h3 : Heap), e4 c9 c0 b9 i h3 → (((decide (i < (c4 : Int))) = true → (∃ d9 : Option Addr → Nat → Nat → Heap → Prop, (∃ d2 d1 : Nat, l = some ⟨d2, d1, none⟩ ∧ (0 : Int) ≤ i ∧ i < (c4 : Int) ∧ (∃ a9 : Bool, ∃ a8 : ByteArray, hcell h3 d2 (d1 + (Int.toNat i) * 2) = some (.bool a9) ∧ hcell h3 d2 ((d1 + (Int.toNat i) * 2) + 1) = some (.string a8) ∧ (((((a1 == 1) && ((decide (a6 ≥ 0)) && ((a2 == 0) && a3))) && ((!a9) || (!decide (a8 = a0)))) = true → (∀ (h6 : Heap), Ext h3 h6 → (d9 c9 c0 b9 h6))) ∧ ((((a1 == 1) && ((decide (a6 ≥ 0)) && ((a2 == 0) && a3))) && ((!a9) || (!decide (a8 = a0)))) = false → (∃ e2 : Option Addr → Nat → Nat → Heap → Prop, ((((Ml.doesR ⟨a1, a7, a0, a2, a3, a5, a4, a6⟩).1) = true → (∀ (h6 : Heap), Ext h3 h6 → HC Tryd.prog 55 #[(.slice c9 c0 b9), (.agg #[(.bool a9), (.string a8)])] h6 (fun vv h8 => Kp [m] h6 h8 ∧ ∃ r : Option Addr, ∃ g2 g1 : Nat, vv = (.slice r g2 g1) ∧ (e2 r g2 g1 h8)))) ∧ (((Ml.doesR ⟨a1, a7, a0, a2, a3, a5, a4, a6⟩).1) = false → (∀ (h6 : Heap), Ext h3 h6 → (e2 c9 c0 b9 h6)))) ∧ (∀ (c3 : Option Addr) (b3 : Nat) (b2 : Nat) (h7 : Heap), e2 c3 b3 b2 h7 → (∃ e3 : Option Addr → Nat → Nat → Heap → Prop, ((((Ml.doesR ⟨a1, a7, a0, a2, a3, a5, a4, a6⟩).2.1) = true → HC Tryd.prog 55 #[(.slice c3 b3 b2), (.agg #[(.bool true), (.string a0)])] h7 (fun vv g6 => Kp [m] h7 g6 ∧ ∃ g0 : Option Addr, ∃ d3 d6 : Nat, vv = (.slice g0 d3 d6) ∧ (e3 g0 d3 d6 g6))) ∧ (((Ml.doesR ⟨a1, a7, a0, a2, a3, a5, a4, a6⟩).2.1) = false → (e3 c3 b3 b2 h7))) ∧ (∀ (c2 : Option Addr) (b4 : Nat) (b1 : Nat) (h9 : Heap), e3 c2 b4 b1 h9 → ((((Ml.doesR ⟨a1, a7, a0, a2, a3, a5, a4, a6⟩).2.2) = true → HC Tryd.prog 55 #[(.slice c2 b4 b1), (.agg #[(.bool false), (.string ByteArray.empty)])] h9 (fun vv g5 => Kp [m] h9 g5 ∧ ∃ f9 : Option Addr, ∃ d7 d5 : Nat, vv = (.slice f9 d7 d5) ∧ (d9 f9 d7 d5 g5))) ∧ (((Ml.doesR ⟨a1, a7, a0, a2, a3, a5, a4, a6⟩).2.2) = false → (d9 c2 b4 b1 h9))))))))))) ∧ (∀ (c6 : Option Addr) (b7 : Nat) (b8 : Nat) (h4 : Heap), d9 c6 b7 b8 h4 → (e4 c6 b7 b8 (IntKind.i64.wrap (i + 1)) h4 ∧ e0 c6 b7 b8 (IntKind.i64.wrap (i + 1)) h4 < e0 c9 c0 b9 i h3)))) ∧ ((decide (i < (c4 : Int))) = false → R (.slice c9 c0 b9) h3)))))) :
  HC Tryd.prog 44 #[(.slice l c4 d0), (.agg #[(.int .i64 a1), (.string a7), (.string a0), (.int .i64 a2), (.bool a3), (.int .i64 a5), (.int .i64 a4), (.int .i64 a6)])] h R := by
 refine hc_of (args := [(.slice l c4 d0), (.agg #[(.int .i64 a1), (.string a7), (.string a0), (.int .i64 a2), (.bool a3), (.int .i64 a5), (.int .i64 a4), (.int .i64 a6)])]) Tryd.func44 rfl Tryd.ntmps44 (Nat.le_of_ble_eq_true rfl) ?_
 refine xs (xr ?_)
 refine lp rfl rfl (hn_box (v := (.agg #[(.int .i64 a1), (.string a7), (.string a0), (.int .i64 a2), (.bool a3), (.int .i64 a5), (.int .i64 a4), (.int .i64 a6)])) rfl ?_)
 intro m h1 i0 g9
 have j7 := ext_pushed_f44_sh g9
 have k0 : Array.size h ≤ m := Nat.le_of_eq (Eq.symm i0)
 have c5 : h1[m]? = some (.cells #[(.int .i64 a1), (.string a7), (.string a0), (.int .i64 a2), (.bool a3), (.int .i64 a5), (.int .i64 a4), (.int .i64 a6)] 30 (0, 0)) := by rw [g9]; exact push_new i0
 refine lv rfl rfl (va rfl) ?_
 refine ln (qn (xs (xr ?_)))
 refine lv rfl rfl (va rfl) ?_
 refine ln (qn (xs (xr ?_)))
 refine lv rfl rfl (vL (vs := [(.int .i64 a1), (.string a7), (.string a0), (.int .i64 a2), (.bool a3), (.int .i64 a5), (.int .i64 a4), (.int .i64 a6)]) TyShD.agg30 TyShD.sz30 rfl (cc (rc c5 rfl) (cc (rc c5 rfl) (cc (rc c5 rfl) (cc (rc c5 rfl) (cc (rc c5 rfl) (cc (rc c5 rfl) (cc (rc c5 rfl) (cc (rc c5 rfl) cn))))))))) ?_
 refine lp rfl rfl (sc TyShD.cb54 rfl (HC.mono (does_c (⟨a1, a7, a0, a2, a3, a5, a4, a6⟩) _) ?_))
 rintro _ h2 ⟨rfl, g8⟩
 replace c5 := Ext.row g8 c5
 have j8 := Ext.trans j7 g8
 refine lv rfl rfl (vm rfl) (lv rfl rfl (vx rfl rfl) (lv rfl rfl (vx rfl rfl) (lv rfl rfl (vx rfl rfl) (lv rfl rfl (va rfl) (lv rfl rfl (va rfl) ?_)))))
 refine lv rfl rfl (va rfl) ?_
 refine ln (qn ?_)
 refine xk (fun ρ h' => h2 = h' ∧ Has ρ [(0, (.slice l c4 d0)), (3, (ptr m 0)), (5, (.slice none 0 0)), (6, (.bool ((Ml.doesR ⟨a1, a7, a0, a2, a3, a5, a4, a6⟩).1))), (7, (.bool ((Ml.doesR ⟨a1, a7, a0, a2, a3, a5, a4, a6⟩).2.1))), (8, (.bool ((Ml.doesR ⟨a1, a7, a0, a2, a3, a5, a4, a6⟩).2.2))), (9, (.bool ((a1 == 1) && ((decide (a6 ≥ 0)) && ((a2 == 0) && a3)))))]) ?_ ?_
 ·refine xr ?_
  refine lv rfl rfl (v := (ptr m 0)) (vf TyShD.fld30_0 (b := m) (o := 0) rfl) (lv rfl rfl (vl TyShD.agg3 rfl (rc c5 rfl)) (lv rfl rfl (vr rfl rfl rfl) (lv rfl rfl (vm rfl) ?_)))
  rcases bool_or (a1 == 1) with b5 | b5
  ·refine ly (wanted_y rfl rfl rfl b5) rfl (HStep.of_val (v := (ptr m 7)) (vf TyShD.fld30_7 (b := m) (o := 0) rfl) ?_)
   refine ly (wanted_y rfl rfl rfl b5) rfl (HStep.of_val (v := (.int .i64 a6)) (vl TyShD.agg3 rfl (rc c5 rfl)) ?_)
   refine ly (wanted_y rfl rfl rfl b5) rfl (HStep.of_val (v := (.bool (decide (a6 ≥ 0)))) (vr rfl rfl rfl) ?_)
   refine lv rfl rfl (v := (.bool (decide (a6 ≥ 0)))) (hv_pick_t rfl b5 rfl) (lv rfl rfl (vm rfl) ?_)
   rcases bool_or (decide (a6 ≥ 0)) with c1 | c1
   ·refine ly (wanted_y rfl rfl rfl c1) rfl (HStep.of_val (v := (ptr m 3)) (vf TyShD.fld30_3 (b := m) (o := 0) rfl) ?_)
    refine ly (wanted_y rfl rfl rfl c1) rfl (HStep.of_val (v := (.int .i64 a2)) (vl TyShD.agg25 rfl (rc c5 rfl)) ?_)
    refine ly (wanted_y rfl rfl rfl c1) rfl (HStep.of_val (v := (.bool (a2 == 0))) (vr rfl rfl rfl) ?_)
    refine lv rfl rfl (v := (.bool (a2 == 0))) (hv_pick_t rfl c1 rfl) (lv rfl rfl (vm rfl) ?_)
    rcases bool_or (a2 == 0) with c8 | c8
    ·refine ly (wanted_y rfl rfl rfl c8) rfl (HStep.of_val (v := (ptr m 4)) (vf TyShD.fld30_4 (b := m) (o := 0) rfl) ?_)
     refine ly (wanted_y rfl rfl rfl c8) rfl (HStep.of_val (v := (.bool a3)) (vl TyShD.agg4 rfl (rc c5 rfl)) ?_)
     refine lv rfl rfl (v := (.bool a3)) (hv_pick_t rfl c8 rfl) (lv rfl rfl (va rfl) ?_)
     refine ln (qn ?_)
     exact ⟨rfl, (hc rfl (hc rfl (hc rfl (hc rfl (hc rfl (hc rfl (hc (show ((.bool a3) : Value) = (.bool ((a1 == 1) && ((decide (a6 ≥ 0)) && ((a2 == 0) && a3)))) from (by first | rfl | ((try rw [b5]); (try rw [c1]); (try rw [c8]); all_goals first | rfl | (simp only [Bool.true_or, Bool.or_true, Bool.false_or, Bool.or_false, Bool.true_and, Bool.and_true, Bool.false_and, Bool.and_false, Bool.not_true, Bool.not_false, Bool.cond_true, Bool.cond_false]; done)) | simp [b5, c1, c8])) hn)))))))⟩
    ·refine lo (wanted_n rfl rfl rfl c8) rfl ?_
     refine lo (wanted_n rfl rfl rfl c8) rfl ?_
     refine lv rfl rfl (v := (.bool false)) (hv_pick_f rfl c8 rfl) (lv rfl rfl (va rfl) ?_)
     refine ln (qn ?_)
     exact ⟨rfl, (hc rfl (hc rfl (hc rfl (hc rfl (hc rfl (hc rfl (hc (show ((.bool false) : Value) = (.bool ((a1 == 1) && ((decide (a6 ≥ 0)) && ((a2 == 0) && a3)))) from (by first | rfl | ((try rw [b5]); (try rw [c1]); (try rw [c8]); all_goals first | rfl | (simp only [Bool.true_or, Bool.or_true, Bool.false_or, Bool.or_false, Bool.true_and, Bool.and_true, Bool.false_and, Bool.and_false, Bool.not_true, Bool.not_false, Bool.cond_true, Bool.cond_false]; done)) | simp [b5, c1, c8])) hn)))))))⟩
   ·refine lo (wanted_n rfl rfl rfl c1) rfl ?_
    refine lo (wanted_n rfl rfl rfl c1) rfl ?_
    refine lo (wanted_n rfl rfl rfl c1) rfl ?_
    refine lv rfl rfl (v := (.bool false)) (hv_pick_f rfl c1 rfl) (lv rfl rfl (vm rfl) ?_)
    refine lo (wanted_n rfl rfl (c := false) rfl rfl) rfl ?_
    refine lo (wanted_n rfl rfl (c := false) rfl rfl) rfl ?_
    refine lv rfl rfl (v := (.bool false)) (hv_pick (t := false) rfl rfl) (lv rfl rfl (va rfl) ?_)
    refine ln (qn ?_)
    exact ⟨rfl, (hc rfl (hc rfl (hc rfl (hc rfl (hc rfl (hc rfl (hc (show ((.bool false) : Value) = (.bool ((a1 == 1) && ((decide (a6 ≥ 0)) && ((a2 == 0) && a3)))) from (by first | rfl | ((try rw [b5]); (try rw [c1]); all_goals first | rfl | (simp only [Bool.true_or, Bool.or_true, Bool.false_or, Bool.or_false, Bool.true_and, Bool.and_true, Bool.false_and, Bool.and_false, Bool.not_true, Bool.not_false, Bool.cond_true, Bool.cond_false]; done)) | simp [b5, c1])) hn)))))))⟩
  ·refine lo (wanted_n rfl rfl rfl b5) rfl ?_
   refine lo (wanted_n rfl rfl rfl b5) rfl ?_
   refine lo (wanted_n rfl rfl rfl b5) rfl ?_
   refine lv rfl rfl (v := (.bool false)) (hv_pick_f rfl b5 rfl) (lv rfl rfl (vm rfl) ?_)
   refine lo (wanted_n rfl rfl (c := false) rfl rfl) rfl ?_
   refine lo (wanted_n rfl rfl (c := false) rfl rfl) rfl ?_
   refine lo (wanted_n rfl rfl (c := false) rfl rfl) rfl ?_
   refine lv rfl rfl (v := (.bool false)) (hv_pick (t := false) rfl rfl) (lv rfl rfl (vm rfl) ?_)
   refine lo (wanted_n rfl rfl (c := false) rfl rfl) rfl ?_
   refine lo (wanted_n rfl rfl (c := false) rfl rfl) rfl ?_
   refine lv rfl rfl (v := (.bool false)) (hv_pick (t := false) rfl rfl) (lv rfl rfl (va rfl) ?_)
   refine ln (qn ?_)
   exact ⟨rfl, (hc rfl (hc rfl (hc rfl (hc rfl (hc rfl (hc rfl (hc (show ((.bool false) : Value) = (.bool ((a1 == 1) && ((decide (a6 ≥ 0)) && ((a2 == 0) && a3)))) from (by first | rfl | ((try rw [b5]); all_goals first | rfl | (simp only [Bool.true_or, Bool.or_true, Bool.false_or, Bool.or_false, Bool.true_and, Bool.and_true, Bool.false_and, Bool.and_false, Bool.not_true, Bool.not_false, Bool.cond_true, Bool.cond_false]; done)) | simp [b5])) hn)))))))⟩
 ·rintro ρ _ ⟨rfl, hH⟩
  refine xh _ hH ?_
  refine xs (xs (xr ?_))
  refine lv rfl rfl (va rfl) ?_
  refine ln (qn (xb ?_))
  replace H := H m h2 k0 (row_lt c5) j8
  obtain ⟨e4, e0, j1, j3⟩ := H
  refine xl (σ := Option Addr × Nat × Nat × Int) (fun s => [(0, (.slice l c4 d0)), (3, (ptr m 0)), (5, (.slice s.1 s.2.1 s.2.2.1)), (6, (.bool ((Ml.doesR ⟨a1, a7, a0, a2, a3, a5, a4, a6⟩).1))), (7, (.bool ((Ml.doesR ⟨a1, a7, a0, a2, a3, a5, a4, a6⟩).2.1))), (8, (.bool ((Ml.doesR ⟨a1, a7, a0, a2, a3, a5, a4, a6⟩).2.2))), (9, (.bool ((a1 == 1) && ((decide (a6 ≥ 0)) && ((a2 == 0) && a3))))), (10, (.int .i64 s.2.2.2))]) (fun s h' => e4 s.1 s.2.1 s.2.2.1 s.2.2.2 h' ∧ h'[m]? = some (.cells #[(.int .i64 a1), (.string a7), (.string a0), (.int .i64 a2), (.bool a3), (.int .i64 a5), (.int .i64 a4), (.int .i64 a6)] 30 (0, 0)) ∧ True) (fun s h' => e0 s.1 s.2.1 s.2.2.1 s.2.2.2 h') (none, 0, 0, 0) ⟨j1, c5, trivial⟩ (hc rfl (hc rfl (hc rfl (hc rfl (hc rfl (hc rfl (hc rfl (hc rfl hn)))))))) ?_
  rintro ⟨c9, c0, b9, i⟩ ρ h3 ⟨i1, c7, -⟩
  have H := j3 c9 c0 b9 i h3 i1
  refine xs (xs (xr ?_))
  refine lv rfl rfl (vm rfl) (lv rfl rfl (vm rfl) (lv rfl rfl (v := (.int .i64 (c4 : Int))) (hv_len (n := c4) TyShD.u43 rfl) (lv rfl rfl (vr rfl rfl rfl) ?_)))
  refine ln (qn ?_)
  refine xc (b := decide (i < (c4 : Int))) rfl (fun e6 => ?_) (fun e6 => ?_)
  ·replace H := H.1 e6
   refine xi (qn ?_)
   obtain ⟨d9, f5, e7⟩ := H
   refine xk (fun ρ h' => ∃ c6 : Option Addr, ∃ b7 b8 : Nat, (d9 c6 b7 b8 h' ∧ h'[m]? = some (.cells #[(.int .i64 a1), (.string a7), (.string a0), (.int .i64 a2), (.bool a3), (.int .i64 a5), (.int .i64 a4), (.int .i64 a6)] 30 (0, 0)) ∧ True) ∧ Has ρ [(0, (.slice l c4 d0)), (3, (ptr m 0)), (5, (.slice c6 b7 b8)), (6, (.bool ((Ml.doesR ⟨a1, a7, a0, a2, a3, a5, a4, a6⟩).1))), (7, (.bool ((Ml.doesR ⟨a1, a7, a0, a2, a3, a5, a4, a6⟩).2.1))), (8, (.bool ((Ml.doesR ⟨a1, a7, a0, a2, a3, a5, a4, a6⟩).2.2))), (9, (.bool ((a1 == 1) && ((decide (a6 ≥ 0)) && ((a2 == 0) && a3))))), (10, (.int .i64 i))]) ?_ ?_
   ·have H := f5; clear f5 e7
    refine xb (xs (xr ?_))
    refine lv rfl rfl (vm rfl) (lv rfl rfl (vm rfl) ?_)
    obtain ⟨d2, d1, j9, i4, i8, Hq⟩ := H
    subst j9
    have H := Hq; clear Hq
    refine lv rfl rfl (v := (ptr d2 (d1 + (Int.toNat i) * 2))) (vi TyShD.el43 rfl rfl i4 i8) ?_
    obtain ⟨a9, a8, i2, i3, H⟩ := H
    refine lv rfl rfl (vL (vs := [(.bool a9), (.string a8)]) TyShD.agg62 TyShD.sz62 rfl (cc i2 (cc i3 cn))) ?_
    refine lp rfl rfl (hn_alloc TyShD.z62 ?_)
    intro x h5 f8 g4
    have g7 := ext_pushed_f44_sh g4
    have i9 := Nat.ne_of_lt (Nat.lt_of_lt_of_eq (row_lt c7) (Eq.symm f8))
    have i7 : Array.size h3 ≤ x := Nat.le_of_eq (Eq.symm f8)
    have g3 : h5[x]? = some (.cells #[(.bool false), (.string ByteArray.empty)] 62 (0, 0)) := by rw [g4]; exact push_new f8
    replace c7 := Ext.row g7 c7
    refine lp rfl rfl (hn_stores (vs := [(.bool a9), (.string a8)]) rfl rfl TyShD.sz62 rfl (HWs_row g3 (by simp)) ?_)
    intro h6 f4
    replace c7 := row_hsets_ne f4 i9 c7
    have d4 : h6[x]? = some (.cells #[(.bool a9), (.string a8)] 62 (0, 0)) := row_hsets_eq f4 g3 rfl
    have f1 := ext_hsets f4 g7 i7
    refine ln (qn (xs ?_))
    refine xk (fun ρ h' => h6 = h' ∧ Has ρ [(0, (.slice (some ⟨d2, d1, none⟩) c4 d0)), (3, (ptr m 0)), (5, (.slice c9 c0 b9)), (6, (.bool ((Ml.doesR ⟨a1, a7, a0, a2, a3, a5, a4, a6⟩).1))), (7, (.bool ((Ml.doesR ⟨a1, a7, a0, a2, a3, a5, a4, a6⟩).2.1))), (8, (.bool ((Ml.doesR ⟨a1, a7, a0, a2, a3, a5, a4, a6⟩).2.2))), (9, (.bool ((a1 == 1) && ((decide (a6 ≥ 0)) && ((a2 == 0) && a3))))), (10, (.int .i64 i)), (11, (ptr x 0)), (57, (.bool (((a1 == 1) && ((decide (a6 ≥ 0)) && ((a2 == 0) && a3))) && ((!a9) || (!decide (a8 = a0))))))]) ?_ ?_
    ·refine xr ?_
     refine lv rfl rfl (vm rfl) (lv rfl rfl (vm rfl) ?_)
     rcases bool_or (((a1 == 1) && ((decide (a6 ≥ 0)) && ((a2 == 0) && a3)))) with b0 | b0
     ·refine ly (wanted_y rfl rfl rfl b0) rfl (HStep.of_val (v := (ptr x 0)) (vf TyShD.fld62_0 (b := x) (o := 0) rfl) ?_)
      refine ly (wanted_y rfl rfl rfl b0) rfl (HStep.of_val (v := (.bool a9)) (vl TyShD.agg4 rfl (rc d4 rfl)) ?_)
      refine ly (wanted_y rfl rfl rfl b0) rfl (HStep.of_val (v := (.bool (!a9))) (hv_not (b := a9) rfl) ?_)
      refine ly (wanted_y rfl rfl rfl b0) rfl (HStep.of_val (v := (.bool (!a9))) (vm rfl) ?_)
      rcases bool_or (!a9) with b6 | b6
      ·refine lo (wanted_n rfl rfl rfl b6) rfl ?_
       refine lo (wanted_n rfl rfl rfl b6) rfl ?_
       refine lo (wanted_n rfl rfl rfl b6) rfl ?_
       refine lo (wanted_n rfl rfl rfl b6) rfl ?_
       refine lo (wanted_n rfl rfl rfl b6) rfl ?_
       refine ly (wanted_y rfl rfl rfl b0) rfl (HStep.of_val (v := (.bool true)) (hv_pick_t rfl b6 rfl) ?_)
       refine lv rfl rfl (v := (.bool true)) (hv_pick_t rfl b0 rfl) ?_
       refine ln (qn ?_)
       exact ⟨rfl, (hc rfl (hc rfl (hc rfl (hc rfl (hc rfl (hc rfl (hc rfl (hc rfl (hc rfl (hc (show ((.bool true) : Value) = (.bool (((a1 == 1) && ((decide (a6 ≥ 0)) && ((a2 == 0) && a3))) && ((!a9) || (!decide (a8 = a0))))) from (by first | rfl | ((try rw [b0]); (try rw [b6]); all_goals first | rfl | (simp only [Bool.true_or, Bool.or_true, Bool.false_or, Bool.or_false, Bool.true_and, Bool.and_true, Bool.false_and, Bool.and_false, Bool.not_true, Bool.not_false, Bool.cond_true, Bool.cond_false]; done)) | simp [b0, b6])) hn))))))))))⟩
      ·refine ly (wanted_y rfl rfl rfl b6) rfl (HStep.of_val (v := (ptr x 1)) (vf TyShD.fld62_1 (b := x) (o := 0) rfl) ?_)
       refine ly (wanted_y rfl rfl rfl b6) rfl (HStep.of_val (v := (.string a8)) (vl TyShD.agg9 rfl (rc d4 rfl)) ?_)
       refine ly (wanted_y rfl rfl rfl b6) rfl (HStep.of_val (v := (ptr m 2)) (vf TyShD.fld30_2 (b := m) (o := 0) rfl) ?_)
       refine ly (wanted_y rfl rfl rfl b6) rfl (HStep.of_val (v := (.string a0)) (vl TyShD.agg9 rfl (rc c7 rfl)) ?_)
       refine ly (wanted_y rfl rfl rfl b6) rfl (HStep.of_val (v := (.bool (!decide (a8 = a0)))) (hv_str rfl rfl rfl) ?_)
       refine ly (wanted_y rfl rfl rfl b0) rfl (HStep.of_val (v := (.bool (!decide (a8 = a0)))) (hv_pick_f rfl b6 rfl) ?_)
       refine lv rfl rfl (v := (.bool (!decide (a8 = a0)))) (hv_pick_t rfl b0 rfl) ?_
       refine ln (qn ?_)
       exact ⟨rfl, (hc rfl (hc rfl (hc rfl (hc rfl (hc rfl (hc rfl (hc rfl (hc rfl (hc rfl (hc (show ((.bool (!decide (a8 = a0))) : Value) = (.bool (((a1 == 1) && ((decide (a6 ≥ 0)) && ((a2 == 0) && a3))) && ((!a9) || (!decide (a8 = a0))))) from (by first | rfl | ((try rw [b0]); (try rw [b6]); all_goals first | rfl | (simp only [Bool.true_or, Bool.or_true, Bool.false_or, Bool.or_false, Bool.true_and, Bool.and_true, Bool.false_and, Bool.and_false, Bool.not_true, Bool.not_false, Bool.cond_true, Bool.cond_false]; done)) | simp [b0, b6])) hn))))))))))⟩
     ·refine lo (wanted_n rfl rfl rfl b0) rfl ?_
      refine lo (wanted_n rfl rfl rfl b0) rfl ?_
      refine lo (wanted_n rfl rfl rfl b0) rfl ?_
      refine lo (wanted_n rfl rfl rfl b0) rfl ?_
      refine lo (wanted_u rfl rfl rfl) rfl ?_
      refine lo (wanted_u rfl rfl rfl) rfl ?_
      refine lo (wanted_u rfl rfl rfl) rfl ?_
      refine lo (wanted_u rfl rfl rfl) rfl ?_
      refine lo (wanted_u rfl rfl rfl) rfl ?_
      refine lo (wanted_n rfl rfl rfl b0) rfl ?_
      refine lv rfl rfl (v := (.bool false)) (hv_pick_f rfl b0 rfl) ?_
      refine ln (qn ?_)
      exact ⟨rfl, (hc rfl (hc rfl (hc rfl (hc rfl (hc rfl (hc rfl (hc rfl (hc rfl (hc rfl (hc (show ((.bool false) : Value) = (.bool (((a1 == 1) && ((decide (a6 ≥ 0)) && ((a2 == 0) && a3))) && ((!a9) || (!decide (a8 = a0))))) from (by first | rfl | ((try rw [b0]); all_goals first | rfl | (simp only [Bool.true_or, Bool.or_true, Bool.false_or, Bool.or_false, Bool.true_and, Bool.and_true, Bool.false_and, Bool.and_false, Bool.not_true, Bool.not_false, Bool.cond_true, Bool.cond_false]; done)) | simp [b0])) hn))))))))))⟩
    ·rintro ρ _ ⟨rfl, hH⟩
     refine xh _ hH ?_
     refine xc (b := (((a1 == 1) && ((decide (a6 ≥ 0)) && ((a2 == 0) && a3))) && ((!a9) || (!decide (a8 = a0))))) rfl (fun e5 => ?_) (fun e5 => ?_)
     ·replace H := H.1 e5
      refine xe (qe (bh ?_))
      replace H := H h6 f1
      refine qn ?_
      exact ⟨_, _, _, ⟨H, c7, trivial⟩, (hc rfl (hc rfl (hc rfl (hc rfl (hc rfl (hc rfl (hc rfl (hc rfl hn))))))))⟩
     ·replace H := H.2 e5
      refine xi (qn ?_)
      obtain ⟨e2, f3, f0⟩ := H
      refine xk (fun ρ h' => ∃ c3 : Option Addr, ∃ b3 b2 : Nat, (e2 c3 b3 b2 h' ∧ h'[m]? = some (.cells #[(.int .i64 a1), (.string a7), (.string a0), (.int .i64 a2), (.bool a3), (.int .i64 a5), (.int .i64 a4), (.int .i64 a6)] 30 (0, 0)) ∧ True) ∧ Has ρ [(0, (.slice (some ⟨d2, d1, none⟩) c4 d0)), (3, (ptr m 0)), (5, (.slice c3 b3 b2)), (6, (.bool ((Ml.doesR ⟨a1, a7, a0, a2, a3, a5, a4, a6⟩).1))), (7, (.bool ((Ml.doesR ⟨a1, a7, a0, a2, a3, a5, a4, a6⟩).2.1))), (8, (.bool ((Ml.doesR ⟨a1, a7, a0, a2, a3, a5, a4, a6⟩).2.2))), (9, (.bool ((a1 == 1) && ((decide (a6 ≥ 0)) && ((a2 == 0) && a3))))), (10, (.int .i64 i))]) ?_ ?_
      ·have H := f3; clear f3 f0
       refine xs (xr ?_)
       refine lv rfl rfl (vm rfl) ?_
       refine ln (qn ?_)
       refine xc (b := (Ml.doesR ⟨a1, a7, a0, a2, a3, a5, a4, a6⟩).1) rfl (fun f7 => ?_) (fun f7 => ?_)
       ·replace H := H.1 f7
        refine xr ?_
        refine lv rfl rfl (vm rfl) (lv rfl rfl (vL (vs := [(.bool a9), (.string a8)]) TyShD.agg62 TyShD.sz62 rfl (cc (rc d4 rfl) (cc (rc d4 rfl) cn))) ?_)
        replace H := H h6 f1
        refine lp rfl rfl (sc TyShD.cb55 rfl (HC.mono H ?_))
        rintro _ h8 ⟨j2, r, g2, g1, rfl, H⟩
        replace c7 := Kp.row j2 (by simp) c7
        refine lv rfl rfl (va rfl) ?_
        refine ln (qn ?_)
        exact ⟨_, _, _, ⟨H, c7, trivial⟩, (hc rfl (hc rfl (hc rfl (hc rfl (hc rfl (hc rfl (hc rfl (hc rfl hn))))))))⟩
       ·replace H := H.2 f7
        refine xi ?_
        replace H := H h6 f1
        refine qn ?_
        exact ⟨_, _, _, ⟨H, c7, trivial⟩, (hc rfl (hc rfl (hc rfl (hc rfl (hc rfl (hc rfl (hc rfl (hc rfl hn))))))))⟩
      ·rintro ρ h7 ⟨c3, b3, b2, ⟨j5, d8, -⟩, hH⟩
       have H := f0 c3 b3 b2 h7 j5; clear f3 f0
       refine xh _ hH ?_
       obtain ⟨e3, f6, e8⟩ := H
       refine xk (fun ρ h' => ∃ c2 : Option Addr, ∃ b4 b1 : Nat, (e3 c2 b4 b1 h' ∧ h'[m]? = some (.cells #[(.int .i64 a1), (.string a7), (.string a0), (.int .i64 a2), (.bool a3), (.int .i64 a5), (.int .i64 a4), (.int .i64 a6)] 30 (0, 0)) ∧ True) ∧ Has ρ [(0, (.slice (some ⟨d2, d1, none⟩) c4 d0)), (3, (ptr m 0)), (5, (.slice c2 b4 b1)), (6, (.bool ((Ml.doesR ⟨a1, a7, a0, a2, a3, a5, a4, a6⟩).1))), (7, (.bool ((Ml.doesR ⟨a1, a7, a0, a2, a3, a5, a4, a6⟩).2.1))), (8, (.bool ((Ml.doesR ⟨a1, a7, a0, a2, a3, a5, a4, a6⟩).2.2))), (9, (.bool ((a1 == 1) && ((decide (a6 ≥ 0)) && ((a2 == 0) && a3))))), (10, (.int .i64 i))]) ?_ ?_
       ·have H := f6; clear f6 e8
        refine xs (xr ?_)
        refine lv rfl rfl (vm rfl) ?_
        refine ln (qn ?_)
        refine xc (b := (Ml.doesR ⟨a1, a7, a0, a2, a3, a5, a4, a6⟩).2.1) rfl (fun f2 => ?_) (fun f2 => ?_)
        ·replace H := H.1 f2
         refine xr ?_
         refine lv rfl rfl (vm rfl) (lv rfl rfl (v := (ptr m 2)) (vf TyShD.fld30_2 (b := m) (o := 0) rfl) (lv rfl rfl (vl TyShD.agg9 rfl (rc d8 rfl)) (lv rfl rfl (v := (.agg #[(.bool true), (.string a0)])) (vb (vs := [(0, (.bool true)), (1, (.string a0))]) (cs := #[(.bool true), (.string a0)]) TyShD.z62 TyShD.pl62 rfl (by kernel_rfl)) ?_)))
         refine lp rfl rfl (sc TyShD.cb55 rfl (HC.mono H ?_))
         rintro _ g6 ⟨j6, g0, d3, d6, rfl, H⟩
         replace d8 := Kp.row j6 (by simp) d8
         refine lv rfl rfl (va rfl) ?_
         refine ln (qn ?_)
         exact ⟨_, _, _, ⟨H, d8, trivial⟩, (hc rfl (hc rfl (hc rfl (hc rfl (hc rfl (hc rfl (hc rfl (hc rfl hn))))))))⟩
        ·replace H := H.2 f2
         refine xi (qn ?_)
         exact ⟨_, _, _, ⟨H, d8, trivial⟩, (hc rfl (hc rfl (hc rfl (hc rfl (hc rfl (hc rfl (hc rfl (hc rfl hn))))))))⟩
       ·rintro ρ h9 ⟨c2, b4, b1, ⟨j4, e1, -⟩, hH⟩
        have H := e8 c2 b4 b1 h9 j4; clear f6 e8
        refine xh _ hH ?_
        refine xs (xr ?_)
        refine lv rfl rfl (vm rfl) ?_
        refine ln (qn ?_)
        refine xc (b := (Ml.doesR ⟨a1, a7, a0, a2, a3, a5, a4, a6⟩).2.2) rfl (fun e9 => ?_) (fun e9 => ?_)
        ·replace H := H.1 e9
         refine xr ?_
         refine lv rfl rfl (vm rfl) (lv rfl rfl (v := (.agg #[(.bool false), (.string ByteArray.empty)])) (vb (vs := []) (cs := #[(.bool false), (.string ByteArray.empty)]) TyShD.z62 TyShD.pl62 rfl (by kernel_rfl)) ?_)
         refine lp rfl rfl (sc TyShD.cb55 rfl (HC.mono H ?_))
         rintro _ g5 ⟨j0, f9, d7, d5, rfl, H⟩
         replace e1 := Kp.row j0 (by simp) e1
         refine lv rfl rfl (va rfl) ?_
         refine ln (bn (qn ?_))
         exact ⟨_, _, _, ⟨H, e1, trivial⟩, (hc rfl (hc rfl (hc rfl (hc rfl (hc rfl (hc rfl (hc rfl (hc rfl hn))))))))⟩
        ·replace H := H.2 e9
         refine xi (bn (qn ?_))
         exact ⟨_, _, _, ⟨H, e1, trivial⟩, (hc rfl (hc rfl (hc rfl (hc rfl (hc rfl (hc rfl (hc rfl (hc rfl hn))))))))⟩
   ·rintro ρ h4 ⟨c6, b7, b8, ⟨i6, i5, -⟩, hH⟩
    have H := e7 c6 b7 b8 h4 i6; clear f5 e7
    refine xh _ hH ?_
    refine xr ?_
    refine lv rfl rfl (vm rfl) (lv rfl rfl (vr rfl rfl rfl) (lv rfl rfl (va rfl) ?_))
    refine ln (qn ?_)
    exact ⟨(c6, b7, b8, IntKind.i64.wrap (i + 1)), ⟨⟨H.1, i5, trivial⟩, H.2⟩, (hc rfl (hc rfl (hc rfl (hc rfl (hc rfl (hc rfl (hc rfl (hc rfl hn))))))))⟩
  ·replace H := H.2 e6
   refine xe (qe (qe (bh (qn (xs (xr ?_))))))
   refine lv rfl rfl (vm rfl) (lv rfl rfl (va rfl) ?_)
   refine ln (qn (xt ?_))
   exact endQ_ret _ (res_one Tryd.results44 (rv_tmp rfl)) H
end Go.Proofs.YtfjcciaabkjkgaaDoor
namespace Go.Proofs.YtfjcciaabkjkgaaDoor
open Go Go.Shelf Go.Sort
theorem one_eq : ∀ v : Value, v.oneCell' = oneC v := fun v => by cases v <;> rfl
theorem calls_of {P : Program} {f : FuncId} {args : Array Value} {h : Heap} {R : Value → Heap → Prop} (hc : HC P f args h R) {w : World} (hw : w.heap = h) : Calls P f args w fun e w' => ∃ v, e = .returned v ∧ Sim w w' ∧ R v w'.heap := hc w hw
section
variable {α : Type} [Inhabited α]
theorem holds_of {E : Elt α} {T : TypeId} {N : Nat} {b o c : Nat} {L : List α} {w : World} (s : Sl E w.heap (some ⟨b, o, none⟩) c L) (ow : Own E.k T N w.heap (some ⟨b, o, none⟩) c) : HoldsK E.enc E.k w b o L.toArray := by
  intro j hj
  rw [size_flatK] at hj
  simp only [List.size_toArray] at hj
  have hk : 0 < E.k := by rcases Nat.eq_zero_or_pos E.k with h | h; · rw [h] at hj; omega
                          · exact h
  have hi : j / E.k < L.length := by rw [Nat.div_lt_iff_lt_mul hk]; exact hj
  have hr : j % E.k < E.k := Nat.mod_lt _ hk
  rw [get_flatK _ _ _ _ (by simpa using hj)]
  have hx : L[j / E.k]? = some L[j / E.k] := List.getElem?_eq_getElem hi
  have e1 : L.toArray[j / E.k]! = L[j / E.k] := by simp [hi]
  rw [e1]
  have hlen : j % E.k < (E.enc L[j / E.k]).length := by rw [E.len]; exact hr
  have hv : (E.enc L[j / E.k])[j % E.k]? = some (E.enc L[j / E.k])[j % E.k] := List.getElem?_eq_getElem hlen
  have e2 : (E.enc L[j / E.k])[j % E.k]! = (E.enc L[j / E.k])[j % E.k] := by simp [hlen]
  rw [e2]
  obtain ⟨b', o', e, hc⟩ := s.at hx
  cases e
  have h1 := hc.get hv
  have hd : j / E.k * E.k + j % E.k = j := by rw [Nat.mul_comm]; exact Nat.div_add_mod j E.k
  rw [Nat.add_assoc, hd] at h1
  refine ⟨by rw [cell_hcell]; exact h1, ?_⟩
  rcases ow with ⟨e, _⟩ | ⟨b2, o2, cs, e, _, h2, _⟩
  · cases e
  · cases e
    unfold World.frozen?
    simp only [h2]
    simp
theorem heap_sort {E : Elt α} {T : TypeId} {N : Nat} {b o c : Nat} {L : List α} {w : World} (s : Sl E w.heap (some ⟨b, o, none⟩) c L) (ow : Own E.k T N w.heap (some ⟨b, o, none⟩) c) {d : Array α} (hd : d.size = L.length) (m : Nat) (os : Array Obj) :
    Fr (· = b) w.heap (sortWorldK E.enc E.k w b o m d os).heap ∧ Sl E (sortWorldK E.enc E.k w b o m d os).heap (some ⟨b, o, none⟩) c d.toList ∧ Own E.k T N (sortWorldK E.enc E.k w b o m d os).heap (some ⟨b, o, none⟩) c ∧ Sim w (sortWorldK E.enc E.k w b o m d os) := by
  rcases ow with ⟨e, _⟩ | ⟨b2, o2, cs, e, hlow, h2, h3⟩
  · cases e
  cases e
  have hh : (sortWorldK E.enc E.k w b o m d os).heap = (w.heap.modify b (onCells (putCells id o (flatK E.enc E.k d)))) ++ os := rfl
  have hlt := row_lt h2
  have hrow : (sortWorldK E.enc E.k w b o m d os).heap[b]? = some (.cells (putCells id o (flatK E.enc E.k d) cs) T (0, 0)) := by
    rw [hh, Array.getElem?_append, if_pos (by simpa using hlt), Array.getElem?_modify, if_pos rfl, h2]; rfl
  have hother : ∀ i, i < w.heap.size → i ≠ b → (sortWorldK E.enc E.k w b o m d os).heap[i]? = w.heap[i]? := fun i hi hn => by
    rw [hh, Array.getElem?_append, if_pos (by simpa using hi), Array.getElem?_modify, if_neg (Ne.symm hn)]
  have hle := s.le
  have hfit : L.length * E.k ≤ c * E.k := Nat.mul_le_mul_right _ hle
  refine ⟨⟨by rw [hh]; simp, fun i hi hn => hother i hi hn⟩, Sl.of_row hrow (by simpa [hd] using hle) fun j v hv => ?_, .inr ⟨b, o, _, rfl, hlow, hrow, by simpa [putCells] using h3⟩, ⟨rfl, rfl, rfl, by rw [hh]; simp, fun i hi => ?_⟩⟩
  · have hj := (List.getElem?_eq_some_iff.1 hv).1
    rw [flat_len, Array.length_toList, hd] at hj
    have hk : 0 < E.k := by rcases Nat.eq_zero_or_pos E.k with h | h; · rw [h] at hj; omega
                            · exact h
    have hjc : o + j < cs.size := by omega
    unfold putCells
    rw [Array.getElem?_mapIdx, Array.getElem?_eq_getElem hjc, Option.map_some, if_pos ⟨by omega, by rw [size_flatK, hd]; omega⟩, show o + j - o = j by omega, get_flatK _ _ _ _ (by rw [hd]; exact hj)]
    obtain ⟨i, x, r, h4, h5, rfl⟩ := flat_inv E d.toList j v hv
    have hr := (List.getElem?_eq_some_iff.1 h5).1
    rw [E.len] at hr
    have e1 : (i * E.k + r) / E.k = i := by rw [Nat.mul_comm, Nat.mul_add_div hk, Nat.div_eq_of_lt hr]; rfl
    have e2 : (i * E.k + r) % E.k = r := by rw [Nat.mul_comm, Nat.mul_add_mod, Nat.mod_eq_of_lt hr]
    rw [e1, e2]
    have h6 : d[i]? = some x := by simpa using h4
    have e3 : d[i]! = x := by
      obtain ⟨h7, h8⟩ := Array.getElem?_eq_some_iff.1 h6
      rw [getElem!_pos d i h7, h8]
    rw [e3]
    simp [h5]
  · by_cases hib : i = b
    · subst hib; rw [h2] at hi; cases hi
    · rw [hother i (row_lt hi) hib]; exact hi
theorem perm_of {d d' : Array α} (hp : PermIn 0 d.size d d') : d'.size = d.size ∧ d'.toList.Perm d.toList := by
  obtain ⟨h1, _, h3⟩ := hp
  refine ⟨h1, ?_⟩
  have e : ∀ x : Array α, (x.extract 0 x.size).toList = x.toList := fun x => by rw [Array.extract_size]
  have h4 : (d'.extract 0 d.size).toList = d'.toList := by rw [← h1]; exact e d'
  rw [h4, e d] at h3; exact h3
theorem sorted_of {lt : α → α → Bool} {d : Array α} {n : Nat} (hn : d.size = n) (hs : SortedIn lt 0 n d) : d.toList.Pairwise (fun x y => lt y x = false) := by
  rw [List.pairwise_iff_getElem]
  intro i j hi hj hij
  have hi' : i < d.size := by simpa using hi
  have hj' : j < d.size := by simpa using hj
  have := hs i j (Nat.zero_le _) hij (by omega)
  simpa [hi', hj'] using this
theorem hc_sort {P : Program} {ρ : Ren} (L0 : SlLaysF0.n6 P ρ) (E : Elt α) (aE : ∀ w, (isAgg (ρ.t 24)).run P w = .ok true w) (zE : ∀ w, (Go.sizeOf (ρ.t 24)).run P w = .ok E.k w) (cf : α → α → Int) (hO : SWO (ltOf cf)) (g : Nat) (cb : Array Value)
    (eg : ∀ args w, (callFunc g args).run P w = .ok (.enter g args) w) {h : Heap} {a : Option Addr} {c N : Nat} {T : TypeId} {L : List α} (s : Sl E h a c L) (ow : Own E.k T N h a c)
    (hcmp : ∀ w, Fr (blkA a) h w.heap → ∀ x y, Calls P g (#[.agg (E.enc x).toArray, .agg (E.enc y).toArray] ++ cb) w fun e w' => e = .returned (.int .i64 (cf x y)) ∧ ∃ q os', w' = grow (w.drewN q) os') (hsz : L.length < 4611686018427387904) :
    HC P (ρ.f 6) #[.slice a L.length c, .func (.func g) #[] cb] h fun v h' => v = .tuple #[] ∧ Fr (blkA a) h h' ∧ ∃ L', L'.Perm L ∧ L'.Pairwise (fun x y => ltOf cf y x = false) ∧ Sl E h' a c L' ∧ Own E.k T N h' a c := by
  by_cases hl : L = []
  · subst hl
    intro w hw
    refine (AnyF.slices_SortFunc_none L0 a c (.func (.func g) #[] cb) w).mono ?_
    rintro e w' ⟨rfl, rfl⟩
    exact ⟨_, rfl, Sim.refl _, rfl, by rw [hw]; exact Fr.refl _ _, [], List.Perm.refl _, List.Pairwise.nil, by rw [hw]; exact s, by rw [hw]; exact ow⟩
  · obtain ⟨b, o, rfl, _⟩ := s.addr (List.length_pos_iff.2 hl)
    intro w hw
    subst hw
    have hb : b < w.heap.size := (ow.low (blkA_of rfl)).2
    have hsz' : L.toArray.size = L.length := by simp
    have hcl : CmpLays P g cb E.enc E.k cf b o L.toArray.size w := by
      intro m os dk hdk x y
      obtain ⟨f1, _, _, s1⟩ := heap_sort s ow (d := dk) (by simpa using hdk) m os
      exact hcmp _ (f1.mono fun i _ e => blkA_some.2 e) x y
    have hcon := AnyQ.slices_SortFunc L0 E.k aE zE E.enc E.len (fun x v hv => by rw [one_eq]; exact E.one x v hv) cf hO g cb b o c L.toArray w eg hcl (holds_of s ow) hb (by simpa using hsz)
    rw [hsz'] at hcon
    refine hcon.mono ?_
    rintro e w' ⟨rfl, d', n, os, hp, hs, rfl⟩
    obtain ⟨q1, q2⟩ := perm_of (d := L.toArray) (d' := d') (by rw [hsz']; exact hp)
    obtain ⟨f1, s1, o1, m1⟩ := heap_sort s ow (d := d') (by simpa using q1) n os
    exact ⟨_, rfl, m1, rfl, f1.mono fun i _ e => blkA_some.2 e, d'.toList, by simpa using q2, sorted_of (by simpa using q1) hs, s1, o1⟩
end
end Go.Proofs.YtfjcciaabkjkgaaDoor
namespace Go.Proofs.YtfjcciaabkjkgaaDoor
open Go Go.Shelf Go.Proofs
def Lay.sortMt_ren : Go.Shelf.Ren := ⟨fun | 6 => 40 | 15 => 52 | 14 => 51 | 28 => 66 | 29 => 67 | 20 => 58 | 21 => 59 | 22 => 60 | 23 => 61 | 24 => 62 | 25 => 63 | 26 => 64 | 27 => 65 | 46 => 73 | 47 => 74 | 48 => 75 | 49 => 76 | 50 => 77 | 57 => 81 | n => n, fun | 22 => 43 | 24 => 62 | 25 => 70 | 3 => 3 | 39 => 81 | 0 => 0 | 53 => 55 | 55 => 99 | 4 => 4 | 46 => 91 | 45 => 90 | 50 => 95 | 5 => 5 | 9 => 9 | 66 => 105 | 70 => 109 | 76 => 112 | 77 => 113 | n => n, fun | n => n⟩
theorem Lay.sortMt : Go.Proofs.SlLaysF0.n6 Tryd.prog Lay.sortMt_ren := {
  mixed := by kernel_rfl,
  f6 := ⟨Tryd.f40.name, by decide, Tryd.func40.trans (congrArg some (by kernel_rfl))⟩,
  f14 := ⟨Tryd.f51.name, by decide, Tryd.func51.trans (congrArg some (by kernel_rfl))⟩,
  f15 := Tryd.func52.trans (congrArg some (by kernel_rfl)),
  f20 := ⟨Tryd.f58.name, by decide, Tryd.func58.trans (congrArg some (by kernel_rfl))⟩,
  f21 := ⟨Tryd.f59.name, by decide, Tryd.func59.trans (congrArg some (by kernel_rfl))⟩,
  f22 := ⟨Tryd.f60.name, by decide, Tryd.func60.trans (congrArg some (by kernel_rfl))⟩,
  f23 := ⟨Tryd.f61.name, by decide, Tryd.func61.trans (congrArg some (by kernel_rfl))⟩,
  f24 := ⟨Tryd.f62.name, by decide, Tryd.func62.trans (congrArg some (by kernel_rfl))⟩,
  f25 := ⟨Tryd.f63.name, by decide, Tryd.func63.trans (congrArg some (by kernel_rfl))⟩,
  f26 := ⟨Tryd.f64.name, by decide, Tryd.func64.trans (congrArg some (by kernel_rfl))⟩,
  f27 := ⟨Tryd.f65.name, by decide, Tryd.func65.trans (congrArg some (by kernel_rfl))⟩,
  f28 := Tryd.func66.trans (congrArg some (by kernel_rfl)),
  f29 := Tryd.func67.trans (congrArg some (by kernel_rfl)),
  f46 := ⟨Tryd.f73.name, by decide, Tryd.func73.trans (congrArg some (by kernel_rfl))⟩,
  f47 := Tryd.func74.trans (congrArg some (by kernel_rfl)),
  f48 := Tryd.func75.trans (congrArg some (by kernel_rfl)),
  f49 := ⟨Tryd.f76.name, by decide, Tryd.func76.trans (congrArg some (by kernel_rfl))⟩,
  f50 := ⟨Tryd.f77.name, by decide, Tryd.func77.trans (congrArg some (by kernel_rfl))⟩,
  f57 := ⟨Tryd.f81.name, by decide, Tryd.func81.trans (congrArg some (by kernel_rfl))⟩,
  t0 := Tryd.underlying0,
  a0 := Tryd.isAgg0,
  z0 := Tryd.sizeOf0,
  v0 := Tryd.zeroValue0,
  t3 := Tryd.underlying3,
  a3 := Tryd.isAgg3,
  z3 := Tryd.sizeOf3,
  v3 := Tryd.zeroValue3,
  t4 := Tryd.underlying4,
  a4 := Tryd.isAgg4,
  z4 := Tryd.sizeOf4,
  v4 := Tryd.zeroValue4,
  t5 := Tryd.underlying5,
  a5 := Tryd.isAgg5,
  z5 := Tryd.sizeOf5,
  v5 := Tryd.zeroValue5,
  t9 := Tryd.underlying9,
  a9 := Tryd.isAgg9,
  z9 := Tryd.sizeOf9,
  v9 := Tryd.zeroValue9,
  t22 := Tryd.underlying43,
  a22 := Tryd.isAgg43,
  z22 := Tryd.sizeOf43,
  v22 := Tryd.zeroValue43,
  t25 := Tryd.underlying70,
  a25 := Tryd.isAgg70,
  z25 := Tryd.sizeOf70,
  v25 := Tryd.zeroValue70,
  t39 := Tryd.underlying81,
  a39 := Tryd.isAgg81,
  z39 := Tryd.sizeOf81,
  v39 := Tryd.zeroValue81,
  t45 := Tryd.underlying90,
  a45 := Tryd.isAgg90,
  z45 := Tryd.sizeOf90,
  v45 := Tryd.zeroValue90,
  t46 := Tryd.underlying91,
  a46 := Tryd.isAgg91,
  z46 := Tryd.sizeOf91,
  v46 := Tryd.zeroValue91,
  t50 := Tryd.underlying95,
  a50 := Tryd.isAgg95,
  z50 := Tryd.sizeOf95,
  v50 := Tryd.zeroValue95,
  t53 := Tryd.underlying55,
  a53 := Tryd.isAgg55,
  z53 := Tryd.sizeOf55,
  v53 := Tryd.zeroValue55,
  t55 := Tryd.underlying99,
  a55 := Tryd.isAgg99,
  z55 := Tryd.sizeOf99,
  v55 := Tryd.zeroValue99,
  t66 := Tryd.underlying105,
  a66 := Tryd.isAgg105,
  z66 := Tryd.sizeOf105,
  v66 := Tryd.zeroValue105,
  t70 := Tryd.underlying109,
  a70 := Tryd.isAgg109,
  z70 := Tryd.sizeOf109,
  v70 := Tryd.zeroValue109,
  t76 := Tryd.underlying112,
  a76 := Tryd.isAgg112,
  z76 := Tryd.sizeOf112,
  v76 := Tryd.zeroValue112,
  t77 := Tryd.underlying113,
  a77 := Tryd.isAgg113,
  z77 := Tryd.sizeOf113,
  v77 := Tryd.zeroValue113 }
end Go.Proofs.YtfjcciaabkjkgaaDoor
namespace Go.Proofs.YtfjcciaabkjkgaaDoor
open Go Ml Go.Shelf Go.RowKit Go.Lib Go.Sort
set_option maxHeartbeats 1000000 in
theorem isNaN_w (x : Str) (w : World) : Calls Tryd.prog 68 #[.string x] w fun e w' => e = .returned (.bool false) ∧ w' = w := by
  go_enter Tryd.func68, Tryd.ntmps68
  go_wp2
  go_ret
  exact ⟨by simp, rfl⟩
set_option maxHeartbeats 1000000 in
theorem gtr_w (x y : Str) (w : World) : (binOp BinOp.gtr 9 (Value.string x) (Value.string y)).run Tryd.prog w = .ok (.bool (slt y x)) w := by
  have : binOp BinOp.gtr 9 (Value.string x) (Value.string y) = pure (.bool (slt y x)) := by simp only [binOp, Op.stringOp, str_lss, str_eql, str_leq, Bool.not_not]
  rw [this]; rfl
set_option maxHeartbeats 1000000 in
theorem cmp_w (x y : Str) (w : World) : Calls Tryd.prog 53 #[.string x, .string y] w fun e w' => e = .returned (.int .i64 (scmp x y)) ∧ w' = w := by
  go_enter Tryd.func53, Tryd.ntmps53
  go_wp2_with (go_at_call 68; refine (isNaN_w _ _).mono ?_; rintro e w' ⟨rfl, rfl⟩)
  · rename_i e1
    rw [str_lss] at e1
    go_ret
    exact ⟨by simp [scmp, e1], rfl⟩
  · rename_i e1 _ _ _ _ _ _
    rw [str_lss] at e1
    rw [gtr_w]
    generalize e2 : slt y x = b
    go_wp2
    all_goals go_ret
    all_goals exact ⟨by simp_all [scmp], rfl⟩
set_option maxHeartbeats 1000000 in
theorem compare_w (a b : Mt) (w : World) : Calls Tryd.prog 41 #[mtV a, mtV b] w fun e w' => e = .returned (.int .i64 (mcmp a b)) ∧ ∃ q os', w' = grow (w.drewN q) os' := by
  obtain ⟨a1, a2⟩ := a
  obtain ⟨b1, b2⟩ := b
  unfold mtV
  have hcon := fun W' => cmp_w a2 b2 W'
  generalize hr : scmp a2 b2 = r at hcon
  have key : mcmp ⟨a1, a2⟩ ⟨b1, b2⟩ = if a1 = b1 then r else if b1 then -1 else 1 := by
    rw [← hr]
    by_cases e : a1 = b1
    · rw [if_pos e]
      subst e
      unfold mcmp scmp mlt
      simp only [Mt.mk.injEq, true_and, if_true]
      cases e1 : slt a2 b2 with
      | true =>
        have : a2 ≠ b2 := fun e => by rw [e, slt_irrefl] at e1; cases e1
        simp [this]
      | false =>
        rcases slt_or e1 with e2 | e2
        · subst e2; simp [slt_irrefl]
        · have : a2 ≠ b2 := fun e => by rw [e, slt_irrefl] at e2; cases e2
          simp [this, e2]
    · rw [if_neg e]
      unfold mcmp mlt
      simp [e]
  have k1 : (a1 == b1) = true → mcmp ⟨a1, a2⟩ ⟨b1, b2⟩ = r := fun e => by rw [key, if_pos (by simpa using e)]
  have k2 : (a1 == b1) = false → b1 = true → mcmp ⟨a1, a2⟩ ⟨b1, b2⟩ = -1 := fun e e2 => by rw [key, if_neg (by simpa using e), if_pos e2]
  have k3 : (a1 == b1) = false → b1 = false → mcmp ⟨a1, a2⟩ ⟨b1, b2⟩ = 1 := fun e e2 => by rw [key, if_neg (by simpa using e), if_neg (by simp [e2])]
  clear key hr
  generalize mcmp ⟨a1, a2⟩ ⟨b1, b2⟩ = m at k1 k2 k3
  go_enter Tryd.func41, Tryd.ntmps41
  go_wp2_with (go_at_call 53; refine (hcon _).mono ?_; rintro e w' ⟨rfl, rfl⟩)
  all_goals go_ret
  all_goals refine ⟨?_, 0, _, by rw [alloc_eq_grow, alloc_eq_grow, grow_grow]; rfl⟩
  · rename_i e; rw [k1 e]; rfl
  · rename_i e1 e2; rw [k2 e1 e2]; rfl
  · rename_i e1 e2; rw [k3 e1 e2]; rfl
end Go.Proofs.YtfjcciaabkjkgaaDoor
namespace Go.Proofs.YtfjcciaabkjkgaaDoor
open Go Ml
instance : Inhabited Mt := ⟨nil⟩
theorem lt_mcmp (x y : Mt) : ltOf mcmp x y = mlt x y := by
  unfold ltOf mcmp
  by_cases e : x = y
  · subst e; simp [mlt_irrefl]
  · rw [if_neg e]; cases h : mlt x y <;> simp
theorem swo_mcmp : Go.Sort.SWO (ltOf mcmp) where
  irrefl x := by rw [lt_mcmp]; exact mlt_irrefl x
  trans x y z h1 h2 := by rw [lt_mcmp] at *; exact mlt_trans h1 h2
  ntrans x y z h1 h2 := by
    rw [lt_mcmp] at *
    cases h : mlt x z with
    | false => rfl
    | true =>
      exfalso
      by_cases e : mlt y x = true
      · have := mlt_trans e h; rw [this] at h2; cases h2
      · have e1 : mlt y x = false := by simpa using e
        have := mlt_total h1 e1
        subst this; rw [h] at h2; cases h2
theorem sort_c {h : Heap} {a : Option Addr} {c N : Nat} {L : List Mt} (s : Sl eMt h a c L) (w : Own eMt.k tMt N h a c) (hl : L.length ≤ 1099511627776) :
    HC Tryd.prog 40 #[.slice a L.length c, .func (.func 41) #[] #[]] h fun v h' => v = .tuple #[] ∧ Fr (blkA a) h h' ∧ ∃ L', L'.Perm L ∧ L'.Pairwise (fun x y => mlt y x = false) ∧ Sl eMt h' a c L' ∧ Own eMt.k tMt N h' a c := by
  refine (hc_sort Lay.sortMt eMt Tryd.isAgg62 Tryd.sizeOf62 mcmp swo_mcmp 41 #[] (fun args w => Tryd.call41 args w) s w (fun w' _ x y => ?_) (by omega)).mono ?_
  · exact compare_w x y w'
  · rintro v h' ⟨rfl, f, L', hp, hs, s', w'⟩
    exact ⟨rfl, f, L', hp, hs.imp fun h => by rw [lt_mcmp] at h; exact h, s', w'⟩
def kindsL : List (Int × Value) := kput (kput (kput [] 1 (.func (.func 48) #[] #[])) 2 (.func (.func 49) #[] #[])) 3 (.func (.func 50) #[] #[])
theorem kinds_c (h : Heap) : HC Tryd.prog 38 #[] h fun v h' => Ext h h' ∧ ∃ mb, v = .map (some mb) ∧ MapL h' mb (Value.int .i64) kindsL :=
  f38_sh _ _ fun mb h1 eb x1 _ m1 => ⟨[], m1, fun h2 o2 m2 => ⟨_, m2, fun h3 o3 m3 => ⟨_, m3, fun h4 o4 m4 =>
    ⟨ext_only (ext_only (ext_only x1 o2 (by omega)) o3 (by omega)) o4 (by omega), mb, rfl, m4⟩⟩⟩⟩
theorem cb1 : CallB Tryd.prog 48 := fun _ _ => Tryd.call48 _ _
theorem cb2 : CallB Tryd.prog 49 := fun _ _ => Tryd.call49 _ _
theorem cb3 : CallB Tryd.prog 50 := fun _ _ => Tryd.call50 _ _
theorem cb4 : CallB Tryd.prog 39 := fun _ _ => Tryd.call39 _ _
theorem does_cv (m : Mv) (w : Mt) (h : Heap) : HCV Tryd.prog (bif !((lk kindsL m.kind).isSome) then (.func (.func 39) #[] #[]) else (lk kindsL m.kind).getD .nilFunc) [mtV w, mvV m] h fun v h' => New eMt tMt h h' v (outs m w) := by
  have e : lk kindsL m.kind = if m.kind = 3 then some (.func (.func 50) #[] #[]) else if m.kind = 2 then some (.func (.func 49) #[] #[]) else if m.kind = 1 then some (.func (.func 48) #[] #[]) else none := by
    unfold kindsL; rw [lk_kput, lk_kput, lk_kput]; rfl
  rw [e]
  by_cases h3 : m.kind = 3
  · rw [if_pos h3]; exact hcv_func cb3 (deletes_c w m h3 h)
  · rw [if_neg h3]
    by_cases h2 : m.kind = 2
    · rw [if_pos h2]; exact hcv_func cb2 (puts_c w m h2 h)
    · rw [if_neg h2]
      by_cases h1 : m.kind = 1
      · rw [if_pos h1]; exact hcv_func cb1 (gets_c w m h1 h)
      · rw [if_neg h1]; exact hcv_func cb4 (other_c w m ⟨h1, h2, h3⟩ h)
theorem next_c {h : Heap} {a : Option Addr} {c : Nat} {L : List Mt} (s : Sl eMt h a c L) (hl : L.length ≤ 68719476736) (m : Mv) :
    HC Tryd.prog 21 #[.slice a L.length c, mvV m] h fun v h' => New eMt tMt h h' v (next L m) := by
  refine f21_sh _ _ _ _ _ _ _ _ _ _ _ _ _ fun mb h1 lo lt x1 => (kinds_c h1).mono ?_
  rintro _ h2 ⟨x2, rm, rfl, ml⟩
  refine ⟨x2, some rm, rfl, rm, rfl, kindsL, ml, _, rfl, fun b6 hb6 => ?_⟩
  subst hb6
  refine ⟨fun a' n' c' v h3 => ∃ j : Nat, v = j ∧ j ≤ L.length ∧ n' = ((L.take j).flatMap (outs m)).length ∧ Ext h1 h3 ∧ Sl eMt h3 a' c' ((L.take j).flatMap (outs m)) ∧ Own eMt.k tMt h1.size h3 a' c',
    fun _ _ _ v _ => L.length - v.toNat, ⟨0, rfl, Nat.zero_le _, rfl, x2, Sl.nil _ _, Own.nil _ _ _ _⟩, ?_⟩
  rintro out _ c' _ h3 ⟨j, rfl, hj, rfl, x3, s3, w3⟩
  have b3 := flat_outs_len m (L.take j)
  have bt : (L.take j).length ≤ L.length := by simp; omega
  refine ⟨fun hlt => ?_, fun hge => ?_⟩
  · have hjl := lt_of_dec hlt
    obtain ⟨b, o, e0, hc⟩ := (s.ext (x1.trans x3)).at (List.getElem?_eq_getElem hjl)
    refine ⟨b, o, e0, by omega, by omega, L[j].has, L[j].val, hc.1, hc.2.1, fun h5 x5 => (does_cv m L[j] h5).mono ?_⟩
    rintro v h6 ⟨a6, c6, rfl, x6, s6, w6⟩
    have bo := outs_len m L[j]
    have x36 := x3.trans (x5.trans x6)
    refine ⟨x6.kp _, a6, _, c6, rfl, app_own aMt x36 (s3.ext (x5.trans x6)) (w3.ext (x5.trans x6)) rfl s6 rfl (by omega) ?_⟩
    intro a7 c7 h7 x7 f7 s7 w7 _
    refine ⟨f7.kp fun b hb => ?_, a7, _, c7, rfl, ?_⟩
    · simp at hb; subst hb
      intro hb; have := (w3.low hb).1; omega
    · rw [wadd j (by omega), ← List.length_append, ← flat_take L (outs m) j hjl] at *
      exact ⟨⟨j + 1, rfl, hjl, rfl, x7, s7, w7⟩, by simp only [Int.toNat_natCast]; omega⟩
  · have hjl : j = L.length := by have := ge_of_dec hge; omega
    subst hjl
    rw [List.take_length] at *
    refine (sort_c s3 w3 (by omega)).mono ?_
    rintro _ h8 ⟨rfl, f8, L', hp, hs, s8, w8⟩
    refine ⟨rfl, ?_⟩
    rw [← hp.length_eq]
    have x8 := w3.grown x3 f8
    refine (compact_c s8 w8 (by rw [hp.length_eq]; omega)).mono ?_
    rintro v h9 ⟨f9, a9, c9, rfl, s9, w9, bl⟩
    rw [next_of_sort hp hs] at *
    exact ⟨a9, _, c9, rfl, a9, c9, rfl, x1.trans (w8.grown x8 f9), s9, w9.down x1.size⟩
theorem rnext_c {h : Heap} {a : Option Addr} {c : Nat} {L : List Mt} (s : Sl eMt h a c L) (hl : L.length ≤ 68719476736) (hn : Nm L) (m : Mv) :
    HC Tryd.prog 44 #[.slice a L.length c, mvV m] h fun v h' => Ext h h' ∧ Rd eMt h' v (next L m) := by
  refine f44_sh _ _ _ _ _ _ _ _ _ _ _ _ _ fun mb h2 lo lt x2 => ?_
  refine ⟨fun a' n' c' v h3 => ∃ j : Nat, v = j ∧ j ≤ L.length ∧ n' = (insAll [] ((L.take j).flatMap (outs m))).length ∧ Ext h h3 ∧ Sl eMt h3 a' c' (insAll [] ((L.take j).flatMap (outs m))),
    fun _ _ _ v _ => L.length - v.toNat, ⟨0, rfl, Nat.zero_le _, rfl, x2, Sl.nil _ _⟩, ?_⟩
  rintro out _ c' _ h3 ⟨j, rfl, hj, rfl, x3, s3⟩
  generalize hT : insAll [] ((L.take j).flatMap (outs m)) = T at *
  have sT : Srt T := by rw [← hT]; exact insAll_srt _ _ List.Pairwise.nil
  have bT : T.length ≤ 3 * L.length := by
    have h1 := insAll_len ((L.take j).flatMap (outs m)) []
    have h2 := flat_outs_len m (L.take j)
    have h3 : (L.take j).length ≤ L.length := by simp; omega
    rw [← hT]; rw [List.length_nil] at h1; omega
  refine ⟨fun hlt => ?_, fun hge => ?_⟩
  · have hjl := lt_of_dec hlt
    obtain ⟨b, o, e0, hc⟩ := (s.ext x3).at (List.getElem?_eq_getElem hjl)
    have hw := hn L[j] (List.getElem_mem hjl)
    have eN : insAll [] ((L.take (j + 1)).flatMap (outs m)) = insAll T (rOuts m L[j]) := by
      rw [flat_take L (outs m) j hjl, insAll_app, hT, insAll_outs sT]
    refine ⟨fun a' n' c' h' => ∃ T', T' = insAll T (rOuts m L[j]) ∧ n' = T'.length ∧ Ext h h' ∧ Sl eMt h' a' c' T', ⟨b, o, e0, by omega, by omega, L[j].has, L[j].val, hc.1, hc.2.1, fun e => ?_, fun e => ?_⟩, ?_⟩
    · intro h6 x6
      refine ⟨T, ?_, rfl, x3.trans x6, s3.ext x6⟩
      have : rOuts m L[j] = [] := by
        unfold rOuts; rw [if_pos]
        simp [hits] at e ⊢
        exact ⟨⟨e.1.1, e.1.2.2.2, e.1.2.2.1, e.1.2.1⟩, e.2⟩
      rw [this]; rfl
    · have eR : rOuts m L[j] = (if (doesR m).1 then [L[j]] else []) ++ (if (doesR m).2.1 then [⟨true, m.val⟩] else []) ++ (if (doesR m).2.2 then [nil] else []) := by
        unfold rOuts; rw [if_neg]
        rintro ⟨h1, h2⟩
        rw [Bool.eq_false_iff] at e
        apply e
        simp [hits] at h1 h2 ⊢
        exact ⟨⟨h1.1, h1.2.2.2, h1.2.2.1, h1.2.1⟩, h2⟩
      refine ⟨fun a' n' c' h' => ∃ T', T' = insAll T (if (doesR m).1 then [L[j]] else []) ∧ n' = T'.length ∧ T'.length ≤ T.length + 1 ∧ Ext h h' ∧ Sl eMt h' a' c' T', ⟨fun e1 h6 x6 => ?_, fun e1 h6 x6 => ?_⟩, ?_⟩
      · have e1' : (doesR m).1 = true := e1
        refine (with_c (s3.ext x6) (by omega) L[j]).mono ?_
        rintro _ h8 ⟨x8, a8, c8, rfl, s8⟩
        rw [norm_id hw] at *
        exact ⟨x8.kp _, a8, _, c8, rfl, _, by rw [if_pos e1']; rfl, rfl, insW_len _ _, x3.trans (x6.trans x8), s8⟩
      · have e1' : (doesR m).1 = false := e1
        exact ⟨T, by rw [if_neg (by rw [e1']; simp)]; rfl, rfl, by omega, x3.trans x6, s3.ext x6⟩
      · rintro a7 _ c7 h7 ⟨T7, eT7, rfl, b7, x7, s7⟩
        refine ⟨fun a' n' c' h' => ∃ T', T' = insAll T7 (if (doesR m).2.1 then [⟨true, m.val⟩] else []) ∧ n' = T'.length ∧ T'.length ≤ T7.length + 1 ∧ Ext h h' ∧ Sl eMt h' a' c' T', ⟨fun e2 => ?_, fun e2 => ?_⟩, ?_⟩
        · have e2' : (doesR m).2.1 = true := e2
          refine (with_c s7 (by omega) ⟨true, m.val⟩).mono ?_
          rintro _ h10 ⟨x10, a10, c10, rfl, s10⟩
          exact ⟨x10.kp _, a10, _, c10, rfl, _, by rw [if_pos e2']; rfl, rfl, insW_len _ _, x7.trans x10, s10⟩
        · have e2' : (doesR m).2.1 = false := e2
          exact ⟨T7, by rw [if_neg (by rw [e2']; simp)]; rfl, rfl, by omega, x7, s7⟩
        · rintro a9 _ c9 h9 ⟨T9, eT9, rfl, b9, x9, s9⟩
          refine ⟨fun e3 => ?_, fun e3 => ?_⟩
          · have e3' : (doesR m).2.2 = true := e3
            refine (with_c s9 (by omega) nil).mono ?_
            rintro _ h11 ⟨x11, a11, c11, rfl, s11⟩
            refine ⟨x11.kp _, a11, _, c11, rfl, _, ?_, rfl, x9.trans x11, s11⟩
            rw [eR, insAll_app, insAll_app, ← eT7, ← eT9, if_pos e3']; rfl
          · have e3' : (doesR m).2.2 = false := e3
            refine ⟨T9, ?_, rfl, x9, s9⟩
            rw [eR, insAll_app, insAll_app, ← eT7, ← eT9, if_neg (by rw [e3']; simp)]; rfl
    · rintro a4 _ c4 h4 ⟨T4, rfl, rfl, x4, s4⟩
      rw [wadd j (by omega)]
      exact ⟨⟨j + 1, rfl, hjl, by rw [eN], x4, by rw [eN]; exact s4⟩, by simp only [Int.toNat_natCast]; omega⟩
  · have hjl : j = L.length := by have := ge_of_dec hge; omega
    subst hjl
    rw [List.take_length] at hT
    have : next L m = T := hT
    rw [this]
    exact ⟨x3, out, c', rfl, s3⟩
end Go.Proofs.YtfjcciaabkjkgaaDoor
