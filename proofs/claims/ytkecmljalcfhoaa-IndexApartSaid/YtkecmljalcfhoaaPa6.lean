import Derived.WalkKit
import Derived.ProofKit
import Derived.OpenShut
import Derived.ShutString
import Derived.ChangeOld
import Derived.Below
import Derived.Carry
import Derived.Deep.Slices
import Derived.Deep.Fields
import Derived.Test.YtkecmljalcfhoaaProg
import Derived.Test.YtkecmljalcfhoaaPa1
import Derived.Test.YtkecmljalcfhoaaPa5
namespace Go.Proofs.Ytkecmljalcfhoaa
open Go
open Go.Proofs.Ytkecmljalcfhoaa renaming hl_val → lv, hl_step → lp, hl_nil → ln, hl_yes → ly, hl_no → lo, hx_seq → xs, hx_region → xr, hx_cond → xc, hx_block → xb, hx_loopT → xl, hx_cut → xk, hx_has → xh, hx_skip → xi, hx_ret → xt, hx_exit → xe, seqQ_n → qn, seqQ_ret → qr, seqQ_exit → qe, blockQ_n → bn, blockQ_ret → br, blockQ_here → bh, blockQ_past → bp, hv_move → vm, hv_assign → va, hv_arith → vr, hv_load → vl, hv_loads → vL, hv_extract → vx, hv_field → vf, hv_build → vb, hv_index → vi, hp_pure → pp, hp_read → pr, hp_no → pn, has_cons → hc, has_nil → hn, hcells_cons → cc, hcells_nil → cn, rowcell → rc, hs_call → sc
set_option maxRecDepth 100000
set_option maxHeartbeats 4000000
theorem TyShK.agg29 : aggB Try.prog 29 = some false := by kernel_rfl
theorem TyShK.agg3 : aggB Try.prog 3 = some false := by kernel_rfl
theorem TyShK.agg31 : aggB Try.prog 31 = some true := by kernel_rfl
theorem TyShK.agg4 : aggB Try.prog 4 = some false := by kernel_rfl
theorem TyShK.agg47 : aggB Try.prog 47 = some false := by kernel_rfl
theorem TyShK.agg78 : aggB Try.prog 78 = some false := by kernel_rfl
theorem TyShK.cb11 : CallB Try.prog 11 := fun _ _ => Try.call11 _ _
theorem TyShK.cb17 : CallB Try.prog 17 := fun _ _ => Try.call17 _ _
theorem TyShK.cb18 : CallB Try.prog 18 := fun _ _ => Try.call18 _ _
theorem TyShK.cb19 : CallB Try.prog 19 := fun _ _ => Try.call19 _ _
theorem TyShK.cb22 : CallB Try.prog 22 := fun _ _ => Try.call22 _ _
theorem TyShK.cb23 : CallB Try.prog 23 := fun _ _ => Try.call23 _ _
theorem TyShK.cb24 : CallB Try.prog 24 := fun _ _ => Try.call24 _ _
theorem TyShK.cb25 : CallB Try.prog 25 := fun _ _ => Try.call25 _ _
theorem TyShK.cb26 : CallB Try.prog 26 := fun _ _ => Try.call26 _ _
theorem TyShK.cb29 : CallB Try.prog 29 := fun _ _ => Try.call29 _ _
theorem TyShK.cb30 : CallB Try.prog 30 := fun _ _ => Try.call30 _ _
theorem TyShK.cb31 : CallB Try.prog 31 := fun _ _ => Try.call31 _ _
theorem TyShK.cb32 : CallB Try.prog 32 := fun _ _ => Try.call32 _ _
theorem TyShK.cb33 : CallB Try.prog 33 := fun _ _ => Try.call33 _ _
theorem TyShK.cb34 : CallB Try.prog 34 := fun _ _ => Try.call34 _ _
theorem TyShK.cb35 : CallB Try.prog 35 := fun _ _ => Try.call35 _ _
theorem TyShK.cb36 : CallB Try.prog 36 := fun _ _ => Try.call36 _ _
theorem TyShK.cb37 : CallB Try.prog 37 := fun _ _ => Try.call37 _ _
theorem TyShK.cb38 : CallB Try.prog 38 := fun _ _ => Try.call38 _ _
theorem TyShK.cb39 : CallB Try.prog 39 := fun _ _ => Try.call39 _ _
theorem TyShK.cb40 : CallB Try.prog 40 := fun _ _ => Try.call40 _ _
theorem TyShK.cb41 : CallB Try.prog 41 := fun _ _ => Try.call41 _ _
theorem TyShK.cb42 : CallB Try.prog 42 := fun _ _ => Try.call42 _ _
theorem TyShK.cb43 : CallB Try.prog 43 := fun _ _ => Try.call43 _ _
theorem TyShK.cb54 : CallB Try.prog 54 := fun _ _ => Try.call54 _ _
theorem TyShK.el47 : elB Try.prog 47 = some 4 := by kernel_rfl
theorem TyShK.fld24_0 : fldB Try.prog 24 0 = some 0 := by kernel_rfl
theorem TyShK.fld24_1 : fldB Try.prog 24 1 = some 1 := by kernel_rfl
theorem TyShK.fld24_2 : fldB Try.prog 24 2 = some 2 := by kernel_rfl
theorem TyShK.fld31_0 : fldB Try.prog 31 0 = some 0 := by kernel_rfl
theorem TyShK.fld31_1 : fldB Try.prog 31 1 = some 1 := by kernel_rfl
theorem TyShK.fld33_0 : fldB Try.prog 33 0 = some 0 := by kernel_rfl
theorem TyShK.fld33_1 : fldB Try.prog 33 1 = some 1 := by kernel_rfl
theorem TyShK.fld33_2 : fldB Try.prog 33 2 = some 5 := by kernel_rfl
theorem TyShK.fld33_3 : fldB Try.prog 33 3 = some 6 := by kernel_rfl
theorem TyShK.fld33_4 : fldB Try.prog 33 4 = some 7 := by kernel_rfl
theorem TyShK.fld80_1 : fldB Try.prog 80 1 = some 1 := by kernel_rfl
theorem TyShK.mixed : Try.prog.follows .mixedOrders = true := by kernel_rfl
theorem TyShK.pl31 : plB Try.prog 31 = some [(0, 1), (1, 1), (2, 1), (3, 1)] := by kernel_rfl
theorem TyShK.se31 : seB Try.prog 31 = some [(29, 0), (29, 1), (29, 2), (5, 3)] := by kernel_rfl
theorem TyShK.sz3 : szB Try.prog 3 = some 1 := by kernel_rfl
theorem TyShK.sz31 : szB Try.prog 31 = some 4 := by kernel_rfl
theorem TyShK.sz4 : szB Try.prog 4 = some 1 := by kernel_rfl
theorem TyShK.sz47 : szB Try.prog 47 = some 1 := by kernel_rfl
theorem TyShK.u4 : Try.prog.underlying 4 = some (.bool) := by kernel_rfl
theorem TyShK.u47 : Try.prog.underlying 47 = some (.slice 31) := by kernel_rfl
theorem TyShK.u78 : Try.prog.underlying 78 = some (.slice 47) := by kernel_rfl
theorem TyShK.up25 : Try.prog.underlying 25 = some (.pointer 61) := by kernel_rfl
theorem TyShK.up26 : Try.prog.underlying 26 = some (.pointer 80) := by kernel_rfl
theorem TyShK.z3 : zeroB Try.prog 3 (.int .i64 0) := by unfold zeroB; kernel_rfl
theorem TyShK.z31 : zeroB Try.prog 31 (.agg #[(.int .u64 0), (.int .u64 0), (.int .u64 0), (.int .u8 0)]) := by unfold zeroB; kernel_rfl
theorem TyShK.z4 : zeroB Try.prog 4 (.bool false) := by unfold zeroB; kernel_rfl
theorem TyShK.z47 : zeroB Try.prog 47 (.slice none 0 0) := by unfold zeroB; kernel_rfl
theorem ext_pushed_f5_sh {h h1 : Heap} {o : Obj} (e : h1 = Array.push h o) : Ext h h1 := by rw [e]; exact Ext.push _ _
theorem f22_sh  (h : Heap) (R : Value → Heap → Prop)
  (H : HC Try.prog 25 #[(.int .i64 2), (.int .i64 2), (.int .i64 4)] h (fun vv h1 => ∃ r0 : Option Addr, ∃ r1 : Int, vv = (.tuple #[(.pointer r0), (.int .i64 r1)]) ∧ ((((r1 != 0) || r0.isNone) = true → R (.bool false) h1) ∧ (((r1 != 0) || r0.isNone) = false → HC Try.prog 29 #[(.pointer r0), (.agg #[(.int .u64 5), (.int .u64 281474976710656), (.int .u64 3), (.int .u8 0)])] h1 (fun vv h2 => ∃ b0 b4 a3 a9 : Int, ∃ b1 : Bool, ∃ r2 : Int, vv = (.tuple #[(.agg #[(.int .u64 b0), (.int .u64 b4), (.int .u64 a3), (.int .u8 a9)]), (.bool b1), (.int .i64 r2)]) ∧ (∀ (h4 : Heap), Ext h2 h4 → HC Try.prog 29 #[(.pointer r0), (.agg #[(.int .u64 5), (.int .u64 562949953421312), (.int .u64 2), (.int .u8 0)])] h4 (fun vv h5 => ∃ a4 a8 a0 a5 : Int, ∃ c1 : Bool, ∃ b2 : Int, vv = (.tuple #[(.agg #[(.int .u64 a4), (.int .u64 a8), (.int .u64 a0), (.int .u8 a5)]), (.bool c1), (.int .i64 b2)]) ∧ (∀ (h7 : Heap), Ext h5 h7 → HC Try.prog 11 #[(.pointer r0), (.int .u64 5)] h7 (fun vv h8 => ∃ a6 a1 a2 a7 : Int, ∃ b3 : Bool, vv = (.tuple #[(.agg #[(.int .u64 a6), (.int .u64 a1), (.int .u64 a2), (.int .u8 a7)]), (.bool b3)]) ∧ (∃ c3 : Bool, (((!b1) = true → (((r2 == 0) = true → (((b2 == 120) = true → ((b3 = true → (((a1 == 281474976710656) = true → (∀ (b8 : Heap), Ext h8 b8 → (∃ r : Int, HC Try.prog 24 #[(.pointer r0), (.int .u64 5)] b8 (fun vv h' => vv = (.int .i64 r) ∧ h' = b8) ∧ (((r == 1) = true → (∃ c5 : Int, HC Try.prog 23 #[(.pointer r0), (.int .i64 1)] b8 (fun vv h' => vv = (.int .i64 c5) ∧ h' = b8) ∧ (c3 = (c5 == 1)))) ∧ ((r == 1) = false → (c3 = false)))))) ∧ ((a1 == 281474976710656) = false → (c3 = false)))) ∧ (b3 = false → (c3 = false)))) ∧ ((b2 == 120) = false → (c3 = false)))) ∧ ((r2 == 0) = false → (c3 = false)))) ∧ ((!b1) = false → (c3 = false))) ∧ (∀ (b8 : Heap), Ext h8 b8 → R (.bool c3) b8))))))))))) :
  HC Try.prog 22 #[] h R := by
 refine hc_of (args := []) Try.func22 rfl Try.ntmps22 (Nat.le_of_ble_eq_true rfl) ?_
 refine xs (xr ?_)
 refine lv rfl rfl (va rfl) ?_
 refine ln (qn (xs (xr ?_)))
 refine lp rfl rfl (sc TyShK.cb25 rfl (HC.mono H ?_))
 rintro _ h1 ⟨r0, r1, rfl, H⟩
 refine lv rfl rfl (vm rfl) (lv rfl rfl (vx rfl rfl) (lv rfl rfl (vx rfl rfl) (lv rfl rfl (va rfl) (lv rfl rfl (va rfl) ?_))))
 refine ln (qn (xs ?_))
 refine xk (fun ρ h' => h1 = h' ∧ Has ρ [(1, (.pointer r0)), (19, (.bool ((r1 != 0) || r0.isNone)))]) ?_ ?_
 ·refine xr ?_
  refine lv rfl rfl (vm rfl) (lv rfl rfl (vr rfl rfl rfl) (lv rfl rfl (vm rfl) ?_))
  rcases bool_or (r1 != 0) with c2 | c2
  ·refine lo (wanted_n rfl rfl rfl c2) rfl ?_
   refine lo (wanted_n rfl rfl rfl c2) rfl ?_
   refine lv rfl rfl (v := (.bool true)) (hv_pick_t rfl c2 rfl) ?_
   refine ln (qn ?_)
   exact ⟨rfl, (hc rfl (hc (show ((.bool true) : Value) = (.bool ((r1 != 0) || r0.isNone)) from (by first | rfl | ((try rw [c2]); all_goals first | rfl | (simp only [Bool.true_or, Bool.or_true, Bool.false_or, Bool.or_false, Bool.true_and, Bool.and_true, Bool.false_and, Bool.and_false, Bool.not_true, Bool.not_false, Bool.cond_true, Bool.cond_false]; done)) | simp [c2])) hn))⟩
  ·refine ly (wanted_y rfl rfl rfl c2) rfl (HStep.of_val (v := (.pointer r0)) (vm rfl) ?_)
   refine ly (wanted_y rfl rfl rfl c2) rfl (HStep.of_val (v := (.bool r0.isNone)) (hv_ptrNil TyShK.up25 rfl rfl) ?_)
   refine lv rfl rfl (v := (.bool r0.isNone)) (hv_pick_f rfl c2 rfl) ?_
   refine ln (qn ?_)
   exact ⟨rfl, (hc rfl (hc (show ((.bool r0.isNone) : Value) = (.bool ((r1 != 0) || r0.isNone)) from (by first | rfl | ((try rw [c2]); all_goals first | rfl | (simp only [Bool.true_or, Bool.or_true, Bool.false_or, Bool.or_false, Bool.true_and, Bool.and_true, Bool.false_and, Bool.and_false, Bool.not_true, Bool.not_false, Bool.cond_true, Bool.cond_false]; done)) | simp [c2])) hn))⟩
 ·rintro ρ _ ⟨rfl, hH⟩
  refine xh _ hH ?_
  refine xc (b := ((r1 != 0) || r0.isNone)) rfl (fun d3 => ?_) (fun d3 => ?_)
  ·replace H := H.1 d3
   refine xs (xr ?_)
   refine lv rfl rfl (va rfl) ?_
   refine ln (qn (xt (qr ?_)))
   exact endQ_ret _ (res_one Try.results22 (rv_tmp rfl)) H
  ·replace H := H.2 d3
   refine xi (qn (xs (xr ?_)))
   refine lv rfl rfl (vm rfl) (lv rfl rfl (v := (.agg #[(.int .u64 5), (.int .u64 281474976710656), (.int .u64 3), (.int .u8 0)])) (vb (vs := [(0, (.int .u64 5)), (1, (.int .u64 281474976710656)), (2, (.int .u64 3))]) (cs := #[(.int .u64 5), (.int .u64 281474976710656), (.int .u64 3), (.int .u8 0)]) TyShK.z31 TyShK.pl31 rfl (by kernel_rfl)) ?_)
   refine lp rfl rfl (sc TyShK.cb29 rfl (HC.mono H ?_))
   rintro _ h2 ⟨b0, b4, a3, a9, b1, r2, rfl, H⟩
   refine lv rfl rfl (vm rfl) (lv rfl rfl (vx rfl rfl) (lv rfl rfl (vx rfl rfl) (lv rfl rfl (vx rfl rfl) ?_)))
   refine lp rfl rfl (hn_alloc TyShK.z31 ?_)
   intro x h3 e4 e2
   have f4 := ext_pushed_f5_sh e2
   have f3 : Array.size h2 ≤ x := Nat.le_of_eq (Eq.symm e4)
   have e3 : h3[x]? = some (.cells #[(.int .u64 0), (.int .u64 0), (.int .u64 0), (.int .u8 0)] 31 (0, 0)) := by rw [e2]; exact push_new e4
   refine lp rfl rfl (hn_stores (vs := [(.int .u64 b0), (.int .u64 b4), (.int .u64 a3), (.int .u8 a9)]) rfl rfl TyShK.sz31 rfl (HWs_row e3 (by simp)) ?_)
   intro h4 d5
   have f6 : h4[x]? = some (.cells #[(.int .u64 b0), (.int .u64 b4), (.int .u64 a3), (.int .u8 a9)] 31 (0, 0)) := row_hsets_eq d5 e3 rfl
   have f2 := ext_hsets d5 f4 f3
   refine lv rfl rfl (va rfl) (lv rfl rfl (va rfl) ?_)
   refine ln (qn (xs (xr ?_)))
   refine lv rfl rfl (vm rfl) (lv rfl rfl (v := (.agg #[(.int .u64 5), (.int .u64 562949953421312), (.int .u64 2), (.int .u8 0)])) (vb (vs := [(0, (.int .u64 5)), (1, (.int .u64 562949953421312)), (2, (.int .u64 2))]) (cs := #[(.int .u64 5), (.int .u64 562949953421312), (.int .u64 2), (.int .u8 0)]) TyShK.z31 TyShK.pl31 rfl (by kernel_rfl)) ?_)
   replace H := H h4 f2
   refine lp rfl rfl (sc TyShK.cb29 rfl (HC.mono H ?_))
   rintro _ h5 ⟨a4, a8, a0, a5, c1, b2, rfl, H⟩
   refine lv rfl rfl (vm rfl) (lv rfl rfl (vx rfl rfl) (lv rfl rfl (vx rfl rfl) (lv rfl rfl (vx rfl rfl) ?_)))
   refine lp rfl rfl (hn_alloc TyShK.z31 ?_)
   intro d6 h6 c9 d7
   have e6 := ext_pushed_f5_sh d7
   have f0 : Array.size h5 ≤ d6 := Nat.le_of_eq (Eq.symm c9)
   have d0 : h6[d6]? = some (.cells #[(.int .u64 0), (.int .u64 0), (.int .u64 0), (.int .u8 0)] 31 (0, 0)) := by rw [d7]; exact push_new c9
   refine lp rfl rfl (hn_stores (vs := [(.int .u64 a4), (.int .u64 a8), (.int .u64 a0), (.int .u8 a5)]) rfl rfl TyShK.sz31 rfl (HWs_row d0 (by simp)) ?_)
   intro h7 d9
   have f5 : h7[d6]? = some (.cells #[(.int .u64 a4), (.int .u64 a8), (.int .u64 a0), (.int .u8 a5)] 31 (0, 0)) := row_hsets_eq d9 d0 rfl
   have e7 := ext_hsets d9 e6 f0
   refine lv rfl rfl (va rfl) (lv rfl rfl (va rfl) ?_)
   refine ln (qn (xs (xr ?_)))
   refine lv rfl rfl (vm rfl) ?_
   replace H := H h7 e7
   refine lp rfl rfl (sc TyShK.cb11 rfl (HC.mono H ?_))
   rintro _ h8 ⟨a6, a1, a2, a7, b3, rfl, H⟩
   refine lv rfl rfl (vm rfl) (lv rfl rfl (vx rfl rfl) (lv rfl rfl (vx rfl rfl) ?_))
   refine lp rfl rfl (hn_alloc TyShK.z31 ?_)
   intro c6 h9 e0 d2
   have e9 := ext_pushed_f5_sh d2
   have e8 : Array.size h8 ≤ c6 := Nat.le_of_eq (Eq.symm e0)
   have d8 : h9[c6]? = some (.cells #[(.int .u64 0), (.int .u64 0), (.int .u64 0), (.int .u8 0)] 31 (0, 0)) := by rw [d2]; exact push_new e0
   refine lp rfl rfl (hn_stores (vs := [(.int .u64 a6), (.int .u64 a1), (.int .u64 a2), (.int .u8 a7)]) rfl rfl TyShK.sz31 rfl (HWs_row d8 (by simp)) ?_)
   intro b8 d1
   have e1 : b8[c6]? = some (.cells #[(.int .u64 a6), (.int .u64 a1), (.int .u64 a2), (.int .u8 a7)] 31 (0, 0)) := row_hsets_eq d1 d8 rfl
   have d4 := ext_hsets d1 e9 e8
   refine lv rfl rfl (va rfl) ?_
   refine ln (qn ?_)
   obtain ⟨c3, c8, c7⟩ := H
   refine xk (fun ρ h' => b8 = h' ∧ Has ρ [(0, (.bool c3))]) ?_ ?_
   ·have H := c8; clear c8 c7
    refine xr ?_
    refine lv rfl rfl (vm rfl) (lv rfl rfl (v := (.bool (!b1))) (hv_not (b := b1) rfl) (lv rfl rfl (vm rfl) ?_))
    rcases bool_or (!b1) with c0 | c0
    ·replace H := H.1 c0
     refine ly (wanted_y rfl rfl rfl c0) rfl (HStep.of_val (v := (.int .i64 r2)) (vm rfl) ?_)
     refine ly (wanted_y rfl rfl rfl c0) rfl (HStep.of_val (v := (.bool (r2 == 0))) (vr rfl rfl rfl) ?_)
     refine lv rfl rfl (v := (.bool (r2 == 0))) (hv_pick_t rfl c0 rfl) (lv rfl rfl (vm rfl) ?_)
     rcases bool_or (r2 == 0) with b9 | b9
     ·replace H := H.1 b9
      refine ly (wanted_y rfl rfl rfl b9) rfl (HStep.of_val (v := (.int .i64 b2)) (vm rfl) ?_)
      refine ly (wanted_y rfl rfl rfl b9) rfl (HStep.of_val (v := (.bool (b2 == 120))) (vr rfl rfl rfl) ?_)
      refine lv rfl rfl (v := (.bool (b2 == 120))) (hv_pick_t rfl b9 rfl) (lv rfl rfl (vm rfl) ?_)
      rcases bool_or (b2 == 120) with c4 | c4
      ·replace H := H.1 c4
       refine ly (wanted_y rfl rfl rfl c4) rfl (HStep.of_val (v := (.bool b3)) (vm rfl) ?_)
       refine lv rfl rfl (v := (.bool b3)) (hv_pick_t rfl c4 rfl) (lv rfl rfl (vm rfl) ?_)
       rcases bool_or (b3) with b5 | b5
       ·replace H := H.1 b5
        refine ly (wanted_y rfl rfl rfl b5) rfl (HStep.of_val (v := (ptr c6 1)) (vf TyShK.fld31_1 (b := c6) (o := 0) rfl) ?_)
        refine ly (wanted_y rfl rfl rfl b5) rfl (HStep.of_val (v := (.int .u64 a1)) (vl TyShK.agg29 rfl (rc e1 rfl)) ?_)
        refine ly (wanted_y rfl rfl rfl b5) rfl (HStep.of_val (v := (.bool (a1 == 281474976710656))) (vr rfl rfl rfl) ?_)
        refine lv rfl rfl (v := (.bool (a1 == 281474976710656))) (hv_pick_t rfl b5 rfl) (lv rfl rfl (vm rfl) ?_)
        rcases bool_or (a1 == 281474976710656) with b6 | b6
        ·replace H := H.1 b6
         refine ly (wanted_y rfl rfl rfl b6) rfl (HStep.of_val (v := (.pointer r0)) (vm rfl) ?_)
         replace H := H b8 d4
         obtain ⟨r, e5, H⟩ := H
         refine ly (wanted_y rfl rfl rfl b6) rfl (HStep.of_val (v := (.int .i64 r)) (hv_call TyShK.cb24 (vs := [(.pointer r0), (.int .u64 5)]) rfl e5) ?_)
         refine ly (wanted_y rfl rfl rfl b6) rfl (HStep.of_val (v := (.bool (r == 1))) (vr rfl rfl rfl) ?_)
         refine lv rfl rfl (v := (.bool (r == 1))) (hv_pick_t rfl b6 rfl) (lv rfl rfl (vm rfl) ?_)
         rcases bool_or (r == 1) with b7 | b7
         ·replace H := H.1 b7
          refine ly (wanted_y rfl rfl rfl b7) rfl (HStep.of_val (v := (.pointer r0)) (vm rfl) ?_)
          obtain ⟨c5, f1, H⟩ := H
          refine ly (wanted_y rfl rfl rfl b7) rfl (HStep.of_val (v := (.int .i64 c5)) (hv_call TyShK.cb23 (vs := [(.pointer r0), (.int .i64 1)]) rfl f1) ?_)
          refine ly (wanted_y rfl rfl rfl b7) rfl (HStep.of_val (v := (.bool (c5 == 1))) (vr rfl rfl rfl) ?_)
          refine lv rfl rfl (v := (.bool (c5 == 1))) (hv_pick_t rfl b7 rfl) (lv rfl rfl (va rfl) ?_)
          refine ln (qn ?_)
          obtain rfl := H
          exact ⟨rfl, (hc rfl hn)⟩
         ·replace H := H.2 b7
          refine lo (wanted_n rfl rfl rfl b7) rfl ?_
          refine lo (wanted_n rfl rfl rfl b7) rfl ?_
          refine lo (wanted_n rfl rfl rfl b7) rfl ?_
          refine lv rfl rfl (v := (.bool false)) (hv_pick_f rfl b7 rfl) (lv rfl rfl (va rfl) ?_)
          refine ln (qn ?_)
          obtain rfl := H
          exact ⟨rfl, (hc rfl hn)⟩
        ·replace H := H.2 b6
         refine lo (wanted_n rfl rfl rfl b6) rfl ?_
         refine lo (wanted_n rfl rfl rfl b6) rfl ?_
         refine lo (wanted_n rfl rfl rfl b6) rfl ?_
         refine lv rfl rfl (v := (.bool false)) (hv_pick_f rfl b6 rfl) (lv rfl rfl (vm rfl) ?_)
         refine lo (wanted_n rfl rfl (c := false) rfl rfl) rfl ?_
         refine lo (wanted_n rfl rfl (c := false) rfl rfl) rfl ?_
         refine lo (wanted_n rfl rfl (c := false) rfl rfl) rfl ?_
         refine lv rfl rfl (v := (.bool false)) (hv_pick (t := false) rfl rfl) (lv rfl rfl (va rfl) ?_)
         refine ln (qn ?_)
         obtain rfl := H
         exact ⟨rfl, (hc rfl hn)⟩
       ·replace H := H.2 b5
        refine lo (wanted_n rfl rfl rfl b5) rfl ?_
        refine lo (wanted_n rfl rfl rfl b5) rfl ?_
        refine lo (wanted_n rfl rfl rfl b5) rfl ?_
        refine lv rfl rfl (v := (.bool false)) (hv_pick_f rfl b5 rfl) (lv rfl rfl (vm rfl) ?_)
        refine lo (wanted_n rfl rfl (c := false) rfl rfl) rfl ?_
        refine lo (wanted_n rfl rfl (c := false) rfl rfl) rfl ?_
        refine lo (wanted_n rfl rfl (c := false) rfl rfl) rfl ?_
        refine lv rfl rfl (v := (.bool false)) (hv_pick (t := false) rfl rfl) (lv rfl rfl (vm rfl) ?_)
        refine lo (wanted_n rfl rfl (c := false) rfl rfl) rfl ?_
        refine lo (wanted_n rfl rfl (c := false) rfl rfl) rfl ?_
        refine lo (wanted_n rfl rfl (c := false) rfl rfl) rfl ?_
        refine lv rfl rfl (v := (.bool false)) (hv_pick (t := false) rfl rfl) (lv rfl rfl (va rfl) ?_)
        refine ln (qn ?_)
        obtain rfl := H
        exact ⟨rfl, (hc rfl hn)⟩
      ·replace H := H.2 c4
       refine lo (wanted_n rfl rfl rfl c4) rfl ?_
       refine lv rfl rfl (v := (.bool false)) (hv_pick_f rfl c4 rfl) (lv rfl rfl (vm rfl) ?_)
       refine lo (wanted_n rfl rfl (c := false) rfl rfl) rfl ?_
       refine lo (wanted_n rfl rfl (c := false) rfl rfl) rfl ?_
       refine lo (wanted_n rfl rfl (c := false) rfl rfl) rfl ?_
       refine lv rfl rfl (v := (.bool false)) (hv_pick (t := false) rfl rfl) (lv rfl rfl (vm rfl) ?_)
       refine lo (wanted_n rfl rfl (c := false) rfl rfl) rfl ?_
       refine lo (wanted_n rfl rfl (c := false) rfl rfl) rfl ?_
       refine lo (wanted_n rfl rfl (c := false) rfl rfl) rfl ?_
       refine lv rfl rfl (v := (.bool false)) (hv_pick (t := false) rfl rfl) (lv rfl rfl (vm rfl) ?_)
       refine lo (wanted_n rfl rfl (c := false) rfl rfl) rfl ?_
       refine lo (wanted_n rfl rfl (c := false) rfl rfl) rfl ?_
       refine lo (wanted_n rfl rfl (c := false) rfl rfl) rfl ?_
       refine lv rfl rfl (v := (.bool false)) (hv_pick (t := false) rfl rfl) (lv rfl rfl (va rfl) ?_)
       refine ln (qn ?_)
       obtain rfl := H
       exact ⟨rfl, (hc rfl hn)⟩
     ·replace H := H.2 b9
      refine lo (wanted_n rfl rfl rfl b9) rfl ?_
      refine lo (wanted_n rfl rfl rfl b9) rfl ?_
      refine lv rfl rfl (v := (.bool false)) (hv_pick_f rfl b9 rfl) (lv rfl rfl (vm rfl) ?_)
      refine lo (wanted_n rfl rfl (c := false) rfl rfl) rfl ?_
      refine lv rfl rfl (v := (.bool false)) (hv_pick (t := false) rfl rfl) (lv rfl rfl (vm rfl) ?_)
      refine lo (wanted_n rfl rfl (c := false) rfl rfl) rfl ?_
      refine lo (wanted_n rfl rfl (c := false) rfl rfl) rfl ?_
      refine lo (wanted_n rfl rfl (c := false) rfl rfl) rfl ?_
      refine lv rfl rfl (v := (.bool false)) (hv_pick (t := false) rfl rfl) (lv rfl rfl (vm rfl) ?_)
      refine lo (wanted_n rfl rfl (c := false) rfl rfl) rfl ?_
      refine lo (wanted_n rfl rfl (c := false) rfl rfl) rfl ?_
      refine lo (wanted_n rfl rfl (c := false) rfl rfl) rfl ?_
      refine lv rfl rfl (v := (.bool false)) (hv_pick (t := false) rfl rfl) (lv rfl rfl (vm rfl) ?_)
      refine lo (wanted_n rfl rfl (c := false) rfl rfl) rfl ?_
      refine lo (wanted_n rfl rfl (c := false) rfl rfl) rfl ?_
      refine lo (wanted_n rfl rfl (c := false) rfl rfl) rfl ?_
      refine lv rfl rfl (v := (.bool false)) (hv_pick (t := false) rfl rfl) (lv rfl rfl (va rfl) ?_)
      refine ln (qn ?_)
      obtain rfl := H
      exact ⟨rfl, (hc rfl hn)⟩
    ·replace H := H.2 c0
     refine lo (wanted_n rfl rfl rfl c0) rfl ?_
     refine lo (wanted_n rfl rfl rfl c0) rfl ?_
     refine lv rfl rfl (v := (.bool false)) (hv_pick_f rfl c0 rfl) (lv rfl rfl (vm rfl) ?_)
     refine lo (wanted_n rfl rfl (c := false) rfl rfl) rfl ?_
     refine lo (wanted_n rfl rfl (c := false) rfl rfl) rfl ?_
     refine lv rfl rfl (v := (.bool false)) (hv_pick (t := false) rfl rfl) (lv rfl rfl (vm rfl) ?_)
     refine lo (wanted_n rfl rfl (c := false) rfl rfl) rfl ?_
     refine lv rfl rfl (v := (.bool false)) (hv_pick (t := false) rfl rfl) (lv rfl rfl (vm rfl) ?_)
     refine lo (wanted_n rfl rfl (c := false) rfl rfl) rfl ?_
     refine lo (wanted_n rfl rfl (c := false) rfl rfl) rfl ?_
     refine lo (wanted_n rfl rfl (c := false) rfl rfl) rfl ?_
     refine lv rfl rfl (v := (.bool false)) (hv_pick (t := false) rfl rfl) (lv rfl rfl (vm rfl) ?_)
     refine lo (wanted_n rfl rfl (c := false) rfl rfl) rfl ?_
     refine lo (wanted_n rfl rfl (c := false) rfl rfl) rfl ?_
     refine lo (wanted_n rfl rfl (c := false) rfl rfl) rfl ?_
     refine lv rfl rfl (v := (.bool false)) (hv_pick (t := false) rfl rfl) (lv rfl rfl (vm rfl) ?_)
     refine lo (wanted_n rfl rfl (c := false) rfl rfl) rfl ?_
     refine lo (wanted_n rfl rfl (c := false) rfl rfl) rfl ?_
     refine lo (wanted_n rfl rfl (c := false) rfl rfl) rfl ?_
     refine lv rfl rfl (v := (.bool false)) (hv_pick (t := false) rfl rfl) (lv rfl rfl (va rfl) ?_)
     refine ln (qn ?_)
     obtain rfl := H
     exact ⟨rfl, (hc rfl hn)⟩
   ·have H := c7; clear c8 c7
    rintro ρ _ ⟨rfl, hH⟩
    refine xh _ hH ?_
    refine xt ?_
    replace H := H b8 d4
    exact endQ_ret _ (res_one Try.results22 (rv_tmp rfl)) H
theorem f10_sh (a0 : Int) (a3 : Int) (a2 : Int) (b0 : Option Addr) (a7 : Nat) (a9 : Nat) (h : Heap) (R : Value → Heap → Prop)
  (H : (∀ (sv : Nat) (h1 : Heap), Array.size h ≤ sv → sv < Array.size h1 → Ext h h1 → HC Try.prog 25 #[(.int .i64 a0), (.int .i64 a3), (.int .i64 a2)] h1 (fun vv h2 => Kp [sv] h1 h2 ∧ ∃ r0 : Option Addr, ∃ r1 : Int, vv = (.tuple #[(.pointer r0), (.int .i64 r1)]) ∧ HC Try.prog 26 #[(.int .i64 a0), (.int .i64 a3), (.int .i64 a2)] h2 (fun vv h3 => ∃ a1 : Option Addr, ∃ a5 : Int, vv = (.tuple #[(.pointer a1), (.int .i64 a5)]) ∧ (∃ A9 : Bool → Heap → Prop, HC Try.prog 22 #[] h3 (fun vv h5 => ∃ r : Bool, vv = (.bool r) ∧ ((r = true → (((r1 == a5) = true → (A9 (r0.isSome == a1.isSome) h5)) ∧ ((r1 == a5) = false → (A9 false h5)))) ∧ (r = false → (A9 false h5)))) ∧ (∀ (ok : Bool) (h4 : Heap), A9 ok h4 → R (.tuple #[(.pointer r0), (.pointer a1), (.bool ok)]) h4)))))) :
  HC Try.prog 10 #[(.agg #[(.int .i64 a0), (.int .i64 a3), (.int .i64 a2), (.slice b0 a7 a9)])] h R := by
 refine hc_of (args := [(.agg #[(.int .i64 a0), (.int .i64 a3), (.int .i64 a2), (.slice b0 a7 a9)])]) Try.func10 rfl Try.ntmps10 (Nat.le_of_ble_eq_true rfl) ?_
 refine xs (xr ?_)
 refine lp rfl rfl (hn_box (v := (.agg #[(.int .i64 a0), (.int .i64 a3), (.int .i64 a2), (.slice b0 a7 a9)])) rfl ?_)
 intro sv h1 b3 b4
 have b7 := ext_pushed_f5_sh b4
 have b8 : Array.size h ≤ sv := Nat.le_of_eq (Eq.symm b3)
 have a8 : h1[sv]? = some (.cells #[(.int .i64 a0), (.int .i64 a3), (.int .i64 a2), (.slice b0 a7 a9)] 24 (0, 0)) := by rw [b4]; exact push_new b3
 refine lv rfl rfl (va rfl) (lv rfl rfl (va rfl) (lv rfl rfl (va rfl) ?_))
 refine ln (qn (xs (xr ?_)))
 refine lv rfl rfl (v := (ptr sv 0)) (vf TyShK.fld24_0 (b := sv) (o := 0) rfl) (lv rfl rfl (vl TyShK.agg3 rfl (rc a8 rfl)) (lv rfl rfl (v := (ptr sv 1)) (vf TyShK.fld24_1 (b := sv) (o := 0) rfl) (lv rfl rfl (vl TyShK.agg3 rfl (rc a8 rfl)) (lv rfl rfl (v := (ptr sv 2)) (vf TyShK.fld24_2 (b := sv) (o := 0) rfl) (lv rfl rfl (vl TyShK.agg3 rfl (rc a8 rfl)) ?_)))))
 replace H := H sv h1 b8 (row_lt a8) b7
 refine lp rfl rfl (sc TyShK.cb25 rfl (HC.mono H ?_))
 rintro _ h2 ⟨b6, r0, r1, rfl, H⟩
 replace a8 := Kp.row b6 (by simp) a8
 refine lv rfl rfl (vm rfl) (lv rfl rfl (vx rfl rfl) (lv rfl rfl (vx rfl rfl) (lv rfl rfl (va rfl) (lv rfl rfl (va rfl) ?_))))
 refine ln (qn (xs (xr ?_)))
 refine lv rfl rfl (v := (ptr sv 0)) (vf TyShK.fld24_0 (b := sv) (o := 0) rfl) (lv rfl rfl (vl TyShK.agg3 rfl (rc a8 rfl)) (lv rfl rfl (v := (ptr sv 1)) (vf TyShK.fld24_1 (b := sv) (o := 0) rfl) (lv rfl rfl (vl TyShK.agg3 rfl (rc a8 rfl)) (lv rfl rfl (v := (ptr sv 2)) (vf TyShK.fld24_2 (b := sv) (o := 0) rfl) (lv rfl rfl (vl TyShK.agg3 rfl (rc a8 rfl)) ?_)))))
 refine lp rfl rfl (sc TyShK.cb26 rfl (HC.mono H ?_))
 rintro _ h3 ⟨a1, a5, rfl, H⟩
 refine lv rfl rfl (vm rfl) (lv rfl rfl (vx rfl rfl) (lv rfl rfl (vx rfl rfl) (lv rfl rfl (va rfl) (lv rfl rfl (va rfl) ?_))))
 refine ln (qn ?_)
 obtain ⟨A9, b1, b2⟩ := H
 refine xk (fun ρ h' => ∃ ok : Bool, (A9 ok h' ∧ True) ∧ Has ρ [(2, (.pointer r0)), (3, (.pointer a1)), (4, (.bool ok))]) ?_ ?_
 ·have H := b1; clear b1 b2
  refine xr ?_
  refine lv rfl rfl (vm rfl) (lv rfl rfl (vm rfl) ?_)
  refine lp rfl rfl (sc TyShK.cb22 rfl (HC.mono H ?_))
  rintro _ h5 ⟨r, rfl, H⟩
  refine lv rfl rfl (vm rfl) ?_
  rcases bool_or (r) with a6 | a6
  ·replace H := H.1 a6
   refine ly (wanted_y rfl rfl rfl a6) rfl (HStep.of_val (v := (.int .i64 r1)) (vm rfl) ?_)
   refine ly (wanted_y rfl rfl rfl a6) rfl (HStep.of_val (v := (.int .i64 a5)) (vm rfl) ?_)
   refine ly (wanted_y rfl rfl rfl a6) rfl (HStep.of_val (v := (.bool (r1 == a5))) (vr rfl rfl rfl) ?_)
   refine lv rfl rfl (v := (.bool (r1 == a5))) (hv_pick_t rfl a6 rfl) (lv rfl rfl (vm rfl) ?_)
   rcases bool_or (r1 == a5) with a4 | a4
   ·replace H := H.1 a4
    refine ly (wanted_y rfl rfl rfl a4) rfl (HStep.of_val (v := (.pointer r0)) (vm rfl) ?_)
    refine ly (wanted_y rfl rfl rfl a4) rfl (HStep.of_val (v := (.bool r0.isSome)) (hv_ptrNil TyShK.up25 rfl rfl) ?_)
    refine ly (wanted_y rfl rfl rfl a4) rfl (HStep.of_val (v := (.pointer a1)) (vm rfl) ?_)
    refine ly (wanted_y rfl rfl rfl a4) rfl (HStep.of_val (v := (.bool a1.isSome)) (hv_ptrNil TyShK.up26 rfl rfl) ?_)
    refine ly (wanted_y rfl rfl rfl a4) rfl (HStep.of_val (v := (.bool (r0.isSome == a1.isSome))) (hv_eqBool TyShK.u4 rfl rfl rfl) ?_)
    refine lv rfl rfl (v := (.bool (r0.isSome == a1.isSome))) (hv_pick_t rfl a4 rfl) (lv rfl rfl (va rfl) (lv rfl rfl (va rfl) (lv rfl rfl (va rfl) ?_)))
    refine ln (qn ?_)
    exact ⟨_, ⟨H, trivial⟩, (hc rfl (hc rfl (hc rfl hn)))⟩
   ·replace H := H.2 a4
    refine lo (wanted_n rfl rfl rfl a4) rfl ?_
    refine lo (wanted_n rfl rfl rfl a4) rfl ?_
    refine lo (wanted_n rfl rfl rfl a4) rfl ?_
    refine lo (wanted_n rfl rfl rfl a4) rfl ?_
    refine lo (wanted_n rfl rfl rfl a4) rfl ?_
    refine lv rfl rfl (v := (.bool false)) (hv_pick_f rfl a4 rfl) (lv rfl rfl (va rfl) (lv rfl rfl (va rfl) (lv rfl rfl (va rfl) ?_)))
    refine ln (qn ?_)
    exact ⟨_, ⟨H, trivial⟩, (hc rfl (hc rfl (hc rfl hn)))⟩
  ·replace H := H.2 a6
   refine lo (wanted_n rfl rfl rfl a6) rfl ?_
   refine lo (wanted_n rfl rfl rfl a6) rfl ?_
   refine lo (wanted_n rfl rfl rfl a6) rfl ?_
   refine lv rfl rfl (v := (.bool false)) (hv_pick_f rfl a6 rfl) (lv rfl rfl (vm rfl) ?_)
   refine lo (wanted_n rfl rfl (c := false) rfl rfl) rfl ?_
   refine lo (wanted_n rfl rfl (c := false) rfl rfl) rfl ?_
   refine lo (wanted_n rfl rfl (c := false) rfl rfl) rfl ?_
   refine lo (wanted_n rfl rfl (c := false) rfl rfl) rfl ?_
   refine lo (wanted_n rfl rfl (c := false) rfl rfl) rfl ?_
   refine lv rfl rfl (v := (.bool false)) (hv_pick (t := false) rfl rfl) (lv rfl rfl (va rfl) (lv rfl rfl (va rfl) (lv rfl rfl (va rfl) ?_)))
   refine ln (qn ?_)
   exact ⟨_, ⟨H, trivial⟩, (hc rfl (hc rfl (hc rfl hn)))⟩
 ·rintro ρ h4 ⟨ok, ⟨b5, -⟩, hH⟩
  have H := b2 ok h4 b5; clear b1 b2
  refine xh _ hH ?_
  refine xt ?_
  exact endQ_ret _ (res_three Try.results10 (rv_tmp rfl) (rv_tmp rfl) (rv_tmp rfl)) H
theorem f42_sh (g9 : Nat) (g7 : Nat) (i0 : Nat) (g2 : Nat) (b6 : Int) (f7 : Int) (h : Heap) (R : Value → Heap → Prop)
  (H : (∀ b1 h1, b1 = Array.size h → h1 = Array.push h (.cells #[(.int .i64 f7)] 3) → (∀ nb h2, nb = Array.size h1 → h2 = Array.push h1 (.cells #[(.bool false)] 4) → HC Try.prog 54 #[(ptr i0 g2), (.int .i64 b6)] h2 (fun vv h3 => ∃ r : Option Addr, ∃ j3 j5 : Nat, vv = (.slice r j3 j5) ∧ (∀ c2 h4, c2 = Array.size h3 → h4 = Array.push h3 (.cells #[(.slice none 0 0)] 47) → (HW h4 c2 0 ∧ ∀ h5, h5 = hset h4 c2 0 (.slice r j3 j5) → HC Try.prog 18 #[(ptr g9 g7), (.int .i64 b6)] h5 (fun vv h6 => ∃ d8 : Value, vv = d8 ∧ (∀ c5 h7, c5 = Array.size h6 → h7 = Array.push h6 (.cells #[(.int .i64 0)] 3) → (HW h7 c5 0 ∧ ∀ h8, h8 = hset h7 c5 0 (.int .i64 0) → (∃ (g3 : Nat → Nat → Heap → Prop) (f4 : Nat → Nat → Heap → Nat), g3 c5 0 h8 ∧ (∀ (a2 : Nat) (a3 : Nat) (h9 : Heap), g3 a2 a3 h9 → (∃ x : Int, hcell h9 a2 a3 = some (.int .i64 x) ∧ (((decide (x < 2)) = true → (∀ i f3, i = Array.size h9 → f3 = Array.push h9 (.cells #[(.int .i64 0)] 3) → (HW f3 i 0 ∧ ∀ e6, e6 = hset f3 i 0 (.int .i64 0) → (∃ g5 : Heap → Prop, (∀ (b4 : LoopState → Option Code → Heap → Prop) (l : Nat) (f0 : Heap) (y : Value), (∀ s p h h', b4 s p h → h'[l]? = h[l]? → b4 s p h') → l = Array.size e6 + 1 → Ext e6 f0 → Array.size f0 = Array.size e6 + 2 → b4 .ready none f0 → (∀ (d0 : Int) (e0 : Int) (b8 : Int) (d1 : Int) (e8 : Heap) (f8 : Value → Heap → Prop), b4 .ready none e8 → (∀ e f2, e = Array.size e8 → f2 = Array.push e8 (.cells #[(.int .u64 0), (.int .u64 0), (.int .u64 0), (.int .u8 0)] 31) → (HWs f2 e 0 4 ∧ ∀ g1, g1 = hsets f2 e 0 [(.int .u64 d0), (.int .u64 e0), (.int .u64 b8), (.int .u8 d1)] → (b4 .ready none g1 ∧ ∀ a9, Only l g1 a9 → b4 .busy none a9 → (∃ j : Bool, (∃ b7 : Int, hcell a9 i 0 = some (.int .i64 b7) ∧ (∃ g8 : Option Addr, ∃ c8 j4 : Nat, hcell a9 c2 0 = some (.slice g8 c8 j4) ∧ (((decide (b7 ≥ (c8 : Int))) = true → (j = true)) ∧ ((decide (b7 ≥ (c8 : Int))) = false → (∃ b0 c4 a1 b3 : Int, hcell a9 e 0 = some (.int .u64 b0) ∧ hcell a9 e 1 = some (.int .u64 c4) ∧ hcell a9 e 2 = some (.int .u64 a1) ∧ hcell a9 e 3 = some (.int .u8 b3) ∧ (∃ c7 c6 : Nat, g8 = some ⟨c7, c6, none⟩ ∧ (0 : Int) ≤ b7 ∧ b7 < (c8 : Int) ∧ (∃ a5 b2 a0 a6 : Int, hcell a9 c7 (c6 + (Int.toNat b7) * 4) = some (.int .u64 a5) ∧ hcell a9 c7 ((c6 + (Int.toNat b7) * 4) + 1) = some (.int .u64 b2) ∧ hcell a9 c7 ((c6 + (Int.toNat b7) * 4) + 2) = some (.int .u64 a0) ∧ hcell a9 c7 ((c6 + (Int.toNat b7) * 4) + 3) = some (.int .u8 a6) ∧ (j = (!((b0 == a5 && (c4 == b2 && (a1 == a0 && (b3 == a6 && true)))))))))))))) ∧ ((j = true → (HW a9 nb 0 ∧ ∀ g0, g0 = hset a9 nb 0 (.bool false) → (b4 .busy none g0 ∧ ∀ k0, Only l g0 k0 → b4 .done (some .ret) k0 → f8 (.bool false) k0))) ∧ (j = false → (∃ e5 : Int, hcell a9 i 0 = some (.int .i64 e5) ∧ (HW a9 i 0 ∧ ∀ c9, c9 = hset a9 i 0 (.int .i64 (IntKind.i64.wrap (e5 + 1))) → (∃ e3 : Bool, (∃ d7 : Int, hcell c9 a2 a3 = some (.int .i64 d7) ∧ (((d7 == 0) = true → (∃ e9 : Int, hcell c9 i 0 = some (.int .i64 e9) ∧ (∃ e4 : Int, hcell c9 b1 0 = some (.int .i64 e4) ∧ (e3 = (e9 == e4))))) ∧ ((d7 == 0) = false → (e3 = false)))) ∧ ((e3 = true → (b4 .busy none c9 ∧ ∀ j9, Only l c9 j9 → b4 .done (some (.exit 2)) j9 → f8 (.bool false) j9)) ∧ (e3 = false → (b4 .busy none c9 ∧ ∀ k6, Only l c9 k6 → b4 .ready none k6 → f8 (.bool true) k6)))))))))))) → HCV Try.prog y [(.agg #[(.int .u64 d0), (.int .u64 e0), (.int .u64 b8), (.int .u8 d1)])] e8 f8) → HCF Try.prog d8 [y] f0 (fun _ j8 => ∃ (st : LoopState) (d3 : Option Code), b4 st d3 j8 ∧ st ≠ .busy ∧ ∀ d6, Only l j8 d6 → b4 .exhausted d3 d6 → ((d3 = none ∧ (g5 d6)) ∨ (d3 = some .ret ∧ (∃ e2 : Bool, hcell d6 nb 0 = some (.bool e2) ∧ (∀ l5, Shut' (Array.size h) d6 l5 → R (.bool e2) l5))) ∨ (d3 = some (.exit 2) ∧ (g5 d6))))) ∧ (∀ (c1 : Heap), g5 c1 → (∃ d5 : Bool, (∃ c3 : Int, hcell c1 i 0 = some (.int .i64 c3) ∧ (∃ k1 : Option Addr, ∃ b5 f5 : Nat, hcell c1 c2 0 = some (.slice k1 b5 f5) ∧ (((c3 != (b5 : Int)) = true → (∃ d9 : Int, hcell c1 a2 a3 = some (.int .i64 d9) ∧ (((d9 != 0) = true → (d5 = true)) ∧ ((d9 != 0) = false → (∃ d2 : Int, hcell c1 b1 0 = some (.int .i64 d2) ∧ (d5 = (c3 != d2))))))) ∧ ((c3 != (b5 : Int)) = false → (d5 = false))))) ∧ ((d5 = true → (HW c1 nb 0 ∧ ∀ f9, f9 = hset c1 nb 0 (.bool false) → (∃ f6 : Bool, hcell f9 nb 0 = some (.bool f6) ∧ (∀ l9, Shut' (Array.size h) f9 l9 → R (.bool f6) l9)))) ∧ (d5 = false → (∃ e1 : Int, hcell c1 a2 a3 = some (.int .i64 e1) ∧ (∀ a4 f1, a4 = Array.size c1 → f1 = Array.push c1 (.cells #[(.int .i64 0)] 3) → (HW f1 a4 0 ∧ ∀ e7, e7 = hset f1 a4 0 (.int .i64 e1) → (∃ d4 : Int, hcell e7 a4 0 = some (.int .i64 d4) ∧ (HW e7 a4 0 ∧ ∀ g4, g4 = hset e7 a4 0 (.int .i64 (IntKind.i64.wrap (d4 + 1))) → (g3 a4 0 g4 ∧ f4 a4 0 g4 < f4 a2 a3 h9)))))))))))))) ∧ ((decide (x < 2)) = false → (HW h9 nb 0 ∧ ∀ g6, g6 = hset h9 nb 0 (.bool true) → (∃ e2 : Bool, hcell g6 nb 0 = some (.bool e2) ∧ (∀ l6, Shut' (Array.size h) g6 l6 → R (.bool e2) l6))))))))))))))))) :
  HC Try.prog 42 #[(ptr g9 g7), (ptr i0 g2), (.int .i64 b6), (.int .i64 f7)] h R := by
 refine hc_ofM (args := [(ptr g9 g7), (ptr i0 g2), (.int .i64 b6), (.int .i64 f7)]) Try.func42 rfl Try.ntmps42 (Nat.le_of_ble_eq_true rfl) ?_
 refine xs (xr ?_)
 refine lp rfl rfl (hn_box (v := (.int .i64 f7)) rfl ?_)
 intro b1 h1 s0 l7
 replace H := H b1 h1 s0 l7
 have s6 := ext_pushed_f5_sh l7
 refine lp rfl rfl (hn_alloc TyShK.z4 ?_)
 intro nb h2 r9 l8
 replace H := H nb h2 r9 l8
 have s7 := ext_pushed_f5_sh l8
 refine ln (qn (xs (xr ?_)))
 refine lv rfl rfl (vm rfl) (lv rfl rfl (vm rfl) ?_)
 refine lp rfl rfl (sc TyShK.cb54 rfl (HC.mono H ?_))
 rintro _ h3 ⟨r, j3, j5, rfl, H⟩
 refine lp rfl rfl (hn_alloc TyShK.z47 ?_)
 intro c2 h4 r7 l4
 replace H := H c2 h4 r7 l4
 have s5 := ext_pushed_f5_sh l4
 obtain ⟨o4, H⟩ := H
 refine lp rfl rfl (hn_store (v := (.slice r j3 j5)) rfl rfl TyShK.sz47 rfl o4 ?_)
 intro h5 p7
 replace H := H h5 p7
 refine ln (qn (xs (xr ?_)))
 refine lv rfl rfl (vm rfl) (lv rfl rfl (vm rfl) ?_)
 refine lp rfl rfl (sc TyShK.cb18 rfl (HC.mono H ?_))
 rintro d8 h6 ⟨_, rfl, H⟩
 refine lv rfl rfl (va rfl) ?_
 refine ln (qn (xs (xs (xr ?_))))
 refine lp rfl rfl (hn_alloc TyShK.z3 ?_)
 intro c5 h7 m2 k5
 replace H := H c5 h7 m2 k5
 have s3 := ext_pushed_f5_sh k5
 obtain ⟨q6, H⟩ := H
 refine lp rfl rfl (hn_store (v := (.int .i64 0)) rfl rfl TyShK.sz3 rfl q6 ?_)
 intro h8 o0
 replace H := H h8 o0
 refine ln (qn (xb ?_))
 obtain ⟨g3, f4, o1, q0⟩ := H
 refine xl (σ := Nat × Nat) (fun s => [(7, (ptr b1 0)), (8, (ptr nb 0)), (9, (ptr c2 0)), (10, d8), (11, (ptr s.1 s.2))]) (fun s h' => g3 s.1 s.2 h' ∧ True) (fun s h' => f4 s.1 s.2 h') (c5, 0) ⟨o1, trivial⟩ (hc rfl (hc rfl (hc rfl (hc rfl (hc rfl hn))))) ?_
 rintro ⟨a2, a3⟩ ρ h9 ⟨o3, -⟩
 have H := q0 a2 a3 h9 o3
 refine xs (xs (xr ?_))
 obtain ⟨x, n9, H⟩ := H
 refine lv rfl rfl (vl TyShK.agg3 rfl n9) (lv rfl rfl (vr rfl rfl rfl) ?_)
 refine ln (qn ?_)
 refine xc (b := decide (x < 2)) rfl (fun j1 => ?_) (fun j1 => ?_)
 ·replace H := H.1 j1
  refine xi (qn (xs (xb (xs (xr ?_)))))
  refine lp rfl rfl (hn_alloc TyShK.z3 ?_)
  intro i f3 r4 k3
  replace H := H i f3 r4 k3
  have s4 := ext_pushed_f5_sh k3
  obtain ⟨r6, H⟩ := H
  refine lp rfl rfl (hn_store (v := (.int .i64 0)) rfl rfl TyShK.sz3 rfl r6 ?_)
  intro e6 n8
  replace H := H e6 n8
  refine ln (qn ?_)
  obtain ⟨g5, i4, i9⟩ := H
  refine xk (fun ρ h' => (g5 h' ∧ True) ∧ Has ρ [(7, (ptr b1 0)), (8, (ptr nb 0)), (9, (ptr c2 0)), (10, d8), (11, (ptr a2 a3)), (12, (ptr i 0))]) ?_ ?_
  ·have H := i4; clear i4 i9
   refine xs (xr ?_)
   refine lv rfl rfl (vm rfl) ?_
   refine ln (qn (xb ?_))
   refine hx_range rfl rfl rfl (fun f0 l n3 p8 m6 m0 => ?_)
   refine HCF.mono (H (fun st p h => LoopAt h l _ _ _ _ _ st p) l f0 _ (fun s p h h' k e => k.same e) n3 p8 m6 m0 ?_) ?_
   ·intro d0 e0 b8 d1 e8 f8 o9 H
    refine hcv_yield o9 rfl rfl ?_
    refine xr ?_
    refine lp rfl rfl (hn_alloc TyShK.z31 ?_)
    intro e f2 p2 k4
    replace H := H e f2 p2 k4
    have s2 := ext_pushed_f5_sh k4
    obtain ⟨n5, H⟩ := H
    refine lp rfl rfl (hn_stores (vs := [(.int .u64 d0), (.int .u64 e0), (.int .u64 b8), (.int .u8 d1)]) rfl rfl TyShK.sz31 rfl n5 ?_)
    intro g1 m1
    replace H := H g1 m1
    refine ln ?_
    obtain ⟨m5, H⟩ := H
    refine ⟨rfl, m5, ?_⟩
    intro a9 r1 p3
    replace H := H a9 r1 p3
    refine xb (xs ?_)
    obtain ⟨j, i5, i8⟩ := H
    refine xk (fun ρ h' => a9 = h' ∧ Has ρ [(7, (ptr b1 0)), (8, (ptr nb 0)), (11, (ptr a2 a3)), (12, (ptr i 0)), (37, (.bool j))]) ?_ ?_
    ·have H := i5; clear i5 i8
     refine hx_draw TyShK.mixed [.read, .read, .pure, .pure, .pure, .read, .read, .read, .pure, .read, .pure, .pure] [0, 1, 2, 3, 4, 5, 6, 7, 8, 9, 10, 11] (by kernel_rfl) ?_
     obtain ⟨b7, j7, H⟩ := H
     refine pr (i := 0) rfl (wanted_0 rfl) rfl (.int .i64 b7) (fun _ he => vl TyShK.agg3 rfl (Ext.cell he j7)) ?_
     obtain ⟨g8, c8, j4, k7, H⟩ := H
     refine pr (i := 1) rfl (wanted_0 rfl) rfl (.slice g8 c8 j4) (fun _ he => vl TyShK.agg47 rfl (Ext.cell he k7)) ?_
     refine pp (i := 2) rfl (wanted_0 rfl) rfl (.int .i64 (c8 : Int)) (fun _ => hv_len (n := c8) TyShK.u47 rfl) ?_
     refine pp (i := 3) rfl (wanted_0 rfl) rfl (.bool (decide (b7 ≥ (c8 : Int)))) (fun _ => vr rfl rfl rfl) ?_
     refine pp (i := 4) rfl (wanted_0 rfl) rfl (.bool (decide (b7 ≥ (c8 : Int)))) (fun _ => vm rfl) ?_
     rcases bool_or (decide (b7 ≥ (c8 : Int))) with a7 | a7
     ·replace H := H.1 a7
      refine pn (i := 5) rfl (wanted_n rfl rfl rfl a7) ?_
      refine pn (i := 6) rfl (wanted_n rfl rfl rfl a7) ?_
      refine pn (i := 7) rfl (wanted_n rfl rfl rfl a7) ?_
      refine pn (i := 8) rfl (wanted_n rfl rfl rfl a7) ?_
      refine pn (i := 9) rfl (wanted_n rfl rfl rfl a7) ?_
      refine pn (i := 10) rfl (wanted_n rfl rfl rfl a7) ?_
      refine pp (i := 11) rfl (wanted_0 rfl) rfl (.bool true) (fun _ => hv_pick_t rfl a7 rfl) ?_
      refine hp_nil ?_
      refine qn ?_
      obtain rfl := H
      exact ⟨rfl, (hc rfl (hc rfl (hc rfl (hc rfl (hc rfl hn)))))⟩
     ·replace H := H.2 a7
      obtain ⟨b0, c4, a1, b3, n4, q7, q5, q4, H⟩ := H
      refine pr (i := 5) rfl (wanted_y rfl rfl rfl a7) rfl (.agg #[(.int .u64 b0), (.int .u64 c4), (.int .u64 a1), (.int .u8 b3)]) (fun _ he => vL (vs := [(.int .u64 b0), (.int .u64 c4), (.int .u64 a1), (.int .u8 b3)]) TyShK.agg31 TyShK.sz31 rfl (cc (Ext.cell he n4) (cc (Ext.cell he q7) (cc (Ext.cell he q5) (cc (Ext.cell he q4) cn))))) ?_
      refine pr (i := 6) rfl (wanted_y rfl rfl rfl a7) rfl (.slice g8 c8 j4) (fun _ he => vl TyShK.agg47 rfl (Ext.cell he k7)) ?_
      refine pr (i := 7) rfl (wanted_y rfl rfl rfl a7) rfl (.int .i64 b7) (fun _ he => vl TyShK.agg3 rfl (Ext.cell he j7)) ?_
      obtain ⟨c7, c6, r8, m8, p4, Hq⟩ := H
      subst r8
      have H := Hq; clear Hq
      refine pp (i := 8) rfl (wanted_y rfl rfl rfl a7) rfl (ptr c7 (c6 + (Int.toNat b7) * 4)) (fun _ => vi TyShK.el47 rfl rfl m8 p4) ?_
      obtain ⟨a5, b2, a0, a6, n7, o6, p1, m7, H⟩ := H
      refine pr (i := 9) rfl (wanted_y rfl rfl rfl a7) rfl (.agg #[(.int .u64 a5), (.int .u64 b2), (.int .u64 a0), (.int .u8 a6)]) (fun _ he => vL (vs := [(.int .u64 a5), (.int .u64 b2), (.int .u64 a0), (.int .u8 a6)]) TyShK.agg31 TyShK.sz31 rfl (cc (Ext.cell he n7) (cc (Ext.cell he o6) (cc (Ext.cell he p1) (cc (Ext.cell he m7) cn))))) ?_
      refine pp (i := 10) rfl (wanted_y rfl rfl rfl a7) rfl (.bool (!((b0 == a5 && (c4 == b2 && (a1 == a0 && (b3 == a6 && true))))))) (fun _ => hv_structEq (xs := [(.int .u64 b0), (.int .u64 c4), (.int .u64 a1), (.int .u8 b3)]) (ys := [(.int .u64 a5), (.int .u64 b2), (.int .u64 a0), (.int .u8 a6)]) (b := (b0 == a5 && (c4 == b2 && (a1 == a0 && (b3 == a6 && true))))) TyShK.se31 rfl rfl (by kernel_rfl) rfl) ?_
      refine pp (i := 11) rfl (wanted_0 rfl) rfl (.bool (!((b0 == a5 && (c4 == b2 && (a1 == a0 && (b3 == a6 && true))))))) (fun _ => hv_pick_f rfl a7 rfl) ?_
      refine hp_nil ?_
      refine qn ?_
      obtain rfl := H
      exact ⟨rfl, (hc rfl (hc rfl (hc rfl (hc rfl (hc rfl hn)))))⟩
    ·have H := i8; clear i5 i8
     rintro ρ _ ⟨rfl, hH⟩
     refine xh _ hH ?_
     refine xc (b := j) rfl (fun i1 => ?_) (fun i1 => ?_)
     ·replace H := H.1 i1
      refine xs (xr ?_)
      obtain ⟨m9, H⟩ := H
      refine lp rfl rfl (hn_store (v := (.bool false)) rfl rfl TyShK.sz4 rfl m9 ?_)
      intro g0 r3
      replace H := H g0 r3
      refine ln (qn (xt (qr (br ?_))))
      exact H
     ·replace H := H.2 i1
      refine xi (qn (xs (xr ?_)))
      obtain ⟨e5, r0, H⟩ := H
      refine lv rfl rfl (vl TyShK.agg3 rfl r0) (lv rfl rfl (vr rfl rfl rfl) ?_)
      obtain ⟨q3, H⟩ := H
      refine lp rfl rfl (hn_store (v := (.int .i64 (IntKind.i64.wrap (e5 + 1)))) rfl rfl TyShK.sz3 rfl q3 ?_)
      intro c9 q9
      replace H := H c9 q9
      refine ln (qn ?_)
      obtain ⟨e3, i7, j2⟩ := H
      refine xk (fun ρ h' => c9 = h' ∧ Has ρ [(46, (.bool e3))]) ?_ ?_
      ·have H := i7; clear i7 j2
       refine xr ?_
       obtain ⟨d7, o5, H⟩ := H
       refine lv rfl rfl (vl TyShK.agg3 rfl o5) (lv rfl rfl (vr rfl rfl rfl) (lv rfl rfl (vm rfl) ?_))
       rcases bool_or (d7 == 0) with b9 | b9
       ·replace H := H.1 b9
        obtain ⟨e9, q1, H⟩ := H
        refine ly (wanted_y rfl rfl rfl b9) rfl (HStep.of_val (v := (.int .i64 e9)) (vl TyShK.agg3 rfl q1) ?_)
        obtain ⟨e4, n2, H⟩ := H
        refine ly (wanted_y rfl rfl rfl b9) rfl (HStep.of_val (v := (.int .i64 e4)) (vl TyShK.agg3 rfl n2) ?_)
        refine ly (wanted_y rfl rfl rfl b9) rfl (HStep.of_val (v := (.bool (e9 == e4))) (vr rfl rfl rfl) ?_)
        refine lv rfl rfl (v := (.bool (e9 == e4))) (hv_pick_t rfl b9 rfl) ?_
        refine ln (qn ?_)
        obtain rfl := H
        exact ⟨rfl, (hc rfl hn)⟩
       ·replace H := H.2 b9
        refine lo (wanted_n rfl rfl rfl b9) rfl ?_
        refine lo (wanted_n rfl rfl rfl b9) rfl ?_
        refine lo (wanted_n rfl rfl rfl b9) rfl ?_
        refine lv rfl rfl (v := (.bool false)) (hv_pick_f rfl b9 rfl) ?_
        refine ln (qn ?_)
        obtain rfl := H
        exact ⟨rfl, (hc rfl hn)⟩
      ·have H := j2; clear i7 j2
       rintro ρ _ ⟨rfl, hH⟩
       refine xh _ hH ?_
       refine xc (b := e3) rfl (fun i2 => ?_) (fun i2 => ?_)
       ·replace H := H.1 i2
        refine xe (bp rfl ?_)
        exact H
       ·replace H := H.2 i2
        refine xi (bn ?_)
        exact H
   ·rintro _ j8 ⟨st, d3, p6, k8, H⟩
    refine ⟨st, d3, p6, k8, ?_⟩
    intro d6 n1 p9
    replace H := H d6 n1 p9
    rcases H with ⟨rfl, H⟩ | ⟨rfl, H⟩ | ⟨rfl, H⟩
    ·refine jumpQ_n ?_
     refine bn (qn ?_)
     exact ⟨⟨H, trivial⟩, (hc rfl (hc rfl (hc rfl (hc rfl (hc rfl (hc rfl hn))))))⟩
    ·refine jumpQ_ret ?_
     refine br (qr (br (qr (qr (br (qr ?_))))))
     obtain ⟨e2, q8, H⟩ := H
     exact endQM_ret _ (fun h' hs => ⟨res_one Try.results42 (rv_cell1 TyShK.agg4 rfl (shut_cell hs q8)), H h' hs⟩)
    ·refine jumpQ_exit ?_
     refine bh (qn ?_)
     exact ⟨⟨H, trivial⟩, (hc rfl (hc rfl (hc rfl (hc rfl (hc rfl (hc rfl hn))))))⟩
  ·rintro ρ c1 ⟨⟨p0, -⟩, hH⟩
   have H := i9 c1 p0; clear i4 i9
   refine xh _ hH ?_
   obtain ⟨d5, j0, i6⟩ := H
   refine xk (fun ρ h' => c1 = h' ∧ Has ρ [(7, (ptr b1 0)), (8, (ptr nb 0)), (9, (ptr c2 0)), (10, d8), (11, (ptr a2 a3)), (59, (.bool d5))]) ?_ ?_
   ·have H := j0; clear j0 i6
    refine xr ?_
    obtain ⟨c3, k2, H⟩ := H
    refine lv rfl rfl (vl TyShK.agg3 rfl k2) ?_
    obtain ⟨k1, b5, f5, o8, H⟩ := H
    refine lv rfl rfl (vl TyShK.agg47 rfl o8) (lv rfl rfl (v := (.int .i64 (b5 : Int))) (hv_len (n := b5) TyShK.u47 rfl) (lv rfl rfl (vr rfl rfl rfl) (lv rfl rfl (vm rfl) ?_)))
    rcases bool_or (c3 != (b5 : Int)) with a8 | a8
    ·replace H := H.1 a8
     obtain ⟨d9, o2, H⟩ := H
     refine ly (wanted_y rfl rfl rfl a8) rfl (HStep.of_val (v := (.int .i64 d9)) (vl TyShK.agg3 rfl o2) ?_)
     refine ly (wanted_y rfl rfl rfl a8) rfl (HStep.of_val (v := (.bool (d9 != 0))) (vr rfl rfl rfl) ?_)
     refine ly (wanted_y rfl rfl rfl a8) rfl (HStep.of_val (v := (.bool (d9 != 0))) (vm rfl) ?_)
     rcases bool_or (d9 != 0) with c0 | c0
     ·replace H := H.1 c0
      refine lo (wanted_n rfl rfl rfl c0) rfl ?_
      refine lo (wanted_n rfl rfl rfl c0) rfl ?_
      refine lo (wanted_n rfl rfl rfl c0) rfl ?_
      refine ly (wanted_y rfl rfl rfl a8) rfl (HStep.of_val (v := (.bool true)) (hv_pick_t rfl c0 rfl) ?_)
      refine lv rfl rfl (v := (.bool true)) (hv_pick_t rfl a8 rfl) ?_
      refine ln (qn ?_)
      obtain rfl := H
      exact ⟨rfl, (hc rfl (hc rfl (hc rfl (hc rfl (hc rfl (hc rfl hn))))))⟩
     ·replace H := H.2 c0
      refine ly (wanted_y rfl rfl rfl c0) rfl (HStep.of_val (v := (.int .i64 c3)) (vl TyShK.agg3 rfl k2) ?_)
      obtain ⟨d2, r5, H⟩ := H
      refine ly (wanted_y rfl rfl rfl c0) rfl (HStep.of_val (v := (.int .i64 d2)) (vl TyShK.agg3 rfl r5) ?_)
      refine ly (wanted_y rfl rfl rfl c0) rfl (HStep.of_val (v := (.bool (c3 != d2))) (vr rfl rfl rfl) ?_)
      refine ly (wanted_y rfl rfl rfl a8) rfl (HStep.of_val (v := (.bool (c3 != d2))) (hv_pick_f rfl c0 rfl) ?_)
      refine lv rfl rfl (v := (.bool (c3 != d2))) (hv_pick_t rfl a8 rfl) ?_
      refine ln (qn ?_)
      obtain rfl := H
      exact ⟨rfl, (hc rfl (hc rfl (hc rfl (hc rfl (hc rfl (hc rfl hn))))))⟩
    ·replace H := H.2 a8
     refine lo (wanted_n rfl rfl rfl a8) rfl ?_
     refine lo (wanted_n rfl rfl rfl a8) rfl ?_
     refine lo (wanted_n rfl rfl rfl a8) rfl ?_
     refine lo (wanted_u rfl rfl rfl) rfl ?_
     refine lo (wanted_u rfl rfl rfl) rfl ?_
     refine lo (wanted_u rfl rfl rfl) rfl ?_
     refine lo (wanted_n rfl rfl rfl a8) rfl ?_
     refine lv rfl rfl (v := (.bool false)) (hv_pick_f rfl a8 rfl) ?_
     refine ln (qn ?_)
     obtain rfl := H
     exact ⟨rfl, (hc rfl (hc rfl (hc rfl (hc rfl (hc rfl (hc rfl hn))))))⟩
   ·have H := i6; clear j0 i6
    rintro ρ _ ⟨rfl, hH⟩
    refine xh _ hH ?_
    refine xc (b := d5) rfl (fun i3 => ?_) (fun i3 => ?_)
    ·replace H := H.1 i3
     refine xs (xr ?_)
     obtain ⟨q2, H⟩ := H
     refine lp rfl rfl (hn_store (v := (.bool false)) rfl rfl TyShK.sz4 rfl q2 ?_)
     intro f9 p5
     replace H := H f9 p5
     refine ln (qn (xt (br (qr (qr (br (qr ?_)))))))
     obtain ⟨f6, m4, H⟩ := H
     exact endQM_ret _ (fun h' hs => ⟨res_one Try.results42 (rv_cell1 TyShK.agg4 rfl (shut_cell hs m4)), H h' hs⟩)
    ·replace H := H.2 i3
     refine xi (bn (qn (xs (xs (xr ?_)))))
     obtain ⟨e1, m3, H⟩ := H
     refine lv rfl rfl (vl TyShK.agg3 rfl m3) ?_
     refine ln (qn (xr ?_))
     refine lp rfl rfl (hn_alloc TyShK.z3 ?_)
     intro a4 f1 n6 j6
     replace H := H a4 f1 n6 j6
     have s1 := ext_pushed_f5_sh j6
     obtain ⟨n0, H⟩ := H
     refine lp rfl rfl (hn_store (v := (.int .i64 e1)) rfl rfl TyShK.sz3 rfl n0 ?_)
     intro e7 o7
     replace H := H e7 o7
     refine ln (qn (xr ?_))
     obtain ⟨d4, r2, H⟩ := H
     refine lv rfl rfl (vl TyShK.agg3 rfl r2) (lv rfl rfl (vr rfl rfl rfl) ?_)
     obtain ⟨k9, H⟩ := H
     refine lp rfl rfl (hn_store (v := (.int .i64 (IntKind.i64.wrap (d4 + 1)))) rfl rfl TyShK.sz3 rfl k9 ?_)
     intro g4 l0
     replace H := H g4 l0
     refine ln (qn ?_)
     exact ⟨(a4, 0), ⟨⟨H.1, trivial⟩, H.2⟩, (hc rfl (hc rfl (hc rfl (hc rfl (hc rfl hn)))))⟩
 ·replace H := H.2 j1
  refine xe (qe (qe (bh (qn (xs (xr ?_))))))
  obtain ⟨l2, H⟩ := H
  refine lp rfl rfl (hn_store (v := (.bool true)) rfl rfl TyShK.sz4 rfl l2 ?_)
  intro g6 l1
  replace H := H g6 l1
  refine ln (qn (xt ?_))
  obtain ⟨e2, l3, H⟩ := H
  exact endQM_ret _ (fun h' hs => ⟨res_one Try.results42 (rv_cell1 TyShK.agg4 rfl (shut_cell hs l3)), H h' hs⟩)
theorem f13_sh (c0 : Nat) (b9 : Nat) (b6 : Nat) (b5 : Nat) (a9 : Int) (a2 : Int) (b3 : Int) (b2 : Int) (b4 : Int) (c2 : Int) (c7 : Int) (d3 : Int) (h : Heap) (R : Value → Heap → Prop)
  (H : (((a9 == 0) = true → (∀ (o : Nat) (h1 : Heap), Array.size h ≤ o → o < Array.size h1 → Ext h h1 → HC Try.prog 29 #[(ptr c0 b9), (.agg #[(.int .u64 a2), (.int .u64 b3), (.int .u64 b2), (.int .u8 b4)])] h1 (fun vv h2 => Kp [o] h1 h2 ∧ ∃ a7 b0 a1 a6 : Int, ∃ r1 : Bool, ∃ r2 : Int, vv = (.tuple #[(.agg #[(.int .u64 a7), (.int .u64 b0), (.int .u64 a1), (.int .u8 a6)]), (.bool r1), (.int .i64 r2)]) ∧ (∀ (a : Nat) (h4 : Heap), Array.size h2 ≤ a → a < Array.size h4 → Ext h2 h4 → HC Try.prog 34 #[(ptr b6 b5), (.agg #[(.int .u64 a2), (.int .u64 b3), (.int .u64 b2), (.int .u8 b4)])] h4 (fun vv h5 => Kp [o, a] h4 h5 ∧ ∃ a3 a5 a0 a4 : Int, ∃ b1 : Bool, ∃ c1 : Int, vv = (.tuple #[(.agg #[(.int .u64 a3), (.int .u64 a5), (.int .u64 a0), (.int .u8 a4)]), (.bool b1), (.int .i64 c1)]) ∧ (∀ (h7 : Heap), Ext h5 h7 → R (.bool (((a7 == a3 && (b0 == a5 && (a1 == a0 && (a6 == a4 && true))))) && ((r1 == b1) && (r2 == c1)))) h7)))))) ∧ ((a9 == 0) = false → (((a9 == 1) = true → (∀ (o : Nat) (h1 : Heap), Array.size h ≤ o → o < Array.size h1 → Ext h h1 → HC Try.prog 11 #[(ptr c0 b9), (.int .u64 a2)] h1 (fun vv h8 => Kp [o] h1 h8 ∧ ∃ a7 b0 a1 a6 : Int, ∃ r1 : Bool, vv = (.tuple #[(.agg #[(.int .u64 a7), (.int .u64 b0), (.int .u64 a1), (.int .u8 a6)]), (.bool r1)]) ∧ (∀ (a : Nat) (e7 : Heap), Array.size h8 ≤ a → a < Array.size e7 → Ext h8 e7 → HC Try.prog 35 #[(ptr b6 b5), (.int .u64 a2)] e7 (fun vv e8 => Kp [o, a] e7 e8 ∧ ∃ a3 a5 a0 a4 : Int, ∃ b1 : Bool, vv = (.tuple #[(.agg #[(.int .u64 a3), (.int .u64 a5), (.int .u64 a0), (.int .u8 a4)]), (.bool b1)]) ∧ (∃ j : Bool, ((((a7 == a3 && (b0 == a5 && (a1 == a0 && (a6 == a4 && true))))) = true → (((r1 == b1) = true → (∀ (d6 : Heap), Ext e8 d6 → (∃ r : Int, (∀ j9, Ext d6 j9 → HC Try.prog 24 #[(ptr c0 b9), (.int .u64 a2)] j9 (fun vv h' => vv = (.int .i64 r) ∧ h' = j9)) ∧ (∃ d0 : Int, (∀ k6, Ext d6 k6 → HC Try.prog 36 #[(ptr b6 b5), (.int .u64 a2)] k6 (fun vv h' => vv = (.int .i64 d0) ∧ h' = k6)) ∧ (j = (r == d0)))))) ∧ ((r1 == b1) = false → (j = false)))) ∧ (((a7 == a3 && (b0 == a5 && (a1 == a0 && (a6 == a4 && true))))) = false → (j = false))) ∧ (∀ (d6 : Heap), Ext e8 d6 → R (.bool j) d6))))))) ∧ ((a9 == 1) = false → (((a9 == 2) = true → (∀ (o : Nat) (h1 : Heap), Array.size h ≤ o → o < Array.size h1 → Ext h h1 → HC Try.prog 30 #[(ptr c0 b9), (.int .u64 a2)] h1 (fun vv f0 => Kp [o] h1 f0 ∧ ∃ a7 b0 a1 a6 : Int, ∃ r1 : Bool, vv = (.tuple #[(.agg #[(.int .u64 a7), (.int .u64 b0), (.int .u64 a1), (.int .u8 a6)]), (.bool r1)]) ∧ (∀ (a : Nat) (e4 : Heap), Array.size f0 ≤ a → a < Array.size e4 → Ext f0 e4 → HC Try.prog 37 #[(ptr b6 b5), (.int .u64 a2)] e4 (fun vv g9 => Kp [o, a] e4 g9 ∧ ∃ a3 a5 a0 a4 : Int, ∃ b1 : Bool, vv = (.tuple #[(.agg #[(.int .u64 a3), (.int .u64 a5), (.int .u64 a0), (.int .u8 a4)]), (.bool b1)]) ∧ (∀ (e9 : Heap), Ext g9 e9 → R (.bool (((a7 == a3 && (b0 == a5 && (a1 == a0 && (a6 == a4 && true))))) && (r1 == b1))) e9)))))) ∧ ((a9 == 2) = false → (((a9 == 3) = true → (∃ f1 : Heap → Heap → Prop, Fit f1 ∧ (∀ (o : Nat) (h1 : Heap), Array.size h ≤ o → o < Array.size h1 → Ext h h1 → ((∀ hx, f1 h1 hx → Kp [o] h1 hx) ∧ ((∀ hx, f1 h1 hx → Kp [o] h1 hx) ∧ HC Try.prog 31 #[(ptr c0 b9), (.int .u64 a2), (.int .u64 c2)] h1 (fun vv g6 => f1 h1 g6 ∧ Kp [o] h1 g6 ∧ ∃ d7 : Bool, vv = (.bool d7) ∧ HC Try.prog 38 #[(ptr b6 b5), (.int .u64 a2), (.int .u64 c2)] g6 (fun vv m5 => Kp [o] g6 m5 ∧ ∃ d5 : Bool, vv = (.bool d5) ∧ R (.bool (d7 == d5)) m5))))))) ∧ ((a9 == 3) = false → (((a9 == 4) = true → (∃ e5 : Heap → Heap → Prop, Fit e5 ∧ (∀ (o : Nat) (h1 : Heap), Array.size h ≤ o → o < Array.size h1 → Ext h h1 → ((∀ hx, e5 h1 hx → Kp [o] h1 hx) ∧ ((∀ hx, e5 h1 hx → Kp [o] h1 hx) ∧ ((∀ hx, e5 h1 hx → Kp [o] h1 hx) ∧ HC Try.prog 32 #[(ptr c0 b9), (.int .u64 a2), (.int .u64 c2), (.int .u64 b3)] h1 (fun vv g8 => e5 h1 g8 ∧ Kp [o] h1 g8 ∧ ∃ i1 : Bool, vv = (.bool i1) ∧ HC Try.prog 39 #[(ptr b6 b5), (.int .u64 a2), (.int .u64 c2), (.int .u64 b3)] g8 (fun vv k7 => Kp [o] g8 k7 ∧ ∃ i0 : Bool, vv = (.bool i0) ∧ R (.bool (i1 == i0)) k7)))))))) ∧ ((a9 == 4) = false → (((a9 == 5) = true → (∃ e6 : Heap → Heap → Prop, Fit e6 ∧ (∀ (o : Nat) (h1 : Heap), Array.size h ≤ o → o < Array.size h1 → Ext h h1 → ((∀ hx, e6 h1 hx → Kp [o] h1 hx) ∧ HC Try.prog 33 #[(ptr c0 b9), (.int .u64 a2)] h1 (fun vv g7 => e6 h1 g7 ∧ Kp [o] h1 g7 ∧ ∃ d2 : Bool, vv = (.bool d2) ∧ HC Try.prog 40 #[(ptr b6 b5), (.int .u64 a2)] g7 (fun vv k2 => Kp [o] g7 k2 ∧ ∃ g4 : Bool, vv = (.bool g4) ∧ R (.bool (d2 == g4)) k2)))))) ∧ ((a9 == 5) = false → (((a9 == 6) = true → (∃ e0 : Heap → Heap → Prop, Fit e0 ∧ (∀ (o : Nat) (h1 : Heap), Array.size h ≤ o → o < Array.size h1 → Ext h h1 → ((∀ hx, e0 h1 hx → Kp [o] h1 hx) ∧ ((∀ hx, e0 h1 hx → Kp [o] h1 hx) ∧ HC Try.prog 19 #[(ptr c0 b9), (.int .i64 c7), (.int .i64 d3)] h1 (fun vv g5 => e0 h1 g5 ∧ Kp [o] h1 g5 ∧ ∃ d7 : Int, vv = (.int .i64 d7) ∧ HC Try.prog 41 #[(ptr b6 b5), (.int .i64 c7), (.int .i64 d3)] g5 (fun vv k9 => Kp [o] g5 k9 ∧ ∃ d5 : Int, vv = (.int .i64 d5) ∧ R (.bool (d7 == d5)) k9))))))) ∧ ((a9 == 6) = false → (((a9 == 7) = true → (∀ (o : Nat) (h1 : Heap), Array.size h ≤ o → o < Array.size h1 → Ext h h1 → HC Try.prog 42 #[(ptr c0 b9), (ptr b6 b5), (.int .i64 c7), (.int .i64 d3)] h1 (fun vv m1 => Kp [o] h1 m1 ∧ ∃ r : Bool, vv = (.bool r) ∧ R (.bool r) m1))) ∧ ((a9 == 7) = false → (((a9 == 8) = true → (∃ j : Bool, (∀ (o : Nat) (h1 : Heap), Array.size h ≤ o → o < Array.size h1 → Ext h h1 → (∃ r : Int, (∀ k4, Ext h1 k4 → HC Try.prog 23 #[(ptr c0 b9), (.int .i64 c7)] k4 (fun vv h' => vv = (.int .i64 r) ∧ h' = k4)) ∧ (∃ d0 : Int, (∀ m4, Ext h1 m4 → HC Try.prog 43 #[(ptr b6 b5), (.int .i64 c7)] m4 (fun vv h' => vv = (.int .i64 d0) ∧ h' = m4)) ∧ (((r == d0) = true → (∃ d2 : Int, (∀ l2, Ext h1 l2 → HC Try.prog 17 #[(ptr c0 b9)] l2 (fun vv h' => vv = (.int .i64 d2) ∧ h' = l2)) ∧ (∃ x : Option Addr, ∃ d9 l0 : Nat, hcell h1 b6 (b5 + 1) = some (.slice x d9 l0) ∧ (j = (d2 == (d9 : Int)))))) ∧ ((r == d0) = false → (j = false)))))) ∧ (∀ (h1 : Heap), Ext h h1 → R (.bool j) h1))) ∧ ((a9 == 8) = false → (∀ (h1 : Heap), Ext h h1 → R (.bool true) h1)))))))))))))))))))) :
  HC Try.prog 13 #[(ptr c0 b9), (ptr b6 b5), (.agg #[(.int .i64 a9), (.int .u64 a2), (.int .u64 b3), (.int .u64 b2), (.int .u8 b4), (.int .u64 c2), (.int .i64 c7), (.int .i64 d3)])] h R := by
 refine hc_of (args := [(ptr c0 b9), (ptr b6 b5), (.agg #[(.int .i64 a9), (.int .u64 a2), (.int .u64 b3), (.int .u64 b2), (.int .u8 b4), (.int .u64 c2), (.int .i64 c7), (.int .i64 d3)])]) Try.func13 rfl Try.ntmps13 (Nat.le_of_ble_eq_true rfl) ?_
 refine xs (xr ?_)
 refine lp rfl rfl (hn_box (v := (.agg #[(.int .i64 a9), (.int .u64 a2), (.int .u64 b3), (.int .u64 b2), (.int .u8 b4), (.int .u64 c2), (.int .i64 c7), (.int .i64 d3)])) rfl ?_)
 intro o h1 p7 p5
 have d4 := ext_pushed_f5_sh p5
 have d8 : Array.size h ≤ o := Nat.le_of_eq (Eq.symm p7)
 have a8 : h1[o]? = some (.cells #[(.int .i64 a9), (.int .u64 a2), (.int .u64 b3), (.int .u64 b2), (.int .u8 b4), (.int .u64 c2), (.int .i64 c7), (.int .i64 d3)] 33 (0, 0)) := by rw [p5]; exact push_new p7
 refine lv rfl rfl (va rfl) ?_
 refine ln (qn (xs (xs (xr ?_))))
 refine lv rfl rfl (v := (ptr o 0)) (vf TyShK.fld33_0 (b := o) (o := 0) rfl) (lv rfl rfl (vl TyShK.agg3 rfl (rc a8 rfl)) ?_)
 refine ln (qn (xb (xs (xr ?_))))
 refine lv rfl rfl (vr rfl rfl rfl) (lv rfl rfl (va rfl) ?_)
 refine ln (qn ?_)
 refine xc (b := a9 == 0) rfl (fun j6 => ?_) (fun j6 => ?_)
 ·replace H := H.1 j6
  refine xs (xr ?_)
  refine lv rfl rfl (vm rfl) (lv rfl rfl (v := (ptr o 1)) (vf TyShK.fld33_1 (b := o) (o := 0) rfl) (lv rfl rfl (vL (vs := [(.int .u64 a2), (.int .u64 b3), (.int .u64 b2), (.int .u8 b4)]) TyShK.agg31 TyShK.sz31 rfl (cc (rc a8 rfl) (cc (rc a8 rfl) (cc (rc a8 rfl) (cc (rc a8 rfl) cn))))) ?_))
  replace H := H o h1 d8 (row_lt a8) d4
  refine lp rfl rfl (sc TyShK.cb29 rfl (HC.mono H ?_))
  rintro _ h2 ⟨s8, a7, b0, a1, a6, r1, r2, rfl, H⟩
  replace a8 := Kp.row s8 (by simp) a8
  refine lv rfl rfl (vm rfl) (lv rfl rfl (vx rfl rfl) (lv rfl rfl (vx rfl rfl) (lv rfl rfl (vx rfl rfl) ?_)))
  refine lp rfl rfl (hn_alloc TyShK.z31 ?_)
  intro a h3 l7 p2
  have l1 := ext_pushed_f5_sh p2
  have r9 := Nat.ne_of_lt (Nat.lt_of_lt_of_eq (row_lt a8) (Eq.symm l7))
  have l4 : Array.size h2 ≤ a := Nat.le_of_eq (Eq.symm l7)
  have l6 : h3[a]? = some (.cells #[(.int .u64 0), (.int .u64 0), (.int .u64 0), (.int .u8 0)] 31 (0, 0)) := by rw [p2]; exact push_new l7
  replace a8 := Ext.row l1 a8
  refine lp rfl rfl (hn_stores (vs := [(.int .u64 a7), (.int .u64 b0), (.int .u64 a1), (.int .u8 a6)]) rfl rfl TyShK.sz31 rfl (HWs_row l6 (by simp)) ?_)
  intro h4 i6
  replace a8 := row_hsets_ne i6 r9 a8
  have c4 : h4[a]? = some (.cells #[(.int .u64 a7), (.int .u64 b0), (.int .u64 a1), (.int .u8 a6)] 31 (0, 0)) := row_hsets_eq i6 l6 rfl
  have r7 := ext_hsets i6 l1 l4
  refine lv rfl rfl (va rfl) (lv rfl rfl (va rfl) ?_)
  refine ln (qn (xs (xr ?_)))
  refine lv rfl rfl (vm rfl) (lv rfl rfl (v := (ptr o 1)) (vf TyShK.fld33_1 (b := o) (o := 0) rfl) (lv rfl rfl (vL (vs := [(.int .u64 a2), (.int .u64 b3), (.int .u64 b2), (.int .u8 b4)]) TyShK.agg31 TyShK.sz31 rfl (cc (rc a8 rfl) (cc (rc a8 rfl) (cc (rc a8 rfl) (cc (rc a8 rfl) cn))))) ?_))
  replace H := H a h4 l4 (row_lt c4) r7
  refine lp rfl rfl (sc TyShK.cb34 rfl (HC.mono H ?_))
  rintro _ h5 ⟨l9, a3, a5, a0, a4, b1, c1, rfl, H⟩
  replace a8 := Kp.row l9 (by simp) a8
  replace c4 := Kp.row l9 (by simp) c4
  refine lv rfl rfl (vm rfl) (lv rfl rfl (vx rfl rfl) (lv rfl rfl (vx rfl rfl) (lv rfl rfl (vx rfl rfl) ?_)))
  refine lp rfl rfl (hn_alloc TyShK.z31 ?_)
  intro b h6 f6 m3
  have i7 := ext_pushed_f5_sh m3
  have s7 := Nat.ne_of_lt (Nat.lt_of_lt_of_eq (row_lt a8) (Eq.symm f6))
  have q8 := Nat.ne_of_lt (Nat.lt_of_lt_of_eq (row_lt c4) (Eq.symm f6))
  have q6 : Array.size h5 ≤ b := Nat.le_of_eq (Eq.symm f6)
  have l8 : h6[b]? = some (.cells #[(.int .u64 0), (.int .u64 0), (.int .u64 0), (.int .u8 0)] 31 (0, 0)) := by rw [m3]; exact push_new f6
  replace a8 := Ext.row i7 a8
  replace c4 := Ext.row i7 c4
  refine lp rfl rfl (hn_stores (vs := [(.int .u64 a3), (.int .u64 a5), (.int .u64 a0), (.int .u8 a4)]) rfl rfl TyShK.sz31 rfl (HWs_row l8 (by simp)) ?_)
  intro h7 g0
  replace a8 := row_hsets_ne g0 s7 a8
  replace c4 := row_hsets_ne g0 q8 c4
  have e2 : h7[b]? = some (.cells #[(.int .u64 a3), (.int .u64 a5), (.int .u64 a0), (.int .u8 a4)] 31 (0, 0)) := row_hsets_eq g0 l8 rfl
  have r6 := ext_hsets g0 i7 q6
  refine lv rfl rfl (va rfl) (lv rfl rfl (va rfl) ?_)
  refine ln (qn ?_)
  refine xk (fun ρ h' => h7 = h' ∧ Has ρ [(6, (.bool (((a7 == a3 && (b0 == a5 && (a1 == a0 && (a6 == a4 && true))))) && ((r1 == b1) && (r2 == c1)))))]) ?_ ?_
  ·refine xr ?_
   refine lv rfl rfl (vL (vs := [(.int .u64 a7), (.int .u64 b0), (.int .u64 a1), (.int .u8 a6)]) TyShK.agg31 TyShK.sz31 rfl (cc (rc c4 rfl) (cc (rc c4 rfl) (cc (rc c4 rfl) (cc (rc c4 rfl) cn))))) (lv rfl rfl (vL (vs := [(.int .u64 a3), (.int .u64 a5), (.int .u64 a0), (.int .u8 a4)]) TyShK.agg31 TyShK.sz31 rfl (cc (rc e2 rfl) (cc (rc e2 rfl) (cc (rc e2 rfl) (cc (rc e2 rfl) cn))))) (lv rfl rfl (v := (.bool ((a7 == a3 && (b0 == a5 && (a1 == a0 && (a6 == a4 && true))))))) (hv_structEq (xs := [(.int .u64 a7), (.int .u64 b0), (.int .u64 a1), (.int .u8 a6)]) (ys := [(.int .u64 a3), (.int .u64 a5), (.int .u64 a0), (.int .u8 a4)]) (b := (a7 == a3 && (b0 == a5 && (a1 == a0 && (a6 == a4 && true))))) TyShK.se31 rfl rfl (by kernel_rfl) rfl) (lv rfl rfl (vm rfl) ?_)))
   rcases bool_or (((a7 == a3 && (b0 == a5 && (a1 == a0 && (a6 == a4 && true)))))) with c6 | c6
   ·refine ly (wanted_y rfl rfl rfl c6) rfl (HStep.of_val (v := (.bool r1)) (vm rfl) ?_)
    refine ly (wanted_y rfl rfl rfl c6) rfl (HStep.of_val (v := (.bool b1)) (vm rfl) ?_)
    refine ly (wanted_y rfl rfl rfl c6) rfl (HStep.of_val (v := (.bool (r1 == b1))) (hv_eqBool TyShK.u4 rfl rfl rfl) ?_)
    refine lv rfl rfl (v := (.bool (r1 == b1))) (hv_pick_t rfl c6 rfl) (lv rfl rfl (vm rfl) ?_)
    rcases bool_or (r1 == b1) with c8 | c8
    ·refine ly (wanted_y rfl rfl rfl c8) rfl (HStep.of_val (v := (.int .i64 r2)) (vm rfl) ?_)
     refine ly (wanted_y rfl rfl rfl c8) rfl (HStep.of_val (v := (.int .i64 c1)) (vm rfl) ?_)
     refine ly (wanted_y rfl rfl rfl c8) rfl (HStep.of_val (v := (.bool (r2 == c1))) (vr rfl rfl rfl) ?_)
     refine lv rfl rfl (v := (.bool (r2 == c1))) (hv_pick_t rfl c8 rfl) (lv rfl rfl (va rfl) ?_)
     refine ln (qn ?_)
     exact ⟨rfl, (hc (show ((.bool (r2 == c1)) : Value) = (.bool (((a7 == a3 && (b0 == a5 && (a1 == a0 && (a6 == a4 && true))))) && ((r1 == b1) && (r2 == c1)))) from (by first | rfl | ((try rw [c6]); (try rw [c8]); all_goals first | rfl | (simp only [Bool.true_or, Bool.or_true, Bool.false_or, Bool.or_false, Bool.true_and, Bool.and_true, Bool.false_and, Bool.and_false, Bool.not_true, Bool.not_false, Bool.cond_true, Bool.cond_false]; done)) | simp [c6, c8])) hn)⟩
    ·refine lo (wanted_n rfl rfl rfl c8) rfl ?_
     refine lo (wanted_n rfl rfl rfl c8) rfl ?_
     refine lo (wanted_n rfl rfl rfl c8) rfl ?_
     refine lv rfl rfl (v := (.bool false)) (hv_pick_f rfl c8 rfl) (lv rfl rfl (va rfl) ?_)
     refine ln (qn ?_)
     exact ⟨rfl, (hc (show ((.bool false) : Value) = (.bool (((a7 == a3 && (b0 == a5 && (a1 == a0 && (a6 == a4 && true))))) && ((r1 == b1) && (r2 == c1)))) from (by first | rfl | ((try rw [c6]); (try rw [c8]); all_goals first | rfl | (simp only [Bool.true_or, Bool.or_true, Bool.false_or, Bool.or_false, Bool.true_and, Bool.and_true, Bool.false_and, Bool.and_false, Bool.not_true, Bool.not_false, Bool.cond_true, Bool.cond_false]; done)) | simp [c6, c8])) hn)⟩
   ·refine lo (wanted_n rfl rfl rfl c6) rfl ?_
    refine lo (wanted_n rfl rfl rfl c6) rfl ?_
    refine lo (wanted_n rfl rfl rfl c6) rfl ?_
    refine lv rfl rfl (v := (.bool false)) (hv_pick_f rfl c6 rfl) (lv rfl rfl (vm rfl) ?_)
    refine lo (wanted_n rfl rfl (c := false) rfl rfl) rfl ?_
    refine lo (wanted_n rfl rfl (c := false) rfl rfl) rfl ?_
    refine lo (wanted_n rfl rfl (c := false) rfl rfl) rfl ?_
    refine lv rfl rfl (v := (.bool false)) (hv_pick (t := false) rfl rfl) (lv rfl rfl (va rfl) ?_)
    refine ln (qn ?_)
    exact ⟨rfl, (hc (show ((.bool false) : Value) = (.bool (((a7 == a3 && (b0 == a5 && (a1 == a0 && (a6 == a4 && true))))) && ((r1 == b1) && (r2 == c1)))) from (by first | rfl | ((try rw [c6]); all_goals first | rfl | (simp only [Bool.true_or, Bool.or_true, Bool.false_or, Bool.or_false, Bool.true_and, Bool.and_true, Bool.false_and, Bool.and_false, Bool.not_true, Bool.not_false, Bool.cond_true, Bool.cond_false]; done)) | simp [c6])) hn)⟩
  ·rintro ρ _ ⟨rfl, hH⟩
   refine xh _ hH ?_
   refine xt (br (qr ?_))
   replace H := H h7 r6
   exact endQ_ret _ (res_one Try.results13 (rv_tmp rfl)) H
 ·replace H := H.2 j6
  refine xs (xr ?_)
  refine lv rfl rfl (vr rfl rfl rfl) (lv rfl rfl (va rfl) ?_)
  refine ln (qn ?_)
  refine xc (b := a9 == 1) rfl (fun j4 => ?_) (fun j4 => ?_)
  ·replace H := H.1 j4
   refine xs (xr ?_)
   refine lv rfl rfl (vm rfl) (lv rfl rfl (v := (ptr o 1)) (vf TyShK.fld33_1 (b := o) (o := 0) rfl) (lv rfl rfl (v := (ptr o 1)) (vf TyShK.fld31_0 (b := o) (o := 1) rfl) (lv rfl rfl (vl TyShK.agg29 rfl (rc a8 rfl)) ?_)))
   replace H := H o h1 d8 (row_lt a8) d4
   refine lp rfl rfl (sc TyShK.cb11 rfl (HC.mono H ?_))
   rintro _ h8 ⟨q3, a7, b0, a1, a6, r1, rfl, H⟩
   replace a8 := Kp.row q3 (by simp) a8
   refine lv rfl rfl (vm rfl) (lv rfl rfl (vx rfl rfl) (lv rfl rfl (vx rfl rfl) ?_))
   refine lp rfl rfl (hn_alloc TyShK.z31 ?_)
   intro a h9 i3 j8
   have m9 := ext_pushed_f5_sh j8
   have s3 := Nat.ne_of_lt (Nat.lt_of_lt_of_eq (row_lt a8) (Eq.symm i3))
   have m7 : Array.size h8 ≤ a := Nat.le_of_eq (Eq.symm i3)
   have l3 : h9[a]? = some (.cells #[(.int .u64 0), (.int .u64 0), (.int .u64 0), (.int .u8 0)] 31 (0, 0)) := by rw [j8]; exact push_new i3
   replace a8 := Ext.row m9 a8
   refine lp rfl rfl (hn_stores (vs := [(.int .u64 a7), (.int .u64 b0), (.int .u64 a1), (.int .u8 a6)]) rfl rfl TyShK.sz31 rfl (HWs_row l3 (by simp)) ?_)
   intro e7 i9
   replace a8 := row_hsets_ne i9 s3 a8
   have c5 : e7[a]? = some (.cells #[(.int .u64 a7), (.int .u64 b0), (.int .u64 a1), (.int .u8 a6)] 31 (0, 0)) := row_hsets_eq i9 l3 rfl
   have q2 := ext_hsets i9 m9 m7
   refine lv rfl rfl (va rfl) ?_
   refine ln (qn (xs (xr ?_)))
   refine lv rfl rfl (vm rfl) (lv rfl rfl (v := (ptr o 1)) (vf TyShK.fld33_1 (b := o) (o := 0) rfl) (lv rfl rfl (v := (ptr o 1)) (vf TyShK.fld31_0 (b := o) (o := 1) rfl) (lv rfl rfl (vl TyShK.agg29 rfl (rc a8 rfl)) ?_)))
   replace H := H a e7 m7 (row_lt c5) q2
   refine lp rfl rfl (sc TyShK.cb35 rfl (HC.mono H ?_))
   rintro _ e8 ⟨k3, a3, a5, a0, a4, b1, rfl, H⟩
   replace a8 := Kp.row k3 (by simp) a8
   replace c5 := Kp.row k3 (by simp) c5
   refine lv rfl rfl (vm rfl) (lv rfl rfl (vx rfl rfl) (lv rfl rfl (vx rfl rfl) ?_))
   refine lp rfl rfl (hn_alloc TyShK.z31 ?_)
   intro b p4 f2 m0
   have i8 := ext_pushed_f5_sh m0
   have s2 := Nat.ne_of_lt (Nat.lt_of_lt_of_eq (row_lt a8) (Eq.symm f2))
   have r5 := Nat.ne_of_lt (Nat.lt_of_lt_of_eq (row_lt c5) (Eq.symm f2))
   have r8 : Array.size e8 ≤ b := Nat.le_of_eq (Eq.symm f2)
   have l5 : p4[b]? = some (.cells #[(.int .u64 0), (.int .u64 0), (.int .u64 0), (.int .u8 0)] 31 (0, 0)) := by rw [m0]; exact push_new f2
   replace a8 := Ext.row i8 a8
   replace c5 := Ext.row i8 c5
   refine lp rfl rfl (hn_stores (vs := [(.int .u64 a3), (.int .u64 a5), (.int .u64 a0), (.int .u8 a4)]) rfl rfl TyShK.sz31 rfl (HWs_row l5 (by simp)) ?_)
   intro d6 g2
   replace a8 := row_hsets_ne g2 s2 a8
   replace c5 := row_hsets_ne g2 r5 c5
   have e3 : d6[b]? = some (.cells #[(.int .u64 a3), (.int .u64 a5), (.int .u64 a0), (.int .u8 a4)] 31 (0, 0)) := row_hsets_eq g2 l5 rfl
   have k1 := ext_hsets g2 i8 r8
   refine lv rfl rfl (va rfl) ?_
   refine ln (qn ?_)
   obtain ⟨j, j2, i2⟩ := H
   refine xk (fun ρ h' => d6 = h' ∧ Has ρ [(6, (.bool j))]) ?_ ?_
   ·have H := j2; clear j2 i2
    refine hx_draw TyShK.mixed [.read, .read, .pure, .pure, .pure, .pure, .pure, .pure, .pure, .pure, .pure, .pure, .read, .read, .pure, .pure, .pure, .read, .read, .pure, .pure, .pure] [0, 1, 2, 3, 4, 5, 6, 7, 8, 9, 10, 11, 12, 13, 14, 15, 16, 17, 18, 19, 20, 21] (by kernel_rfl) ?_
    refine pr (i := 0) rfl (wanted_0 rfl) rfl (.agg #[(.int .u64 a7), (.int .u64 b0), (.int .u64 a1), (.int .u8 a6)]) (fun _ he => vL (vs := [(.int .u64 a7), (.int .u64 b0), (.int .u64 a1), (.int .u8 a6)]) TyShK.agg31 TyShK.sz31 rfl (cc (Ext.cell he (rc c5 rfl)) (cc (Ext.cell he (rc c5 rfl)) (cc (Ext.cell he (rc c5 rfl)) (cc (Ext.cell he (rc c5 rfl)) cn))))) ?_
    refine pr (i := 1) rfl (wanted_0 rfl) rfl (.agg #[(.int .u64 a3), (.int .u64 a5), (.int .u64 a0), (.int .u8 a4)]) (fun _ he => vL (vs := [(.int .u64 a3), (.int .u64 a5), (.int .u64 a0), (.int .u8 a4)]) TyShK.agg31 TyShK.sz31 rfl (cc (Ext.cell he (rc e3 rfl)) (cc (Ext.cell he (rc e3 rfl)) (cc (Ext.cell he (rc e3 rfl)) (cc (Ext.cell he (rc e3 rfl)) cn))))) ?_
    refine pp (i := 2) rfl (wanted_0 rfl) rfl (.bool ((a7 == a3 && (b0 == a5 && (a1 == a0 && (a6 == a4 && true)))))) (fun _ => hv_structEq (xs := [(.int .u64 a7), (.int .u64 b0), (.int .u64 a1), (.int .u8 a6)]) (ys := [(.int .u64 a3), (.int .u64 a5), (.int .u64 a0), (.int .u8 a4)]) (b := (a7 == a3 && (b0 == a5 && (a1 == a0 && (a6 == a4 && true))))) TyShK.se31 rfl rfl (by kernel_rfl) rfl) ?_
    refine pp (i := 3) rfl (wanted_0 rfl) rfl (.bool ((a7 == a3 && (b0 == a5 && (a1 == a0 && (a6 == a4 && true)))))) (fun _ => vm rfl) ?_
    rcases bool_or (((a7 == a3 && (b0 == a5 && (a1 == a0 && (a6 == a4 && true)))))) with d1 | d1
    ·replace H := H.1 d1
     refine pp (i := 4) rfl (wanted_y rfl rfl rfl d1) rfl (.bool r1) (fun _ => vm rfl) ?_
     refine pp (i := 5) rfl (wanted_y rfl rfl rfl d1) rfl (.bool b1) (fun _ => vm rfl) ?_
     refine pp (i := 6) rfl (wanted_y rfl rfl rfl d1) rfl (.bool (r1 == b1)) (fun _ => hv_eqBool TyShK.u4 rfl rfl rfl) ?_
     refine pp (i := 7) rfl (wanted_0 rfl) rfl (.bool (r1 == b1)) (fun _ => hv_pick_t rfl d1 rfl) ?_
     refine pp (i := 8) rfl (wanted_0 rfl) rfl (.bool (r1 == b1)) (fun _ => vm rfl) ?_
     rcases bool_or (r1 == b1) with b7 | b7
     ·replace H := H.1 b7
      refine pp (i := 9) rfl (wanted_y rfl rfl rfl b7) rfl (ptr c0 b9) (fun _ => vm rfl) ?_
      refine pp (i := 10) rfl (wanted_y rfl rfl rfl b7) rfl (ptr o 1) (fun _ => vf TyShK.fld33_1 (b := o) (o := 0) rfl) ?_
      refine pp (i := 11) rfl (wanted_y rfl rfl rfl b7) rfl (ptr o 1) (fun _ => vf TyShK.fld31_0 (b := o) (o := 1) rfl) ?_
      refine pr (i := 12) rfl (wanted_y rfl rfl rfl b7) rfl (.int .u64 a2) (fun _ he => vl TyShK.agg29 rfl (Ext.cell he (rc a8 rfl))) ?_
      replace H := H d6 k1
      obtain ⟨r, q4, H⟩ := H
      refine pr (i := 13) rfl (wanted_y rfl rfl rfl b7) rfl (.int .i64 r) (fun _ he => hv_call TyShK.cb24 (vs := [(ptr c0 b9), (.int .u64 a2)]) rfl (q4 _ he)) ?_
      refine pp (i := 14) rfl (wanted_y rfl rfl rfl b7) rfl (ptr b6 b5) (fun _ => vm rfl) ?_
      refine pp (i := 15) rfl (wanted_y rfl rfl rfl b7) rfl (ptr o 1) (fun _ => vf TyShK.fld33_1 (b := o) (o := 0) rfl) ?_
      refine pp (i := 16) rfl (wanted_y rfl rfl rfl b7) rfl (ptr o 1) (fun _ => vf TyShK.fld31_0 (b := o) (o := 1) rfl) ?_
      refine pr (i := 17) rfl (wanted_y rfl rfl rfl b7) rfl (.int .u64 a2) (fun _ he => vl TyShK.agg29 rfl (Ext.cell he (rc a8 rfl))) ?_
      obtain ⟨d0, s5, H⟩ := H
      refine pr (i := 18) rfl (wanted_y rfl rfl rfl b7) rfl (.int .i64 d0) (fun _ he => hv_call TyShK.cb36 (vs := [(ptr b6 b5), (.int .u64 a2)]) rfl (s5 _ he)) ?_
      refine pp (i := 19) rfl (wanted_y rfl rfl rfl b7) rfl (.bool (r == d0)) (fun _ => vr rfl rfl rfl) ?_
      refine pp (i := 20) rfl (wanted_0 rfl) rfl (.bool (r == d0)) (fun _ => hv_pick_t rfl b7 rfl) ?_
      refine pp (i := 21) rfl (wanted_0 rfl) rfl (.bool (r == d0)) (fun _ => va rfl) ?_
      refine hp_nil ?_
      refine qn ?_
      obtain rfl := H
      exact ⟨rfl, (hc rfl hn)⟩
     ·replace H := H.2 b7
      refine pn (i := 9) rfl (wanted_n rfl rfl rfl b7) ?_
      refine pn (i := 10) rfl (wanted_n rfl rfl rfl b7) ?_
      refine pn (i := 11) rfl (wanted_n rfl rfl rfl b7) ?_
      refine pn (i := 12) rfl (wanted_n rfl rfl rfl b7) ?_
      refine pn (i := 13) rfl (wanted_n rfl rfl rfl b7) ?_
      refine pn (i := 14) rfl (wanted_n rfl rfl rfl b7) ?_
      refine pn (i := 15) rfl (wanted_n rfl rfl rfl b7) ?_
      refine pn (i := 16) rfl (wanted_n rfl rfl rfl b7) ?_
      refine pn (i := 17) rfl (wanted_n rfl rfl rfl b7) ?_
      refine pn (i := 18) rfl (wanted_n rfl rfl rfl b7) ?_
      refine pn (i := 19) rfl (wanted_n rfl rfl rfl b7) ?_
      refine pp (i := 20) rfl (wanted_0 rfl) rfl (.bool false) (fun _ => hv_pick_f rfl b7 rfl) ?_
      refine pp (i := 21) rfl (wanted_0 rfl) rfl (.bool false) (fun _ => va rfl) ?_
      refine hp_nil ?_
      refine qn ?_
      obtain rfl := H
      exact ⟨rfl, (hc rfl hn)⟩
    ·replace H := H.2 d1
     refine pn (i := 4) rfl (wanted_n rfl rfl rfl d1) ?_
     refine pn (i := 5) rfl (wanted_n rfl rfl rfl d1) ?_
     refine pn (i := 6) rfl (wanted_n rfl rfl rfl d1) ?_
     refine pp (i := 7) rfl (wanted_0 rfl) rfl (.bool false) (fun _ => hv_pick_f rfl d1 rfl) ?_
     refine pp (i := 8) rfl (wanted_0 rfl) rfl (.bool false) (fun _ => vm rfl) ?_
     refine pn (i := 9) rfl (wanted_n rfl rfl (c := false) rfl rfl) ?_
     refine pn (i := 10) rfl (wanted_n rfl rfl (c := false) rfl rfl) ?_
     refine pn (i := 11) rfl (wanted_n rfl rfl (c := false) rfl rfl) ?_
     refine pn (i := 12) rfl (wanted_n rfl rfl (c := false) rfl rfl) ?_
     refine pn (i := 13) rfl (wanted_n rfl rfl (c := false) rfl rfl) ?_
     refine pn (i := 14) rfl (wanted_n rfl rfl (c := false) rfl rfl) ?_
     refine pn (i := 15) rfl (wanted_n rfl rfl (c := false) rfl rfl) ?_
     refine pn (i := 16) rfl (wanted_n rfl rfl (c := false) rfl rfl) ?_
     refine pn (i := 17) rfl (wanted_n rfl rfl (c := false) rfl rfl) ?_
     refine pn (i := 18) rfl (wanted_n rfl rfl (c := false) rfl rfl) ?_
     refine pn (i := 19) rfl (wanted_n rfl rfl (c := false) rfl rfl) ?_
     refine pp (i := 20) rfl (wanted_0 rfl) rfl (.bool false) (fun _ => hv_pick (t := false) rfl rfl) ?_
     refine pp (i := 21) rfl (wanted_0 rfl) rfl (.bool false) (fun _ => va rfl) ?_
     refine hp_nil ?_
     refine qn ?_
     obtain rfl := H
     exact ⟨rfl, (hc rfl hn)⟩
   ·have H := i2; clear j2 i2
    rintro ρ _ ⟨rfl, hH⟩
    refine xh _ hH ?_
    refine xt (br (qr ?_))
    replace H := H d6 k1
    exact endQ_ret _ (res_one Try.results13 (rv_tmp rfl)) H
  ·replace H := H.2 j4
   refine xs (xr ?_)
   refine lv rfl rfl (vr rfl rfl rfl) (lv rfl rfl (va rfl) ?_)
   refine ln (qn ?_)
   refine xc (b := a9 == 2) rfl (fun j1 => ?_) (fun j1 => ?_)
   ·replace H := H.1 j1
    refine xs (xr ?_)
    refine lv rfl rfl (vm rfl) (lv rfl rfl (v := (ptr o 1)) (vf TyShK.fld33_1 (b := o) (o := 0) rfl) (lv rfl rfl (v := (ptr o 1)) (vf TyShK.fld31_0 (b := o) (o := 1) rfl) (lv rfl rfl (vl TyShK.agg29 rfl (rc a8 rfl)) ?_)))
    replace H := H o h1 d8 (row_lt a8) d4
    refine lp rfl rfl (sc TyShK.cb30 rfl (HC.mono H ?_))
    rintro _ f0 ⟨p9, a7, b0, a1, a6, r1, rfl, H⟩
    replace a8 := Kp.row p9 (by simp) a8
    refine lv rfl rfl (vm rfl) (lv rfl rfl (vx rfl rfl) (lv rfl rfl (vx rfl rfl) ?_))
    refine lp rfl rfl (hn_alloc TyShK.z31 ?_)
    intro a p6 i4 k8
    have m8 := ext_pushed_f5_sh k8
    have s6 := Nat.ne_of_lt (Nat.lt_of_lt_of_eq (row_lt a8) (Eq.symm i4))
    have m2 : Array.size f0 ≤ a := Nat.le_of_eq (Eq.symm i4)
    have k0 : p6[a]? = some (.cells #[(.int .u64 0), (.int .u64 0), (.int .u64 0), (.int .u8 0)] 31 (0, 0)) := by rw [k8]; exact push_new i4
    replace a8 := Ext.row m8 a8
    refine lp rfl rfl (hn_stores (vs := [(.int .u64 a7), (.int .u64 b0), (.int .u64 a1), (.int .u8 a6)]) rfl rfl TyShK.sz31 rfl (HWs_row k0 (by simp)) ?_)
    intro e4 j0
    replace a8 := row_hsets_ne j0 s6 a8
    have c3 : e4[a]? = some (.cells #[(.int .u64 a7), (.int .u64 b0), (.int .u64 a1), (.int .u8 a6)] 31 (0, 0)) := row_hsets_eq j0 k0 rfl
    have q9 := ext_hsets j0 m8 m2
    refine lv rfl rfl (va rfl) ?_
    refine ln (qn (xs (xr ?_)))
    refine lv rfl rfl (vm rfl) (lv rfl rfl (v := (ptr o 1)) (vf TyShK.fld33_1 (b := o) (o := 0) rfl) (lv rfl rfl (v := (ptr o 1)) (vf TyShK.fld31_0 (b := o) (o := 1) rfl) (lv rfl rfl (vl TyShK.agg29 rfl (rc a8 rfl)) ?_)))
    replace H := H a e4 m2 (row_lt c3) q9
    refine lp rfl rfl (sc TyShK.cb37 rfl (HC.mono H ?_))
    rintro _ g9 ⟨j7, a3, a5, a0, a4, b1, rfl, H⟩
    replace a8 := Kp.row j7 (by simp) a8
    replace c3 := Kp.row j7 (by simp) c3
    refine lv rfl rfl (vm rfl) (lv rfl rfl (vx rfl rfl) (lv rfl rfl (vx rfl rfl) ?_))
    refine lp rfl rfl (hn_alloc TyShK.z31 ?_)
    intro b p3 f9 m6
    have j3 := ext_pushed_f5_sh m6
    have r4 := Nat.ne_of_lt (Nat.lt_of_lt_of_eq (row_lt a8) (Eq.symm f9))
    have s0 := Nat.ne_of_lt (Nat.lt_of_lt_of_eq (row_lt c3) (Eq.symm f9))
    have q1 : Array.size g9 ≤ b := Nat.le_of_eq (Eq.symm f9)
    have k5 : p3[b]? = some (.cells #[(.int .u64 0), (.int .u64 0), (.int .u64 0), (.int .u8 0)] 31 (0, 0)) := by rw [m6]; exact push_new f9
    replace a8 := Ext.row j3 a8
    replace c3 := Ext.row j3 c3
    refine lp rfl rfl (hn_stores (vs := [(.int .u64 a3), (.int .u64 a5), (.int .u64 a0), (.int .u8 a4)]) rfl rfl TyShK.sz31 rfl (HWs_row k5 (by simp)) ?_)
    intro e9 f3
    replace a8 := row_hsets_ne f3 r4 a8
    replace c3 := row_hsets_ne f3 s0 c3
    have e1 : e9[b]? = some (.cells #[(.int .u64 a3), (.int .u64 a5), (.int .u64 a0), (.int .u8 a4)] 31 (0, 0)) := row_hsets_eq f3 k5 rfl
    have q5 := ext_hsets f3 j3 q1
    refine lv rfl rfl (va rfl) ?_
    refine ln (qn ?_)
    refine xk (fun ρ h' => e9 = h' ∧ Has ρ [(6, (.bool (((a7 == a3 && (b0 == a5 && (a1 == a0 && (a6 == a4 && true))))) && (r1 == b1))))]) ?_ ?_
    ·refine xr ?_
     refine lv rfl rfl (vL (vs := [(.int .u64 a7), (.int .u64 b0), (.int .u64 a1), (.int .u8 a6)]) TyShK.agg31 TyShK.sz31 rfl (cc (rc c3 rfl) (cc (rc c3 rfl) (cc (rc c3 rfl) (cc (rc c3 rfl) cn))))) (lv rfl rfl (vL (vs := [(.int .u64 a3), (.int .u64 a5), (.int .u64 a0), (.int .u8 a4)]) TyShK.agg31 TyShK.sz31 rfl (cc (rc e1 rfl) (cc (rc e1 rfl) (cc (rc e1 rfl) (cc (rc e1 rfl) cn))))) (lv rfl rfl (v := (.bool ((a7 == a3 && (b0 == a5 && (a1 == a0 && (a6 == a4 && true))))))) (hv_structEq (xs := [(.int .u64 a7), (.int .u64 b0), (.int .u64 a1), (.int .u8 a6)]) (ys := [(.int .u64 a3), (.int .u64 a5), (.int .u64 a0), (.int .u8 a4)]) (b := (a7 == a3 && (b0 == a5 && (a1 == a0 && (a6 == a4 && true))))) TyShK.se31 rfl rfl (by kernel_rfl) rfl) (lv rfl rfl (vm rfl) ?_)))
     rcases bool_or (((a7 == a3 && (b0 == a5 && (a1 == a0 && (a6 == a4 && true)))))) with c9 | c9
     ·refine ly (wanted_y rfl rfl rfl c9) rfl (HStep.of_val (v := (.bool r1)) (vm rfl) ?_)
      refine ly (wanted_y rfl rfl rfl c9) rfl (HStep.of_val (v := (.bool b1)) (vm rfl) ?_)
      refine ly (wanted_y rfl rfl rfl c9) rfl (HStep.of_val (v := (.bool (r1 == b1))) (hv_eqBool TyShK.u4 rfl rfl rfl) ?_)
      refine lv rfl rfl (v := (.bool (r1 == b1))) (hv_pick_t rfl c9 rfl) (lv rfl rfl (va rfl) ?_)
      refine ln (qn ?_)
      exact ⟨rfl, (hc (show ((.bool (r1 == b1)) : Value) = (.bool (((a7 == a3 && (b0 == a5 && (a1 == a0 && (a6 == a4 && true))))) && (r1 == b1))) from (by first | rfl | ((try rw [c9]); all_goals first | rfl | (simp only [Bool.true_or, Bool.or_true, Bool.false_or, Bool.or_false, Bool.true_and, Bool.and_true, Bool.false_and, Bool.and_false, Bool.not_true, Bool.not_false, Bool.cond_true, Bool.cond_false]; done)) | simp [c9])) hn)⟩
     ·refine lo (wanted_n rfl rfl rfl c9) rfl ?_
      refine lo (wanted_n rfl rfl rfl c9) rfl ?_
      refine lo (wanted_n rfl rfl rfl c9) rfl ?_
      refine lv rfl rfl (v := (.bool false)) (hv_pick_f rfl c9 rfl) (lv rfl rfl (va rfl) ?_)
      refine ln (qn ?_)
      exact ⟨rfl, (hc (show ((.bool false) : Value) = (.bool (((a7 == a3 && (b0 == a5 && (a1 == a0 && (a6 == a4 && true))))) && (r1 == b1))) from (by first | rfl | ((try rw [c9]); all_goals first | rfl | (simp only [Bool.true_or, Bool.or_true, Bool.false_or, Bool.or_false, Bool.true_and, Bool.and_true, Bool.false_and, Bool.and_false, Bool.not_true, Bool.not_false, Bool.cond_true, Bool.cond_false]; done)) | simp [c9])) hn)⟩
    ·rintro ρ _ ⟨rfl, hH⟩
     refine xh _ hH ?_
     refine xt (br (qr ?_))
     replace H := H e9 q5
     exact endQ_ret _ (res_one Try.results13 (rv_tmp rfl)) H
   ·replace H := H.2 j1
    refine xs (xr ?_)
    refine lv rfl rfl (vr rfl rfl rfl) (lv rfl rfl (va rfl) ?_)
    refine ln (qn ?_)
    refine xc (b := a9 == 3) rfl (fun i5 => ?_) (fun i5 => ?_)
    ·replace H := H.1 i5
     refine xs ?_
     obtain ⟨f1, p8, H⟩ := H
     refine hx_drawT TyShK.mixed f1 p8 [.pure, .pure, .pure, .read, .pure, .read, .tame, .pure, .pure, .pure, .stay, .pure, .stay, .wild, .pure, .pure] [0, 1, 2, 3, 4, 5, 7, 8, 9, 10, 11, 12, 6, 13, 14, 15] (by kernel_rfl) ?_
     refine pp (i := 0) rfl (wanted_0 rfl) rfl (ptr c0 b9) (fun _ => vm rfl) ?_
     refine pp (i := 1) rfl (wanted_0 rfl) rfl (ptr o 1) (fun _ => vf TyShK.fld33_1 (b := o) (o := 0) rfl) ?_
     refine pp (i := 2) rfl (wanted_0 rfl) rfl (ptr o 1) (fun _ => vf TyShK.fld31_0 (b := o) (o := 1) rfl) ?_
     refine pr (i := 3) rfl (wanted_0 rfl) rfl (.int .u64 a2) (fun _ he => vl TyShK.agg29 rfl (Ext.cell he (rc a8 rfl))) ?_
     refine pp (i := 4) rfl (wanted_0 rfl) rfl (ptr o 5) (fun _ => vf TyShK.fld33_2 (b := o) (o := 0) rfl) ?_
     refine pr (i := 5) rfl (wanted_0 rfl) rfl (.int .u64 c2) (fun _ he => vl TyShK.agg29 rfl (Ext.cell he (rc a8 rfl))) ?_
     refine pp (i := 7) rfl (wanted_0 rfl) rfl (ptr b6 b5) (fun _ => vm rfl) ?_
     refine pp (i := 8) rfl (wanted_0 rfl) rfl (ptr o 1) (fun _ => vf TyShK.fld33_1 (b := o) (o := 0) rfl) ?_
     refine pp (i := 9) rfl (wanted_0 rfl) rfl (ptr o 1) (fun _ => vf TyShK.fld31_0 (b := o) (o := 1) rfl) ?_
     replace H := H o h1 d8 (row_lt a8) d4
     obtain ⟨q7, H⟩ := H
     refine hp_stay (i := 10) rfl (wanted_0 rfl) rfl (.int .u64 a2) (fun _ he => vl TyShK.agg29 rfl ((fun hx he => rc (Kp.row (q7 hx he) (by simp) a8) rfl) _ he)) ?_
     refine pp (i := 11) rfl (wanted_0 rfl) rfl (ptr o 5) (fun _ => vf TyShK.fld33_2 (b := o) (o := 0) rfl) ?_
     obtain ⟨q0, H⟩ := H
     refine hp_stay (i := 12) rfl (wanted_0 rfl) rfl (.int .u64 c2) (fun _ he => vl TyShK.agg29 rfl ((fun hx he => rc (Kp.row (q0 hx he) (by simp) a8) rfl) _ he)) ?_
     refine hp_tame (i := 6) rfl (wanted_0 rfl) rfl (sc TyShK.cb31 rfl (HC.mono H ?_))
     rintro _ g6 ⟨r3, s4, d7, rfl, H⟩
     refine ⟨r3, ?_⟩
     replace a8 := Kp.row s4 (by simp) a8
     refine hp_wild (i := 13) rfl (wanted_0 rfl) rfl (sc TyShK.cb38 rfl (HC.mono H ?_))
     rintro _ m5 ⟨r0, d5, rfl, H⟩
     replace a8 := Kp.row r0 (by simp) a8
     refine pp (i := 14) rfl (wanted_0 rfl) rfl (.bool (d7 == d5)) (fun _ => hv_eqBool TyShK.u4 rfl rfl rfl) ?_
     refine pp (i := 15) rfl (wanted_0 rfl) rfl (.bool (d7 == d5)) (fun _ => va rfl) ?_
     refine hp_nil ?_
     refine qn (xt (br (qr ?_)))
     exact endQ_ret _ (res_one Try.results13 (rv_tmp rfl)) H
    ·replace H := H.2 i5
     refine xs (xr ?_)
     refine lv rfl rfl (vr rfl rfl rfl) (lv rfl rfl (va rfl) ?_)
     refine ln (qn ?_)
     refine xc (b := a9 == 4) rfl (fun j5 => ?_) (fun j5 => ?_)
     ·replace H := H.1 j5
      refine xs ?_
      obtain ⟨e5, s1, H⟩ := H
      refine hx_drawT TyShK.mixed e5 s1 [.pure, .pure, .pure, .read, .pure, .read, .pure, .pure, .read, .tame, .pure, .pure, .pure, .stay, .pure, .stay, .pure, .pure, .stay, .wild, .pure, .pure] [0, 1, 2, 3, 4, 5, 6, 7, 8, 10, 11, 12, 13, 14, 15, 16, 17, 18, 9, 19, 20, 21] (by kernel_rfl) ?_
      refine pp (i := 0) rfl (wanted_0 rfl) rfl (ptr c0 b9) (fun _ => vm rfl) ?_
      refine pp (i := 1) rfl (wanted_0 rfl) rfl (ptr o 1) (fun _ => vf TyShK.fld33_1 (b := o) (o := 0) rfl) ?_
      refine pp (i := 2) rfl (wanted_0 rfl) rfl (ptr o 1) (fun _ => vf TyShK.fld31_0 (b := o) (o := 1) rfl) ?_
      refine pr (i := 3) rfl (wanted_0 rfl) rfl (.int .u64 a2) (fun _ he => vl TyShK.agg29 rfl (Ext.cell he (rc a8 rfl))) ?_
      refine pp (i := 4) rfl (wanted_0 rfl) rfl (ptr o 5) (fun _ => vf TyShK.fld33_2 (b := o) (o := 0) rfl) ?_
      refine pr (i := 5) rfl (wanted_0 rfl) rfl (.int .u64 c2) (fun _ he => vl TyShK.agg29 rfl (Ext.cell he (rc a8 rfl))) ?_
      refine pp (i := 6) rfl (wanted_0 rfl) rfl (ptr o 1) (fun _ => vf TyShK.fld33_1 (b := o) (o := 0) rfl) ?_
      refine pp (i := 7) rfl (wanted_0 rfl) rfl (ptr o 2) (fun _ => vf TyShK.fld31_1 (b := o) (o := 1) rfl) ?_
      refine pr (i := 8) rfl (wanted_0 rfl) rfl (.int .u64 b3) (fun _ he => vl TyShK.agg29 rfl (Ext.cell he (rc a8 rfl))) ?_
      refine pp (i := 10) rfl (wanted_0 rfl) rfl (ptr b6 b5) (fun _ => vm rfl) ?_
      refine pp (i := 11) rfl (wanted_0 rfl) rfl (ptr o 1) (fun _ => vf TyShK.fld33_1 (b := o) (o := 0) rfl) ?_
      refine pp (i := 12) rfl (wanted_0 rfl) rfl (ptr o 1) (fun _ => vf TyShK.fld31_0 (b := o) (o := 1) rfl) ?_
      replace H := H o h1 d8 (row_lt a8) d4
      obtain ⟨o5, H⟩ := H
      refine hp_stay (i := 13) rfl (wanted_0 rfl) rfl (.int .u64 a2) (fun _ he => vl TyShK.agg29 rfl ((fun hx he => rc (Kp.row (o5 hx he) (by simp) a8) rfl) _ he)) ?_
      refine pp (i := 14) rfl (wanted_0 rfl) rfl (ptr o 5) (fun _ => vf TyShK.fld33_2 (b := o) (o := 0) rfl) ?_
      obtain ⟨n0, H⟩ := H
      refine hp_stay (i := 15) rfl (wanted_0 rfl) rfl (.int .u64 c2) (fun _ he => vl TyShK.agg29 rfl ((fun hx he => rc (Kp.row (n0 hx he) (by simp) a8) rfl) _ he)) ?_
      refine pp (i := 16) rfl (wanted_0 rfl) rfl (ptr o 1) (fun _ => vf TyShK.fld33_1 (b := o) (o := 0) rfl) ?_
      refine pp (i := 17) rfl (wanted_0 rfl) rfl (ptr o 2) (fun _ => vf TyShK.fld31_1 (b := o) (o := 1) rfl) ?_
      obtain ⟨o6, H⟩ := H
      refine hp_stay (i := 18) rfl (wanted_0 rfl) rfl (.int .u64 b3) (fun _ he => vl TyShK.agg29 rfl ((fun hx he => rc (Kp.row (o6 hx he) (by simp) a8) rfl) _ he)) ?_
      refine hp_tame (i := 9) rfl (wanted_0 rfl) rfl (sc TyShK.cb32 rfl (HC.mono H ?_))
      rintro _ g8 ⟨n9, o3, i1, rfl, H⟩
      refine ⟨n9, ?_⟩
      replace a8 := Kp.row o3 (by simp) a8
      refine hp_wild (i := 19) rfl (wanted_0 rfl) rfl (sc TyShK.cb39 rfl (HC.mono H ?_))
      rintro _ k7 ⟨n1, i0, rfl, H⟩
      replace a8 := Kp.row n1 (by simp) a8
      refine pp (i := 20) rfl (wanted_0 rfl) rfl (.bool (i1 == i0)) (fun _ => hv_eqBool TyShK.u4 rfl rfl rfl) ?_
      refine pp (i := 21) rfl (wanted_0 rfl) rfl (.bool (i1 == i0)) (fun _ => va rfl) ?_
      refine hp_nil ?_
      refine qn (xt (br (qr ?_)))
      exact endQ_ret _ (res_one Try.results13 (rv_tmp rfl)) H
     ·replace H := H.2 j5
      refine xs (xr ?_)
      refine lv rfl rfl (vr rfl rfl rfl) (lv rfl rfl (va rfl) ?_)
      refine ln (qn ?_)
      refine xc (b := a9 == 5) rfl (fun g3 => ?_) (fun g3 => ?_)
      ·replace H := H.1 g3
       refine xs ?_
       obtain ⟨e6, p0, H⟩ := H
       refine hx_drawT TyShK.mixed e6 p0 [.pure, .pure, .pure, .read, .tame, .pure, .pure, .pure, .stay, .wild, .pure, .pure] [0, 1, 2, 3, 5, 6, 7, 8, 4, 9, 10, 11] (by kernel_rfl) ?_
       refine pp (i := 0) rfl (wanted_0 rfl) rfl (ptr c0 b9) (fun _ => vm rfl) ?_
       refine pp (i := 1) rfl (wanted_0 rfl) rfl (ptr o 1) (fun _ => vf TyShK.fld33_1 (b := o) (o := 0) rfl) ?_
       refine pp (i := 2) rfl (wanted_0 rfl) rfl (ptr o 1) (fun _ => vf TyShK.fld31_0 (b := o) (o := 1) rfl) ?_
       refine pr (i := 3) rfl (wanted_0 rfl) rfl (.int .u64 a2) (fun _ he => vl TyShK.agg29 rfl (Ext.cell he (rc a8 rfl))) ?_
       refine pp (i := 5) rfl (wanted_0 rfl) rfl (ptr b6 b5) (fun _ => vm rfl) ?_
       refine pp (i := 6) rfl (wanted_0 rfl) rfl (ptr o 1) (fun _ => vf TyShK.fld33_1 (b := o) (o := 0) rfl) ?_
       refine pp (i := 7) rfl (wanted_0 rfl) rfl (ptr o 1) (fun _ => vf TyShK.fld31_0 (b := o) (o := 1) rfl) ?_
       replace H := H o h1 d8 (row_lt a8) d4
       obtain ⟨n3, H⟩ := H
       refine hp_stay (i := 8) rfl (wanted_0 rfl) rfl (.int .u64 a2) (fun _ he => vl TyShK.agg29 rfl ((fun hx he => rc (Kp.row (n3 hx he) (by simp) a8) rfl) _ he)) ?_
       refine hp_tame (i := 4) rfl (wanted_0 rfl) rfl (sc TyShK.cb33 rfl (HC.mono H ?_))
       rintro _ g7 ⟨o1, o7, d2, rfl, H⟩
       refine ⟨o1, ?_⟩
       replace a8 := Kp.row o7 (by simp) a8
       refine hp_wild (i := 9) rfl (wanted_0 rfl) rfl (sc TyShK.cb40 rfl (HC.mono H ?_))
       rintro _ k2 ⟨n8, g4, rfl, H⟩
       replace a8 := Kp.row n8 (by simp) a8
       refine pp (i := 10) rfl (wanted_0 rfl) rfl (.bool (d2 == g4)) (fun _ => hv_eqBool TyShK.u4 rfl rfl rfl) ?_
       refine pp (i := 11) rfl (wanted_0 rfl) rfl (.bool (d2 == g4)) (fun _ => va rfl) ?_
       refine hp_nil ?_
       refine qn (xt (br (qr ?_)))
       exact endQ_ret _ (res_one Try.results13 (rv_tmp rfl)) H
      ·replace H := H.2 g3
       refine xs (xr ?_)
       refine lv rfl rfl (vr rfl rfl rfl) (lv rfl rfl (va rfl) ?_)
       refine ln (qn ?_)
       refine xc (b := a9 == 6) rfl (fun f7 => ?_) (fun f7 => ?_)
       ·replace H := H.1 f7
        refine xs ?_
        obtain ⟨e0, o2, H⟩ := H
        refine hx_drawT TyShK.mixed e0 o2 [.pure, .pure, .read, .pure, .read, .tame, .pure, .pure, .stay, .pure, .stay, .wild, .pure, .pure] [0, 1, 2, 3, 4, 6, 7, 8, 9, 10, 5, 11, 12, 13] (by kernel_rfl) ?_
        refine pp (i := 0) rfl (wanted_0 rfl) rfl (ptr c0 b9) (fun _ => vm rfl) ?_
        refine pp (i := 1) rfl (wanted_0 rfl) rfl (ptr o 6) (fun _ => vf TyShK.fld33_3 (b := o) (o := 0) rfl) ?_
        refine pr (i := 2) rfl (wanted_0 rfl) rfl (.int .i64 c7) (fun _ he => vl TyShK.agg3 rfl (Ext.cell he (rc a8 rfl))) ?_
        refine pp (i := 3) rfl (wanted_0 rfl) rfl (ptr o 7) (fun _ => vf TyShK.fld33_4 (b := o) (o := 0) rfl) ?_
        refine pr (i := 4) rfl (wanted_0 rfl) rfl (.int .i64 d3) (fun _ he => vl TyShK.agg3 rfl (Ext.cell he (rc a8 rfl))) ?_
        refine pp (i := 6) rfl (wanted_0 rfl) rfl (ptr b6 b5) (fun _ => vm rfl) ?_
        refine pp (i := 7) rfl (wanted_0 rfl) rfl (ptr o 6) (fun _ => vf TyShK.fld33_3 (b := o) (o := 0) rfl) ?_
        replace H := H o h1 d8 (row_lt a8) d4
        obtain ⟨n6, H⟩ := H
        refine hp_stay (i := 8) rfl (wanted_0 rfl) rfl (.int .i64 c7) (fun _ he => vl TyShK.agg3 rfl ((fun hx he => rc (Kp.row (n6 hx he) (by simp) a8) rfl) _ he)) ?_
        refine pp (i := 9) rfl (wanted_0 rfl) rfl (ptr o 7) (fun _ => vf TyShK.fld33_4 (b := o) (o := 0) rfl) ?_
        obtain ⟨p1, H⟩ := H
        refine hp_stay (i := 10) rfl (wanted_0 rfl) rfl (.int .i64 d3) (fun _ he => vl TyShK.agg3 rfl ((fun hx he => rc (Kp.row (p1 hx he) (by simp) a8) rfl) _ he)) ?_
        refine hp_tame (i := 5) rfl (wanted_0 rfl) rfl (sc TyShK.cb19 rfl (HC.mono H ?_))
        rintro _ g5 ⟨o0, n5, d7, rfl, H⟩
        refine ⟨o0, ?_⟩
        replace a8 := Kp.row n5 (by simp) a8
        refine hp_wild (i := 11) rfl (wanted_0 rfl) rfl (sc TyShK.cb41 rfl (HC.mono H ?_))
        rintro _ k9 ⟨o8, d5, rfl, H⟩
        replace a8 := Kp.row o8 (by simp) a8
        refine pp (i := 12) rfl (wanted_0 rfl) rfl (.bool (d7 == d5)) (fun _ => vr rfl rfl rfl) ?_
        refine pp (i := 13) rfl (wanted_0 rfl) rfl (.bool (d7 == d5)) (fun _ => va rfl) ?_
        refine hp_nil ?_
        refine qn (xt (br (qr ?_)))
        exact endQ_ret _ (res_one Try.results13 (rv_tmp rfl)) H
       ·replace H := H.2 f7
        refine xs (xr ?_)
        refine lv rfl rfl (vr rfl rfl rfl) (lv rfl rfl (va rfl) ?_)
        refine ln (qn ?_)
        refine xc (b := a9 == 7) rfl (fun f4 => ?_) (fun f4 => ?_)
        ·replace H := H.1 f4
         refine xs (xr ?_)
         refine lv rfl rfl (vm rfl) (lv rfl rfl (vm rfl) (lv rfl rfl (v := (ptr o 6)) (vf TyShK.fld33_3 (b := o) (o := 0) rfl) (lv rfl rfl (vl TyShK.agg3 rfl (rc a8 rfl)) (lv rfl rfl (v := (ptr o 7)) (vf TyShK.fld33_4 (b := o) (o := 0) rfl) (lv rfl rfl (vl TyShK.agg3 rfl (rc a8 rfl)) ?_)))))
         replace H := H o h1 d8 (row_lt a8) d4
         refine lp rfl rfl (sc TyShK.cb42 rfl (HC.mono H ?_))
         rintro _ m1 ⟨o4, r, rfl, H⟩
         replace a8 := Kp.row o4 (by simp) a8
         refine lv rfl rfl (va rfl) ?_
         refine ln (qn (xt (br (qr ?_))))
         exact endQ_ret _ (res_one Try.results13 (rv_tmp rfl)) H
        ·replace H := H.2 f4
         refine xs (xr ?_)
         refine lv rfl rfl (vr rfl rfl rfl) (lv rfl rfl (va rfl) ?_)
         refine ln (qn ?_)
         refine xc (b := a9 == 8) rfl (fun g1 => ?_) (fun g1 => ?_)
         ·replace H := H.1 g1
          obtain ⟨j, f8, f5⟩ := H
          refine xk (fun ρ h' => h1 = h' ∧ Has ρ [(6, (.bool j))]) ?_ ?_
          ·have H := f8; clear f8 f5
           refine hx_draw TyShK.mixed [.pure, .pure, .read, .read, .pure, .pure, .read, .read, .pure, .pure, .pure, .read, .pure, .pure, .pure, .read, .pure, .pure, .pure, .pure] [0, 1, 2, 3, 4, 5, 6, 7, 8, 9, 10, 11, 12, 13, 14, 15, 16, 17, 18, 19] (by kernel_rfl) ?_
           refine pp (i := 0) rfl (wanted_0 rfl) rfl (ptr c0 b9) (fun _ => vm rfl) ?_
           refine pp (i := 1) rfl (wanted_0 rfl) rfl (ptr o 6) (fun _ => vf TyShK.fld33_3 (b := o) (o := 0) rfl) ?_
           refine pr (i := 2) rfl (wanted_0 rfl) rfl (.int .i64 c7) (fun _ he => vl TyShK.agg3 rfl (Ext.cell he (rc a8 rfl))) ?_
           replace H := H o h1 d8 (row_lt a8) d4
           obtain ⟨r, o9, H⟩ := H
           refine pr (i := 3) rfl (wanted_0 rfl) rfl (.int .i64 r) (fun _ he => hv_call TyShK.cb23 (vs := [(ptr c0 b9), (.int .i64 c7)]) rfl (o9 _ he)) ?_
           refine pp (i := 4) rfl (wanted_0 rfl) rfl (ptr b6 b5) (fun _ => vm rfl) ?_
           refine pp (i := 5) rfl (wanted_0 rfl) rfl (ptr o 6) (fun _ => vf TyShK.fld33_3 (b := o) (o := 0) rfl) ?_
           refine pr (i := 6) rfl (wanted_0 rfl) rfl (.int .i64 c7) (fun _ he => vl TyShK.agg3 rfl (Ext.cell he (rc a8 rfl))) ?_
           obtain ⟨d0, n4, H⟩ := H
           refine pr (i := 7) rfl (wanted_0 rfl) rfl (.int .i64 d0) (fun _ he => hv_call TyShK.cb43 (vs := [(ptr b6 b5), (.int .i64 c7)]) rfl (n4 _ he)) ?_
           refine pp (i := 8) rfl (wanted_0 rfl) rfl (.bool (r == d0)) (fun _ => vr rfl rfl rfl) ?_
           refine pp (i := 9) rfl (wanted_0 rfl) rfl (.bool (r == d0)) (fun _ => vm rfl) ?_
           rcases bool_or (r == d0) with b8 | b8
           ·replace H := H.1 b8
            refine pp (i := 10) rfl (wanted_y rfl rfl rfl b8) rfl (ptr c0 b9) (fun _ => vm rfl) ?_
            obtain ⟨d2, n2, H⟩ := H
            refine pr (i := 11) rfl (wanted_y rfl rfl rfl b8) rfl (.int .i64 d2) (fun _ he => hv_call TyShK.cb17 (vs := [(ptr c0 b9)]) rfl (n2 _ he)) ?_
            refine pp (i := 12) rfl (wanted_y rfl rfl rfl b8) rfl (ptr b6 b5) (fun _ => vm rfl) ?_
            refine pp (i := 13) rfl (wanted_y rfl rfl rfl b8) rfl (ptr b6 b5) (fun _ => hv_nil rfl) ?_
            refine pp (i := 14) rfl (wanted_y rfl rfl rfl b8) rfl (ptr b6 (b5 + 1)) (fun _ => vf TyShK.fld80_1 (b := b6) (o := b5) rfl) ?_
            obtain ⟨x, d9, l0, n7, H⟩ := H
            refine pr (i := 15) rfl (wanted_y rfl rfl rfl b8) rfl (.slice x d9 l0) (fun _ he => vl TyShK.agg78 rfl (Ext.cell he n7)) ?_
            refine pp (i := 16) rfl (wanted_y rfl rfl rfl b8) rfl (.int .i64 (d9 : Int)) (fun _ => hv_len (n := d9) TyShK.u78 rfl) ?_
            refine pp (i := 17) rfl (wanted_y rfl rfl rfl b8) rfl (.bool (d2 == (d9 : Int))) (fun _ => vr rfl rfl rfl) ?_
            refine pp (i := 18) rfl (wanted_0 rfl) rfl (.bool (d2 == (d9 : Int))) (fun _ => hv_pick_t rfl b8 rfl) ?_
            refine pp (i := 19) rfl (wanted_0 rfl) rfl (.bool (d2 == (d9 : Int))) (fun _ => va rfl) ?_
            refine hp_nil ?_
            refine qn ?_
            obtain rfl := H
            exact ⟨rfl, (hc rfl hn)⟩
           ·replace H := H.2 b8
            refine pn (i := 10) rfl (wanted_n rfl rfl rfl b8) ?_
            refine pn (i := 11) rfl (wanted_n rfl rfl rfl b8) ?_
            refine pn (i := 12) rfl (wanted_n rfl rfl rfl b8) ?_
            refine pn (i := 13) rfl (wanted_n rfl rfl rfl b8) ?_
            refine pn (i := 14) rfl (wanted_n rfl rfl rfl b8) ?_
            refine pn (i := 15) rfl (wanted_n rfl rfl rfl b8) ?_
            refine pn (i := 16) rfl (wanted_n rfl rfl rfl b8) ?_
            refine pn (i := 17) rfl (wanted_n rfl rfl rfl b8) ?_
            refine pp (i := 18) rfl (wanted_0 rfl) rfl (.bool false) (fun _ => hv_pick_f rfl b8 rfl) ?_
            refine pp (i := 19) rfl (wanted_0 rfl) rfl (.bool false) (fun _ => va rfl) ?_
            refine hp_nil ?_
            refine qn ?_
            obtain rfl := H
            exact ⟨rfl, (hc rfl hn)⟩
          ·have H := f5; clear f8 f5
           rintro ρ _ ⟨rfl, hH⟩
           refine xh _ hH ?_
           refine xt (br (qr ?_))
           replace H := H h1 d4
           exact endQ_ret _ (res_one Try.results13 (rv_tmp rfl)) H
         ·replace H := H.2 g1
          refine xi (bn (qn (xs (xr ?_))))
          refine lv rfl rfl (va rfl) ?_
          refine ln (qn (xt ?_))
          replace H := H h1 d4
          exact endQ_ret _ (res_one Try.results13 (rv_tmp rfl)) H
end Go.Proofs.Ytkecmljalcfhoaa
namespace Go.Proofs.Ytkecmljalcfhoaa
namespace Ix
open Go RH
theorem Aft.ext {W : Nat → Prop} {h0 h h' : Heap} {x m : Nat} {Ls : List (List Ent)} (e : Ext h0 h) (hw : ∀ b, W b → h0.size ≤ b) (a : Aft W h x m Ls h') : Ext h0 h' ∧ ∀ b, grown W h h' b → h0.size ≤ b := by
  refine ⟨((e.fr _).trans a.1 fun _ _ g => g).ext fun b hb g => by have := hw b g; omega, fun b g => ?_⟩
  rcases g with g | g
  · exact hw b g
  · have := e.size; omega
theorem Has.lens {W : Nat → Prop} {h : Heap} {x m : Nat} {Ls : List (List Ent)} (a : Has W h x m Ls) : 1 ≤ Ls.length ∧ Ls.length ≤ 64 := by
  obtain ⟨Ts, I, e⟩ := a
  rw [← e, List.length_map]; exact I.len
theorem put_l {W : Nat → Prop} {h : Heap} {x m : Nat} {Ls : List (List Ent)} (a : Has W h x m Ls) {e : Ent} (hw : e.wf) : HC Try.prog 29 #[.pointer (some ⟨x, 0, none⟩), .agg #[.int .u64 e.h, .int .u64 e.a, .int .u64 e.v, .int .u8 e.k]] h fun r h' =>
    r = v3 (mPut m (str Ls e.h) e).1 ∧ Aft W h x m (Ls.set (e.h % Ls.length) (mPut m (str Ls e.h) e).2) h' := by
  obtain ⟨Ts, I, rfl⟩ := a
  rw [List.length_map]; exact put_i I hw
theorem Has.ext {W : Nat → Prop} {h h' : Heap} {x m : Nat} {Ls : List (List Ent)} (a : Has W h x m Ls) (e : Ext h h') : Has W h' x m Ls := by
  obtain ⟨Ts, I, q⟩ := a
  exact ⟨Ts, I.ext e, q⟩
theorem Has.fr {W : Nat → Prop} {h h' : Heap} {x m : Nat} {Ls : List (List Ent)} (a : Has W h x m Ls) {S : Nat → Prop} (f : Fr S h h') (hn : ∀ b, W b → ¬ S b) : Has W h' x m Ls := by
  obtain ⟨Ts, I, q⟩ := a
  exact ⟨Ts, I.fr f hn, q⟩
theorem HasR.ext {W : Nat → Prop} {h h' : Heap} {x m : Nat} {Ls : List (List Ent)} (a : HasR W h x m Ls) (e : Ext h h') : HasR W h' x m Ls := by
  obtain ⟨ab, ao, ac, Rs, I, q⟩ := a
  exact ⟨ab, ao, ac, Rs, I.ext e, q⟩
theorem HasR.fr {W : Nat → Prop} {h h' : Heap} {x m : Nat} {Ls : List (List Ent)} (a : HasR W h x m Ls) {S : Nat → Prop} (f : Fr S h h') (hn : ∀ b, W b → ¬ S b) : HasR W h' x m Ls := by
  obtain ⟨ab, ao, ac, Rs, I, q⟩ := a
  exact ⟨ab, ao, ac, Rs, I.fr f hn, q⟩
theorem Has.lt {W : Nat → Prop} {h : Heap} {x m : Nat} {Ls : List (List Ent)} (a : Has W h x m Ls) : ∀ b, W b → b < h.size := by
  obtain ⟨Ts, I, _⟩ := a; exact I.lt
theorem HasR.lt {W : Nat → Prop} {h : Heap} {x m : Nat} {Ls : List (List Ent)} (a : HasR W h x m Ls) : ∀ b, W b → b < h.size := by
  obtain ⟨ab, ao, ac, Rs, I, _⟩ := a; exact I.lt
def e1 : Ent := ⟨5, 281474976710656, 3, 0⟩
def e2 : Ent := ⟨5, 562949953421312, 2, 0⟩
theorem awake_c (h : Heap) : HC Try.prog 22 #[] h fun v h' => v = .bool true ∧ Ext h h' := by
  refine f22_sh _ _ ((new_i 2 2 4 h).mono ?_)
  rintro v h1 ⟨x1, hres⟩
  obtain ⟨_, x, rfl, hx⟩ := hres.resolve_right fun g => g.1 (by unfold newOK; omega)
  have hf : ∀ b, fresh h h1 b → h.size ≤ b := fun b g => g.1
  have hx' : Has (fresh h h1) h1 x 4 [[], []] := hx
  refine ⟨_, _, rfl, fun g => by simp at g, fun _ => (put_l hx' (e := e1) (by unfold Ent.wf e1; decide)).mono ?_⟩
  rintro _ h2 ⟨rfl, a2⟩
  obtain ⟨x2, hf2⟩ := a2.ext x1 hf
  refine ⟨_, _, _, _, _, _, rfl, fun h4 x4 => ?_⟩
  have hx4 := a2.2.ext x4
  refine (put_l hx4 (e := e2) (by unfold Ent.wf e2; decide)).mono ?_
  rintro _ h5 ⟨rfl, a5⟩
  obtain ⟨x5, hf5⟩ := a5.ext (x2.trans x4) hf2
  refine ⟨_, _, _, _, _, _, rfl, fun h7 x7 => ?_⟩
  obtain ⟨Ts, I7, hL⟩ := a5.2.ext x7
  have hlen := congrArg List.length hL
  rw [List.length_map] at hlen
  have hlen2 : Ts.length = 2 := hlen
  refine (get_i I7 (v := 5) (by omega)).mono ?_
  rintro _ h8 ⟨rfl, x8⟩
  rw [hL]
  refine ⟨_, _, _, _, _, rfl, true, ⟨fun _ => ⟨fun _ => ⟨fun _ => ⟨fun _ => ⟨fun _ h10 x10 => ⟨1, ?_, fun _ => ⟨1, ?_, rfl⟩, fun g => by simp at g⟩, fun g => ?_⟩, fun g => ?_⟩, fun g => ?_⟩, fun g => ?_⟩, fun g => ?_⟩, fun h10 x10 => ⟨rfl, x5.trans (x7.trans (x8.trans x10))⟩⟩
  · have := stripe_i (I7.ext (x8.trans x10)) 5
    rw [hlen2] at this; exact this
  · have := len_i (I7.ext (x8.trans x10)) 1
    rw [hL] at this; exact this
  · exact absurd g (by decide)
  · exact absurd g (by decide)
  · exact absurd g (by decide)
  · exact absurd g (by decide)
  · exact absurd g (by decide)
def Both (N : Nat) (h : Heap) (x r m : Nat) (Ls : List (List Ent)) : Prop := ∃ W V, Has W h x m Ls ∧ HasR V h r m Ls ∧ (∀ b, W b → ¬ V b) ∧ (∀ b, W b → N ≤ b) ∧ ∀ b, V b → N ≤ b
theorem begin_c (n bits most : Int) (a : Option Addr) (an ac : Nat) (h : Heap) : HC Try.prog 10 #[.agg #[.int .i64 n, .int .i64 bits, .int .i64 most, .slice a an ac]] h fun v h' => Ext h h' ∧
    ((v = .tuple #[.pointer none, .pointer none, .bool true]) ∨ ∃ x r, v = .tuple #[ptr x 0, ptr r 0, .bool true] ∧ Both h.size h' x r most.toNat (List.replicate n.toNat [])) := by
  refine f10_sh _ _ _ _ _ _ _ _ fun sv h1 lo1 lt1 x1 => (new_i n bits most h1).mono ?_
  rintro v h2 ⟨x2, hres⟩
  refine ⟨x2.kp _, ?_⟩
  have fin : ∀ {h3} (_ : Ext h2 h3) {p q : Option Addr} {i j : Int}, i = j → (p.isSome == q.isSome) = true → (∀ h5, Ext h3 h5 → (Ext h h5 ∧ ((Value.tuple #[.pointer p, .pointer q, .bool true] = .tuple #[.pointer none, .pointer none, .bool true]) ∨ ∃ x r, Value.tuple #[.pointer p, .pointer q, .bool true] = .tuple #[ptr x 0, ptr r 0, .bool true] ∧ Both h.size h5 x r most.toNat (List.replicate n.toNat [])))) →
      (∃ A9 : Bool → Heap → Prop, HC Try.prog 22 #[] h3 (fun vv h5 => ∃ r : Bool, vv = (.bool r) ∧ ((r = true → (((i == j) = true → (A9 (p.isSome == q.isSome) h5)) ∧ ((i == j) = false → (A9 false h5)))) ∧ (r = false → (A9 false h5)))) ∧
      (∀ (ok : Bool) (h4 : Heap), A9 ok h4 → (Ext h h4 ∧ ((Value.tuple #[.pointer p, .pointer q, .bool ok] = .tuple #[.pointer none, .pointer none, .bool true]) ∨ ∃ x r, Value.tuple #[.pointer p, .pointer q, .bool ok] = .tuple #[ptr x 0, ptr r 0, .bool true] ∧ Both h.size h4 x r most.toNat (List.replicate n.toNat []))))) := by
    intro h3 x3 p q i j hij hpq hk
    refine ⟨fun ok h5 => ok = true ∧ Ext h3 h5, (awake_c h3).mono ?_, ?_⟩
    · rintro _ h5 ⟨rfl, x5⟩
      exact ⟨true, rfl, fun _ => ⟨fun _ => ⟨hpq, x5⟩, fun g => by simp [hij] at g⟩, fun g => by cases g⟩
    · rintro _ h4 ⟨rfl, x4⟩
      exact hk h4 x4
  rcases hres with ⟨hok, x, rfl, hx⟩ | ⟨hno, rfl⟩
  · refine ⟨_, _, rfl, (new_r n bits most h2).mono ?_⟩
    rintro v h3 ⟨x3, hres⟩
    obtain ⟨_, r, rfl, hr⟩ := hres.resolve_right fun g => g.1 hok
    refine ⟨_, _, rfl, fin x3 rfl rfl fun h5 x5 => ⟨x1.trans (x2.trans (x3.trans x5)), .inr ⟨x, r, rfl, fresh h1 h2, fresh h2 h3, hx.ext (x3.trans x5), hr.ext x5, fun b g1 g2 => ?_, fun b g => ?_, fun b g => ?_⟩⟩⟩
    · have := g1.2; have := g2.1; omega
    · have := g.1; have := x1.size; omega
    · have := g.1; have := x1.size; have := x2.size; omega
  · refine ⟨_, _, rfl, (new_r n bits most h2).mono ?_⟩
    rintro v h3 ⟨x3, hres⟩
    obtain ⟨_, rfl⟩ := hres.resolve_left fun g => hno g.1
    exact ⟨_, _, rfl, fin x3 rfl rfl fun h5 x5 => ⟨x1.trans (x2.trans (x3.trans x5)), .inl rfl⟩⟩
end Ix
end Go.Proofs.Ytkecmljalcfhoaa
namespace Go.Proofs.Ytkecmljalcfhoaa
namespace Ix
open Go RH
def L2 (a b z : Nat) : Prop := z = a ∨ z = b
def rdOf (h : Heap) (b : Nat) : Nat := match hcell h b 0 with | some (.int _ z) => z.toNat | _ => 0
set_option maxHeartbeats 16000000 in
theorem allIs_c {W V : Nat → Prop} {h : Heap} {x r m : Nat} {Ls : List (List Ent)} (hx : Has W h x m Ls) (hr : HasR V h r m Ls) (n stop : Int) :
    HC Try.prog 42 #[ptr x 0, ptr r 0, .int .i64 n, .int .i64 stop] h fun v h' => v = .bool true ∧ Ext h h' := by
  refine f42_sh _ _ _ _ _ _ _ _ fun sb h1 es eh1 nb h2 en eh2 => ?_
  have x1 : Ext h h1 := by rw [eh1]; exact Ext.push _ _
  have rs1 : h1[sb]? = some (.cells #[.int .i64 stop] 3 (0, 0)) := by rw [eh1]; exact push_new es
  have x2 : Ext h1 h2 := by rw [eh2]; exact Ext.push _ _
  have rn2 : h2[nb]? = some (.cells #[.bool false] 4 (0, 0)) := by rw [eh2]; exact push_new en
  clear eh1 eh2
  have hs1 := x1.size
  have hs2 := x2.size
  obtain ⟨ab, ao, ac, Rs, I2, hL⟩ := hr.ext (x1.trans x2)
  refine (entries_r I2 n).mono ?_
  rintro _ h3 ⟨wa, wc, rfl, x3, sw, ww⟩
  rw [hL] at sw ⊢
  refine ⟨_, _, _, rfl, fun wb h4 ew eh4 => ?_⟩
  have x4 : Ext h3 h4 := by rw [eh4]; exact Ext.push _ _
  have rw4 : h4[wb]? = some (.cells #[.slice none 0 0] 47 (0, 0)) := by rw [eh4]; exact push_new ew
  clear eh4
  refine ⟨HW_row rw4 (by simp), ?_⟩
  rintro h5 e5
  have hs3 := x3.size
  have hs4 := x4.size
  have rw5 : h5[wb]? = some (.cells #[.slice wa (ent Ls n).length wc] 47 (0, 0)) := by rw [e5, hset_row rw4]; rfl
  have x35 : Ext h3 h5 := ext_hset e5 x4 (by omega)
  clear e5
  have x5 : Ext h h5 := x1.trans (x2.trans (x3.trans x35))
  obtain ⟨Ts, I5, hT⟩ := hx.ext x5
  refine (all_i I5 n).mono ?_
  rintro _ h6 ⟨x6, tb, a, rfl, lotb, rtb, hopt, _⟩
  rw [hT] at hopt
  generalize ent Ls n = L at *
  have hlen := hopt.len
  refine ⟨_, rfl, fun rb h7 er eh7 => ?_⟩
  have x7 : Ext h6 h7 := by rw [eh7]; exact Ext.push _ _
  have rr7 : h7[rb]? = some (.cells #[.int .i64 0] 3 (0, 0)) := by rw [eh7]; exact push_new er
  clear eh7
  refine ⟨HW_row rr7 (by simp), ?_⟩
  rintro h8 e8
  have rr8 : h8[rb]? = some (.cells #[.int .i64 0] 3 (0, 0)) := by rw [e8, hset_row rr7]; rfl
  have x68 : Ext h6 h8 := ext_hset e8 x7 (by omega)
  clear e8
  -- what was there at h6
  have rs6 := (x2.trans (x3.trans (x35.trans x6))).row rs1
  have rn6 := (x3.trans (x35.trans x6)).row rn2
  have rw6 := x6.row rw5
  have sw6 := sw.ext (x35.trans x6)
  have hsl := row_lt rs1
  have hnl := row_lt rn2
  have hs5 := x35.size
  have hs6 := x6.size
  have hwl := row_lt rw5
  have htl := row_lt rtb
  have x06 := x5.trans x6
  refine ⟨fun b o h9 => ∃ rd : Nat, o = 0 ∧ h9[b]? = some (.cells #[.int .i64 rd] 3 (0, 0)) ∧ rd ≤ 2 ∧ h6.size ≤ b ∧ Ext h6 h9, fun b _ h9 => 2 - rdOf h9 b, ⟨0, rfl, rr8, by omega, by omega, x68⟩, ?_⟩
  rintro rb9 _ h9 ⟨rd, rfl, rr9, hrd, lrb, x9⟩
  have hrd9 : rdOf h9 rb9 = rd := by unfold rdOf; rw [hcell_row rr9]; rfl
  have hrl := row_lt rr9
  have hs9 := x9.size
  refine ⟨_, by rw [hcell_row rr9]; rfl, fun hlt => fun ib h10 ei eh10 => ?_, fun _ => ?_⟩
  · have hrd2 : rd < 2 := by have := of_decide_eq_true hlt; omega
    have x10 : Ext h9 h10 := by rw [eh10]; exact Ext.push _ _
    have ri10 : h10[ib]? = some (.cells #[.int .i64 0] 3 (0, 0)) := by rw [eh10]; exact push_new ei
    clear eh10
    refine ⟨HW_row ri10 (by simp), ?_⟩
    rintro h11 e11
    have ri11 : h11[ib]? = some (.cells #[.int .i64 0] 3 (0, 0)) := by rw [e11, hset_row ri10]; rfl
    have x911 : Ext h9 h11 := ext_hset e11 x10 (by omega)
    clear e11
    have hs11 := x911.size
    have hil := row_lt ri11
    have x611 := x9.trans x911
    -- what a heap keeps that differs from h11 in the count and the loop alone
    let A31 : Heap → Prop := fun h12 => ∃ cnt : Nat, h12[ib]? = some (.cells #[.int .i64 cnt] 3 (0, 0)) ∧ (cnt = L.length ∨ (rd = 0 ∧ (cnt : Int) = stop)) ∧ Ext h9 h12
    refine ⟨A31, fun Lp l h13 y stay el x13 z13 L13 hyld => ?_, ?_⟩
    · have hs13 := x13.size
      have opt13 := hopt.ext (x6.trans (x611.trans x13))
      have ri13 := x13.row ri11
      have x913 := x911.trans x13
      have x613 := x9.trans x913
      refine go_over opt13 (by rw [hcell_row (x613.row rtb)]; rfl) fun h14 x14 => ?_
      have hs14 := x14.size
      let Keep : Nat → Heap → Prop := fun k h => h[ib]? = some (.cells #[.int .i64 k] 3 (0, 0)) ∧ Fr (L2 ib l) h13 h
      have keepE : ∀ {k h'}, Keep k h' → Ext h9 h' := fun {k h'} g => ((x913.fr _).trans g.2 fun _ _ g => g).ext fun b hb g => by rcases g with g | g <;> omega
      have fin : ∀ (k : Nat) (h15 : Heap) (st : LoopState) (pend : Option Code), (pend = none ∨ pend = some (.exit 2)) → st ≠ .busy → (k = L.length ∨ (rd = 0 ∧ (k : Int) = stop)) → Keep k h15 → Lp st pend h15 →
          ∃ (st : LoopState) (pend : Option Code), Lp st pend h15 ∧ st ≠ .busy ∧ ∀ h16, Only l h15 h16 → Lp .exhausted pend h16 →
          ((pend = none ∧ (A31 h16)) ∨ (pend = some .ret ∧ (∃ res : Bool, hcell h16 nb 0 = some (.bool res) ∧ (∀ h25, Shut' (Array.size h) h16 h25 → (Value.bool res = .bool true ∧ Ext h h25)))) ∨ (pend = some (.exit 2) ∧ (A31 h16))) := by
        intro k h15 st pend hp hst hk kp lp
        refine ⟨st, pend, lp, hst, fun h16 o16 _ => ?_⟩
        have kp' : Keep k h16 := ⟨o16.fr.row kp.1 (by omega), kp.2.trans o16.fr fun _ _ g => .inr g⟩
        rcases hp with rfl | rfl
        · exact .inl ⟨rfl, k, kp'.1, hk, keepE kp'⟩
        · exact .inr (.inr ⟨rfl, k, kp'.1, hk, keepE kp'⟩)
      refine ⟨fun k h15 => Lp .ready none h15 ∧ Keep k h15, ⟨stay _ _ _ _ L13 (x14.block l (by omega)), x14.row ri13, x14.fr _⟩, ?_, fun h15 _ j15 => fin _ h15 _ none (.inl rfl) (by simp) (.inl rfl) j15.2 j15.1⟩
      rintro k hk h15 f15 ⟨lp15, kp15⟩ h17 x17
      have hs15 := f15.size
      have hs17 := x17.size
      have lp17 := stay _ _ _ _ lp15 (x17.block l (by omega))
      refine hyld _ _ _ _ h17 _ lp17 fun eb h18 ee e18 => ?_
      have r18 : h18[eb]? = some (.cells #[.int .u64 0, .int .u64 0, .int .u64 0, .int .u8 0] 31 (0, 0)) := by rw [e18]; exact push_new ee
      have x18 : Ext h17 h18 := by rw [e18]; exact Ext.push _ _
      refine ⟨HWs_row r18 (by simp), ?_⟩
      rintro h19 e19
      have r19 : h19[eb]? = some (.cells #[.int .u64 L[k].h, .int .u64 L[k].a, .int .u64 L[k].v, .int .u8 L[k].k] 31 (0, 0)) := by rw [e19, hsets_row _ r18]; rfl
      have x19 : Ext h17 h19 := ext_hsets e19 x18 (by omega)
      clear e19 e18
      have hs19 := x19.size
      refine ⟨stay _ _ _ _ lp17 (x19.block l (by omega)), fun h20 o20 lp20 => ?_⟩
      have hs20 := o20.size
      have kp20 : Keep k h20 := ⟨o20.fr.row ((x17.trans x19).row kp15.1) (by omega), (kp15.2.trans ((x17.trans x19).fr (fun _ => False)) fun _ _ g => g.elim).trans o20.fr fun _ _ g => .inr g⟩
      have r20 := o20.fr.row r19 (by omega)
      have f20 : Fr (Yw h13 h14) h17 h20 := (x19.fr _).trans o20.fr fun i hi g => .inl (by omega)
      have x620 := x9.trans (keepE kp20)
      obtain ⟨b, o, ea, d⟩ := (sw6.ext x620).at (List.getElem?_eq_getElem hk)
      refine ⟨false, ⟨(k : Int), by rw [hcell_row kp20.1]; rfl, wa, L.length, wc, by rw [hcell_row (x620.row rw6)]; rfl, fun g => ?_, fun _ => ⟨_, _, _, _, by rw [hcell_row r20]; rfl, by rw [hcell_row r20]; rfl, by rw [hcell_row r20]; rfl, by rw [hcell_row r20]; rfl, b, o, ea, by omega, by omega, _, _, _, _, d.1, d.2.1, d.2.2.1, d.2.2.2.1, by simp⟩⟩, fun g => (by cases g), fun _ => ?_⟩
      · have := of_decide_eq_true g; omega
      refine ⟨(k : Int), by rw [hcell_row kp20.1]; rfl, HW_row kp20.1 (by simp), ?_⟩
      rintro h22 e22
      have f22 := fr_hset_of e22
      have r22 : h22[ib]? = some (.cells #[.int .i64 ((k + 1 : Nat) : Int)] 3 (0, 0)) := by rw [e22, hset_row kp20.1, wadd k (by omega)]; rfl
      clear e22
      have hs22 := f22.size
      have kp22 : Keep (k + 1) h22 := ⟨r22, kp20.2.trans f22 fun _ _ g => .inl g⟩
      have lp22 := stay _ _ _ _ lp20 (f22.block l (by omega) (by omega))
      have f1722 : Fr (Yw h13 h14) h17 h22 := f20.trans f22 fun i hi g => .inl (by omega)
      have x922 := keepE kp22
      refine ⟨decide (rd = 0 ∧ ((k + 1 : Nat) : Int) = stop), ⟨(rd : Int), by rw [hcell_row (x922.row rr9)]; rfl, fun g => ⟨((k + 1 : Nat) : Int), by rw [hcell_row r22]; rfl, stop, by rw [hcell_row ((x9.trans x922).row rs6)]; rfl, ?_⟩, fun g => ?_⟩, fun g => ?_, fun g => ?_⟩
      · have h0 : rd = 0 := by have := eq_of_beq g; omega
        rw [Bool.eq_iff_iff]
        simp [h0]
      · have h0 : rd ≠ 0 := fun q => by rw [q] at g; simp at g
        exact decide_eq_false fun q => h0 q.1
      · have hst := of_decide_eq_true g
        exact ⟨lp22, fun h23 o23 lp23 => ⟨f1722.trans o23.fr fun i hi g => .inl (by omega), false, rfl, fun _ => fin (k + 1) h23 _ _ (.inr rfl) (by simp) (.inr hst) ⟨o23.fr.row r22 (by omega), kp22.2.trans o23.fr fun _ _ g => .inr g⟩ lp23, fun g => by cases g⟩⟩
      · exact ⟨lp22, fun h24 o24 lp24 => ⟨f1722.trans o24.fr fun i hi g => .inl (by omega), true, rfl, (fun g => by cases g), fun _ => ⟨lp24, o24.fr.row r22 (by omega), kp22.2.trans o24.fr fun _ _ g => .inr g⟩⟩⟩
    · rintro h12 ⟨cnt, ri12, hc, x12⟩
      have x612 := x9.trans x12
      have hs12 := x12.size
      refine ⟨false, ⟨(cnt : Int), by rw [hcell_row ri12]; rfl, wa, L.length, wc, by rw [hcell_row (x612.row rw6)]; rfl, fun g => ⟨(rd : Int), by rw [hcell_row (x12.row rr9)]; rfl, fun g2 => ?_, fun g2 => ⟨stop, by rw [hcell_row (x612.row rs6)]; rfl, ?_⟩⟩, fun _ => rfl⟩, fun g => (by cases g), fun _ => ⟨(rd : Int), by rw [hcell_row (x12.row rr9)]; rfl, fun rb2 h28 er2 eh28 => ?_⟩⟩
      · rcases hc with q | ⟨q, _⟩
        · rw [q] at g; simp at g
        · rw [q] at g2; simp at g2
      · rcases hc with q | ⟨_, q⟩
        · rw [q] at g; simp at g
        · rw [q]; simp
      · have x28 : Ext h12 h28 := by rw [eh28]; exact Ext.push _ _
        have r28 : h28[rb2]? = some (.cells #[.int .i64 0] 3 (0, 0)) := by rw [eh28]; exact push_new er2
        clear eh28
        refine ⟨HW_row r28 (by simp), ?_⟩
        rintro h29 e29
        have r29 : h29[rb2]? = some (.cells #[.int .i64 rd] 3 (0, 0)) := by rw [e29, hset_row r28]; rfl
        have x29 : Ext h12 h29 := ext_hset e29 x28 (by omega)
        clear e29
        refine ⟨(rd : Int), by rw [hcell_row r29]; rfl, HW_row r29 (by simp), ?_⟩
        rintro h30 e30
        have r30 : h30[rb2]? = some (.cells #[.int .i64 ((rd + 1 : Nat) : Int)] 3 (0, 0)) := by rw [e30, hset_row r29, wadd rd (by omega)]; rfl
        have x30 : Ext h12 h30 := ext_hset e30 x29 (by omega)
        clear e30
        have hrd30 : rdOf h30 rb2 = rd + 1 := by unfold rdOf; rw [hcell_row r30]; rfl
        refine ⟨⟨rd + 1, rfl, r30, by omega, by omega, x612.trans x30⟩, ?_⟩
        show 2 - rdOf h30 rb2 < 2 - rdOf h9 rb9
        rw [hrd30, hrd9]; omega
  · have rn9 := x9.row rn6
    refine ⟨HW_row rn9 (by simp), ?_⟩
    rintro h31 e31
    have r31 : h31[nb]? = some (.cells #[.bool true] 4 (0, 0)) := by rw [e31, hset_row rn9]; rfl
    have x31 : Ext h h31 := ext_hset e31 (x06.trans x9) (by omega)
    exact ⟨true, by rw [hcell_row r31]; rfl, fun h32 s32 => ⟨rfl, ⟨by rw [s32.size]; exact x31.size, fun b hb => (s32.low hb).trans (x31.block b hb)⟩⟩⟩
end Ix
end Go.Proofs.Ytkecmljalcfhoaa
namespace Go.Proofs.Ytkecmljalcfhoaa
namespace Ix
open Go RH
section
variable {W V : Nat → Prop} {h : Heap} {x r m : Nat} {Ls : List (List Ent)}
theorem get_l (a : Has W h x m Ls) {v : Nat} (hv : v < 18446744073709551616) : HC Try.prog 11 #[.pointer (some ⟨x, 0, none⟩), .int .u64 v] h fun z h' => z = v2 (mGet (str Ls v) v) ∧ Ext h h' := by
  obtain ⟨Ts, I, rfl⟩ := a; exact get_i I hv
theorem remove_l (a : Has W h x m Ls) {v : Nat} (hv : v < 18446744073709551616) : HC Try.prog 30 #[.pointer (some ⟨x, 0, none⟩), .int .u64 v] h fun z h' => z = v2 (mDel (str Ls v) v).1 ∧ Aft W h x m (Ls.set (v % Ls.length) (mDel (str Ls v) v).2) h' := by
  obtain ⟨Ts, I, rfl⟩ := a; rw [List.length_map]; exact remove_i I hv
theorem hit_l (a : Has W h x m Ls) {v : Nat} (hv : v < 18446744073709551616) : HC Try.prog 33 #[.pointer (some ⟨x, 0, none⟩), .int .u64 v] h fun z h' => z = .bool (mHit (str Ls v) v).1 ∧ Aft W h x m (Ls.set (v % Ls.length) (mHit (str Ls v) v).2) h' := by
  obtain ⟨Ts, I, rfl⟩ := a; rw [List.length_map]; exact hit_i I hv
theorem removeIf_l (a : Has W h x m Ls) {v at_ : Nat} (hv : v < 18446744073709551616) : HC Try.prog 31 #[.pointer (some ⟨x, 0, none⟩), .int .u64 v, .int .u64 at_] h fun z h' => z = .bool (mDelIf (str Ls v) v at_).1 ∧ Aft W h x m (Ls.set (v % Ls.length) (mDelIf (str Ls v) v at_).2) h' := by
  obtain ⟨Ts, I, rfl⟩ := a; rw [List.length_map]; exact removeIf_i I hv
theorem move_l (a : Has W h x m Ls) {v fr to : Nat} (hv : v < 18446744073709551616) (hto : to < 18446744073709551616) : HC Try.prog 32 #[.pointer (some ⟨x, 0, none⟩), .int .u64 v, .int .u64 fr, .int .u64 to] h fun z h' => z = .bool (mMove (str Ls v) v fr to).1 ∧ Aft W h x m (Ls.set (v % Ls.length) (mMove (str Ls v) v fr to).2) h' := by
  obtain ⟨Ts, I, rfl⟩ := a; rw [List.length_map]; exact move_i I hv hto
def purgeL (Ls : List (List Ent)) (n q : Int) : List (List Ent) := if 0 ≤ n ∧ n < Ls.length then Ls.set n.toNat (mPurge (ent Ls n) q).2 else Ls
theorem purge_l (a : Has W h x m Ls) (n q : Int) (hq : q ≤ 9223372036854775807) : HC Try.prog 19 #[.pointer (some ⟨x, 0, none⟩), .int .i64 n, .int .i64 q] h fun z h' => z = .int .i64 ((mPurge (ent Ls n) q).1 : Int) ∧ Aft W h x m (purgeL Ls n q) h' := by
  obtain ⟨Ts, I, rfl⟩ := a
  unfold purgeL
  rw [List.length_map]; exact purge_i I n q hq
theorem stripe_l (a : Has W h x m Ls) (v : Nat) : HC Try.prog 24 #[.pointer (some ⟨x, 0, none⟩), .int .u64 v] h fun z h' => z = .int .i64 ((v % Ls.length : Nat) : Int) ∧ h' = h := by
  obtain ⟨Ts, I, rfl⟩ := a
  rw [List.length_map]; exact stripe_i I v
theorem stripes_l (a : Has W h x m Ls) : HC Try.prog 17 #[.pointer (some ⟨x, 0, none⟩)] h fun z h' => z = .int .i64 (Ls.length : Int) ∧ h' = h := by
  obtain ⟨Ts, I, rfl⟩ := a
  rw [List.length_map]; exact stripes_i I
theorem len_l (a : Has W h x m Ls) (n : Int) : HC Try.prog 23 #[.pointer (some ⟨x, 0, none⟩), .int .i64 n] h fun z h' => z = .int .i64 ((ent Ls n).length : Int) ∧ h' = h := by
  obtain ⟨Ts, I, rfl⟩ := a; exact len_i I n
theorem put_m (a : HasR V h r m Ls) {e : Ent} (hw : e.wf) : HC Try.prog 34 #[ptr r 0, .agg #[.int .u64 e.h, .int .u64 e.a, .int .u64 e.v, .int .u8 e.k]] h fun z h' => z = v3 (mPut m (str Ls e.h) e).1 ∧ AftR V h r m (Ls.set (e.h % Ls.length) (mPut m (str Ls e.h) e).2) h' := by
  obtain ⟨ab, ao, ac, Rs, I, rfl⟩ := a; rw [List.length_map]; exact put_r I hw
theorem get_m (a : HasR V h r m Ls) (v : Nat) : HC Try.prog 35 #[ptr r 0, .int .u64 v] h fun z h' => z = v2 (mGet (str Ls v) v) ∧ Ext h h' := by
  obtain ⟨ab, ao, ac, Rs, I, rfl⟩ := a; exact get_r I v
theorem remove_m (a : HasR V h r m Ls) (v : Nat) : HC Try.prog 37 #[ptr r 0, .int .u64 v] h fun z h' => z = v2 (mDel (str Ls v) v).1 ∧ AftR V h r m (Ls.set (v % Ls.length) (mDel (str Ls v) v).2) h' := by
  obtain ⟨ab, ao, ac, Rs, I, rfl⟩ := a; rw [List.length_map]; exact remove_r I v
theorem hit_m (a : HasR V h r m Ls) (v : Nat) : HC Try.prog 40 #[ptr r 0, .int .u64 v] h fun z h' => z = .bool (mHit (str Ls v) v).1 ∧ AftR V h r m (Ls.set (v % Ls.length) (mHit (str Ls v) v).2) h' := by
  obtain ⟨ab, ao, ac, Rs, I, rfl⟩ := a; rw [List.length_map]; exact hit_r I v
theorem removeIf_m (a : HasR V h r m Ls) (v at_ : Nat) : HC Try.prog 38 #[ptr r 0, .int .u64 v, .int .u64 at_] h fun z h' => z = .bool (mDelIf (str Ls v) v at_).1 ∧ AftR V h r m (Ls.set (v % Ls.length) (mDelIf (str Ls v) v at_).2) h' := by
  obtain ⟨ab, ao, ac, Rs, I, rfl⟩ := a; rw [List.length_map]; exact removeIf_r I v at_
theorem move_m (a : HasR V h r m Ls) {v fr to : Nat} (hto : to < 18446744073709551616) : HC Try.prog 39 #[ptr r 0, .int .u64 v, .int .u64 fr, .int .u64 to] h fun z h' => z = .bool (mMove (str Ls v) v fr to).1 ∧ AftR V h r m (Ls.set (v % Ls.length) (mMove (str Ls v) v fr to).2) h' := by
  obtain ⟨ab, ao, ac, Rs, I, rfl⟩ := a; rw [List.length_map]; exact move_r I hto
theorem purge_m (a : HasR V h r m Ls) (n q : Int) (hq : q ≤ 9223372036854775807) : HC Try.prog 41 #[ptr r 0, .int .i64 n, .int .i64 q] h fun z h' => z = .int .i64 ((mPurge (ent Ls n) q).1 : Int) ∧ AftR V h r m (purgeL Ls n q) h' := by
  obtain ⟨ab, ao, ac, Rs, I, rfl⟩ := a
  unfold purgeL
  rw [List.length_map]; exact purge_r I n q hq
theorem stripe_m (a : HasR V h r m Ls) (v : Nat) : HC Try.prog 36 #[ptr r 0, .int .u64 v] h fun z h' => z = .int .i64 ((v % Ls.length : Nat) : Int) ∧ h' = h := by
  obtain ⟨ab, ao, ac, Rs, I, rfl⟩ := a
  rw [List.length_map]; exact stripe_r I v
theorem len_m (a : HasR V h r m Ls) (n : Int) : HC Try.prog 43 #[ptr r 0, .int .i64 n] h fun z h' => z = .int .i64 ((ent Ls n).length : Int) ∧ h' = h := by
  obtain ⟨ab, ao, ac, Rs, I, rfl⟩ := a; exact len_r I n
theorem c1_m (a : HasR V h r m Ls) : ∃ aa c, hcell h r 1 = some (.slice aa Ls.length c) := by
  obtain ⟨ab, ao, ac, Rs, I, rfl⟩ := a
  exact ⟨_, _, by rw [List.length_map]; exact I.c1⟩
def BothU (U : Nat → Prop) (h : Heap) (x r m : Nat) (Ls : List (List Ent)) : Prop := ∃ W V, Has W h x m Ls ∧ HasR V h r m Ls ∧ (∀ b, W b → ¬ V b) ∧ (∀ b, W b → U b) ∧ ∀ b, V b → U b
def AftU (U : Nat → Prop) (h : Heap) (x r m : Nat) (Ls : List (List Ent)) (h' : Heap) : Prop := BothU (grown U h h') h' x r m Ls ∧ Fr U h h'
variable {U : Nat → Prop}
theorem bothU_step (hd : ∀ b, W b → ¬ V b) (hw : ∀ b, W b → U b) (hv : ∀ b, V b → U b) (lw : ∀ b, W b → b < h.size) (lv : ∀ b, V b → b < h.size) {h1 h2 h4 h5 h7 : Heap} (e1 : Ext h h1) (a2 : Aft W h1 x m Ls h2) (e4 : Ext h2 h4) (a5 : AftR V h4 r m Ls h5) (e7 : Ext h5 h7) : AftU U h x r m Ls h7 := by
  have s1 := e1.size
  have s2 := a2.1.size
  have s4 := e4.size
  have s5 := a5.1.size
  have s7 := e7.size
  refine ⟨⟨grown W h1 h2, grown V h4 h5, ((a2.2.ext e4).fr a5.1 fun b g q => ?_).ext e7, a5.2.ext e7, fun b g q => ?_, fun b g => ?_, fun b g => ?_⟩, ?_⟩
  · rcases g with g | g
    · exact hd b g q
    · have := lv b q; omega
  · rcases g with g | g <;> rcases q with q | q
    · exact hd b g q
    · have := lw b g; omega
    · have := lv b q; omega
    · omega
  · rcases g with g | g
    · exact .inl (hw b g)
    · exact .inr (by omega)
  · rcases g with g | g
    · exact .inl (hv b g)
    · exact .inr (by omega)
  · exact ((((e1.fr _).trans a2.1 fun b _ g => hw b g).trans (e4.fr (fun _ => False)) fun _ _ g => g.elim).trans a5.1 fun b _ g => hv b g).trans (e7.fr (fun _ => False)) fun _ _ g => g.elim
theorem bothU_ext (b : BothU U h x r m Ls) {h' : Heap} (e : Ext h h') : AftU U h x r m Ls h' := by
  obtain ⟨W, V, k1, k2, k3, k4, k5⟩ := b
  exact ⟨⟨W, V, k1.ext e, k2.ext e, k3, fun b g => .inl (k4 b g), fun b g => .inl (k5 b g)⟩, e.fr _⟩
theorem BothU.mono (b : BothU U h x r m Ls) {U' : Nat → Prop} (hu : ∀ b, U b → U' b) : BothU U' h x r m Ls := by
  obtain ⟨W, V, k1, k2, k3, k4, k5⟩ := b
  exact ⟨W, V, k1, k2, k3, fun b g => hu b (k4 b g), fun b g => hu b (k5 b g)⟩
theorem BothU.ext (b : BothU U h x r m Ls) {h' : Heap} (e : Ext h h') : BothU U h' x r m Ls := by
  obtain ⟨W, V, k1, k2, k3, k4, k5⟩ := b
  exact ⟨W, V, k1.ext e, k2.ext e, k3, k4, k5⟩
theorem BothU.fr (b : BothU U h x r m Ls) {h' : Heap} {S : Nat → Prop} (f : Fr S h h') (hn : ∀ b, U b → ¬ S b) : BothU U h' x r m Ls := by
  obtain ⟨W, V, k1, k2, k3, k4, k5⟩ := b
  exact ⟨W, V, k1.fr f fun b g => hn b (k4 b g), k2.fr f fun b g => hn b (k5 b g), k3, k4, k5⟩
def Aft2 (N : Nat) (h : Heap) (x r m : Nat) (Ls : List (List Ent)) (h' : Heap) : Prop := Both N h' x r m Ls ∧ Fr (fun b => N ≤ b) h h'
variable {N : Nat}
theorem both_ext (b : Both N h x r m Ls) {h' : Heap} (e : Ext h h') : Aft2 N h x r m Ls h' := by
  obtain ⟨W, V, k1, k2, k3⟩ := b
  exact ⟨⟨W, V, k1.ext e, k2.ext e, k3⟩, e.fr _⟩
theorem hasR_over (hr : HasR V h r m Ls) (hd : ∀ b, W b → ¬ V b) {h1 h2 : Heap} (e1 : Ext h h1) (f : Fr W h1 h2) : HasR V h2 r m Ls := (hr.ext e1).fr f fun b g q => hd b q g
end
end Ix
end Go.Proofs.Ytkecmljalcfhoaa
namespace Go.Proofs.Ytkecmljalcfhoaa
namespace Ix
open Go RH
theorem range_all {Lp : LoopState → Option Code → Heap → Prop} {l tb : Nat} {h13 h14 : Heap} {y : Value} {a : Option Addr} {L : List Ent} {OUT : Option Code → Heap → Prop}
    (stay : ∀ s p h h', Lp s p h → h'[l]? = h[l]? → Lp s p h') (el : l = h13.size + 1) (x14 : Ext h13 h14) (z14 : h14.size = h13.size + 2) (L14 : Lp .ready none h14)
    (opt : TOpt h14 a L) (hc : hcell h14 tb 0 = some (.pointer a)) (J : (Nat → Prop) → Nat → Heap → Prop)
    (j0 : ∀ h3, Ext h14 h3 → J (fun b => b = l ∨ (h14.size ≤ b ∧ b < h3.size)) 0 h3) (jst : ∀ Z k h h', Z l → J Z k h → Fr (fun b => b = l) h h' → J Z k h')
    (step : ∀ Z k (hk : k < L.length) h15 (K : Value → Heap → Prop), Z l → (∀ b, Z b → b < h15.size) → Lp .ready none h15 → J Z k h15 → (∀ h', J Z (k + 1) h' → Lp .ready none h' → Fr (fun b => ¬ Z b ∨ b = l) h15 h' → K (.bool true) h') →
      HCV Try.prog y [.agg #[.int .u64 L[k].h, .int .u64 L[k].a, .int .u64 L[k].v, .int .u8 L[k].k]] h15 K)
    (fin : ∀ Z h, h14.size ≤ h.size → J Z L.length h → OUT none h) :
    HCF Try.prog (.func (.func 55) #[] #[ptr tb 0]) [y] h14 (fun _ h16 => ∃ (st : LoopState) (pend : Option Code), Lp st pend h16 ∧ st ≠ .busy ∧ ∀ h17, Only l h16 h17 → Lp .exhausted pend h17 → OUT pend h17) := by
  refine go_over opt hc fun h3 x3 => ?_
  have s3 := x3.size
  refine ⟨fun k h => Lp .ready none h ∧ J (fun b => b = l ∨ (h14.size ≤ b ∧ b < h3.size)) k h, ⟨stay _ _ _ _ L14 (x3.block l (by omega)), j0 h3 x3⟩, ?_, ?_⟩
  · rintro k hk h4 f4 ⟨lp, jk⟩ h6 x6
    have s4 := f4.size
    have s6 := x6.size
    refine step _ k hk h6 _ (.inl rfl) (fun b g => by rcases g with g | g <;> omega) (stay _ _ _ _ lp (x6.block l (by omega))) (jst _ _ _ _ (.inl rfl) jk (x6.fr _)) fun h' j' lp' f' => ?_
    refine ⟨f'.mono fun b _ g => ?_, true, rfl, fun g => (by cases g), fun _ => ⟨lp', j'⟩⟩
    by_cases hb : b < h14.size
    · exact .inl hb
    · refine .inr (Nat.le_of_not_lt fun q => ?_)
      rcases g with g | g
      · exact g (.inr ⟨by omega, q⟩)
      · omega
  · rintro h4 f4 ⟨lp, jk⟩
    have s4 := f4.size
    exact ⟨.ready, none, lp, by simp, fun h17 o17 _ => fin _ h17 (by have := o17.size; omega) (jst _ _ _ _ (.inl rfl) jk o17.fr)⟩
theorem Has.small {W : Nat → Prop} {h : Heap} {x m : Nat} {Ls : List (List Ent)} (a : Has W h x m Ls) : ∀ L ∈ Ls, L.length ≤ 65536 := by
  obtain ⟨Ts, I, rfl⟩ := a
  intro L hL
  obtain ⟨t, ht, rfl⟩ := List.mem_map.1 hL
  obtain ⟨ok, rel⟩ := I.ok t ht
  exact TOpt.len (.inr ⟨t.p, t.q, t.B, m, t.s, rfl, ok, rel⟩)
theorem shut_ext {h h5 h6 : Heap} (x : Ext h h5) (s : Shut' h.size h5 h6) : Ext h h6 := ⟨by rw [s.size]; exact x.size, fun b hb => (s.low hb).trans (x.block b hb)⟩
end Ix
end Go.Proofs.Ytkecmljalcfhoaa
namespace Go.Proofs.Ytkecmljalcfhoaa
open Go Go.ChangeShapes Go.WideShapes Go.Deep
section
variable {H : Type} {enc : TypeId × Value → H} {W : World} {P : Program}
theorem hcell_of {a : Addr} {v : Value} (h : W.cell? a = some v) : a.spot = none ∧ hcell W.heap a.block a.off = some v := by
  unfold World.cell? at h
  unfold hcell
  split at h
  · rename_i hb
    rw [hb]
    split at h
    · cases h
    · rename_i hs
      exact ⟨by simpa using hs, h⟩
  · cases h
theorem add_spot (a : Addr) (n : Nat) (h : a.spot = none) : (a.add n).spot = none ∧ (a.add n).block = a.block ∧ (a.add n).off = a.off + n := by
  unfold Addr.add
  by_cases hn : n = 0
  · subst hn; exact ⟨h, rfl, rfl⟩
  · rw [if_neg hn]; exact ⟨rfl, rfl, rfl⟩
theorem open_list {α : Type} [Inhabited α] (E : Elt α) {e t : TypeId} (ht : P.underlying t = some (.slice e)) (hc : P.cellsOf e = E.k) (hk : 0 < E.k) (good : α → DataW H → Prop)
    (each : ∀ fuel cs (x : DataW H × List MemPlace), DataW.trod enc P W 0 (fun _ => true) true fuel e cs = some x → ∃ y : α, cs = E.enc y ∧ good y x.1)
    {fuel : Nat} {a0 : Option Addr} {len cap : Nat} {x : DataW H × List MemPlace} (h : DataW.trod enc P W 0 (fun _ => true) true fuel t [.slice a0 len cap] = some x) :
    len ≤ cap ∧ cap ≤ maxLen ∧ ∃ L : List α, L.length = len ∧ Sl E W.heap a0 cap L ∧ (len = 0 ∨ ∃ es sp, x.1 = .slice es sp ∧ es.length = len ∧ ∀ (i : Nat) y z, L[i]? = some y → es[i]? = some z → good y z) := by
  rcases open_slice ht h with ⟨hcs, _⟩ | ⟨a, len', cap', m, n, D, Pl, hcs, _, hl, hm, hmm, hx, hx'⟩
  · simp at hcs
    obtain ⟨rfl, rfl, rfl⟩ := hcs
    exact ⟨Nat.le_refl _, Nat.zero_le _, [], rfl, Sl.nil _ _, .inl rfl⟩
  · simp at hcs
    obtain ⟨rfl, rfl, rfl⟩ := hcs
    have hmc : m = cap := by simpa using hmm
    subst hmc
    have each' : ∀ i, ∃ q : α, i < m → good q (D i) ∧ ∀ j u, (E.enc q)[j]? = some u → W.cell? (a.add (i * E.k + j)) = some u := by
      intro i
      by_cases hi : i < m
      · obtain ⟨cs', h1, h2⟩ := hx' i hi
        obtain ⟨y, rfl, hg⟩ := each _ _ _ h2
        refine ⟨y, fun _ => ⟨hg, fun j u hj => ?_⟩⟩
        rw [hc] at h1
        obtain ⟨_, _, hcell⟩ := World.cells?_some h1
        have hjk : j < E.k := by have := (List.getElem?_eq_some_iff.1 hj).1; rw [E.len] at this; exact this
        have := hcell j hjk
        rw [Go.Deep.add_add] at this
        rw [this]; exact hj
      · exact ⟨default, fun h => absurd h hi⟩
    refine ⟨hl, hm, (List.range len).map fun i => Classical.choose (each' i), by simp, ⟨by simpa using hl, ?_⟩, .inr ⟨_, _, by rw [hx], by simp, fun i y z hy hz => ?_⟩⟩
    · rcases Nat.eq_zero_or_pos m with h0 | hpos
      · exact .inl h0
      · right
        have all := fun i => Classical.choose_spec (each' i)
        have sp : a.spot = none := by
          have h0 : 0 < (E.enc (Classical.choose (each' 0))).length := by rw [E.len]; exact hk
          have := (all 0 hpos).2 0 _ (List.getElem?_eq_getElem h0)
          have h1 := (hcell_of this).1
          simpa [Addr.add] using h1
        refine ⟨a.block, a.off, by rw [← sp], fun i x hx => HCells.mk fun j v hj => ?_⟩
        rw [List.getElem?_map] at hx
        cases hr : (List.range len)[i]? with
        | none => rw [hr] at hx; cases hx
        | some i' =>
          rw [hr] at hx
          simp only [Option.map_some, Option.some.injEq] at hx
          obtain ⟨hi, he⟩ := List.getElem?_eq_some_iff.1 hr
          have hi' : i' = i := by simpa using he.symm
          subst hi'
          subst hx
          have hil : i' < len := by simpa using hi
          have h1 := (hcell_of ((all i' (by omega)).2 j v hj)).2
          rw [(add_spot a _ sp).2.1, (add_spot a _ sp).2.2, ← Nat.add_assoc] at h1
          exact h1
    · rw [List.getElem?_map] at hy hz
      cases hr : (List.range len)[i]? with
      | none => rw [hr] at hy; cases hy
      | some i' =>
        rw [hr] at hy hz
        simp only [Option.map_some, Option.some.injEq] at hy hz
        obtain ⟨hi, he⟩ := List.getElem?_eq_some_iff.1 hr
        have hi' : i' = i := by simpa using he.symm
        subst hi'
        subst hy; subst hz
        have hil : i' < len := by simpa using hi
        exact ((Classical.choose_spec (each' i')) (by omega)).1
theorem below_of {w w' : World} (hs : Sim w w') (he : Ext w.heap w'.heap) : RowKit.Below w.heap.size w w' := ⟨hs.os, hs.tape, hs.output, he.size, fun k hk => he.block k hk⟩
end
end Go.Proofs.Ytkecmljalcfhoaa
namespace Go.Proofs.Ytkecmljalcfhoaa
namespace Ix
open Go RH
structure En where
  h : Int
  a : Int
  v : Int
  k : Int
structure Op where
  kind : Int
  entry : En
  at_ : Int
  n : Int
  m : Int
instance : Inhabited En := ⟨⟨0, 0, 0, 0⟩⟩
instance : Inhabited Op := ⟨⟨0, default, 0, 0, 0⟩⟩
def eEn : Elt En := ⟨4, fun e => [.int .u64 e.h, .int .u64 e.a, .int .u64 e.v, .int .u8 e.k], fun _ => rfl, fun x v hv => by simp at hv; rcases hv with rfl | rfl | rfl | rfl <;> rfl⟩
def eOp : Elt Op := ⟨8, fun o => [.int .i64 o.kind, .int .u64 o.entry.h, .int .u64 o.entry.a, .int .u64 o.entry.v, .int .u8 o.entry.k, .int .u64 o.at_, .int .i64 o.n, .int .i64 o.m], fun _ => rfl,
  fun x v hv => by simp at hv; rcases hv with rfl | rfl | rfl | rfl | rfl | rfl | rfl | rfl <;> rfl⟩
def okOp (o : Op) : Prop := (0 ≤ o.entry.h ∧ o.entry.h < 18446744073709551616) ∧ (0 ≤ o.entry.a ∧ o.entry.a < 18446744073709551616) ∧ (0 ≤ o.entry.v ∧ o.entry.v < 18446744073709551616) ∧ (0 ≤ o.entry.k ∧ o.entry.k < 256) ∧ (0 ≤ o.at_ ∧ o.at_ < 18446744073709551616) ∧ o.m ≤ 9223372036854775807
section
variable {h : Heap} {a : Option Addr} {c : Nat} {L : List Op}
theorem wadd' (n : Nat) (hn : n < 9223372036854775807) : IntKind.i64.wrap ((n : Int) + 1) = ((n + 1 : Nat) : Int) := by rw [w64 (by omega) (by omega)]; omega
end
end Ix
end Go.Proofs.Ytkecmljalcfhoaa
namespace Go.Proofs.Ytkecmljalcfhoaa
namespace Ix
open Go Go.ChangeShapes Go.WideShapes Go.Deep
def dEn {H : Type} (y : En) : DataW H := .agg [.lit (.int .u64 y.h), .lit (.int .u64 y.a), .lit (.int .u64 y.v), .lit (.int .u8 y.k)]
def wfEn (y : En) : Prop := (Lit.int .u64 y.h).wf = true ∧ (Lit.int .u64 y.a).wf = true ∧ (Lit.int .u64 y.v).wf = true ∧ (Lit.int .u8 y.k).wf = true ∧ True
set_option maxRecDepth 100000 in
theorem oEn {H : Type} {enc : TypeId × Value → H} {W : World} (fuel : Nat) (cs : List Value) (x : DataW H × List MemPlace) (h : DataW.trod enc Try.prog W 0 (fun _ => true) true fuel 31 cs = some x) :
    ∃ y : En, cs = eEn.enc y ∧ (x.1 = dEn y ∧ wfEn y) := by
  obtain ⟨ys, n, _, hx, hl, hyl, hf⟩ := DataW.trod_struct Try.underlying31 h
  rw [show Try.prog.cellsOf 31 = 4 by kernel_rfl] at hl
  match cs, hl with
  | [c0, c1, c2, c3], _ =>
    have g0 : DataW.trod enc Try.prog W 0 (fun _ => true) true n 29 (([c0, c1, c2, c3].drop 0).take (Try.prog.cellsOf 29)) = ys[0]? := hf 0 _ rfl
    rw [show Try.prog.cellsOf 29 = 1 by kernel_rfl] at g0
    have g1 : DataW.trod enc Try.prog W 0 (fun _ => true) true n 29 (([c0, c1, c2, c3].drop 1).take (Try.prog.cellsOf 29)) = ys[1]? := hf 1 _ rfl
    rw [show Try.prog.cellsOf 29 = 1 by kernel_rfl] at g1
    have g2 : DataW.trod enc Try.prog W 0 (fun _ => true) true n 29 (([c0, c1, c2, c3].drop 2).take (Try.prog.cellsOf 29)) = ys[2]? := hf 2 _ rfl
    rw [show Try.prog.cellsOf 29 = 1 by kernel_rfl] at g2
    have g3 : DataW.trod enc Try.prog W 0 (fun _ => true) true n 5 (([c0, c1, c2, c3].drop 3).take (Try.prog.cellsOf 5)) = ys[3]? := hf 3 _ rfl
    rw [show Try.prog.cellsOf 5 = 1 by kernel_rfl] at g3
    match ys, hyl with
    | [y0, y1, y2, y3], _ =>
      obtain ⟨n0, e0, x0, w0⟩ := DataW.trod_int Try.underlying29 (x := y0) g0
      obtain ⟨n1, e1, x1, w1⟩ := DataW.trod_int Try.underlying29 (x := y1) g1
      obtain ⟨n2, e2, x2, w2⟩ := DataW.trod_int Try.underlying29 (x := y2) g2
      obtain ⟨n3, e3, x3, w3⟩ := DataW.trod_int Try.underlying5 (x := y3) g3
      refine ⟨⟨n0, n1, n2, n3⟩, ?_, ?_, ⟨w0, w1, w2, w3, trivial⟩⟩
      · show (([c0, c1, c2, c3].drop 0).take 1) ++ (([c0, c1, c2, c3].drop 1).take 1) ++ (([c0, c1, c2, c3].drop 2).take 1) ++ (([c0, c1, c2, c3].drop 3).take 1) = _
        rw [e0, e1, e2, e3]
        rfl
      · rw [hx]
        simp only [List.map_cons, List.map_nil, x0, x1, x2, x3]
        rfl
def dOp {H : Type} (y : Op) : DataW H := .agg [.lit (.int .i64 y.kind), dEn y.entry, .lit (.int .u64 y.at_), .lit (.int .i64 y.n), .lit (.int .i64 y.m)]
def wfOp (y : Op) : Prop := (Lit.int .i64 y.kind).wf = true ∧ wfEn y.entry ∧ (Lit.int .u64 y.at_).wf = true ∧ (Lit.int .i64 y.n).wf = true ∧ (Lit.int .i64 y.m).wf = true ∧ True
set_option maxRecDepth 100000 in
theorem oOp {H : Type} {enc : TypeId × Value → H} {W : World} (fuel : Nat) (cs : List Value) (x : DataW H × List MemPlace) (h : DataW.trod enc Try.prog W 0 (fun _ => true) true fuel 33 cs = some x) :
    ∃ y : Op, cs = eOp.enc y ∧ (x.1 = dOp y ∧ wfOp y) := by
  obtain ⟨ys, n, _, hx, hl, hyl, hf⟩ := DataW.trod_struct Try.underlying33 h
  rw [show Try.prog.cellsOf 33 = 8 by kernel_rfl] at hl
  match cs, hl with
  | [c0, c1, c2, c3, c4, c5, c6, c7], _ =>
    have g0 : DataW.trod enc Try.prog W 0 (fun _ => true) true n 3 (([c0, c1, c2, c3, c4, c5, c6, c7].drop 0).take (Try.prog.cellsOf 3)) = ys[0]? := hf 0 _ rfl
    rw [show Try.prog.cellsOf 3 = 1 by kernel_rfl] at g0
    have g1 : DataW.trod enc Try.prog W 0 (fun _ => true) true n 31 (([c0, c1, c2, c3, c4, c5, c6, c7].drop 1).take (Try.prog.cellsOf 31)) = ys[1]? := hf 1 _ rfl
    rw [show Try.prog.cellsOf 31 = 4 by kernel_rfl] at g1
    have g2 : DataW.trod enc Try.prog W 0 (fun _ => true) true n 29 (([c0, c1, c2, c3, c4, c5, c6, c7].drop 5).take (Try.prog.cellsOf 29)) = ys[2]? := hf 2 _ rfl
    rw [show Try.prog.cellsOf 29 = 1 by kernel_rfl] at g2
    have g3 : DataW.trod enc Try.prog W 0 (fun _ => true) true n 3 (([c0, c1, c2, c3, c4, c5, c6, c7].drop 6).take (Try.prog.cellsOf 3)) = ys[3]? := hf 3 _ rfl
    rw [show Try.prog.cellsOf 3 = 1 by kernel_rfl] at g3
    have g4 : DataW.trod enc Try.prog W 0 (fun _ => true) true n 3 (([c0, c1, c2, c3, c4, c5, c6, c7].drop 7).take (Try.prog.cellsOf 3)) = ys[4]? := hf 4 _ rfl
    rw [show Try.prog.cellsOf 3 = 1 by kernel_rfl] at g4
    match ys, hyl with
    | [y0, y1, y2, y3, y4], _ =>
      obtain ⟨n0, e0, x0, w0⟩ := DataW.trod_int Try.underlying3 (x := y0) g0
      obtain ⟨n1, e1, x1, w1⟩ := oEn _ _ y1 g1
      obtain ⟨n2, e2, x2, w2⟩ := DataW.trod_int Try.underlying29 (x := y2) g2
      obtain ⟨n3, e3, x3, w3⟩ := DataW.trod_int Try.underlying3 (x := y3) g3
      obtain ⟨n4, e4, x4, w4⟩ := DataW.trod_int Try.underlying3 (x := y4) g4
      refine ⟨⟨n0, n1, n2, n3, n4⟩, ?_, ?_, ⟨w0, w1, w2, w3, w4, trivial⟩⟩
      · show (([c0, c1, c2, c3, c4, c5, c6, c7].drop 0).take 1) ++ (([c0, c1, c2, c3, c4, c5, c6, c7].drop 1).take 4) ++ (([c0, c1, c2, c3, c4, c5, c6, c7].drop 5).take 1) ++ (([c0, c1, c2, c3, c4, c5, c6, c7].drop 6).take 1) ++ (([c0, c1, c2, c3, c4, c5, c6, c7].drop 7).take 1) = _
        rw [e0, e1, e2, e3, e4]
        rfl
      · rw [hx]
        simp only [List.map_cons, List.map_nil, x0, x1, x2, x3, x4]
        rfl
theorem ok_of {o : Op} (w : wfOp o) : okOp o := by
  obtain ⟨_, ⟨h1, h2, h3, h4, _⟩, h5, h6, h7, _⟩ := w
  have b1 := bounds_u64 h1
  have b2 := bounds_u64 h2
  have b3 := bounds_u64 h3
  have b4 := bounds_u8 h4
  have b5 := bounds_u64 h5
  have b7 := bounds_i64 h7
  exact ⟨by omega, by omega, by omega, by omega, by omega, by omega⟩
set_option maxRecDepth 100000 in
theorem oScript {H : Type} {enc : TypeId × Value → H} {W : World} (fuel : Nat) (cs : List Value) (x : DataW H × List MemPlace) (h : DataW.trod enc Try.prog W 0 (fun _ => true) true fuel 24 cs = some x) :
    ∃ (n b m : Int) (a : Option Addr) (cap : Nat) (L : List Op), cs = [.int .i64 n, .int .i64 b, .int .i64 m, .slice a L.length cap] ∧ L.length ≤ 9223372036854775807 ∧ Sl eOp W.heap a cap L ∧ ∀ o ∈ L, okOp o := by
  obtain ⟨ys, n, _, hx, hl, hyl, hf⟩ := DataW.trod_struct Try.underlying24 h
  rw [show Try.prog.cellsOf 24 = 4 by kernel_rfl] at hl
  match cs, hl with
  | [c0, c1, c2, c3], _ =>
    have g0 : DataW.trod enc Try.prog W 0 (fun _ => true) true n 3 (([c0, c1, c2, c3].drop 0).take (Try.prog.cellsOf 3)) = ys[0]? := hf 0 _ rfl
    have g1 : DataW.trod enc Try.prog W 0 (fun _ => true) true n 3 (([c0, c1, c2, c3].drop 1).take (Try.prog.cellsOf 3)) = ys[1]? := hf 1 _ rfl
    have g2 : DataW.trod enc Try.prog W 0 (fun _ => true) true n 3 (([c0, c1, c2, c3].drop 2).take (Try.prog.cellsOf 3)) = ys[2]? := hf 2 _ rfl
    have g3 : DataW.trod enc Try.prog W 0 (fun _ => true) true n 22 (([c0, c1, c2, c3].drop 3).take (Try.prog.cellsOf 22)) = ys[3]? := hf 3 _ rfl
    rw [show Try.prog.cellsOf 3 = 1 by kernel_rfl] at g0 g1 g2
    rw [show Try.prog.cellsOf 22 = 1 by kernel_rfl] at g3
    match ys, hyl with
    | [y0, y1, y2, y3], _ =>
      obtain ⟨n0, e0, _, _⟩ := DataW.trod_int Try.underlying3 (x := y0) g0
      obtain ⟨n1, e1, _, _⟩ := DataW.trod_int Try.underlying3 (x := y1) g1
      obtain ⟨n2, e2, _, _⟩ := DataW.trod_int Try.underlying3 (x := y2) g2
      have g3' : DataW.trod enc Try.prog W 0 (fun _ => true) true n 22 [c3] = some y3 := g3
      have hc3 : ∃ a len cap, c3 = .slice a len cap := by
        rcases open_slice Try.underlying22 g3' with ⟨hcs, _⟩ | ⟨a, len', cap', m, n, D, Pl, hcs, _⟩
        · simp at hcs; exact ⟨_, _, _, hcs⟩
        · simp at hcs; exact ⟨_, _, _, hcs⟩
      obtain ⟨a, len, cap, rfl⟩ := hc3
      obtain ⟨k1, k2, L, rfl, k4, k5⟩ := open_list eOp Try.underlying22 (by kernel_rfl) (by decide) (fun y d => d = dOp y ∧ wfOp y) (fun fuel cs x h => oOp fuel cs x h) g3'
      have hm : cap ≤ 9223372036854775807 := k2
      simp at e0 e1 e2
      refine ⟨n0, n1, n2, a, cap, L, by rw [e0, e1, e2], by omega, k4, fun o ho => ?_⟩
      obtain ⟨i, hi, hie⟩ := List.getElem_of_mem ho
      rcases k5 with k5 | ⟨es, sp, _, hes, hg⟩
      · omega
      · exact ok_of (hg i o es[i] (by rw [List.getElem?_eq_getElem hi, hie]) (List.getElem?_eq_getElem (by omega))).2
end Ix
end Go.Proofs.Ytkecmljalcfhoaa
namespace Go.Proofs.Ytkecmljalcfhoaa
open Go
open Go.Proofs.Ytkecmljalcfhoaa renaming hl_val → lv, hl_step → lp, hl_nil → ln, hl_yes → ly, hl_no → lo, hx_seq → xs, hx_region → xr, hx_cond → xc, hx_block → xb, hx_loopT → xl, hx_cut → xk, hx_has → xh, hx_skip → xi, hx_ret → xt, hx_exit → xe, seqQ_n → qn, seqQ_ret → qr, seqQ_exit → qe, blockQ_n → bn, blockQ_ret → br, blockQ_here → bh, hv_move → vm, hv_assign → va, hv_arith → vr, hv_load → vl, hv_loads → vL, hv_extract → vx, hv_field → vf, hv_index → vi, hp_pure → pp, hp_read → pr, hp_no → pn, has_cons → hc, has_nil → hn, hcells_cons → cc, hcells_nil → cn, rowcell → rc, hs_call → sc
set_option maxRecDepth 100000
set_option maxHeartbeats 4000000
theorem TyShO.agg22 : aggB Try.prog 22 = some false := by kernel_rfl
theorem TyShO.agg24 : aggB Try.prog 24 = some true := by kernel_rfl
theorem TyShO.agg29 : aggB Try.prog 29 = some false := by kernel_rfl
theorem TyShO.agg3 : aggB Try.prog 3 = some false := by kernel_rfl
theorem TyShO.agg33 : aggB Try.prog 33 = some true := by kernel_rfl
theorem TyShO.cb10 : CallB Try.prog 10 := fun _ _ => Try.call10 _ _
theorem TyShO.cb13 : CallB Try.prog 13 := fun _ _ => Try.call13 _ _
theorem TyShO.cb24 : CallB Try.prog 24 := fun _ _ => Try.call24 _ _
theorem TyShO.el22 : elB Try.prog 22 = some 8 := by kernel_rfl
theorem TyShO.fld24_3 : fldB Try.prog 24 3 = some 3 := by kernel_rfl
theorem TyShO.fld31_0 : fldB Try.prog 31 0 = some 0 := by kernel_rfl
theorem TyShO.fld33_0 : fldB Try.prog 33 0 = some 0 := by kernel_rfl
theorem TyShO.fld33_1 : fldB Try.prog 33 1 = some 1 := by kernel_rfl
theorem TyShO.fld33_3 : fldB Try.prog 33 3 = some 6 := by kernel_rfl
theorem TyShO.sz24 : szB Try.prog 24 = some 4 := by kernel_rfl
theorem TyShO.sz33 : szB Try.prog 33 = some 8 := by kernel_rfl
theorem TyShO.u22 : Try.prog.underlying 22 = some (.slice 33) := by kernel_rfl
theorem TyShO.up26 : Try.prog.underlying 26 = some (.pointer 80) := by kernel_rfl
theorem TyShO.z33 : zeroB Try.prog 33 (.agg #[(.int .i64 0), (.int .u64 0), (.int .u64 0), (.int .u64 0), (.int .u8 0), (.int .u64 0), (.int .i64 0), (.int .i64 0)]) := by unfold zeroB; kernel_rfl
theorem ext_pushed_f16_sh {h h1 : Heap} {o : Obj} (e : h1 = Array.push h o) : Ext h h1 := by rw [e]; exact Ext.push _ _
theorem f15_sh (a5 : Int) (b0 : Int) (b1 : Int) (b2 : Option Addr) (a3 : Nat) (a9 : Nat) (h : Heap) (R : Value → Heap → Prop)
  (H : (∀ (sv : Nat) (h1 : Heap), Array.size h ≤ sv → sv < Array.size h1 → Ext h h1 → HC Try.prog 10 #[(.agg #[(.int .i64 a5), (.int .i64 b0), (.int .i64 b1), (.slice b2 a3 a9)])] h1 (fun vv h2 => Kp [sv] h1 h2 ∧ ∃ r0 r1 : Option Addr, ∃ r2 : Bool, vv = (.tuple #[(.pointer r0), (.pointer r1), (.bool r2)]) ∧ ((((!r2) || r1.isNone) = true → R (.tuple #[(.pointer none), (.bool r2)]) h2) ∧ (((!r2) || r1.isNone) = false → (∃ (c0 : Option Addr → Int → Heap → Prop) (b9 : Option Addr → Int → Heap → Nat), c0 r0 0 h2 ∧ (∀ (x : Option Addr) (v : Int) (h3 : Heap), c0 x v h3 → (((decide (v < (a3 : Int))) = true → (∃ a7 a6 : Nat, b2 = some ⟨a7, a6, none⟩ ∧ (0 : Int) ≤ v ∧ v < (a3 : Int) ∧ (∃ a8 a2 a4 a0 a1 b4 b6 b7 : Int, hcell h3 a7 (a6 + (Int.toNat v) * 8) = some (.int .i64 a8) ∧ hcell h3 a7 ((a6 + (Int.toNat v) * 8) + 1) = some (.int .u64 a2) ∧ hcell h3 a7 ((a6 + (Int.toNat v) * 8) + 2) = some (.int .u64 a4) ∧ hcell h3 a7 ((a6 + (Int.toNat v) * 8) + 3) = some (.int .u64 a0) ∧ hcell h3 a7 ((a6 + (Int.toNat v) * 8) + 4) = some (.int .u8 a1) ∧ hcell h3 a7 ((a6 + (Int.toNat v) * 8) + 5) = some (.int .u64 b4) ∧ hcell h3 a7 ((a6 + (Int.toNat v) * 8) + 6) = some (.int .i64 b6) ∧ hcell h3 a7 ((a6 + (Int.toNat v) * 8) + 7) = some (.int .i64 b7) ∧ (∀ (h5 : Heap), Ext h3 h5 → HC Try.prog 13 #[(.pointer x), (.pointer r1), (.agg #[(.int .i64 a8), (.int .u64 a2), (.int .u64 a4), (.int .u64 a0), (.int .u8 a1), (.int .u64 b4), (.int .i64 b6), (.int .i64 b7)])] h5 (fun vv h6 => ∃ r : Bool, vv = (.bool r) ∧ (((!r) = true → R (.tuple #[(.pointer none), (.bool false)]) h6) ∧ ((!r) = false → (c0 x (IntKind.i64.wrap (v + 1)) h6 ∧ b9 x (IntKind.i64.wrap (v + 1)) h6 < b9 x v h3)))))))) ∧ ((decide (v < (a3 : Int))) = false → R (.tuple #[(.pointer x), (.bool true)]) h3))))))))) :
  HC Try.prog 15 #[(.agg #[(.int .i64 a5), (.int .i64 b0), (.int .i64 b1), (.slice b2 a3 a9)])] h R := by
 refine hc_of (args := [(.agg #[(.int .i64 a5), (.int .i64 b0), (.int .i64 b1), (.slice b2 a3 a9)])]) Try.func15 rfl Try.ntmps15 (Nat.le_of_ble_eq_true rfl) ?_
 refine xs (xr ?_)
 refine lp rfl rfl (hn_box (v := (.agg #[(.int .i64 a5), (.int .i64 b0), (.int .i64 b1), (.slice b2 a3 a9)])) rfl ?_)
 intro sv h1 c8 c9
 have e9 := ext_pushed_f16_sh c9
 have e7 : Array.size h ≤ sv := Nat.le_of_eq (Eq.symm c8)
 have b8 : h1[sv]? = some (.cells #[(.int .i64 a5), (.int .i64 b0), (.int .i64 b1), (.slice b2 a3 a9)] 24 (0, 0)) := by rw [c9]; exact push_new c8
 refine lv rfl rfl (va rfl) (lv rfl rfl (va rfl) ?_)
 refine ln (qn (xs (xr ?_)))
 refine lv rfl rfl (vL (vs := [(.int .i64 a5), (.int .i64 b0), (.int .i64 b1), (.slice b2 a3 a9)]) TyShO.agg24 TyShO.sz24 rfl (cc (rc b8 rfl) (cc (rc b8 rfl) (cc (rc b8 rfl) (cc (rc b8 rfl) cn))))) ?_
 replace H := H sv h1 e7 (row_lt b8) e9
 refine lp rfl rfl (sc TyShO.cb10 rfl (HC.mono H ?_))
 rintro _ h2 ⟨e8, r0, r1, r2, rfl, H⟩
 replace b8 := Kp.row e8 (by simp) b8
 refine lv rfl rfl (vm rfl) (lv rfl rfl (vx rfl rfl) (lv rfl rfl (vx rfl rfl) (lv rfl rfl (vx rfl rfl) (lv rfl rfl (va rfl) (lv rfl rfl (va rfl) ?_)))))
 refine lv rfl rfl (va rfl) ?_
 refine ln (qn (xs ?_))
 refine xk (fun ρ h' => h2 = h' ∧ Has ρ [(1, (ptr sv 0)), (2, (.pointer r0)), (3, (.bool r2)), (4, (.pointer r1)), (18, (.bool ((!r2) || r1.isNone)))]) ?_ ?_
 ·refine xr ?_
  refine lv rfl rfl (vm rfl) (lv rfl rfl (v := (.bool (!r2))) (hv_not (b := r2) rfl) (lv rfl rfl (vm rfl) ?_))
  rcases bool_or (!r2) with b5 | b5
  ·refine lo (wanted_n rfl rfl rfl b5) rfl ?_
   refine lo (wanted_n rfl rfl rfl b5) rfl ?_
   refine lv rfl rfl (v := (.bool true)) (hv_pick_t rfl b5 rfl) ?_
   refine ln (qn ?_)
   exact ⟨rfl, (hc rfl (hc rfl (hc rfl (hc rfl (hc (show ((.bool true) : Value) = (.bool ((!r2) || r1.isNone)) from (by first | rfl | ((try rw [b5]); all_goals first | rfl | (simp only [Bool.true_or, Bool.or_true, Bool.false_or, Bool.or_false, Bool.true_and, Bool.and_true, Bool.false_and, Bool.and_false, Bool.not_true, Bool.not_false, Bool.cond_true, Bool.cond_false]; done)) | simp [b5])) hn)))))⟩
  ·refine ly (wanted_y rfl rfl rfl b5) rfl (HStep.of_val (v := (.pointer r1)) (vm rfl) ?_)
   refine ly (wanted_y rfl rfl rfl b5) rfl (HStep.of_val (v := (.bool r1.isNone)) (hv_ptrNil TyShO.up26 rfl rfl) ?_)
   refine lv rfl rfl (v := (.bool r1.isNone)) (hv_pick_f rfl b5 rfl) ?_
   refine ln (qn ?_)
   exact ⟨rfl, (hc rfl (hc rfl (hc rfl (hc rfl (hc (show ((.bool r1.isNone) : Value) = (.bool ((!r2) || r1.isNone)) from (by first | rfl | ((try rw [b5]); all_goals first | rfl | (simp only [Bool.true_or, Bool.or_true, Bool.false_or, Bool.or_false, Bool.true_and, Bool.and_true, Bool.false_and, Bool.and_false, Bool.not_true, Bool.not_false, Bool.cond_true, Bool.cond_false]; done)) | simp [b5])) hn)))))⟩
 ·rintro ρ _ ⟨rfl, hH⟩
  refine xh _ hH ?_
  refine xc (b := ((!r2) || r1.isNone)) rfl (fun c2 => ?_) (fun c2 => ?_)
  ·replace H := H.1 c2
   refine xs (xr ?_)
   refine lv rfl rfl (vm rfl) (lv rfl rfl (va rfl) (lv rfl rfl (va rfl) ?_))
   refine ln (qn (xt (qr ?_)))
   exact endQ_ret _ (res_two Try.results15 (rv_tmp rfl) (rv_tmp rfl)) H
  ·replace H := H.2 c2
   refine xi (qn (xs (xs (xr ?_))))
   refine lv rfl rfl (v := (ptr sv 3)) (vf TyShO.fld24_3 (b := sv) (o := 0) rfl) (lv rfl rfl (vl TyShO.agg22 rfl (rc b8 rfl)) (lv rfl rfl (v := (.int .i64 (a3 : Int))) (hv_len (n := a3) TyShO.u22 rfl) (lv rfl rfl (vm rfl) ?_)))
   refine ln (qn (xb ?_))
   obtain ⟨c0, b9, e4, d5⟩ := H
   refine xl (σ := Option Addr × Int) (fun s => [(2, (.pointer s.1)), (4, (.pointer r1)), (21, (.slice b2 a3 a9)), (22, (.int .i64 (a3 : Int))), (23, (.int .i64 s.2))]) (fun s h' => c0 s.1 s.2 h' ∧ True) (fun s h' => b9 s.1 s.2 h') (r0, 0) ⟨e4, trivial⟩ (hc rfl (hc rfl (hc rfl (hc rfl (hc rfl hn))))) ?_
   rintro ⟨x, v⟩ ρ h3 ⟨d3, -⟩
   have H := d5 x v h3 d3
   refine xs (xr ?_)
   refine lv rfl rfl (vr rfl rfl rfl) ?_
   refine ln (qn (xs ?_))
   refine xc (b := decide (v < (a3 : Int))) rfl (fun c1 => ?_) (fun c1 => ?_)
   ·replace H := H.1 c1
    refine xi (qn (xs (xb (xs (xr ?_)))))
    obtain ⟨a7, a6, e6, e2, d6, Hq⟩ := H
    subst e6
    have H := Hq; clear Hq
    refine lv rfl rfl (v := (ptr a7 (a6 + (Int.toNat v) * 8))) (vi TyShO.el22 rfl rfl e2 d6) ?_
    obtain ⟨a8, a2, a4, a0, a1, b4, b6, b7, d9, d0, d2, e1, d7, d1, e3, d4, H⟩ := H
    refine lv rfl rfl (vL (vs := [(.int .i64 a8), (.int .u64 a2), (.int .u64 a4), (.int .u64 a0), (.int .u8 a1), (.int .u64 b4), (.int .i64 b6), (.int .i64 b7)]) TyShO.agg33 TyShO.sz33 rfl (cc d9 (cc d0 (cc d2 (cc e1 (cc d7 (cc d1 (cc e3 (cc d4 cn))))))))) ?_
    refine lp rfl rfl (hn_alloc TyShO.z33 ?_)
    intro o h4 c7 c4
    have e0 := ext_pushed_f16_sh c4
    have d8 : Array.size h3 ≤ o := Nat.le_of_eq (Eq.symm c7)
    have c6 : h4[o]? = some (.cells #[(.int .i64 0), (.int .u64 0), (.int .u64 0), (.int .u64 0), (.int .u8 0), (.int .u64 0), (.int .i64 0), (.int .i64 0)] 33 (0, 0)) := by rw [c4]; exact push_new c7
    refine lp rfl rfl (hn_stores (vs := [(.int .i64 a8), (.int .u64 a2), (.int .u64 a4), (.int .u64 a0), (.int .u8 a1), (.int .u64 b4), (.int .i64 b6), (.int .i64 b7)]) rfl rfl TyShO.sz33 rfl (HWs_row c6 (by simp)) ?_)
    intro h5 c5
    have b3 : h5[o]? = some (.cells #[(.int .i64 a8), (.int .u64 a2), (.int .u64 a4), (.int .u64 a0), (.int .u8 a1), (.int .u64 b4), (.int .i64 b6), (.int .i64 b7)] 33 (0, 0)) := row_hsets_eq c5 c6 (by simp [sets])
    have e5 := ext_hsets c5 e0 d8
    refine ln (qn (xs (xr ?_)))
    refine lv rfl rfl (vm rfl) (lv rfl rfl (vm rfl) (lv rfl rfl (vL (vs := [(.int .i64 a8), (.int .u64 a2), (.int .u64 a4), (.int .u64 a0), (.int .u8 a1), (.int .u64 b4), (.int .i64 b6), (.int .i64 b7)]) TyShO.agg33 TyShO.sz33 rfl (cc (rc b3 rfl) (cc (rc b3 rfl) (cc (rc b3 rfl) (cc (rc b3 rfl) (cc (rc b3 rfl) (cc (rc b3 rfl) (cc (rc b3 rfl) (cc (rc b3 rfl) cn))))))))) ?_))
    replace H := H h5 e5
    refine lp rfl rfl (sc TyShO.cb13 rfl (HC.mono H ?_))
    rintro _ h6 ⟨r, rfl, H⟩
    refine lv rfl rfl (v := (.bool (!r))) (hv_not (b := r) rfl) ?_
    refine ln (qn ?_)
    refine xc (b := !r) rfl (fun c3 => ?_) (fun c3 => ?_)
    ·replace H := H.1 c3
     refine xs (xr ?_)
     refine lv rfl rfl (va rfl) (lv rfl rfl (va rfl) ?_)
     refine ln (qn (xt (br (qr (qr (br (qr ?_)))))))
     exact endQ_ret _ (res_two Try.results15 (rv_tmp rfl) (rv_tmp rfl)) H
    ·replace H := H.2 c3
     refine xi (bn (qn (xr ?_)))
     refine lv rfl rfl (vr rfl rfl rfl) (lv rfl rfl (vm rfl) ?_)
     refine ln (qn ?_)
     exact ⟨(x, IntKind.i64.wrap (v + 1)), ⟨⟨H.1, trivial⟩, H.2⟩, (hc rfl (hc rfl (hc rfl (hc rfl (hc rfl hn)))))⟩
   ·replace H := H.2 c1
    refine xe (qe (qe (bh (qn (xs (xr ?_))))))
    refine lv rfl rfl (vm rfl) (lv rfl rfl (va rfl) (lv rfl rfl (va rfl) ?_))
    refine ln (qn (xt ?_))
    exact endQ_ret _ (res_two Try.results15 (rv_tmp rfl) (rv_tmp rfl)) H
theorem f16_sh (a8 : Nat) (a7 : Nat) (a3 : Int) (a0 : Int) (a4 : Int) (a1 : Int) (a2 : Int) (a6 : Int) (a5 : Int) (a9 : Int) (h : Heap) (R : Value → Heap → Prop)
  (H : (((a3 == 6) = true → (∀ (h1 : Heap), Ext h h1 → R (.int .i64 a5) h1)) ∧ ((a3 == 6) = false → (∀ (h1 : Heap), Ext h h1 → (∃ r : Int, HC Try.prog 24 #[(ptr a8 a7), (.int .u64 a0)] h1 (fun vv h' => vv = (.int .i64 r) ∧ h' = h1) ∧ R (.int .i64 r) h1))))) :
  HC Try.prog 16 #[(ptr a8 a7), (.agg #[(.int .i64 a3), (.int .u64 a0), (.int .u64 a4), (.int .u64 a1), (.int .u8 a2), (.int .u64 a6), (.int .i64 a5), (.int .i64 a9)])] h R := by
 refine hc_of (args := [(ptr a8 a7), (.agg #[(.int .i64 a3), (.int .u64 a0), (.int .u64 a4), (.int .u64 a1), (.int .u8 a2), (.int .u64 a6), (.int .i64 a5), (.int .i64 a9)])]) Try.func16 rfl Try.ntmps16 (Nat.le_of_ble_eq_true rfl) ?_
 refine xs (xr ?_)
 refine lp rfl rfl (hn_box (v := (.agg #[(.int .i64 a3), (.int .u64 a0), (.int .u64 a4), (.int .u64 a1), (.int .u8 a2), (.int .u64 a6), (.int .i64 a5), (.int .i64 a9)])) rfl ?_)
 intro o h1 b2 b3
 have b4 := ext_pushed_f16_sh b3
 have b6 : Array.size h ≤ o := Nat.le_of_eq (Eq.symm b2)
 have b1 : h1[o]? = some (.cells #[(.int .i64 a3), (.int .u64 a0), (.int .u64 a4), (.int .u64 a1), (.int .u8 a2), (.int .u64 a6), (.int .i64 a5), (.int .i64 a9)] 33 (0, 0)) := by rw [b3]; exact push_new b2
 refine lv rfl rfl (va rfl) ?_
 refine ln (qn (xs (xs (xr ?_))))
 refine lv rfl rfl (v := (ptr o 0)) (vf TyShO.fld33_0 (b := o) (o := 0) rfl) (lv rfl rfl (vl TyShO.agg3 rfl (rc b1 rfl)) (lv rfl rfl (vr rfl rfl rfl) ?_))
 refine ln (qn ?_)
 refine xc (b := a3 == 6) rfl (fun b0 => ?_) (fun b0 => ?_)
 ·replace H := H.1 b0
  refine xs (xr ?_)
  refine lv rfl rfl (v := (ptr o 6)) (vf TyShO.fld33_3 (b := o) (o := 0) rfl) (lv rfl rfl (vl TyShO.agg3 rfl (rc b1 rfl)) (lv rfl rfl (va rfl) ?_))
  refine ln (qn (xt (qr ?_)))
  replace H := H h1 b4
  exact endQ_ret _ (res_one Try.results16 (rv_tmp rfl)) H
 ·replace H := H.2 b0
  refine xi (qn (xs (xr ?_)))
  refine lv rfl rfl (vm rfl) (lv rfl rfl (v := (ptr o 1)) (vf TyShO.fld33_1 (b := o) (o := 0) rfl) (lv rfl rfl (v := (ptr o 1)) (vf TyShO.fld31_0 (b := o) (o := 1) rfl) (lv rfl rfl (vl TyShO.agg29 rfl (rc b1 rfl)) ?_)))
  replace H := H h1 b4
  obtain ⟨r, b5, H⟩ := H
  refine lv rfl rfl (hv_call TyShO.cb24 (vs := [(ptr a8 a7), (.int .u64 a0)]) rfl b5) (lv rfl rfl (va rfl) ?_)
  refine ln (qn (xt ?_))
  exact endQ_ret _ (res_one Try.results16 (rv_tmp rfl)) H
end Go.Proofs.Ytkecmljalcfhoaa
namespace Go.Proofs.Ytkecmljalcfhoaa
namespace Ix
open Go RH
theorem all_l {W : Nat → Prop} {h : Heap} {x m : Nat} {Ls : List (List Ent)} (hx : Has W h x m Ls) (n : Int) : HC Try.prog 18 #[.pointer (some ⟨x, 0, none⟩), .int .i64 n] h fun v h' => Ext h h' ∧ ∃ tb a, v = .func (.func 55) #[] #[ptr tb 0] ∧ h.size ≤ tb ∧
    h'[tb]? = some (.cells #[.pointer a] 70 (0, 0)) ∧ TOpt h' a (ent Ls n) := by
  obtain ⟨Ts, I, rfl⟩ := hx
  refine (all_i I n).mono ?_
  rintro v h' ⟨x1, tb, a, e, lo, r, t, _⟩
  exact ⟨x1, tb, a, e, lo, r, t.ext x1⟩
def fl (q : Int) (L : List Ent) : List Ent := L.filter fun e => !gone q e
def cnt (q : Int) (L : List Ent) : Int := ((L.filter (gone q)).length : Int)
theorem cnt_le {q : Int} {L : List Ent} : 0 ≤ cnt q L ∧ cnt q L ≤ L.length := by unfold cnt; have := List.length_filter_le (gone q) L; omega
theorem take_next {L : List Ent} {k : Nat} (hk : k < L.length) : L.take (k + 1) = L.take k ++ [L[k]] := by rw [List.take_add_one, List.getElem?_eq_getElem hk]; rfl
theorem ent_at {Ls : List (List Ent)} {k : Nat} (hk : k < Ls.length) : ent Ls (k : Int) = Ls[k] := by
  unfold ent
  rw [if_pos (by omega), Int.toNat_natCast, List.getD_eq_getElem?_getD, List.getElem?_eq_getElem hk]; rfl
end Ix
end Go.Proofs.Ytkecmljalcfhoaa
