import Derived.Test.YtkecmljalcfhoaaProg
import Derived.Test.YtkecmljalcfhoaaPa1
import Derived.Test.YtkecmljalcfhoaaPa4
namespace Go.Proofs.Ytkecmljalcfhoaa
open Go
open Go.Proofs.Ytkecmljalcfhoaa renaming hl_val → lv, hl_step → lp, hl_nil → ln, hl_yes → ly, hl_no → lo, hx_seq → xs, hx_region → xr, hx_cond → xc, hx_block → xb, hx_loopT → xl, hx_cut → xk, hx_has → xh, hx_skip → xi, hx_ret → xt, hx_exit → xe, seqQ_n → qn, seqQ_ret → qr, seqQ_exit → qe, blockQ_n → bn, blockQ_ret → br, blockQ_here → bh, hv_move → vm, hv_assign → va, hv_arith → vr, hv_load → vl, hv_loads → vL, hv_extract → vx, hv_field → vf, hv_build → vb, hv_index → vi, hp_pure → pp, hp_read → pr, has_cons → hc, has_nil → hn, hcells_cons → cc, hcells_nil → cn, rowcell → rc, hs_call → sc
set_option maxRecDepth 100000
set_option maxHeartbeats 4000000
theorem TyShJ.agg29 : aggB Try.prog 29 = some false := by kernel_rfl
theorem TyShJ.agg3 : aggB Try.prog 3 = some false := by kernel_rfl
theorem TyShJ.agg31 : aggB Try.prog 31 = some true := by kernel_rfl
theorem TyShJ.agg47 : aggB Try.prog 47 = some false := by kernel_rfl
theorem TyShJ.agg5 : aggB Try.prog 5 = some false := by kernel_rfl
theorem TyShJ.agg78 : aggB Try.prog 78 = some false := by kernel_rfl
theorem TyShJ.by47 : byB Try.prog 47 = some 24 := by kernel_rfl
theorem TyShJ.cb35 : CallB Try.prog 35 := fun _ _ => Try.call35 _ _
theorem TyShJ.cb36 : CallB Try.prog 36 := fun _ _ => Try.call36 _ _
theorem TyShJ.cb37 : CallB Try.prog 37 := fun _ _ => Try.call37 _ _
theorem TyShJ.cb53 : CallB Try.prog 53 := fun _ _ => Try.call53 _ _
theorem TyShJ.el47 : elB Try.prog 47 = some 4 := by kernel_rfl
theorem TyShJ.el78 : elB Try.prog 78 = some 1 := by kernel_rfl
theorem TyShJ.fld31_0 : fldB Try.prog 31 0 = some 0 := by kernel_rfl
theorem TyShJ.fld31_1 : fldB Try.prog 31 1 = some 1 := by kernel_rfl
theorem TyShJ.fld31_2 : fldB Try.prog 31 2 = some 2 := by kernel_rfl
theorem TyShJ.fld31_3 : fldB Try.prog 31 3 = some 3 := by kernel_rfl
theorem TyShJ.fld80_0 : fldB Try.prog 80 0 = some 0 := by kernel_rfl
theorem TyShJ.fld80_1 : fldB Try.prog 80 1 = some 1 := by kernel_rfl
theorem TyShJ.mixed : Try.prog.follows .mixedOrders = true := by kernel_rfl
theorem TyShJ.pl31 : plB Try.prog 31 = some [(0, 1), (1, 1), (2, 1), (3, 1)] := by kernel_rfl
theorem TyShJ.pl80 : plB Try.prog 80 = some [(0, 1), (1, 1)] := by kernel_rfl
theorem TyShJ.sz29 : szB Try.prog 29 = some 1 := by kernel_rfl
theorem TyShJ.sz31 : szB Try.prog 31 = some 4 := by kernel_rfl
theorem TyShJ.sz47 : szB Try.prog 47 = some 1 := by kernel_rfl
theorem TyShJ.sz5 : szB Try.prog 5 = some 1 := by kernel_rfl
theorem TyShJ.u29 : Try.prog.underlying 29 = some (.int .u64) := by kernel_rfl
theorem TyShJ.u3 : Try.prog.underlying 3 = some (.int .i64) := by kernel_rfl
theorem TyShJ.u47 : Try.prog.underlying 47 = some (.slice 31) := by kernel_rfl
theorem TyShJ.u78 : Try.prog.underlying 78 = some (.slice 47) := by kernel_rfl
theorem TyShJ.z31 : zeroB Try.prog 31 (.agg #[(.int .u64 0), (.int .u64 0), (.int .u64 0), (.int .u8 0)]) := by unfold zeroB; kernel_rfl
theorem TyShJ.z47 : zeroB Try.prog 47 (.slice none 0 0) := by unfold zeroB; kernel_rfl
theorem TyShJ.z80 : zeroB Try.prog 80 (.agg #[(.int .i64 0), (.slice none 0 0)]) := by unfold zeroB; kernel_rfl
theorem ext_pushed_f21_sh {h h1 : Heap} {o : Obj} (e : h1 = Array.push h o) : Ext h h1 := by rw [e]; exact Ext.push _ _
theorem f26_sh (a0 : Int) (a2 : Int) (a1 : Int) (h : Heap) (R : Value → Heap → Prop)
  (H : ((((decide (a0 < 1)) || (decide (a0 > 64))) = true → R (.tuple #[(.pointer none), (.int .i64 1)]) h) ∧ (((decide (a0 < 1)) || (decide (a0 > 64))) = false → ((((decide (a2 < 2)) || ((decide (a1 < a2)) || (decide (a1 > 16)))) = true → R (.tuple #[(.pointer none), (.int .i64 110)]) h) ∧ (((decide (a2 < 2)) || ((decide (a1 < a2)) || (decide (a1 > 16)))) = false → ((0 : Int) ≤ a0 ∧ 24 * a0 ≤ 140737488355328 ∧ a0 ≤ 140737488355328 ∧ ∀ nb h1, nb = Array.size h → h1 = Array.push h (.cells (zcells [(.slice none 0 0)] (Int.toNat a0)).toArray 47) → (∀ a6 h2, a6 = Array.size h1 → h2 = Array.push h1 (.cells #[(.int .i64 a1), (.slice (some ⟨nb, 0, none⟩) (Int.toNat a0) (Int.toNat a0))] 80) → R (.tuple #[(ptr a6 0), (.int .i64 0)]) h2))))))) :
  HC Try.prog 26 #[(.int .i64 a0), (.int .i64 a2), (.int .i64 a1)] h R := by
 refine hc_of (args := [(.int .i64 a0), (.int .i64 a2), (.int .i64 a1)]) Try.func26 rfl Try.ntmps26 (Nat.le_of_ble_eq_true rfl) ?_
 refine xs (xr ?_)
 refine lv rfl rfl (va rfl) (lv rfl rfl (va rfl) ?_)
 refine ln (qn (xs ?_))
 refine xk (fun ρ h' => h = h' ∧ Has ρ [(0, (.int .i64 a0)), (1, (.int .i64 a2)), (2, (.int .i64 a1)), (13, (.bool ((decide (a0 < 1)) || (decide (a0 > 64)))))]) ?_ ?_
 ·refine xr ?_
  refine lv rfl rfl (vm rfl) (lv rfl rfl (vr rfl rfl rfl) (lv rfl rfl (vm rfl) ?_))
  rcases bool_or (decide (a0 < 1)) with a5 | a5
  ·refine lo (wanted_n rfl rfl rfl a5) rfl ?_
   refine lo (wanted_n rfl rfl rfl a5) rfl ?_
   refine lv rfl rfl (v := (.bool true)) (hv_pick_t rfl a5 rfl) ?_
   refine ln (qn ?_)
   exact ⟨rfl, (hc rfl (hc rfl (hc rfl (hc (show ((.bool true) : Value) = (.bool ((decide (a0 < 1)) || (decide (a0 > 64)))) from (by first | rfl | ((try rw [a5]); all_goals first | rfl | (simp only [Bool.true_or, Bool.or_true, Bool.false_or, Bool.or_false, Bool.true_and, Bool.and_true, Bool.false_and, Bool.and_false, Bool.not_true, Bool.not_false, Bool.cond_true, Bool.cond_false]; done)) | simp [a5])) hn))))⟩
  ·refine ly (wanted_y rfl rfl rfl a5) rfl (HStep.of_val (v := (.int .i64 a0)) (vm rfl) ?_)
   refine ly (wanted_y rfl rfl rfl a5) rfl (HStep.of_val (v := (.bool (decide (a0 > 64)))) (vr rfl rfl rfl) ?_)
   refine lv rfl rfl (v := (.bool (decide (a0 > 64)))) (hv_pick_f rfl a5 rfl) ?_
   refine ln (qn ?_)
   exact ⟨rfl, (hc rfl (hc rfl (hc rfl (hc (show ((.bool (decide (a0 > 64))) : Value) = (.bool ((decide (a0 < 1)) || (decide (a0 > 64)))) from (by first | rfl | ((try rw [a5]); all_goals first | rfl | (simp only [Bool.true_or, Bool.or_true, Bool.false_or, Bool.or_false, Bool.true_and, Bool.and_true, Bool.false_and, Bool.and_false, Bool.not_true, Bool.not_false, Bool.cond_true, Bool.cond_false]; done)) | simp [a5])) hn))))⟩
 ·rintro ρ _ ⟨rfl, hH⟩
  refine xh _ hH ?_
  refine xc (b := ((decide (a0 < 1)) || (decide (a0 > 64)))) rfl (fun b0 => ?_) (fun b0 => ?_)
  ·replace H := H.1 b0
   refine xs (xr ?_)
   refine lv rfl rfl (va rfl) (lv rfl rfl (va rfl) ?_)
   refine ln (qn (xt (qr ?_)))
   exact endQ_ret _ (res_two Try.results26 (rv_tmp rfl) (rv_tmp rfl)) H
  ·replace H := H.2 b0
   refine xi (qn (xs ?_))
   refine xk (fun ρ h' => h = h' ∧ Has ρ [(0, (.int .i64 a0)), (2, (.int .i64 a1)), (24, (.bool ((decide (a2 < 2)) || ((decide (a1 < a2)) || (decide (a1 > 16))))))]) ?_ ?_
   ·refine xr ?_
    refine lv rfl rfl (vm rfl) (lv rfl rfl (vr rfl rfl rfl) (lv rfl rfl (vm rfl) ?_))
    rcases bool_or (decide (a2 < 2)) with a3 | a3
    ·refine lo (wanted_n rfl rfl rfl a3) rfl ?_
     refine lo (wanted_n rfl rfl rfl a3) rfl ?_
     refine lo (wanted_n rfl rfl rfl a3) rfl ?_
     refine lv rfl rfl (v := (.bool true)) (hv_pick_t rfl a3 rfl) (lv rfl rfl (vm rfl) ?_)
     refine lo (wanted_n rfl rfl (c := true) rfl rfl) rfl ?_
     refine lo (wanted_n rfl rfl (c := true) rfl rfl) rfl ?_
     refine lv rfl rfl (v := (.bool true)) (hv_pick (t := true) rfl rfl) ?_
     refine ln (qn ?_)
     exact ⟨rfl, (hc rfl (hc rfl (hc (show ((.bool true) : Value) = (.bool ((decide (a2 < 2)) || ((decide (a1 < a2)) || (decide (a1 > 16))))) from (by first | rfl | ((try rw [a3]); all_goals first | rfl | (simp only [Bool.true_or, Bool.or_true, Bool.false_or, Bool.or_false, Bool.true_and, Bool.and_true, Bool.false_and, Bool.and_false, Bool.not_true, Bool.not_false, Bool.cond_true, Bool.cond_false]; done)) | simp [a3])) hn)))⟩
    ·refine ly (wanted_y rfl rfl rfl a3) rfl (HStep.of_val (v := (.int .i64 a1)) (vm rfl) ?_)
     refine ly (wanted_y rfl rfl rfl a3) rfl (HStep.of_val (v := (.int .i64 a2)) (vm rfl) ?_)
     refine ly (wanted_y rfl rfl rfl a3) rfl (HStep.of_val (v := (.bool (decide (a1 < a2)))) (vr rfl rfl rfl) ?_)
     refine lv rfl rfl (v := (.bool (decide (a1 < a2)))) (hv_pick_f rfl a3 rfl) (lv rfl rfl (vm rfl) ?_)
     rcases bool_or (decide (a1 < a2)) with a4 | a4
     ·refine lo (wanted_n rfl rfl rfl a4) rfl ?_
      refine lo (wanted_n rfl rfl rfl a4) rfl ?_
      refine lv rfl rfl (v := (.bool true)) (hv_pick_t rfl a4 rfl) ?_
      refine ln (qn ?_)
      exact ⟨rfl, (hc rfl (hc rfl (hc (show ((.bool true) : Value) = (.bool ((decide (a2 < 2)) || ((decide (a1 < a2)) || (decide (a1 > 16))))) from (by first | rfl | ((try rw [a3]); (try rw [a4]); all_goals first | rfl | (simp only [Bool.true_or, Bool.or_true, Bool.false_or, Bool.or_false, Bool.true_and, Bool.and_true, Bool.false_and, Bool.and_false, Bool.not_true, Bool.not_false, Bool.cond_true, Bool.cond_false]; done)) | simp [a3, a4])) hn)))⟩
     ·refine ly (wanted_y rfl rfl rfl a4) rfl (HStep.of_val (v := (.int .i64 a1)) (vm rfl) ?_)
      refine ly (wanted_y rfl rfl rfl a4) rfl (HStep.of_val (v := (.bool (decide (a1 > 16)))) (vr rfl rfl rfl) ?_)
      refine lv rfl rfl (v := (.bool (decide (a1 > 16)))) (hv_pick_f rfl a4 rfl) ?_
      refine ln (qn ?_)
      exact ⟨rfl, (hc rfl (hc rfl (hc (show ((.bool (decide (a1 > 16))) : Value) = (.bool ((decide (a2 < 2)) || ((decide (a1 < a2)) || (decide (a1 > 16))))) from (by first | rfl | ((try rw [a3]); (try rw [a4]); all_goals first | rfl | (simp only [Bool.true_or, Bool.or_true, Bool.false_or, Bool.or_false, Bool.true_and, Bool.and_true, Bool.false_and, Bool.and_false, Bool.not_true, Bool.not_false, Bool.cond_true, Bool.cond_false]; done)) | simp [a3, a4])) hn)))⟩
   ·rintro ρ _ ⟨rfl, hH⟩
    refine xh _ hH ?_
    refine xc (b := ((decide (a2 < 2)) || ((decide (a1 < a2)) || (decide (a1 > 16))))) rfl (fun a8 => ?_) (fun a8 => ?_)
    ·replace H := H.1 a8
     refine xs (xr ?_)
     refine lv rfl rfl (va rfl) (lv rfl rfl (va rfl) ?_)
     refine ln (qn (xt (qr ?_)))
     exact endQ_ret _ (res_two Try.results26 (rv_tmp rfl) (rv_tmp rfl)) H
    ·replace H := H.2 a8
     refine xi (qn (xs (xr ?_)))
     refine lv rfl rfl (vm rfl) (lv rfl rfl (vm rfl) ?_)
     obtain ⟨b5, b1, b3, H⟩ := H
     refine lp rfl rfl (hn_make (z := (.slice none 0 0)) (zs := [(.slice none 0 0)]) (n := a0) TyShJ.u78 TyShJ.sz47 TyShJ.by47 TyShJ.z47 rfl rfl b5 b1 b3 rfl rfl ?_)
     intro nb h1 b4 a9
     replace H := H nb h1 b4 a9
     have b6 := ext_pushed_f21_sh a9
     refine lv rfl rfl (v := (.agg #[(.int .i64 a1), (.slice (some ⟨nb, 0, none⟩) (Int.toNat a0) (Int.toNat a0))])) (vb (vs := [(0, (.int .i64 a1)), (1, (.slice (some ⟨nb, 0, none⟩) (Int.toNat a0) (Int.toNat a0)))]) (cs := #[(.int .i64 a1), (.slice (some ⟨nb, 0, none⟩) (Int.toNat a0) (Int.toNat a0))]) TyShJ.z80 TyShJ.pl80 rfl (by kernel_rfl)) ?_
     refine lp rfl rfl (hn_box (v := (.agg #[(.int .i64 a1), (.slice (some ⟨nb, 0, none⟩) (Int.toNat a0) (Int.toNat a0))])) rfl ?_)
     intro a6 h2 b2 a7
     replace H := H a6 h2 b2 a7
     have b7 := ext_pushed_f21_sh a7
     refine lv rfl rfl (va rfl) (lv rfl rfl (va rfl) ?_)
     refine ln (qn (xt ?_))
     exact endQ_ret _ (res_two Try.results26 (rv_tmp rfl) (rv_tmp rfl)) H
theorem f36_sh (a3 : Nat) (a2 : Nat) (a1 : Int) (h : Heap) (R : Value → Heap → Prop)
  (H : (∃ x : Option Addr, ∃ a0 a4 : Nat, hcell h a3 (a2 + 1) = some (.slice x a0 a4) ∧ (IntKind.u64.wrap (a0 : Int) ≠ 0 ∧ R (.int .i64 (IntKind.i64.wrap (Int.tmod a1 (IntKind.u64.wrap (a0 : Int))))) h))) :
  HC Try.prog 36 #[(ptr a3 a2), (.int .u64 a1)] h R := by
 refine hc_of (args := [(ptr a3 a2), (.int .u64 a1)]) Try.func36 rfl Try.ntmps36 (Nat.le_of_ble_eq_true rfl) ?_
 refine xs (xr ?_)
 refine lv rfl rfl (va rfl) ?_
 refine ln (qn (xs (xr ?_)))
 refine lv rfl rfl (vm rfl) (lv rfl rfl (vm rfl) (lv rfl rfl (v := (ptr a3 a2)) (hv_nil rfl) (lv rfl rfl (v := (ptr a3 (a2 + 1))) (vf TyShJ.fld80_1 (b := a3) (o := a2) rfl) ?_)))
 obtain ⟨x, a0, a4, a6, H⟩ := H
 refine lv rfl rfl (vl TyShJ.agg78 rfl a6) (lv rfl rfl (v := (.int .i64 (a0 : Int))) (hv_len (n := a0) TyShJ.u78 rfl) (lv rfl rfl (v := (.int .u64 (IntKind.u64.wrap (a0 : Int)))) (hv_convInt TyShJ.u3 TyShJ.u29 rfl) ?_))
 obtain ⟨a5, H⟩ := H
 refine lv rfl rfl (v := (.int .u64 (Int.tmod a1 (IntKind.u64.wrap (a0 : Int))))) (hv_rem rfl rfl a5) (lv rfl rfl (v := (.int .i64 (IntKind.i64.wrap (Int.tmod a1 (IntKind.u64.wrap (a0 : Int)))))) (hv_convInt TyShJ.u29 TyShJ.u3 rfl) (lv rfl rfl (va rfl) ?_))
 refine ln (qn (xt ?_))
 exact endQ_ret _ (res_one Try.results36 (rv_tmp rfl)) H
theorem f53_sh (a4 : Nat) (a5 : Nat) (a2 : Int) (h : Heap) (R : Value → Heap → Prop)
  (H : (∃ r : Int, HC Try.prog 36 #[(ptr a4 a5), (.int .u64 a2)] h (fun vv h' => vv = (.int .i64 r) ∧ h' = h) ∧ (∃ x : Option Addr, ∃ b5 b8 : Nat, hcell h a4 (a5 + 1) = some (.slice x b5 b8) ∧ (∃ b0 a9 : Nat, x = some ⟨b0, a9, none⟩ ∧ (0 : Int) ≤ r ∧ r < (b5 : Int) ∧ (∃ b4 : Option Addr, ∃ a1 b2 : Nat, hcell h b0 (a9 + (Int.toNat r) * 1) = some (.slice b4 a1 b2) ∧ (∃ (I7 : Int → Prop) (b9 : Int → Nat), I7 0 ∧ (∀ (v : Int), I7 v → (((decide (v < (a1 : Int))) = true → (∃ a8 a7 : Nat, b4 = some ⟨a8, a7, none⟩ ∧ (0 : Int) ≤ v ∧ v < (a1 : Int) ∧ (∃ a0 b3 a3 a6 : Int, hcell h a8 (a7 + (Int.toNat v) * 4) = some (.int .u64 a0) ∧ hcell h a8 ((a7 + (Int.toNat v) * 4) + 1) = some (.int .u64 b3) ∧ hcell h a8 ((a7 + (Int.toNat v) * 4) + 2) = some (.int .u64 a3) ∧ hcell h a8 ((a7 + (Int.toNat v) * 4) + 3) = some (.int .u8 a6) ∧ (((decide (a0 ≥ a2)) = true → (∀ (h3 : Heap), Ext h h3 → R (.tuple #[(.int .i64 r), (.int .i64 v), (.bool (a0 == a2))]) h3)) ∧ ((decide (a0 ≥ a2)) = false → (I7 (IntKind.i64.wrap (v + 1)) ∧ b9 (IntKind.i64.wrap (v + 1)) < b9 v)))))) ∧ ((decide (v < (a1 : Int))) = false → ((0 : Int) ≤ r ∧ r < (b5 : Int) ∧ (∀ (h1 : Heap), Ext h h1 → R (.tuple #[(.int .i64 r), (.int .i64 (a1 : Int)), (.bool false)]) h1))))))))))) :
  HC Try.prog 53 #[(ptr a4 a5), (.int .u64 a2)] h R := by
 refine hc_of (args := [(ptr a4 a5), (.int .u64 a2)]) Try.func53 rfl Try.ntmps53 (Nat.le_of_ble_eq_true rfl) ?_
 refine xs (xr ?_)
 refine lv rfl rfl (va rfl) (lv rfl rfl (va rfl) (lv rfl rfl (va rfl) ?_))
 refine ln (qn (xs (xr ?_)))
 refine lv rfl rfl (vm rfl) (lv rfl rfl (vm rfl) ?_)
 obtain ⟨r, e2, H⟩ := H
 refine lv rfl rfl (hv_call TyShJ.cb36 (vs := [(ptr a4 a5), (.int .u64 a2)]) rfl e2) (lv rfl rfl (va rfl) ?_)
 refine ln (qn (xs (xs (xr ?_))))
 refine lv rfl rfl (vm rfl) (lv rfl rfl (v := (ptr a4 a5)) (hv_nil rfl) (lv rfl rfl (v := (ptr a4 (a5 + 1))) (vf TyShJ.fld80_1 (b := a4) (o := a5) rfl) ?_))
 obtain ⟨x, b5, b8, c8, H⟩ := H
 refine lv rfl rfl (vl TyShJ.agg78 rfl c8) (lv rfl rfl (vm rfl) ?_)
 obtain ⟨b0, a9, c5, e3, e4, Hq⟩ := H
 subst c5
 have H := Hq; clear Hq
 refine lv rfl rfl (v := (ptr b0 (a9 + (Int.toNat r) * 1))) (vi TyShJ.el78 rfl rfl e3 e4) ?_
 obtain ⟨b4, a1, b2, c7, H⟩ := H
 refine lv rfl rfl (vl TyShJ.agg47 rfl c7) (lv rfl rfl (v := (.int .i64 (a1 : Int))) (hv_len (n := a1) TyShJ.u47 rfl) (lv rfl rfl (vm rfl) ?_))
 refine ln (qn (xb ?_))
 obtain ⟨I7, b9, e5, d2⟩ := H
 refine xl (σ := Int) (fun s => [(0, (ptr a4 a5)), (1, (.int .u64 a2)), (7, (.int .i64 r)), (19, (.slice b4 a1 b2)), (20, (.int .i64 (a1 : Int))), (21, (.int .i64 s))]) (fun s h' => I7 s ∧ Ext h h' ∧ True) (fun s _ => b9 s) 0 ⟨e5, (Ext.refl _), trivial⟩ (hc rfl (hc rfl (hc rfl (hc rfl (hc rfl (hc rfl hn)))))) ?_
 rintro v ρ h1 ⟨d1, b1, -⟩
 have H := d2 v d1
 refine xs (xr ?_)
 refine lv rfl rfl (vr rfl rfl rfl) ?_
 refine ln (qn (xs ?_))
 refine xc (b := decide (v < (a1 : Int))) rfl (fun b6 => ?_) (fun b6 => ?_)
 ·replace H := H.1 b6
  refine xi (qn (xs (xb (xs (xr ?_)))))
  refine lv rfl rfl (vm rfl) ?_
  obtain ⟨a8, a7, c5, d0, d6, Hq⟩ := H
  subst c5
  have H := Hq; clear Hq
  refine lv rfl rfl (v := (ptr a8 (a7 + (Int.toNat v) * 4))) (vi TyShJ.el47 rfl rfl d0 d6) ?_
  obtain ⟨a0, b3, a3, a6, d7, d4, d3, c9, H⟩ := H
  refine lv rfl rfl (vL (vs := [(.int .u64 a0), (.int .u64 b3), (.int .u64 a3), (.int .u8 a6)]) TyShJ.agg31 TyShJ.sz31 rfl (cc (Ext.cell b1 d7) (cc (Ext.cell b1 d4) (cc (Ext.cell b1 d3) (cc (Ext.cell b1 c9) cn))))) ?_
  refine lp rfl rfl (hn_alloc TyShJ.z31 ?_)
  intro e h2 c1 c6
  have d5 := ext_pushed_f21_sh c6
  have d8 : Array.size h ≤ e := Nat.le_trans (Ext.size b1) (Nat.le_of_eq (Eq.symm c1))
  have c2 : h2[e]? = some (.cells #[(.int .u64 0), (.int .u64 0), (.int .u64 0), (.int .u8 0)] 31 (0, 0)) := by rw [c6]; exact push_new c1
  have e0 := Ext.trans b1 d5
  refine lv rfl rfl (va rfl) ?_
  refine lp rfl rfl (hn_stores (vs := [(.int .u64 a0), (.int .u64 b3), (.int .u64 a3), (.int .u8 a6)]) rfl rfl TyShJ.sz31 rfl (HWs_row c2 (by simp)) ?_)
  intro h3 c4
  have c0 : h3[e]? = some (.cells #[(.int .u64 a0), (.int .u64 b3), (.int .u64 a3), (.int .u8 a6)] 31 (0, 0)) := row_hsets_eq c4 c2 rfl
  have c3 := ext_hsets c4 e0 d8
  refine ln (qn (xs (xr ?_)))
  refine lv rfl rfl (v := (ptr e 0)) (vf TyShJ.fld31_0 (b := e) (o := 0) rfl) (lv rfl rfl (vl TyShJ.agg29 rfl (rc c0 rfl)) (lv rfl rfl (vm rfl) (lv rfl rfl (vr rfl rfl rfl) ?_)))
  refine ln (qn ?_)
  refine xc (b := decide (a0 ≥ a2)) rfl (fun b7 => ?_) (fun b7 => ?_)
  ·replace H := H.1 b7
   refine xs ?_
   refine hx_draw TyShJ.mixed [.pure, .pure, .pure, .read, .pure, .pure, .pure, .pure, .pure] [0, 1, 2, 3, 4, 5, 6, 7, 8] (by kernel_rfl) ?_
   refine pp (i := 0) rfl (wanted_0 rfl) rfl (.int .i64 r) (fun _ => vm rfl) ?_
   refine pp (i := 1) rfl (wanted_0 rfl) rfl (.int .i64 v) (fun _ => vm rfl) ?_
   refine pp (i := 2) rfl (wanted_0 rfl) rfl (ptr e 0) (fun _ => vf TyShJ.fld31_0 (b := e) (o := 0) rfl) ?_
   refine pr (i := 3) rfl (wanted_0 rfl) rfl (.int .u64 a0) (fun _ he => vl TyShJ.agg29 rfl (Ext.cell he (rc c0 rfl))) ?_
   refine pp (i := 4) rfl (wanted_0 rfl) rfl (.int .u64 a2) (fun _ => vm rfl) ?_
   refine pp (i := 5) rfl (wanted_0 rfl) rfl (.bool (a0 == a2)) (fun _ => vr rfl rfl rfl) ?_
   refine pp (i := 6) rfl (wanted_0 rfl) rfl (.int .i64 r) (fun _ => va rfl) ?_
   refine pp (i := 7) rfl (wanted_0 rfl) rfl (.int .i64 v) (fun _ => va rfl) ?_
   refine pp (i := 8) rfl (wanted_0 rfl) rfl (.bool (a0 == a2)) (fun _ => va rfl) ?_
   refine hp_nil ?_
   refine qn (xt (br (qr (qr (br (qr ?_))))))
   replace H := H h3 c3
   exact endQ_ret _ (res_three Try.results53 (rv_tmp rfl) (rv_tmp rfl) (rv_tmp rfl)) H
  ·replace H := H.2 b7
   refine xi (bn (qn (xr ?_)))
   refine lv rfl rfl (vr rfl rfl rfl) (lv rfl rfl (vm rfl) ?_)
   refine ln (qn ?_)
   exact ⟨IntKind.i64.wrap (v + 1), ⟨⟨H.1, c3, trivial⟩, H.2⟩, (hc rfl (hc rfl (hc rfl (hc rfl (hc rfl (hc rfl hn))))))⟩
 ·replace H := H.2 b6
  refine xe (qe (qe (bh (qn (xs ?_)))))
  refine hx_draw TyShJ.mixed [.pure, .pure, .pure, .pure, .read, .pure, .pure, .read, .pure, .pure, .pure, .pure] [0, 1, 2, 3, 4, 5, 6, 7, 8, 9, 10, 11] (by kernel_rfl) ?_
  refine pp (i := 0) rfl (wanted_0 rfl) rfl (.int .i64 r) (fun _ => vm rfl) ?_
  refine pp (i := 1) rfl (wanted_0 rfl) rfl (ptr a4 a5) (fun _ => vm rfl) ?_
  refine pp (i := 2) rfl (wanted_0 rfl) rfl (ptr a4 a5) (fun _ => hv_nil rfl) ?_
  refine pp (i := 3) rfl (wanted_0 rfl) rfl (ptr a4 (a5 + 1)) (fun _ => vf TyShJ.fld80_1 (b := a4) (o := a5) rfl) ?_
  refine pr (i := 4) rfl (wanted_0 rfl) rfl (.slice (some ⟨b0, a9, none⟩) b5 b8) (fun _ he => vl TyShJ.agg78 rfl (Ext.cell he (Ext.cell b1 c8))) ?_
  refine pp (i := 5) rfl (wanted_0 rfl) rfl (.int .i64 r) (fun _ => vm rfl) ?_
  obtain ⟨d9, e1, H⟩ := H
  refine pp (i := 6) rfl (wanted_0 rfl) rfl (ptr b0 (a9 + (Int.toNat r) * 1)) (fun _ => vi TyShJ.el78 rfl rfl d9 e1) ?_
  refine pr (i := 7) rfl (wanted_0 rfl) rfl (.slice b4 a1 b2) (fun _ he => vl TyShJ.agg47 rfl (Ext.cell he (Ext.cell b1 c7))) ?_
  refine pp (i := 8) rfl (wanted_0 rfl) rfl (.int .i64 (a1 : Int)) (fun _ => hv_len (n := a1) TyShJ.u47 rfl) ?_
  refine pp (i := 9) rfl (wanted_0 rfl) rfl (.int .i64 r) (fun _ => va rfl) ?_
  refine pp (i := 10) rfl (wanted_0 rfl) rfl (.int .i64 (a1 : Int)) (fun _ => va rfl) ?_
  refine pp (i := 11) rfl (wanted_0 rfl) rfl (.bool false) (fun _ => va rfl) ?_
  refine hp_nil ?_
  refine qn (xt ?_)
  replace H := H h1 b1
  exact endQ_ret _ (res_three Try.results53 (rv_tmp rfl) (rv_tmp rfl) (rv_tmp rfl)) H
theorem f35_sh (a7 : Nat) (a8 : Nat) (b2 : Int) (h : Heap) (R : Value → Heap → Prop)
  (H : (∀ (pb : Nat) (h1 : Heap), Array.size h ≤ pb → pb < Array.size h1 → Ext h h1 → HC Try.prog 53 #[(ptr a7 a8), (.int .u64 b2)] h1 (fun vv h2 => Kp [pb] h1 h2 ∧ ∃ r0 r1 : Int, ∃ r2 : Bool, vv = (.tuple #[(.int .i64 r0), (.int .i64 r1), (.bool r2)]) ∧ (((!r2) = true → (∀ h3, Fr (fun i => i = pb) h2 h3 → R (.tuple #[(.agg #[(.int .u64 0), (.int .u64 0), (.int .u64 0), (.int .u8 0)]), (.bool false)]) h3)) ∧ ((!r2) = false → (∃ x : Option Addr, ∃ b6 c0 : Nat, hcell h2 a7 (a8 + 1) = some (.slice x b6 c0) ∧ (∃ b1 b0 : Nat, x = some ⟨b1, b0, none⟩ ∧ (0 : Int) ≤ r0 ∧ r0 < (b6 : Int) ∧ (∃ b5 : Option Addr, ∃ a9 b4 : Nat, hcell h2 b1 (b0 + (Int.toNat r0) * 1) = some (.slice b5 a9 b4) ∧ (∃ a4 a3 : Nat, b5 = some ⟨a4, a3, none⟩ ∧ (0 : Int) ≤ r1 ∧ r1 < (a9 : Int) ∧ (∃ a1 a6 a0 a2 : Int, hcell h2 a4 (a3 + (Int.toNat r1) * 4) = some (.int .u64 a1) ∧ hcell h2 a4 ((a3 + (Int.toNat r1) * 4) + 1) = some (.int .u64 a6) ∧ hcell h2 a4 ((a3 + (Int.toNat r1) * 4) + 2) = some (.int .u64 a0) ∧ hcell h2 a4 ((a3 + (Int.toNat r1) * 4) + 3) = some (.int .u8 a2) ∧ (∀ h4, Fr (fun i => i = pb) h2 h4 → R (.tuple #[(.agg #[(.int .u64 a1), (.int .u64 a6), (.int .u64 a0), (.int .u8 a2)]), (.bool true)]) h4))))))))))) :
  HC Try.prog 35 #[(ptr a7 a8), (.int .u64 b2)] h R := by
 refine hc_of (args := [(ptr a7 a8), (.int .u64 b2)]) Try.func35 rfl Try.ntmps35 (Nat.le_of_ble_eq_true rfl) ?_
 refine xs (xr ?_)
 refine lp rfl rfl (hn_alloc TyShJ.z31 ?_)
 intro pb h1 c3 c2
 have d5 := ext_pushed_f21_sh c2
 have d6 : Array.size h ≤ pb := Nat.le_of_eq (Eq.symm c3)
 have b3 : h1[pb]? = some (.cells #[(.int .u64 0), (.int .u64 0), (.int .u64 0), (.int .u8 0)] 31 (0, 0)) := by rw [c2]; exact push_new c3
 refine lv rfl rfl (va rfl) ?_
 refine ln (qn (xs (xr ?_)))
 refine lv rfl rfl (vm rfl) (lv rfl rfl (vm rfl) ?_)
 replace H := H pb h1 d6 (row_lt b3) d5
 refine lp rfl rfl (sc TyShJ.cb53 rfl (HC.mono H ?_))
 rintro _ h2 ⟨d4, r0, r1, r2, rfl, H⟩
 replace b3 := Kp.row d4 (by simp) b3
 refine lv rfl rfl (vm rfl) (lv rfl rfl (vx rfl rfl) (lv rfl rfl (vx rfl rfl) (lv rfl rfl (vx rfl rfl) (lv rfl rfl (va rfl) (lv rfl rfl (va rfl) ?_)))))
 refine lv rfl rfl (va rfl) ?_
 refine ln (qn (xs (xs (xr ?_))))
 refine lv rfl rfl (vm rfl) (lv rfl rfl (v := (.bool (!r2))) (hv_not (b := r2) rfl) ?_)
 refine ln (qn ?_)
 refine xc (b := !r2) rfl (fun b7 => ?_) (fun b7 => ?_)
 ·replace H := H.1 b7
  refine xs (xr ?_)
  refine lv rfl rfl (v := (.agg #[(.int .u64 0), (.int .u64 0), (.int .u64 0), (.int .u8 0)])) (vb (vs := []) (cs := #[(.int .u64 0), (.int .u64 0), (.int .u64 0), (.int .u8 0)]) TyShJ.z31 TyShJ.pl31 rfl (by kernel_rfl)) ?_
  refine lp rfl rfl (hn_stores (vs := [(.int .u64 0), (.int .u64 0), (.int .u64 0), (.int .u8 0)]) rfl rfl TyShJ.sz31 rfl (HWs_row b3 (by simp)) ?_)
  intro h3 c1
  have a5 : h3[pb]? = some (.cells #[(.int .u64 0), (.int .u64 0), (.int .u64 0), (.int .u8 0)] 31 (0, 0)) := row_hsets_eq c1 b3 rfl
  replace H := H h3 (fr_hsets_of c1)
  refine lv rfl rfl (va rfl) ?_
  refine ln (qn (xt (qr ?_)))
  exact endQ_ret _ (res_two Try.results35 (rv_cell (vs := [(.int .u64 0), (.int .u64 0), (.int .u64 0), (.int .u8 0)]) TyShJ.agg31 TyShJ.sz31 rfl (cc (rc a5 rfl) (cc (rc a5 rfl) (cc (rc a5 rfl) (cc (rc a5 rfl) cn))))) (rv_tmp rfl)) H
 ·replace H := H.2 b7
  refine xi (qn (xs (xr ?_)))
  refine lv rfl rfl (vm rfl) (lv rfl rfl (v := (ptr a7 a8)) (hv_nil rfl) (lv rfl rfl (v := (ptr a7 (a8 + 1))) (vf TyShJ.fld80_1 (b := a7) (o := a8) rfl) ?_))
  obtain ⟨x, b6, c0, d3, H⟩ := H
  refine lv rfl rfl (vl TyShJ.agg78 rfl d3) (lv rfl rfl (vm rfl) ?_)
  obtain ⟨b1, b0, b9, c7, d1, Hq⟩ := H
  subst b9
  have H := Hq; clear Hq
  refine lv rfl rfl (v := (ptr b1 (b0 + (Int.toNat r0) * 1))) (vi TyShJ.el78 rfl rfl c7 d1) ?_
  obtain ⟨b5, a9, b4, d2, H⟩ := H
  refine lv rfl rfl (vl TyShJ.agg47 rfl d2) (lv rfl rfl (vm rfl) ?_)
  obtain ⟨a4, a3, b9, c5, c9, Hq⟩ := H
  subst b9
  have H := Hq; clear Hq
  refine lv rfl rfl (v := (ptr a4 (a3 + (Int.toNat r1) * 4))) (vi TyShJ.el47 rfl rfl c5 c9) ?_
  obtain ⟨a1, a6, a0, a2, d0, c8, c6, c4, H⟩ := H
  refine lv rfl rfl (vL (vs := [(.int .u64 a1), (.int .u64 a6), (.int .u64 a0), (.int .u8 a2)]) TyShJ.agg31 TyShJ.sz31 rfl (cc d0 (cc c8 (cc c6 (cc c4 cn))))) ?_
  refine lp rfl rfl (hn_stores (vs := [(.int .u64 a1), (.int .u64 a6), (.int .u64 a0), (.int .u8 a2)]) rfl rfl TyShJ.sz31 rfl (HWs_row b3 (by simp)) ?_)
  intro h4 b8
  have a5 : h4[pb]? = some (.cells #[(.int .u64 a1), (.int .u64 a6), (.int .u64 a0), (.int .u8 a2)] 31 (0, 0)) := row_hsets_eq b8 b3 rfl
  replace H := H h4 (fr_hsets_of b8)
  refine lv rfl rfl (va rfl) ?_
  refine ln (qn (xt ?_))
  exact endQ_ret _ (res_two Try.results35 (rv_cell (vs := [(.int .u64 a1), (.int .u64 a6), (.int .u64 a0), (.int .u8 a2)]) TyShJ.agg31 TyShJ.sz31 rfl (cc (rc a5 rfl) (cc (rc a5 rfl) (cc (rc a5 rfl) (cc (rc a5 rfl) cn))))) (rv_tmp rfl)) H
theorem f34_sh (a2 : Nat) (a3 : Nat) (a5 : Int) (b2 : Int) (a0 : Int) (a9 : Int) (h : Heap) (R : Value → Heap → Prop)
  (H : (((b2 == 0) = true → (∀ (h3 : Heap), Ext h h3 → R (.tuple #[(.agg #[(.int .u64 0), (.int .u64 0), (.int .u64 0), (.int .u8 0)]), (.bool false), (.int .i64 1)]) h3)) ∧ ((b2 == 0) = false → (∀ (e : Nat) (pb : Nat) (h2 : Heap), Array.size h ≤ e → e < Array.size h2 → Array.size h ≤ pb → pb < Array.size h2 → Ext h h2 → HC Try.prog 53 #[(ptr a2 a3), (.int .u64 a5)] h2 (fun vv h4 => Kp [e, pb] h2 h4 ∧ ∃ r0 r1 : Int, ∃ r2 : Bool, vv = (.tuple #[(.int .i64 r0), (.int .i64 r1), (.bool r2)]) ∧ ((r2 = true → (∃ x : Option Addr, ∃ c6 d3 : Nat, hcell h4 a2 (a3 + 1) = some (.slice x c6 d3) ∧ (∃ b7 b6 : Nat, x = some ⟨b7, b6, none⟩ ∧ (0 : Int) ≤ r0 ∧ r0 < (c6 : Int) ∧ (∃ d4 : Option Addr, ∃ a8 c3 : Nat, hcell h4 b7 (b6 + (Int.toNat r0) * 1) = some (.slice d4 a8 c3) ∧ (∃ b4 b5 : Nat, d4 = some ⟨b4, b5, none⟩ ∧ (0 : Int) ≤ r1 ∧ r1 < (a8 : Int) ∧ (∃ b0 b8 a1 b1 : Int, hcell h4 b4 (b5 + (Int.toNat r1) * 4) = some (.int .u64 b0) ∧ hcell h4 b4 ((b5 + (Int.toNat r1) * 4) + 1) = some (.int .u64 b8) ∧ hcell h4 b4 ((b5 + (Int.toNat r1) * 4) + 2) = some (.int .u64 a1) ∧ hcell h4 b4 ((b5 + (Int.toNat r1) * 4) + 3) = some (.int .u8 b1) ∧ (((decide (a1 > a0)) = true → (∀ (c2 : Nat) (h6 : Heap), Array.size h4 ≤ c2 → c2 < Array.size h6 → Ext h4 h6 → (∀ h7, Fr (fun i => i = pb) h6 h7 → R (.tuple #[(.agg #[(.int .u64 0), (.int .u64 0), (.int .u64 0), (.int .u8 0)]), (.bool false), (.int .i64 120)]) h7))) ∧ ((decide (a1 > a0)) = false → (∀ (c2 : Nat) (h6 : Heap), Array.size h4 ≤ c2 → c2 < Array.size h6 → Ext h4 h6 → (HWs h6 b4 (b5 + (Int.toNat r1) * 4) 4 ∧ Off b4 [e, pb, c2] ∧ ∀ h8, h8 = hsets h6 b4 (b5 + (Int.toNat r1) * 4) [(.int .u64 a5), (.int .u64 b2), (.int .u64 a0), (.int .u8 a9)] → (∀ h9, Fr (fun i => i = pb) h8 h9 → R (.tuple #[(.agg #[(.int .u64 b0), (.int .u64 b8), (.int .u64 a1), (.int .u8 b1)]), (.bool true), (.int .i64 0)]) h9))))))))))) ∧ (r2 = false → (∃ x : Option Addr, ∃ c6 d3 : Nat, hcell h4 a2 (a3 + 1) = some (.slice x c6 d3) ∧ (∃ b7 b6 : Nat, x = some ⟨b7, b6, none⟩ ∧ (0 : Int) ≤ r0 ∧ r0 < (c6 : Int) ∧ (∃ d4 : Option Addr, ∃ a8 c3 : Nat, hcell h4 b7 (b6 + (Int.toNat r0) * 1) = some (.slice d4 a8 c3) ∧ (∃ c7 : Int, hcell h4 a2 a3 = some (.int .i64 c7) ∧ ((0 : Int) ≤ c7 ∧ (((decide ((IntKind.i64.wrap (8 * (IntKind.i64.wrap ((a8 : Int) + 1)))) > (IntKind.i64.wrap (7 * (IntKind.i64.wrap (1 * 2 ^ min (Int.toNat c7) 64)))))) = true → (∀ g7, Fr (fun i => i = pb) h4 g7 → R (.tuple #[(.agg #[(.int .u64 0), (.int .u64 0), (.int .u64 0), (.int .u8 0)]), (.bool false), (.int .i64 2)]) g7)) ∧ ((decide ((IntKind.i64.wrap (8 * (IntKind.i64.wrap ((a8 : Int) + 1)))) > (IntKind.i64.wrap (7 * (IntKind.i64.wrap (1 * 2 ^ min (Int.toNat c7) 64)))))) = false → (∀ nb d2, nb = Array.size h4 → d2 = Array.push h4 (.cells #[] 31) → (∃ j2 : Option Addr, ∃ d6 f8 : Nat, hcell d2 a2 (a3 + 1) = some (.slice j2 d6 f8) ∧ (∃ e1 d9 : Nat, j2 = some ⟨e1, d9, none⟩ ∧ (0 : Int) ≤ r0 ∧ r0 < (d6 : Int) ∧ (∃ g4 : Option Addr, ∃ g1 c0 : Nat, hcell d2 e1 (d9 + (Int.toNat r0) * 1) = some (.slice g4 g1 c0) ∧ (0 ≤ ((0 : Int) : Int) ∧ (0 : Int) ≤ r1 ∧ r1 ≤ (c0 : Int) ∧ ∀ sl : Option Addr, sl = slA g4 (Int.toNat 0) 4 c0 → HAppend Try.prog 47 47 (.slice (some ⟨nb, 0, none⟩) 0 0) (.slice sl (Int.toNat r1 - Int.toNat 0) (c0 - Int.toNat 0)) d2 (fun vv d5 => Kp [e, pb] d2 d5 ∧ ∃ ap : Option Addr, ∃ e4 e8 : Nat, vv = (.slice ap e4 e8) ∧ (∃ d1 : Heap → Heap → Prop, Fit d1 ∧ (∃ j1 : Option Addr, ∃ e2 f2 : Nat, (∀ hx, d1 d5 hx → hcell hx a2 (a3 + 1) = some (.slice j1 e2 f2)) ∧ (∃ j3 : Option Addr, ∃ d8 f4 : Nat, (∀ hx, d1 d5 hx → hcell hx a2 (a3 + 1) = some (.slice j3 d8 f4)) ∧ (∃ e0 d7 : Nat, j3 = some ⟨e0, d7, none⟩ ∧ (0 : Int) ≤ r0 ∧ r0 < (d8 : Int) ∧ (∃ g6 : Option Addr, ∃ c1 b9 : Nat, (∀ hx, d1 d5 hx → hcell hx e0 (d7 + (Int.toNat r0) * 1) = some (.slice g6 c1 b9)) ∧ (0 ≤ (r1 : Int) ∧ r1 ≤ (c1 : Int) ∧ (c1 : Int) ≤ (b9 : Int) ∧ ∀ e5 : Option Addr, e5 = slA g6 (Int.toNat r1) 4 b9 → (∀ f6 e6, f6 = Array.size d5 → e6 = Array.push d5 (.cells #[(.int .u64 a5), (.int .u64 b2), (.int .u64 a0), (.int .u8 a9)] 31) → HAppend Try.prog 47 47 (.slice ap e4 e8) (.slice (some ⟨f6, 0, none⟩) 1 1) e6 (fun vv e9 => d1 e6 e9 ∧ Kp [pb] e6 e9 ∧ ∃ g8 : Option Addr, ∃ e3 e7 : Nat, vv = (.slice g8 e3 e7) ∧ HAppend Try.prog 47 47 (.slice g8 e3 e7) (.slice e5 (Int.toNat (c1 : Int) - Int.toNat r1) (b9 - Int.toNat r1)) e9 (fun vv g3 => d1 e9 g3 ∧ Kp [pb] e9 g3 ∧ ∃ f0 : Option Addr, ∃ c8 c9 : Nat, vv = (.slice f0 c8 c9) ∧ (∃ c5 d0 : Nat, j1 = some ⟨c5, d0, none⟩ ∧ (0 : Int) ≤ r0 ∧ r0 < (e2 : Int) ∧ (HW g3 c5 (d0 + (Int.toNat r0) * 1) ∧ Off c5 [pb] ∧ ∀ j0, j0 = hset g3 c5 (d0 + (Int.toNat r0) * 1) (.slice f0 c8 c9) → (∀ g5, Fr (fun i => i = pb) j0 g5 → R (.tuple #[(.agg #[(.int .u64 0), (.int .u64 0), (.int .u64 0), (.int .u8 0)]), (.bool false), (.int .i64 0)]) g5)))))))))))))))))))))))))))))))) :
  HC Try.prog 34 #[(ptr a2 a3), (.agg #[(.int .u64 a5), (.int .u64 b2), (.int .u64 a0), (.int .u8 a9)])] h R := by
 refine hc_of (args := [(ptr a2 a3), (.agg #[(.int .u64 a5), (.int .u64 b2), (.int .u64 a0), (.int .u8 a9)])]) Try.func34 rfl Try.ntmps34 (Nat.le_of_ble_eq_true rfl) ?_
 refine xs (xr ?_)
 refine lp rfl rfl (hn_box (v := (.agg #[(.int .u64 a5), (.int .u64 b2), (.int .u64 a0), (.int .u8 a9)])) rfl ?_)
 intro e h1 l5 l3
 have l2 := ext_pushed_f21_sh l3
 have p6 : Array.size h ≤ e := Nat.le_of_eq (Eq.symm l5)
 have a4 : h1[e]? = some (.cells #[(.int .u64 a5), (.int .u64 b2), (.int .u64 a0), (.int .u8 a9)] 31 (0, 0)) := by rw [l3]; exact push_new l5
 refine lp rfl rfl (hn_alloc TyShJ.z31 ?_)
 intro pb h2 l0 l4
 have l6 := ext_pushed_f21_sh l4
 have g0 := Nat.ne_of_lt (Nat.lt_of_lt_of_eq (row_lt a4) (Eq.symm l0))
 have k8 : Array.size h ≤ pb := Nat.le_trans (Ext.size l2) (Nat.le_of_eq (Eq.symm l0))
 have a7 : h2[pb]? = some (.cells #[(.int .u64 0), (.int .u64 0), (.int .u64 0), (.int .u8 0)] 31 (0, 0)) := by rw [l4]; exact push_new l0
 replace a4 := Ext.row l6 a4
 have l1 := Ext.trans l2 l6
 refine lv rfl rfl (va rfl) (lv rfl rfl (va rfl) ?_)
 refine ln (qn (xs (xs (xr ?_))))
 refine lv rfl rfl (v := (ptr e 1)) (vf TyShJ.fld31_1 (b := e) (o := 0) rfl) (lv rfl rfl (vl TyShJ.agg29 rfl (rc a4 rfl)) (lv rfl rfl (vr rfl rfl rfl) ?_))
 refine ln (qn ?_)
 refine xc (b := b2 == 0) rfl (fun g9 => ?_) (fun g9 => ?_)
 ·replace H := H.1 g9
  refine xs (xr ?_)
  refine lv rfl rfl (v := (.agg #[(.int .u64 0), (.int .u64 0), (.int .u64 0), (.int .u8 0)])) (vb (vs := []) (cs := #[(.int .u64 0), (.int .u64 0), (.int .u64 0), (.int .u8 0)]) TyShJ.z31 TyShJ.pl31 rfl (by kernel_rfl)) ?_
  refine lp rfl rfl (hn_stores (vs := [(.int .u64 0), (.int .u64 0), (.int .u64 0), (.int .u8 0)]) rfl rfl TyShJ.sz31 rfl (HWs_row a7 (by simp)) ?_)
  intro h3 i6
  replace a4 := row_hsets_ne i6 g0 a4
  have a6 : h3[pb]? = some (.cells #[(.int .u64 0), (.int .u64 0), (.int .u64 0), (.int .u8 0)] 31 (0, 0)) := row_hsets_eq i6 a7 rfl
  have n8 := ext_hsets i6 l1 k8
  refine lv rfl rfl (va rfl) (lv rfl rfl (va rfl) ?_)
  refine ln (qn (xt (qr ?_)))
  replace H := H h3 n8
  exact endQ_ret _ (res_three Try.results34 (rv_cell (vs := [(.int .u64 0), (.int .u64 0), (.int .u64 0), (.int .u8 0)]) TyShJ.agg31 TyShJ.sz31 rfl (cc (rc a6 rfl) (cc (rc a6 rfl) (cc (rc a6 rfl) (cc (rc a6 rfl) cn))))) (rv_tmp rfl) (rv_tmp rfl)) H
 ·replace H := H.2 g9
  refine xi (qn (xs (xr ?_)))
  refine lv rfl rfl (vm rfl) (lv rfl rfl (v := (ptr e 0)) (vf TyShJ.fld31_0 (b := e) (o := 0) rfl) (lv rfl rfl (vl TyShJ.agg29 rfl (rc a4 rfl)) ?_))
  replace H := H e pb h2 p6 (row_lt a4) k8 (row_lt a7) l1
  refine lp rfl rfl (sc TyShJ.cb53 rfl (HC.mono H ?_))
  rintro _ h4 ⟨j5, r0, r1, r2, rfl, H⟩
  replace a4 := Kp.row j5 (by simp) a4
  replace a7 := Kp.row j5 (by simp) a7
  refine lv rfl rfl (vm rfl) (lv rfl rfl (vx rfl rfl) (lv rfl rfl (vx rfl rfl) (lv rfl rfl (vx rfl rfl) (lv rfl rfl (va rfl) (lv rfl rfl (va rfl) ?_)))))
  refine lv rfl rfl (va rfl) ?_
  refine ln (qn (xs (xs (xr ?_))))
  refine lv rfl rfl (vm rfl) ?_
  refine ln (qn ?_)
  refine xc (b := r2) rfl (fun i8 => ?_) (fun i8 => ?_)
  ·replace H := H.1 i8
   refine xs (xr ?_)
   refine lv rfl rfl (vm rfl) (lv rfl rfl (v := (ptr a2 a3)) (hv_nil rfl) (lv rfl rfl (v := (ptr a2 (a3 + 1))) (vf TyShJ.fld80_1 (b := a2) (o := a3) rfl) ?_))
   obtain ⟨x, c6, d3, j4, H⟩ := H
   refine lv rfl rfl (vl TyShJ.agg78 rfl j4) (lv rfl rfl (vm rfl) ?_)
   obtain ⟨b7, b6, c4, j9, j6, Hq⟩ := H
   subst c4
   have H := Hq; clear Hq
   refine lv rfl rfl (v := (ptr b7 (b6 + (Int.toNat r0) * 1))) (vi TyShJ.el78 rfl rfl j9 j6) ?_
   obtain ⟨d4, a8, c3, k3, H⟩ := H
   refine lv rfl rfl (vl TyShJ.agg47 rfl k3) (lv rfl rfl (vm rfl) ?_)
   obtain ⟨b4, b5, c4, k1, k7, Hq⟩ := H
   subst c4
   have H := Hq; clear Hq
   refine lv rfl rfl (v := (ptr b4 (b5 + (Int.toNat r1) * 4))) (vi TyShJ.el47 rfl rfl k1 k7) ?_
   obtain ⟨b0, b8, a1, b1, o5, m7, o2, l9, H⟩ := H
   refine lv rfl rfl (vL (vs := [(.int .u64 b0), (.int .u64 b8), (.int .u64 a1), (.int .u8 b1)]) TyShJ.agg31 TyShJ.sz31 rfl (cc o5 (cc m7 (cc o2 (cc l9 cn))))) ?_
   refine lp rfl rfl (hn_alloc TyShJ.z31 ?_)
   intro c2 h5 f7 k2
   have i3 := ext_pushed_f21_sh k2
   have n1 := Nat.ne_of_lt (Nat.lt_of_lt_of_eq (row_lt a4) (Eq.symm f7))
   have i2 := Nat.ne_of_lt (Nat.lt_of_lt_of_eq (row_lt a7) (Eq.symm f7))
   have i1 : Array.size h4 ≤ c2 := Nat.le_of_eq (Eq.symm f7)
   have k5 : h5[c2]? = some (.cells #[(.int .u64 0), (.int .u64 0), (.int .u64 0), (.int .u8 0)] 31 (0, 0)) := by rw [k2]; exact push_new f7
   replace a4 := Ext.row i3 a4
   replace a7 := Ext.row i3 a7
   refine lp rfl rfl (hn_stores (vs := [(.int .u64 b0), (.int .u64 b8), (.int .u64 a1), (.int .u8 b1)]) rfl rfl TyShJ.sz31 rfl (HWs_row k5 (by simp)) ?_)
   intro h6 g2
   replace a4 := row_hsets_ne g2 n1 a4
   replace a7 := row_hsets_ne g2 i2 a7
   have b3 : h6[c2]? = some (.cells #[(.int .u64 b0), (.int .u64 b8), (.int .u64 a1), (.int .u8 b1)] 31 (0, 0)) := row_hsets_eq g2 k5 rfl
   have f9 := ext_hsets g2 i3 i1
   refine ln (qn (xs (xs (xr ?_))))
   refine lv rfl rfl (v := (ptr c2 2)) (vf TyShJ.fld31_2 (b := c2) (o := 0) rfl) (lv rfl rfl (vl TyShJ.agg29 rfl (rc b3 rfl)) (lv rfl rfl (v := (ptr e 2)) (vf TyShJ.fld31_2 (b := e) (o := 0) rfl) (lv rfl rfl (vl TyShJ.agg29 rfl (rc a4 rfl)) (lv rfl rfl (vr rfl rfl rfl) ?_))))
   refine ln (qn ?_)
   refine xc (b := decide (a1 > a0)) rfl (fun i9 => ?_) (fun i9 => ?_)
   ·replace H := H.1 i9
    refine xs (xr ?_)
    refine lv rfl rfl (v := (.agg #[(.int .u64 0), (.int .u64 0), (.int .u64 0), (.int .u8 0)])) (vb (vs := []) (cs := #[(.int .u64 0), (.int .u64 0), (.int .u64 0), (.int .u8 0)]) TyShJ.z31 TyShJ.pl31 rfl (by kernel_rfl)) ?_
    replace H := H c2 h6 i1 (row_lt b3) f9
    refine lp rfl rfl (hn_stores (vs := [(.int .u64 0), (.int .u64 0), (.int .u64 0), (.int .u8 0)]) rfl rfl TyShJ.sz31 rfl (HWs_row a7 (by simp)) ?_)
    intro h7 f1
    replace a4 := row_hsets_ne f1 g0 a4
    replace b3 := row_hsets_ne f1 (Ne.symm i2) b3
    have a6 : h7[pb]? = some (.cells #[(.int .u64 0), (.int .u64 0), (.int .u64 0), (.int .u8 0)] 31 (0, 0)) := row_hsets_eq f1 a7 rfl
    replace H := H h7 (fr_hsets_of f1)
    refine lv rfl rfl (va rfl) (lv rfl rfl (va rfl) ?_)
    refine ln (qn (xt (qr (qr ?_))))
    exact endQ_ret _ (res_three Try.results34 (rv_cell (vs := [(.int .u64 0), (.int .u64 0), (.int .u64 0), (.int .u8 0)]) TyShJ.agg31 TyShJ.sz31 rfl (cc (rc a6 rfl) (cc (rc a6 rfl) (cc (rc a6 rfl) (cc (rc a6 rfl) cn))))) (rv_tmp rfl) (rv_tmp rfl)) H
   ·replace H := H.2 i9
    refine xi (qn (xs ?_))
    refine hx_draw TyShJ.mixed [.pure, .pure, .pure, .read, .pure, .pure, .read, .pure, .read, .pure, .wild] [0, 1, 2, 3, 4, 5, 6, 7, 8, 9, 10] (by kernel_rfl) ?_
    refine pp (i := 0) rfl (wanted_0 rfl) rfl (ptr a2 a3) (fun _ => vm rfl) ?_
    refine pp (i := 1) rfl (wanted_0 rfl) rfl (ptr a2 a3) (fun _ => hv_nil rfl) ?_
    refine pp (i := 2) rfl (wanted_0 rfl) rfl (ptr a2 (a3 + 1)) (fun _ => vf TyShJ.fld80_1 (b := a2) (o := a3) rfl) ?_
    refine pr (i := 3) rfl (wanted_0 rfl) rfl (.slice (some ⟨b7, b6, none⟩) c6 d3) (fun _ he => vl TyShJ.agg78 rfl (Ext.cell he (Ext.cell f9 j4))) ?_
    refine pp (i := 4) rfl (wanted_0 rfl) rfl (.int .i64 r0) (fun _ => vm rfl) ?_
    refine pp (i := 5) rfl (wanted_0 rfl) rfl (ptr b7 (b6 + (Int.toNat r0) * 1)) (fun _ => vi TyShJ.el78 rfl rfl j9 j6) ?_
    refine pr (i := 6) rfl (wanted_0 rfl) rfl (.slice (some ⟨b4, b5, none⟩) a8 c3) (fun _ he => vl TyShJ.agg47 rfl (Ext.cell he (Ext.cell f9 k3))) ?_
    refine pp (i := 7) rfl (wanted_0 rfl) rfl (.int .i64 r1) (fun _ => vm rfl) ?_
    refine pr (i := 8) rfl (wanted_0 rfl) rfl (.agg #[(.int .u64 a5), (.int .u64 b2), (.int .u64 a0), (.int .u8 a9)]) (fun _ he => vL (vs := [(.int .u64 a5), (.int .u64 b2), (.int .u64 a0), (.int .u8 a9)]) TyShJ.agg31 TyShJ.sz31 rfl (cc (Ext.cell he (rc a4 rfl)) (cc (Ext.cell he (rc a4 rfl)) (cc (Ext.cell he (rc a4 rfl)) (cc (Ext.cell he (rc a4 rfl)) cn))))) ?_
    refine pp (i := 9) rfl (wanted_0 rfl) rfl (ptr b4 (b5 + (Int.toNat r1) * 4)) (fun _ => vi TyShJ.el47 rfl rfl k1 k7) ?_
    replace H := H c2 h6 i1 (row_lt b3) f9
    obtain ⟨n3, i0, H⟩ := H
    refine hp_wild (i := 10) rfl (wanted_0 rfl) rfl (hn_stores (vs := [(.int .u64 a5), (.int .u64 b2), (.int .u64 a0), (.int .u8 a9)]) rfl rfl TyShJ.sz31 rfl n3 ?_)
    intro h8 f5
    replace H := H h8 f5
    replace a4 := row_hsets_ne f5 (i0 _ (by simp)) a4
    replace a7 := row_hsets_ne f5 (i0 _ (by simp)) a7
    replace b3 := row_hsets_ne f5 (i0 _ (by simp)) b3
    refine hp_nil ?_
    refine qn (xs (xr ?_))
    refine lv rfl rfl (vL (vs := [(.int .u64 b0), (.int .u64 b8), (.int .u64 a1), (.int .u8 b1)]) TyShJ.agg31 TyShJ.sz31 rfl (cc (rc b3 rfl) (cc (rc b3 rfl) (cc (rc b3 rfl) (cc (rc b3 rfl) cn))))) ?_
    refine lp rfl rfl (hn_stores (vs := [(.int .u64 b0), (.int .u64 b8), (.int .u64 a1), (.int .u8 b1)]) rfl rfl TyShJ.sz31 rfl (HWs_row a7 (by simp)) ?_)
    intro h9 f3
    replace a4 := row_hsets_ne f3 g0 a4
    replace b3 := row_hsets_ne f3 (Ne.symm i2) b3
    have a6 : h9[pb]? = some (.cells #[(.int .u64 b0), (.int .u64 b8), (.int .u64 a1), (.int .u8 b1)] 31 (0, 0)) := row_hsets_eq f3 a7 rfl
    replace H := H h9 (fr_hsets_of f3)
    refine lv rfl rfl (va rfl) (lv rfl rfl (va rfl) ?_)
    refine ln (qn (xt (qr ?_)))
    exact endQ_ret _ (res_three Try.results34 (rv_cell (vs := [(.int .u64 b0), (.int .u64 b8), (.int .u64 a1), (.int .u8 b1)]) TyShJ.agg31 TyShJ.sz31 rfl (cc (rc a6 rfl) (cc (rc a6 rfl) (cc (rc a6 rfl) (cc (rc a6 rfl) cn))))) (rv_tmp rfl) (rv_tmp rfl)) H
  ·replace H := H.2 i8
   refine xi (qn (xs (xs ?_)))
   refine hx_draw TyShJ.mixed [.pure, .pure, .pure, .read, .pure, .pure, .read, .pure, .pure, .pure, .pure, .pure, .pure, .read, .pure, .pure, .pure] [0, 1, 2, 3, 4, 5, 6, 7, 8, 9, 10, 11, 12, 13, 14, 15, 16] (by kernel_rfl) ?_
   refine pp (i := 0) rfl (wanted_0 rfl) rfl (ptr a2 a3) (fun _ => vm rfl) ?_
   refine pp (i := 1) rfl (wanted_0 rfl) rfl (ptr a2 a3) (fun _ => hv_nil rfl) ?_
   refine pp (i := 2) rfl (wanted_0 rfl) rfl (ptr a2 (a3 + 1)) (fun _ => vf TyShJ.fld80_1 (b := a2) (o := a3) rfl) ?_
   obtain ⟨x, c6, d3, n9, H⟩ := H
   refine pr (i := 3) rfl (wanted_0 rfl) rfl (.slice x c6 d3) (fun _ he => vl TyShJ.agg78 rfl (Ext.cell he n9)) ?_
   refine pp (i := 4) rfl (wanted_0 rfl) rfl (.int .i64 r0) (fun _ => vm rfl) ?_
   obtain ⟨b7, b6, c4, p2, o7, Hq⟩ := H
   subst c4
   have H := Hq; clear Hq
   refine pp (i := 5) rfl (wanted_0 rfl) rfl (ptr b7 (b6 + (Int.toNat r0) * 1)) (fun _ => vi TyShJ.el78 rfl rfl p2 o7) ?_
   obtain ⟨d4, a8, c3, o3, H⟩ := H
   refine pr (i := 6) rfl (wanted_0 rfl) rfl (.slice d4 a8 c3) (fun _ he => vl TyShJ.agg47 rfl (Ext.cell he o3)) ?_
   refine pp (i := 7) rfl (wanted_0 rfl) rfl (.int .i64 (a8 : Int)) (fun _ => hv_len (n := a8) TyShJ.u47 rfl) ?_
   refine pp (i := 8) rfl (wanted_0 rfl) rfl (.int .i64 (IntKind.i64.wrap ((a8 : Int) + 1))) (fun _ => vr rfl rfl rfl) ?_
   refine pp (i := 9) rfl (wanted_0 rfl) rfl (.int .i64 (IntKind.i64.wrap (8 * (IntKind.i64.wrap ((a8 : Int) + 1))))) (fun _ => vr rfl rfl rfl) ?_
   refine pp (i := 10) rfl (wanted_0 rfl) rfl (ptr a2 a3) (fun _ => vm rfl) ?_
   refine pp (i := 11) rfl (wanted_0 rfl) rfl (ptr a2 a3) (fun _ => hv_nil rfl) ?_
   refine pp (i := 12) rfl (wanted_0 rfl) rfl (ptr a2 a3) (fun _ => vf TyShJ.fld80_0 (b := a2) (o := a3) rfl) ?_
   obtain ⟨c7, l7, H⟩ := H
   refine pr (i := 13) rfl (wanted_0 rfl) rfl (.int .i64 c7) (fun _ he => vl TyShJ.agg3 rfl (Ext.cell he l7)) ?_
   obtain ⟨n5, H⟩ := H
   refine pp (i := 14) rfl (wanted_0 rfl) rfl (.int .i64 (IntKind.i64.wrap (1 * 2 ^ min (Int.toNat c7) 64))) (fun _ => hv_shift rfl rfl n5 rfl) ?_
   refine pp (i := 15) rfl (wanted_0 rfl) rfl (.int .i64 (IntKind.i64.wrap (7 * (IntKind.i64.wrap (1 * 2 ^ min (Int.toNat c7) 64))))) (fun _ => vr rfl rfl rfl) ?_
   refine pp (i := 16) rfl (wanted_0 rfl) rfl (.bool (decide ((IntKind.i64.wrap (8 * (IntKind.i64.wrap ((a8 : Int) + 1)))) > (IntKind.i64.wrap (7 * (IntKind.i64.wrap (1 * 2 ^ min (Int.toNat c7) 64))))))) (fun _ => vr rfl rfl rfl) ?_
   refine hp_nil ?_
   refine qn ?_
   refine xc (b := decide ((IntKind.i64.wrap (8 * (IntKind.i64.wrap ((a8 : Int) + 1)))) > (IntKind.i64.wrap (7 * (IntKind.i64.wrap (1 * 2 ^ min (Int.toNat c7) 64)))))) rfl (fun i7 => ?_) (fun i7 => ?_)
   ·replace H := H.1 i7
    refine xs (xr ?_)
    refine lv rfl rfl (v := (.agg #[(.int .u64 0), (.int .u64 0), (.int .u64 0), (.int .u8 0)])) (vb (vs := []) (cs := #[(.int .u64 0), (.int .u64 0), (.int .u64 0), (.int .u8 0)]) TyShJ.z31 TyShJ.pl31 rfl (by kernel_rfl)) ?_
    refine lp rfl rfl (hn_stores (vs := [(.int .u64 0), (.int .u64 0), (.int .u64 0), (.int .u8 0)]) rfl rfl TyShJ.sz31 rfl (HWs_row a7 (by simp)) ?_)
    intro g7 i5
    replace a4 := row_hsets_ne i5 g0 a4
    have a6 : g7[pb]? = some (.cells #[(.int .u64 0), (.int .u64 0), (.int .u64 0), (.int .u8 0)] 31 (0, 0)) := row_hsets_eq i5 a7 rfl
    replace H := H g7 (fr_hsets_of i5)
    refine lv rfl rfl (va rfl) (lv rfl rfl (va rfl) ?_)
    refine ln (qn (xt (qr ?_)))
    exact endQ_ret _ (res_three Try.results34 (rv_cell (vs := [(.int .u64 0), (.int .u64 0), (.int .u64 0), (.int .u8 0)]) TyShJ.agg31 TyShJ.sz31 rfl (cc (rc a6 rfl) (cc (rc a6 rfl) (cc (rc a6 rfl) (cc (rc a6 rfl) cn))))) (rv_tmp rfl) (rv_tmp rfl)) H
   ·replace H := H.2 i7
    refine xi (qn (xs (xr ?_)))
    refine lp rfl rfl (hn_buildSlice (n := 0) (vs := []) (cs := #[]) TyShJ.u47 TyShJ.sz31 TyShJ.z31 rfl rfl (by kernel_rfl) ?_)
    intro nb d2 m6 k6
    replace H := H nb d2 m6 k6
    have k4 := ext_pushed_f21_sh k6
    replace a4 := Ext.row k4 a4
    replace a7 := Ext.row k4 a7
    refine lv rfl rfl (vm rfl) (lv rfl rfl (v := (ptr a2 a3)) (hv_nil rfl) (lv rfl rfl (v := (ptr a2 (a3 + 1))) (vf TyShJ.fld80_1 (b := a2) (o := a3) rfl) ?_))
    obtain ⟨j2, d6, f8, m8, H⟩ := H
    refine lv rfl rfl (vl TyShJ.agg78 rfl m8) (lv rfl rfl (vm rfl) ?_)
    obtain ⟨e1, d9, c4, p1, m5, Hq⟩ := H
    subst c4
    have H := Hq; clear Hq
    refine lv rfl rfl (v := (ptr e1 (d9 + (Int.toNat r0) * 1))) (vi TyShJ.el78 rfl rfl p1 m5) ?_
    obtain ⟨g4, g1, c0, n6, H⟩ := H
    refine lv rfl rfl (vl TyShJ.agg47 rfl n6) (lv rfl rfl (vm rfl) ?_)
    obtain ⟨n2, o4, p5, H⟩ := H
    obtain ⟨sl, hq64⟩ : ∃ q, q = slA g4 (Int.toNat 0) 4 c0 := ⟨_, rfl⟩
    replace H := H sl hq64
    refine lv rfl rfl (v := (.slice sl (Int.toNat r1 - Int.toNat 0) (c0 - Int.toNat 0))) (hv_slice (l := 0) (r := r1) TyShJ.u47 TyShJ.sz31 rfl sl_none (sh_some rfl) n2 o4 p5 hq64) ?_
    refine lp rfl rfl (hs_append rfl rfl (HAppend.mono H ?_))
    rintro _ d5 ⟨k0, ap, e4, e8, rfl, H⟩
    replace a4 := Kp.row k0 (by simp) a4
    replace a7 := Kp.row k0 (by simp) a7
    refine lv rfl rfl (va rfl) ?_
    refine ln (qn (xs ?_))
    obtain ⟨d1, p3, H⟩ := H
    refine hx_drawT TyShJ.mixed d1 p3 [.pure, .pure, .pure, .stay, .pure, .pure, .read, .ext, .tame, .pure, .pure, .pure, .stay, .pure, .pure, .stay, .pure, .pure, .tame, .pure, .wild] [0, 1, 2, 3, 4, 5, 6, 9, 10, 11, 12, 13, 14, 15, 16, 17, 7, 8, 18, 19, 20] (by kernel_rfl) ?_
    refine pp (i := 0) rfl (wanted_0 rfl) rfl (ptr a2 a3) (fun _ => vm rfl) ?_
    refine pp (i := 1) rfl (wanted_0 rfl) rfl (ptr a2 a3) (fun _ => hv_nil rfl) ?_
    refine pp (i := 2) rfl (wanted_0 rfl) rfl (ptr a2 (a3 + 1)) (fun _ => vf TyShJ.fld80_1 (b := a2) (o := a3) rfl) ?_
    obtain ⟨j1, e2, f2, o6, H⟩ := H
    refine hp_stay (i := 3) rfl (wanted_0 rfl) rfl (.slice j1 e2 f2) (fun _ he => vl TyShJ.agg78 rfl (o6 _ he)) ?_
    refine pp (i := 4) rfl (wanted_0 rfl) rfl (.int .i64 r0) (fun _ => vm rfl) ?_
    refine pp (i := 5) rfl (wanted_0 rfl) rfl (.slice ap e4 e8) (fun _ => vm rfl) ?_
    refine pr (i := 6) rfl (wanted_0 rfl) rfl (.agg #[(.int .u64 a5), (.int .u64 b2), (.int .u64 a0), (.int .u8 a9)]) (fun _ he => vL (vs := [(.int .u64 a5), (.int .u64 b2), (.int .u64 a0), (.int .u8 a9)]) TyShJ.agg31 TyShJ.sz31 rfl (cc (Ext.cell he (rc a4 rfl)) (cc (Ext.cell he (rc a4 rfl)) (cc (Ext.cell he (rc a4 rfl)) (cc (Ext.cell he (rc a4 rfl)) cn))))) ?_
    refine pp (i := 9) rfl (wanted_0 rfl) rfl (ptr a2 a3) (fun _ => vm rfl) ?_
    refine pp (i := 10) rfl (wanted_0 rfl) rfl (ptr a2 a3) (fun _ => hv_nil rfl) ?_
    refine pp (i := 11) rfl (wanted_0 rfl) rfl (ptr a2 (a3 + 1)) (fun _ => vf TyShJ.fld80_1 (b := a2) (o := a3) rfl) ?_
    obtain ⟨j3, d8, f4, n0, H⟩ := H
    refine hp_stay (i := 12) rfl (wanted_0 rfl) rfl (.slice j3 d8 f4) (fun _ he => vl TyShJ.agg78 rfl (n0 _ he)) ?_
    refine pp (i := 13) rfl (wanted_0 rfl) rfl (.int .i64 r0) (fun _ => vm rfl) ?_
    obtain ⟨e0, d7, c4, m2, o9, Hq⟩ := H
    subst c4
    have H := Hq; clear Hq
    refine pp (i := 14) rfl (wanted_0 rfl) rfl (ptr e0 (d7 + (Int.toNat r0) * 1)) (fun _ => vi TyShJ.el78 rfl rfl m2 o9) ?_
    obtain ⟨g6, c1, b9, n4, H⟩ := H
    refine hp_stay (i := 15) rfl (wanted_0 rfl) rfl (.slice g6 c1 b9) (fun _ he => vl TyShJ.agg47 rfl (n4 _ he)) ?_
    refine pp (i := 16) rfl (wanted_0 rfl) rfl (.int .i64 r1) (fun _ => vm rfl) ?_
    obtain ⟨o1, m9, o0, H⟩ := H
    obtain ⟨e5, hq76⟩ : ∃ q, q = slA g6 (Int.toNat r1) 4 b9 := ⟨_, rfl⟩
    replace H := H e5 hq76
    refine pp (i := 17) rfl (wanted_0 rfl) rfl (.slice e5 (Int.toNat (c1 : Int) - Int.toNat r1) (b9 - Int.toNat r1)) (fun _ => hv_slice (l := r1) (r := (c1 : Int)) TyShJ.u47 TyShJ.sz31 rfl (sl_some rfl) sh_none o1 m9 o0 hq76) ?_
    refine hp_ext (i := 7) rfl (wanted_0 rfl) rfl (hn_buildSlice (n := 1) (vs := [(0, (.agg #[(.int .u64 a5), (.int .u64 b2), (.int .u64 a0), (.int .u8 a9)]))]) (cs := #[(.int .u64 a5), (.int .u64 b2), (.int .u64 a0), (.int .u8 a9)]) TyShJ.u47 TyShJ.sz31 TyShJ.z31 rfl rfl (by kernel_rfl) ?_)
    intro f6 e6 l8 j8
    replace H := H f6 e6 l8 j8
    have i4 := ext_pushed_f21_sh j8
    replace a4 := Ext.row i4 a4
    replace a7 := Ext.row i4 a7
    refine ⟨i4, ?_⟩
    refine hp_tame (i := 8) rfl (wanted_0 rfl) rfl (hs_append rfl rfl (HAppend.mono H ?_))
    rintro _ e9 ⟨m4, n7, g8, e3, e7, rfl, H⟩
    refine ⟨m4, ?_⟩
    replace a7 := Kp.row n7 (by simp) a7
    refine hp_tame (i := 18) rfl (wanted_0 rfl) rfl (hs_append rfl rfl (HAppend.mono H ?_))
    rintro _ g3 ⟨m1, m0, f0, c8, c9, rfl, H⟩
    refine ⟨m1, ?_⟩
    replace a7 := Kp.row m0 (by simp) a7
    obtain ⟨c5, d0, c4, m3, o8, Hq⟩ := H
    subst c4
    have H := Hq; clear Hq
    refine pp (i := 19) rfl (wanted_0 rfl) rfl (ptr c5 (d0 + (Int.toNat r0) * 1)) (fun _ => vi TyShJ.el78 rfl rfl m3 o8) ?_
    obtain ⟨p4, p0, H⟩ := H
    refine hp_wild (i := 20) rfl (wanted_0 rfl) rfl (hn_store (v := (.slice f0 c8 c9)) rfl rfl TyShJ.sz47 rfl p4 ?_)
    intro j0 k9
    replace H := H j0 k9
    replace a7 := row_hset_ne k9 (p0 _ (by simp)) a7
    refine hp_nil ?_
    refine qn (xs (xr ?_))
    refine lv rfl rfl (v := (.agg #[(.int .u64 0), (.int .u64 0), (.int .u64 0), (.int .u8 0)])) (vb (vs := []) (cs := #[(.int .u64 0), (.int .u64 0), (.int .u64 0), (.int .u8 0)]) TyShJ.z31 TyShJ.pl31 rfl (by kernel_rfl)) ?_
    refine lp rfl rfl (hn_stores (vs := [(.int .u64 0), (.int .u64 0), (.int .u64 0), (.int .u8 0)]) rfl rfl TyShJ.sz31 rfl (HWs_row a7 (by simp)) ?_)
    intro g5 j7
    have a6 : g5[pb]? = some (.cells #[(.int .u64 0), (.int .u64 0), (.int .u64 0), (.int .u8 0)] 31 (0, 0)) := row_hsets_eq j7 a7 rfl
    replace H := H g5 (fr_hsets_of j7)
    refine lv rfl rfl (va rfl) (lv rfl rfl (va rfl) ?_)
    refine ln (qn (xt ?_))
    exact endQ_ret _ (res_three Try.results34 (rv_cell (vs := [(.int .u64 0), (.int .u64 0), (.int .u64 0), (.int .u8 0)]) TyShJ.agg31 TyShJ.sz31 rfl (cc (rc a6 rfl) (cc (rc a6 rfl) (cc (rc a6 rfl) (cc (rc a6 rfl) cn))))) (rv_tmp rfl) (rv_tmp rfl)) H
theorem f37_sh (a2 : Nat) (a3 : Nat) (d2 : Int) (h : Heap) (R : Value → Heap → Prop)
  (H : (∀ (pb : Nat) (h1 : Heap), Array.size h ≤ pb → pb < Array.size h1 → Ext h h1 → HC Try.prog 53 #[(ptr a2 a3), (.int .u64 d2)] h1 (fun vv h2 => Kp [pb] h1 h2 ∧ ∃ r0 r1 : Int, ∃ r2 : Bool, vv = (.tuple #[(.int .i64 r0), (.int .i64 r1), (.bool r2)]) ∧ (((!r2) = true → (∀ h3, Fr (fun i => i = pb) h2 h3 → R (.tuple #[(.agg #[(.int .u64 0), (.int .u64 0), (.int .u64 0), (.int .u8 0)]), (.bool false)]) h3)) ∧ ((!r2) = false → (∃ x : Option Addr, ∃ f1 f6 : Nat, hcell h2 a2 (a3 + 1) = some (.slice x f1 f6) ∧ (∃ c5 d0 : Nat, x = some ⟨c5, d0, none⟩ ∧ (0 : Int) ≤ r0 ∧ r0 < (f1 : Int) ∧ (∃ f0 : Option Addr, ∃ c7 d8 : Nat, hcell h2 c5 (d0 + (Int.toNat r0) * 1) = some (.slice f0 c7 d8) ∧ (∃ b2 b1 : Nat, f0 = some ⟨b2, b1, none⟩ ∧ (0 : Int) ≤ r1 ∧ r1 < (c7 : Int) ∧ (∃ a4 a7 a0 a5 : Int, hcell h2 b2 (b1 + (Int.toNat r1) * 4) = some (.int .u64 a4) ∧ hcell h2 b2 ((b1 + (Int.toNat r1) * 4) + 1) = some (.int .u64 a7) ∧ hcell h2 b2 ((b1 + (Int.toNat r1) * 4) + 2) = some (.int .u64 a0) ∧ hcell h2 b2 ((b1 + (Int.toNat r1) * 4) + 3) = some (.int .u8 a5) ∧ (∃ c0 : Heap → Heap → Prop, Fit c0 ∧ (∀ (b5 : Nat) (h5 : Heap), Array.size h2 ≤ b5 → b5 < Array.size h5 → Ext h2 h5 → (∃ f3 : Option Addr, ∃ c1 d6 : Nat, (∀ hx, c0 h5 hx → hcell hx a2 (a3 + 1) = some (.slice f3 c1 d6)) ∧ (∃ e9 : Option Addr, ∃ c9 d5 : Nat, hcell h5 a2 (a3 + 1) = some (.slice e9 c9 d5) ∧ (∃ c3 c6 : Nat, e9 = some ⟨c3, c6, none⟩ ∧ (0 : Int) ≤ r0 ∧ r0 < (c9 : Int) ∧ (∃ d9 : Option Addr, ∃ d4 a9 : Nat, hcell h5 c3 (c6 + (Int.toNat r0) * 1) = some (.slice d9 d4 a9) ∧ (0 ≤ ((0 : Int) : Int) ∧ (0 : Int) ≤ r1 ∧ r1 ≤ (a9 : Int) ∧ ∀ sl : Option Addr, sl = slA d9 (Int.toNat 0) 4 a9 → (∃ f2 : Option Addr, ∃ c4 d7 : Nat, (∀ hx, c0 h5 hx → hcell hx a2 (a3 + 1) = some (.slice f2 c4 d7)) ∧ (∃ c2 c8 : Nat, f2 = some ⟨c2, c8, none⟩ ∧ (0 : Int) ≤ r0 ∧ r0 < (c4 : Int) ∧ (∃ e1 : Option Addr, ∃ b0 a8 : Nat, (∀ hx, c0 h5 hx → hcell hx c2 (c8 + (Int.toNat r0) * 1) = some (.slice e1 b0 a8)) ∧ (0 ≤ (IntKind.i64.wrap (r1 + 1) : Int) ∧ IntKind.i64.wrap (r1 + 1) ≤ (b0 : Int) ∧ (b0 : Int) ≤ (a8 : Int) ∧ ∀ d1 : Option Addr, d1 = slA e1 (Int.toNat (IntKind.i64.wrap (r1 + 1))) 4 a8 → (∀ nb h6, nb = Array.size h5 → h6 = Array.push h5 (.cells #[] 31) → HAppend Try.prog 47 47 (.slice (some ⟨nb, 0, none⟩) 0 0) (.slice sl (Int.toNat r1 - Int.toNat 0) (a9 - Int.toNat 0)) h6 (fun vv h7 => c0 h6 h7 ∧ Kp [pb, b5] h6 h7 ∧ ∃ ap : Option Addr, ∃ e3 e8 : Nat, vv = (.slice ap e3 e8) ∧ HAppend Try.prog 47 47 (.slice ap e3 e8) (.slice d1 (Int.toNat (b0 : Int) - Int.toNat (IntKind.i64.wrap (r1 + 1))) (a8 - Int.toNat (IntKind.i64.wrap (r1 + 1)))) h7 (fun vv h8 => c0 h7 h8 ∧ Kp [pb, b5] h7 h8 ∧ ∃ d3 : Option Addr, ∃ b6 b8 : Nat, vv = (.slice d3 b6 b8) ∧ (∃ b4 b7 : Nat, f3 = some ⟨b4, b7, none⟩ ∧ (0 : Int) ≤ r0 ∧ r0 < (c1 : Int) ∧ (HW h8 b4 (b7 + (Int.toNat r0) * 1) ∧ Off b4 [pb, b5] ∧ ∀ h9, h9 = hset h8 b4 (b7 + (Int.toNat r0) * 1) (.slice d3 b6 b8) → (∀ e0, Fr (fun i => i = pb) h9 e0 → R (.tuple #[(.agg #[(.int .u64 a4), (.int .u64 a7), (.int .u64 a0), (.int .u8 a5)]), (.bool true)]) e0))))))))))))))))))))))))))) :
  HC Try.prog 37 #[(ptr a2 a3), (.int .u64 d2)] h R := by
 refine hc_of (args := [(ptr a2 a3), (.int .u64 d2)]) Try.func37 rfl Try.ntmps37 (Nat.le_of_ble_eq_true rfl) ?_
 refine xs (xr ?_)
 refine lp rfl rfl (hn_alloc TyShJ.z31 ?_)
 intro pb h1 g7 g5
 have l2 := ext_pushed_f21_sh g5
 have l3 : Array.size h ≤ pb := Nat.le_of_eq (Eq.symm g7)
 have a6 : h1[pb]? = some (.cells #[(.int .u64 0), (.int .u64 0), (.int .u64 0), (.int .u8 0)] 31 (0, 0)) := by rw [g5]; exact push_new g7
 refine lv rfl rfl (va rfl) ?_
 refine ln (qn (xs (xr ?_)))
 refine lv rfl rfl (vm rfl) (lv rfl rfl (vm rfl) ?_)
 replace H := H pb h1 l3 (row_lt a6) l2
 refine lp rfl rfl (sc TyShJ.cb53 rfl (HC.mono H ?_))
 rintro _ h2 ⟨l1, r0, r1, r2, rfl, H⟩
 replace a6 := Kp.row l1 (by simp) a6
 refine lv rfl rfl (vm rfl) (lv rfl rfl (vx rfl rfl) (lv rfl rfl (vx rfl rfl) (lv rfl rfl (vx rfl rfl) (lv rfl rfl (va rfl) (lv rfl rfl (va rfl) ?_)))))
 refine lv rfl rfl (va rfl) ?_
 refine ln (qn (xs (xs (xr ?_))))
 refine lv rfl rfl (vm rfl) (lv rfl rfl (v := (.bool (!r2))) (hv_not (b := r2) rfl) ?_)
 refine ln (qn ?_)
 refine xc (b := !r2) rfl (fun f4 => ?_) (fun f4 => ?_)
 ·replace H := H.1 f4
  refine xs (xr ?_)
  refine lv rfl rfl (v := (.agg #[(.int .u64 0), (.int .u64 0), (.int .u64 0), (.int .u8 0)])) (vb (vs := []) (cs := #[(.int .u64 0), (.int .u64 0), (.int .u64 0), (.int .u8 0)]) TyShJ.z31 TyShJ.pl31 rfl (by kernel_rfl)) ?_
  refine lp rfl rfl (hn_stores (vs := [(.int .u64 0), (.int .u64 0), (.int .u64 0), (.int .u8 0)]) rfl rfl TyShJ.sz31 rfl (HWs_row a6 (by simp)) ?_)
  intro h3 g6
  have b3 : h3[pb]? = some (.cells #[(.int .u64 0), (.int .u64 0), (.int .u64 0), (.int .u8 0)] 31 (0, 0)) := row_hsets_eq g6 a6 rfl
  replace H := H h3 (fr_hsets_of g6)
  refine lv rfl rfl (va rfl) ?_
  refine ln (qn (xt (qr ?_)))
  exact endQ_ret _ (res_two Try.results37 (rv_cell (vs := [(.int .u64 0), (.int .u64 0), (.int .u64 0), (.int .u8 0)]) TyShJ.agg31 TyShJ.sz31 rfl (cc (rc b3 rfl) (cc (rc b3 rfl) (cc (rc b3 rfl) (cc (rc b3 rfl) cn))))) (rv_tmp rfl)) H
 ·replace H := H.2 f4
  refine xi (qn (xs (xr ?_)))
  refine lv rfl rfl (vm rfl) (lv rfl rfl (v := (ptr a2 a3)) (hv_nil rfl) (lv rfl rfl (v := (ptr a2 (a3 + 1))) (vf TyShJ.fld80_1 (b := a2) (o := a3) rfl) ?_))
  obtain ⟨x, f1, f6, l0, H⟩ := H
  refine lv rfl rfl (vl TyShJ.agg78 rfl l0) (lv rfl rfl (vm rfl) ?_)
  obtain ⟨c5, d0, b9, i9, j1, Hq⟩ := H
  subst b9
  have H := Hq; clear Hq
  refine lv rfl rfl (v := (ptr c5 (d0 + (Int.toNat r0) * 1))) (vi TyShJ.el78 rfl rfl i9 j1) ?_
  obtain ⟨f0, c7, d8, k9, H⟩ := H
  refine lv rfl rfl (vl TyShJ.agg47 rfl k9) (lv rfl rfl (vm rfl) ?_)
  obtain ⟨b2, b1, b9, k0, j0, Hq⟩ := H
  subst b9
  have H := Hq; clear Hq
  refine lv rfl rfl (v := (ptr b2 (b1 + (Int.toNat r1) * 4))) (vi TyShJ.el47 rfl rfl k0 j0) ?_
  obtain ⟨a4, a7, a0, a5, k6, i8, k4, i2, H⟩ := H
  refine lv rfl rfl (vL (vs := [(.int .u64 a4), (.int .u64 a7), (.int .u64 a0), (.int .u8 a5)]) TyShJ.agg31 TyShJ.sz31 rfl (cc k6 (cc i8 (cc k4 (cc i2 cn))))) ?_
  refine lp rfl rfl (hn_alloc TyShJ.z31 ?_)
  intro b5 h4 e6 g3
  have g2 := ext_pushed_f21_sh g3
  have f7 := Nat.ne_of_lt (Nat.lt_of_lt_of_eq (row_lt a6) (Eq.symm e6))
  have f8 : Array.size h2 ≤ b5 := Nat.le_of_eq (Eq.symm e6)
  have g1 : h4[b5]? = some (.cells #[(.int .u64 0), (.int .u64 0), (.int .u64 0), (.int .u8 0)] 31 (0, 0)) := by rw [g3]; exact push_new e6
  replace a6 := Ext.row g2 a6
  refine lp rfl rfl (hn_stores (vs := [(.int .u64 a4), (.int .u64 a7), (.int .u64 a0), (.int .u8 a5)]) rfl rfl TyShJ.sz31 rfl (HWs_row g1 (by simp)) ?_)
  intro h5 e7
  replace a6 := row_hsets_ne e7 f7 a6
  have a1 : h5[b5]? = some (.cells #[(.int .u64 a4), (.int .u64 a7), (.int .u64 a0), (.int .u8 a5)] 31 (0, 0)) := row_hsets_eq e7 g1 rfl
  have i4 := ext_hsets e7 g2 f8
  refine ln (qn (xs ?_))
  obtain ⟨c0, j9, H⟩ := H
  refine hx_drawT TyShJ.mixed c0 j9 [.pure, .pure, .pure, .stay, .pure, .ext, .pure, .pure, .pure, .read, .pure, .pure, .read, .pure, .pure, .tame, .pure, .pure, .pure, .stay, .pure, .pure, .stay, .pure, .pure, .pure, .tame, .pure, .wild] [0, 1, 2, 3, 4, 6, 7, 8, 9, 10, 11, 12, 13, 14, 16, 17, 18, 19, 20, 21, 22, 23, 24, 25, 5, 15, 26, 27, 28] (by kernel_rfl) ?_
  refine pp (i := 0) rfl (wanted_0 rfl) rfl (ptr a2 a3) (fun _ => vm rfl) ?_
  refine pp (i := 1) rfl (wanted_0 rfl) rfl (ptr a2 a3) (fun _ => hv_nil rfl) ?_
  refine pp (i := 2) rfl (wanted_0 rfl) rfl (ptr a2 (a3 + 1)) (fun _ => vf TyShJ.fld80_1 (b := a2) (o := a3) rfl) ?_
  replace H := H b5 h5 f8 (row_lt a1) i4
  obtain ⟨f3, c1, d6, k3, H⟩ := H
  refine hp_stay (i := 3) rfl (wanted_0 rfl) rfl (.slice f3 c1 d6) (fun _ he => vl TyShJ.agg78 rfl (k3 _ he)) ?_
  refine pp (i := 4) rfl (wanted_0 rfl) rfl (.int .i64 r0) (fun _ => vm rfl) ?_
  refine pp (i := 6) rfl (wanted_0 rfl) rfl (ptr a2 a3) (fun _ => vm rfl) ?_
  refine pp (i := 7) rfl (wanted_0 rfl) rfl (ptr a2 a3) (fun _ => hv_nil rfl) ?_
  refine pp (i := 8) rfl (wanted_0 rfl) rfl (ptr a2 (a3 + 1)) (fun _ => vf TyShJ.fld80_1 (b := a2) (o := a3) rfl) ?_
  obtain ⟨e9, c9, d5, i7, H⟩ := H
  refine pr (i := 9) rfl (wanted_0 rfl) rfl (.slice e9 c9 d5) (fun _ he => vl TyShJ.agg78 rfl (Ext.cell he i7)) ?_
  refine pp (i := 10) rfl (wanted_0 rfl) rfl (.int .i64 r0) (fun _ => vm rfl) ?_
  obtain ⟨c3, c6, b9, k2, j2, Hq⟩ := H
  subst b9
  have H := Hq; clear Hq
  refine pp (i := 11) rfl (wanted_0 rfl) rfl (ptr c3 (c6 + (Int.toNat r0) * 1)) (fun _ => vi TyShJ.el78 rfl rfl k2 j2) ?_
  obtain ⟨d9, d4, a9, j4, H⟩ := H
  refine pr (i := 12) rfl (wanted_0 rfl) rfl (.slice d9 d4 a9) (fun _ he => vl TyShJ.agg47 rfl (Ext.cell he j4)) ?_
  refine pp (i := 13) rfl (wanted_0 rfl) rfl (.int .i64 r1) (fun _ => vm rfl) ?_
  obtain ⟨j3, i5, i0, H⟩ := H
  obtain ⟨sl, hq37⟩ : ∃ q, q = slA d9 (Int.toNat 0) 4 a9 := ⟨_, rfl⟩
  replace H := H sl hq37
  refine pp (i := 14) rfl (wanted_0 rfl) rfl (.slice sl (Int.toNat r1 - Int.toNat 0) (a9 - Int.toNat 0)) (fun _ => hv_slice (l := 0) (r := r1) TyShJ.u47 TyShJ.sz31 rfl sl_none (sh_some rfl) j3 i5 i0 hq37) ?_
  refine pp (i := 16) rfl (wanted_0 rfl) rfl (ptr a2 a3) (fun _ => vm rfl) ?_
  refine pp (i := 17) rfl (wanted_0 rfl) rfl (ptr a2 a3) (fun _ => hv_nil rfl) ?_
  refine pp (i := 18) rfl (wanted_0 rfl) rfl (ptr a2 (a3 + 1)) (fun _ => vf TyShJ.fld80_1 (b := a2) (o := a3) rfl) ?_
  obtain ⟨f2, c4, d7, g9, H⟩ := H
  refine hp_stay (i := 19) rfl (wanted_0 rfl) rfl (.slice f2 c4 d7) (fun _ he => vl TyShJ.agg78 rfl (g9 _ he)) ?_
  refine pp (i := 20) rfl (wanted_0 rfl) rfl (.int .i64 r0) (fun _ => vm rfl) ?_
  obtain ⟨c2, c8, b9, k7, j5, Hq⟩ := H
  subst b9
  have H := Hq; clear Hq
  refine pp (i := 21) rfl (wanted_0 rfl) rfl (ptr c2 (c8 + (Int.toNat r0) * 1)) (fun _ => vi TyShJ.el78 rfl rfl k7 j5) ?_
  obtain ⟨e1, b0, a8, i6, H⟩ := H
  refine hp_stay (i := 22) rfl (wanted_0 rfl) rfl (.slice e1 b0 a8) (fun _ he => vl TyShJ.agg47 rfl (i6 _ he)) ?_
  refine pp (i := 23) rfl (wanted_0 rfl) rfl (.int .i64 r1) (fun _ => vm rfl) ?_
  refine pp (i := 24) rfl (wanted_0 rfl) rfl (.int .i64 (IntKind.i64.wrap (r1 + 1))) (fun _ => vr rfl rfl rfl) ?_
  obtain ⟨j6, g8, i3, H⟩ := H
  obtain ⟨d1, hq45⟩ : ∃ q, q = slA e1 (Int.toNat (IntKind.i64.wrap (r1 + 1))) 4 a8 := ⟨_, rfl⟩
  replace H := H d1 hq45
  refine pp (i := 25) rfl (wanted_0 rfl) rfl (.slice d1 (Int.toNat (b0 : Int) - Int.toNat (IntKind.i64.wrap (r1 + 1))) (a8 - Int.toNat (IntKind.i64.wrap (r1 + 1)))) (fun _ => hv_slice (l := IntKind.i64.wrap (r1 + 1)) (r := (b0 : Int)) TyShJ.u47 TyShJ.sz31 rfl (sl_some rfl) sh_none j6 g8 i3 hq45) ?_
  refine hp_ext (i := 5) rfl (wanted_0 rfl) rfl (hn_buildSlice (n := 0) (vs := []) (cs := #[]) TyShJ.u47 TyShJ.sz31 TyShJ.z31 rfl rfl (by kernel_rfl) ?_)
  intro nb h6 j8 g0
  replace H := H nb h6 j8 g0
  have e5 := ext_pushed_f21_sh g0
  replace a6 := Ext.row e5 a6
  replace a1 := Ext.row e5 a1
  refine ⟨e5, ?_⟩
  refine hp_tame (i := 15) rfl (wanted_0 rfl) rfl (hs_append rfl rfl (HAppend.mono H ?_))
  rintro _ h7 ⟨k5, g4, ap, e3, e8, rfl, H⟩
  refine ⟨k5, ?_⟩
  replace a6 := Kp.row g4 (by simp) a6
  replace a1 := Kp.row g4 (by simp) a1
  refine hp_tame (i := 26) rfl (wanted_0 rfl) rfl (hs_append rfl rfl (HAppend.mono H ?_))
  rintro _ h8 ⟨j7, f9, d3, b6, b8, rfl, H⟩
  refine ⟨j7, ?_⟩
  replace a6 := Kp.row f9 (by simp) a6
  replace a1 := Kp.row f9 (by simp) a1
  obtain ⟨b4, b7, b9, k1, k8, Hq⟩ := H
  subst b9
  have H := Hq; clear Hq
  refine pp (i := 27) rfl (wanted_0 rfl) rfl (ptr b4 (b7 + (Int.toNat r0) * 1)) (fun _ => vi TyShJ.el78 rfl rfl k1 k8) ?_
  obtain ⟨i1, f5, H⟩ := H
  refine hp_wild (i := 28) rfl (wanted_0 rfl) rfl (hn_store (v := (.slice d3 b6 b8)) rfl rfl TyShJ.sz47 rfl i1 ?_)
  intro h9 e4
  replace H := H h9 e4
  replace a6 := row_hset_ne e4 (f5 _ (by simp)) a6
  replace a1 := row_hset_ne e4 (f5 _ (by simp)) a1
  refine hp_nil ?_
  refine qn (xs (xr ?_))
  refine lv rfl rfl (vL (vs := [(.int .u64 a4), (.int .u64 a7), (.int .u64 a0), (.int .u8 a5)]) TyShJ.agg31 TyShJ.sz31 rfl (cc (rc a1 rfl) (cc (rc a1 rfl) (cc (rc a1 rfl) (cc (rc a1 rfl) cn))))) ?_
  refine lp rfl rfl (hn_stores (vs := [(.int .u64 a4), (.int .u64 a7), (.int .u64 a0), (.int .u8 a5)]) rfl rfl TyShJ.sz31 rfl (HWs_row a6 (by simp)) ?_)
  intro e0 e2
  replace a1 := row_hsets_ne e2 (Ne.symm f7) a1
  have b3 : e0[pb]? = some (.cells #[(.int .u64 a4), (.int .u64 a7), (.int .u64 a0), (.int .u8 a5)] 31 (0, 0)) := row_hsets_eq e2 a6 rfl
  replace H := H e0 (fr_hsets_of e2)
  refine lv rfl rfl (va rfl) ?_
  refine ln (qn (xt ?_))
  exact endQ_ret _ (res_two Try.results37 (rv_cell (vs := [(.int .u64 a4), (.int .u64 a7), (.int .u64 a0), (.int .u8 a5)]) TyShJ.agg31 TyShJ.sz31 rfl (cc (rc b3 rfl) (cc (rc b3 rfl) (cc (rc b3 rfl) (cc (rc b3 rfl) cn))))) (rv_tmp rfl)) H
theorem f38_sh (a8 : Nat) (a9 : Nat) (a5 : Int) (a6 : Int) (h : Heap) (R : Value → Heap → Prop)
  (H : HC Try.prog 35 #[(ptr a8 a9), (.int .u64 a5)] h (fun vv h1 => ∃ a4 a0 a1 a3 : Int, ∃ r1 : Bool, vv = (.tuple #[(.agg #[(.int .u64 a4), (.int .u64 a0), (.int .u64 a1), (.int .u8 a3)]), (.bool r1)]) ∧ ((((!r1) || (a0 != a6)) = true → (∀ (h3 : Heap), Ext h1 h3 → R (.bool false) h3)) ∧ (((!r1) || (a0 != a6)) = false → (∀ (h3 : Heap), Ext h1 h3 → HC Try.prog 37 #[(ptr a8 a9), (.int .u64 a5)] h3 (fun vv h4 => ∃ b1 b2 a7 b0 : Int, ∃ b4 : Bool, vv = (.tuple #[(.agg #[(.int .u64 b1), (.int .u64 b2), (.int .u64 a7), (.int .u8 b0)]), (.bool b4)]) ∧ R (.bool true) h4)))))) :
  HC Try.prog 38 #[(ptr a8 a9), (.int .u64 a5), (.int .u64 a6)] h R := by
 refine hc_of (args := [(ptr a8 a9), (.int .u64 a5), (.int .u64 a6)]) Try.func38 rfl Try.ntmps38 (Nat.le_of_ble_eq_true rfl) ?_
 refine xs (xr ?_)
 refine lv rfl rfl (va rfl) ?_
 refine ln (qn (xs (xr ?_)))
 refine lv rfl rfl (vm rfl) (lv rfl rfl (vm rfl) ?_)
 refine lp rfl rfl (sc TyShJ.cb35 rfl (HC.mono H ?_))
 rintro _ h1 ⟨a4, a0, a1, a3, r1, rfl, H⟩
 refine lv rfl rfl (vm rfl) (lv rfl rfl (vx rfl rfl) (lv rfl rfl (vx rfl rfl) ?_))
 refine lp rfl rfl (hn_alloc TyShJ.z31 ?_)
 intro e h2 b9 b7
 have c1 := ext_pushed_f21_sh b7
 have c2 : Array.size h1 ≤ e := Nat.le_of_eq (Eq.symm b9)
 have b8 : h2[e]? = some (.cells #[(.int .u64 0), (.int .u64 0), (.int .u64 0), (.int .u8 0)] 31 (0, 0)) := by rw [b7]; exact push_new b9
 refine lp rfl rfl (hn_stores (vs := [(.int .u64 a4), (.int .u64 a0), (.int .u64 a1), (.int .u8 a3)]) rfl rfl TyShJ.sz31 rfl (HWs_row b8 (by simp)) ?_)
 intro h3 b6
 have c0 : h3[e]? = some (.cells #[(.int .u64 a4), (.int .u64 a0), (.int .u64 a1), (.int .u8 a3)] 31 (0, 0)) := row_hsets_eq b6 b8 rfl
 have b5 := ext_hsets b6 c1 c2
 refine lv rfl rfl (va rfl) ?_
 refine ln (qn (xs ?_))
 refine xk (fun ρ h' => h3 = h' ∧ Has ρ [(0, (ptr a8 a9)), (1, (.int .u64 a5)), (22, (.bool ((!r1) || (a0 != a6))))]) ?_ ?_
 ·refine xr ?_
  refine lv rfl rfl (vm rfl) (lv rfl rfl (v := (.bool (!r1))) (hv_not (b := r1) rfl) (lv rfl rfl (vm rfl) ?_))
  rcases bool_or (!r1) with a2 | a2
  ·refine lo (wanted_n rfl rfl rfl a2) rfl ?_
   refine lo (wanted_n rfl rfl rfl a2) rfl ?_
   refine lo (wanted_n rfl rfl rfl a2) rfl ?_
   refine lo (wanted_n rfl rfl rfl a2) rfl ?_
   refine lv rfl rfl (v := (.bool true)) (hv_pick_t rfl a2 rfl) ?_
   refine ln (qn ?_)
   exact ⟨rfl, (hc rfl (hc rfl (hc (show ((.bool true) : Value) = (.bool ((!r1) || (a0 != a6))) from (by first | rfl | ((try rw [a2]); all_goals first | rfl | (simp only [Bool.true_or, Bool.or_true, Bool.false_or, Bool.or_false, Bool.true_and, Bool.and_true, Bool.false_and, Bool.and_false, Bool.not_true, Bool.not_false, Bool.cond_true, Bool.cond_false]; done)) | simp [a2])) hn)))⟩
  ·refine ly (wanted_y rfl rfl rfl a2) rfl (HStep.of_val (v := (ptr e 1)) (vf TyShJ.fld31_1 (b := e) (o := 0) rfl) ?_)
   refine ly (wanted_y rfl rfl rfl a2) rfl (HStep.of_val (v := (.int .u64 a0)) (vl TyShJ.agg29 rfl (rc c0 rfl)) ?_)
   refine ly (wanted_y rfl rfl rfl a2) rfl (HStep.of_val (v := (.int .u64 a6)) (vm rfl) ?_)
   refine ly (wanted_y rfl rfl rfl a2) rfl (HStep.of_val (v := (.bool (a0 != a6))) (vr rfl rfl rfl) ?_)
   refine lv rfl rfl (v := (.bool (a0 != a6))) (hv_pick_f rfl a2 rfl) ?_
   refine ln (qn ?_)
   exact ⟨rfl, (hc rfl (hc rfl (hc (show ((.bool (a0 != a6)) : Value) = (.bool ((!r1) || (a0 != a6))) from (by first | rfl | ((try rw [a2]); all_goals first | rfl | (simp only [Bool.true_or, Bool.or_true, Bool.false_or, Bool.or_false, Bool.true_and, Bool.and_true, Bool.false_and, Bool.and_false, Bool.not_true, Bool.not_false, Bool.cond_true, Bool.cond_false]; done)) | simp [a2])) hn)))⟩
 ·rintro ρ _ ⟨rfl, hH⟩
  refine xh _ hH ?_
  refine xc (b := ((!r1) || (a0 != a6))) rfl (fun b3 => ?_) (fun b3 => ?_)
  ·replace H := H.1 b3
   refine xs (xr ?_)
   refine lv rfl rfl (va rfl) ?_
   refine ln (qn (xt (qr ?_)))
   replace H := H h3 b5
   exact endQ_ret _ (res_one Try.results38 (rv_tmp rfl)) H
  ·replace H := H.2 b3
   refine xi (qn (xs (xr ?_)))
   refine lv rfl rfl (vm rfl) (lv rfl rfl (vm rfl) ?_)
   replace H := H h3 b5
   refine lp rfl rfl (sc TyShJ.cb37 rfl (HC.mono H ?_))
   rintro _ h4 ⟨b1, b2, a7, b0, b4, rfl, H⟩
   refine ln (qn (xs (xr ?_)))
   refine lv rfl rfl (va rfl) ?_
   refine ln (qn (xt ?_))
   exact endQ_ret _ (res_one Try.results38 (rv_tmp rfl)) H
theorem f39_sh (a1 : Nat) (a2 : Nat) (b9 : Int) (a3 : Int) (a9 : Int) (h : Heap) (R : Value → Heap → Prop)
  (H : HC Try.prog 53 #[(ptr a1 a2), (.int .u64 b9)] h (fun vv h1 => ∃ r0 r1 : Int, ∃ r2 : Bool, vv = (.tuple #[(.int .i64 r0), (.int .i64 r1), (.bool r2)]) ∧ (∃ j : Bool, (((!r2) = true → (j = true)) ∧ ((!r2) = false → (∃ x : Option Addr, ∃ c7 c9 : Nat, hcell h1 a1 (a2 + 1) = some (.slice x c7 c9) ∧ (∃ b7 b5 : Nat, x = some ⟨b7, b5, none⟩ ∧ (0 : Int) ≤ r0 ∧ r0 < (c7 : Int) ∧ (∃ c6 : Option Addr, ∃ b3 c2 : Nat, hcell h1 b7 (b5 + (Int.toNat r0) * 1) = some (.slice c6 b3 c2) ∧ (∃ a8 a7 : Nat, c6 = some ⟨a8, a7, none⟩ ∧ (0 : Int) ≤ r1 ∧ r1 < (b3 : Int) ∧ (∃ b0 : Int, hcell h1 a8 ((a7 + (Int.toNat r1) * 4) + 1) = some (.int .u64 b0) ∧ (((b0 != a3) = true → (j = true)) ∧ ((b0 != a3) = false → (j = (a9 == 0))))))))))) ∧ ((j = true → R (.bool false) h1) ∧ (j = false → (∃ c4 : Option Addr, ∃ b1 c1 : Nat, hcell h1 a1 (a2 + 1) = some (.slice c4 b1 c1) ∧ (∃ b2 b6 : Nat, c4 = some ⟨b2, b6, none⟩ ∧ (0 : Int) ≤ r0 ∧ r0 < (b1 : Int) ∧ (∃ c5 : Option Addr, ∃ b4 c0 : Nat, hcell h1 b2 (b6 + (Int.toNat r0) * 1) = some (.slice c5 b4 c0) ∧ (∃ a4 a5 : Nat, c5 = some ⟨a4, a5, none⟩ ∧ (0 : Int) ≤ r1 ∧ r1 < (b4 : Int) ∧ (HW h1 a4 ((a5 + (Int.toNat r1) * 4) + 1) ∧ ∀ h2, h2 = hset h1 a4 ((a5 + (Int.toNat r1) * 4) + 1) (.int .u64 a9) → R (.bool true) h2)))))))))) :
  HC Try.prog 39 #[(ptr a1 a2), (.int .u64 b9), (.int .u64 a3), (.int .u64 a9)] h R := by
 refine hc_of (args := [(ptr a1 a2), (.int .u64 b9), (.int .u64 a3), (.int .u64 a9)]) Try.func39 rfl Try.ntmps39 (Nat.le_of_ble_eq_true rfl) ?_
 refine xs (xr ?_)
 refine lv rfl rfl (va rfl) ?_
 refine ln (qn (xs (xr ?_)))
 refine lv rfl rfl (vm rfl) (lv rfl rfl (vm rfl) ?_)
 refine lp rfl rfl (sc TyShJ.cb53 rfl (HC.mono H ?_))
 rintro _ h1 ⟨r0, r1, r2, rfl, H⟩
 refine lv rfl rfl (vm rfl) (lv rfl rfl (vx rfl rfl) (lv rfl rfl (vx rfl rfl) (lv rfl rfl (vx rfl rfl) (lv rfl rfl (va rfl) (lv rfl rfl (va rfl) ?_)))))
 refine lv rfl rfl (va rfl) ?_
 refine ln (qn (xs ?_))
 obtain ⟨j, c8, d0⟩ := H
 refine xk (fun ρ h' => h1 = h' ∧ Has ρ [(0, (ptr a1 a2)), (3, (.int .u64 a9)), (9, (.int .i64 r0)), (10, (.int .i64 r1)), (39, (.bool j))]) ?_ ?_
 ·have H := c8; clear c8 d0
  refine xr ?_
  refine lv rfl rfl (vm rfl) (lv rfl rfl (v := (.bool (!r2))) (hv_not (b := r2) rfl) (lv rfl rfl (vm rfl) ?_))
  rcases bool_or (!r2) with a0 | a0
  ·replace H := H.1 a0
   refine lo (wanted_n rfl rfl rfl a0) rfl ?_
   refine lo (wanted_n rfl rfl rfl a0) rfl ?_
   refine lo (wanted_n rfl rfl rfl a0) rfl ?_
   refine lo (wanted_n rfl rfl rfl a0) rfl ?_
   refine lo (wanted_n rfl rfl rfl a0) rfl ?_
   refine lo (wanted_n rfl rfl rfl a0) rfl ?_
   refine lo (wanted_n rfl rfl rfl a0) rfl ?_
   refine lo (wanted_n rfl rfl rfl a0) rfl ?_
   refine lo (wanted_n rfl rfl rfl a0) rfl ?_
   refine lo (wanted_n rfl rfl rfl a0) rfl ?_
   refine lo (wanted_n rfl rfl rfl a0) rfl ?_
   refine lo (wanted_n rfl rfl rfl a0) rfl ?_
   refine lo (wanted_n rfl rfl rfl a0) rfl ?_
   refine lv rfl rfl (v := (.bool true)) (hv_pick_t rfl a0 rfl) (lv rfl rfl (vm rfl) ?_)
   refine lo (wanted_n rfl rfl (c := true) rfl rfl) rfl ?_
   refine lo (wanted_n rfl rfl (c := true) rfl rfl) rfl ?_
   refine lv rfl rfl (v := (.bool true)) (hv_pick (t := true) rfl rfl) ?_
   refine ln (qn ?_)
   obtain rfl := H
   exact ⟨rfl, (hc rfl (hc rfl (hc rfl (hc rfl (hc rfl hn)))))⟩
  ·replace H := H.2 a0
   refine ly (wanted_y rfl rfl rfl a0) rfl (HStep.of_val (v := (ptr a1 a2)) (vm rfl) ?_)
   refine ly (wanted_y rfl rfl rfl a0) rfl (HStep.of_val (v := (ptr a1 a2)) (hv_nil rfl) ?_)
   refine ly (wanted_y rfl rfl rfl a0) rfl (HStep.of_val (v := (ptr a1 (a2 + 1))) (vf TyShJ.fld80_1 (b := a1) (o := a2) rfl) ?_)
   obtain ⟨x, c7, c9, e5, H⟩ := H
   refine ly (wanted_y rfl rfl rfl a0) rfl (HStep.of_val (v := (.slice x c7 c9)) (vl TyShJ.agg78 rfl e5) ?_)
   refine ly (wanted_y rfl rfl rfl a0) rfl (HStep.of_val (v := (.int .i64 r0)) (vm rfl) ?_)
   obtain ⟨b7, b5, b8, e3, e1, Hq⟩ := H
   subst b8
   have H := Hq; clear Hq
   refine ly (wanted_y rfl rfl rfl a0) rfl (HStep.of_val (v := (ptr b7 (b5 + (Int.toNat r0) * 1))) (vi TyShJ.el78 rfl rfl e3 e1) ?_)
   obtain ⟨c6, b3, c2, e0, H⟩ := H
   refine ly (wanted_y rfl rfl rfl a0) rfl (HStep.of_val (v := (.slice c6 b3 c2)) (vl TyShJ.agg47 rfl e0) ?_)
   refine ly (wanted_y rfl rfl rfl a0) rfl (HStep.of_val (v := (.int .i64 r1)) (vm rfl) ?_)
   obtain ⟨a8, a7, b8, e4, e2, Hq⟩ := H
   subst b8
   have H := Hq; clear Hq
   refine ly (wanted_y rfl rfl rfl a0) rfl (HStep.of_val (v := (ptr a8 (a7 + (Int.toNat r1) * 4))) (vi TyShJ.el47 rfl rfl e4 e2) ?_)
   refine ly (wanted_y rfl rfl rfl a0) rfl (HStep.of_val (v := (ptr a8 ((a7 + (Int.toNat r1) * 4) + 1))) (vf TyShJ.fld31_1 (b := a8) (o := a7 + (Int.toNat r1) * 4) rfl) ?_)
   obtain ⟨b0, d2, H⟩ := H
   refine ly (wanted_y rfl rfl rfl a0) rfl (HStep.of_val (v := (.int .u64 b0)) (vl TyShJ.agg29 rfl d2) ?_)
   refine ly (wanted_y rfl rfl rfl a0) rfl (HStep.of_val (v := (.int .u64 a3)) (vm rfl) ?_)
   refine ly (wanted_y rfl rfl rfl a0) rfl (HStep.of_val (v := (.bool (b0 != a3))) (vr rfl rfl rfl) ?_)
   refine lv rfl rfl (v := (.bool (b0 != a3))) (hv_pick_f rfl a0 rfl) (lv rfl rfl (vm rfl) ?_)
   rcases bool_or (b0 != a3) with a6 | a6
   ·replace H := H.1 a6
    refine lo (wanted_n rfl rfl rfl a6) rfl ?_
    refine lo (wanted_n rfl rfl rfl a6) rfl ?_
    refine lv rfl rfl (v := (.bool true)) (hv_pick_t rfl a6 rfl) ?_
    refine ln (qn ?_)
    obtain rfl := H
    exact ⟨rfl, (hc rfl (hc rfl (hc rfl (hc rfl (hc rfl hn)))))⟩
   ·replace H := H.2 a6
    refine ly (wanted_y rfl rfl rfl a6) rfl (HStep.of_val (v := (.int .u64 a9)) (vm rfl) ?_)
    refine ly (wanted_y rfl rfl rfl a6) rfl (HStep.of_val (v := (.bool (a9 == 0))) (vr rfl rfl rfl) ?_)
    refine lv rfl rfl (v := (.bool (a9 == 0))) (hv_pick_f rfl a6 rfl) ?_
    refine ln (qn ?_)
    obtain rfl := H
    exact ⟨rfl, (hc rfl (hc rfl (hc rfl (hc rfl (hc rfl hn)))))⟩
 ·have H := d0; clear c8 d0
  rintro ρ _ ⟨rfl, hH⟩
  refine xh _ hH ?_
  refine xc (b := j) rfl (fun c3 => ?_) (fun c3 => ?_)
  ·replace H := H.1 c3
   refine xs (xr ?_)
   refine lv rfl rfl (va rfl) ?_
   refine ln (qn (xt (qr ?_)))
   exact endQ_ret _ (res_one Try.results39 (rv_tmp rfl)) H
  ·replace H := H.2 c3
   refine xi (qn (xs (xr ?_)))
   refine lv rfl rfl (vm rfl) (lv rfl rfl (v := (ptr a1 a2)) (hv_nil rfl) (lv rfl rfl (v := (ptr a1 (a2 + 1))) (vf TyShJ.fld80_1 (b := a1) (o := a2) rfl) ?_))
   obtain ⟨c4, b1, c1, d8, H⟩ := H
   refine lv rfl rfl (vl TyShJ.agg78 rfl d8) (lv rfl rfl (vm rfl) ?_)
   obtain ⟨b2, b6, b8, d5, d7, Hq⟩ := H
   subst b8
   have H := Hq; clear Hq
   refine lv rfl rfl (v := (ptr b2 (b6 + (Int.toNat r0) * 1))) (vi TyShJ.el78 rfl rfl d5 d7) ?_
   obtain ⟨c5, b4, c0, d4, H⟩ := H
   refine lv rfl rfl (vl TyShJ.agg47 rfl d4) (lv rfl rfl (vm rfl) (lv rfl rfl (vm rfl) ?_))
   obtain ⟨a4, a5, b8, d6, d1, Hq⟩ := H
   subst b8
   have H := Hq; clear Hq
   refine lv rfl rfl (v := (ptr a4 (a5 + (Int.toNat r1) * 4))) (vi TyShJ.el47 rfl rfl d6 d1) (lv rfl rfl (v := (ptr a4 ((a5 + (Int.toNat r1) * 4) + 1))) (vf TyShJ.fld31_1 (b := a4) (o := a5 + (Int.toNat r1) * 4) rfl) ?_)
   obtain ⟨d9, H⟩ := H
   refine lp rfl rfl (hn_store (v := (.int .u64 a9)) rfl rfl TyShJ.sz29 rfl d9 ?_)
   intro h2 d3
   replace H := H h2 d3
   refine ln (qn (xs (xr ?_)))
   refine lv rfl rfl (va rfl) ?_
   refine ln (qn (xt ?_))
   exact endQ_ret _ (res_one Try.results39 (rv_tmp rfl)) H
theorem f40_sh (a2 : Nat) (a3 : Nat) (a9 : Int) (h : Heap) (R : Value → Heap → Prop)
  (H : HC Try.prog 53 #[(ptr a2 a3), (.int .u64 a9)] h (fun vv h1 => ∃ r0 r1 : Int, ∃ r2 : Bool, vv = (.tuple #[(.int .i64 r0), (.int .i64 r1), (.bool r2)]) ∧ (((!r2) = true → R (.bool false) h1) ∧ ((!r2) = false → (∃ A4 : Heap → Prop, (∃ x : Option Addr, ∃ b0 b4 : Nat, hcell h1 a2 (a3 + 1) = some (.slice x b0 b4) ∧ (∃ a6 a5 : Nat, x = some ⟨a6, a5, none⟩ ∧ (0 : Int) ≤ r0 ∧ r0 < (b0 : Int) ∧ (∃ b5 : Option Addr, ∃ a7 a8 : Nat, hcell h1 a6 (a5 + (Int.toNat r0) * 1) = some (.slice b5 a7 a8) ∧ (∃ a1 a0 : Nat, b5 = some ⟨a1, a0, none⟩ ∧ (0 : Int) ≤ r1 ∧ r1 < (a7 : Int) ∧ (∃ a4 : Int, hcell h1 a1 ((a0 + (Int.toNat r1) * 4) + 3) = some (.int .u8 a4) ∧ (((decide (a4 < 255)) = true → (HW h1 a1 ((a0 + (Int.toNat r1) * 4) + 3) ∧ ∀ h3, h3 = hset h1 a1 ((a0 + (Int.toNat r1) * 4) + 3) (.int .u8 (IntKind.u8.wrap (a4 + 1))) → (A4 h3))) ∧ ((decide (a4 < 255)) = false → (A4 h1)))))))) ∧ (∀ (h2 : Heap), A4 h2 → R (.bool true) h2)))))) :
  HC Try.prog 40 #[(ptr a2 a3), (.int .u64 a9)] h R := by
 refine hc_of (args := [(ptr a2 a3), (.int .u64 a9)]) Try.func40 rfl Try.ntmps40 (Nat.le_of_ble_eq_true rfl) ?_
 refine xs (xr ?_)
 refine lv rfl rfl (va rfl) ?_
 refine ln (qn (xs (xr ?_)))
 refine lv rfl rfl (vm rfl) (lv rfl rfl (vm rfl) ?_)
 refine lp rfl rfl (sc TyShJ.cb53 rfl (HC.mono H ?_))
 rintro _ h1 ⟨r0, r1, r2, rfl, H⟩
 refine lv rfl rfl (vm rfl) (lv rfl rfl (vx rfl rfl) (lv rfl rfl (vx rfl rfl) (lv rfl rfl (vx rfl rfl) (lv rfl rfl (va rfl) (lv rfl rfl (va rfl) ?_)))))
 refine lv rfl rfl (va rfl) ?_
 refine ln (qn (xs (xs (xr ?_))))
 refine lv rfl rfl (vm rfl) (lv rfl rfl (v := (.bool (!r2))) (hv_not (b := r2) rfl) ?_)
 refine ln (qn ?_)
 refine xc (b := !r2) rfl (fun b9 => ?_) (fun b9 => ?_)
 ·replace H := H.1 b9
  refine xs (xr ?_)
  refine lv rfl rfl (va rfl) ?_
  refine ln (qn (xt (qr ?_)))
  exact endQ_ret _ (res_one Try.results40 (rv_tmp rfl)) H
 ·replace H := H.2 b9
  refine xi (qn ?_)
  obtain ⟨A4, c0, b6⟩ := H
  refine xk (fun ρ h' => (A4 h' ∧ True) ∧ Has ρ []) ?_ ?_
  ·have H := c0; clear c0 b6
   refine xs (xr ?_)
   refine lv rfl rfl (vm rfl) (lv rfl rfl (v := (ptr a2 a3)) (hv_nil rfl) (lv rfl rfl (v := (ptr a2 (a3 + 1))) (vf TyShJ.fld80_1 (b := a2) (o := a3) rfl) ?_))
   obtain ⟨x, b0, b4, c4, H⟩ := H
   refine lv rfl rfl (vl TyShJ.agg78 rfl c4) (lv rfl rfl (vm rfl) ?_)
   obtain ⟨a6, a5, b7, c2, c3, Hq⟩ := H
   subst b7
   have H := Hq; clear Hq
   refine lv rfl rfl (v := (ptr a6 (a5 + (Int.toNat r0) * 1))) (vi TyShJ.el78 rfl rfl c2 c3) ?_
   obtain ⟨b5, a7, a8, c1, H⟩ := H
   refine lv rfl rfl (vl TyShJ.agg47 rfl c1) (lv rfl rfl (vm rfl) ?_)
   obtain ⟨a1, a0, b7, b2, b3, Hq⟩ := H
   subst b7
   have H := Hq; clear Hq
   refine lv rfl rfl (v := (ptr a1 (a0 + (Int.toNat r1) * 4))) (vi TyShJ.el47 rfl rfl b2 b3) (lv rfl rfl (v := (ptr a1 ((a0 + (Int.toNat r1) * 4) + 3))) (vf TyShJ.fld31_3 (b := a1) (o := a0 + (Int.toNat r1) * 4) rfl) ?_)
   obtain ⟨a4, b8, H⟩ := H
   refine lv rfl rfl (vl TyShJ.agg5 rfl b8) (lv rfl rfl (vr rfl rfl rfl) ?_)
   refine ln (qn ?_)
   refine xc (b := decide (a4 < 255)) rfl (fun b1 => ?_) (fun b1 => ?_)
   ·replace H := H.1 b1
    refine xr ?_
    refine lv rfl rfl (vm rfl) (lv rfl rfl (v := (ptr a2 a3)) (hv_nil rfl) (lv rfl rfl (v := (ptr a2 (a3 + 1))) (vf TyShJ.fld80_1 (b := a2) (o := a3) rfl) (lv rfl rfl (vl TyShJ.agg78 rfl c4) (lv rfl rfl (vm rfl) (lv rfl rfl (v := (ptr a6 (a5 + (Int.toNat r0) * 1))) (vi TyShJ.el78 rfl rfl c2 c3) ?_)))))
    refine lv rfl rfl (vl TyShJ.agg47 rfl c1) (lv rfl rfl (vm rfl) (lv rfl rfl (v := (ptr a1 (a0 + (Int.toNat r1) * 4))) (vi TyShJ.el47 rfl rfl b2 b3) (lv rfl rfl (v := (ptr a1 ((a0 + (Int.toNat r1) * 4) + 3))) (vf TyShJ.fld31_3 (b := a1) (o := a0 + (Int.toNat r1) * 4) rfl) (lv rfl rfl (vl TyShJ.agg5 rfl b8) (lv rfl rfl (vr rfl rfl rfl) ?_)))))
    refine lv rfl rfl (v := (ptr a1 (a0 + (Int.toNat r1) * 4))) (vi TyShJ.el47 rfl rfl b2 b3) (lv rfl rfl (v := (ptr a1 ((a0 + (Int.toNat r1) * 4) + 3))) (vf TyShJ.fld31_3 (b := a1) (o := a0 + (Int.toNat r1) * 4) rfl) ?_)
    obtain ⟨c5, H⟩ := H
    refine lp rfl rfl (hn_store (v := (.int .u8 (IntKind.u8.wrap (a4 + 1)))) rfl rfl TyShJ.sz5 rfl c5 ?_)
    intro h3 c6
    replace H := H h3 c6
    refine ln (qn ?_)
    exact ⟨⟨H, trivial⟩, hn⟩
   ·replace H := H.2 b1
    refine xi (qn ?_)
    exact ⟨⟨H, trivial⟩, hn⟩
  ·rintro ρ h2 ⟨⟨c7, -⟩, hH⟩
   have H := b6 h2 c7; clear c0 b6
   refine xh _ hH ?_
   refine xs (xr ?_)
   refine lv rfl rfl (va rfl) ?_
   refine ln (qn (xt ?_))
   exact endQ_ret _ (res_one Try.results40 (rv_tmp rfl)) H
theorem f41_sh (b1 : Nat) (b2 : Nat) (a0 : Int) (a2 : Int) (h : Heap) (R : Value → Heap → Prop)
  (H : (∃ j : Bool, (((decide (a0 < 0)) = true → (j = true)) ∧ ((decide (a0 < 0)) = false → (∃ x : Option Addr, ∃ b8 e8 : Nat, hcell h b1 (b2 + 1) = some (.slice x b8 e8) ∧ (((decide (a0 ≥ (b8 : Int))) = true → (j = true)) ∧ ((decide (a0 ≥ (b8 : Int))) = false → (j = (decide (a2 < 0)))))))) ∧ ((j = true → R (.int .i64 0) h) ∧ (j = false → (∃ e3 : Option Addr, ∃ c7 d3 : Nat, hcell h b1 (b2 + 1) = some (.slice e3 c7 d3) ∧ (∃ c6 c5 : Nat, e3 = some ⟨c6, c5, none⟩ ∧ (0 : Int) ≤ a0 ∧ a0 < (c7 : Int) ∧ (∃ c9 : Option Addr, ∃ a5 c3 : Nat, hcell h c6 (c5 + (Int.toNat a0) * 1) = some (.slice c9 a5 c3) ∧ (∃ (d5 : Option Addr → Nat → Nat → Int → Int → Heap → Prop) (d2 : Option Addr → Nat → Nat → Int → Int → Heap → Nat), d5 none 0 0 0 0 h ∧ (∀ (b5 : Option Addr) (a9 : Nat) (b0 : Nat) (n : Int) (v : Int) (h1 : Heap), d5 b5 a9 b0 n v h1 → (((decide (v < (a5 : Int))) = true → (∃ d6 : Option Addr → Nat → Nat → Int → Heap → Prop, (∃ b7 b6 : Nat, c9 = some ⟨b7, b6, none⟩ ∧ (0 : Int) ≤ v ∧ v < (a5 : Int) ∧ (∃ a7 a6 a1 a8 : Int, hcell h1 b7 (b6 + (Int.toNat v) * 4) = some (.int .u64 a7) ∧ hcell h1 b7 ((b6 + (Int.toNat v) * 4) + 1) = some (.int .u64 a6) ∧ hcell h1 b7 ((b6 + (Int.toNat v) * 4) + 2) = some (.int .u64 a1) ∧ hcell h1 b7 ((b6 + (Int.toNat v) * 4) + 3) = some (.int .u8 a8) ∧ ((((Int.fdiv a6 (2 ^ min (Int.toNat 48) 64)) == (IntKind.u64.wrap a2)) = true → (∀ (h4 : Heap), Ext h1 h4 → (d6 b5 a9 b0 (IntKind.i64.wrap (n + 1)) h4))) ∧ (((Int.fdiv a6 (2 ^ min (Int.toNat 48) 64)) == (IntKind.u64.wrap a2)) = false → (∀ (h4 : Heap), Ext h1 h4 → (∀ nb h5, nb = Array.size h4 → h5 = Array.push h4 (.cells #[(.int .u64 a7), (.int .u64 a6), (.int .u64 a1), (.int .u8 a8)] 31) → HAppend Try.prog 47 47 (.slice b5 a9 b0) (.slice (some ⟨nb, 0, none⟩) 1 1) h5 (fun vv h6 => ∃ ap : Option Addr, ∃ d0 d4 : Nat, vv = (.slice ap d0 d4) ∧ (d6 ap d0 d4 n h6)))))))) ∧ (∀ (b3 : Option Addr) (a3 : Nat) (a4 : Nat) (c2 : Int) (h2 : Heap), d6 b3 a3 a4 c2 h2 → (d5 b3 a3 a4 c2 (IntKind.i64.wrap (v + 1)) h2 ∧ d2 b3 a3 a4 c2 (IntKind.i64.wrap (v + 1)) h2 < d2 b5 a9 b0 n v h1)))) ∧ ((decide (v < (a5 : Int))) = false → (∃ e2 : Option Addr, ∃ c8 d1 : Nat, hcell h1 b1 (b2 + 1) = some (.slice e2 c8 d1) ∧ (∃ c0 c4 : Nat, e2 = some ⟨c0, c4, none⟩ ∧ (0 : Int) ≤ a0 ∧ a0 < (c8 : Int) ∧ (HW h1 c0 (c4 + (Int.toNat a0) * 1) ∧ ∀ h7, h7 = hset h1 c0 (c4 + (Int.toNat a0) * 1) (.slice b5 a9 b0) → R (.int .i64 n) h7)))))))))))))) :
  HC Try.prog 41 #[(ptr b1 b2), (.int .i64 a0), (.int .i64 a2)] h R := by
 refine hc_of (args := [(ptr b1 b2), (.int .i64 a0), (.int .i64 a2)]) Try.func41 rfl Try.ntmps41 (Nat.le_of_ble_eq_true rfl) ?_
 refine xs (xr ?_)
 refine lv rfl rfl (va rfl) ?_
 refine ln (qn (xs ?_))
 obtain ⟨j, e7, f3⟩ := H
 refine xk (fun ρ h' => h = h' ∧ Has ρ [(0, (ptr b1 b2)), (1, (.int .i64 a0)), (2, (.int .i64 a2)), (25, (.bool j))]) ?_ ?_
 ·have H := e7; clear e7 f3
  refine xr ?_
  refine lv rfl rfl (vm rfl) (lv rfl rfl (vr rfl rfl rfl) (lv rfl rfl (vm rfl) ?_))
  rcases bool_or (decide (a0 < 0)) with b4 | b4
  ·replace H := H.1 b4
   refine lo (wanted_n rfl rfl rfl b4) rfl ?_
   refine lo (wanted_n rfl rfl rfl b4) rfl ?_
   refine lo (wanted_n rfl rfl rfl b4) rfl ?_
   refine lo (wanted_n rfl rfl rfl b4) rfl ?_
   refine lo (wanted_n rfl rfl rfl b4) rfl ?_
   refine lo (wanted_n rfl rfl rfl b4) rfl ?_
   refine lo (wanted_n rfl rfl rfl b4) rfl ?_
   refine lv rfl rfl (v := (.bool true)) (hv_pick_t rfl b4 rfl) (lv rfl rfl (vm rfl) ?_)
   refine lo (wanted_n rfl rfl (c := true) rfl rfl) rfl ?_
   refine lo (wanted_n rfl rfl (c := true) rfl rfl) rfl ?_
   refine lv rfl rfl (v := (.bool true)) (hv_pick (t := true) rfl rfl) ?_
   refine ln (qn ?_)
   obtain rfl := H
   exact ⟨rfl, (hc rfl (hc rfl (hc rfl (hc rfl hn))))⟩
  ·replace H := H.2 b4
   refine ly (wanted_y rfl rfl rfl b4) rfl (HStep.of_val (v := (.int .i64 a0)) (vm rfl) ?_)
   refine ly (wanted_y rfl rfl rfl b4) rfl (HStep.of_val (v := (ptr b1 b2)) (vm rfl) ?_)
   refine ly (wanted_y rfl rfl rfl b4) rfl (HStep.of_val (v := (ptr b1 b2)) (hv_nil rfl) ?_)
   refine ly (wanted_y rfl rfl rfl b4) rfl (HStep.of_val (v := (ptr b1 (b2 + 1))) (vf TyShJ.fld80_1 (b := b1) (o := b2) rfl) ?_)
   obtain ⟨x, b8, e8, i5, H⟩ := H
   refine ly (wanted_y rfl rfl rfl b4) rfl (HStep.of_val (v := (.slice x b8 e8)) (vl TyShJ.agg78 rfl i5) ?_)
   refine ly (wanted_y rfl rfl rfl b4) rfl (HStep.of_val (v := (.int .i64 (b8 : Int))) (hv_len (n := b8) TyShJ.u78 rfl) ?_)
   refine ly (wanted_y rfl rfl rfl b4) rfl (HStep.of_val (v := (.bool (decide (a0 ≥ (b8 : Int))))) (vr rfl rfl rfl) ?_)
   refine lv rfl rfl (v := (.bool (decide (a0 ≥ (b8 : Int))))) (hv_pick_f rfl b4 rfl) (lv rfl rfl (vm rfl) ?_)
   rcases bool_or (decide (a0 ≥ (b8 : Int))) with b9 | b9
   ·replace H := H.1 b9
    refine lo (wanted_n rfl rfl rfl b9) rfl ?_
    refine lo (wanted_n rfl rfl rfl b9) rfl ?_
    refine lv rfl rfl (v := (.bool true)) (hv_pick_t rfl b9 rfl) ?_
    refine ln (qn ?_)
    obtain rfl := H
    exact ⟨rfl, (hc rfl (hc rfl (hc rfl (hc rfl hn))))⟩
   ·replace H := H.2 b9
    refine ly (wanted_y rfl rfl rfl b9) rfl (HStep.of_val (v := (.int .i64 a2)) (vm rfl) ?_)
    refine ly (wanted_y rfl rfl rfl b9) rfl (HStep.of_val (v := (.bool (decide (a2 < 0)))) (vr rfl rfl rfl) ?_)
    refine lv rfl rfl (v := (.bool (decide (a2 < 0)))) (hv_pick_f rfl b9 rfl) ?_
    refine ln (qn ?_)
    obtain rfl := H
    exact ⟨rfl, (hc rfl (hc rfl (hc rfl (hc rfl hn))))⟩
 ·have H := f3; clear e7 f3
  rintro ρ _ ⟨rfl, hH⟩
  refine xh _ hH ?_
  refine xc (b := j) rfl (fun e9 => ?_) (fun e9 => ?_)
  ·replace H := H.1 e9
   refine xs (xr ?_)
   refine lv rfl rfl (va rfl) ?_
   refine ln (qn (xt (qr ?_)))
   exact endQ_ret _ (res_one Try.results41 (rv_tmp rfl)) H
  ·replace H := H.2 e9
   refine xi (qn (xs (xr ?_)))
   refine lv rfl rfl (va rfl) ?_
   refine ln (qn (xs (xr ?_)))
   refine lv rfl rfl (va rfl) ?_
   refine ln (qn (xs (xs (xr ?_))))
   refine lv rfl rfl (vm rfl) (lv rfl rfl (v := (ptr b1 b2)) (hv_nil rfl) (lv rfl rfl (v := (ptr b1 (b2 + 1))) (vf TyShJ.fld80_1 (b := b1) (o := b2) rfl) ?_))
   obtain ⟨e3, c7, d3, i3, H⟩ := H
   refine lv rfl rfl (vl TyShJ.agg78 rfl i3) (lv rfl rfl (vm rfl) ?_)
   obtain ⟨c6, c5, d7, i6, i4, Hq⟩ := H
   subst d7
   have H := Hq; clear Hq
   refine lv rfl rfl (v := (ptr c6 (c5 + (Int.toNat a0) * 1))) (vi TyShJ.el78 rfl rfl i6 i4) ?_
   obtain ⟨c9, a5, c3, g5, H⟩ := H
   refine lv rfl rfl (vl TyShJ.agg47 rfl g5) (lv rfl rfl (v := (.int .i64 (a5 : Int))) (hv_len (n := a5) TyShJ.u47 rfl) (lv rfl rfl (vm rfl) ?_))
   refine ln (qn (xb ?_))
   obtain ⟨d5, d2, g0, g4⟩ := H
   refine xl (σ := Option Addr × Nat × Nat × Int × Int) (fun s => [(0, (ptr b1 b2)), (1, (.int .i64 a0)), (2, (.int .i64 a2)), (7, (.slice s.1 s.2.1 s.2.2.1)), (8, (.int .i64 s.2.2.2.1)), (32, (.slice c9 a5 c3)), (33, (.int .i64 (a5 : Int))), (34, (.int .i64 s.2.2.2.2))]) (fun s h' => d5 s.1 s.2.1 s.2.2.1 s.2.2.2.1 s.2.2.2.2 h' ∧ True) (fun s h' => d2 s.1 s.2.1 s.2.2.1 s.2.2.2.1 s.2.2.2.2 h') (none, 0, 0, 0, 0) ⟨g0, trivial⟩ (hc rfl (hc rfl (hc rfl (hc rfl (hc rfl (hc rfl (hc rfl (hc rfl hn)))))))) ?_
   rintro ⟨b5, a9, b0, n, v⟩ ρ h1 ⟨f6, -⟩
   have H := g4 b5 a9 b0 n v h1 f6
   refine xs (xr ?_)
   refine lv rfl rfl (vr rfl rfl rfl) ?_
   refine ln (qn (xs ?_))
   refine xc (b := decide (v < (a5 : Int))) rfl (fun e1 => ?_) (fun e1 => ?_)
   ·replace H := H.1 e1
    refine xi (qn ?_)
    obtain ⟨d6, e0, d8⟩ := H
    refine xk (fun ρ h' => ∃ b3 : Option Addr, ∃ a3 a4 : Nat, ∃ c2 : Int, (d6 b3 a3 a4 c2 h' ∧ True) ∧ Has ρ [(0, (ptr b1 b2)), (1, (.int .i64 a0)), (2, (.int .i64 a2)), (7, (.slice b3 a3 a4)), (8, (.int .i64 c2)), (32, (.slice c9 a5 c3)), (33, (.int .i64 (a5 : Int))), (34, (.int .i64 v))]) ?_ ?_
    ·have H := e0; clear e0 d8
     refine xb (xs (xr ?_))
     obtain ⟨b7, b6, d7, g7, f7, Hq⟩ := H
     subst d7
     have H := Hq; clear Hq
     refine lv rfl rfl (v := (ptr b7 (b6 + (Int.toNat v) * 4))) (vi TyShJ.el47 rfl rfl g7 f7) ?_
     obtain ⟨a7, a6, a1, a8, i0, f9, g1, f5, H⟩ := H
     refine lv rfl rfl (vL (vs := [(.int .u64 a7), (.int .u64 a6), (.int .u64 a1), (.int .u8 a8)]) TyShJ.agg31 TyShJ.sz31 rfl (cc i0 (cc f9 (cc g1 (cc f5 cn))))) ?_
     refine lp rfl rfl (hn_alloc TyShJ.z31 ?_)
     intro e h3 e5 e6
     have f8 := ext_pushed_f21_sh e6
     have i2 : Array.size h1 ≤ e := Nat.le_of_eq (Eq.symm e5)
     have e4 : h3[e]? = some (.cells #[(.int .u64 0), (.int .u64 0), (.int .u64 0), (.int .u8 0)] 31 (0, 0)) := by rw [e6]; exact push_new e5
     refine lp rfl rfl (hn_stores (vs := [(.int .u64 a7), (.int .u64 a6), (.int .u64 a1), (.int .u8 a8)]) rfl rfl TyShJ.sz31 rfl (HWs_row e4 (by simp)) ?_)
     intro h4 f0
     have c1 : h4[e]? = some (.cells #[(.int .u64 a7), (.int .u64 a6), (.int .u64 a1), (.int .u8 a8)] 31 (0, 0)) := row_hsets_eq f0 e4 rfl
     have f1 := ext_hsets f0 f8 i2
     refine ln (qn (xs (xr ?_)))
     refine lv rfl rfl (v := (ptr e 1)) (vf TyShJ.fld31_1 (b := e) (o := 0) rfl) (lv rfl rfl (vl TyShJ.agg29 rfl (rc c1 rfl)) (lv rfl rfl (v := (.int .u64 (Int.fdiv a6 (2 ^ min (Int.toNat 48) 64)))) (hv_shift rfl rfl (by decide) rfl) (lv rfl rfl (vm rfl) (lv rfl rfl (v := (.int .u64 (IntKind.u64.wrap a2))) (hv_convInt TyShJ.u3 TyShJ.u29 rfl) (lv rfl rfl (vr rfl rfl rfl) ?_)))))
     refine ln (qn ?_)
     refine xc (b := (Int.fdiv a6 (2 ^ min (Int.toNat 48) 64)) == (IntKind.u64.wrap a2)) rfl (fun d9 => ?_) (fun d9 => ?_)
     ·replace H := H.1 d9
      refine xr ?_
      refine lv rfl rfl (vm rfl) (lv rfl rfl (vr rfl rfl rfl) (lv rfl rfl (va rfl) ?_))
      refine ln (bn ?_)
      replace H := H h4 f1
      refine qn ?_
      exact ⟨_, _, _, _, ⟨H, trivial⟩, (hc rfl (hc rfl (hc rfl (hc rfl (hc rfl (hc rfl (hc rfl (hc rfl hn))))))))⟩
     ·replace H := H.2 d9
      refine xr ?_
      refine lv rfl rfl (vm rfl) (lv rfl rfl (vL (vs := [(.int .u64 a7), (.int .u64 a6), (.int .u64 a1), (.int .u8 a8)]) TyShJ.agg31 TyShJ.sz31 rfl (cc (rc c1 rfl) (cc (rc c1 rfl) (cc (rc c1 rfl) (cc (rc c1 rfl) cn))))) ?_)
      replace H := H h4 f1
      refine lp rfl rfl (hn_buildSlice (n := 1) (vs := [(0, (.agg #[(.int .u64 a7), (.int .u64 a6), (.int .u64 a1), (.int .u8 a8)]))]) (cs := #[(.int .u64 a7), (.int .u64 a6), (.int .u64 a1), (.int .u8 a8)]) TyShJ.u47 TyShJ.sz31 TyShJ.z31 rfl rfl (by kernel_rfl) ?_)
      intro nb h5 g9 f2
      replace H := H nb h5 g9 f2
      have i7 := ext_pushed_f21_sh f2
      refine lp rfl rfl (hs_append rfl rfl (HAppend.mono H ?_))
      rintro _ h6 ⟨ap, d0, d4, rfl, H⟩
      refine lv rfl rfl (va rfl) ?_
      refine ln (bn (qn ?_))
      exact ⟨_, _, _, _, ⟨H, trivial⟩, (hc rfl (hc rfl (hc rfl (hc rfl (hc rfl (hc rfl (hc rfl (hc rfl hn))))))))⟩
    ·rintro ρ h2 ⟨b3, a3, a4, c2, ⟨g2, -⟩, hH⟩
     have H := d8 b3 a3 a4 c2 h2 g2; clear e0 d8
     refine xh _ hH ?_
     refine xr ?_
     refine lv rfl rfl (vr rfl rfl rfl) (lv rfl rfl (vm rfl) ?_)
     refine ln (qn ?_)
     exact ⟨(b3, a3, a4, c2, IntKind.i64.wrap (v + 1)), ⟨⟨H.1, trivial⟩, H.2⟩, (hc rfl (hc rfl (hc rfl (hc rfl (hc rfl (hc rfl (hc rfl (hc rfl hn))))))))⟩
   ·replace H := H.2 e1
    refine xe (qe (qe (bh (qn (xs (xr ?_))))))
    refine lv rfl rfl (vm rfl) (lv rfl rfl (v := (ptr b1 b2)) (hv_nil rfl) (lv rfl rfl (v := (ptr b1 (b2 + 1))) (vf TyShJ.fld80_1 (b := b1) (o := b2) rfl) ?_))
    obtain ⟨e2, c8, d1, f4, H⟩ := H
    refine lv rfl rfl (vl TyShJ.agg78 rfl f4) (lv rfl rfl (vm rfl) (lv rfl rfl (vm rfl) ?_))
    obtain ⟨c0, c4, d7, i1, g3, Hq⟩ := H
    subst d7
    have H := Hq; clear Hq
    refine lv rfl rfl (v := (ptr c0 (c4 + (Int.toNat a0) * 1))) (vi TyShJ.el78 rfl rfl i1 g3) ?_
    obtain ⟨g8, H⟩ := H
    refine lp rfl rfl (hn_store (v := (.slice b5 a9 b0)) rfl rfl TyShJ.sz47 rfl g8 ?_)
    intro h7 g6
    replace H := H h7 g6
    refine ln (qn (xs (xr ?_)))
    refine lv rfl rfl (vm rfl) (lv rfl rfl (va rfl) ?_)
    refine ln (qn (xt ?_))
    exact endQ_ret _ (res_one Try.results41 (rv_tmp rfl)) H
theorem f43_sh (a2 : Nat) (a3 : Nat) (a0 : Int) (h : Heap) (R : Value → Heap → Prop)
  (H : (∃ j : Bool, (((decide (a0 < 0)) = true → (j = true)) ∧ ((decide (a0 < 0)) = false → (∃ x : Option Addr, ∃ a5 b3 : Nat, hcell h a2 (a3 + 1) = some (.slice x a5 b3) ∧ (j = (decide (a0 ≥ (a5 : Int))))))) ∧ ((j = true → R (.int .i64 0) h) ∧ (j = false → (∃ b1 : Option Addr, ∃ a7 b0 : Nat, hcell h a2 (a3 + 1) = some (.slice b1 a7 b0) ∧ (∃ a8 a6 : Nat, b1 = some ⟨a8, a6, none⟩ ∧ (0 : Int) ≤ a0 ∧ a0 < (a7 : Int) ∧ (∃ b6 : Option Addr, ∃ a4 a9 : Nat, hcell h a8 (a6 + (Int.toNat a0) * 1) = some (.slice b6 a4 a9) ∧ R (.int .i64 (a4 : Int)) h))))))) :
  HC Try.prog 43 #[(ptr a2 a3), (.int .i64 a0)] h R := by
 refine hc_of (args := [(ptr a2 a3), (.int .i64 a0)]) Try.func43 rfl Try.ntmps43 (Nat.le_of_ble_eq_true rfl) ?_
 refine xs (xr ?_)
 refine lv rfl rfl (va rfl) ?_
 refine ln (qn (xs ?_))
 obtain ⟨j, b2, b5⟩ := H
 refine xk (fun ρ h' => h = h' ∧ Has ρ [(0, (ptr a2 a3)), (1, (.int .i64 a0)), (15, (.bool j))]) ?_ ?_
 ·have H := b2; clear b2 b5
  refine xr ?_
  refine lv rfl rfl (vm rfl) (lv rfl rfl (vr rfl rfl rfl) (lv rfl rfl (vm rfl) ?_))
  rcases bool_or (decide (a0 < 0)) with a1 | a1
  ·replace H := H.1 a1
   refine lo (wanted_n rfl rfl rfl a1) rfl ?_
   refine lo (wanted_n rfl rfl rfl a1) rfl ?_
   refine lo (wanted_n rfl rfl rfl a1) rfl ?_
   refine lo (wanted_n rfl rfl rfl a1) rfl ?_
   refine lo (wanted_n rfl rfl rfl a1) rfl ?_
   refine lo (wanted_n rfl rfl rfl a1) rfl ?_
   refine lo (wanted_n rfl rfl rfl a1) rfl ?_
   refine lv rfl rfl (v := (.bool true)) (hv_pick_t rfl a1 rfl) ?_
   refine ln (qn ?_)
   obtain rfl := H
   exact ⟨rfl, (hc rfl (hc rfl (hc rfl hn)))⟩
  ·replace H := H.2 a1
   refine ly (wanted_y rfl rfl rfl a1) rfl (HStep.of_val (v := (.int .i64 a0)) (vm rfl) ?_)
   refine ly (wanted_y rfl rfl rfl a1) rfl (HStep.of_val (v := (ptr a2 a3)) (vm rfl) ?_)
   refine ly (wanted_y rfl rfl rfl a1) rfl (HStep.of_val (v := (ptr a2 a3)) (hv_nil rfl) ?_)
   refine ly (wanted_y rfl rfl rfl a1) rfl (HStep.of_val (v := (ptr a2 (a3 + 1))) (vf TyShJ.fld80_1 (b := a2) (o := a3) rfl) ?_)
   obtain ⟨x, a5, b3, c2, H⟩ := H
   refine ly (wanted_y rfl rfl rfl a1) rfl (HStep.of_val (v := (.slice x a5 b3)) (vl TyShJ.agg78 rfl c2) ?_)
   refine ly (wanted_y rfl rfl rfl a1) rfl (HStep.of_val (v := (.int .i64 (a5 : Int))) (hv_len (n := a5) TyShJ.u78 rfl) ?_)
   refine ly (wanted_y rfl rfl rfl a1) rfl (HStep.of_val (v := (.bool (decide (a0 ≥ (a5 : Int))))) (vr rfl rfl rfl) ?_)
   refine lv rfl rfl (v := (.bool (decide (a0 ≥ (a5 : Int))))) (hv_pick_f rfl a1 rfl) ?_
   refine ln (qn ?_)
   obtain rfl := H
   exact ⟨rfl, (hc rfl (hc rfl (hc rfl hn)))⟩
 ·have H := b5; clear b2 b5
  rintro ρ _ ⟨rfl, hH⟩
  refine xh _ hH ?_
  refine xc (b := j) rfl (fun b4 => ?_) (fun b4 => ?_)
  ·replace H := H.1 b4
   refine xs (xr ?_)
   refine lv rfl rfl (va rfl) ?_
   refine ln (qn (xt (qr ?_)))
   exact endQ_ret _ (res_one Try.results43 (rv_tmp rfl)) H
  ·replace H := H.2 b4
   refine xi (qn (xs (xr ?_)))
   refine lv rfl rfl (vm rfl) (lv rfl rfl (v := (ptr a2 a3)) (hv_nil rfl) (lv rfl rfl (v := (ptr a2 (a3 + 1))) (vf TyShJ.fld80_1 (b := a2) (o := a3) rfl) ?_))
   obtain ⟨b1, a7, b0, c1, H⟩ := H
   refine lv rfl rfl (vl TyShJ.agg78 rfl c1) (lv rfl rfl (vm rfl) ?_)
   obtain ⟨a8, a6, b7, b8, c0, Hq⟩ := H
   subst b7
   have H := Hq; clear Hq
   refine lv rfl rfl (v := (ptr a8 (a6 + (Int.toNat a0) * 1))) (vi TyShJ.el78 rfl rfl b8 c0) ?_
   obtain ⟨b6, a4, a9, b9, H⟩ := H
   refine lv rfl rfl (vl TyShJ.agg47 rfl b9) (lv rfl rfl (v := (.int .i64 (a4 : Int))) (hv_len (n := a4) TyShJ.u47 rfl) (lv rfl rfl (va rfl) ?_))
   refine ln (qn (xt ?_))
   exact endQ_ret _ (res_one Try.results43 (rv_tmp rfl)) H
theorem f54_sh (a2 : Nat) (a3 : Nat) (a0 : Int) (h : Heap) (R : Value → Heap → Prop)
  (H : (∃ j : Bool, (((decide (a0 < 0)) = true → (j = true)) ∧ ((decide (a0 < 0)) = false → (∃ x : Option Addr, ∃ a4 b6 : Nat, hcell h a2 (a3 + 1) = some (.slice x a4 b6) ∧ (j = (decide (a0 ≥ (a4 : Int))))))) ∧ ((j = true → R (.slice none 0 0) h) ∧ (j = false → (∀ nb h1, nb = Array.size h → h1 = Array.push h (.cells #[] 31) → (∃ b4 : Option Addr, ∃ a7 b1 : Nat, hcell h1 a2 (a3 + 1) = some (.slice b4 a7 b1) ∧ (∃ a8 a6 : Nat, b4 = some ⟨a8, a6, none⟩ ∧ (0 : Int) ≤ a0 ∧ a0 < (a7 : Int) ∧ (∃ b3 : Option Addr, ∃ a5 a9 : Nat, hcell h1 a8 (a6 + (Int.toNat a0) * 1) = some (.slice b3 a5 a9) ∧ HAppend Try.prog 47 47 (.slice (some ⟨nb, 0, none⟩) 0 0) (.slice b3 a5 a9) h1 (fun vv h2 => ∃ ap : Option Addr, ∃ b0 b2 : Nat, vv = (.slice ap b0 b2) ∧ R (.slice ap b0 b2) h2))))))))) :
  HC Try.prog 54 #[(ptr a2 a3), (.int .i64 a0)] h R := by
 refine hc_of (args := [(ptr a2 a3), (.int .i64 a0)]) Try.func54 rfl Try.ntmps54 (Nat.le_of_ble_eq_true rfl) ?_
 refine xs (xr ?_)
 refine lv rfl rfl (va rfl) ?_
 refine ln (qn (xs ?_))
 obtain ⟨j, b5, b8⟩ := H
 refine xk (fun ρ h' => h = h' ∧ Has ρ [(0, (ptr a2 a3)), (1, (.int .i64 a0)), (15, (.bool j))]) ?_ ?_
 ·have H := b5; clear b5 b8
  refine xr ?_
  refine lv rfl rfl (vm rfl) (lv rfl rfl (vr rfl rfl rfl) (lv rfl rfl (vm rfl) ?_))
  rcases bool_or (decide (a0 < 0)) with a1 | a1
  ·replace H := H.1 a1
   refine lo (wanted_n rfl rfl rfl a1) rfl ?_
   refine lo (wanted_n rfl rfl rfl a1) rfl ?_
   refine lo (wanted_n rfl rfl rfl a1) rfl ?_
   refine lo (wanted_n rfl rfl rfl a1) rfl ?_
   refine lo (wanted_n rfl rfl rfl a1) rfl ?_
   refine lo (wanted_n rfl rfl rfl a1) rfl ?_
   refine lo (wanted_n rfl rfl rfl a1) rfl ?_
   refine lv rfl rfl (v := (.bool true)) (hv_pick_t rfl a1 rfl) ?_
   refine ln (qn ?_)
   obtain rfl := H
   exact ⟨rfl, (hc rfl (hc rfl (hc rfl hn)))⟩
  ·replace H := H.2 a1
   refine ly (wanted_y rfl rfl rfl a1) rfl (HStep.of_val (v := (.int .i64 a0)) (vm rfl) ?_)
   refine ly (wanted_y rfl rfl rfl a1) rfl (HStep.of_val (v := (ptr a2 a3)) (vm rfl) ?_)
   refine ly (wanted_y rfl rfl rfl a1) rfl (HStep.of_val (v := (ptr a2 a3)) (hv_nil rfl) ?_)
   refine ly (wanted_y rfl rfl rfl a1) rfl (HStep.of_val (v := (ptr a2 (a3 + 1))) (vf TyShJ.fld80_1 (b := a2) (o := a3) rfl) ?_)
   obtain ⟨x, a4, b6, c5, H⟩ := H
   refine ly (wanted_y rfl rfl rfl a1) rfl (HStep.of_val (v := (.slice x a4 b6)) (vl TyShJ.agg78 rfl c5) ?_)
   refine ly (wanted_y rfl rfl rfl a1) rfl (HStep.of_val (v := (.int .i64 (a4 : Int))) (hv_len (n := a4) TyShJ.u78 rfl) ?_)
   refine ly (wanted_y rfl rfl rfl a1) rfl (HStep.of_val (v := (.bool (decide (a0 ≥ (a4 : Int))))) (vr rfl rfl rfl) ?_)
   refine lv rfl rfl (v := (.bool (decide (a0 ≥ (a4 : Int))))) (hv_pick_f rfl a1 rfl) ?_
   refine ln (qn ?_)
   obtain rfl := H
   exact ⟨rfl, (hc rfl (hc rfl (hc rfl hn)))⟩
 ·have H := b8; clear b5 b8
  rintro ρ _ ⟨rfl, hH⟩
  refine xh _ hH ?_
  refine xc (b := j) rfl (fun b7 => ?_) (fun b7 => ?_)
  ·replace H := H.1 b7
   refine xs (xr ?_)
   refine lv rfl rfl (va rfl) ?_
   refine ln (qn (xt (qr ?_)))
   exact endQ_ret _ (res_one Try.results54 (rv_tmp rfl)) H
  ·replace H := H.2 b7
   refine xi (qn (xs (xr ?_)))
   refine lp rfl rfl (hn_buildSlice (n := 0) (vs := []) (cs := #[]) TyShJ.u47 TyShJ.sz31 TyShJ.z31 rfl rfl (by kernel_rfl) ?_)
   intro nb h1 c6 b9
   replace H := H nb h1 c6 b9
   have c7 := ext_pushed_f21_sh b9
   refine lv rfl rfl (vm rfl) (lv rfl rfl (v := (ptr a2 a3)) (hv_nil rfl) (lv rfl rfl (v := (ptr a2 (a3 + 1))) (vf TyShJ.fld80_1 (b := a2) (o := a3) rfl) ?_))
   obtain ⟨b4, a7, b1, c3, H⟩ := H
   refine lv rfl rfl (vl TyShJ.agg78 rfl c3) (lv rfl rfl (vm rfl) ?_)
   obtain ⟨a8, a6, c4, c0, c1, Hq⟩ := H
   subst c4
   have H := Hq; clear Hq
   refine lv rfl rfl (v := (ptr a8 (a6 + (Int.toNat a0) * 1))) (vi TyShJ.el78 rfl rfl c0 c1) ?_
   obtain ⟨b3, a5, a9, c2, H⟩ := H
   refine lv rfl rfl (vl TyShJ.agg47 rfl c2) ?_
   refine lp rfl rfl (hs_append rfl rfl (HAppend.mono H ?_))
   rintro _ h2 ⟨ap, b0, b2, rfl, H⟩
   refine lv rfl rfl (va rfl) ?_
   refine ln (qn (xt ?_))
   exact endQ_ret _ (res_one Try.results54 (rv_tmp rfl)) H
end Go.Proofs.Ytkecmljalcfhoaa
namespace Go.Proofs.Ytkecmljalcfhoaa
namespace Ix
open Go RH
structure Rb where
  a : Option Addr
  c : Nat
  L : List Ent
def eRb : Elt Rb := ⟨1, fun t => [.slice t.a t.L.length t.c], fun _ => rfl, fun x v hv => by simp at hv; subst hv; rfl⟩
structure Ref (W : Nat → Prop) (h : Heap) (r ab ao ac m : Nat) (Rs : List Rb) : Prop where
  row : h[r]? = some (.cells #[.int .i64 m, .slice (some ⟨ab, ao, none⟩) Rs.length ac] 80 (0, 0))
  sl : Sl eRb h (some ⟨ab, ao, none⟩) ac Rs
  own : Own eRb.k 47 0 h (some ⟨ab, ao, none⟩) ac
  wr : W r ∧ W ab ∧ r ≠ ab
  ok : ∀ t ∈ Rs, Sl eEnt h t.a t.c t.L ∧ Own eEnt.k 31 0 h t.a t.c ∧ Srt t.L ∧ 8 * t.L.length ≤ 7 * 2 ^ m ∧ ∀ e ∈ t.L, e.wf ∧ e.a ≠ 0
  bl : ∀ t ∈ Rs, ∀ b, blkA t.a b → W b ∧ b ≠ r ∧ b ≠ ab
  sep : Rs.Pairwise fun t u => ∀ b, blkA t.a b → ¬ blkA u.a b
  len : 1 ≤ Rs.length ∧ Rs.length ≤ 64
  m16 : 2 ≤ m ∧ m ≤ 16
  lt : ∀ b, W b → b < h.size
def HasR (W : Nat → Prop) (h : Heap) (r m : Nat) (Ls : List (List Ent)) : Prop := ∃ ab ao ac Rs, Ref W h r ab ao ac m Rs ∧ Rs.map Rb.L = Ls
def AftR (W : Nat → Prop) (h : Heap) (r m : Nat) (Ls : List (List Ent)) (h' : Heap) : Prop := Fr W h h' ∧ HasR (grown W h h') h' r m Ls
section
variable {W : Nat → Prop} {h : Heap} {r ab ao ac m : Nat} {Rs : List Rb}
theorem Ref.fr (I : Ref W h r ab ao ac m Rs) {h' : Heap} {S : Nat → Prop} (f : Fr S h h') (hn : ∀ b, W b → ¬ S b) : Ref W h' r ab ao ac m Rs := by
  have hb : ∀ b, blkA (some ⟨ab, ao, none⟩) b → ¬ S b := fun b g => by rw [blkA_some.1 g]; exact hn _ I.wr.2.1
  refine ⟨f.row I.row (hn _ I.wr.1), I.sl.fr f hb, I.own.fr f hb, I.wr, fun t ht => ?_, I.bl, I.sep, I.len, I.m16, fun b g => Nat.lt_of_lt_of_le (I.lt b g) f.size⟩
  obtain ⟨k1, k2, k3⟩ := I.ok t ht
  have hb' : ∀ b, blkA t.a b → ¬ S b := fun b g => hn b (I.bl t ht b g).1
  exact ⟨k1.fr f hb', k2.fr f hb', k3⟩
theorem Ref.ext (I : Ref W h r ab ao ac m Rs) {h' : Heap} (f : Ext h h') : Ref W h' r ab ao ac m Rs := I.fr (f.fr (fun _ => False)) fun _ _ h => h
theorem Ref.mono (I : Ref W h r ab ao ac m Rs) {W' : Nat → Prop} (hw : ∀ b, W b → W' b) (hl : ∀ b, W' b → b < h.size) : Ref W' h r ab ao ac m Rs :=
  ⟨I.row, I.sl, I.own, ⟨hw _ I.wr.1, hw _ I.wr.2.1, I.wr.2.2⟩, I.ok, fun t ht b g => ⟨hw _ (I.bl t ht b g).1, (I.bl t ht b g).2⟩, I.sep, I.len, I.m16, hl⟩
theorem Ref.grow (I : Ref W h r ab ao ac m Rs) {h' : Heap} (f : Ext h h') : Ref (grown W h h') h' r ab ao ac m Rs :=
  (I.ext f).mono (fun _ g => .inl g) fun b g => by
    rcases g with g | g
    · exact Nat.lt_of_lt_of_le (I.lt b g) f.size
    · exact g.2
theorem AftR.ofExt (I : Ref W h r ab ao ac m Rs) {h' : Heap} (f : Ext h h') : AftR W h r m (Rs.map Rb.L) h' := ⟨f.fr _, _, _, _, Rs, I.grow f, rfl⟩
theorem Ref.small (I : Ref W h r ab ao ac m Rs) {t : Rb} (ht : t ∈ Rs) : t.L.length < 65536 ∧ 2 ^ m ≤ 65536 := by
  have h1 := pow_le I.m16.2
  obtain ⟨_, _, _, k, _⟩ := I.ok t ht
  omega
theorem Ref.c0 (I : Ref W h r ab ao ac m Rs) : hcell h r 0 = some (.int .i64 m) := by rw [hcell_row I.row]; rfl
theorem Ref.c1 (I : Ref W h r ab ao ac m Rs) : hcell h r 1 = some (.slice (some ⟨ab, ao, none⟩) Rs.length ac) := by rw [hcell_row I.row]; rfl
theorem Ref.cs (I : Ref W h r ab ao ac m Rs) {i : Nat} {t : Rb} (ht : Rs[i]? = some t) : hcell h ab (ao + i * 1) = some (.slice t.a t.L.length t.c) := by
  obtain ⟨b, o, e, d⟩ := I.sl.at ht
  cases e
  exact d.1
theorem Ref.at (I : Ref W h r ab ao ac m Rs) {t : Rb} (ht : t ∈ Rs) {j : Nat} (hj : j < t.L.length) : ∃ b o, t.a = some ⟨b, o, none⟩ ∧ hcell h b (o + j * 4) = some (.int .u64 t.L[j].h) ∧ hcell h b (o + j * 4 + 1) = some (.int .u64 t.L[j].a) ∧ hcell h b (o + j * 4 + 2) = some (.int .u64 t.L[j].v) ∧ hcell h b (o + j * 4 + 3) = some (.int .u8 t.L[j].k) := by
  obtain ⟨b, o, e, d⟩ := (I.ok t ht).1.at (List.getElem?_eq_getElem hj)
  exact ⟨b, o, e, d.1, d.2.1, d.2.2.1, d.2.2.2.1⟩
theorem Ref.get (I : Ref W h r ab ao ac m Rs) (v : Nat) : ∃ t, Rs[v % Rs.length]? = some t ∧ t ∈ Rs ∧ v % Rs.length < Rs.length := by
  have hl := I.len
  have hm := Nat.mod_lt v (show 0 < Rs.length by omega)
  exact ⟨Rs[v % Rs.length], List.getElem?_eq_getElem hm, List.getElem_mem hm, hm⟩
theorem strR {t : Rb} {v : Nat} (ht : Rs[v % Rs.length]? = some t) : str (Rs.map Rb.L) v = t.L := by
  unfold str
  rw [List.length_map, List.getD_eq_getElem?_getD, List.getElem?_map, ht]; rfl
theorem map_sameR {i : Nat} {t : Rb} (ht : Rs[i]? = some t) : (Rs.map Rb.L).set i t.L = Rs.map Rb.L := by
  refine List.ext_getElem? fun j => ?_
  rw [List.getElem?_set]
  split
  · rename_i hij
    subst hij
    obtain ⟨h1, h2⟩ := List.getElem?_eq_some_iff.1 ht
    rw [if_pos (by simpa using h1), List.getElem?_map, ht]; rfl
  · rfl
theorem Ref.setAny (I : Ref W h r ab ao ac m Rs) {h' : Heap} {i : Nat} {t u : Rb} (hi : Rs[i]? = some t) {S : Nat → Prop} (f : Fr S h h') (hS : ∀ b, S b → b = ab ∨ blkA t.a b)
    (hsl : Sl eRb h' (some ⟨ab, ao, none⟩) ac (Rs.set i u)) (how : Own eRb.k 47 0 h' (some ⟨ab, ao, none⟩) ac)
    (hu : Sl eEnt h' u.a u.c u.L ∧ Own eEnt.k 31 0 h' u.a u.c ∧ Srt u.L ∧ 8 * u.L.length ≤ 7 * 2 ^ m ∧ ∀ e ∈ u.L, e.wf ∧ e.a ≠ 0) (hb : ∀ b, blkA u.a b → blkA t.a b ∨ h.size ≤ b) :
    Ref (fun b => W b ∨ blkA u.a b) h' r ab ao ac m (Rs.set i u) := by
  have ht := List.mem_of_getElem? hi
  obtain ⟨hil, hie⟩ := List.getElem?_eq_some_iff.1 hi
  have hbt := I.bl t ht
  have hsep : ∀ j w, Rs[j]? = some w → j ≠ i → ∀ b, blkA w.a b → ¬ blkA t.a b := by
    intro j w hj hji b g1 g2
    obtain ⟨hjl, hje⟩ := List.getElem?_eq_some_iff.1 hj
    rcases Nat.lt_or_gt_of_ne hji with g | g
    · have := List.pairwise_iff_getElem.1 I.sep j i hjl hil g
      rw [hje, hie] at this; exact this b g1 g2
    · have := List.pairwise_iff_getElem.1 I.sep i j hil hjl g
      rw [hie, hje] at this; exact this b g2 g1
  have hold : ∀ w ∈ Rs, ∀ b, blkA w.a b → b < h.size := fun w hw b g => I.lt b (I.bl w hw b g).1
  have hmem : ∀ w, w ∈ Rs.set i u → w = u ∨ ∃ j, Rs[j]? = some w ∧ j ≠ i := by
    intro w hw
    obtain ⟨j, hj, he⟩ := List.getElem_of_mem hw
    rw [List.getElem_set] at he
    split at he
    · exact .inl he.symm
    · rename_i hne
      exact .inr ⟨j, by rw [← he]; exact List.getElem?_eq_getElem _, fun q => hne q.symm⟩
  have hrl := I.lt _ I.wr.1
  have hal := I.lt _ I.wr.2.1
  refine ⟨?_, hsl, how, ⟨.inl I.wr.1, .inl I.wr.2.1, I.wr.2.2⟩, fun w hw => ?_, fun w hw b g => ?_, ?_, by simpa using I.len, I.m16, fun b g => ?_⟩
  · rw [List.length_set]
    exact f.row I.row fun g => by
      rcases hS _ g with k | k
      · exact I.wr.2.2 k
      · exact (hbt _ k).2.1 rfl
  · rcases hmem w hw with rfl | ⟨j, hj, hji⟩
    · exact hu
    · have hw' := List.mem_of_getElem? hj
      obtain ⟨k1, k2, k3⟩ := I.ok w hw'
      have hn : ∀ b, blkA w.a b → ¬ S b := fun b g q => by
        rcases hS b q with k | k
        · exact (I.bl w hw' b g).2.2 k
        · exact hsep j w hj hji b g k
      exact ⟨k1.fr f hn, k2.fr f hn, k3⟩
  · rcases hmem w hw with rfl | ⟨j, hj, hji⟩
    · refine ⟨.inr g, ?_⟩
      rcases hb b g with k | k
      · exact (hbt b k).2
      · exact ⟨by omega, by omega⟩
    · exact ⟨.inl (I.bl w (List.mem_of_getElem? hj) b g).1, (I.bl w (List.mem_of_getElem? hj) b g).2⟩
  · refine List.pairwise_iff_getElem.2 fun j k hj hk hjk b g1 g2 => ?_
    simp only [List.length_set] at hj hk
    rw [List.getElem_set] at g1 g2
    split at g1 <;> split at g2
    · omega
    · rename_i e1 e2
      subst e1
      rcases hb b g1 with g | g
      · exact hsep k _ (List.getElem?_eq_getElem hk) (by omega) b g2 g
      · have := hold _ (List.getElem_mem hk) b g2; omega
    · rename_i e1 e2
      subst e2
      rcases hb b g2 with g | g
      · exact hsep j _ (List.getElem?_eq_getElem hj) (by omega) b g1 g
      · have := hold _ (List.getElem_mem hj) b g1; omega
    · have := List.pairwise_iff_getElem.1 I.sep j k hj hk hjk
      exact this b g1 g2
  · rcases g with g | g
    · exact Nat.lt_of_lt_of_le (I.lt b g) f.size
    · exact (hu.2.1.low g).2
theorem sl_same {h' : Heap} {a : Option Addr} {c : Nat} {i : Nat} {t u : Rb} (s : Sl eRb h' a c Rs) (hi : Rs[i]? = some t) (he : eRb.enc u = eRb.enc t) : Sl eRb h' a c (Rs.set i u) := by
  refine ⟨by simpa using s.le, s.ex.imp id fun ⟨b, o, e, hc⟩ => ⟨b, o, e, fun j w hw => ?_⟩⟩
  rw [List.getElem?_set] at hw
  split at hw
  · rename_i hij
    subst hij
    split at hw
    · cases hw; rw [he]; exact hc _ _ hi
    · cases hw
  · exact hc _ _ hw
theorem Ref.inPlace (I : Ref W h r ab ao ac m Rs) {h' : Heap} {i : Nat} {t : Rb} (hi : Rs[i]? = some t) {L' : List Ent} (f : Fr (blkA t.a) h h') (hl : L'.length = t.L.length) (s : Sl eEnt h' t.a t.c L') (w : Own eEnt.k 31 0 h' t.a t.c) (hs : Srt L') (hw : ∀ e ∈ L', e.wf ∧ e.a ≠ 0) :
    Ref W h' r ab ao ac m (Rs.set i ⟨t.a, t.c, L'⟩) := by
  have ht := List.mem_of_getElem? hi
  obtain ⟨_, _, _, k4, _⟩ := I.ok t ht
  have hn : ∀ b, blkA (some ⟨ab, ao, none⟩) b → ¬ blkA t.a b := fun b g q => (I.bl t ht b q).2.2 (blkA_some.1 g)
  refine (I.setAny (u := ⟨t.a, t.c, L'⟩) hi f (fun b g => .inr g) (sl_same (I.sl.fr f hn) hi (by show [Value.slice t.a L'.length t.c] = _; rw [hl]; rfl)) (I.own.fr f hn) ⟨s, w, hs, by show 8 * L'.length ≤ _; rw [hl]; exact k4, hw⟩ (fun b g => .inl g)).mono (fun b g => ?_) (fun b g => ?_)
  · rcases g with g | g
    · exact g
    · exact (I.bl t ht b g).1
  · exact Nat.lt_of_lt_of_le (I.lt b g) f.size
theorem Ref.other (I : Ref W h r ab ao ac m Rs) {h5 h6 : Heap} {i : Nat} {t : Rb} (hi : Rs[i]? = some t) (x5 : Ext h h5) {a' : Option Addr} {n' c' : Nat} {L' : List Ent} (hn : n' = L'.length) (s : Sl eEnt h5 a' c' L') (w : Own eEnt.k 31 h.size h5 a' c') (hs : Srt L') (hl : 8 * L'.length ≤ 7 * 2 ^ m) (hw : ∀ e ∈ L', e.wf ∧ e.a ≠ 0) :
    HW h5 ab (ao + i * 1) ∧ (h6 = hset h5 ab (ao + i * 1) (.slice a' n' c') → Fr (fun b => b = ab) h5 h6 ∧ Ref (fun b => W b ∨ blkA a' b) h6 r ab ao ac m (Rs.set i ⟨a', c', L'⟩)) := by
  subst hn
  obtain ⟨hil, _⟩ := List.getElem?_eq_some_iff.1 hi
  obtain ⟨k1, k2, k3⟩ := (I.sl.ext x5).put (I.own.ext x5) hil ⟨a', c', L'⟩
  have hal := I.lt _ I.wr.2.1
  refine ⟨k1 0 (by decide), fun e6 => ?_⟩
  have e6' : h6 = hsets h5 ab (ao + i * eRb.k) (eRb.enc ⟨a', c', L'⟩) := e6
  have f6 : Fr (fun b => b = ab) h5 h6 := fr_hset_of e6
  rw [← e6'] at k2 k3
  have ha' : ∀ b, blkA a' b → ¬ b = ab := fun b g q => by have := (w.low g).1; omega
  exact ⟨f6, I.setAny (u := ⟨a', c', L'⟩) hi ((x5.fr _).trans f6 fun _ _ g => g) (fun b g => .inl g) k2 k3 ⟨s.fr f6 ha', (w.fr f6 ha').down (Nat.zero_le _), hs, hl, hw⟩ fun b g => .inr (w.low g).1⟩
theorem stripe_r (I : Ref W h r ab ao ac m Rs) (v : Nat) : HC Try.prog 36 #[ptr r 0, .int .u64 v] h fun z h' => z = .int .i64 ((v % Rs.length : Nat) : Int) ∧ h' = h := by
  have hl := I.len
  have hm := Nat.mod_lt v (show 0 < Rs.length by omega)
  have e : IntKind.u64.wrap (Rs.length : Int) = (Rs.length : Int) := wu64 (by omega) (by omega)
  refine f36_sh _ _ _ _ _ ⟨_, _, _, I.c1, ?_, ?_, rfl⟩
  · rw [e]; omega
  · rw [e, tmod_nat, w64 (by omega) (by omega)]
theorem find_r (I : Ref W h r ab ao ac m Rs) (v : Nat) {t : Rb} (ht : Rs[v % Rs.length]? = some t) : ∃ (i : Nat) (is : Bool), Pos t.L v i is ∧
    HC Try.prog 53 #[ptr r 0, .int .u64 v] h fun z h' => z = .tuple #[.int .i64 ((v % Rs.length : Nat) : Int), .int .i64 i, .bool is] ∧ Ext h h' := by
  obtain ⟨hil, _⟩ := List.getElem?_eq_some_iff.1 ht
  have hm := List.mem_of_getElem? ht
  obtain ⟨_, _, hs, _, _⟩ := I.ok t hm
  obtain ⟨i, is, p⟩ := pos_ex hs v
  have hle := p.le
  have hsm := I.small hm
  refine ⟨i, is, p, f53_sh _ _ _ _ _ ⟨_, stripe_r I v, _, _, _, I.c1, ab, ao, rfl, by omega, by omega, _, _, _, I.cs ht, fun k => ∃ n : Nat, k = n ∧ n ≤ i, fun k => t.L.length - k.toNat, ⟨0, rfl, Nat.zero_le _⟩, ?_⟩⟩
  rintro _ ⟨n, rfl, hn⟩
  have hlow : ∀ (hj : n < t.L.length), n < i → t.L[n].h < v := fun hj g => p.lo _ (List.mem_take_iff_getElem.2 ⟨n, by omega, rfl⟩)
  have hhigh : ∀ (hj : n < t.L.length), n = i → v ≤ t.L[n].h := fun hj g => p.hi _ (List.mem_drop_iff_getElem.2 ⟨0, by omega, by simp [← g]⟩)
  refine ⟨fun hlt => ?_, fun hge => ⟨by omega, by omega, fun h1 x1 => ?_⟩⟩
  · have hj := lt_of_dec hlt
    obtain ⟨b, o, e, d0, d1, d2, d3⟩ := I.at hm hj
    refine ⟨b, o, e, by omega, by omega, _, _, _, _, d0, d1, d2, d3, fun g h3 x3 => ?_, fun g => ?_⟩
    · have hge : v ≤ t.L[n].h := by have := of_decide_eq_true g; omega
      have hni : n = i := by
        rcases Nat.lt_or_ge n i with k | k
        · have := hlow hj k; omega
        · omega
      subst hni
      refine ⟨?_, x3⟩
      have : ((t.L[n].h : Int) == v) = is := by
        cases his : is with
        | true =>
          obtain ⟨y, hy, hyv⟩ := p.yes his
          rw [List.getElem?_eq_getElem hj] at hy
          cases hy
          simp [hyv]
        | false =>
          have := p.no his _ (List.getElem_mem hj)
          exact beq_eq_false_iff_ne.2 (by omega)
      rw [this]
    · have hlt' : t.L[n].h < v := by have := of_decide_eq_false g; omega
      have hni : n ≠ i := fun k => by have := hhigh hj k; omega
      rw [wadd n (by omega)]
      exact ⟨⟨n + 1, rfl, by omega⟩, by simp only [Int.toNat_natCast]; omega⟩
  · have hj := ge_of_dec hge
    have hni : n = i := by omega
    subst hni
    refine ⟨?_, x1⟩
    have his : is = false := by
      cases his : is with
      | true =>
        obtain ⟨y, hy, _⟩ := p.yes his
        have := (List.getElem?_eq_some_iff.1 hy).1; omega
      | false => rfl
    have : n = t.L.length := by omega
    rw [his, this]
theorem pos_look {L : List Ent} (hL : Srt L) {v i : Nat} {is : Bool} (p : Pos L v i is) : (is = true → ∃ (hi : i < L.length), look L v = some L[i] ∧ L[i].h = v) ∧ (is = false → look L v = none) := by
  refine ⟨fun g => ?_, fun g => look_none.2 (p.no g)⟩
  obtain ⟨y, hy, hyv⟩ := p.yes g
  obtain ⟨hi, e⟩ := List.getElem?_eq_some_iff.1 hy
  subst e
  exact ⟨hi, (look_some hL).2 ⟨List.getElem_mem hi, hyv⟩, hyv⟩
theorem get_r (I : Ref W h r ab ao ac m Rs) (v : Nat) : HC Try.prog 35 #[ptr r 0, .int .u64 v] h fun z h' => z = v2 (mGet (str (Rs.map Rb.L) v) v) ∧ Ext h h' := by
  obtain ⟨t, ht, hm, hlt⟩ := I.get v
  rw [strR ht]
  refine f35_sh _ _ _ _ _ fun pb h1 lo1 lt1 x1 => ?_
  have I1 := I.ext x1
  obtain ⟨i, is, p, hc⟩ := find_r I1 v ht
  obtain ⟨pl1, pl2⟩ := pos_look (I.ok t hm).2.2.1 p
  refine hc.mono ?_
  rintro _ h2 ⟨rfl, x2⟩
  refine ⟨x2.kp _, _, _, _, rfl, fun g h3 f3 => ⟨?_, ext_of_fr f3 (x1.trans x2) lo1⟩, fun g => ?_⟩
  · unfold mGet; rw [pl2 (by simpa using g)]; rfl
  · obtain ⟨hi, hl, _⟩ := pl1 (by simpa using g)
    have I2 := I1.ext x2
    obtain ⟨b, o, e, d0, d1, d2, d3⟩ := I2.at hm hi
    refine ⟨_, _, _, I2.c1, ab, ao, rfl, by omega, by omega, _, _, _, I2.cs ht, b, o, e, by omega, by omega, _, _, _, _, d0, d1, d2, d3, fun h4 f4 => ⟨?_, ext_of_fr f4 (x1.trans x2) lo1⟩⟩
    unfold mGet; rw [hl]; rfl
end
end Ix
end Go.Proofs.Ytkecmljalcfhoaa
namespace Go.Proofs.Ytkecmljalcfhoaa
namespace Ix
open Go RH
theorem set_put {L : List Ent} (hL : Srt L) {i : Nat} {o e : Ent} (hi : L[i]? = some o) (he : e.h = o.h) : L.set i e = putS L e := by
  obtain ⟨h1, h2⟩ := set_ok hL hi he
  refine is_put hL h1 fun y => ?_
  rw [h2 y]
  have ho := List.mem_of_getElem? hi
  constructor
  · rintro (⟨k1, k2⟩ | k1)
    · exact .inl ⟨k1, fun q => k2 (hL.eq k1 ho (q.trans he))⟩
    · exact .inr k1
  · rintro (⟨k1, k2⟩ | k1)
    · exact .inl ⟨k1, fun q => k2 (by rw [q, he])⟩
    · exact .inr k1
theorem ins_put {L : List Ent} (hL : Srt L) {e : Ent} {i : Nat} (p : Pos L e.h i false) : L.take i ++ e :: L.drop i = putS L e := by
  obtain ⟨h1, h2⟩ := ins_ok hL p (e := e) rfl
  refine is_put hL h1 fun y => ?_
  rw [h2 y]
  have hno := p.no rfl
  constructor
  · rintro (k | k)
    · exact .inl ⟨k, hno y k⟩
    · exact .inr k
  · rintro (⟨k, _⟩ | k)
    · exact .inl k
    · exact .inr k
theorem del_del {L : List Ent} (hL : Srt L) {i : Nat} {o : Ent} (hi : L[i]? = some o) : L.take i ++ L.drop (i + 1) = delS L o.h := by
  obtain ⟨h1, h2⟩ := del_ok hL hi
  refine is_del hL h1 fun y => ?_
  rw [h2 y]
  have ho := List.mem_of_getElem? hi
  constructor
  · rintro ⟨k1, k2⟩; exact ⟨k1, fun q => k2 (hL.eq k1 ho q)⟩
  · rintro ⟨k1, k2⟩; exact ⟨k1, fun q => k2 (by rw [q])⟩
section
variable {W : Nat → Prop} {h : Heap} {r ab ao ac m : Nat} {Rs : List Rb}
theorem map_putR {i : Nat} {u : Rb} : (Rs.set i u).map Rb.L = (Rs.map Rb.L).set i u.L := List.map_set
theorem AftR.mk' (hlt : ∀ b, W b → b < h.size) {h2 h3 : Heap} {W2 S : Nat → Prop} {Rs' : List Rb} {Ls' : List (List Ent)} (f12 : Fr W h h2) (I2 : Ref W2 h2 r ab ao ac m Rs') (hw : ∀ b, W2 b → W b ∨ h.size ≤ b) (f3 : Fr S h2 h3) (hS : ∀ b, S b → h.size ≤ b ∧ ¬ W2 b) (e : Rs'.map Rb.L = Ls') : AftR W h r m Ls' h3 := by
  have I3 := I2.fr f3 fun b g q => (hS b q).2 g
  refine ⟨f12.trans f3 fun b hb g => by have := (hS b g).1; omega, ab, ao, ac, Rs', I3.mono (fun b g => ?_) (fun b g => ?_), e⟩
  · rcases hw b g with k | k
    · exact .inl k
    · exact .inr ⟨k, I3.lt b g⟩
  · rcases g with g | g
    · have h1 := f12.size
      have h2 := f3.size
      have := hlt b g
      omega
    · exact g.2
theorem AftR.pre (hlt : ∀ b, W b → b < h.size) {h1 h2 : Heap} (x1 : Ext h h1) {Ls' : List (List Ent)} (a : AftR W h1 r m Ls' h2) : AftR W h r m Ls' h2 := by
  obtain ⟨f, ab, ao, ac, Rs', I', e⟩ := a
  have s1 := x1.size
  have s2 := f.size
  refine ⟨(x1.fr _).trans f fun _ _ g => g, ab, ao, ac, Rs', I'.mono (fun b g => ?_) (fun b g => ?_), e⟩
  · rcases g with g | g
    · exact .inl g
    · exact .inr ⟨by omega, g.2⟩
  · rcases g with g | g
    · have := hlt b g; omega
    · exact g.2
set_option maxHeartbeats 8000000 in
theorem put_r (I : Ref W h r ab ao ac m Rs) {e : Ent} (hw : e.wf) : HC Try.prog 34 #[ptr r 0, .agg #[.int .u64 e.h, .int .u64 e.a, .int .u64 e.v, .int .u8 e.k]] h fun z h' =>
    z = v3 (mPut m (str (Rs.map Rb.L) e.h) e).1 ∧ AftR W h r m ((Rs.map Rb.L).set (e.h % Rs.length) (mPut m (str (Rs.map Rb.L) e.h) e).2) h' := by
  obtain ⟨t, ht, hm, hlt⟩ := I.get e.h
  rw [strR ht]
  have stay : ∀ {h'}, Ext h h' → AftR W h r m ((Rs.map Rb.L).set (e.h % Rs.length) t.L) h' := fun x' => by rw [map_sameR ht]; exact AftR.ofExt I x'
  refine f34_sh _ _ _ _ _ _ _ _ ⟨fun g h3 x3 => ?_, fun g ev pb h2 lo1 lt1 lo2 lt2 x2 => ?_⟩
  · have ha : e.a = 0 := by have := eq_of_beq g; omega
    unfold mPut; rw [if_pos ha]
    exact ⟨rfl, stay x3⟩
  have ha : e.a ≠ 0 := by have := beq_eq_false_iff_ne.1 g; omega
  have I2 := I.ext x2
  obtain ⟨i, is, p, hc⟩ := find_r I2 e.h ht
  have hs := (I.ok t hm).2.2.1
  have hwf := (I.ok t hm).2.2.2.2
  have h8 := (I.ok t hm).2.2.2.1
  obtain ⟨pl1, pl2⟩ := pos_look hs p
  have hle := p.le
  have hsm := I.small hm
  have hm16 := I.m16
  refine hc.mono ?_
  rintro _ h4 ⟨rfl, x4⟩
  have x04 := x2.trans x4
  have I4 := I2.ext x4
  have hs2 := x2.size
  have hs4 := x4.size
  have hWp : ¬ W pb := fun q => by have := I.lt pb q; omega
  refine ⟨x4.kp _, _, _, _, rfl, fun g2 => ?_, fun g2 => ?_⟩
  · obtain ⟨hi, hl, hh⟩ := pl1 g2
    obtain ⟨b, o, eta, d0, d1, d2, d3⟩ := I4.at hm hi
    refine ⟨_, _, _, I4.c1, ab, ao, rfl, by omega, by omega, _, _, _, I4.cs ht, b, o, eta, by omega, by omega, _, _, _, _, d0, d1, d2, d3, fun g3 old h6 lo6 lt6 x6 h7 f7 => ?_, fun g3 old h6 lo6 lt6 x6 => ?_⟩
    · have hv : e.v < (t.L[i]).v := by have := of_decide_eq_true g3; omega
      have e1 : mPut m t.L e = ((z0, false, 120), t.L) := by
        unfold mPut; rw [if_neg ha, hl]; simp only; rw [if_pos hv]
      rw [e1]
      exact ⟨rfl, stay (ext_of_fr f7 (x04.trans x6) lo2)⟩
    · have hv : ¬ e.v < (t.L[i]).v := by have := of_decide_eq_false g3; omega
      have e1 : mPut m t.L e = ((t.L[i], true, 0), putS t.L e) := by
        unfold mPut; rw [if_neg ha, hl]; simp only; rw [if_neg hv]
      rw [e1]
      have I6 := I4.ext x6
      obtain ⟨s6, w6, _⟩ := I6.ok t hm
      rw [eta] at s6 w6
      have hb := I.lt b (I.bl t hm b (by rw [eta]; exact blkA_of rfl)).1
      obtain ⟨k1, k2, k3⟩ := s6.put w6 hi e
      refine ⟨k1, by simp [Off]; omega, ?_⟩
      rintro h8 e8 h9 f9
      have e8' : h8 = hsets h6 b (o + i * eEnt.k) (eEnt.enc e) := e8
      rw [← e8'] at k2 k3
      have f8 : Fr (blkA t.a) h6 h8 := by rw [eta, e8]; exact fr_hsets _ fun _ => blkA_of rfl
      rw [← eta] at k2 k3
      have hpt := set_put hs (List.getElem?_eq_getElem hi) (e := e) hh.symm
      have I8 := I6.inPlace (L' := t.L.set i e) ht f8 (by simp) k2 k3 (by rw [hpt]; exact putS_srt hs e) fun y hy => by
        rw [hpt] at hy
        rcases putS_mem.1 hy with q | q
        · exact hwf y q.1
        · subst q; exact ⟨hw, ha⟩
      refine ⟨rfl, AftR.mk' I.lt (((x04.trans x6).fr _).trans f8 fun b' _ g => (I.bl t hm b' g).1) I8 (fun _ g => .inl g) f9 (fun b' g => ⟨by omega, fun q => hWp (by rw [← g]; exact q)⟩) ?_⟩
      rw [map_putR, hpt]
  · have his : is = false := g2
    subst his
    have hl := pl2 rfl
    have h2m := pow_le hm16.2
    have ec : decide (IntKind.i64.wrap (8 * IntKind.i64.wrap ((t.L.length : Int) + 1)) > IntKind.i64.wrap (7 * IntKind.i64.wrap (1 * 2 ^ min (Int.toNat (m : Int)) 64))) = decide (7 * 2 ^ m < 8 * (t.L.length + 1)) := by
      rw [pow2_wrap (by omega), wadd _ (by omega), w64 (x := 8 * ((t.L.length + 1 : Nat) : Int)) (by omega) (by omega), w64 (by omega) (by omega)]
      rw [decide_eq_decide]; omega
    refine ⟨_, _, _, I4.c1, ab, ao, rfl, by omega, by omega, _, _, _, I4.cs ht, _, I4.c0, by omega, fun g3 h10 f10 => ?_, fun g3 nb h11 en eh => ?_⟩
    · rw [ec] at g3
      have e1 : mPut m t.L e = ((z0, false, 2), t.L) := by
        unfold mPut; rw [if_neg ha, hl]; simp only; rw [if_pos (of_decide_eq_true g3)]
      rw [e1]
      exact ⟨rfl, stay (ext_of_fr f10 x04 lo2)⟩
    rw [ec] at g3
    have hroom := of_decide_eq_false g3
    have e1 : mPut m t.L e = ((z0, false, 0), putS t.L e) := by
      unfold mPut; rw [if_neg ha, hl]; simp only; rw [if_neg hroom]
    rw [e1]
    obtain ⟨s0, w0, x0⟩ := ent_lit en eh
    have I11 := I4.ext x0
    have hsl := (I4.ok t hm).1.le
    refine ⟨_, _, _, I11.c1, ab, ao, rfl, by omega, by omega, _, _, _, I11.cs ht, by omega, by omega, by omega, ?_⟩
    rintro sl rfl
    have s1 := (I11.ok t hm).1.cut (l := 0) (r := i) (Nat.zero_le _) hle
    refine app_own (n := 0) aEnt x0 s0 w0 rfl s1 (by simp; omega) (by simp; omega) ?_
    intro a1 c1 h12 x12 _ s12 w12 _
    have I12 := I4.ext x12
    have hW4 : ∀ b, W b → ¬ h4.size ≤ b := fun b g q => by have := I.lt b g; omega
    refine ⟨kp_of x0 x12 (by simp; omega), _, _, _, rfl, Fr (fun b => h4.size ≤ b), fit_fr _, _, _, _, fun hx f => (I12.fr f hW4).c1, _, _, _, fun hx f => (I12.fr f hW4).c1, ab, ao, rfl, by omega, by omega, _, _, _, fun hx f => (I12.fr f hW4).cs ht, by omega, by omega, by omega, ?_⟩
    rintro sl1 rfl nb1 h13 eb1 eh1
    have x1213 : Ext h12 h13 := by rw [eh1]; exact Ext.push _ _
    have x13 : Ext h4 h13 := x12.trans x1213
    have hrow : h13[nb1]? = some (.cells ([e].flatMap eEnt.enc).toArray 31 (0, 0)) := by rw [eh1]; exact push_new eb1
    refine app_own (n2 := 1) aEnt x13 (s12.ext x1213) (w12.ext x1213) (by simp; omega) (Sl.lit (L := [e]) hrow) rfl (by simp; omega) ?_
    intro a2 c2' h14 x14 f14 s14 w14 _
    have hs12 := x12.size
    have hs13 := x13.size
    refine ⟨f14.mono fun b _ g => ((w12.ext x1213).low g).1, kp_of x13 x14 (by simp; omega), _, _, _, rfl, ?_⟩
    have s15 := ((I4.ext x14).ok t hm).1.cut (l := i) (r := t.L.length) hle (Nat.le_refl _)
    refine app_own aEnt x14 s14 w14 (by simp; omega) s15 (by simp) (by simp; omega) ?_
    intro a3 c3 h15 x15 f15 s16 w16 _
    have eL : ([] ++ List.drop 0 (List.take i t.L) ++ [e] ++ List.drop i (List.take t.L.length t.L)) = putS t.L e := by rw [← ins_put hs p]; simp
    rw [eL] at s16
    have hlen : (putS t.L e).length = t.L.length + 1 := by rw [← ins_put hs p]; simp; omega
    obtain ⟨o1, o2⟩ := I4.other (h6 := hset h15 ab (ao + (e.h % Rs.length) * 1) (.slice a3 (0 + (Int.toNat (i : Int) - Int.toNat 0) + 1 + (Int.toNat (t.L.length : Int) - Int.toNat (i : Int))) c3)) ht x15 (n' := (0 + (Int.toNat (i : Int) - Int.toNat 0) + 1 + (Int.toNat (t.L.length : Int) - Int.toNat (i : Int)))) (by rw [hlen]; simp; omega) s16 w16 (putS_srt hs e) (by rw [hlen]; omega) fun y hy => by
        rcases putS_mem.1 hy with q | q
        · exact hwf y q.1
        · subst q; exact ⟨hw, ha⟩
    refine ⟨f15.mono fun b _ g => (w14.low g).1, kp_of x14 x15 (by simp; omega), _, _, _, rfl, ab, ao, rfl, by omega, by omega, o1, by simp [Off]; have := I.lt _ I.wr.2.1; omega, ?_⟩
    rintro h16 rfl h17 f17
    obtain ⟨f16, I16⟩ := o2 rfl
    refine ⟨rfl, AftR.mk' I.lt (((x04.trans x15).fr _).trans f16 fun b' _ g => by rw [g]; exact I.wr.2.1) I16 (fun b' g => ?_) f17 (fun b' g => ⟨by omega, fun q => ?_⟩) map_putR⟩
    · rcases g with g | g
      · exact .inl g
      · have := (w16.low g).1; exact .inr (by omega)
    · rcases q with q | q
      · exact hWp (by rw [← g]; exact q)
      · have := (w16.low q).1; omega
end
end Ix
end Go.Proofs.Ytkecmljalcfhoaa
namespace Go.Proofs.Ytkecmljalcfhoaa
namespace Ix
open Go RH
section
variable {W : Nat → Prop} {h : Heap} {r ab ao ac m : Nat} {Rs : List Rb}
set_option maxHeartbeats 8000000 in
theorem remove_r (I : Ref W h r ab ao ac m Rs) (v : Nat) : HC Try.prog 37 #[ptr r 0, .int .u64 v] h fun z h' =>
    z = v2 (mDel (str (Rs.map Rb.L) v) v).1 ∧ AftR W h r m ((Rs.map Rb.L).set (v % Rs.length) (mDel (str (Rs.map Rb.L) v) v).2) h' := by
  obtain ⟨t, ht, hm, hlt⟩ := I.get v
  rw [strR ht]
  have stay : ∀ {h'}, Ext h h' → AftR W h r m ((Rs.map Rb.L).set (v % Rs.length) t.L) h' := fun x' => by rw [map_sameR ht]; exact AftR.ofExt I x'
  refine f37_sh _ _ _ _ _ fun pb h1 lo1 lt1 x1 => ?_
  have I1 := I.ext x1
  obtain ⟨i, is, p, hc⟩ := find_r I1 v ht
  have hs := (I.ok t hm).2.2.1
  have hwf := (I.ok t hm).2.2.2.2
  have h8 := (I.ok t hm).2.2.2.1
  obtain ⟨pl1, pl2⟩ := pos_look hs p
  have hsm := I.small hm
  refine hc.mono ?_
  rintro _ h2 ⟨rfl, x2⟩
  have x02 := x1.trans x2
  have I2 := I1.ext x2
  have hs1 := x1.size
  have hs2 := x2.size
  have hWp : ¬ W pb := fun q => by have := I.lt pb q; omega
  refine ⟨x2.kp _, _, _, _, rfl, fun g h3 f3 => ?_, fun g => ?_⟩
  · have e1 : mDel t.L v = ((z0, false), t.L) := by unfold mDel; rw [pl2 (by simpa using g)]
    rw [e1]
    exact ⟨rfl, stay (ext_of_fr f3 x02 lo1)⟩
  · obtain ⟨hi, hl, hh⟩ := pl1 (by simpa using g)
    have e1 : mDel t.L v = ((t.L[i], true), delS t.L v) := by unfold mDel; rw [hl]
    rw [e1]
    obtain ⟨b, o, eta, d0, d1, d2, d3⟩ := I2.at hm hi
    have hsl := (I2.ok t hm).1.le
    have hW2 : ∀ b, W b → ¬ h2.size ≤ b := fun b g q => by have := I.lt b g; omega
    refine ⟨_, _, _, I2.c1, ab, ao, rfl, by omega, by omega, _, _, _, I2.cs ht, b, o, eta, by omega, by omega, _, _, _, _, d0, d1, d2, d3, Fr (fun b => h2.size ≤ b), fit_fr _, fun old h5 lo5 lt5 x5 => ?_⟩
    have I5 := I2.ext x5
    have x05 := x02.trans x5
    have hs5 := x5.size
    rw [wadd i (by omega)]
    refine ⟨_, _, _, fun hx f => (I5.fr f hW2).c1, _, _, _, I5.c1, ab, ao, rfl, by omega, by omega, _, _, _, I5.cs ht, by omega, by omega, by omega, ?_⟩
    rintro sl rfl
    refine ⟨_, _, _, fun hx f => (I5.fr f hW2).c1, ab, ao, rfl, by omega, by omega, _, _, _, fun hx f => (I5.fr f hW2).cs ht, by omega, by omega, by omega, ?_⟩
    rintro sl1 rfl nb h6 en eh
    obtain ⟨s0, w0, x0⟩ := ent_lit en eh
    have I6 := I5.ext x0
    have s1 := (I6.ok t hm).1.cut (l := 0) (r := i) (Nat.zero_le _) (Nat.le_of_lt hi)
    refine app_own (n := 0) aEnt x0 s0 w0 rfl s1 (by simp; omega) (by simp; omega) ?_
    intro a1 c1 h7 x7 f7 s7 w7 _
    refine ⟨f7.mono fun b _ g => by have := (w0.low g).1; omega, kp_of x0 x7 (by simp; omega), _, _, _, rfl, ?_⟩
    have s8 := ((I5.ext x7).ok t hm).1.cut (l := i + 1) (r := t.L.length) (by omega) (Nat.le_refl _)
    refine app_own aEnt x7 s7 w7 (by simp; omega) s8 (by simp) (by simp; omega) ?_
    intro a2 c2' h8 x8 f8 s9 w9 _
    have hdd : List.take i t.L ++ List.drop (i + 1) t.L = delS t.L v := by rw [← hh]; exact del_del hs (List.getElem?_eq_getElem hi)
    have eL : ([] ++ List.drop 0 (List.take i t.L) ++ List.drop (i + 1) (List.take t.L.length t.L)) = delS t.L v := by rw [← hdd]; simp
    rw [eL] at s9
    have hlen : (delS t.L v).length = t.L.length - 1 := by rw [← hdd]; simp; omega
    obtain ⟨o1, o2⟩ := I5.other (h6 := hset h8 ab (ao + (v % Rs.length) * 1) (.slice a2 (0 + (Int.toNat (i : Int) - Int.toNat 0) + (Int.toNat (t.L.length : Int) - Int.toNat ((i + 1 : Nat) : Int))) c2')) ht x8 (n' := (0 + (Int.toNat (i : Int) - Int.toNat 0) + (Int.toNat (t.L.length : Int) - Int.toNat ((i + 1 : Nat) : Int)))) (by rw [hlen]; simp; omega) s9 w9 (delS_srt hs v) (by rw [hlen]; omega) fun y hy => hwf y (delS_mem.1 hy).1
    refine ⟨f8.mono fun b _ g => by have := (w7.low g).1; omega, kp_of x7 x8 (by simp; omega), _, _, _, rfl, ab, ao, rfl, by omega, by omega, o1, by simp [Off]; have := I.lt _ I.wr.2.1; omega, ?_⟩
    rintro h9 rfl h10 f10
    obtain ⟨f9, I9⟩ := o2 rfl
    refine ⟨rfl, AftR.mk' I.lt (((x05.trans x8).fr _).trans f9 fun b' _ g => by rw [g]; exact I.wr.2.1) I9 (fun b' g => ?_) f10 (fun b' g => ⟨by omega, fun q => ?_⟩) map_putR⟩
    · rcases g with g | g
      · exact .inl g
      · have := (w9.low g).1; exact .inr (by omega)
    · rcases q with q | q
      · exact hWp (by rw [← g]; exact q)
      · have := (w9.low q).1; omega
theorem removeIf_r (I : Ref W h r ab ao ac m Rs) (v at_ : Nat) : HC Try.prog 38 #[ptr r 0, .int .u64 v, .int .u64 at_] h fun z h' =>
    z = .bool (mDelIf (str (Rs.map Rb.L) v) v at_).1 ∧ AftR W h r m ((Rs.map Rb.L).set (v % Rs.length) (mDelIf (str (Rs.map Rb.L) v) v at_).2) h' := by
  obtain ⟨t, ht, hm, hlt⟩ := I.get v
  refine f38_sh _ _ _ _ _ _ ((get_r I v).mono ?_)
  rintro _ h1 ⟨rfl, x1⟩
  refine ⟨_, _, _, _, _, rfl, fun g h3 x3 => ?_, fun g h3 x3 => (remove_r (I.ext (x1.trans x3)) v).mono ?_⟩
  · rw [strR ht] at g ⊢
    have e : mDelIf t.L v at_ = (false, t.L) := by
      unfold mDelIf mGet at *
      cases hl : look t.L v with
      | none => rfl
      | some y => rw [hl] at g; simp at g; simp only; rw [if_neg (by omega)]
    rw [e]
    exact ⟨rfl, by rw [map_sameR ht]; exact AftR.ofExt I (x1.trans x3)⟩
  · rintro _ h4 ⟨rfl, a4⟩
    rw [strR ht] at *
    obtain ⟨y, hl, hy⟩ : ∃ y, look t.L v = some y ∧ y.a = at_ := by
      unfold mGet at g
      cases hl : look t.L v with
      | none => rw [hl] at g; simp at g
      | some y => rw [hl] at g; simp at g; exact ⟨y, rfl, by omega⟩
    have e : mDelIf t.L v at_ = (true, delS t.L v) := by unfold mDelIf; rw [hl]; simp only; rw [if_pos hy]
    have e' : mDel t.L v = ((y, true), delS t.L v) := by unfold mDel; rw [hl]
    rw [e'] at a4 ⊢
    rw [e]
    exact ⟨_, _, _, _, _, rfl, rfl, AftR.pre I.lt (x1.trans x3) a4⟩
theorem Ref.cell (I : Ref W h r ab ao ac m Rs) {i j : Nat} {t : Rb} (ht : Rs[j]? = some t) (hi : i < t.L.length) {y : Ent} {q : Nat} {u : Value} (hq : q < 4) (he : eEnt.enc y = (eEnt.enc t.L[i]).set q u) (hh : y.h = t.L[i].h) (hy : y.wf ∧ y.a ≠ 0) {b o : Nat} (eta : t.a = some ⟨b, o, none⟩) :
    HW h b (o + i * 4 + q) ∧ ∀ h2, h2 = hset h b (o + i * 4 + q) u → AftR W h r m ((Rs.map Rb.L).set j (putS t.L y)) h2 := by
  have hm := List.mem_of_getElem? ht
  obtain ⟨s, w, hs, h8, hwf⟩ := I.ok t hm
  have hw0 := w
  rw [eta] at s w
  obtain ⟨cs, hrow, hcs, _⟩ := w.row
  have hsl := s.le
  have ek : eEnt.k = 4 := rfl
  rw [ek] at hcs
  refine ⟨HW_row hrow (by omega), ?_⟩
  rintro h2 e2
  have s2 := s.set1 w (List.getElem?_eq_getElem hi) hq he
  have w2 : Own eEnt.k 31 0 h2 (some ⟨b, o, none⟩) t.c := by rw [e2]; exact Own.hsets w b (o + i * 4 + q) [u]
  have f2 : Fr (blkA t.a) h h2 := by rw [e2, eta]; exact fr_hset _ fun _ => blkA_of rfl
  have e2' : hset h b (o + i * eEnt.k + q) u = h2 := e2.symm
  rw [e2'] at s2
  rw [← eta] at s2 w2
  have hpt := set_put hs (List.getElem?_eq_getElem hi) (e := y) hh
  have I2 := I.inPlace (L' := t.L.set i y) ht f2 (by simp) s2 w2 (by rw [hpt]; exact putS_srt hs y) fun z hz => by
    rw [hpt] at hz
    rcases putS_mem.1 hz with k | k
    · exact hwf z k.1
    · subst k; exact hy
  exact AftR.mk' I.lt (f2.mono fun b' _ g => (I.bl t hm b' g).1) I2 (fun _ g => .inl g) (Fr.refl (fun _ => False) _) (fun _ g => g.elim) (by rw [map_putR, hpt])
theorem hit_r (I : Ref W h r ab ao ac m Rs) (v : Nat) : HC Try.prog 40 #[ptr r 0, .int .u64 v] h fun z h' =>
    z = .bool (mHit (str (Rs.map Rb.L) v) v).1 ∧ AftR W h r m ((Rs.map Rb.L).set (v % Rs.length) (mHit (str (Rs.map Rb.L) v) v).2) h' := by
  obtain ⟨t, ht, hm, hlt⟩ := I.get v
  rw [strR ht]
  have hs := (I.ok t hm).2.2.1
  obtain ⟨i, is, p, hc⟩ := find_r I v ht
  obtain ⟨pl1, pl2⟩ := pos_look hs p
  refine f40_sh _ _ _ _ _ (hc.mono ?_)
  rintro _ h1 ⟨rfl, x1⟩
  have I1 := I.ext x1
  refine ⟨_, _, _, rfl, fun g => ?_, fun g => ?_⟩
  · have e1 : mHit t.L v = (false, t.L) := by unfold mHit; rw [pl2 (by simpa using g)]
    rw [e1]
    exact ⟨rfl, by rw [map_sameR ht]; exact AftR.ofExt I x1⟩
  · obtain ⟨hi, hl, hh⟩ := pl1 (by simpa using g)
    have e1 : mHit t.L v = (true, putS t.L (up t.L[i])) := by unfold mHit; rw [hl]
    rw [e1]
    obtain ⟨b, o, eta, d0, d1, d2, d3⟩ := I1.at hm hi
    have hwy := (I.ok t hm).2.2.2.2 _ (List.getElem_mem hi)
    refine ⟨fun h2 => AftR W h r m ((Rs.map Rb.L).set (v % Rs.length) (putS t.L (up t.L[i]))) h2, ⟨_, _, _, I1.c1, ab, ao, rfl, by omega, by omega, _, _, _, I1.cs ht, b, o, eta, by omega, by omega, _, d3, fun hk => ?_, fun hk => ?_⟩, fun h2 a2 => ⟨rfl, a2⟩⟩
    · have hk' : (t.L[i]).k < 255 := by have := of_decide_eq_true hk; omega
      have hup : up t.L[i] = ⟨(t.L[i]).h, (t.L[i]).a, (t.L[i]).v, (t.L[i]).k + 1⟩ := by unfold up; rw [if_pos hk']
      rw [wu8 (by omega) (by omega)]
      have ec : (((t.L[i]).k : Int) + 1) = (((t.L[i]).k + 1 : Nat) : Int) := by omega
      rw [ec]
      obtain ⟨k1, k2⟩ := I1.cell (y := up t.L[i]) (q := 3) (u := .int .u8 (((t.L[i]).k + 1 : Nat) : Int)) ht hi (by decide) (by rw [hup]; rfl) rfl (by rw [hup]; exact ⟨⟨hwy.1.1, hwy.1.2.1, hwy.1.2.2.1, by show (t.L[i]).k + 1 < 256; omega⟩, hwy.2⟩) eta
      exact ⟨k1, fun h3 e3 => AftR.pre I.lt x1 (k2 h3 e3)⟩
    · have hk' : ¬ (t.L[i]).k < 255 := by have := of_decide_eq_false hk; omega
      have hup : up t.L[i] = t.L[i] := by unfold up; rw [if_neg hk']
      have hpt : putS t.L (up t.L[i]) = t.L := by
        rw [hup, ← set_put hs (List.getElem?_eq_getElem hi) rfl]; simp
      rw [hpt, map_sameR ht]
      exact AftR.ofExt I x1
theorem move_r (I : Ref W h r ab ao ac m Rs) {v fr to : Nat} (hto : to < 18446744073709551616) : HC Try.prog 39 #[ptr r 0, .int .u64 v, .int .u64 fr, .int .u64 to] h fun z h' =>
    z = .bool (mMove (str (Rs.map Rb.L) v) v fr to).1 ∧ AftR W h r m ((Rs.map Rb.L).set (v % Rs.length) (mMove (str (Rs.map Rb.L) v) v fr to).2) h' := by
  obtain ⟨t, ht, hm, hlt⟩ := I.get v
  rw [strR ht]
  have hs := (I.ok t hm).2.2.1
  obtain ⟨i, is, p, hc⟩ := find_r I v ht
  obtain ⟨pl1, pl2⟩ := pos_look hs p
  refine f39_sh _ _ _ _ _ _ _ (hc.mono ?_)
  rintro _ h1 ⟨rfl, x1⟩
  have I1 := I.ext x1
  have stay : AftR W h r m ((Rs.map Rb.L).set (v % Rs.length) t.L) h1 := by rw [map_sameR ht]; exact AftR.ofExt I x1
  cases his : is with
  | false =>
    have e1 : mMove t.L v fr to = (false, t.L) := by unfold mMove; rw [pl2 his]
    rw [e1]
    exact ⟨_, _, _, rfl, true, ⟨fun _ => rfl, fun g => (by cases g)⟩, fun _ => ⟨rfl, stay⟩, fun g => (by cases g)⟩
  | true =>
    obtain ⟨hi, hl, hh⟩ := pl1 his
    obtain ⟨b, o, eta, d0, d1, d2, d3⟩ := I1.at hm hi
    have hwy := (I.ok t hm).2.2.2.2 _ (List.getElem_mem hi)
    refine ⟨_, _, _, rfl, !decide ((t.L[i]).a = fr ∧ to ≠ 0), ⟨fun g => (by cases g), fun _ => ⟨_, _, _, I1.c1, ab, ao, rfl, by omega, by omega, _, _, _, I1.cs ht, b, o, eta, by omega, by omega, _, d1, fun g => ?_, fun g => ?_⟩⟩, fun g => ?_, fun g => ?_⟩
    · have : (t.L[i]).a ≠ fr := fun q => by rw [q] at g; simp at g
      rw [decide_eq_false (fun q => this q.1)]; rfl
    · have h1' : (t.L[i]).a = fr := by have := bne_eq_false_iff_eq.1 g; omega
      rw [Bool.eq_iff_iff]
      simp [h1']
    · have hn : ¬ ((t.L[i]).a = fr ∧ to ≠ 0) := by rintro ⟨q1, q2⟩; simp [q1, q2] at g
      have e1 : mMove t.L v fr to = (false, t.L) := by unfold mMove; rw [hl]; simp only; rw [if_neg hn]
      rw [e1]
      exact ⟨rfl, stay⟩
    · have hy : (t.L[i]).a = fr ∧ to ≠ 0 := by simpa using g
      have e1 : mMove t.L v fr to = (true, putS t.L ⟨(t.L[i]).h, to, (t.L[i]).v, (t.L[i]).k⟩) := by unfold mMove; rw [hl]; simp only; rw [if_pos hy]
      rw [e1]
      obtain ⟨k1, k2⟩ := I1.cell (y := ⟨(t.L[i]).h, to, (t.L[i]).v, (t.L[i]).k⟩) (q := 1) (u := .int .u64 (to : Int)) ht hi (by decide) rfl rfl ⟨⟨hwy.1.1, hto, hwy.1.2.2.1, hwy.1.2.2.2⟩, hy.2⟩ eta
      exact ⟨_, _, _, I1.c1, ab, ao, rfl, by omega, by omega, _, _, _, I1.cs ht, b, o, eta, by omega, by omega, k1, fun h2 e2 => ⟨rfl, AftR.pre I.lt x1 (k2 h2 e2)⟩⟩
theorem Ref.in_ (_I : Ref W h r ab ao ac m Rs) {n : Int} (h0 : 0 ≤ n) (h1 : n < Rs.length) : ∃ t, Rs[n.toNat]? = some t ∧ t ∈ Rs ∧ ent (Rs.map Rb.L) n = t.L := by
  have hlt : n.toNat < Rs.length := by omega
  refine ⟨Rs[n.toNat], List.getElem?_eq_getElem hlt, List.getElem_mem hlt, ?_⟩
  unfold ent
  rw [if_pos h0, List.getD_eq_getElem?_getD, List.getElem?_map, List.getElem?_eq_getElem hlt]; rfl
theorem len_r (I : Ref W h r ab ao ac m Rs) (n : Int) : HC Try.prog 43 #[ptr r 0, .int .i64 n] h fun z h' => z = .int .i64 ((ent (Rs.map Rb.L) n).length : Int) ∧ h' = h := by
  by_cases hin : 0 ≤ n ∧ n < Rs.length
  · obtain ⟨t, ht, hm, he⟩ := I.in_ hin.1 hin.2
    rw [he]
    refine f43_sh _ _ _ _ _ ⟨false, ⟨fun g => ?_, fun _ => ⟨_, _, _, I.c1, ?_⟩⟩, fun g => (by cases g), fun _ => ⟨_, _, _, I.c1, ab, ao, rfl, by omega, by omega, _, _, _, I.cs ht, rfl, rfl⟩⟩
    · have := of_decide_eq_true g; omega
    · exact (decide_eq_false (by omega)).symm
  · rw [ent_out (by rw [List.length_map]; omega)]
    refine f43_sh _ _ _ _ _ ⟨true, ⟨fun _ => rfl, fun g => ⟨_, _, _, I.c1, ?_⟩⟩, fun _ => ⟨rfl, rfl⟩, fun g => (by cases g)⟩
    have := of_decide_eq_false g
    exact (decide_eq_true (by omega)).symm
theorem entries_r (I : Ref W h r ab ao ac m Rs) (n : Int) : HC Try.prog 54 #[ptr r 0, .int .i64 n] h fun z h' => New eEnt 31 h h' z (ent (Rs.map Rb.L) n) := by
  by_cases hin : 0 ≤ n ∧ n < Rs.length
  · obtain ⟨t, ht, hm, he⟩ := I.in_ hin.1 hin.2
    rw [he]
    refine f54_sh _ _ _ _ _ ⟨false, ⟨fun g => ?_, fun _ => ⟨_, _, _, I.c1, ?_⟩⟩, fun g => (by cases g), fun _ nb h1 en eh => ?_⟩
    · have := of_decide_eq_true g; omega
    · exact (decide_eq_false (by omega)).symm
    obtain ⟨s0, w0, x0⟩ := ent_lit en eh
    have I1 := I.ext x0
    have hsm := I.small hm
    refine ⟨_, _, _, I1.c1, ab, ao, rfl, by omega, by omega, _, _, _, I1.cs ht, app_own (n := 0) aEnt x0 s0 w0 rfl (I1.ok t hm).1 rfl (by omega) ?_⟩
    intro a1 c1 h2 x2 _ s2 w2 _
    exact ⟨_, _, _, rfl, a1, c1, by rw [Nat.zero_add], x2, s2.cast (by simp), w2⟩
  · rw [ent_out (by rw [List.length_map]; omega)]
    refine f54_sh _ _ _ _ _ ⟨true, ⟨fun _ => rfl, fun g => ⟨_, _, _, I.c1, ?_⟩⟩, fun _ => New.nil (Ext.refl _), fun g => (by cases g)⟩
    have := of_decide_eq_false g
    exact (decide_eq_true (by omega)).symm
end
end Ix
end Go.Proofs.Ytkecmljalcfhoaa
namespace Go.Proofs.Ytkecmljalcfhoaa
namespace Ix
open Go RH
section
variable {W : Nat → Prop} {h : Heap} {r ab ao ac m : Nat} {Rs : List Rb}
set_option maxHeartbeats 8000000 in
theorem purge_r (I : Ref W h r ab ao ac m Rs) (n q : Int) (hq : q ≤ 9223372036854775807) : HC Try.prog 41 #[ptr r 0, .int .i64 n, .int .i64 q] h fun z h' =>
    z = .int .i64 ((mPurge (ent (Rs.map Rb.L) n) q).1 : Int) ∧ AftR W h r m (if 0 ≤ n ∧ n < Rs.length then (Rs.map Rb.L).set n.toNat (mPurge (ent (Rs.map Rb.L) n) q).2 else Rs.map Rb.L) h' := by
  by_cases hin : 0 ≤ n ∧ n < Rs.length
  · obtain ⟨t, ht, hm, he⟩ := I.in_ hin.1 hin.2
    have hs := (I.ok t hm).2.2.1
    have hwf := (I.ok t hm).2.2.2.2
    have h8 := (I.ok t hm).2.2.2.1
    have hsm := I.small hm
    rw [he, if_pos hin]
    by_cases hq0 : q < 0
    · have e1 : mPurge t.L q = (0, t.L) := by
        have hg : ∀ e, gone q e = false := fun e => by unfold gone; exact decide_eq_false (by omega)
        unfold mPurge
        rw [List.filter_eq_nil_iff.2 fun e _ => by rw [hg e]; simp, List.filter_eq_self.2 fun e _ => by rw [hg e]; rfl]; rfl
      rw [e1]
      refine f41_sh _ _ _ _ _ _ ⟨true, ⟨fun _ => rfl, fun g => ⟨_, _, _, I.c1, fun _ => rfl, fun _ => (decide_eq_true hq0).symm⟩⟩, fun _ => ⟨rfl, ?_⟩, fun g => (by cases g)⟩
      rw [map_sameR ht]; exact AftR.ofExt I (Ext.refl _)
    refine f41_sh _ _ _ _ _ _ ⟨false, ⟨fun g => by have := of_decide_eq_true g; omega, fun _ => ⟨_, _, _, I.c1, fun g => by have := of_decide_eq_true g; omega, fun _ => (decide_eq_false hq0).symm⟩⟩, fun g => (by cases g), fun _ => ⟨_, _, _, I.c1, ab, ao, rfl, by omega, by omega, _, _, _, I.cs ht, ?_⟩⟩
    refine ⟨fun left left_n left_c cnt v h1 => ∃ k : Nat, v = k ∧ k ≤ t.L.length ∧ cnt = (((t.L.take k).filter (gone q)).length : Int) ∧ left_n = ((t.L.take k).filter fun e => !gone q e).length ∧ Ext h h1 ∧ Sl eEnt h1 left left_c ((t.L.take k).filter fun e => !gone q e) ∧ Own eEnt.k 31 h.size h1 left left_c,
      fun _ _ _ _ v _ => t.L.length - v.toNat, ⟨0, rfl, Nat.zero_le _, by simp, by simp, Ext.refl _, by simpa using Sl.nil eEnt h, Own.nil _ _ _ _⟩, ?_⟩
    rintro left _ left_c _ _ h1 ⟨k, rfl, hk, rfl, rfl, x1, s1, w1⟩
    have I1 := I.ext x1
    have hcnt : ∀ p : Ent → Bool, ((t.L.take k).filter p).length ≤ k := fun p => Nat.le_trans (List.length_filter_le _ _) (by rw [List.length_take]; omega)
    have c1' := hcnt (gone q)
    have c2' := hcnt fun e => !gone q e
    refine ⟨fun hlt => ?_, fun hge => ?_⟩
    · have hkl := lt_of_dec hlt
      obtain ⟨b, o, eta, d0, d1, d2, d3⟩ := I1.at hm hkl
      have hg : ((Int.fdiv ((t.L[k]).a : Int) (2 ^ min (Int.toNat 48) 64)) == IntKind.u64.wrap q) = gone q t.L[k] := by
        rw [fdiv48, wu64 (by omega) (by omega)]
        unfold gone
        rw [Bool.eq_iff_iff]
        simp only [beq_iff_eq, decide_eq_true_eq]
        omega
      refine ⟨fun left left_n left_c cnt h2 => cnt = (((t.L.take (k + 1)).filter (gone q)).length : Int) ∧ left_n = ((t.L.take (k + 1)).filter fun e => !gone q e).length ∧ Ext h h2 ∧ Sl eEnt h2 left left_c ((t.L.take (k + 1)).filter fun e => !gone q e) ∧ Own eEnt.k 31 h.size h2 left left_c, ⟨b, o, eta, by omega, by omega, _, _, _, _, d0, d1, d2, d3, fun g h4 x4 => ?_, fun g h4 x4 nb h5 en eh => ?_⟩, ?_⟩
      · rw [hg] at g
        rw [wadd _ (by omega)]
        have f1 : (t.L.take (k + 1)).filter (gone q) = (t.L.take k).filter (gone q) ++ [t.L[k]] := by rw [fil_take hkl, g]; rfl
        have f2 : ((t.L.take (k + 1)).filter fun e => !gone q e) = (t.L.take k).filter fun e => !gone q e := by rw [fil_take hkl, g]; simp
        rw [f1, f2]
        exact ⟨by simp, rfl, x1.trans x4, s1.ext x4, w1.ext x4⟩
      · rw [hg] at g
        have f1 : (t.L.take (k + 1)).filter (gone q) = (t.L.take k).filter (gone q) := by rw [fil_take hkl, g]; simp
        have f2 : ((t.L.take (k + 1)).filter fun e => !gone q e) = ((t.L.take k).filter fun e => !gone q e) ++ [t.L[k]] := by rw [fil_take hkl, g]; rfl
        rw [f1, f2]
        refine app_one (x := t.L[k]) aEnt en eh rfl (x1.trans x4) (s1.ext x4) (w1.ext x4) rfl (by omega) ?_
        intro a' c' h6 x6 _ s6 w6 _
        exact ⟨_, _, _, rfl, rfl, by simp, x6, s6, w6⟩
      · rintro l2 n2 c2 cnt h2 ⟨rfl, rfl, x2, s2, w2⟩
        rw [wadd k (by omega)]
        exact ⟨⟨k + 1, rfl, hkl, rfl, rfl, x2, s2, w2⟩, by simp only [Int.toNat_natCast]; omega⟩
    · have hkl : k = t.L.length := by have := ge_of_dec hge; omega
      subst hkl
      rw [List.take_length] at s1 ⊢
      have hfl : (t.L.filter fun e => !gone q e).length ≤ t.L.length := List.length_filter_le _ _
      obtain ⟨o1, o2⟩ := I.other (h6 := hset h1 ab (ao + n.toNat * 1) (.slice left (t.L.filter fun e => !gone q e).length left_c)) ht x1 rfl s1 w1 (hs.filter _) (by omega) fun y hy => hwf y (List.mem_filter.1 hy).1
      refine ⟨_, _, _, I1.c1, ab, ao, rfl, by omega, by omega, o1, ?_⟩
      rintro h7 rfl
      obtain ⟨f7, I7⟩ := o2 rfl
      refine ⟨rfl, AftR.mk' I.lt ((x1.fr _).trans f7 fun b' _ g => by rw [g]; exact I.wr.2.1) I7 (fun b' g => ?_) (Fr.refl (fun _ => False) _) (fun _ g => g.elim) map_putR⟩
      rcases g with g | g
      · exact .inl g
      · exact .inr (w1.low g).1
  · rw [if_neg hin, ent_out (by rw [List.length_map]; omega)]
    refine f41_sh _ _ _ _ _ _ ⟨true, ⟨fun _ => rfl, fun g => ⟨_, _, _, I.c1, fun _ => rfl, fun g2 => ?_⟩⟩, fun _ => ⟨rfl, AftR.ofExt I (Ext.refl _)⟩, fun g => (by cases g)⟩
    have := of_decide_eq_false g
    have := of_decide_eq_false g2
    omega
end
end Ix
end Go.Proofs.Ytkecmljalcfhoaa
namespace Go.Proofs.Ytkecmljalcfhoaa
namespace Ix
open Go RH
structure BldR (h0 h : Heap) (nb m : Nat) (Us : List Rb) : Prop where
  ex : ∃ a c, h[nb]? = some (.cells #[.int .i64 m, .slice a Us.length c] 80 (0, 0)) ∧ Sl eRb h a c Us ∧ Own eRb.k 47 h0.size h a c ∧ ∀ b, blkA a b → b ≠ nb ∧ ∀ t ∈ Us, ¬ blkA t.a b
  lo : h0.size ≤ nb
  nx : ∀ t ∈ Us, ¬ blkA t.a nb
  ok : ∀ t ∈ Us, Sl eEnt h t.a t.c t.L ∧ Own eEnt.k 31 h0.size h t.a t.c ∧ Srt t.L ∧ 8 * t.L.length ≤ 7 * 2 ^ m ∧ ∀ e ∈ t.L, e.wf ∧ e.a ≠ 0
  sep : Us.Pairwise fun t u => ∀ b, blkA t.a b → ¬ blkA u.a b
  x : Ext h0 h
theorem BldR.has {h0 h : Heap} {nb m : Nat} {Us : List Rb} (b : BldR h0 h nb m Us) (hl : 1 ≤ Us.length ∧ Us.length ≤ 64) (hm : 2 ≤ m ∧ m ≤ 16) : HasR (fresh h0 h) h nb m (Us.map Rb.L) := by
  obtain ⟨a, c, r, s, w, hb⟩ := b.ex
  obtain ⟨ab, ao, rfl, _⟩ := s.addr (by omega)
  obtain ⟨k1, k2⟩ := w.low (blkA_of rfl)
  exact ⟨ab, ao, c, Us, ⟨r, s, w.down (Nat.zero_le _), ⟨⟨b.lo, row_lt r⟩, ⟨k1, k2⟩, fun g => (hb ab (blkA_of rfl)).1 g.symm⟩, fun t ht => let ⟨j1, j2, j3⟩ := b.ok t ht; ⟨j1, j2.down (Nat.zero_le _), j3⟩,
    fun t ht z hz => ⟨(b.ok t ht).2.1.low hz, fun g => b.nx t ht (by rw [← g]; exact hz), fun g => (hb ab (blkA_of rfl)).2 t ht (by rw [← g]; exact hz)⟩, b.sep, hl, hm, fun z hz => hz.2⟩, rfl⟩
theorem zc_rep (n : Nat) : (List.replicate n (⟨none, 0, []⟩ : Rb)).flatMap eRb.enc = zcells [.slice none 0 0] n := by
  induction n with
  | zero => rfl
  | succ n ih =>
    rw [List.replicate_succ, List.flatMap_cons, ih]
    unfold zcells
    rw [List.replicate_succ]; rfl
theorem new_r (n bits most : Int) (h : Heap) : HC Try.prog 26 #[.int .i64 n, .int .i64 bits, .int .i64 most] h fun v h' => Ext h h' ∧
    ((newOK n bits most ∧ ∃ x, v = .tuple #[ptr x 0, .int .i64 0] ∧ HasR (fresh h h') h' x most.toNat (List.replicate n.toNat [])) ∨
      (¬ newOK n bits most ∧ v = .tuple #[.pointer none, .int .i64 (if n < 1 ∨ 64 < n then 1 else 110)])) := by
  unfold newOK
  refine f26_sh _ _ _ _ _ ⟨fun g => ?_, fun g => ⟨fun g2 => ?_, fun g2 => ⟨?_, ?_, ?_, fun nb h1 en eh nb1 h2 en1 eh1 => ?_⟩⟩⟩
  · simp only [Bool.or_eq_true, decide_eq_true_eq] at g
    exact ⟨Ext.refl _, .inr ⟨by omega, by rw [if_pos (by omega)]⟩⟩
  · simp only [Bool.or_eq_false_iff, decide_eq_false_iff_not] at g
    simp only [Bool.or_eq_true, decide_eq_true_eq] at g2
    exact ⟨Ext.refl _, .inr ⟨by omega, by rw [if_neg (by omega)]⟩⟩
  all_goals simp only [Bool.or_eq_false_iff, decide_eq_false_iff_not] at g g2
  · omega
  · omega
  · omega
  have x1 : Ext h h1 := by rw [eh]; exact Ext.push _ _
  have x2 : Ext h1 h2 := by rw [eh1]; exact Ext.push _ _
  have r1 : h1[nb]? = some (.cells ((List.replicate n.toNat (⟨none, 0, []⟩ : Rb)).flatMap eRb.enc).toArray 47 (0, 0)) := by rw [zc_rep, eh]; exact push_new en
  have e2 : ((most.toNat : Nat) : Int) = most := by omega
  have r2 : h2[nb1]? = some (.cells #[.int .i64 (most.toNat : Nat), .slice (some ⟨nb, 0, none⟩) n.toNat n.toNat] 80 (0, 0)) := by rw [e2, eh1]; exact push_new en1
  have hl : (List.replicate n.toNat (⟨none, 0, []⟩ : Rb)).length = n.toNat := List.length_replicate
  have hs1 := x1.size
  have hnl := row_lt r1
  have hmem : ∀ t, t ∈ List.replicate n.toNat (⟨none, 0, []⟩ : Rb) → t = ⟨none, 0, []⟩ := fun t ht => List.eq_of_mem_replicate ht
  have b : BldR h h2 nb1 most.toNat (List.replicate n.toNat ⟨none, 0, []⟩) := by
    refine ⟨⟨some ⟨nb, 0, none⟩, n.toNat, by rw [hl]; exact r2, ?_, ?_, fun b hb => ⟨by rw [blkA_some.1 hb]; omega, fun t ht => by rw [hmem t ht]; exact blkA_none⟩⟩, by omega, fun t ht => by rw [hmem t ht]; exact blkA_none, fun t ht => by
      rw [hmem t ht]; exact ⟨Sl.nil _ _, Own.nil _ _ _ _, List.Pairwise.nil, by simp, fun e he => by simp at he⟩, ?_, x1.trans x2⟩
    · have := Sl.lit (E := eRb) (x2.row r1)
      rw [hl] at this; exact this
    · have := Own.lit (E := eRb) (N := h.size) (x2.row r1) (by omega)
      rw [hl] at this; exact this
    · exact List.pairwise_replicate.2 (.inr fun b hb => (blkA_none hb).elim)
  refine ⟨x1.trans x2, .inl ⟨by omega, nb1, rfl, ?_⟩⟩
  have := b.has (by rw [hl]; omega) (by omega)
  rw [List.map_replicate] at this
  exact this
end Ix
end Go.Proofs.Ytkecmljalcfhoaa
