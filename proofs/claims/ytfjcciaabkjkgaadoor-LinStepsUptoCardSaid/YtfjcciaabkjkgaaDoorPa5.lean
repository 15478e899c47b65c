import Derived.Test.YtfjcciaabkjkgaaDoorProg
import Derived.Test.YtfjcciaabkjkgaaDoorPa1
import Derived.Test.YtfjcciaabkjkgaaDoorPa4
namespace Go.Proofs.YtfjcciaabkjkgaaDoor
open Go
open Go.Proofs.YtfjcciaabkjkgaaDoor renaming hl_val → lv, hl_step → lp, hl_nil → ln, hl_yes → ly, hl_no → lo, hx_seq → xs, hx_region → xr, hx_cond → xc, hx_block → xb, hx_loopT → xl, hx_cut → xk, hx_has → xh, hx_skip → xi, hx_ret → xt, hx_exit → xe, seqQ_n → qn, seqQ_ret → qr, seqQ_exit → qe, blockQ_n → bn, blockQ_ret → br, blockQ_here → bh, hv_move → vm, hv_assign → va, hv_arith → vr, hv_load → vl, hv_loads → vL, hv_extract → vx, hv_field → vf, hv_index → vi, hp_pure → pp, hp_read → pr, hp_no → pn, has_cons → hc, has_nil → hn, hcells_cons → cc, hcells_nil → cn, rowcell → rc, hs_call → sc
set_option maxRecDepth 100000
set_option maxHeartbeats 4000000
theorem TyTB.agg22 : aggB Tryd.prog 22 = some false := by kernel_rfl
theorem TyTB.agg3 : aggB Tryd.prog 3 = some false := by kernel_rfl
theorem TyTB.agg30 : aggB Tryd.prog 30 = some true := by kernel_rfl
theorem TyTB.agg4 : aggB Tryd.prog 4 = some false := by kernel_rfl
theorem TyTB.agg9 : aggB Tryd.prog 9 = some false := by kernel_rfl
theorem TyTB.by4 : byB Tryd.prog 4 = some 1 := by kernel_rfl
theorem TyTB.cb11 : CallB Tryd.prog 11 := fun _ _ => Tryd.call11 _ _
theorem TyTB.cb12 : CallB Tryd.prog 12 := fun _ _ => Tryd.call12 _ _
theorem TyTB.cb13 : CallB Tryd.prog 13 := fun _ _ => Tryd.call13 _ _
theorem TyTB.cb14 : CallB Tryd.prog 14 := fun _ _ => Tryd.call14 _ _
theorem TyTB.cb15 : CallB Tryd.prog 15 := fun _ _ => Tryd.call15 _ _
theorem TyTB.cb16 : CallB Tryd.prog 16 := fun _ _ => Tryd.call16 _ _
theorem TyTB.cb18 : CallB Tryd.prog 18 := fun _ _ => Tryd.call18 _ _
theorem TyTB.cb24 : CallB Tryd.prog 24 := fun _ _ => Tryd.call24 _ _
theorem TyTB.cb45 : CallB Tryd.prog 45 := fun _ _ => Tryd.call45 _ _
theorem TyTB.cb9 : CallB Tryd.prog 9 := fun _ _ => Tryd.call9 _ _
theorem TyTB.el22 : elB Tryd.prog 22 = some 8 := by kernel_rfl
theorem TyTB.el23 : elB Tryd.prog 23 = some 1 := by kernel_rfl
theorem TyTB.el35 : elB Tryd.prog 35 = some 1 := by kernel_rfl
theorem TyTB.fld30_1 : fldB Tryd.prog 30 1 = some 1 := by kernel_rfl
theorem TyTB.mixed : Tryd.prog.follows .mixedOrders = true := by kernel_rfl
theorem TyTB.sz3 : szB Tryd.prog 3 = some 1 := by kernel_rfl
theorem TyTB.sz30 : szB Tryd.prog 30 = some 8 := by kernel_rfl
theorem TyTB.sz4 : szB Tryd.prog 4 = some 1 := by kernel_rfl
theorem TyTB.u22 : Tryd.prog.underlying 22 = some (.slice 30) := by kernel_rfl
theorem TyTB.u23 : Tryd.prog.underlying 23 = some (.slice 3) := by kernel_rfl
theorem TyTB.u35 : Tryd.prog.underlying 35 = some (.slice 4) := by kernel_rfl
theorem TyTB.z3 : zeroB Tryd.prog 3 (.int .i64 0) := by unfold zeroB; kernel_rfl
theorem TyTB.z30 : zeroB Tryd.prog 30 (.agg #[(.int .i64 0), (.string ByteArray.empty), (.string ByteArray.empty), (.int .i64 0), (.bool false), (.int .i64 0), (.int .i64 0), (.int .i64 0)]) := by unfold zeroB; kernel_rfl
theorem TyTB.z4 : zeroB Tryd.prog 4 (.bool false) := by unfold zeroB; kernel_rfl
theorem ext_pushed_f34_sh {h h1 : Heap} {o : Obj} (e : h1 = Array.push h o) : Ext h h1 := by rw [e]; exact Ext.push _ _
theorem f11_sh (l : Option Addr) (a9 : Nat) (b5 : Nat) (h : Heap) (R : Value → Heap → Prop)
  (H : (∃ (I2 : Int → Prop) (b4 : Int → Nat), I2 0 ∧ (∀ (v : Int), I2 v → (((decide (v < (a9 : Int))) = true → (∃ b1 b2 : Nat, l = some ⟨b1, b2, none⟩ ∧ (0 : Int) ≤ v ∧ v < (a9 : Int) ∧ (∃ a1 : Int, ∃ a6 a0 : ByteArray, ∃ a5 : Int, ∃ a4 : Bool, ∃ a2 a3 a7 : Int, hcell h b1 (b2 + (Int.toNat v) * 8) = some (.int .i64 a1) ∧ hcell h b1 ((b2 + (Int.toNat v) * 8) + 1) = some (.string a6) ∧ hcell h b1 ((b2 + (Int.toNat v) * 8) + 2) = some (.string a0) ∧ hcell h b1 ((b2 + (Int.toNat v) * 8) + 3) = some (.int .i64 a5) ∧ hcell h b1 ((b2 + (Int.toNat v) * 8) + 4) = some (.bool a4) ∧ hcell h b1 ((b2 + (Int.toNat v) * 8) + 5) = some (.int .i64 a2) ∧ hcell h b1 ((b2 + (Int.toNat v) * 8) + 6) = some (.int .i64 a3) ∧ hcell h b1 ((b2 + (Int.toNat v) * 8) + 7) = some (.int .i64 a7) ∧ ((((Ml.check ⟨a1, a6, a0, a5, a4, a2, a3, a7⟩) != 0) = true → (∀ (h4 : Heap), Ext h h4 → R (.int .i64 (Ml.check ⟨a1, a6, a0, a5, a4, a2, a3, a7⟩)) h4)) ∧ (((Ml.check ⟨a1, a6, a0, a5, a4, a2, a3, a7⟩) != 0) = false → (I2 (IntKind.i64.wrap (v + 1)) ∧ b4 (IntKind.i64.wrap (v + 1)) < b4 v)))))) ∧ ((decide (v < (a9 : Int))) = false → (∀ (h1 : Heap), Ext h h1 → R (.int .i64 0) h1)))))) :
  HC Tryd.prog 11 #[(.slice l a9 b5)] h R := by
 refine hc_of (args := [(.slice l a9 b5)]) Tryd.func11 rfl Tryd.ntmps11 (Nat.le_of_ble_eq_true rfl) ?_
 refine xs (xr ?_)
 refine lv rfl rfl (va rfl) ?_
 refine ln (qn (xs (xs (xr ?_))))
 refine lv rfl rfl (vm rfl) (lv rfl rfl (v := (.int .i64 (a9 : Int))) (hv_len (n := a9) TyTB.u22 rfl) (lv rfl rfl (vm rfl) ?_))
 refine ln (qn (xb ?_))
 obtain ⟨I2, b4, d5, d7⟩ := H
 refine xl (σ := Int) (fun s => [(6, (.slice l a9 b5)), (7, (.int .i64 (a9 : Int))), (8, (.int .i64 s))]) (fun s h' => I2 s ∧ Ext h h' ∧ True) (fun s _ => b4 s) 0 ⟨d5, (Ext.refl _), trivial⟩ (hc rfl (hc rfl (hc rfl hn))) ?_
 rintro v ρ h1 ⟨d8, b0, -⟩
 have H := d7 v d8
 refine xs (xr ?_)
 refine lv rfl rfl (vr rfl rfl rfl) ?_
 refine ln (qn (xs ?_))
 refine xc (b := decide (v < (a9 : Int))) rfl (fun c1 => ?_) (fun c1 => ?_)
 ·replace H := H.1 c1
  refine xi (qn (xs (xb (xs (xr ?_)))))
  obtain ⟨b1, b2, d9, e0, d6, Hq⟩ := H
  subst d9
  have H := Hq; clear Hq
  refine lv rfl rfl (v := (ptr b1 (b2 + (Int.toNat v) * 8))) (vi TyTB.el22 rfl rfl e0 d6) ?_
  obtain ⟨a1, a6, a0, a5, a4, a2, a3, a7, c3, d0, c7, c5, c8, d1, c4, c9, H⟩ := H
  refine lv rfl rfl (vL (vs := [(.int .i64 a1), (.string a6), (.string a0), (.int .i64 a5), (.bool a4), (.int .i64 a2), (.int .i64 a3), (.int .i64 a7)]) TyTB.agg30 TyTB.sz30 rfl (cc (Ext.cell b0 c3) (cc (Ext.cell b0 d0) (cc (Ext.cell b0 c7) (cc (Ext.cell b0 c5) (cc (Ext.cell b0 c8) (cc (Ext.cell b0 d1) (cc (Ext.cell b0 c4) (cc (Ext.cell b0 c9) cn))))))))) ?_
  refine lp rfl rfl (hn_alloc TyTB.z30 ?_)
  intro m h2 c2 b6
  have d3 := ext_pushed_f34_sh b6
  have d2 : Array.size h ≤ m := Nat.le_trans (Ext.size b0) (Nat.le_of_eq (Eq.symm c2))
  have b8 : h2[m]? = some (.cells #[(.int .i64 0), (.string ByteArray.empty), (.string ByteArray.empty), (.int .i64 0), (.bool false), (.int .i64 0), (.int .i64 0), (.int .i64 0)] 30 (0, 0)) := by rw [b6]; exact push_new c2
  have d4 := Ext.trans b0 d3
  refine lp rfl rfl (hn_stores (vs := [(.int .i64 a1), (.string a6), (.string a0), (.int .i64 a5), (.bool a4), (.int .i64 a2), (.int .i64 a3), (.int .i64 a7)]) rfl rfl TyTB.sz30 rfl (HWs_row b8 (by simp)) ?_)
  intro h3 b7
  have a8 : h3[m]? = some (.cells #[(.int .i64 a1), (.string a6), (.string a0), (.int .i64 a5), (.bool a4), (.int .i64 a2), (.int .i64 a3), (.int .i64 a7)] 30 (0, 0)) := row_hsets_eq b7 b8 (by simp [sets])
  have c6 := ext_hsets b7 d4 d2
  refine ln (qn (xs (xr ?_)))
  refine lv rfl rfl (vL (vs := [(.int .i64 a1), (.string a6), (.string a0), (.int .i64 a5), (.bool a4), (.int .i64 a2), (.int .i64 a3), (.int .i64 a7)]) TyTB.agg30 TyTB.sz30 rfl (cc (rc a8 rfl) (cc (rc a8 rfl) (cc (rc a8 rfl) (cc (rc a8 rfl) (cc (rc a8 rfl) (cc (rc a8 rfl) (cc (rc a8 rfl) (cc (rc a8 rfl) cn))))))))) ?_
  refine lp rfl rfl (sc TyTB.cb18 rfl (HC.mono (check_c (⟨a1, a6, a0, a5, a4, a2, a3, a7⟩) _) ?_))
  rintro _ h4 ⟨rfl, c0⟩
  replace a8 := Ext.row c0 a8
  have b9 := Ext.trans c6 c0
  refine lv rfl rfl (va rfl) ?_
  refine ln (qn (xs (xr ?_)))
  refine lv rfl rfl (vm rfl) (lv rfl rfl (vr rfl rfl rfl) ?_)
  refine ln (qn ?_)
  refine xc (b := (Ml.check ⟨a1, a6, a0, a5, a4, a2, a3, a7⟩) != 0) rfl (fun b3 => ?_) (fun b3 => ?_)
  ·replace H := H.1 b3
   refine xs (xr ?_)
   refine lv rfl rfl (vm rfl) (lv rfl rfl (va rfl) ?_)
   refine ln (qn (xt (br (qr (qr (br (qr ?_)))))))
   replace H := H h4 b9
   exact endQ_ret _ (res_one Tryd.results11 (rv_tmp rfl)) H
  ·replace H := H.2 b3
   refine xi (bn (qn (xr ?_)))
   refine lv rfl rfl (vr rfl rfl rfl) (lv rfl rfl (vm rfl) ?_)
   refine ln (qn ?_)
   exact ⟨IntKind.i64.wrap (v + 1), ⟨⟨H.1, b9, trivial⟩, H.2⟩, (hc rfl (hc rfl (hc rfl hn)))⟩
 ·replace H := H.2 c1
  refine xe (qe (qe (bh (qn (xs (xr ?_))))))
  refine lv rfl rfl (va rfl) ?_
  refine ln (qn (xt ?_))
  replace H := H h1 b0
  exact endQ_ret _ (res_one Tryd.results11 (rv_tmp rfl)) H
theorem f9_sh (l : Option Addr) (a8 : Nat) (b2 : Nat) (h : Heap) (R : Value → Heap → Prop)
  (H : (∃ (I2 : Int → Prop) (b4 : Int → Nat), I2 0 ∧ (∀ (i : Int), I2 i → (((decide (i < (a8 : Int))) = true → (∃ a9 b0 : Nat, l = some ⟨a9, b0, none⟩ ∧ (0 : Int) ≤ i ∧ i < (a8 : Int) ∧ (∃ a1 : Int, ∃ a6 a0 : ByteArray, ∃ a5 : Int, ∃ a4 : Bool, ∃ a2 a3 a7 : Int, hcell h a9 (b0 + (Int.toNat i) * 8) = some (.int .i64 a1) ∧ hcell h a9 ((b0 + (Int.toNat i) * 8) + 1) = some (.string a6) ∧ hcell h a9 ((b0 + (Int.toNat i) * 8) + 2) = some (.string a0) ∧ hcell h a9 ((b0 + (Int.toNat i) * 8) + 3) = some (.int .i64 a5) ∧ hcell h a9 ((b0 + (Int.toNat i) * 8) + 4) = some (.bool a4) ∧ hcell h a9 ((b0 + (Int.toNat i) * 8) + 5) = some (.int .i64 a2) ∧ hcell h a9 ((b0 + (Int.toNat i) * 8) + 6) = some (.int .i64 a3) ∧ hcell h a9 ((b0 + (Int.toNat i) * 8) + 7) = some (.int .i64 a7) ∧ ((((Ml.check ⟨a1, a6, a0, a5, a4, a2, a3, a7⟩) != 0) = true → (∀ (h2 : Heap), Ext h h2 → R (.int .i64 230) h2)) ∧ (((Ml.check ⟨a1, a6, a0, a5, a4, a2, a3, a7⟩) != 0) = false → (I2 (IntKind.i64.wrap (i + 1)) ∧ b4 (IntKind.i64.wrap (i + 1)) < b4 i)))))) ∧ ((decide (i < (a8 : Int))) = false → (∀ (h1 : Heap), Ext h h1 → R (.int .i64 0) h1)))))) :
  HC Tryd.prog 9 #[(.slice l a8 b2)] h R := by
 refine hc_of (args := [(.slice l a8 b2)]) Tryd.func9 rfl Tryd.ntmps9 (Nat.le_of_ble_eq_true rfl) ?_
 refine xs (xr ?_)
 refine lv rfl rfl (va rfl) ?_
 refine ln (qn (xs (xs (xr ?_))))
 refine lv rfl rfl (va rfl) ?_
 refine ln (qn (xb ?_))
 obtain ⟨I2, b4, c6, c8⟩ := H
 refine xl (σ := Int) (fun s => [(0, (.slice l a8 b2)), (3, (.int .i64 s))]) (fun s h' => I2 s ∧ Ext h h' ∧ True) (fun s _ => b4 s) 0 ⟨c6, (Ext.refl _), trivial⟩ (hc rfl (hc rfl hn)) ?_
 rintro i ρ h1 ⟨c9, b1, -⟩
 have H := c8 i c9
 refine xs (xs (xr ?_))
 refine lv rfl rfl (vm rfl) (lv rfl rfl (vm rfl) (lv rfl rfl (v := (.int .i64 (a8 : Int))) (hv_len (n := a8) TyTB.u22 rfl) (lv rfl rfl (vr rfl rfl rfl) ?_)))
 refine ln (qn ?_)
 refine xc (b := decide (i < (a8 : Int))) rfl (fun b6 => ?_) (fun b6 => ?_)
 ·replace H := H.1 b6
  refine xi (qn (xs (xb (xs (xr ?_)))))
  refine lv rfl rfl (vm rfl) (lv rfl rfl (vm rfl) ?_)
  obtain ⟨a9, b0, d0, d1, c7, Hq⟩ := H
  subst d0
  have H := Hq; clear Hq
  refine lv rfl rfl (v := (ptr a9 (b0 + (Int.toNat i) * 8))) (vi TyTB.el22 rfl rfl d1 c7) ?_
  obtain ⟨a1, a6, a0, a5, a4, a2, a3, a7, b7, c4, c0, b9, c1, c5, b8, c2, H⟩ := H
  refine lv rfl rfl (vL (vs := [(.int .i64 a1), (.string a6), (.string a0), (.int .i64 a5), (.bool a4), (.int .i64 a2), (.int .i64 a3), (.int .i64 a7)]) TyTB.agg30 TyTB.sz30 rfl (cc (Ext.cell b1 b7) (cc (Ext.cell b1 c4) (cc (Ext.cell b1 c0) (cc (Ext.cell b1 b9) (cc (Ext.cell b1 c1) (cc (Ext.cell b1 c5) (cc (Ext.cell b1 b8) (cc (Ext.cell b1 c2) cn))))))))) ?_
  refine lp rfl rfl (sc TyTB.cb16 rfl (HC.mono (rcheck_c (⟨a1, a6, a0, a5, a4, a2, a3, a7⟩) _) ?_))
  rintro _ h2 ⟨rfl, c3⟩
  have b5 := Ext.trans b1 c3
  refine lv rfl rfl (vr rfl rfl rfl) ?_
  refine ln (qn ?_)
  refine xc (b := (Ml.check ⟨a1, a6, a0, a5, a4, a2, a3, a7⟩) != 0) rfl (fun b3 => ?_) (fun b3 => ?_)
  ·replace H := H.1 b3
   refine xs (xr ?_)
   refine lv rfl rfl (va rfl) ?_
   refine ln (qn (xt (br (qr (qr (br (qr ?_)))))))
   replace H := H h2 b5
   exact endQ_ret _ (res_one Tryd.results9 (rv_tmp rfl)) H
  ·replace H := H.2 b3
   refine xi (bn (qn (xr ?_)))
   refine lv rfl rfl (vm rfl) (lv rfl rfl (vr rfl rfl rfl) (lv rfl rfl (va rfl) ?_))
   refine ln (qn ?_)
   exact ⟨IntKind.i64.wrap (i + 1), ⟨⟨H.1, b5, trivial⟩, H.2⟩, (hc rfl (hc rfl hn))⟩
 ·replace H := H.2 b6
  refine xe (qe (qe (bh (qn (xs (xr ?_))))))
  refine lv rfl rfl (va rfl) ?_
  refine ln (qn (xt ?_))
  replace H := H h1 b1
  exact endQ_ret _ (res_one Tryd.results9 (rv_tmp rfl)) H
theorem f8_sh (a : Option Addr) (a0 : Nat) (a3 : Nat) (b : Option Addr) (a1 : Nat) (a4 : Nat) (h : Heap) (R : Value → Heap → Prop)
  (H : ((((a0 : Int) != (a1 : Int)) = true → R (.bool false) h) ∧ (((a0 : Int) != (a1 : Int)) = false → (∃ (I2 : Int → Prop) (a8 : Int → Nat), I2 0 ∧ (∀ (i : Int), I2 i → (((decide (i < (a0 : Int))) = true → (∃ a7 a9 : Nat, a = some ⟨a7, a9, none⟩ ∧ (0 : Int) ≤ i ∧ i < (a0 : Int) ∧ (∃ x : Int, hcell h a7 (a9 + (Int.toNat i) * 1) = some (.int .i64 x) ∧ (∃ a6 b0 : Nat, b = some ⟨a6, b0, none⟩ ∧ (0 : Int) ≤ i ∧ i < (a1 : Int) ∧ (∃ a2 : Int, hcell h a6 (b0 + (Int.toNat i) * 1) = some (.int .i64 a2) ∧ (((x != a2) = true → R (.bool false) h) ∧ ((x != a2) = false → (I2 (IntKind.i64.wrap (i + 1)) ∧ a8 (IntKind.i64.wrap (i + 1)) < a8 i)))))))) ∧ ((decide (i < (a0 : Int))) = false → R (.bool true) h))))))) :
  HC Tryd.prog 8 #[(.slice a a0 a3), (.slice b a1 a4)] h R := by
 refine hc_of (args := [(.slice a a0 a3), (.slice b a1 a4)]) Tryd.func8 rfl Tryd.ntmps8 (Nat.le_of_ble_eq_true rfl) ?_
 refine xs (xr ?_)
 refine lv rfl rfl (va rfl) ?_
 refine ln (qn (xs (xs (xr ?_))))
 refine lv rfl rfl (vm rfl) (lv rfl rfl (v := (.int .i64 (a0 : Int))) (hv_len (n := a0) TyTB.u23 rfl) (lv rfl rfl (vm rfl) (lv rfl rfl (v := (.int .i64 (a1 : Int))) (hv_len (n := a1) TyTB.u23 rfl) (lv rfl rfl (vr rfl rfl rfl) ?_))))
 refine ln (qn ?_)
 refine xc (b := (a0 : Int) != (a1 : Int)) rfl (fun b1 => ?_) (fun b1 => ?_)
 ·replace H := H.1 b1
  refine xs (xr ?_)
  refine lv rfl rfl (va rfl) ?_
  refine ln (qn (xt (qr ?_)))
  exact endQ_ret _ (res_one Tryd.results8 (rv_tmp rfl)) H
 ·replace H := H.2 b1
  refine xi (qn (xs (xs (xr ?_))))
  refine lv rfl rfl (va rfl) ?_
  refine ln (qn (xb ?_))
  obtain ⟨I2, a8, b8, b9⟩ := H
  refine xl (σ := Int) (fun s => [(0, (.slice a a0 a3)), (1, (.slice b a1 a4)), (5, (.int .i64 s))]) (fun s h' => I2 s ∧ h = h') (fun s _ => a8 s) 0 ⟨b8, rfl⟩ (hc rfl (hc rfl (hc rfl hn))) ?_
  rintro i ρ _ ⟨c0, rfl⟩
  have H := b9 i c0
  refine xs (xs (xr ?_))
  refine lv rfl rfl (vm rfl) (lv rfl rfl (vm rfl) (lv rfl rfl (v := (.int .i64 (a0 : Int))) (hv_len (n := a0) TyTB.u23 rfl) (lv rfl rfl (vr rfl rfl rfl) ?_)))
  refine ln (qn ?_)
  refine xc (b := decide (i < (a0 : Int))) rfl (fun b2 => ?_) (fun b2 => ?_)
  ·replace H := H.1 b2
   refine xi (qn (xs (xb (xs ?_))))
   refine hx_draw TyTB.mixed [.pure, .pure, .pure, .read, .pure, .pure, .pure, .read, .pure] [0, 1, 2, 3, 4, 5, 6, 7, 8] (by kernel_rfl) ?_
   refine pp (i := 0) rfl (wanted_0 rfl) rfl (.slice a a0 a3) (fun _ => vm rfl) ?_
   refine pp (i := 1) rfl (wanted_0 rfl) rfl (.int .i64 i) (fun _ => vm rfl) ?_
   obtain ⟨a7, a9, b3, c2, c1, Hq⟩ := H
   subst b3
   have H := Hq; clear Hq
   refine pp (i := 2) rfl (wanted_0 rfl) rfl (ptr a7 (a9 + (Int.toNat i) * 1)) (fun _ => vi TyTB.el23 rfl rfl c2 c1) ?_
   obtain ⟨x, b4, H⟩ := H
   refine pr (i := 3) rfl (wanted_0 rfl) rfl (.int .i64 x) (fun _ he => vl TyTB.agg3 rfl (Ext.cell he b4)) ?_
   refine pp (i := 4) rfl (wanted_0 rfl) rfl (.slice b a1 a4) (fun _ => vm rfl) ?_
   refine pp (i := 5) rfl (wanted_0 rfl) rfl (.int .i64 i) (fun _ => vm rfl) ?_
   obtain ⟨a6, b0, b3, b6, b7, Hq⟩ := H
   subst b3
   have H := Hq; clear Hq
   refine pp (i := 6) rfl (wanted_0 rfl) rfl (ptr a6 (b0 + (Int.toNat i) * 1)) (fun _ => vi TyTB.el23 rfl rfl b6 b7) ?_
   obtain ⟨a2, b5, H⟩ := H
   refine pr (i := 7) rfl (wanted_0 rfl) rfl (.int .i64 a2) (fun _ he => vl TyTB.agg3 rfl (Ext.cell he b5)) ?_
   refine pp (i := 8) rfl (wanted_0 rfl) rfl (.bool (x != a2)) (fun _ => vr rfl rfl rfl) ?_
   refine hp_nil ?_
   refine qn ?_
   refine xc (b := x != a2) rfl (fun a5 => ?_) (fun a5 => ?_)
   ·replace H := H.1 a5
    refine xs (xr ?_)
    refine lv rfl rfl (va rfl) ?_
    refine ln (qn (xt (br (qr (qr (br (qr ?_)))))))
    exact endQ_ret _ (res_one Tryd.results8 (rv_tmp rfl)) H
   ·replace H := H.2 a5
    refine xi (bn (qn (xr ?_)))
    refine lv rfl rfl (vm rfl) (lv rfl rfl (vr rfl rfl rfl) (lv rfl rfl (va rfl) ?_))
    refine ln (qn ?_)
    exact ⟨IntKind.i64.wrap (i + 1), ⟨⟨H.1, rfl⟩, H.2⟩, (hc rfl (hc rfl (hc rfl hn)))⟩
  ·replace H := H.2 b2
   refine xe (qe (qe (bh (qn (xs (xr ?_))))))
   refine lv rfl rfl (va rfl) ?_
   refine ln (qn (xt ?_))
   exact endQ_ret _ (res_one Tryd.results8 (rv_tmp rfl)) H
theorem f6_sh (l : Option Addr) (a3 : Nat) (d3 : Nat) (d5 : Option Addr) (a0 : Nat) (c7 : Nat) (h : Heap) (R : Value → Heap → Prop)
  (H : HC Tryd.prog 11 #[(.slice l a3 d3)] h (fun vv h1 => ∃ r : Int, vv = (.int .i64 r) ∧ (((r != 0) = true → R (.int .i64 r) h1) ∧ ((r != 0) = false → ((((a0 : Int) != (a3 : Int)) = true → R (.int .i64 84) h1) ∧ (((a0 : Int) != (a3 : Int)) = false → ((0 : Int) ≤ (a3 : Int) ∧ 1 * (a3 : Int) ≤ 140737488355328 ∧ (a3 : Int) ≤ 140737488355328 ∧ ∀ nb h2, nb = Array.size h1 → h2 = Array.push h1 (.cells (zcells [(.bool false)] (Int.toNat (a3 : Int))).toArray 4) → (∃ (I9 : Option Addr → Nat → Nat → Int → Heap → Prop) (e0 : Option Addr → Nat → Nat → Int → Heap → Nat), I9 none 0 0 0 h2 ∧ (∀ (c0 : Option Addr) (a1 : Nat) (b0 : Nat) (v : Int) (h3 : Heap), I9 c0 a1 b0 v h3 → (((decide (v < (a0 : Int))) = true → (∃ d2 d1 : Nat, d5 = some ⟨d2, d1, none⟩ ∧ (0 : Int) ≤ v ∧ v < (a0 : Int) ∧ (∃ x : Int, hcell h3 d2 (d1 + (Int.toNat v) * 1) = some (.int .i64 x) ∧ (∃ j : Bool, (((decide (x < 0)) = true → (j = true)) ∧ ((decide (x < 0)) = false → (((decide (x ≥ (a3 : Int))) = true → (j = true)) ∧ ((decide (x ≥ (a3 : Int))) = false → ((0 : Int) ≤ x ∧ x < (((Int.toNat (a3 : Int)) : Nat) : Int) ∧ (∃ e2 : Bool, hcell h3 nb (0 + (Int.toNat x) * 1) = some (.bool e2) ∧ (j = e2))))))) ∧ ((j = true → R (.int .i64 84) h3) ∧ (j = false → ((0 : Int) ≤ x ∧ x < (((Int.toNat (a3 : Int)) : Nat) : Int) ∧ (HW h3 nb (0 + (Int.toNat x) * 1) ∧ ∀ h4, h4 = hset h3 nb (0 + (Int.toNat x) * 1) (.bool true) → (∃ (e3 : Int → Prop) (d9 : Int → Nat), e3 0 ∧ (∀ (b9 : Int), e3 b9 → (((decide (b9 < (a1 : Int))) = true → (∃ b3 b4 : Nat, c0 = some ⟨b3, b4, none⟩ ∧ (0 : Int) ≤ b9 ∧ b9 < (a1 : Int) ∧ (∃ a4 : Int, ∃ a9 a2 : ByteArray, ∃ a7 : Int, ∃ a8 : Bool, ∃ a5 a6 b2 : Int, hcell h4 b3 (b4 + (Int.toNat b9) * 8) = some (.int .i64 a4) ∧ hcell h4 b3 ((b4 + (Int.toNat b9) * 8) + 1) = some (.string a9) ∧ hcell h4 b3 ((b4 + (Int.toNat b9) * 8) + 2) = some (.string a2) ∧ hcell h4 b3 ((b4 + (Int.toNat b9) * 8) + 3) = some (.int .i64 a7) ∧ hcell h4 b3 ((b4 + (Int.toNat b9) * 8) + 4) = some (.bool a8) ∧ hcell h4 b3 ((b4 + (Int.toNat b9) * 8) + 5) = some (.int .i64 a5) ∧ hcell h4 b3 ((b4 + (Int.toNat b9) * 8) + 6) = some (.int .i64 a6) ∧ hcell h4 b3 ((b4 + (Int.toNat b9) * 8) + 7) = some (.int .i64 b2) ∧ (∃ c1 c2 : Nat, l = some ⟨c1, c2, none⟩ ∧ (0 : Int) ≤ x ∧ x < (a3 : Int) ∧ (∃ b7 : Int, ∃ c4 b1 : ByteArray, ∃ c3 : Int, ∃ c5 : Bool, ∃ b5 b6 c6 : Int, hcell h4 c1 (c2 + (Int.toNat x) * 8) = some (.int .i64 b7) ∧ hcell h4 c1 ((c2 + (Int.toNat x) * 8) + 1) = some (.string c4) ∧ hcell h4 c1 ((c2 + (Int.toNat x) * 8) + 2) = some (.string b1) ∧ hcell h4 c1 ((c2 + (Int.toNat x) * 8) + 3) = some (.int .i64 c3) ∧ hcell h4 c1 ((c2 + (Int.toNat x) * 8) + 4) = some (.bool c5) ∧ hcell h4 c1 ((c2 + (Int.toNat x) * 8) + 5) = some (.int .i64 b5) ∧ hcell h4 c1 ((c2 + (Int.toNat x) * 8) + 6) = some (.int .i64 b6) ∧ hcell h4 c1 ((c2 + (Int.toNat x) * 8) + 7) = some (.int .i64 c6) ∧ (((Ml.ahB ⟨b7, c4, b1, c3, c5, b5, b6, c6⟩ ⟨a4, a9, a2, a7, a8, a5, a6, b2⟩) = true → (∀ (h8 : Heap), Ext h4 h8 → R (.int .i64 84) h8)) ∧ ((Ml.ahB ⟨b7, c4, b1, c3, c5, b5, b6, c6⟩ ⟨a4, a9, a2, a7, a8, a5, a6, b2⟩) = false → (e3 (IntKind.i64.wrap (b9 + 1)) ∧ d9 (IntKind.i64.wrap (b9 + 1)) < d9 b9)))))))) ∧ ((decide (b9 < (a1 : Int))) = false → (∃ c1 c2 : Nat, l = some ⟨c1, c2, none⟩ ∧ (0 : Int) ≤ x ∧ x < (a3 : Int) ∧ (∃ a4 : Int, ∃ a9 a2 : ByteArray, ∃ a7 : Int, ∃ a8 : Bool, ∃ a5 a6 b2 : Int, hcell h4 c1 (c2 + (Int.toNat x) * 8) = some (.int .i64 a4) ∧ hcell h4 c1 ((c2 + (Int.toNat x) * 8) + 1) = some (.string a9) ∧ hcell h4 c1 ((c2 + (Int.toNat x) * 8) + 2) = some (.string a2) ∧ hcell h4 c1 ((c2 + (Int.toNat x) * 8) + 3) = some (.int .i64 a7) ∧ hcell h4 c1 ((c2 + (Int.toNat x) * 8) + 4) = some (.bool a8) ∧ hcell h4 c1 ((c2 + (Int.toNat x) * 8) + 5) = some (.int .i64 a5) ∧ hcell h4 c1 ((c2 + (Int.toNat x) * 8) + 6) = some (.int .i64 a6) ∧ hcell h4 c1 ((c2 + (Int.toNat x) * 8) + 7) = some (.int .i64 b2) ∧ (∀ (h5 : Heap), Ext h4 h5 → (∀ e1 h9, e1 = Array.size h5 → h9 = Array.push h5 (.cells #[(.int .i64 a4), (.string a9), (.string a2), (.int .i64 a7), (.bool a8), (.int .i64 a5), (.int .i64 a6), (.int .i64 b2)] 30) → HAppend Tryd.prog 22 22 (.slice c0 a1 b0) (.slice (some ⟨e1, 0, none⟩) 1 1) h9 (fun vv f2 => ∃ ap : Option Addr, ∃ d7 d6 : Nat, vv = (.slice ap d7 d6) ∧ (I9 ap d7 d6 (IntKind.i64.wrap (v + 1)) f2 ∧ e0 ap d7 d6 (IntKind.i64.wrap (v + 1)) f2 < e0 c0 a1 b0 v h3)))))))))))))))))) ∧ ((decide (v < (a0 : Int))) = false → HC Tryd.prog 13 #[(.slice c0 a1 b0)] h3 (fun vv f8 => ∃ r0 : Bool, ∃ r1 : Int, vv = (.tuple #[(.bool r0), (.int .i64 r1)]) ∧ (((!r0) = true → R (.int .i64 251) f8) ∧ ((!r0) = false → R (.int .i64 0) f8)))))))))))))) :
  HC Tryd.prog 6 #[(.slice l a3 d3), (.slice d5 a0 c7)] h R := by
 refine hc_of (args := [(.slice l a3 d3), (.slice d5 a0 c7)]) Tryd.func6 rfl Tryd.ntmps6 (Nat.le_of_ble_eq_true rfl) ?_
 refine xs (xr ?_)
 refine lv rfl rfl (va rfl) ?_
 refine ln (qn (xs (xs (xr ?_))))
 refine lv rfl rfl (vm rfl) ?_
 refine lp rfl rfl (sc TyTB.cb11 rfl (HC.mono H ?_))
 rintro _ h1 ⟨r, rfl, H⟩
 refine lv rfl rfl (va rfl) ?_
 refine ln (qn (xs (xr ?_)))
 refine lv rfl rfl (vm rfl) (lv rfl rfl (vr rfl rfl rfl) ?_)
 refine ln (qn ?_)
 refine xc (b := r != 0) rfl (fun f6 => ?_) (fun f6 => ?_)
 ·replace H := H.1 f6
  refine xs (xr ?_)
  refine lv rfl rfl (vm rfl) (lv rfl rfl (va rfl) ?_)
  refine ln (qn (xt (qr ?_)))
  exact endQ_ret _ (res_one Tryd.results6 (rv_tmp rfl)) H
 ·replace H := H.2 f6
  refine xi (qn (xs (xs (xr ?_))))
  refine lv rfl rfl (vm rfl) (lv rfl rfl (v := (.int .i64 (a0 : Int))) (hv_len (n := a0) TyTB.u23 rfl) (lv rfl rfl (vm rfl) (lv rfl rfl (v := (.int .i64 (a3 : Int))) (hv_len (n := a3) TyTB.u22 rfl) (lv rfl rfl (vr rfl rfl rfl) ?_))))
  refine ln (qn ?_)
  refine xc (b := (a0 : Int) != (a3 : Int)) rfl (fun f3 => ?_) (fun f3 => ?_)
  ·replace H := H.1 f3
   refine xs (xr ?_)
   refine lv rfl rfl (va rfl) ?_
   refine ln (qn (xt (qr ?_)))
   exact endQ_ret _ (res_one Tryd.results6 (rv_tmp rfl)) H
  ·replace H := H.2 f3
   refine xi (qn (xs (xr ?_)))
   refine lv rfl rfl (vm rfl) (lv rfl rfl (v := (.int .i64 (a3 : Int))) (hv_len (n := a3) TyTB.u22 rfl) ?_)
   obtain ⟨m5, m3, m4, H⟩ := H
   refine lp rfl rfl (hn_make (z := (.bool false)) (zs := [(.bool false)]) (n := (a3 : Int)) TyTB.u35 TyTB.sz4 TyTB.by4 TyTB.z4 rfl rfl m5 m3 m4 rfl rfl ?_)
   intro nb h2 m6 g2
   replace H := H nb h2 m6 g2
   have m8 := ext_pushed_f34_sh g2
   refine lv rfl rfl (va rfl) ?_
   refine ln (qn (xs (xr ?_)))
   refine lv rfl rfl (va rfl) ?_
   refine ln (qn (xs (xs (xr ?_))))
   refine lv rfl rfl (vm rfl) (lv rfl rfl (v := (.int .i64 (a0 : Int))) (hv_len (n := a0) TyTB.u23 rfl) (lv rfl rfl (vm rfl) ?_))
   refine ln (qn (xb ?_))
   obtain ⟨I9, e0, i1, l3⟩ := H
   refine xl (σ := Option Addr × Nat × Nat × Int) (fun s => [(0, (.slice l a3 d3)), (6, (.slice (some ⟨nb, 0, none⟩) (Int.toNat (a3 : Int)) (Int.toNat (a3 : Int)))), (7, (.slice s.1 s.2.1 s.2.2.1)), (27, (.slice d5 a0 c7)), (28, (.int .i64 (a0 : Int))), (29, (.int .i64 s.2.2.2))]) (fun s h' => I9 s.1 s.2.1 s.2.2.1 s.2.2.2 h' ∧ True) (fun s h' => e0 s.1 s.2.1 s.2.2.1 s.2.2.2 h') (none, 0, 0, 0) ⟨i1, trivial⟩ (hc rfl (hc rfl (hc rfl (hc rfl (hc rfl (hc rfl hn)))))) ?_
   rintro ⟨c0, a1, b0, v⟩ ρ h3 ⟨l8, -⟩
   have H := l3 c0 a1 b0 v h3 l8
   refine xs (xr ?_)
   refine lv rfl rfl (vr rfl rfl rfl) ?_
   refine ln (qn (xs ?_))
   refine xc (b := decide (v < (a0 : Int))) rfl (fun e4 => ?_) (fun e4 => ?_)
   ·replace H := H.1 e4
    refine xi (qn (xs (xb (xs (xr ?_)))))
    obtain ⟨d2, d1, d8, k7, g8, Hq⟩ := H
    subst d8
    have H := Hq; clear Hq
    refine lv rfl rfl (v := (ptr d2 (d1 + (Int.toNat v) * 1))) (vi TyTB.el23 rfl rfl k7 g8) ?_
    obtain ⟨x, j8, H⟩ := H
    refine lv rfl rfl (vl TyTB.agg3 rfl j8) (lv rfl rfl (va rfl) ?_)
    refine ln (qn (xs ?_))
    obtain ⟨j, e7, f0⟩ := H
    refine xk (fun ρ h' => h3 = h' ∧ Has ρ [(0, (.slice l a3 d3)), (6, (.slice (some ⟨nb, 0, none⟩) (Int.toNat (a3 : Int)) (Int.toNat (a3 : Int)))), (7, (.slice c0 a1 b0)), (9, (.int .i64 x)), (27, (.slice (some ⟨d2, d1, none⟩) a0 c7)), (28, (.int .i64 (a0 : Int))), (29, (.int .i64 v)), (46, (.bool j))]) ?_ ?_
    ·have H := e7; clear e7 f0
     refine xr ?_
     refine lv rfl rfl (vm rfl) (lv rfl rfl (vr rfl rfl rfl) (lv rfl rfl (vm rfl) ?_))
     rcases bool_or (decide (x < 0)) with c8 | c8
     ·replace H := H.1 c8
      refine lo (wanted_n rfl rfl rfl c8) rfl ?_
      refine lo (wanted_n rfl rfl rfl c8) rfl ?_
      refine lo (wanted_n rfl rfl rfl c8) rfl ?_
      refine lo (wanted_n rfl rfl rfl c8) rfl ?_
      refine lv rfl rfl (v := (.bool true)) (hv_pick_t rfl c8 rfl) (lv rfl rfl (vm rfl) ?_)
      refine lo (wanted_n rfl rfl (c := true) rfl rfl) rfl ?_
      refine lo (wanted_n rfl rfl (c := true) rfl rfl) rfl ?_
      refine lo (wanted_n rfl rfl (c := true) rfl rfl) rfl ?_
      refine lo (wanted_n rfl rfl (c := true) rfl rfl) rfl ?_
      refine lv rfl rfl (v := (.bool true)) (hv_pick (t := true) rfl rfl) ?_
      refine ln (qn ?_)
      obtain rfl := H
      exact ⟨rfl, (hc rfl (hc rfl (hc rfl (hc rfl (hc rfl (hc rfl (hc rfl (hc rfl hn))))))))⟩
     ·replace H := H.2 c8
      refine ly (wanted_y rfl rfl rfl c8) rfl (HStep.of_val (v := (.int .i64 x)) (vm rfl) ?_)
      refine ly (wanted_y rfl rfl rfl c8) rfl (HStep.of_val (v := (.slice l a3 d3)) (vm rfl) ?_)
      refine ly (wanted_y rfl rfl rfl c8) rfl (HStep.of_val (v := (.int .i64 (a3 : Int))) (hv_len (n := a3) TyTB.u22 rfl) ?_)
      refine ly (wanted_y rfl rfl rfl c8) rfl (HStep.of_val (v := (.bool (decide (x ≥ (a3 : Int))))) (vr rfl rfl rfl) ?_)
      refine lv rfl rfl (v := (.bool (decide (x ≥ (a3 : Int))))) (hv_pick_f rfl c8 rfl) (lv rfl rfl (vm rfl) ?_)
      rcases bool_or (decide (x ≥ (a3 : Int))) with c9 | c9
      ·replace H := H.1 c9
       refine lo (wanted_n rfl rfl rfl c9) rfl ?_
       refine lo (wanted_n rfl rfl rfl c9) rfl ?_
       refine lo (wanted_n rfl rfl rfl c9) rfl ?_
       refine lo (wanted_n rfl rfl rfl c9) rfl ?_
       refine lv rfl rfl (v := (.bool true)) (hv_pick_t rfl c9 rfl) ?_
       refine ln (qn ?_)
       obtain rfl := H
       exact ⟨rfl, (hc rfl (hc rfl (hc rfl (hc rfl (hc rfl (hc rfl (hc rfl (hc rfl hn))))))))⟩
      ·replace H := H.2 c9
       refine ly (wanted_y rfl rfl rfl c9) rfl (HStep.of_val (v := (.slice (some ⟨nb, 0, none⟩) (Int.toNat (a3 : Int)) (Int.toNat (a3 : Int)))) (vm rfl) ?_)
       refine ly (wanted_y rfl rfl rfl c9) rfl (HStep.of_val (v := (.int .i64 x)) (vm rfl) ?_)
       obtain ⟨k3, i7, H⟩ := H
       refine ly (wanted_y rfl rfl rfl c9) rfl (HStep.of_val (v := (ptr nb (0 + (Int.toNat x) * 1))) (vi TyTB.el35 rfl rfl k3 i7) ?_)
       obtain ⟨e2, g4, H⟩ := H
       refine ly (wanted_y rfl rfl rfl c9) rfl (HStep.of_val (v := (.bool e2)) (vl TyTB.agg4 rfl g4) ?_)
       refine lv rfl rfl (v := (.bool e2)) (hv_pick_f rfl c9 rfl) ?_
       refine ln (qn ?_)
       obtain rfl := H
       exact ⟨rfl, (hc rfl (hc rfl (hc rfl (hc rfl (hc rfl (hc rfl (hc rfl (hc rfl hn))))))))⟩
    ·have H := f0; clear e7 f0
     rintro ρ _ ⟨rfl, hH⟩
     refine xh _ hH ?_
     refine xc (b := j) rfl (fun f1 => ?_) (fun f1 => ?_)
     ·replace H := H.1 f1
      refine xs (xr ?_)
      refine lv rfl rfl (va rfl) ?_
      refine ln (qn (xt (qr (br (qr (qr (br (qr ?_))))))))
      exact endQ_ret _ (res_one Tryd.results6 (rv_tmp rfl)) H
     ·replace H := H.2 f1
      refine xi (qn (xs (xr ?_)))
      refine lv rfl rfl (vm rfl) (lv rfl rfl (vm rfl) ?_)
      obtain ⟨k5, j4, H⟩ := H
      refine lv rfl rfl (v := (ptr nb (0 + (Int.toNat x) * 1))) (vi TyTB.el35 rfl rfl k5 j4) ?_
      obtain ⟨i9, H⟩ := H
      refine lp rfl rfl (hn_store (v := (.bool true)) rfl rfl TyTB.sz4 rfl i9 ?_)
      intro h4 j2
      replace H := H h4 j2
      refine ln (qn (xs (xs (xr ?_))))
      refine lv rfl rfl (vm rfl) (lv rfl rfl (v := (.int .i64 (a1 : Int))) (hv_len (n := a1) TyTB.u22 rfl) (lv rfl rfl (vm rfl) ?_))
      refine ln (qn (xb ?_))
      obtain ⟨e3, d9, g7, j7⟩ := H
      refine xl (σ := Int) (fun s => [(0, (.slice l a3 d3)), (6, (.slice (some ⟨nb, 0, none⟩) (Int.toNat (a3 : Int)) (Int.toNat (a3 : Int)))), (7, (.slice c0 a1 b0)), (9, (.int .i64 x)), (27, (.slice (some ⟨d2, d1, none⟩) a0 c7)), (28, (.int .i64 (a0 : Int))), (29, (.int .i64 v)), (50, (.slice c0 a1 b0)), (51, (.int .i64 (a1 : Int))), (52, (.int .i64 s))]) (fun s h' => e3 s ∧ Ext h4 h' ∧ True) (fun s _ => d9 s) 0 ⟨g7, (Ext.refl _), trivial⟩ (hc rfl (hc rfl (hc rfl (hc rfl (hc rfl (hc rfl (hc rfl (hc rfl (hc rfl (hc rfl hn)))))))))) ?_
      rintro b9 ρ h5 ⟨i6, b8, -⟩
      have H := j7 b9 i6
      refine xs (xr ?_)
      refine lv rfl rfl (vr rfl rfl rfl) ?_
      refine ln (qn (xs ?_))
      refine xc (b := decide (b9 < (a1 : Int))) rfl (fun e5 => ?_) (fun e5 => ?_)
      ·replace H := H.1 e5
       refine xi (qn (xs (xb (xs (xr ?_)))))
       obtain ⟨b3, b4, d8, i5, g6, Hq⟩ := H
       subst d8
       have H := Hq; clear Hq
       refine lv rfl rfl (v := (ptr b3 (b4 + (Int.toNat b9) * 8))) (vi TyTB.el22 rfl rfl i5 g6) ?_
       obtain ⟨a4, a9, a2, a7, a8, a5, a6, b2, k6, i3, g3, j9, k0, l5, i4, m0, H⟩ := H
       refine lv rfl rfl (vL (vs := [(.int .i64 a4), (.string a9), (.string a2), (.int .i64 a7), (.bool a8), (.int .i64 a5), (.int .i64 a6), (.int .i64 b2)]) TyTB.agg30 TyTB.sz30 rfl (cc (Ext.cell b8 k6) (cc (Ext.cell b8 i3) (cc (Ext.cell b8 g3) (cc (Ext.cell b8 j9) (cc (Ext.cell b8 k0) (cc (Ext.cell b8 l5) (cc (Ext.cell b8 i4) (cc (Ext.cell b8 m0) cn))))))))) ?_
       refine lp rfl rfl (hn_alloc TyTB.z30 ?_)
       intro m h6 g1 f5
       have g9 := ext_pushed_f34_sh f5
       have l0 : Array.size h4 ≤ m := Nat.le_trans (Ext.size b8) (Nat.le_of_eq (Eq.symm g1))
       have g0 : h6[m]? = some (.cells #[(.int .i64 0), (.string ByteArray.empty), (.string ByteArray.empty), (.int .i64 0), (.bool false), (.int .i64 0), (.int .i64 0), (.int .i64 0)] 30 (0, 0)) := by rw [f5]; exact push_new g1
       have l6 := Ext.trans b8 g9
       refine lp rfl rfl (hn_stores (vs := [(.int .i64 a4), (.string a9), (.string a2), (.int .i64 a7), (.bool a8), (.int .i64 a5), (.int .i64 a6), (.int .i64 b2)]) rfl rfl TyTB.sz30 rfl (HWs_row g0 (by simp)) ?_)
       intro h7 f4
       have d0 : h7[m]? = some (.cells #[(.int .i64 a4), (.string a9), (.string a2), (.int .i64 a7), (.bool a8), (.int .i64 a5), (.int .i64 a6), (.int .i64 b2)] 30 (0, 0)) := row_hsets_eq f4 g0 (by simp [sets])
       have d4 := ext_hsets f4 l6 l0
       refine ln (qn (xs ?_))
       refine hx_draw TyTB.mixed [.pure, .pure, .pure, .read, .read, .ext] [0, 1, 2, 3, 4, 5] (by kernel_rfl) ?_
       refine pp (i := 0) rfl (wanted_0 rfl) rfl (.slice l a3 d3) (fun _ => vm rfl) ?_
       refine pp (i := 1) rfl (wanted_0 rfl) rfl (.int .i64 x) (fun _ => vm rfl) ?_
       obtain ⟨c1, c2, d8, k8, k4, Hq⟩ := H
       subst d8
       have H := Hq; clear Hq
       refine pp (i := 2) rfl (wanted_0 rfl) rfl (ptr c1 (c2 + (Int.toNat x) * 8)) (fun _ => vi TyTB.el22 rfl rfl k8 k4) ?_
       obtain ⟨b7, c4, b1, c3, c5, b5, b6, c6, l2, j5, j1, l7, j3, k1, i2, k9, H⟩ := H
       refine pr (i := 3) rfl (wanted_0 rfl) rfl (.agg #[(.int .i64 b7), (.string c4), (.string b1), (.int .i64 c3), (.bool c5), (.int .i64 b5), (.int .i64 b6), (.int .i64 c6)]) (fun _ he => vL (vs := [(.int .i64 b7), (.string c4), (.string b1), (.int .i64 c3), (.bool c5), (.int .i64 b5), (.int .i64 b6), (.int .i64 c6)]) TyTB.agg30 TyTB.sz30 rfl (cc (Ext.cell he (Ext.cell d4 l2)) (cc (Ext.cell he (Ext.cell d4 j5)) (cc (Ext.cell he (Ext.cell d4 j1)) (cc (Ext.cell he (Ext.cell d4 l7)) (cc (Ext.cell he (Ext.cell d4 j3)) (cc (Ext.cell he (Ext.cell d4 k1)) (cc (Ext.cell he (Ext.cell d4 i2)) (cc (Ext.cell he (Ext.cell d4 k9)) cn))))))))) ?_
       refine pr (i := 4) rfl (wanted_0 rfl) rfl (.agg #[(.int .i64 a4), (.string a9), (.string a2), (.int .i64 a7), (.bool a8), (.int .i64 a5), (.int .i64 a6), (.int .i64 b2)]) (fun _ he => vL (vs := [(.int .i64 a4), (.string a9), (.string a2), (.int .i64 a7), (.bool a8), (.int .i64 a5), (.int .i64 a6), (.int .i64 b2)]) TyTB.agg30 TyTB.sz30 rfl (cc (Ext.cell he (rc d0 rfl)) (cc (Ext.cell he (rc d0 rfl)) (cc (Ext.cell he (rc d0 rfl)) (cc (Ext.cell he (rc d0 rfl)) (cc (Ext.cell he (rc d0 rfl)) (cc (Ext.cell he (rc d0 rfl)) (cc (Ext.cell he (rc d0 rfl)) (cc (Ext.cell he (rc d0 rfl)) cn))))))))) ?_
       refine hp_ext (i := 5) rfl (wanted_0 rfl) rfl (sc TyTB.cb12 rfl (HC.mono (ahead_c (⟨b7, c4, b1, c3, c5, b5, b6, c6⟩) (⟨a4, a9, a2, a7, a8, a5, a6, b2⟩) _) ?_))
       rintro _ h8 ⟨rfl, e8⟩
       refine ⟨e8, ?_⟩
       replace d0 := Ext.row e8 d0
       have f9 := Ext.trans d4 e8
       refine hp_nil ?_
       refine qn ?_
       refine xc (b := Ml.ahB ⟨b7, c4, b1, c3, c5, b5, b6, c6⟩ ⟨a4, a9, a2, a7, a8, a5, a6, b2⟩) rfl (fun e9 => ?_) (fun e9 => ?_)
       ·replace H := H.1 e9
        refine xs (xr ?_)
        refine lv rfl rfl (va rfl) ?_
        refine ln (qn (xt (br (qr (qr (br (qr (br (qr (qr (br (qr ?_))))))))))))
        replace H := H h8 f9
        exact endQ_ret _ (res_one Tryd.results6 (rv_tmp rfl)) H
       ·replace H := H.2 e9
        refine xi (bn (qn (xr ?_)))
        refine lv rfl rfl (vr rfl rfl rfl) (lv rfl rfl (vm rfl) ?_)
        refine ln (qn ?_)
        exact ⟨IntKind.i64.wrap (b9 + 1), ⟨⟨H.1, f9, trivial⟩, H.2⟩, (hc rfl (hc rfl (hc rfl (hc rfl (hc rfl (hc rfl (hc rfl (hc rfl (hc rfl (hc rfl hn))))))))))⟩
      ·replace H := H.2 e5
       refine xe (qe (qe (bh (qn (xr ?_)))))
       refine lv rfl rfl (vm rfl) (lv rfl rfl (vm rfl) (lv rfl rfl (vm rfl) ?_))
       obtain ⟨c1, c2, d8, k2, l9, Hq⟩ := H
       subst d8
       have H := Hq; clear Hq
       refine lv rfl rfl (v := (ptr c1 (c2 + (Int.toNat x) * 8))) (vi TyTB.el22 rfl rfl k2 l9) ?_
       obtain ⟨a4, a9, a2, a7, a8, a5, a6, b2, g5, j0, i0, m2, i8, l1, m1, l4, H⟩ := H
       refine lv rfl rfl (vL (vs := [(.int .i64 a4), (.string a9), (.string a2), (.int .i64 a7), (.bool a8), (.int .i64 a5), (.int .i64 a6), (.int .i64 b2)]) TyTB.agg30 TyTB.sz30 rfl (cc (Ext.cell b8 g5) (cc (Ext.cell b8 j0) (cc (Ext.cell b8 i0) (cc (Ext.cell b8 m2) (cc (Ext.cell b8 i8) (cc (Ext.cell b8 l1) (cc (Ext.cell b8 m1) (cc (Ext.cell b8 l4) cn))))))))) ?_
       replace H := H h5 b8
       refine lp rfl rfl (hn_buildSlice (n := 1) (vs := [(0, (.agg #[(.int .i64 a4), (.string a9), (.string a2), (.int .i64 a7), (.bool a8), (.int .i64 a5), (.int .i64 a6), (.int .i64 b2)]))]) (cs := #[(.int .i64 a4), (.string a9), (.string a2), (.int .i64 a7), (.bool a8), (.int .i64 a5), (.int .i64 a6), (.int .i64 b2)]) TyTB.u22 TyTB.sz30 TyTB.z30 rfl rfl (by kernel_rfl) ?_)
       intro e1 h9 j6 f7
       replace H := H e1 h9 j6 f7
       have m7 := ext_pushed_f34_sh f7
       refine lp rfl rfl (hs_append rfl rfl (HAppend.mono H ?_))
       rintro _ f2 ⟨ap, d7, d6, rfl, H⟩
       refine lv rfl rfl (va rfl) ?_
       refine ln (bn (qn (xr ?_)))
       refine lv rfl rfl (vr rfl rfl rfl) (lv rfl rfl (vm rfl) ?_)
       refine ln (qn ?_)
       exact ⟨(ap, d7, d6, IntKind.i64.wrap (v + 1)), ⟨⟨H.1, trivial⟩, H.2⟩, (hc rfl (hc rfl (hc rfl (hc rfl (hc rfl (hc rfl hn))))))⟩
   ·replace H := H.2 e4
    refine xe (qe (qe (bh (qn (xs (xs (xr ?_)))))))
    refine lv rfl rfl (vm rfl) ?_
    refine lp rfl rfl (sc TyTB.cb13 rfl (HC.mono H ?_))
    rintro _ f8 ⟨r0, r1, rfl, H⟩
    refine lv rfl rfl (vm rfl) (lv rfl rfl (vx rfl rfl) (lv rfl rfl (vx rfl rfl) (lv rfl rfl (va rfl) (lv rfl rfl (va rfl) ?_))))
    refine ln (qn (xs (xr ?_)))
    refine lv rfl rfl (vm rfl) (lv rfl rfl (v := (.bool (!r0))) (hv_not (b := r0) rfl) ?_)
    refine ln (qn ?_)
    refine xc (b := !r0) rfl (fun e6 => ?_) (fun e6 => ?_)
    ·replace H := H.1 e6
     refine xs (xr ?_)
     refine lv rfl rfl (va rfl) ?_
     refine ln (qn (xt (qr ?_)))
     exact endQ_ret _ (res_one Tryd.results6 (rv_tmp rfl)) H
    ·replace H := H.2 e6
     refine xi (qn (xs (xr ?_)))
     refine lv rfl rfl (va rfl) ?_
     refine ln (qn (xt ?_))
     exact endQ_ret _ (res_one Tryd.results6 (rv_tmp rfl)) H
theorem f7_sh (l : Option Addr) (a1 : Nat) (d0 : Nat) (d1 : Option Addr) (a0 : Nat) (c3 : Nat) (h : Heap) (R : Value → Heap → Prop)
  (H : HC Tryd.prog 9 #[(.slice l a1 d0)] h (fun vv h1 => ∃ r : Int, vv = (.int .i64 r) ∧ (((r != 0) = true → R (.int .i64 r) h1) ∧ ((r != 0) = false → ((((a0 : Int) != (a1 : Int)) = true → R (.int .i64 84) h1) ∧ (((a0 : Int) != (a1 : Int)) = false → ((0 : Int) ≤ (a1 : Int) ∧ 1 * (a1 : Int) ≤ 140737488355328 ∧ (a1 : Int) ≤ 140737488355328 ∧ ∀ nb h2, nb = Array.size h1 → h2 = Array.push h1 (.cells (zcells [(.bool false)] (Int.toNat (a1 : Int))).toArray 4) → (∃ (I9 : Option Addr → Nat → Nat → Int → Heap → Prop) (d5 : Option Addr → Nat → Nat → Int → Heap → Nat), I9 none 0 0 0 h2 ∧ (∀ (c8 : Option Addr) (b8 : Nat) (b7 : Nat) (i : Int) (h3 : Heap), I9 c8 b8 b7 i h3 → (((decide (i < (a0 : Int))) = true → (∃ c2 c1 : Nat, d1 = some ⟨c2, c1, none⟩ ∧ (0 : Int) ≤ i ∧ i < (a0 : Int) ∧ (∃ x : Int, hcell h3 c2 (c1 + (Int.toNat i) * 1) = some (.int .i64 x) ∧ (∃ j : Bool, (((decide (x < 0)) = true → (j = true)) ∧ ((decide (x < 0)) = false → (((decide (x ≥ (a1 : Int))) = true → (j = true)) ∧ ((decide (x ≥ (a1 : Int))) = false → ((0 : Int) ≤ x ∧ x < (((Int.toNat (a1 : Int)) : Nat) : Int) ∧ (∃ d7 : Bool, hcell h3 nb (0 + (Int.toNat x) * 1) = some (.bool d7) ∧ (j = d7))))))) ∧ ((j = true → R (.int .i64 84) h3) ∧ (j = false → ((0 : Int) ≤ x ∧ x < (((Int.toNat (a1 : Int)) : Nat) : Int) ∧ (HW h3 nb (0 + (Int.toNat x) * 1) ∧ ∀ h4, h4 = hset h3 nb (0 + (Int.toNat x) * 1) (.bool true) → (∃ (d9 : Int → Prop) (d4 : Int → Nat), d9 0 ∧ (∀ (k : Int), d9 k → (((decide (k < i)) = true → (∃ a7 a8 : Nat, l = some ⟨a7, a8, none⟩ ∧ (0 : Int) ≤ x ∧ x < (a1 : Int) ∧ (∃ a4 : Int, ∃ b2 a2 : ByteArray, ∃ a9 : Int, ∃ b1 : Bool, ∃ a5 a6 b6 : Int, hcell h4 a7 (a8 + (Int.toNat x) * 8) = some (.int .i64 a4) ∧ hcell h4 a7 ((a8 + (Int.toNat x) * 8) + 1) = some (.string b2) ∧ hcell h4 a7 ((a8 + (Int.toNat x) * 8) + 2) = some (.string a2) ∧ hcell h4 a7 ((a8 + (Int.toNat x) * 8) + 3) = some (.int .i64 a9) ∧ hcell h4 a7 ((a8 + (Int.toNat x) * 8) + 4) = some (.bool b1) ∧ hcell h4 a7 ((a8 + (Int.toNat x) * 8) + 5) = some (.int .i64 a5) ∧ hcell h4 a7 ((a8 + (Int.toNat x) * 8) + 6) = some (.int .i64 a6) ∧ hcell h4 a7 ((a8 + (Int.toNat x) * 8) + 7) = some (.int .i64 b6) ∧ ((0 : Int) ≤ k ∧ k < (a0 : Int) ∧ (∃ c9 : Int, hcell h4 c2 (c1 + (Int.toNat k) * 1) = some (.int .i64 c9) ∧ ((0 : Int) ≤ c9 ∧ c9 < (a1 : Int) ∧ (∃ b5 : Int, ∃ c0 b0 : ByteArray, ∃ b9 : Int, ∃ c4 : Bool, ∃ b3 b4 c5 : Int, hcell h4 a7 (a8 + (Int.toNat c9) * 8) = some (.int .i64 b5) ∧ hcell h4 a7 ((a8 + (Int.toNat c9) * 8) + 1) = some (.string c0) ∧ hcell h4 a7 ((a8 + (Int.toNat c9) * 8) + 2) = some (.string b0) ∧ hcell h4 a7 ((a8 + (Int.toNat c9) * 8) + 3) = some (.int .i64 b9) ∧ hcell h4 a7 ((a8 + (Int.toNat c9) * 8) + 4) = some (.bool c4) ∧ hcell h4 a7 ((a8 + (Int.toNat c9) * 8) + 5) = some (.int .i64 b3) ∧ hcell h4 a7 ((a8 + (Int.toNat c9) * 8) + 6) = some (.int .i64 b4) ∧ hcell h4 a7 ((a8 + (Int.toNat c9) * 8) + 7) = some (.int .i64 c5) ∧ (((Ml.ahB ⟨a4, b2, a2, a9, b1, a5, a6, b6⟩ ⟨b5, c0, b0, b9, c4, b3, b4, c5⟩) = true → (∀ (h6 : Heap), Ext h4 h6 → R (.int .i64 84) h6)) ∧ ((Ml.ahB ⟨a4, b2, a2, a9, b1, a5, a6, b6⟩ ⟨b5, c0, b0, b9, c4, b3, b4, c5⟩) = false → (d9 (IntKind.i64.wrap (k + 1)) ∧ d4 (IntKind.i64.wrap (k + 1)) < d4 k)))))))))) ∧ ((decide (k < i)) = false → (∃ a7 a8 : Nat, l = some ⟨a7, a8, none⟩ ∧ (0 : Int) ≤ x ∧ x < (a1 : Int) ∧ (∃ a4 : Int, ∃ b2 a2 : ByteArray, ∃ a9 : Int, ∃ b1 : Bool, ∃ a5 a6 b6 : Int, hcell h4 a7 (a8 + (Int.toNat x) * 8) = some (.int .i64 a4) ∧ hcell h4 a7 ((a8 + (Int.toNat x) * 8) + 1) = some (.string b2) ∧ hcell h4 a7 ((a8 + (Int.toNat x) * 8) + 2) = some (.string a2) ∧ hcell h4 a7 ((a8 + (Int.toNat x) * 8) + 3) = some (.int .i64 a9) ∧ hcell h4 a7 ((a8 + (Int.toNat x) * 8) + 4) = some (.bool b1) ∧ hcell h4 a7 ((a8 + (Int.toNat x) * 8) + 5) = some (.int .i64 a5) ∧ hcell h4 a7 ((a8 + (Int.toNat x) * 8) + 6) = some (.int .i64 a6) ∧ hcell h4 a7 ((a8 + (Int.toNat x) * 8) + 7) = some (.int .i64 b6) ∧ (∀ (h5 : Heap), Ext h4 h5 → (∀ d6 h7, d6 = Array.size h5 → h7 = Array.push h5 (.cells #[(.int .i64 a4), (.string b2), (.string a2), (.int .i64 a9), (.bool b1), (.int .i64 a5), (.int .i64 a6), (.int .i64 b6)] 30) → HAppend Tryd.prog 22 22 (.slice c8 b8 b7) (.slice (some ⟨d6, 0, none⟩) 1 1) h7 (fun vv h8 => ∃ ap : Option Addr, ∃ d3 d2 : Nat, vv = (.slice ap d3 d2) ∧ (I9 ap d3 d2 (IntKind.i64.wrap (i + 1)) h8 ∧ d5 ap d3 d2 (IntKind.i64.wrap (i + 1)) h8 < d5 c8 b8 b7 i h3)))))))))))))))))) ∧ ((decide (i < (a0 : Int))) = false → HC Tryd.prog 15 #[(.slice c8 b8 b7)] h3 (fun vv h9 => ∃ r0 : Bool, ∃ r1 : Int, vv = (.tuple #[(.bool r0), (.int .i64 r1)]) ∧ (((!r0) = true → R (.int .i64 251) h9) ∧ ((!r0) = false → R (.int .i64 0) h9)))))))))))))) :
  HC Tryd.prog 7 #[(.slice l a1 d0), (.slice d1 a0 c3)] h R := by
 refine hc_of (args := [(.slice l a1 d0), (.slice d1 a0 c3)]) Tryd.func7 rfl Tryd.ntmps7 (Nat.le_of_ble_eq_true rfl) ?_
 refine xs (xr ?_)
 refine lv rfl rfl (va rfl) ?_
 refine ln (qn (xs (xs (xr ?_))))
 refine lv rfl rfl (vm rfl) ?_
 refine lp rfl rfl (sc TyTB.cb9 rfl (HC.mono H ?_))
 rintro _ h1 ⟨r, rfl, H⟩
 refine lv rfl rfl (va rfl) ?_
 refine ln (qn (xs (xr ?_)))
 refine lv rfl rfl (vm rfl) (lv rfl rfl (vr rfl rfl rfl) ?_)
 refine ln (qn ?_)
 refine xc (b := r != 0) rfl (fun e8 => ?_) (fun e8 => ?_)
 ·replace H := H.1 e8
  refine xs (xr ?_)
  refine lv rfl rfl (vm rfl) (lv rfl rfl (va rfl) ?_)
  refine ln (qn (xt (qr ?_)))
  exact endQ_ret _ (res_one Tryd.results7 (rv_tmp rfl)) H
 ·replace H := H.2 e8
  refine xi (qn (xs (xs (xr ?_))))
  refine lv rfl rfl (vm rfl) (lv rfl rfl (v := (.int .i64 (a0 : Int))) (hv_len (n := a0) TyTB.u23 rfl) (lv rfl rfl (vm rfl) (lv rfl rfl (v := (.int .i64 (a1 : Int))) (hv_len (n := a1) TyTB.u22 rfl) (lv rfl rfl (vr rfl rfl rfl) ?_))))
  refine ln (qn ?_)
  refine xc (b := (a0 : Int) != (a1 : Int)) rfl (fun e7 => ?_) (fun e7 => ?_)
  ·replace H := H.1 e7
   refine xs (xr ?_)
   refine lv rfl rfl (va rfl) ?_
   refine ln (qn (xt (qr ?_)))
   exact endQ_ret _ (res_one Tryd.results7 (rv_tmp rfl)) H
  ·replace H := H.2 e7
   refine xi (qn (xs (xr ?_)))
   refine lv rfl rfl (vm rfl) (lv rfl rfl (v := (.int .i64 (a1 : Int))) (hv_len (n := a1) TyTB.u22 rfl) ?_)
   obtain ⟨l5, l3, l4, H⟩ := H
   refine lp rfl rfl (hn_make (z := (.bool false)) (zs := [(.bool false)]) (n := (a1 : Int)) TyTB.u35 TyTB.sz4 TyTB.by4 TyTB.z4 rfl rfl l5 l3 l4 rfl rfl ?_)
   intro nb h2 l6 f2
   replace H := H nb h2 l6 f2
   have l8 := ext_pushed_f34_sh f2
   refine lv rfl rfl (va rfl) ?_
   refine ln (qn (xs (xr ?_)))
   refine lv rfl rfl (va rfl) ?_
   refine ln (qn (xs (xs (xr ?_))))
   refine lv rfl rfl (va rfl) ?_
   refine ln (qn (xb ?_))
   obtain ⟨I9, d5, g6, k9⟩ := H
   refine xl (σ := Option Addr × Nat × Nat × Int) (fun s => [(0, (.slice l a1 d0)), (1, (.slice d1 a0 c3)), (6, (.slice (some ⟨nb, 0, none⟩) (Int.toNat (a1 : Int)) (Int.toNat (a1 : Int)))), (7, (.slice s.1 s.2.1 s.2.2.1)), (8, (.int .i64 s.2.2.2))]) (fun s h' => I9 s.1 s.2.1 s.2.2.1 s.2.2.2 h' ∧ True) (fun s h' => d5 s.1 s.2.1 s.2.2.1 s.2.2.2 h') (none, 0, 0, 0) ⟨g6, trivial⟩ (hc rfl (hc rfl (hc rfl (hc rfl (hc rfl hn))))) ?_
   rintro ⟨c8, b8, b7, i⟩ ρ h3 ⟨l1, -⟩
   have H := k9 c8 b8 b7 i h3 l1
   refine xs (xs (xr ?_))
   refine lv rfl rfl (vm rfl) (lv rfl rfl (vm rfl) (lv rfl rfl (v := (.int .i64 (a0 : Int))) (hv_len (n := a0) TyTB.u23 rfl) (lv rfl rfl (vr rfl rfl rfl) ?_)))
   refine ln (qn ?_)
   refine xc (b := decide (i < (a0 : Int))) rfl (fun e0 => ?_) (fun e0 => ?_)
   ·replace H := H.1 e0
    refine xi (qn (xs (xb (xs (xr ?_)))))
    refine lv rfl rfl (vm rfl) (lv rfl rfl (vm rfl) ?_)
    obtain ⟨c2, c1, d8, k6, g3, Hq⟩ := H
    subst d8
    have H := Hq; clear Hq
    refine lv rfl rfl (v := (ptr c2 (c1 + (Int.toNat i) * 1))) (vi TyTB.el23 rfl rfl k6 g3) ?_
    obtain ⟨x, j3, H⟩ := H
    refine lv rfl rfl (vl TyTB.agg3 rfl j3) (lv rfl rfl (va rfl) ?_)
    refine ln (qn (xs ?_))
    obtain ⟨j, e4, e5⟩ := H
    refine xk (fun ρ h' => h3 = h' ∧ Has ρ [(0, (.slice l a1 d0)), (1, (.slice (some ⟨c2, c1, none⟩) a0 c3)), (6, (.slice (some ⟨nb, 0, none⟩) (Int.toNat (a1 : Int)) (Int.toNat (a1 : Int)))), (7, (.slice c8 b8 b7)), (8, (.int .i64 i)), (9, (.int .i64 x)), (49, (.bool j))]) ?_ ?_
    ·have H := e4; clear e4 e5
     refine xr ?_
     refine lv rfl rfl (vm rfl) (lv rfl rfl (vr rfl rfl rfl) (lv rfl rfl (vm rfl) ?_))
     rcases bool_or (decide (x < 0)) with c6 | c6
     ·replace H := H.1 c6
      refine lo (wanted_n rfl rfl rfl c6) rfl ?_
      refine lo (wanted_n rfl rfl rfl c6) rfl ?_
      refine lo (wanted_n rfl rfl rfl c6) rfl ?_
      refine lo (wanted_n rfl rfl rfl c6) rfl ?_
      refine lv rfl rfl (v := (.bool true)) (hv_pick_t rfl c6 rfl) (lv rfl rfl (vm rfl) ?_)
      refine lo (wanted_n rfl rfl (c := true) rfl rfl) rfl ?_
      refine lo (wanted_n rfl rfl (c := true) rfl rfl) rfl ?_
      refine lo (wanted_n rfl rfl (c := true) rfl rfl) rfl ?_
      refine lo (wanted_n rfl rfl (c := true) rfl rfl) rfl ?_
      refine lv rfl rfl (v := (.bool true)) (hv_pick (t := true) rfl rfl) ?_
      refine ln (qn ?_)
      obtain rfl := H
      exact ⟨rfl, (hc rfl (hc rfl (hc rfl (hc rfl (hc rfl (hc rfl (hc rfl hn)))))))⟩
     ·replace H := H.2 c6
      refine ly (wanted_y rfl rfl rfl c6) rfl (HStep.of_val (v := (.int .i64 x)) (vm rfl) ?_)
      refine ly (wanted_y rfl rfl rfl c6) rfl (HStep.of_val (v := (.slice l a1 d0)) (vm rfl) ?_)
      refine ly (wanted_y rfl rfl rfl c6) rfl (HStep.of_val (v := (.int .i64 (a1 : Int))) (hv_len (n := a1) TyTB.u22 rfl) ?_)
      refine ly (wanted_y rfl rfl rfl c6) rfl (HStep.of_val (v := (.bool (decide (x ≥ (a1 : Int))))) (vr rfl rfl rfl) ?_)
      refine lv rfl rfl (v := (.bool (decide (x ≥ (a1 : Int))))) (hv_pick_f rfl c6 rfl) (lv rfl rfl (vm rfl) ?_)
      rcases bool_or (decide (x ≥ (a1 : Int))) with c7 | c7
      ·replace H := H.1 c7
       refine lo (wanted_n rfl rfl rfl c7) rfl ?_
       refine lo (wanted_n rfl rfl rfl c7) rfl ?_
       refine lo (wanted_n rfl rfl rfl c7) rfl ?_
       refine lo (wanted_n rfl rfl rfl c7) rfl ?_
       refine lv rfl rfl (v := (.bool true)) (hv_pick_t rfl c7 rfl) ?_
       refine ln (qn ?_)
       obtain rfl := H
       exact ⟨rfl, (hc rfl (hc rfl (hc rfl (hc rfl (hc rfl (hc rfl (hc rfl hn)))))))⟩
      ·replace H := H.2 c7
       refine ly (wanted_y rfl rfl rfl c7) rfl (HStep.of_val (v := (.slice (some ⟨nb, 0, none⟩) (Int.toNat (a1 : Int)) (Int.toNat (a1 : Int)))) (vm rfl) ?_)
       refine ly (wanted_y rfl rfl rfl c7) rfl (HStep.of_val (v := (.int .i64 x)) (vm rfl) ?_)
       obtain ⟨k2, i3, H⟩ := H
       refine ly (wanted_y rfl rfl rfl c7) rfl (HStep.of_val (v := (ptr nb (0 + (Int.toNat x) * 1))) (vi TyTB.el35 rfl rfl k2 i3) ?_)
       obtain ⟨d7, f6, H⟩ := H
       refine ly (wanted_y rfl rfl rfl c7) rfl (HStep.of_val (v := (.bool d7)) (vl TyTB.agg4 rfl f6) ?_)
       refine lv rfl rfl (v := (.bool d7)) (hv_pick_f rfl c7 rfl) ?_
       refine ln (qn ?_)
       obtain rfl := H
       exact ⟨rfl, (hc rfl (hc rfl (hc rfl (hc rfl (hc rfl (hc rfl (hc rfl hn)))))))⟩
    ·have H := e5; clear e4 e5
     rintro ρ _ ⟨rfl, hH⟩
     refine xh _ hH ?_
     refine xc (b := j) rfl (fun e6 => ?_) (fun e6 => ?_)
     ·replace H := H.1 e6
      refine xs (xr ?_)
      refine lv rfl rfl (va rfl) ?_
      refine ln (qn (xt (qr (br (qr (qr (br (qr ?_))))))))
      exact endQ_ret _ (res_one Tryd.results7 (rv_tmp rfl)) H
     ·replace H := H.2 e6
      refine xi (qn (xs (xr ?_)))
      refine lv rfl rfl (vm rfl) (lv rfl rfl (vm rfl) ?_)
      obtain ⟨k3, j0, H⟩ := H
      refine lv rfl rfl (v := (ptr nb (0 + (Int.toNat x) * 1))) (vi TyTB.el35 rfl rfl k3 j0) ?_
      obtain ⟨i5, H⟩ := H
      refine lp rfl rfl (hn_store (v := (.bool true)) rfl rfl TyTB.sz4 rfl i5 ?_)
      intro h4 i9
      replace H := H h4 i9
      refine ln (qn (xs (xs (xr ?_))))
      refine lv rfl rfl (va rfl) ?_
      refine ln (qn (xb ?_))
      obtain ⟨d9, d4, g1, j2⟩ := H
      refine xl (σ := Int) (fun s => [(0, (.slice l a1 d0)), (1, (.slice (some ⟨c2, c1, none⟩) a0 c3)), (6, (.slice (some ⟨nb, 0, none⟩) (Int.toNat (a1 : Int)) (Int.toNat (a1 : Int)))), (7, (.slice c8 b8 b7)), (8, (.int .i64 i)), (9, (.int .i64 x)), (10, (.int .i64 s))]) (fun s h' => d9 s ∧ Ext h4 h' ∧ True) (fun s _ => d4 s) 0 ⟨g1, (Ext.refl _), trivial⟩ (hc rfl (hc rfl (hc rfl (hc rfl (hc rfl (hc rfl (hc rfl hn))))))) ?_
      rintro k ρ h5 ⟨i2, a3, -⟩
      have H := j2 k i2
      refine xs (xs (xr ?_))
      refine lv rfl rfl (vm rfl) (lv rfl rfl (vm rfl) (lv rfl rfl (vr rfl rfl rfl) ?_))
      refine ln (qn ?_)
      refine xc (b := decide (k < i)) rfl (fun e1 => ?_) (fun e1 => ?_)
      ·replace H := H.1 e1
       refine xi (qn (xs (xb (xs ?_))))
       refine hx_draw TyTB.mixed [.pure, .pure, .pure, .read, .pure, .pure, .pure, .pure, .read, .pure, .read, .ext] [0, 1, 2, 3, 4, 5, 6, 7, 8, 9, 10, 11] (by kernel_rfl) ?_
       refine pp (i := 0) rfl (wanted_0 rfl) rfl (.slice l a1 d0) (fun _ => vm rfl) ?_
       refine pp (i := 1) rfl (wanted_0 rfl) rfl (.int .i64 x) (fun _ => vm rfl) ?_
       obtain ⟨a7, a8, d8, i0, f9, Hq⟩ := H
       subst d8
       have H := Hq; clear Hq
       refine pp (i := 2) rfl (wanted_0 rfl) rfl (ptr a7 (a8 + (Int.toNat x) * 8)) (fun _ => vi TyTB.el22 rfl rfl i0 f9) ?_
       obtain ⟨a4, b2, a2, a9, b1, a5, a6, b6, k4, g7, f4, j4, j7, l0, g8, l2, H⟩ := H
       refine pr (i := 3) rfl (wanted_0 rfl) rfl (.agg #[(.int .i64 a4), (.string b2), (.string a2), (.int .i64 a9), (.bool b1), (.int .i64 a5), (.int .i64 a6), (.int .i64 b6)]) (fun _ he => vL (vs := [(.int .i64 a4), (.string b2), (.string a2), (.int .i64 a9), (.bool b1), (.int .i64 a5), (.int .i64 a6), (.int .i64 b6)]) TyTB.agg30 TyTB.sz30 rfl (cc (Ext.cell he (Ext.cell a3 k4)) (cc (Ext.cell he (Ext.cell a3 g7)) (cc (Ext.cell he (Ext.cell a3 f4)) (cc (Ext.cell he (Ext.cell a3 j4)) (cc (Ext.cell he (Ext.cell a3 j7)) (cc (Ext.cell he (Ext.cell a3 l0)) (cc (Ext.cell he (Ext.cell a3 g8)) (cc (Ext.cell he (Ext.cell a3 l2)) cn))))))))) ?_
       refine pp (i := 4) rfl (wanted_0 rfl) rfl (.slice (some ⟨a7, a8, none⟩) a1 d0) (fun _ => vm rfl) ?_
       refine pp (i := 5) rfl (wanted_0 rfl) rfl (.slice (some ⟨c2, c1, none⟩) a0 c3) (fun _ => vm rfl) ?_
       refine pp (i := 6) rfl (wanted_0 rfl) rfl (.int .i64 k) (fun _ => vm rfl) ?_
       obtain ⟨g2, k0, H⟩ := H
       refine pp (i := 7) rfl (wanted_0 rfl) rfl (ptr c2 (c1 + (Int.toNat k) * 1)) (fun _ => vi TyTB.el23 rfl rfl g2 k0) ?_
       obtain ⟨c9, j8, H⟩ := H
       refine pr (i := 8) rfl (wanted_0 rfl) rfl (.int .i64 c9) (fun _ he => vl TyTB.agg3 rfl (Ext.cell he (Ext.cell a3 j8))) ?_
       obtain ⟨i7, k1, H⟩ := H
       refine pp (i := 9) rfl (wanted_0 rfl) rfl (ptr a7 (a8 + (Int.toNat c9) * 8)) (fun _ => vi TyTB.el22 rfl rfl i7 k1) ?_
       obtain ⟨b5, c0, b0, b9, c4, b3, b4, c5, f8, j9, g4, j5, k7, k8, j1, i8, H⟩ := H
       refine pr (i := 10) rfl (wanted_0 rfl) rfl (.agg #[(.int .i64 b5), (.string c0), (.string b0), (.int .i64 b9), (.bool c4), (.int .i64 b3), (.int .i64 b4), (.int .i64 c5)]) (fun _ he => vL (vs := [(.int .i64 b5), (.string c0), (.string b0), (.int .i64 b9), (.bool c4), (.int .i64 b3), (.int .i64 b4), (.int .i64 c5)]) TyTB.agg30 TyTB.sz30 rfl (cc (Ext.cell he (Ext.cell a3 f8)) (cc (Ext.cell he (Ext.cell a3 j9)) (cc (Ext.cell he (Ext.cell a3 g4)) (cc (Ext.cell he (Ext.cell a3 j5)) (cc (Ext.cell he (Ext.cell a3 k7)) (cc (Ext.cell he (Ext.cell a3 k8)) (cc (Ext.cell he (Ext.cell a3 j1)) (cc (Ext.cell he (Ext.cell a3 i8)) cn))))))))) ?_
       refine hp_ext (i := 11) rfl (wanted_0 rfl) rfl (sc TyTB.cb14 rfl (HC.mono (rahead_c (⟨a4, b2, a2, a9, b1, a5, a6, b6⟩) (⟨b5, c0, b0, b9, c4, b3, b4, c5⟩) _) ?_))
       rintro _ h6 ⟨rfl, f0⟩
       refine ⟨f0, ?_⟩
       have f1 := Ext.trans a3 f0
       refine hp_nil ?_
       refine qn ?_
       refine xc (b := Ml.ahB ⟨a4, b2, a2, a9, b1, a5, a6, b6⟩ ⟨b5, c0, b0, b9, c4, b3, b4, c5⟩) rfl (fun e2 => ?_) (fun e2 => ?_)
       ·replace H := H.1 e2
        refine xs (xr ?_)
        refine lv rfl rfl (va rfl) ?_
        refine ln (qn (xt (br (qr (qr (br (qr (br (qr (qr (br (qr ?_))))))))))))
        replace H := H h6 f1
        exact endQ_ret _ (res_one Tryd.results7 (rv_tmp rfl)) H
       ·replace H := H.2 e2
        refine xi (bn (qn (xr ?_)))
        refine lv rfl rfl (vm rfl) (lv rfl rfl (vr rfl rfl rfl) (lv rfl rfl (va rfl) ?_))
        refine ln (qn ?_)
        exact ⟨IntKind.i64.wrap (k + 1), ⟨⟨H.1, f1, trivial⟩, H.2⟩, (hc rfl (hc rfl (hc rfl (hc rfl (hc rfl (hc rfl (hc rfl hn)))))))⟩
      ·replace H := H.2 e1
       refine xe (qe (qe (bh (qn (xr ?_)))))
       refine lv rfl rfl (vm rfl) (lv rfl rfl (vm rfl) (lv rfl rfl (vm rfl) ?_))
       obtain ⟨a7, a8, d8, j6, g0, Hq⟩ := H
       subst d8
       have H := Hq; clear Hq
       refine lv rfl rfl (v := (ptr a7 (a8 + (Int.toNat x) * 8))) (vi TyTB.el22 rfl rfl j6 g0) ?_
       obtain ⟨a4, b2, a2, a9, b1, a5, a6, b6, f3, k5, i4, g9, f5, f7, i6, g5, H⟩ := H
       refine lv rfl rfl (vL (vs := [(.int .i64 a4), (.string b2), (.string a2), (.int .i64 a9), (.bool b1), (.int .i64 a5), (.int .i64 a6), (.int .i64 b6)]) TyTB.agg30 TyTB.sz30 rfl (cc (Ext.cell a3 f3) (cc (Ext.cell a3 k5) (cc (Ext.cell a3 i4) (cc (Ext.cell a3 g9) (cc (Ext.cell a3 f5) (cc (Ext.cell a3 f7) (cc (Ext.cell a3 i6) (cc (Ext.cell a3 g5) cn))))))))) ?_
       replace H := H h5 a3
       refine lp rfl rfl (hn_buildSlice (n := 1) (vs := [(0, (.agg #[(.int .i64 a4), (.string b2), (.string a2), (.int .i64 a9), (.bool b1), (.int .i64 a5), (.int .i64 a6), (.int .i64 b6)]))]) (cs := #[(.int .i64 a4), (.string b2), (.string a2), (.int .i64 a9), (.bool b1), (.int .i64 a5), (.int .i64 a6), (.int .i64 b6)]) TyTB.u22 TyTB.sz30 TyTB.z30 rfl rfl (by kernel_rfl) ?_)
       intro d6 h7 i1 e9
       replace H := H d6 h7 i1 e9
       have l7 := ext_pushed_f34_sh e9
       refine lp rfl rfl (hs_append rfl rfl (HAppend.mono H ?_))
       rintro _ h8 ⟨ap, d3, d2, rfl, H⟩
       refine lv rfl rfl (va rfl) ?_
       refine ln (bn (qn (xr ?_)))
       refine lv rfl rfl (vm rfl) (lv rfl rfl (vr rfl rfl rfl) (lv rfl rfl (va rfl) ?_))
       refine ln (qn ?_)
       exact ⟨(ap, d3, d2, IntKind.i64.wrap (i + 1)), ⟨⟨H.1, trivial⟩, H.2⟩, (hc rfl (hc rfl (hc rfl (hc rfl (hc rfl hn)))))⟩
   ·replace H := H.2 e0
    refine xe (qe (qe (bh (qn (xs (xs (xr ?_)))))))
    refine lv rfl rfl (vm rfl) ?_
    refine lp rfl rfl (sc TyTB.cb15 rfl (HC.mono H ?_))
    rintro _ h9 ⟨r0, r1, rfl, H⟩
    refine lv rfl rfl (vm rfl) (lv rfl rfl (vx rfl rfl) (lv rfl rfl (vx rfl rfl) (lv rfl rfl (va rfl) (lv rfl rfl (va rfl) ?_))))
    refine ln (qn (xs (xr ?_)))
    refine lv rfl rfl (vm rfl) (lv rfl rfl (v := (.bool (!r0))) (hv_not (b := r0) rfl) ?_)
    refine ln (qn ?_)
    refine xc (b := !r0) rfl (fun e3 => ?_) (fun e3 => ?_)
    ·replace H := H.1 e3
     refine xs (xr ?_)
     refine lv rfl rfl (va rfl) ?_
     refine ln (qn (xt (qr ?_)))
     exact endQ_ret _ (res_one Tryd.results7 (rv_tmp rfl)) H
    ·replace H := H.2 e3
     refine xi (qn (xs (xr ?_)))
     refine lv rfl rfl (va rfl) ?_
     refine ln (qn (xt ?_))
     exact endQ_ret _ (res_one Tryd.results7 (rv_tmp rfl)) H
theorem f27_sh (k : Int) (b7 : Nat) (b5 : Nat) (b4 : Nat) (b8 : Nat) (h : Heap) (R : Value → Heap → Prop)
  (H : (∃ j : Bool, (∃ x : Option Addr, ∃ b6 b9 : Nat, hcell h b7 b5 = some (.slice x b6 b9) ∧ (∃ a8 a9 : Nat, x = some ⟨a8, a9, none⟩ ∧ (0 : Int) ≤ k ∧ k < (b6 : Int) ∧ (∃ a3 : Int, ∃ a2 a1 : ByteArray, ∃ a7 : Int, ∃ a6 : Bool, ∃ a4 a5 b0 : Int, hcell h a8 (a9 + (Int.toNat k) * 8) = some (.int .i64 a3) ∧ hcell h a8 ((a9 + (Int.toNat k) * 8) + 1) = some (.string a2) ∧ hcell h a8 ((a9 + (Int.toNat k) * 8) + 2) = some (.string a1) ∧ hcell h a8 ((a9 + (Int.toNat k) * 8) + 3) = some (.int .i64 a7) ∧ hcell h a8 ((a9 + (Int.toNat k) * 8) + 4) = some (.bool a6) ∧ hcell h a8 ((a9 + (Int.toNat k) * 8) + 5) = some (.int .i64 a4) ∧ hcell h a8 ((a9 + (Int.toNat k) * 8) + 6) = some (.int .i64 a5) ∧ hcell h a8 ((a9 + (Int.toNat k) * 8) + 7) = some (.int .i64 b0) ∧ (((!(Ml.keyed ⟨a3, a2, a1, a7, a6, a4, a5, b0⟩)) = true → (j = true)) ∧ ((!(Ml.keyed ⟨a3, a2, a1, a7, a6, a4, a5, b0⟩)) = false → (∃ b2 : Int, hcell h b4 b8 = some (.int .i64 b2) ∧ ((0 : Int) ≤ b2 ∧ b2 < (b6 : Int) ∧ (∃ b3 : ByteArray, hcell h a8 ((a9 + (Int.toNat b2) * 8) + 1) = some (.string b3) ∧ (j = (!decide (a2 = b3))))))))))) ∧ (∀ (h1 : Heap), Ext h h1 → R (.bool j) h1))) :
  HC Tryd.prog 27 #[(.int .i64 k), (ptr b7 b5), (ptr b4 b8)] h R := by
 refine hc_of (args := [(.int .i64 k), (ptr b7 b5), (ptr b4 b8)]) Tryd.func27 rfl Tryd.ntmps27 (Nat.le_of_ble_eq_true rfl) ?_
 refine xs (xr ?_)
 refine lv rfl rfl (va rfl) ?_
 refine ln (qn ?_)
 obtain ⟨j, c2, c1⟩ := H
 refine xk (fun ρ h' => (Ext h h' ∧ True) ∧ Has ρ [(4, (.bool j))]) ?_ ?_
 ·have H := c2; clear c2 c1
  refine hx_draw TyTB.mixed [.read, .pure, .pure, .read, .ext, .pure, .pure, .read, .pure, .pure, .pure, .read, .read, .read, .pure, .pure, .read, .pure, .pure, .pure] [0, 1, 2, 3, 4, 5, 6, 7, 8, 9, 10, 11, 12, 13, 14, 15, 16, 17, 18, 19] (by kernel_rfl) ?_
  obtain ⟨x, b6, b9, c0, H⟩ := H
  refine pr (i := 0) rfl (wanted_0 rfl) rfl (.slice x b6 b9) (fun _ he => vl TyTB.agg22 rfl (Ext.cell he c0)) ?_
  refine pp (i := 1) rfl (wanted_0 rfl) rfl (.int .i64 k) (fun _ => vm rfl) ?_
  obtain ⟨a8, a9, d8, c3, c4, Hq⟩ := H
  subst d8
  have H := Hq; clear Hq
  refine pp (i := 2) rfl (wanted_0 rfl) rfl (ptr a8 (a9 + (Int.toNat k) * 8)) (fun _ => vi TyTB.el22 rfl rfl c3 c4) ?_
  obtain ⟨a3, a2, a1, a7, a6, a4, a5, b0, d7, c5, d6, c6, d3, c8, c7, d1, H⟩ := H
  refine pr (i := 3) rfl (wanted_0 rfl) rfl (.agg #[(.int .i64 a3), (.string a2), (.string a1), (.int .i64 a7), (.bool a6), (.int .i64 a4), (.int .i64 a5), (.int .i64 b0)]) (fun _ he => vL (vs := [(.int .i64 a3), (.string a2), (.string a1), (.int .i64 a7), (.bool a6), (.int .i64 a4), (.int .i64 a5), (.int .i64 b0)]) TyTB.agg30 TyTB.sz30 rfl (cc (Ext.cell he d7) (cc (Ext.cell he c5) (cc (Ext.cell he d6) (cc (Ext.cell he c6) (cc (Ext.cell he d3) (cc (Ext.cell he c8) (cc (Ext.cell he c7) (cc (Ext.cell he d1) cn))))))))) ?_
  refine hp_ext (i := 4) rfl (wanted_0 rfl) rfl (sc TyTB.cb24 rfl (HC.mono (lkeyed_c (⟨a3, a2, a1, a7, a6, a4, a5, b0⟩) _) ?_))
  rintro _ h2 ⟨rfl, b1⟩
  refine ⟨b1, ?_⟩
  refine pp (i := 5) rfl (wanted_0 rfl) rfl (.bool (!(Ml.keyed ⟨a3, a2, a1, a7, a6, a4, a5, b0⟩))) (fun _ => hv_not (b := Ml.keyed ⟨a3, a2, a1, a7, a6, a4, a5, b0⟩) rfl) ?_
  refine pp (i := 6) rfl (wanted_0 rfl) rfl (.bool (!(Ml.keyed ⟨a3, a2, a1, a7, a6, a4, a5, b0⟩))) (fun _ => vm rfl) ?_
  rcases bool_or (!(Ml.keyed ⟨a3, a2, a1, a7, a6, a4, a5, b0⟩)) with a0 | a0
  ·replace H := H.1 a0
   refine pn (i := 7) rfl (wanted_n rfl rfl rfl a0) ?_
   refine pn (i := 8) rfl (wanted_n rfl rfl rfl a0) ?_
   refine pn (i := 9) rfl (wanted_n rfl rfl rfl a0) ?_
   refine pn (i := 10) rfl (wanted_n rfl rfl rfl a0) ?_
   refine pn (i := 11) rfl (wanted_n rfl rfl rfl a0) ?_
   refine pn (i := 12) rfl (wanted_n rfl rfl rfl a0) ?_
   refine pn (i := 13) rfl (wanted_n rfl rfl rfl a0) ?_
   refine pn (i := 14) rfl (wanted_n rfl rfl rfl a0) ?_
   refine pn (i := 15) rfl (wanted_n rfl rfl rfl a0) ?_
   refine pn (i := 16) rfl (wanted_n rfl rfl rfl a0) ?_
   refine pn (i := 17) rfl (wanted_n rfl rfl rfl a0) ?_
   refine pp (i := 18) rfl (wanted_0 rfl) rfl (.bool true) (fun _ => hv_pick_t rfl a0 rfl) ?_
   refine pp (i := 19) rfl (wanted_0 rfl) rfl (.bool true) (fun _ => va rfl) ?_
   refine hp_nil ?_
   refine qn ?_
   obtain rfl := H
   exact ⟨⟨b1, trivial⟩, (hc rfl hn)⟩
  ·replace H := H.2 a0
   refine pr (i := 7) rfl (wanted_y rfl rfl rfl a0) rfl (.slice (some ⟨a8, a9, none⟩) b6 b9) (fun _ he => vl TyTB.agg22 rfl (Ext.cell he (Ext.cell b1 c0))) ?_
   refine pp (i := 8) rfl (wanted_y rfl rfl rfl a0) rfl (.int .i64 k) (fun _ => vm rfl) ?_
   refine pp (i := 9) rfl (wanted_y rfl rfl rfl a0) rfl (ptr a8 (a9 + (Int.toNat k) * 8)) (fun _ => vi TyTB.el22 rfl rfl c3 c4) ?_
   refine pp (i := 10) rfl (wanted_y rfl rfl rfl a0) rfl (ptr a8 ((a9 + (Int.toNat k) * 8) + 1)) (fun _ => vf TyTB.fld30_1 (b := a8) (o := a9 + (Int.toNat k) * 8) rfl) ?_
   refine pr (i := 11) rfl (wanted_y rfl rfl rfl a0) rfl (.string a2) (fun _ he => vl TyTB.agg9 rfl (Ext.cell he (Ext.cell b1 c5))) ?_
   refine pr (i := 12) rfl (wanted_y rfl rfl rfl a0) rfl (.slice (some ⟨a8, a9, none⟩) b6 b9) (fun _ he => vl TyTB.agg22 rfl (Ext.cell he (Ext.cell b1 c0))) ?_
   obtain ⟨b2, d4, H⟩ := H
   refine pr (i := 13) rfl (wanted_y rfl rfl rfl a0) rfl (.int .i64 b2) (fun _ he => vl TyTB.agg3 rfl (Ext.cell he (Ext.cell b1 d4))) ?_
   obtain ⟨c9, d0, H⟩ := H
   refine pp (i := 14) rfl (wanted_y rfl rfl rfl a0) rfl (ptr a8 (a9 + (Int.toNat b2) * 8)) (fun _ => vi TyTB.el22 rfl rfl c9 d0) ?_
   refine pp (i := 15) rfl (wanted_y rfl rfl rfl a0) rfl (ptr a8 ((a9 + (Int.toNat b2) * 8) + 1)) (fun _ => vf TyTB.fld30_1 (b := a8) (o := a9 + (Int.toNat b2) * 8) rfl) ?_
   obtain ⟨b3, d2, H⟩ := H
   refine pr (i := 16) rfl (wanted_y rfl rfl rfl a0) rfl (.string b3) (fun _ he => vl TyTB.agg9 rfl (Ext.cell he (Ext.cell b1 d2))) ?_
   refine pp (i := 17) rfl (wanted_y rfl rfl rfl a0) rfl (.bool (!decide (a2 = b3))) (fun _ => hv_str rfl rfl rfl) ?_
   refine pp (i := 18) rfl (wanted_0 rfl) rfl (.bool (!decide (a2 = b3))) (fun _ => hv_pick_f rfl a0 rfl) ?_
   refine pp (i := 19) rfl (wanted_0 rfl) rfl (.bool (!decide (a2 = b3))) (fun _ => va rfl) ?_
   refine hp_nil ?_
   refine qn ?_
   obtain rfl := H
   exact ⟨⟨b1, trivial⟩, (hc rfl hn)⟩
 ·have H := c1; clear c2 c1
  rintro ρ h1 ⟨⟨d5, -⟩, hH⟩
  refine xh _ hH ?_
  refine xt ?_
  replace H := H h1 d5
  exact endQ_ret _ (res_one Tryd.results27 (rv_tmp rfl)) H
theorem f32_sh (j : Int) (c1 : Nat) (c0 : Nat) (b9 : Nat) (c2 : Nat) (h : Heap) (R : Value → Heap → Prop)
  (H : (∃ x : Option Addr, ∃ c3 c4 : Nat, hcell h c1 c0 = some (.slice x c3 c4) ∧ (∃ a4 a5 : Nat, x = some ⟨a4, a5, none⟩ ∧ (0 : Int) ≤ j ∧ j < (c3 : Int) ∧ (∃ b0 : Int, ∃ b7 a7 : ByteArray, ∃ b5 : Int, ∃ b4 : Bool, ∃ b1 b2 b8 : Int, hcell h a4 (a5 + (Int.toNat j) * 8) = some (.int .i64 b0) ∧ hcell h a4 ((a5 + (Int.toNat j) * 8) + 1) = some (.string b7) ∧ hcell h a4 ((a5 + (Int.toNat j) * 8) + 2) = some (.string a7) ∧ hcell h a4 ((a5 + (Int.toNat j) * 8) + 3) = some (.int .i64 b5) ∧ hcell h a4 ((a5 + (Int.toNat j) * 8) + 4) = some (.bool b4) ∧ hcell h a4 ((a5 + (Int.toNat j) * 8) + 5) = some (.int .i64 b1) ∧ hcell h a4 ((a5 + (Int.toNat j) * 8) + 6) = some (.int .i64 b2) ∧ hcell h a4 ((a5 + (Int.toNat j) * 8) + 7) = some (.int .i64 b8) ∧ (∃ b6 : Int, hcell h b9 c2 = some (.int .i64 b6) ∧ ((0 : Int) ≤ b6 ∧ b6 < (c3 : Int) ∧ (∃ a2 : Int, ∃ a8 a0 : ByteArray, ∃ a6 : Int, ∃ a9 : Bool, ∃ a1 a3 b3 : Int, hcell h a4 (a5 + (Int.toNat b6) * 8) = some (.int .i64 a2) ∧ hcell h a4 ((a5 + (Int.toNat b6) * 8) + 1) = some (.string a8) ∧ hcell h a4 ((a5 + (Int.toNat b6) * 8) + 2) = some (.string a0) ∧ hcell h a4 ((a5 + (Int.toNat b6) * 8) + 3) = some (.int .i64 a6) ∧ hcell h a4 ((a5 + (Int.toNat b6) * 8) + 4) = some (.bool a9) ∧ hcell h a4 ((a5 + (Int.toNat b6) * 8) + 5) = some (.int .i64 a1) ∧ hcell h a4 ((a5 + (Int.toNat b6) * 8) + 6) = some (.int .i64 a3) ∧ hcell h a4 ((a5 + (Int.toNat b6) * 8) + 7) = some (.int .i64 b3) ∧ (∀ (h1 : Heap), Ext h h1 → R (.bool (Ml.ahB ⟨b0, b7, a7, b5, b4, b1, b2, b8⟩ ⟨a2, a8, a0, a6, a9, a1, a3, b3⟩)) h1)))))))) :
  HC Tryd.prog 32 #[(.int .i64 j), (ptr c1 c0), (ptr b9 c2)] h R := by
 refine hc_of (args := [(.int .i64 j), (ptr c1 c0), (ptr b9 c2)]) Tryd.func32 rfl Tryd.ntmps32 (Nat.le_of_ble_eq_true rfl) ?_
 refine xs (xr ?_)
 refine lv rfl rfl (va rfl) ?_
 refine ln (qn (xs ?_))
 refine hx_draw TyTB.mixed [.read, .pure, .pure, .read, .read, .read, .pure, .read, .ext, .pure] [0, 1, 2, 3, 4, 5, 6, 7, 8, 9] (by kernel_rfl) ?_
 obtain ⟨x, c3, c4, c6, H⟩ := H
 refine pr (i := 0) rfl (wanted_0 rfl) rfl (.slice x c3 c4) (fun _ he => vl TyTB.agg22 rfl (Ext.cell he c6)) ?_
 refine pp (i := 1) rfl (wanted_0 rfl) rfl (.int .i64 j) (fun _ => vm rfl) ?_
 obtain ⟨a4, a5, e7, e4, e8, Hq⟩ := H
 subst e7
 have H := Hq; clear Hq
 refine pp (i := 2) rfl (wanted_0 rfl) rfl (ptr a4 (a5 + (Int.toNat j) * 8)) (fun _ => vi TyTB.el22 rfl rfl e4 e8) ?_
 obtain ⟨b0, b7, a7, b5, b4, b1, b2, b8, e1, e6, e5, e3, e2, e0, c7, d3, H⟩ := H
 refine pr (i := 3) rfl (wanted_0 rfl) rfl (.agg #[(.int .i64 b0), (.string b7), (.string a7), (.int .i64 b5), (.bool b4), (.int .i64 b1), (.int .i64 b2), (.int .i64 b8)]) (fun _ he => vL (vs := [(.int .i64 b0), (.string b7), (.string a7), (.int .i64 b5), (.bool b4), (.int .i64 b1), (.int .i64 b2), (.int .i64 b8)]) TyTB.agg30 TyTB.sz30 rfl (cc (Ext.cell he e1) (cc (Ext.cell he e6) (cc (Ext.cell he e5) (cc (Ext.cell he e3) (cc (Ext.cell he e2) (cc (Ext.cell he e0) (cc (Ext.cell he c7) (cc (Ext.cell he d3) cn))))))))) ?_
 refine pr (i := 4) rfl (wanted_0 rfl) rfl (.slice (some ⟨a4, a5, none⟩) c3 c4) (fun _ he => vl TyTB.agg22 rfl (Ext.cell he c6)) ?_
 obtain ⟨b6, d0, H⟩ := H
 refine pr (i := 5) rfl (wanted_0 rfl) rfl (.int .i64 b6) (fun _ he => vl TyTB.agg3 rfl (Ext.cell he d0)) ?_
 obtain ⟨c9, d8, H⟩ := H
 refine pp (i := 6) rfl (wanted_0 rfl) rfl (ptr a4 (a5 + (Int.toNat b6) * 8)) (fun _ => vi TyTB.el22 rfl rfl c9 d8) ?_
 obtain ⟨a2, a8, a0, a6, a9, a1, a3, b3, d4, c8, d1, d7, d6, d9, d5, d2, H⟩ := H
 refine pr (i := 7) rfl (wanted_0 rfl) rfl (.agg #[(.int .i64 a2), (.string a8), (.string a0), (.int .i64 a6), (.bool a9), (.int .i64 a1), (.int .i64 a3), (.int .i64 b3)]) (fun _ he => vL (vs := [(.int .i64 a2), (.string a8), (.string a0), (.int .i64 a6), (.bool a9), (.int .i64 a1), (.int .i64 a3), (.int .i64 b3)]) TyTB.agg30 TyTB.sz30 rfl (cc (Ext.cell he d4) (cc (Ext.cell he c8) (cc (Ext.cell he d1) (cc (Ext.cell he d7) (cc (Ext.cell he d6) (cc (Ext.cell he d9) (cc (Ext.cell he d5) (cc (Ext.cell he d2) cn))))))))) ?_
 refine hp_ext (i := 8) rfl (wanted_0 rfl) rfl (sc TyTB.cb12 rfl (HC.mono (ahead_c (⟨b0, b7, a7, b5, b4, b1, b2, b8⟩) (⟨a2, a8, a0, a6, a9, a1, a3, b3⟩) _) ?_))
 rintro _ h1 ⟨rfl, c5⟩
 refine ⟨c5, ?_⟩
 refine pp (i := 9) rfl (wanted_0 rfl) rfl (.bool (Ml.ahB ⟨b0, b7, a7, b5, b4, b1, b2, b8⟩ ⟨a2, a8, a0, a6, a9, a1, a3, b3⟩)) (fun _ => va rfl) ?_
 refine hp_nil ?_
 refine qn (xt ?_)
 replace H := H h1 c5
 exact endQ_ret _ (res_one Tryd.results32 (rv_tmp rfl)) H
theorem f26_sh (sv : Option Addr) (a3 : Nat) (a2 : Nat) (h : Heap) (R : Value → Heap → Prop)
  (H : ((sv.isNone = true → R (.slice none 0 0) h) ∧ (sv.isNone = false → (∀ nb h1, nb = Array.size h → h1 = Array.push h (.cells #[] 3) → HAppend Tryd.prog 23 23 (.slice (some ⟨nb, 0, none⟩) 0 0) (.slice sv a3 a2) h1 (fun vv h2 => ∃ ap : Option Addr, ∃ a1 a0 : Nat, vv = (.slice ap a1 a0) ∧ R (.slice ap a1 a0) h2))))) :
  HC Tryd.prog 26 #[(.slice sv a3 a2)] h R := by
 refine hc_of (args := [(.slice sv a3 a2)]) Tryd.func26 rfl Tryd.ntmps26 (Nat.le_of_ble_eq_true rfl) ?_
 refine xs (xr ?_)
 refine lv rfl rfl (va rfl) ?_
 refine ln (qn (xs (xs (xr ?_))))
 refine lv rfl rfl (vm rfl) (lv rfl rfl (v := (.bool sv.isNone)) (hv_sliceNil TyTB.u23 rfl rfl) ?_)
 refine ln (qn ?_)
 refine xc (b := sv.isNone) rfl (fun a4 => ?_) (fun a4 => ?_)
 ·replace H := H.1 a4
  refine xs (xr ?_)
  refine lv rfl rfl (va rfl) ?_
  refine ln (qn (xt (qr ?_)))
  exact endQ_ret _ (res_one Tryd.results26 (rv_tmp rfl)) H
 ·replace H := H.2 a4
  refine xi (qn (xs (xr ?_)))
  refine lp rfl rfl (hn_buildSlice (n := 0) (vs := []) (cs := #[]) TyTB.u23 TyTB.sz3 TyTB.z3 rfl rfl (by kernel_rfl) ?_)
  intro nb h1 a6 a5
  replace H := H nb h1 a6 a5
  have a7 := ext_pushed_f34_sh a5
  refine lv rfl rfl (vm rfl) ?_
  refine lp rfl rfl (hs_append rfl rfl (HAppend.mono H ?_))
  rintro _ h2 ⟨ap, a1, a0, rfl, H⟩
  refine lv rfl rfl (va rfl) ?_
  refine ln (qn (xt ?_))
  exact endQ_ret _ (res_one Tryd.results26 (rv_tmp rfl)) H
theorem f25_sh (sv : Option Addr) (a0 : Nat) (a1 : Nat) (a5 : Value) (h : Heap) (R : Value → Heap → Prop)
  (H : HC Tryd.prog 45 #[(.slice sv a0 a1), a5] h (fun vv h1 => ∃ r : Int, vv = (.int .i64 r) ∧ (((r == (-1)) = true → R (.slice sv a0 a1) h1) ∧ ((r == (-1)) = false → (∃ (I2 : Int → Int → Heap → Prop) (b0 : Int → Int → Heap → Nat), I2 r (IntKind.i64.wrap (r + 1)) h1 ∧ (∀ (i : Int) (j : Int) (h2 : Heap), I2 i j h2 → (((decide (j < (a0 : Int))) = true → (∃ a8 : Int → Heap → Prop, (∃ a3 a2 : Nat, sv = some ⟨a3, a2, none⟩ ∧ (0 : Int) ≤ j ∧ j < (a0 : Int) ∧ (∃ x : Int, hcell h2 a3 (a2 + (Int.toNat j) * 1) = some (.int .i64 x) ∧ HCV Tryd.prog a5 [(.int .i64 x)] h2 (fun vv h4 => ∃ a7 : Bool, vv = (.bool a7) ∧ (((!a7) = true → ((0 : Int) ≤ i ∧ i < (a0 : Int) ∧ (HW h4 a3 (a2 + (Int.toNat i) * 1) ∧ ∀ h5, h5 = hset h4 a3 (a2 + (Int.toNat i) * 1) (.int .i64 x) → (a8 (IntKind.i64.wrap (i + 1)) h5)))) ∧ ((!a7) = false → (a8 i h4)))))) ∧ (∀ (a4 : Int) (h3 : Heap), a8 a4 h3 → (I2 a4 (IntKind.i64.wrap (j + 1)) h3 ∧ b0 a4 (IntKind.i64.wrap (j + 1)) h3 < b0 i j h2)))) ∧ ((decide (j < (a0 : Int))) = false → (0 ≤ (i : Int) ∧ i ≤ (a0 : Int) ∧ (a0 : Int) ≤ (a1 : Int) ∧ ∀ sl : Option Addr, sl = slA sv (Int.toNat i) 1 a1 → (((Int.toNat (a0 : Int) - Int.toNat i) ≠ 0 → ∃ cb co : Nat, sl = some ⟨cb, co, none⟩ ∧ HWs h2 cb co ((Int.toNat (a0 : Int) - Int.toNat i) * 1)) ∧ ∀ h6, ((Int.toNat (a0 : Int) - Int.toNat i) = 0 → h6 = h2) → (∀ cb co : Nat, (Int.toNat (a0 : Int) - Int.toNat i) ≠ 0 → sl = some ⟨cb, co, none⟩ → h6 = hsets h2 cb co (zcells [(.int .i64 0)] (Int.toNat (a0 : Int) - Int.toNat i))) → (0 ≤ ((0 : Int) : Int) ∧ (0 : Int) ≤ i ∧ i ≤ (a1 : Int) ∧ ∀ a6 : Option Addr, a6 = slA sv (Int.toNat 0) 1 a1 → R (.slice a6 (Int.toNat i - Int.toNat 0) (a1 - Int.toNat 0)) h6))))))))))) :
  HC Tryd.prog 25 #[(.slice sv a0 a1), a5] h R := by
 refine hc_of (args := [(.slice sv a0 a1), a5]) Tryd.func25 rfl Tryd.ntmps25 (Nat.le_of_ble_eq_true rfl) ?_
 refine xs (xr ?_)
 refine lv rfl rfl (va rfl) ?_
 refine ln (qn (xs (xr ?_)))
 refine lv rfl rfl (vm rfl) (lv rfl rfl (vm rfl) ?_)
 refine lp rfl rfl (sc TyTB.cb45 rfl (HC.mono H ?_))
 rintro _ h1 ⟨r, rfl, H⟩
 refine lv rfl rfl (va rfl) ?_
 refine ln (qn (xs (xs (xr ?_))))
 refine lv rfl rfl (vm rfl) (lv rfl rfl (vr rfl rfl rfl) ?_)
 refine ln (qn ?_)
 refine xc (b := r == (-1)) rfl (fun b3 => ?_) (fun b3 => ?_)
 ·replace H := H.1 b3
  refine xs (xr ?_)
  refine lv rfl rfl (vm rfl) (lv rfl rfl (va rfl) ?_)
  refine ln (qn (xt (qr ?_)))
  exact endQ_ret _ (res_one Tryd.results25 (rv_tmp rfl)) H
 ·replace H := H.2 b3
  refine xi (qn (xs (xs (xr ?_))))
  refine lv rfl rfl (vm rfl) (lv rfl rfl (vr rfl rfl rfl) (lv rfl rfl (va rfl) ?_))
  refine ln (qn (xb ?_))
  obtain ⟨I2, b0, d2, d3⟩ := H
  refine xl (σ := Int × Int) (fun s => [(0, (.slice sv a0 a1)), (1, a5), (5, (.int .i64 s.1)), (6, (.int .i64 s.2))]) (fun s h' => I2 s.1 s.2 h' ∧ True) (fun s h' => b0 s.1 s.2 h') (r, IntKind.i64.wrap (r + 1)) ⟨d2, trivial⟩ (hc rfl (hc rfl (hc rfl (hc rfl hn)))) ?_
  rintro ⟨i, j⟩ ρ h2 ⟨d4, -⟩
  have H := d3 i j h2 d4
  refine xs (xs (xr ?_))
  refine lv rfl rfl (vm rfl) (lv rfl rfl (vm rfl) (lv rfl rfl (v := (.int .i64 (a0 : Int))) (hv_len (n := a0) TyTB.u23 rfl) (lv rfl rfl (vr rfl rfl rfl) ?_)))
  refine ln (qn ?_)
  refine xc (b := decide (j < (a0 : Int))) rfl (fun b4 => ?_) (fun b4 => ?_)
  ·replace H := H.1 b4
   refine xi (qn ?_)
   obtain ⟨a8, b2, b1⟩ := H
   refine xk (fun ρ h' => ∃ a4 : Int, (a8 a4 h' ∧ True) ∧ Has ρ [(0, (.slice sv a0 a1)), (1, a5), (5, (.int .i64 a4)), (6, (.int .i64 j))]) ?_ ?_
   ·have H := b2; clear b2 b1
    refine xb (xs (xr ?_))
    refine lv rfl rfl (vm rfl) (lv rfl rfl (vm rfl) ?_)
    obtain ⟨a3, a2, d5, d0, b7, Hq⟩ := H
    subst d5
    have H := Hq; clear Hq
    refine lv rfl rfl (v := (ptr a3 (a2 + (Int.toNat j) * 1))) (vi TyTB.el23 rfl rfl d0 b7) ?_
    obtain ⟨x, c1, H⟩ := H
    refine lv rfl rfl (vl TyTB.agg3 rfl c1) (lv rfl rfl (va rfl) ?_)
    refine ln (qn (xs (xr ?_)))
    refine lv rfl rfl (vm rfl) (lv rfl rfl (vm rfl) ?_)
    refine lp rfl rfl (hs_callF (vs := [(.int .i64 x)]) rfl rfl (HCV.mono H ?_))
    rintro _ h4 ⟨a7, rfl, H⟩
    refine lv rfl rfl (v := (.bool (!a7))) (hv_not (b := a7) rfl) ?_
    refine ln (qn ?_)
    refine xc (b := !a7) rfl (fun a9 => ?_) (fun a9 => ?_)
    ·replace H := H.1 a9
     refine xs (xr ?_)
     refine lv rfl rfl (vm rfl) (lv rfl rfl (vm rfl) (lv rfl rfl (vm rfl) ?_))
     obtain ⟨c6, b6, H⟩ := H
     refine lv rfl rfl (v := (ptr a3 (a2 + (Int.toNat i) * 1))) (vi TyTB.el23 rfl rfl c6 b6) ?_
     obtain ⟨c8, H⟩ := H
     refine lp rfl rfl (hn_store (v := (.int .i64 x)) rfl rfl TyTB.sz3 rfl c8 ?_)
     intro h5 c5
     replace H := H h5 c5
     refine ln (qn (xr ?_))
     refine lv rfl rfl (vm rfl) (lv rfl rfl (vr rfl rfl rfl) (lv rfl rfl (va rfl) ?_))
     refine ln (bn (qn ?_))
     exact ⟨_, ⟨H, trivial⟩, (hc rfl (hc rfl (hc rfl (hc rfl hn))))⟩
    ·replace H := H.2 a9
     refine xi (bn (qn ?_))
     exact ⟨_, ⟨H, trivial⟩, (hc rfl (hc rfl (hc rfl (hc rfl hn))))⟩
   ·rintro ρ h3 ⟨a4, ⟨d1, -⟩, hH⟩
    have H := b1 a4 h3 d1; clear b2 b1
    refine xh _ hH ?_
    refine xr ?_
    refine lv rfl rfl (vm rfl) (lv rfl rfl (vr rfl rfl rfl) (lv rfl rfl (va rfl) ?_))
    refine ln (qn ?_)
    exact ⟨(a4, IntKind.i64.wrap (j + 1)), ⟨⟨H.1, trivial⟩, H.2⟩, (hc rfl (hc rfl (hc rfl (hc rfl hn))))⟩
  ·replace H := H.2 b4
   refine xe (qe (qe (bh (qn (xs (xr ?_))))))
   refine lv rfl rfl (vm rfl) (lv rfl rfl (vm rfl) ?_)
   obtain ⟨c9, c3, b9, H⟩ := H
   obtain ⟨sl, hq23⟩ : ∃ q, q = slA sv (Int.toNat i) 1 a1 := ⟨_, rfl⟩
   replace H := H sl hq23
   refine lv rfl rfl (v := (.slice sl (Int.toNat (a0 : Int) - Int.toNat i) (a1 - Int.toNat i))) (hv_slice (l := i) (r := (a0 : Int)) TyTB.u23 TyTB.sz3 rfl (sl_some rfl) sh_none c9 c3 b9 hq23) ?_
   obtain ⟨c0, H⟩ := H
   refine lp rfl rfl (hn_clear2 (zs := [(.int .i64 0)]) TyTB.u23 TyTB.z3 rfl (by decide) rfl rfl c0 ?_)
   intro h6 b5 c7
   replace H := H h6 b5 c7
   refine ln (qn (xs (xr ?_)))
   refine lv rfl rfl (vm rfl) (lv rfl rfl (vm rfl) ?_)
   obtain ⟨b8, c4, c2, H⟩ := H
   obtain ⟨a6, hq30⟩ : ∃ q, q = slA sv (Int.toNat 0) 1 a1 := ⟨_, rfl⟩
   replace H := H a6 hq30
   refine lv rfl rfl (v := (.slice a6 (Int.toNat i - Int.toNat 0) (a1 - Int.toNat 0))) (hv_slice (l := 0) (r := i) TyTB.u23 TyTB.sz3 rfl sl_none (sh_some rfl) b8 c4 c2 hq30) (lv rfl rfl (va rfl) ?_)
   refine ln (qn (xt ?_))
   exact endQ_ret _ (res_one Tryd.results25 (rv_tmp rfl)) H
theorem f31_sh (sv : Option Addr) (a1 : Nat) (a0 : Nat) (f : Value) (h : Heap) (R : Value → Heap → Prop)
  (H : HC Tryd.prog 45 #[(.slice sv a1 a0), f] h (fun vv h1 => ∃ r : Int, vv = (.int .i64 r) ∧ R (.bool (decide (r ≥ 0))) h1)) :
  HC Tryd.prog 31 #[(.slice sv a1 a0), f] h R := by
 refine hc_of (args := [(.slice sv a1 a0), f]) Tryd.func31 rfl Tryd.ntmps31 (Nat.le_of_ble_eq_true rfl) ?_
 refine xs (xr ?_)
 refine lv rfl rfl (va rfl) ?_
 refine ln (qn (xs (xr ?_)))
 refine lv rfl rfl (vm rfl) (lv rfl rfl (vm rfl) ?_)
 refine lp rfl rfl (sc TyTB.cb45 rfl (HC.mono H ?_))
 rintro _ h1 ⟨r, rfl, H⟩
 refine lv rfl rfl (vr rfl rfl rfl) (lv rfl rfl (va rfl) ?_)
 refine ln (qn (xt ?_))
 exact endQ_ret _ (res_one Tryd.results31 (rv_tmp rfl)) H
theorem f45_sh (sv : Option Addr) (a0 : Nat) (a3 : Nat) (f : Value) (h : Heap) (R : Value → Heap → Prop)
  (H : (∃ (I1 : Int → Heap → Prop) (a5 : Int → Heap → Nat), I1 0 h ∧ (∀ (v : Int) (h1 : Heap), I1 v h1 → (((decide (v < (a0 : Int))) = true → (∃ a1 a2 : Nat, sv = some ⟨a1, a2, none⟩ ∧ (0 : Int) ≤ v ∧ v < (a0 : Int) ∧ (∃ x : Int, hcell h1 a1 (a2 + (Int.toNat v) * 1) = some (.int .i64 x) ∧ HCV Tryd.prog f [(.int .i64 x)] h1 (fun vv h2 => ∃ r : Bool, vv = (.bool r) ∧ ((r = true → R (.int .i64 v) h2) ∧ (r = false → (I1 (IntKind.i64.wrap (v + 1)) h2 ∧ a5 (IntKind.i64.wrap (v + 1)) h2 < a5 v h1))))))) ∧ ((decide (v < (a0 : Int))) = false → R (.int .i64 (-1)) h1))))) :
  HC Tryd.prog 45 #[(.slice sv a0 a3), f] h R := by
 refine hc_of (args := [(.slice sv a0 a3), f]) Tryd.func45 rfl Tryd.ntmps45 (Nat.le_of_ble_eq_true rfl) ?_
 refine xs (xr ?_)
 refine lv rfl rfl (va rfl) ?_
 refine ln (qn (xs (xs (xr ?_))))
 refine lv rfl rfl (vm rfl) (lv rfl rfl (v := (.int .i64 (a0 : Int))) (hv_len (n := a0) TyTB.u23 rfl) (lv rfl rfl (vm rfl) ?_))
 refine ln (qn (xb ?_))
 obtain ⟨I1, a5, a7, b0⟩ := H
 refine xl (σ := Int) (fun s => [(0, (.slice sv a0 a3)), (1, f), (7, (.int .i64 (a0 : Int))), (8, (.int .i64 s))]) (fun s h' => I1 s h' ∧ True) (fun s h' => a5 s h') 0 ⟨a7, trivial⟩ (hc rfl (hc rfl (hc rfl (hc rfl hn)))) ?_
 rintro v ρ h1 ⟨a8, -⟩
 have H := b0 v h1 a8
 refine xs (xr ?_)
 refine lv rfl rfl (vr rfl rfl rfl) ?_
 refine ln (qn (xs ?_))
 refine xc (b := decide (v < (a0 : Int))) rfl (fun a6 => ?_) (fun a6 => ?_)
 ·replace H := H.1 a6
  refine xi (qn (xs (xb (xs (xr ?_)))))
  refine lv rfl rfl (vm rfl) (lv rfl rfl (va rfl) ?_)
  refine ln (qn (xs (xr ?_)))
  refine lv rfl rfl (vm rfl) (lv rfl rfl (vm rfl) (lv rfl rfl (vm rfl) ?_))
  obtain ⟨a1, a2, b2, b1, b3, Hq⟩ := H
  subst b2
  have H := Hq; clear Hq
  refine lv rfl rfl (v := (ptr a1 (a2 + (Int.toNat v) * 1))) (vi TyTB.el23 rfl rfl b1 b3) ?_
  obtain ⟨x, a9, H⟩ := H
  refine lv rfl rfl (vl TyTB.agg3 rfl a9) ?_
  refine lp rfl rfl (hs_callF (vs := [(.int .i64 x)]) rfl rfl (HCV.mono H ?_))
  rintro _ h2 ⟨r, rfl, H⟩
  refine ln (qn ?_)
  refine xc (b := r) rfl (fun a4 => ?_) (fun a4 => ?_)
  ·replace H := H.1 a4
   refine xs (xr ?_)
   refine lv rfl rfl (vm rfl) (lv rfl rfl (va rfl) ?_)
   refine ln (qn (xt (br (qr (qr (br (qr ?_)))))))
   exact endQ_ret _ (res_one Tryd.results45 (rv_tmp rfl)) H
  ·replace H := H.2 a4
   refine xi (bn (qn (xr ?_)))
   refine lv rfl rfl (vr rfl rfl rfl) (lv rfl rfl (vm rfl) ?_)
   refine ln (qn ?_)
   exact ⟨IntKind.i64.wrap (v + 1), ⟨⟨H.1, trivial⟩, H.2⟩, (hc rfl (hc rfl (hc rfl (hc rfl hn))))⟩
 ·replace H := H.2 a6
  refine xe (qe (qe (bh (qn (xs (xr ?_))))))
  refine lv rfl rfl (va rfl) ?_
  refine ln (qn (xt ?_))
  exact endQ_ret _ (res_one Tryd.results45 (rv_tmp rfl)) H
theorem f47_sh (sv : Option Addr) (a1 : Nat) (a4 : Nat) (v : Int) (h : Heap) (R : Value → Heap → Prop)
  (H : (∃ (I1 : Int → Prop) (a6 : Int → Nat), I1 0 ∧ (∀ (a0 : Int), I1 a0 → (((decide (a0 < (a1 : Int))) = true → (∃ a2 a3 : Nat, sv = some ⟨a2, a3, none⟩ ∧ (0 : Int) ≤ a0 ∧ a0 < (a1 : Int) ∧ (∃ x : Int, hcell h a2 (a3 + (Int.toNat a0) * 1) = some (.int .i64 x) ∧ (((v == x) = true → R (.int .i64 a0) h) ∧ ((v == x) = false → (I1 (IntKind.i64.wrap (a0 + 1)) ∧ a6 (IntKind.i64.wrap (a0 + 1)) < a6 a0)))))) ∧ ((decide (a0 < (a1 : Int))) = false → R (.int .i64 (-1)) h))))) :
  HC Tryd.prog 47 #[(.slice sv a1 a4), (.int .i64 v)] h R := by
 refine hc_of (args := [(.slice sv a1 a4), (.int .i64 v)]) Tryd.func47 rfl Tryd.ntmps47 (Nat.le_of_ble_eq_true rfl) ?_
 refine xs (xr ?_)
 refine lv rfl rfl (va rfl) ?_
 refine ln (qn (xs (xs (xr ?_))))
 refine lv rfl rfl (vm rfl) (lv rfl rfl (v := (.int .i64 (a1 : Int))) (hv_len (n := a1) TyTB.u23 rfl) (lv rfl rfl (vm rfl) ?_))
 refine ln (qn (xb ?_))
 obtain ⟨I1, a6, a8, b1⟩ := H
 refine xl (σ := Int) (fun s => [(0, (.slice sv a1 a4)), (1, (.int .i64 v)), (7, (.int .i64 (a1 : Int))), (8, (.int .i64 s))]) (fun s h' => I1 s ∧ h = h') (fun s _ => a6 s) 0 ⟨a8, rfl⟩ (hc rfl (hc rfl (hc rfl (hc rfl hn)))) ?_
 rintro a0 ρ _ ⟨a9, rfl⟩
 have H := b1 a0 a9
 refine xs (xr ?_)
 refine lv rfl rfl (vr rfl rfl rfl) ?_
 refine ln (qn (xs ?_))
 refine xc (b := decide (a0 < (a1 : Int))) rfl (fun a7 => ?_) (fun a7 => ?_)
 ·replace H := H.1 a7
  refine xi (qn (xs (xb (xs (xr ?_)))))
  refine lv rfl rfl (vm rfl) (lv rfl rfl (va rfl) ?_)
  refine ln (qn (xs (xr ?_)))
  refine lv rfl rfl (vm rfl) (lv rfl rfl (vm rfl) (lv rfl rfl (vm rfl) ?_))
  obtain ⟨a2, a3, b3, b2, b4, Hq⟩ := H
  subst b3
  have H := Hq; clear Hq
  refine lv rfl rfl (v := (ptr a2 (a3 + (Int.toNat a0) * 1))) (vi TyTB.el23 rfl rfl b2 b4) ?_
  obtain ⟨x, b0, H⟩ := H
  refine lv rfl rfl (vl TyTB.agg3 rfl b0) (lv rfl rfl (vr rfl rfl rfl) ?_)
  refine ln (qn ?_)
  refine xc (b := v == x) rfl (fun a5 => ?_) (fun a5 => ?_)
  ·replace H := H.1 a5
   refine xs (xr ?_)
   refine lv rfl rfl (vm rfl) (lv rfl rfl (va rfl) ?_)
   refine ln (qn (xt (br (qr (qr (br (qr ?_)))))))
   exact endQ_ret _ (res_one Tryd.results47 (rv_tmp rfl)) H
  ·replace H := H.2 a5
   refine xi (bn (qn (xr ?_)))
   refine lv rfl rfl (vr rfl rfl rfl) (lv rfl rfl (vm rfl) ?_)
   refine ln (qn ?_)
   exact ⟨IntKind.i64.wrap (a0 + 1), ⟨⟨H.1, rfl⟩, H.2⟩, (hc rfl (hc rfl (hc rfl (hc rfl hn))))⟩
 ·replace H := H.2 a7
  refine xe (qe (qe (bh (qn (xs (xr ?_))))))
  refine lv rfl rfl (va rfl) ?_
  refine ln (qn (xt ?_))
  exact endQ_ret _ (res_one Tryd.results47 (rv_tmp rfl)) H
theorem f34_sh (sv : Option Addr) (a0 : Nat) (a2 : Nat) (i : Int) (j : Int) (h : Heap) (R : Value → Heap → Prop)
  (H : (0 ≤ (i : Int) ∧ i ≤ j ∧ j ≤ (a0 : Int) ∧ (a0 : Int) ≤ (a2 : Int) ∧ ∀ sl : Option Addr, sl = slA sv (Int.toNat i) 1 (Int.toNat (a0 : Int)) → (((i == j) = true → R (.slice sv a0 a2) h) ∧ ((i == j) = false → (0 ≤ ((0 : Int) : Int) ∧ (0 : Int) ≤ i ∧ i ≤ (a2 : Int) ∧ ∀ a5 : Option Addr, a5 = slA sv (Int.toNat 0) 1 a2 → (0 ≤ (j : Int) ∧ j ≤ (a0 : Int) ∧ (a0 : Int) ≤ (a2 : Int) ∧ ∀ a6 : Option Addr, a6 = slA sv (Int.toNat j) 1 a2 → HAppend Tryd.prog 23 23 (.slice a5 (Int.toNat i - Int.toNat 0) (a2 - Int.toNat 0)) (.slice a6 (Int.toNat (a0 : Int) - Int.toNat j) (a2 - Int.toNat j)) h (fun vv h1 => ∃ ap : Option Addr, ∃ a1 a3 : Nat, vv = (.slice ap a1 a3) ∧ (0 ≤ ((a1 : Int) : Int) ∧ (a1 : Int) ≤ (a0 : Int) ∧ (a0 : Int) ≤ (a3 : Int) ∧ ∀ a4 : Option Addr, a4 = slA ap (Int.toNat (a1 : Int)) 1 a3 → (((Int.toNat (a0 : Int) - Int.toNat (a1 : Int)) ≠ 0 → ∃ cb co : Nat, a4 = some ⟨cb, co, none⟩ ∧ HWs h1 cb co ((Int.toNat (a0 : Int) - Int.toNat (a1 : Int)) * 1)) ∧ ∀ h2, ((Int.toNat (a0 : Int) - Int.toNat (a1 : Int)) = 0 → h2 = h1) → (∀ cb co : Nat, (Int.toNat (a0 : Int) - Int.toNat (a1 : Int)) ≠ 0 → a4 = some ⟨cb, co, none⟩ → h2 = hsets h1 cb co (zcells [(.int .i64 0)] (Int.toNat (a0 : Int) - Int.toNat (a1 : Int)))) → R (.slice ap a1 a3) h2))))))))) :
  HC Tryd.prog 34 #[(.slice sv a0 a2), (.int .i64 i), (.int .i64 j)] h R := by
 refine hc_of (args := [(.slice sv a0 a2), (.int .i64 i), (.int .i64 j)]) Tryd.func34 rfl Tryd.ntmps34 (Nat.le_of_ble_eq_true rfl) ?_
 refine xs (xr ?_)
 refine lv rfl rfl (va rfl) ?_
 refine ln (qn (xs (xr ?_)))
 refine lv rfl rfl (vm rfl) (lv rfl rfl (vm rfl) (lv rfl rfl (vm rfl) (lv rfl rfl (vm rfl) (lv rfl rfl (v := (.int .i64 (a0 : Int))) (hv_len (n := a0) TyTB.u23 rfl) ?_))))
 obtain ⟨b9, b7, c2, b8, H⟩ := H
 obtain ⟨sl, hq5⟩ : ∃ q, q = slA sv (Int.toNat i) 1 (Int.toNat (a0 : Int)) := ⟨_, rfl⟩
 replace H := H sl hq5
 refine lv rfl rfl (v := (.slice sl (Int.toNat j - Int.toNat i) (Int.toNat (a0 : Int) - Int.toNat i))) (hv_slice3 (l := i) (r := j) (mx := (a0 : Int)) TyTB.u23 TyTB.sz3 rfl rfl rfl rfl b9 b7 c2 b8 hq5) ?_
 refine ln (qn (xs (xs (xr ?_))))
 refine lv rfl rfl (vm rfl) (lv rfl rfl (vm rfl) (lv rfl rfl (vr rfl rfl rfl) ?_))
 refine ln (qn ?_)
 refine xc (b := i == j) rfl (fun a7 => ?_) (fun a7 => ?_)
 ·replace H := H.1 a7
  refine xs (xr ?_)
  refine lv rfl rfl (vm rfl) (lv rfl rfl (va rfl) ?_)
  refine ln (qn (xt (qr ?_)))
  exact endQ_ret _ (res_one Tryd.results34 (rv_tmp rfl)) H
 ·replace H := H.2 a7
  refine xi (qn (xs (xr ?_)))
  refine lv rfl rfl (vm rfl) (lv rfl rfl (v := (.int .i64 (a0 : Int))) (hv_len (n := a0) TyTB.u23 rfl) (lv rfl rfl (va rfl) ?_))
  refine ln (qn (xs ?_))
  refine hx_draw TyTB.mixed [.pure, .pure, .pure, .pure, .pure, .pure, .wild, .pure] [0, 1, 2, 3, 4, 5, 6, 7] (by kernel_rfl) ?_
  refine pp (i := 0) rfl (wanted_0 rfl) rfl (.slice sv a0 a2) (fun _ => vm rfl) ?_
  refine pp (i := 1) rfl (wanted_0 rfl) rfl (.int .i64 i) (fun _ => vm rfl) ?_
  obtain ⟨c1, c3, c0, H⟩ := H
  obtain ⟨a5, hq10⟩ : ∃ q, q = slA sv (Int.toNat 0) 1 a2 := ⟨_, rfl⟩
  replace H := H a5 hq10
  refine pp (i := 2) rfl (wanted_0 rfl) rfl (.slice a5 (Int.toNat i - Int.toNat 0) (a2 - Int.toNat 0)) (fun _ => hv_slice (l := 0) (r := i) TyTB.u23 TyTB.sz3 rfl sl_none (sh_some rfl) c1 c3 c0 hq10) ?_
  refine pp (i := 3) rfl (wanted_0 rfl) rfl (.slice sv a0 a2) (fun _ => vm rfl) ?_
  refine pp (i := 4) rfl (wanted_0 rfl) rfl (.int .i64 j) (fun _ => vm rfl) ?_
  obtain ⟨b2, b1, a9, H⟩ := H
  obtain ⟨a6, hq14⟩ : ∃ q, q = slA sv (Int.toNat j) 1 a2 := ⟨_, rfl⟩
  replace H := H a6 hq14
  refine pp (i := 5) rfl (wanted_0 rfl) rfl (.slice a6 (Int.toNat (a0 : Int) - Int.toNat j) (a2 - Int.toNat j)) (fun _ => hv_slice (l := j) (r := (a0 : Int)) TyTB.u23 TyTB.sz3 rfl (sl_some rfl) sh_none b2 b1 a9 hq14) ?_
  refine hp_wild (i := 6) rfl (wanted_0 rfl) rfl (hs_append rfl rfl (HAppend.mono H ?_))
  rintro _ h1 ⟨ap, a1, a3, rfl, H⟩
  refine pp (i := 7) rfl (wanted_0 rfl) rfl (.slice ap a1 a3) (fun _ => va rfl) ?_
  refine hp_nil ?_
  refine qn (xs (xr ?_))
  refine lv rfl rfl (vm rfl) (lv rfl rfl (vm rfl) (lv rfl rfl (v := (.int .i64 (a1 : Int))) (hv_len (n := a1) TyTB.u23 rfl) (lv rfl rfl (vm rfl) ?_)))
  obtain ⟨b6, a8, b5, H⟩ := H
  obtain ⟨a4, hq18⟩ : ∃ q, q = slA ap (Int.toNat (a1 : Int)) 1 a3 := ⟨_, rfl⟩
  replace H := H a4 hq18
  refine lv rfl rfl (v := (.slice a4 (Int.toNat (a0 : Int) - Int.toNat (a1 : Int)) (a3 - Int.toNat (a1 : Int)))) (hv_slice (l := (a1 : Int)) (r := (a0 : Int)) TyTB.u23 TyTB.sz3 rfl (sl_some rfl) (sh_some rfl) b6 a8 b5 hq18) ?_
  obtain ⟨b4, H⟩ := H
  refine lp rfl rfl (hn_clear2 (zs := [(.int .i64 0)]) TyTB.u23 TyTB.z3 rfl (by decide) rfl rfl b4 ?_)
  intro h2 b0 b3
  replace H := H h2 b0 b3
  refine ln (qn (xs (xr ?_)))
  refine lv rfl rfl (vm rfl) (lv rfl rfl (va rfl) ?_)
  refine ln (qn (xt ?_))
  exact endQ_ret _ (res_one Tryd.results34 (rv_tmp rfl)) H
end Go.Proofs.YtfjcciaabkjkgaaDoor
