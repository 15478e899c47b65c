import Derived.Test.YthjehlocmikchaaDoorDvDeq
import Derived.Test.YthjehlocmikchaaDoorDvDrw
import Derived.Test.YthjehlocmikchaaDoorDvRng
import Derived.Test.YthjehlocmikchaaDoorDvTA
import Derived.Test.YthjehlocmikchaaDoorDvTB
import Derived.Test.YthjehlocmikchaaDoorProg
namespace Go.Proofs.YthjehlocmikchaaDoor
open Go
open Go.Proofs.YthjehlocmikchaaDoor renaming hl_val → lv, hl_step → lp, hl_nil → ln, hl_yes → ly, hl_no → lo, hx_seq → xs, hx_region → xr, hx_cond → xc, hx_block → xb, hx_loopT → xl, hx_cut → xk, hx_has → xh, hx_skip → xi, hx_ret → xt, hx_exit → xe, seqQ_n → qn, seqQ_ret → qr, seqQ_exit → qe, blockQ_n → bn, blockQ_ret → br, blockQ_here → bh, hv_move → vm, hv_assign → va, hv_arith → vr, hv_load → vl, hv_loads → vL, hv_extract → vx, hv_field → vf, hv_build → vb, hv_index → vi, hp_pure → pp, hp_read → pr, hp_no → pn, has_cons → hc, has_nil → hn, hcells_cons → cc, hcells_nil → cn, rowcell → rc, hs_call → sc
set_option maxRecDepth 100000
set_option maxHeartbeats 4000000
theorem TyTBb.agg24 : aggB Tryd.prog 24 = some true := by kernel_rfl
theorem TyTBb.agg3 : aggB Tryd.prog 3 = some false := by kernel_rfl
theorem TyTBb.agg31 : aggB Tryd.prog 31 = some true := by kernel_rfl
theorem TyTBb.agg43 : aggB Tryd.prog 43 = some true := by kernel_rfl
theorem TyTBb.agg5 : aggB Tryd.prog 5 = some false := by kernel_rfl
theorem TyTBb.agg86 : aggB Tryd.prog 86 = some false := by kernel_rfl
theorem TyTBb.agg88 : aggB Tryd.prog 88 = some true := by kernel_rfl
theorem TyTBb.cb16 : CallB Tryd.prog 16 := fun _ _ => Tryd.call16 _ _
theorem TyTBb.cb17 : CallB Tryd.prog 17 := fun _ _ => Tryd.call17 _ _
theorem TyTBb.cb43 : CallB Tryd.prog 43 := fun _ _ => Tryd.call43 _ _
theorem TyTBb.cb44 : CallB Tryd.prog 44 := fun _ _ => Tryd.call44 _ _
theorem TyTBb.cb46 : CallB Tryd.prog 46 := fun _ _ => Tryd.call46 _ _
theorem TyTBb.cb69 : CallB Tryd.prog 69 := fun _ _ => Tryd.call69 _ _
theorem TyTBb.cb70 : CallB Tryd.prog 70 := fun _ _ => Tryd.call70 _ _
theorem TyTBb.cb71 : CallB Tryd.prog 71 := fun _ _ => Tryd.call71 _ _
theorem TyTBb.el25 : elB Tryd.prog 25 = some 1 := by kernel_rfl
theorem TyTBb.fld24_0 : fldB Tryd.prog 24 0 = some 0 := by kernel_rfl
theorem TyTBb.fld24_1 : fldB Tryd.prog 24 1 = some 1 := by kernel_rfl
theorem TyTBb.fld88_0 : fldB Tryd.prog 88 0 = some 0 := by kernel_rfl
theorem TyTBb.fld88_1 : fldB Tryd.prog 88 1 = some 1 := by kernel_rfl
theorem TyTBb.fld88_2 : fldB Tryd.prog 88 2 = some 2 := by kernel_rfl
theorem TyTBb.fld88_3 : fldB Tryd.prog 88 3 = some 3 := by kernel_rfl
theorem TyTBb.mixed : Tryd.prog.follows .mixedOrders = true := by kernel_rfl
theorem TyTBb.pl31 : plB Tryd.prog 31 = some [(0, 1), (1, 1), (2, 1)] := by kernel_rfl
theorem TyTBb.pl43 : plB Tryd.prog 43 = some [(0, 1), (1, 1), (2, 1), (3, 1)] := by kernel_rfl
theorem TyTBb.pl88 : plB Tryd.prog 88 = some [(0, 1), (1, 1), (2, 1), (3, 1)] := by kernel_rfl
theorem TyTBb.sz24 : szB Tryd.prog 24 = some 4 := by kernel_rfl
theorem TyTBb.sz31 : szB Tryd.prog 31 = some 3 := by kernel_rfl
theorem TyTBb.sz43 : szB Tryd.prog 43 = some 4 := by kernel_rfl
theorem TyTBb.sz5 : szB Tryd.prog 5 = some 1 := by kernel_rfl
theorem TyTBb.sz88 : szB Tryd.prog 88 = some 4 := by kernel_rfl
theorem TyTBb.u25 : Tryd.prog.underlying 25 = some (.slice 5) := by kernel_rfl
theorem TyTBb.u29 : Tryd.prog.underlying 29 = some (.int .u64) := by kernel_rfl
theorem TyTBb.u3 : Tryd.prog.underlying 3 = some (.int .i64) := by kernel_rfl
theorem TyTBb.u5 : Tryd.prog.underlying 5 = some (.int .u8) := by kernel_rfl
theorem TyTBb.u86 : Tryd.prog.underlying 86 = some (.int .u32) := by kernel_rfl
theorem TyTBb.u9 : Tryd.prog.underlying 9 = some (.string) := by kernel_rfl
theorem TyTBb.z31 : zeroB Tryd.prog 31 (.agg #[(.int .u64 0), (.int .u64 0), (.int .i64 0)]) := by unfold zeroB; kernel_rfl
theorem TyTBb.z43 : zeroB Tryd.prog 43 (.agg #[(.int .i64 0), (.int .u64 0), (.string ByteArray.empty), (.string ByteArray.empty)]) := by unfold zeroB; kernel_rfl
theorem TyTBb.z5 : zeroB Tryd.prog 5 (.int .u8 0) := by unfold zeroB; kernel_rfl
theorem TyTBb.z88 : zeroB Tryd.prog 88 (.agg #[(.int .i64 0), (.int .i64 0), (.int .u32 0), (.int .u32 0)]) := by unfold zeroB; kernel_rfl
theorem ext_pushed_f15_sh {h h1 : Heap} {o : Obj} (e : h1 = Array.push h o) : Ext h h1 := by rw [e]; exact Ext.push _ _
theorem f37_sh (a6 : Int) (a4 : Int) (a2 : Int) (a3 : Int) (a5 : Option Addr) (a0 : Nat) (a1 : Nat) (h : Heap) (R : Value → Heap → Prop)
  (H : (∀ (g : Nat) (pb : Nat) (h2 : Heap), Array.size h ≤ g → g < Array.size h2 → Array.size h ≤ pb → pb < Array.size h2 → Ext h h2 → HC Tryd.prog 16 #[(.agg #[(.int .i64 a6), (.int .i64 a4), (.int .i64 a2), (.int .i64 a3)])] h2 (fun vv h3 => Ext h2 h3 ∧ ∃ r : Int, vv = (.int .i64 r) ∧ (((r != 0) = true → (∀ h4, Fr (fun i => i = pb) h3 h4 → R (.tuple #[(.agg #[(.int .u64 0), (.int .u64 0), (.int .i64 0)]), (.int .i64 r)]) h4)) ∧ ((r != 0) = false → (((decide ((a0 : Int) < 32)) = true → (∀ h5, Fr (fun i => i = pb) h3 h5 → R (.tuple #[(.agg #[(.int .u64 0), (.int .u64 0), (.int .i64 0)]), (.int .i64 50)]) h5)) ∧ ((decide ((a0 : Int) < 32)) = false → (∃ b2 : Int, HC Tryd.prog 69 #[(.slice a5 a0 a1), (.int .i64 8), (.int .i64 8)] h3 (fun vv h' => vv = (.int .u64 b2) ∧ h' = h3) ∧ (∃ b3 : Int, HC Tryd.prog 69 #[(.slice a5 a0 a1), (.int .i64 16), (.int .i64 8)] h3 (fun vv h' => vv = (.int .u64 b3) ∧ h' = h3) ∧ (∃ b1 : Int, HC Tryd.prog 69 #[(.slice a5 a0 a1), (.int .i64 24), (.int .i64 4)] h3 (fun vv h' => vv = (.int .u64 b1) ∧ h' = h3) ∧ (∀ (hv : Nat) (h7 : Heap), Array.size h3 ≤ hv → hv < Array.size h7 → Ext h3 h7 → HC Tryd.prog 17 #[(.agg #[(.int .i64 a6), (.int .i64 a4), (.int .i64 a2), (.int .i64 a3)]), (.agg #[(.int .u64 b2), (.int .u64 b3), (.int .i64 (IntKind.i64.wrap b1))])] h7 (fun vv h8 => Ext h7 h8 ∧ ∃ r0 : Option Addr, ∃ b6 b5 : Nat, ∃ r1 : Int, vv = (.tuple #[(.slice r0 b6 b5), (.int .i64 r1)]) ∧ (∃ j : Bool, (((r1 != 0) = true → (j = true)) ∧ ((r1 != 0) = false → (0 ≤ ((0 : Int) : Int) ∧ (0 : Int) ≤ (32 : Int) ∧ (32 : Int) ≤ (a1 : Int) ∧ ∀ sl : Option Addr, sl = slA a5 (Int.toNat 0) 1 a1 → (∃ b7 : Bool, HC Tryd.prog 70 #[(.slice r0 b6 b5), (.slice sl (Int.toNat 32 - Int.toNat 0) (a1 - Int.toNat 0))] h8 (fun vv h' => vv = (.bool b7) ∧ h' = h8) ∧ (j = (!b7)))))) ∧ ((j = true → (∀ h9, Fr (fun i => i = pb) h8 h9 → R (.tuple #[(.agg #[(.int .u64 0), (.int .u64 0), (.int .i64 0)]), (.int .i64 50)]) h9)) ∧ (j = false → (∀ c0, Fr (fun i => i = pb) h8 c0 → R (.tuple #[(.agg #[(.int .u64 b2), (.int .u64 b3), (.int .i64 (IntKind.i64.wrap b1))]), (.int .i64 0)]) c0)))))))))))))))) :
  HC Tryd.prog 37 #[(.agg #[(.int .i64 a6), (.int .i64 a4), (.int .i64 a2), (.int .i64 a3)]), (.slice a5 a0 a1)] h R := by
 refine hc_of (args := [(.agg #[(.int .i64 a6), (.int .i64 a4), (.int .i64 a2), (.int .i64 a3)]), (.slice a5 a0 a1)]) Tryd.func37 rfl Tryd.ntmps37 (Nat.le_of_ble_eq_true rfl) ?_
 refine xs (xr ?_)
 refine lp rfl rfl (hn_box (v := (.agg #[(.int .i64 a6), (.int .i64 a4), (.int .i64 a2), (.int .i64 a3)])) rfl ?_)
 intro g h1 e0 d9
 have e1 := ext_pushed_f15_sh d9
 have f5 : Array.size h ≤ g := Nat.le_of_eq (Eq.symm e0)
 have a7 : h1[g]? = some (.cells #[(.int .i64 a6), (.int .i64 a4), (.int .i64 a2), (.int .i64 a3)] 24 (0, 0)) := by rw [d9]; exact push_new e0
 refine lp rfl rfl (hn_alloc TyTBb.z31 ?_)
 intro pb h2 d7 e3
 have e2 := ext_pushed_f15_sh e3
 have d6 := Nat.ne_of_lt (Nat.lt_of_lt_of_eq (row_lt a7) (Eq.symm d7))
 have e6 : Array.size h ≤ pb := Nat.le_trans (Ext.size e1) (Nat.le_of_eq (Eq.symm d7))
 have b4 : h2[pb]? = some (.cells #[(.int .u64 0), (.int .u64 0), (.int .i64 0)] 31 (0, 0)) := by rw [e3]; exact push_new d7
 replace a7 := Ext.row e2 a7
 have e9 := Ext.trans e1 e2
 refine lv rfl rfl (va rfl) ?_
 refine ln (qn (xs (xs (xr ?_))))
 refine lv rfl rfl (vL (vs := [(.int .i64 a6), (.int .i64 a4), (.int .i64 a2), (.int .i64 a3)]) TyTBb.agg24 TyTBb.sz24 rfl (cc (rc a7 rfl) (cc (rc a7 rfl) (cc (rc a7 rfl) (cc (rc a7 rfl) cn))))) ?_
 replace H := H g pb h2 f5 (row_lt a7) e6 (row_lt b4) e9
 refine lp rfl rfl (sc TyTBb.cb16 rfl (HC.mono H ?_))
 rintro _ h3 ⟨d2, r, rfl, H⟩
 replace a7 := Ext.row d2 a7
 replace b4 := Ext.row d2 b4
 refine lv rfl rfl (va rfl) ?_
 refine ln (qn (xs (xr ?_)))
 refine lv rfl rfl (vm rfl) (lv rfl rfl (vr rfl rfl rfl) ?_)
 refine ln (qn ?_)
 refine xc (b := r != 0) rfl (fun c5 => ?_) (fun c5 => ?_)
 ·replace H := H.1 c5
  refine xs (xr ?_)
  refine lv rfl rfl (v := (.agg #[(.int .u64 0), (.int .u64 0), (.int .i64 0)])) (vb (vs := []) (cs := #[(.int .u64 0), (.int .u64 0), (.int .i64 0)]) TyTBb.z31 TyTBb.pl31 rfl (by kernel_rfl)) (lv rfl rfl (vm rfl) ?_)
  refine lp rfl rfl (hn_stores (vs := [(.int .u64 0), (.int .u64 0), (.int .i64 0)]) rfl rfl TyTBb.sz31 rfl (HWs_row b4 (by simp)) ?_)
  intro h4 c9
  replace a7 := row_hsets_ne c9 d6 a7
  have b0 : h4[pb]? = some (.cells #[(.int .u64 0), (.int .u64 0), (.int .i64 0)] 31 (0, 0)) := row_hsets_eq c9 b4 rfl
  replace H := H h4 (fr_hsets_of c9)
  refine lv rfl rfl (va rfl) ?_
  refine ln (qn (xt (qr ?_)))
  exact endQ_ret _ (res_two Tryd.results37 (rv_cell (vs := [(.int .u64 0), (.int .u64 0), (.int .i64 0)]) TyTBb.agg31 TyTBb.sz31 rfl (cc (rc b0 rfl) (cc (rc b0 rfl) (cc (rc b0 rfl) cn)))) (rv_tmp rfl)) H
 ·replace H := H.2 c5
  refine xi (qn (xs (xs (xr ?_))))
  refine lv rfl rfl (vm rfl) (lv rfl rfl (v := (.int .i64 (a0 : Int))) (hv_len (n := a0) TyTBb.u25 rfl) (lv rfl rfl (vr rfl rfl rfl) ?_))
  refine ln (qn ?_)
  refine xc (b := decide ((a0 : Int) < 32)) rfl (fun c2 => ?_) (fun c2 => ?_)
  ·replace H := H.1 c2
   refine xs (xr ?_)
   refine lv rfl rfl (v := (.agg #[(.int .u64 0), (.int .u64 0), (.int .i64 0)])) (vb (vs := []) (cs := #[(.int .u64 0), (.int .u64 0), (.int .i64 0)]) TyTBb.z31 TyTBb.pl31 rfl (by kernel_rfl)) ?_
   refine lp rfl rfl (hn_stores (vs := [(.int .u64 0), (.int .u64 0), (.int .i64 0)]) rfl rfl TyTBb.sz31 rfl (HWs_row b4 (by simp)) ?_)
   intro h5 d0
   replace a7 := row_hsets_ne d0 d6 a7
   have b0 : h5[pb]? = some (.cells #[(.int .u64 0), (.int .u64 0), (.int .i64 0)] 31 (0, 0)) := row_hsets_eq d0 b4 rfl
   replace H := H h5 (fr_hsets_of d0)
   refine lv rfl rfl (va rfl) ?_
   refine ln (qn (xt (qr ?_)))
   exact endQ_ret _ (res_two Tryd.results37 (rv_cell (vs := [(.int .u64 0), (.int .u64 0), (.int .i64 0)]) TyTBb.agg31 TyTBb.sz31 rfl (cc (rc b0 rfl) (cc (rc b0 rfl) (cc (rc b0 rfl) cn)))) (rv_tmp rfl)) H
  ·replace H := H.2 c2
   refine xi (qn (xs (xr ?_)))
   refine lv rfl rfl (vm rfl) ?_
   obtain ⟨b2, f1, H⟩ := H
   refine lv rfl rfl (hv_call TyTBb.cb69 (vs := [(.slice a5 a0 a1), (.int .i64 8), (.int .i64 8)]) rfl f1) (lv rfl rfl (vm rfl) ?_)
   obtain ⟨b3, f3, H⟩ := H
   refine lv rfl rfl (hv_call TyTBb.cb69 (vs := [(.slice a5 a0 a1), (.int .i64 16), (.int .i64 8)]) rfl f3) (lv rfl rfl (vm rfl) ?_)
   obtain ⟨b1, e8, H⟩ := H
   refine lv rfl rfl (hv_call TyTBb.cb69 (vs := [(.slice a5 a0 a1), (.int .i64 24), (.int .i64 4)]) rfl e8) (lv rfl rfl (v := (.int .i64 (IntKind.i64.wrap b1))) (hv_convInt TyTBb.u29 TyTBb.u3 rfl) (lv rfl rfl (v := (.agg #[(.int .u64 b2), (.int .u64 b3), (.int .i64 (IntKind.i64.wrap b1))])) (vb (vs := [(0, (.int .u64 b2)), (1, (.int .u64 b3)), (2, (.int .i64 (IntKind.i64.wrap b1)))]) (cs := #[(.int .u64 b2), (.int .u64 b3), (.int .i64 (IntKind.i64.wrap b1))]) TyTBb.z31 TyTBb.pl31 rfl (by kernel_rfl)) ?_))
   refine lp rfl rfl (hn_alloc TyTBb.z31 ?_)
   intro hv h6 b9 d5
   have c8 := ext_pushed_f15_sh d5
   have e4 := Nat.ne_of_lt (Nat.lt_of_lt_of_eq (row_lt a7) (Eq.symm b9))
   have d1 := Nat.ne_of_lt (Nat.lt_of_lt_of_eq (row_lt b4) (Eq.symm b9))
   have d8 : Array.size h3 ≤ hv := Nat.le_of_eq (Eq.symm b9)
   have d4 : h6[hv]? = some (.cells #[(.int .u64 0), (.int .u64 0), (.int .i64 0)] 31 (0, 0)) := by rw [d5]; exact push_new b9
   replace a7 := Ext.row c8 a7
   replace b4 := Ext.row c8 b4
   refine lp rfl rfl (hn_stores (vs := [(.int .u64 b2), (.int .u64 b3), (.int .i64 (IntKind.i64.wrap b1))]) rfl rfl TyTBb.sz31 rfl (HWs_row d4 (by simp)) ?_)
   intro h7 b8
   replace a7 := row_hsets_ne b8 e4 a7
   replace b4 := row_hsets_ne b8 d1 b4
   have a8 : h7[hv]? = some (.cells #[(.int .u64 b2), (.int .u64 b3), (.int .i64 (IntKind.i64.wrap b1))] 31 (0, 0)) := row_hsets_eq b8 d4 rfl
   have e7 := ext_hsets b8 c8 d8
   refine ln (qn (xs (xr ?_)))
   refine lv rfl rfl (vL (vs := [(.int .i64 a6), (.int .i64 a4), (.int .i64 a2), (.int .i64 a3)]) TyTBb.agg24 TyTBb.sz24 rfl (cc (rc a7 rfl) (cc (rc a7 rfl) (cc (rc a7 rfl) (cc (rc a7 rfl) cn))))) (lv rfl rfl (vL (vs := [(.int .u64 b2), (.int .u64 b3), (.int .i64 (IntKind.i64.wrap b1))]) TyTBb.agg31 TyTBb.sz31 rfl (cc (rc a8 rfl) (cc (rc a8 rfl) (cc (rc a8 rfl) cn)))) ?_)
   replace H := H hv h7 d8 (row_lt a8) e7
   refine lp rfl rfl (sc TyTBb.cb17 rfl (HC.mono H ?_))
   rintro _ h8 ⟨d3, r0, b6, b5, r1, rfl, H⟩
   replace b4 := Ext.row d3 b4
   replace a8 := Ext.row d3 a8
   refine lv rfl rfl (vm rfl) (lv rfl rfl (vx rfl rfl) (lv rfl rfl (vx rfl rfl) (lv rfl rfl (va rfl) (lv rfl rfl (va rfl) ?_))))
   refine ln (qn (xs ?_))
   obtain ⟨j, c6, c4⟩ := H
   refine xk (fun ρ h' => h8 = h' ∧ Has ρ [(4, (ptr pb 0)), (7, (ptr hv 0)), (42, (.bool j))]) ?_ ?_
   ·have H := c6; clear c6 c4
    refine xr ?_
    refine lv rfl rfl (vm rfl) (lv rfl rfl (vr rfl rfl rfl) (lv rfl rfl (vm rfl) ?_))
    rcases bool_or (r1 != 0) with a9 | a9
    ·replace H := H.1 a9
     refine lo (wanted_n rfl rfl rfl a9) rfl ?_
     refine lo (wanted_n rfl rfl rfl a9) rfl ?_
     refine lo (wanted_n rfl rfl rfl a9) rfl ?_
     refine lo (wanted_n rfl rfl rfl a9) rfl ?_
     refine lo (wanted_n rfl rfl rfl a9) rfl ?_
     refine lv rfl rfl (v := (.bool true)) (hv_pick_t rfl a9 rfl) ?_
     refine ln (qn ?_)
     obtain rfl := H
     exact ⟨rfl, (hc rfl (hc rfl (hc rfl hn)))⟩
    ·replace H := H.2 a9
     refine ly (wanted_y rfl rfl rfl a9) rfl (HStep.of_val (v := (.slice r0 b6 b5)) (vm rfl) ?_)
     refine ly (wanted_y rfl rfl rfl a9) rfl (HStep.of_val (v := (.slice a5 a0 a1)) (vm rfl) ?_)
     obtain ⟨e5, f0, f2, H⟩ := H
     obtain ⟨sl, hq37⟩ : ∃ q, q = slA a5 (Int.toNat 0) 1 a1 := ⟨_, rfl⟩
     replace H := H sl hq37
     refine ly (wanted_y rfl rfl rfl a9) rfl (HStep.of_val (v := (.slice sl (Int.toNat 32 - Int.toNat 0) (a1 - Int.toNat 0))) (hv_slice (l := 0) (r := 32) TyTBb.u25 TyTBb.sz5 rfl sl_none (sh_some rfl) e5 f0 f2 hq37) ?_)
     obtain ⟨b7, f4, H⟩ := H
     refine ly (wanted_y rfl rfl rfl a9) rfl (HStep.of_val (v := (.bool b7)) (hv_call TyTBb.cb70 (vs := [(.slice r0 b6 b5), (.slice sl (Int.toNat 32 - Int.toNat 0) (a1 - Int.toNat 0))]) rfl f4) ?_)
     refine ly (wanted_y rfl rfl rfl a9) rfl (HStep.of_val (v := (.bool (!b7))) (hv_not (b := b7) rfl) ?_)
     refine lv rfl rfl (v := (.bool (!b7))) (hv_pick_f rfl a9 rfl) ?_
     refine ln (qn ?_)
     obtain rfl := H
     exact ⟨rfl, (hc rfl (hc rfl (hc rfl hn)))⟩
   ·have H := c4; clear c6 c4
    rintro ρ _ ⟨rfl, hH⟩
    refine xh _ hH ?_
    refine xc (b := j) rfl (fun c3 => ?_) (fun c3 => ?_)
    ·replace H := H.1 c3
     refine xs (xr ?_)
     refine lv rfl rfl (v := (.agg #[(.int .u64 0), (.int .u64 0), (.int .i64 0)])) (vb (vs := []) (cs := #[(.int .u64 0), (.int .u64 0), (.int .i64 0)]) TyTBb.z31 TyTBb.pl31 rfl (by kernel_rfl)) ?_
     refine lp rfl rfl (hn_stores (vs := [(.int .u64 0), (.int .u64 0), (.int .i64 0)]) rfl rfl TyTBb.sz31 rfl (HWs_row b4 (by simp)) ?_)
     intro h9 c7
     replace a8 := row_hsets_ne c7 (Ne.symm d1) a8
     have b0 : h9[pb]? = some (.cells #[(.int .u64 0), (.int .u64 0), (.int .i64 0)] 31 (0, 0)) := row_hsets_eq c7 b4 rfl
     replace H := H h9 (fr_hsets_of c7)
     refine lv rfl rfl (va rfl) ?_
     refine ln (qn (xt (qr ?_)))
     exact endQ_ret _ (res_two Tryd.results37 (rv_cell (vs := [(.int .u64 0), (.int .u64 0), (.int .i64 0)]) TyTBb.agg31 TyTBb.sz31 rfl (cc (rc b0 rfl) (cc (rc b0 rfl) (cc (rc b0 rfl) cn)))) (rv_tmp rfl)) H
    ·replace H := H.2 c3
     refine xi (qn (xs (xr ?_)))
     refine lv rfl rfl (vL (vs := [(.int .u64 b2), (.int .u64 b3), (.int .i64 (IntKind.i64.wrap b1))]) TyTBb.agg31 TyTBb.sz31 rfl (cc (rc a8 rfl) (cc (rc a8 rfl) (cc (rc a8 rfl) cn)))) ?_
     refine lp rfl rfl (hn_stores (vs := [(.int .u64 b2), (.int .u64 b3), (.int .i64 (IntKind.i64.wrap b1))]) rfl rfl TyTBb.sz31 rfl (HWs_row b4 (by simp)) ?_)
     intro c0 c1
     replace a8 := row_hsets_ne c1 (Ne.symm d1) a8
     have b0 : c0[pb]? = some (.cells #[(.int .u64 b2), (.int .u64 b3), (.int .i64 (IntKind.i64.wrap b1))] 31 (0, 0)) := row_hsets_eq c1 b4 rfl
     replace H := H c0 (fr_hsets_of c1)
     refine lv rfl rfl (va rfl) ?_
     refine ln (qn (xt ?_))
     exact endQ_ret _ (res_two Tryd.results37 (rv_cell (vs := [(.int .u64 b2), (.int .u64 b3), (.int .i64 (IntKind.i64.wrap b1))]) TyTBb.agg31 TyTBb.sz31 rfl (cc (rc b0 rfl) (cc (rc b0 rfl) (cc (rc b0 rfl) cn)))) (rv_tmp rfl)) H
theorem f39_sh (a5 : Int) (a2 : Int) (a3 : Int) (a6 : Int) (a4 : Option Addr) (a0 : Nat) (a1 : Nat) (h : Heap) (R : Value → Heap → Prop)
  (H : (∀ (g : Nat) (pb : Nat) (h2 : Heap), Array.size h ≤ g → g < Array.size h2 → Array.size h ≤ pb → pb < Array.size h2 → Ext h h2 → HC Tryd.prog 16 #[(.agg #[(.int .i64 a5), (.int .i64 a2), (.int .i64 a3), (.int .i64 a6)])] h2 (fun vv h3 => Ext h2 h3 ∧ ∃ r : Int, vv = (.int .i64 r) ∧ (((r != 0) = true → (∀ h4, Fr (fun i => i = pb) h3 h4 → R (.tuple #[(.agg #[(.int .i64 0), (.int .i64 0), (.int .u32 0), (.int .u32 0)]), (.int .i64 r)]) h4)) ∧ ((r != 0) = false → ((((a0 : Int) != (IntKind.i64.wrap (a5 * a2))) = true → (∀ h5, Fr (fun i => i = pb) h3 h5 → R (.tuple #[(.agg #[(.int .i64 0), (.int .i64 0), (.int .u32 0), (.int .u32 0)]), (.int .i64 51)]) h5)) ∧ (((a0 : Int) != (IntKind.i64.wrap (a5 * a2))) = false → (∃ b4 : Int, HC Tryd.prog 69 #[(.slice a4 a0 a1), (.int .i64 (IntKind.i64.wrap ((IntKind.i64.wrap ((a0 : Int) - 24)) + 4))), (.int .i64 4)] h3 (fun vv h' => vv = (.int .u64 b4) ∧ h' = h3) ∧ (∃ a9 : Int, HC Tryd.prog 69 #[(.slice a4 a0 a1), (.int .i64 (IntKind.i64.wrap ((IntKind.i64.wrap ((a0 : Int) - 24)) + 8))), (.int .i64 4)] h3 (fun vv h' => vv = (.int .u64 a9) ∧ h' = h3) ∧ (∃ b5 : Int, HC Tryd.prog 69 #[(.slice a4 a0 a1), (.int .i64 (IntKind.i64.wrap ((IntKind.i64.wrap ((a0 : Int) - 24)) + 12))), (.int .i64 4)] h3 (fun vv h' => vv = (.int .u64 b5) ∧ h' = h3) ∧ (∃ b3 : Int, HC Tryd.prog 69 #[(.slice a4 a0 a1), (.int .i64 (IntKind.i64.wrap ((IntKind.i64.wrap ((a0 : Int) - 24)) + 16))), (.int .i64 4)] h3 (fun vv h' => vv = (.int .u64 b3) ∧ h' = h3) ∧ (∀ (f : Nat) (h7 : Heap), Array.size h3 ≤ f → f < Array.size h7 → Ext h3 h7 → HC Tryd.prog 71 #[(.agg #[(.int .i64 a5), (.int .i64 a2), (.int .i64 a3), (.int .i64 a6)]), (.agg #[(.int .i64 (IntKind.i64.wrap b4)), (.int .i64 (IntKind.i64.wrap a9)), (.int .u32 (IntKind.u32.wrap b5)), (.int .u32 (IntKind.u32.wrap b3))])] h7 (fun vv h8 => Kp [pb, f] h7 h8 ∧ ∃ r0 : Option Addr, ∃ b8 b7 : Nat, ∃ r1 : Int, vv = (.tuple #[(.slice r0 b8 b7), (.int .i64 r1)]) ∧ (∃ j : Bool, (((r1 != 0) = true → (j = true)) ∧ ((r1 != 0) = false → (0 ≤ (IntKind.i64.wrap ((a0 : Int) - 24) : Int) ∧ IntKind.i64.wrap ((a0 : Int) - 24) ≤ (a0 : Int) ∧ (a0 : Int) ≤ (a1 : Int) ∧ ∀ sl : Option Addr, sl = slA a4 (Int.toNat (IntKind.i64.wrap ((a0 : Int) - 24))) 1 a1 → (∃ b9 : Bool, (∀ d9, Ext h8 d9 → HC Tryd.prog 70 #[(.slice r0 b8 b7), (.slice sl (Int.toNat (a0 : Int) - Int.toNat (IntKind.i64.wrap ((a0 : Int) - 24))) (a1 - Int.toNat (IntKind.i64.wrap ((a0 : Int) - 24))))] d9 (fun vv h' => vv = (.bool b9) ∧ h' = d9)) ∧ (((!b9) = true → (j = true)) ∧ ((!b9) = false → (0 ≤ ((0 : Int) : Int) ∧ (0 : Int) ≤ IntKind.i64.wrap a9 ∧ IntKind.i64.wrap a9 ≤ (a1 : Int) ∧ ∀ c0 : Option Addr, c0 = slA a4 (Int.toNat 0) 1 a1 → (∃ c1 : Int, (∀ h9, Ext h8 h9 → HC Tryd.prog 44 #[(.slice c0 (Int.toNat (IntKind.i64.wrap a9) - Int.toNat 0) (a1 - Int.toNat 0))] h9 (fun vv h' => vv = (.int .u32 c1) ∧ h' = h9)) ∧ (j = (c1 != (IntKind.u32.wrap b3))))))))))) ∧ ((j = true → (∀ c4, Fr (fun i => i = pb) h8 c4 → R (.tuple #[(.agg #[(.int .i64 0), (.int .i64 0), (.int .u32 0), (.int .u32 0)]), (.int .i64 51)]) c4)) ∧ (j = false → (∀ c5, Fr (fun i => i = pb) h8 c5 → R (.tuple #[(.agg #[(.int .i64 (IntKind.i64.wrap b4)), (.int .i64 (IntKind.i64.wrap a9)), (.int .u32 (IntKind.u32.wrap b5)), (.int .u32 (IntKind.u32.wrap b3))]), (.int .i64 0)]) c5))))))))))))))))) :
  HC Tryd.prog 39 #[(.agg #[(.int .i64 a5), (.int .i64 a2), (.int .i64 a3), (.int .i64 a6)]), (.slice a4 a0 a1)] h R := by
 refine hc_of (args := [(.agg #[(.int .i64 a5), (.int .i64 a2), (.int .i64 a3), (.int .i64 a6)]), (.slice a4 a0 a1)]) Tryd.func39 rfl Tryd.ntmps39 (Nat.le_of_ble_eq_true rfl) ?_
 refine xs (xr ?_)
 refine lp rfl rfl (hn_box (v := (.agg #[(.int .i64 a5), (.int .i64 a2), (.int .i64 a3), (.int .i64 a6)])) rfl ?_)
 intro g h1 e6 e5
 have e7 := ext_pushed_f15_sh e5
 have g6 : Array.size h ≤ g := Nat.le_of_eq (Eq.symm e6)
 have b1 : h1[g]? = some (.cells #[(.int .i64 a5), (.int .i64 a2), (.int .i64 a3), (.int .i64 a6)] 24 (0, 0)) := by rw [e5]; exact push_new e6
 refine lp rfl rfl (hn_alloc TyTBb.z88 ?_)
 intro pb h2 e1 e9
 have e8 := ext_pushed_f15_sh e9
 have e0 := Nat.ne_of_lt (Nat.lt_of_lt_of_eq (row_lt b1) (Eq.symm e1))
 have f3 : Array.size h ≤ pb := Nat.le_trans (Ext.size e7) (Nat.le_of_eq (Eq.symm e1))
 have b6 : h2[pb]? = some (.cells #[(.int .i64 0), (.int .i64 0), (.int .u32 0), (.int .u32 0)] 88 (0, 0)) := by rw [e9]; exact push_new e1
 replace b1 := Ext.row e8 b1
 have f7 := Ext.trans e7 e8
 refine lv rfl rfl (va rfl) ?_
 refine ln (qn (xs (xs (xr ?_))))
 refine lv rfl rfl (vL (vs := [(.int .i64 a5), (.int .i64 a2), (.int .i64 a3), (.int .i64 a6)]) TyTBb.agg24 TyTBb.sz24 rfl (cc (rc b1 rfl) (cc (rc b1 rfl) (cc (rc b1 rfl) (cc (rc b1 rfl) cn))))) ?_
 replace H := H g pb h2 g6 (row_lt b1) f3 (row_lt b6) f7
 refine lp rfl rfl (sc TyTBb.cb16 rfl (HC.mono H ?_))
 rintro _ h3 ⟨d7, r, rfl, H⟩
 replace b1 := Ext.row d7 b1
 replace b6 := Ext.row d7 b6
 refine lv rfl rfl (va rfl) ?_
 refine ln (qn (xs (xr ?_)))
 refine lv rfl rfl (vm rfl) (lv rfl rfl (vr rfl rfl rfl) ?_)
 refine ln (qn ?_)
 refine xc (b := r != 0) rfl (fun d0 => ?_) (fun d0 => ?_)
 ·replace H := H.1 d0
  refine xs (xr ?_)
  refine lv rfl rfl (v := (.agg #[(.int .i64 0), (.int .i64 0), (.int .u32 0), (.int .u32 0)])) (vb (vs := []) (cs := #[(.int .i64 0), (.int .i64 0), (.int .u32 0), (.int .u32 0)]) TyTBb.z88 TyTBb.pl88 rfl (by kernel_rfl)) (lv rfl rfl (vm rfl) ?_)
  refine lp rfl rfl (hn_stores (vs := [(.int .i64 0), (.int .i64 0), (.int .u32 0), (.int .u32 0)]) rfl rfl TyTBb.sz88 rfl (HWs_row b6 (by simp)) ?_)
  intro h4 d5
  replace b1 := row_hsets_ne d5 e0 b1
  have b0 : h4[pb]? = some (.cells #[(.int .i64 0), (.int .i64 0), (.int .u32 0), (.int .u32 0)] 88 (0, 0)) := row_hsets_eq d5 b6 rfl
  replace H := H h4 (fr_hsets_of d5)
  refine lv rfl rfl (va rfl) ?_
  refine ln (qn (xt (qr ?_)))
  exact endQ_ret _ (res_two Tryd.results39 (rv_cell (vs := [(.int .i64 0), (.int .i64 0), (.int .u32 0), (.int .u32 0)]) TyTBb.agg88 TyTBb.sz88 rfl (cc (rc b0 rfl) (cc (rc b0 rfl) (cc (rc b0 rfl) (cc (rc b0 rfl) cn))))) (rv_tmp rfl)) H
 ·replace H := H.2 d0
  refine xi (qn (xs (xs (xr ?_))))
  refine lv rfl rfl (vm rfl) (lv rfl rfl (v := (.int .i64 (a0 : Int))) (hv_len (n := a0) TyTBb.u25 rfl) (lv rfl rfl (v := (ptr g 0)) (vf TyTBb.fld24_0 (b := g) (o := 0) rfl) (lv rfl rfl (vl TyTBb.agg3 rfl (rc b1 rfl)) (lv rfl rfl (v := (ptr g 1)) (vf TyTBb.fld24_1 (b := g) (o := 0) rfl) (lv rfl rfl (vl TyTBb.agg3 rfl (rc b1 rfl)) ?_)))))
  refine lv rfl rfl (vr rfl rfl rfl) (lv rfl rfl (vr rfl rfl rfl) ?_)
  refine ln (qn ?_)
  refine xc (b := (a0 : Int) != (IntKind.i64.wrap (a5 * a2))) rfl (fun c7 => ?_) (fun c7 => ?_)
  ·replace H := H.1 c7
   refine xs (xr ?_)
   refine lv rfl rfl (v := (.agg #[(.int .i64 0), (.int .i64 0), (.int .u32 0), (.int .u32 0)])) (vb (vs := []) (cs := #[(.int .i64 0), (.int .i64 0), (.int .u32 0), (.int .u32 0)]) TyTBb.z88 TyTBb.pl88 rfl (by kernel_rfl)) ?_
   refine lp rfl rfl (hn_stores (vs := [(.int .i64 0), (.int .i64 0), (.int .u32 0), (.int .u32 0)]) rfl rfl TyTBb.sz88 rfl (HWs_row b6 (by simp)) ?_)
   intro h5 d6
   replace b1 := row_hsets_ne d6 e0 b1
   have b0 : h5[pb]? = some (.cells #[(.int .i64 0), (.int .i64 0), (.int .u32 0), (.int .u32 0)] 88 (0, 0)) := row_hsets_eq d6 b6 rfl
   replace H := H h5 (fr_hsets_of d6)
   refine lv rfl rfl (va rfl) ?_
   refine ln (qn (xt (qr ?_)))
   exact endQ_ret _ (res_two Tryd.results39 (rv_cell (vs := [(.int .i64 0), (.int .i64 0), (.int .u32 0), (.int .u32 0)]) TyTBb.agg88 TyTBb.sz88 rfl (cc (rc b0 rfl) (cc (rc b0 rfl) (cc (rc b0 rfl) (cc (rc b0 rfl) cn))))) (rv_tmp rfl)) H
  ·replace H := H.2 c7
   refine xi (qn (xs (xr ?_)))
   refine lv rfl rfl (vm rfl) (lv rfl rfl (v := (.int .i64 (a0 : Int))) (hv_len (n := a0) TyTBb.u25 rfl) (lv rfl rfl (vr rfl rfl rfl) (lv rfl rfl (va rfl) ?_)))
   refine ln (qn (xs (xr ?_)))
   refine lv rfl rfl (vm rfl) (lv rfl rfl (vm rfl) (lv rfl rfl (vr rfl rfl rfl) ?_))
   obtain ⟨b4, g2, H⟩ := H
   refine lv rfl rfl (hv_call TyTBb.cb69 (vs := [(.slice a4 a0 a1), (.int .i64 (IntKind.i64.wrap ((IntKind.i64.wrap ((a0 : Int) - 24)) + 4))), (.int .i64 4)]) rfl g2) (lv rfl rfl (v := (.int .i64 (IntKind.i64.wrap b4))) (hv_convInt TyTBb.u29 TyTBb.u3 rfl) (lv rfl rfl (vm rfl) (lv rfl rfl (vm rfl) (lv rfl rfl (vr rfl rfl rfl) ?_))))
   obtain ⟨a9, g4, H⟩ := H
   refine lv rfl rfl (hv_call TyTBb.cb69 (vs := [(.slice a4 a0 a1), (.int .i64 (IntKind.i64.wrap ((IntKind.i64.wrap ((a0 : Int) - 24)) + 8))), (.int .i64 4)]) rfl g4) (lv rfl rfl (v := (.int .i64 (IntKind.i64.wrap a9))) (hv_convInt TyTBb.u29 TyTBb.u3 rfl) (lv rfl rfl (vm rfl) (lv rfl rfl (vm rfl) (lv rfl rfl (vr rfl rfl rfl) ?_))))
   obtain ⟨b5, f6, H⟩ := H
   refine lv rfl rfl (hv_call TyTBb.cb69 (vs := [(.slice a4 a0 a1), (.int .i64 (IntKind.i64.wrap ((IntKind.i64.wrap ((a0 : Int) - 24)) + 12))), (.int .i64 4)]) rfl f6) (lv rfl rfl (v := (.int .u32 (IntKind.u32.wrap b5))) (hv_convInt TyTBb.u29 TyTBb.u86 rfl) (lv rfl rfl (vm rfl) (lv rfl rfl (vm rfl) (lv rfl rfl (vr rfl rfl rfl) ?_))))
   obtain ⟨b3, f9, H⟩ := H
   refine lv rfl rfl (hv_call TyTBb.cb69 (vs := [(.slice a4 a0 a1), (.int .i64 (IntKind.i64.wrap ((IntKind.i64.wrap ((a0 : Int) - 24)) + 16))), (.int .i64 4)]) rfl f9) (lv rfl rfl (v := (.int .u32 (IntKind.u32.wrap b3))) (hv_convInt TyTBb.u29 TyTBb.u86 rfl) (lv rfl rfl (v := (.agg #[(.int .i64 (IntKind.i64.wrap b4)), (.int .i64 (IntKind.i64.wrap a9)), (.int .u32 (IntKind.u32.wrap b5)), (.int .u32 (IntKind.u32.wrap b3))])) (vb (vs := [(0, (.int .i64 (IntKind.i64.wrap b4))), (1, (.int .i64 (IntKind.i64.wrap a9))), (2, (.int .u32 (IntKind.u32.wrap b5))), (3, (.int .u32 (IntKind.u32.wrap b3)))]) (cs := #[(.int .i64 (IntKind.i64.wrap b4)), (.int .i64 (IntKind.i64.wrap a9)), (.int .u32 (IntKind.u32.wrap b5)), (.int .u32 (IntKind.u32.wrap b3))]) TyTBb.z88 TyTBb.pl88 rfl (by kernel_rfl)) ?_))
   refine lp rfl rfl (hn_alloc TyTBb.z88 ?_)
   intro f h6 c3 e3
   have c9 := ext_pushed_f15_sh e3
   have g5 := Nat.ne_of_lt (Nat.lt_of_lt_of_eq (row_lt b1) (Eq.symm c3))
   have d3 := Nat.ne_of_lt (Nat.lt_of_lt_of_eq (row_lt b6) (Eq.symm c3))
   have e2 : Array.size h3 ≤ f := Nat.le_of_eq (Eq.symm c3)
   have e4 : h6[f]? = some (.cells #[(.int .i64 0), (.int .i64 0), (.int .u32 0), (.int .u32 0)] 88 (0, 0)) := by rw [e3]; exact push_new c3
   replace b1 := Ext.row c9 b1
   replace b6 := Ext.row c9 b6
   refine lp rfl rfl (hn_stores (vs := [(.int .i64 (IntKind.i64.wrap b4)), (.int .i64 (IntKind.i64.wrap a9)), (.int .u32 (IntKind.u32.wrap b5)), (.int .u32 (IntKind.u32.wrap b3))]) rfl rfl TyTBb.sz88 rfl (HWs_row e4 (by simp)) ?_)
   intro h7 c2
   replace b1 := row_hsets_ne c2 g5 b1
   replace b6 := row_hsets_ne c2 d3 b6
   have a7 : h7[f]? = some (.cells #[(.int .i64 (IntKind.i64.wrap b4)), (.int .i64 (IntKind.i64.wrap a9)), (.int .u32 (IntKind.u32.wrap b5)), (.int .u32 (IntKind.u32.wrap b3))] 88 (0, 0)) := row_hsets_eq c2 e4 rfl
   have f8 := ext_hsets c2 c9 e2
   refine ln (qn (xs (xr ?_)))
   refine lv rfl rfl (vL (vs := [(.int .i64 a5), (.int .i64 a2), (.int .i64 a3), (.int .i64 a6)]) TyTBb.agg24 TyTBb.sz24 rfl (cc (rc b1 rfl) (cc (rc b1 rfl) (cc (rc b1 rfl) (cc (rc b1 rfl) cn))))) (lv rfl rfl (vL (vs := [(.int .i64 (IntKind.i64.wrap b4)), (.int .i64 (IntKind.i64.wrap a9)), (.int .u32 (IntKind.u32.wrap b5)), (.int .u32 (IntKind.u32.wrap b3))]) TyTBb.agg88 TyTBb.sz88 rfl (cc (rc a7 rfl) (cc (rc a7 rfl) (cc (rc a7 rfl) (cc (rc a7 rfl) cn))))) ?_)
   replace H := H f h7 e2 (row_lt a7) f8
   refine lp rfl rfl (sc TyTBb.cb71 rfl (HC.mono H ?_))
   rintro _ h8 ⟨d8, r0, b8, b7, r1, rfl, H⟩
   replace b6 := Kp.row d8 (by simp) b6
   replace a7 := Kp.row d8 (by simp) a7
   refine lv rfl rfl (vm rfl) (lv rfl rfl (vx rfl rfl) (lv rfl rfl (vx rfl rfl) (lv rfl rfl (va rfl) (lv rfl rfl (va rfl) ?_))))
   refine ln (qn (xs ?_))
   obtain ⟨j, c6, c8⟩ := H
   refine xk (fun ρ h' => h8 = h' ∧ Has ρ [(4, (ptr pb 0)), (8, (ptr f 0)), (75, (.bool j))]) ?_ ?_
   ·have H := c6; clear c6 c8
    refine hx_draw TyTBb.mixed [.pure, .pure, .pure, .pure, .pure, .pure, .pure, .read, .pure, .pure, .pure, .pure, .pure, .read, .pure, .read, .pure, .read, .pure, .pure] [0, 1, 2, 3, 4, 5, 6, 7, 8, 9, 10, 11, 12, 13, 14, 15, 16, 17, 18, 19] (by kernel_rfl) ?_
    refine pp (i := 0) rfl (wanted_0 rfl) rfl (.int .i64 r1) (fun _ => vm rfl) ?_
    refine pp (i := 1) rfl (wanted_0 rfl) rfl (.bool (r1 != 0)) (fun _ => vr rfl rfl rfl) ?_
    refine pp (i := 2) rfl (wanted_0 rfl) rfl (.bool (r1 != 0)) (fun _ => vm rfl) ?_
    rcases bool_or (r1 != 0) with b2 | b2
    ·replace H := H.1 b2
     refine pn (i := 3) rfl (wanted_n rfl rfl rfl b2) ?_
     refine pn (i := 4) rfl (wanted_n rfl rfl rfl b2) ?_
     refine pn (i := 5) rfl (wanted_n rfl rfl rfl b2) ?_
     refine pn (i := 6) rfl (wanted_n rfl rfl rfl b2) ?_
     refine pn (i := 7) rfl (wanted_n rfl rfl rfl b2) ?_
     refine pn (i := 8) rfl (wanted_n rfl rfl rfl b2) ?_
     refine pp (i := 9) rfl (wanted_0 rfl) rfl (.bool true) (fun _ => hv_pick_t rfl b2 rfl) ?_
     refine pp (i := 10) rfl (wanted_0 rfl) rfl (.bool true) (fun _ => vm rfl) ?_
     refine pn (i := 11) rfl (wanted_n rfl rfl (c := true) rfl rfl) ?_
     refine pn (i := 12) rfl (wanted_n rfl rfl (c := true) rfl rfl) ?_
     refine pn (i := 13) rfl (wanted_n rfl rfl (c := true) rfl rfl) ?_
     refine pn (i := 14) rfl (wanted_n rfl rfl (c := true) rfl rfl) ?_
     refine pn (i := 15) rfl (wanted_n rfl rfl (c := true) rfl rfl) ?_
     refine pn (i := 16) rfl (wanted_n rfl rfl (c := true) rfl rfl) ?_
     refine pn (i := 17) rfl (wanted_n rfl rfl (c := true) rfl rfl) ?_
     refine pn (i := 18) rfl (wanted_n rfl rfl (c := true) rfl rfl) ?_
     refine pp (i := 19) rfl (wanted_0 rfl) rfl (.bool true) (fun _ => hv_pick (t := true) rfl rfl) ?_
     refine hp_nil ?_
     refine qn ?_
     obtain rfl := H
     exact ⟨rfl, (hc rfl (hc rfl (hc rfl hn)))⟩
    ·replace H := H.2 b2
     refine pp (i := 3) rfl (wanted_y rfl rfl rfl b2) rfl (.slice r0 b8 b7) (fun _ => vm rfl) ?_
     refine pp (i := 4) rfl (wanted_y rfl rfl rfl b2) rfl (.slice a4 a0 a1) (fun _ => vm rfl) ?_
     refine pp (i := 5) rfl (wanted_y rfl rfl rfl b2) rfl (.int .i64 (IntKind.i64.wrap ((a0 : Int) - 24))) (fun _ => vm rfl) ?_
     obtain ⟨g1, g3, f1, H⟩ := H
     obtain ⟨sl, hq38⟩ : ∃ q, q = slA a4 (Int.toNat (IntKind.i64.wrap ((a0 : Int) - 24))) 1 a1 := ⟨_, rfl⟩
     replace H := H sl hq38
     refine pp (i := 6) rfl (wanted_y rfl rfl rfl b2) rfl (.slice sl (Int.toNat (a0 : Int) - Int.toNat (IntKind.i64.wrap ((a0 : Int) - 24))) (a1 - Int.toNat (IntKind.i64.wrap ((a0 : Int) - 24)))) (fun _ => hv_slice (l := IntKind.i64.wrap ((a0 : Int) - 24)) (r := (a0 : Int)) TyTBb.u25 TyTBb.sz5 rfl (sl_some rfl) sh_none g1 g3 f1 hq38) ?_
     obtain ⟨b9, f0, H⟩ := H
     refine pr (i := 7) rfl (wanted_y rfl rfl rfl b2) rfl (.bool b9) (fun _ he => hv_call TyTBb.cb70 (vs := [(.slice r0 b8 b7), (.slice sl (Int.toNat (a0 : Int) - Int.toNat (IntKind.i64.wrap ((a0 : Int) - 24))) (a1 - Int.toNat (IntKind.i64.wrap ((a0 : Int) - 24))))]) rfl (f0 _ he)) ?_
     refine pp (i := 8) rfl (wanted_y rfl rfl rfl b2) rfl (.bool (!b9)) (fun _ => hv_not (b := b9) rfl) ?_
     refine pp (i := 9) rfl (wanted_0 rfl) rfl (.bool (!b9)) (fun _ => hv_pick_f rfl b2 rfl) ?_
     refine pp (i := 10) rfl (wanted_0 rfl) rfl (.bool (!b9)) (fun _ => vm rfl) ?_
     rcases bool_or (!b9) with a8 | a8
     ·replace H := H.1 a8
      refine pn (i := 11) rfl (wanted_n rfl rfl rfl a8) ?_
      refine pn (i := 12) rfl (wanted_n rfl rfl rfl a8) ?_
      refine pn (i := 13) rfl (wanted_n rfl rfl rfl a8) ?_
      refine pn (i := 14) rfl (wanted_n rfl rfl rfl a8) ?_
      refine pn (i := 15) rfl (wanted_n rfl rfl rfl a8) ?_
      refine pn (i := 16) rfl (wanted_n rfl rfl rfl a8) ?_
      refine pn (i := 17) rfl (wanted_n rfl rfl rfl a8) ?_
      refine pn (i := 18) rfl (wanted_n rfl rfl rfl a8) ?_
      refine pp (i := 19) rfl (wanted_0 rfl) rfl (.bool true) (fun _ => hv_pick_t rfl a8 rfl) ?_
      refine hp_nil ?_
      refine qn ?_
      obtain rfl := H
      exact ⟨rfl, (hc rfl (hc rfl (hc rfl hn)))⟩
     ·replace H := H.2 a8
      refine pp (i := 11) rfl (wanted_y rfl rfl rfl a8) rfl (.slice a4 a0 a1) (fun _ => vm rfl) ?_
      refine pp (i := 12) rfl (wanted_y rfl rfl rfl a8) rfl (ptr f 1) (fun _ => vf TyTBb.fld88_1 (b := f) (o := 0) rfl) ?_
      refine pr (i := 13) rfl (wanted_y rfl rfl rfl a8) rfl (.int .i64 (IntKind.i64.wrap a9)) (fun _ he => vl TyTBb.agg3 rfl (Ext.cell he (rc a7 rfl))) ?_
      obtain ⟨f2, f5, f4, H⟩ := H
      obtain ⟨c0, hq44⟩ : ∃ q, q = slA a4 (Int.toNat 0) 1 a1 := ⟨_, rfl⟩
      replace H := H c0 hq44
      refine pp (i := 14) rfl (wanted_y rfl rfl rfl a8) rfl (.slice c0 (Int.toNat (IntKind.i64.wrap a9) - Int.toNat 0) (a1 - Int.toNat 0)) (fun _ => hv_slice (l := 0) (r := IntKind.i64.wrap a9) TyTBb.u25 TyTBb.sz5 rfl sl_none (sh_some rfl) f2 f5 f4 hq44) ?_
      obtain ⟨c1, g0, H⟩ := H
      refine pr (i := 15) rfl (wanted_y rfl rfl rfl a8) rfl (.int .u32 c1) (fun _ he => hv_call TyTBb.cb44 (vs := [(.slice c0 (Int.toNat (IntKind.i64.wrap a9) - Int.toNat 0) (a1 - Int.toNat 0))]) rfl (g0 _ he)) ?_
      refine pp (i := 16) rfl (wanted_y rfl rfl rfl a8) rfl (ptr f 3) (fun _ => vf TyTBb.fld88_3 (b := f) (o := 0) rfl) ?_
      refine pr (i := 17) rfl (wanted_y rfl rfl rfl a8) rfl (.int .u32 (IntKind.u32.wrap b3)) (fun _ he => vl TyTBb.agg86 rfl (Ext.cell he (rc a7 rfl))) ?_
      refine pp (i := 18) rfl (wanted_y rfl rfl rfl a8) rfl (.bool (c1 != (IntKind.u32.wrap b3))) (fun _ => vr rfl rfl rfl) ?_
      refine pp (i := 19) rfl (wanted_0 rfl) rfl (.bool (c1 != (IntKind.u32.wrap b3))) (fun _ => hv_pick_f rfl a8 rfl) ?_
      refine hp_nil ?_
      refine qn ?_
      obtain rfl := H
      exact ⟨rfl, (hc rfl (hc rfl (hc rfl hn)))⟩
   ·have H := c8; clear c6 c8
    rintro ρ _ ⟨rfl, hH⟩
    refine xh _ hH ?_
    refine xc (b := j) rfl (fun d2 => ?_) (fun d2 => ?_)
    ·replace H := H.1 d2
     refine xs (xr ?_)
     refine lv rfl rfl (v := (.agg #[(.int .i64 0), (.int .i64 0), (.int .u32 0), (.int .u32 0)])) (vb (vs := []) (cs := #[(.int .i64 0), (.int .i64 0), (.int .u32 0), (.int .u32 0)]) TyTBb.z88 TyTBb.pl88 rfl (by kernel_rfl)) ?_
     refine lp rfl rfl (hn_stores (vs := [(.int .i64 0), (.int .i64 0), (.int .u32 0), (.int .u32 0)]) rfl rfl TyTBb.sz88 rfl (HWs_row b6 (by simp)) ?_)
     intro c4 d4
     replace a7 := row_hsets_ne d4 (Ne.symm d3) a7
     have b0 : c4[pb]? = some (.cells #[(.int .i64 0), (.int .i64 0), (.int .u32 0), (.int .u32 0)] 88 (0, 0)) := row_hsets_eq d4 b6 rfl
     replace H := H c4 (fr_hsets_of d4)
     refine lv rfl rfl (va rfl) ?_
     refine ln (qn (xt (qr ?_)))
     exact endQ_ret _ (res_two Tryd.results39 (rv_cell (vs := [(.int .i64 0), (.int .i64 0), (.int .u32 0), (.int .u32 0)]) TyTBb.agg88 TyTBb.sz88 rfl (cc (rc b0 rfl) (cc (rc b0 rfl) (cc (rc b0 rfl) (cc (rc b0 rfl) cn))))) (rv_tmp rfl)) H
    ·replace H := H.2 d2
     refine xi (qn (xs (xr ?_)))
     refine lv rfl rfl (vL (vs := [(.int .i64 (IntKind.i64.wrap b4)), (.int .i64 (IntKind.i64.wrap a9)), (.int .u32 (IntKind.u32.wrap b5)), (.int .u32 (IntKind.u32.wrap b3))]) TyTBb.agg88 TyTBb.sz88 rfl (cc (rc a7 rfl) (cc (rc a7 rfl) (cc (rc a7 rfl) (cc (rc a7 rfl) cn))))) ?_
     refine lp rfl rfl (hn_stores (vs := [(.int .i64 (IntKind.i64.wrap b4)), (.int .i64 (IntKind.i64.wrap a9)), (.int .u32 (IntKind.u32.wrap b5)), (.int .u32 (IntKind.u32.wrap b3))]) rfl rfl TyTBb.sz88 rfl (HWs_row b6 (by simp)) ?_)
     intro c5 d1
     replace a7 := row_hsets_ne d1 (Ne.symm d3) a7
     have b0 : c5[pb]? = some (.cells #[(.int .i64 (IntKind.i64.wrap b4)), (.int .i64 (IntKind.i64.wrap a9)), (.int .u32 (IntKind.u32.wrap b5)), (.int .u32 (IntKind.u32.wrap b3))] 88 (0, 0)) := row_hsets_eq d1 b6 rfl
     replace H := H c5 (fr_hsets_of d1)
     refine lv rfl rfl (va rfl) ?_
     refine ln (qn (xt ?_))
     exact endQ_ret _ (res_two Tryd.results39 (rv_cell (vs := [(.int .i64 (IntKind.i64.wrap b4)), (.int .i64 (IntKind.i64.wrap a9)), (.int .u32 (IntKind.u32.wrap b5)), (.int .u32 (IntKind.u32.wrap b3))]) TyTBb.agg88 TyTBb.sz88 rfl (cc (rc b0 rfl) (cc (rc b0 rfl) (cc (rc b0 rfl) (cc (rc b0 rfl) cn))))) (rv_tmp rfl)) H
theorem f71_sh (a3 : Int) (a2 : Int) (a5 : Int) (a9 : Int) (a0 : Int) (a1 : Int) (b0 : Int) (b3 : Int) (h : Heap) (R : Value → Heap → Prop)
  (H : (∀ (g : Nat) (f : Nat) (h2 : Heap), Array.size h ≤ g → g < Array.size h2 → Array.size h ≤ f → f < Array.size h2 → Ext h h2 → HC Tryd.prog 16 #[(.agg #[(.int .i64 a3), (.int .i64 a2), (.int .i64 a5), (.int .i64 a9)])] h2 (fun vv h3 => Ext h2 h3 ∧ ∃ r : Int, vv = (.int .i64 r) ∧ (((r != 0) = true → R (.tuple #[(.slice none 0 0), (.int .i64 r)]) h3) ∧ ((r != 0) = false → ((((decide (a0 < 0)) || ((decide (a0 > 2147483647)) || ((decide (a1 < 32)) || (decide (a1 > (IntKind.i64.wrap ((IntKind.i64.wrap (a3 * a2)) - 24))))))) = true → R (.tuple #[(.slice none 0 0), (.int .i64 1)]) h3) ∧ (((decide (a0 < 0)) || ((decide (a0 > 2147483647)) || ((decide (a1 < 32)) || (decide (a1 > (IntKind.i64.wrap ((IntKind.i64.wrap (a3 * a2)) - 24))))))) = false → (∃ b5 : Heap → Heap → Prop, Fit b5 ∧ ((∀ hx, b5 h3 hx → Kp [f] h3 hx) ∧ ((∀ hx, b5 h3 hx → Kp [f] h3 hx) ∧ ((∀ hx, b5 h3 hx → Kp [f] h3 hx) ∧ ((∀ hx, b5 h3 hx → Kp [f] h3 hx) ∧ (∀ nb h4, nb = Array.size h3 → h4 = Array.push h3 (.cells #[(.int .u8 67), (.int .u8 76), (.int .u8 82), (.int .u8 70)] 5) → (∃ (cs : Array Value) (T : TypeId), h4[nb]? = some (.cells cs T (0, 0)) ∧ ∀ h5, h5 = hfrz h4 nb (Array.size cs) → b5 h4 h5 ∧ Kp [f] h4 h5 ∧ HC Tryd.prog 43 #[(.slice (some ⟨nb, 0, none⟩) 4 4), (.int .u64 (IntKind.u64.wrap a0)), (.int .i64 4)] h5 (fun vv h6 => b5 h5 h6 ∧ Kp [f] h5 h6 ∧ ∃ c6 : Option Addr, ∃ c7 d0 : Nat, vv = (.slice c6 c7 d0) ∧ HC Tryd.prog 43 #[(.slice c6 c7 d0), (.int .u64 (IntKind.u64.wrap a1)), (.int .i64 4)] h6 (fun vv h7 => b5 h6 h7 ∧ Kp [f] h6 h7 ∧ ∃ c8 : Option Addr, ∃ b9 b7 : Nat, vv = (.slice c8 b9 b7) ∧ HC Tryd.prog 43 #[(.slice c8 b9 b7), (.int .u64 (IntKind.u64.wrap b0)), (.int .i64 4)] h7 (fun vv h8 => b5 h7 h8 ∧ Kp [f] h7 h8 ∧ ∃ c9 : Option Addr, ∃ c0 c2 : Nat, vv = (.slice c9 c0 c2) ∧ HC Tryd.prog 43 #[(.slice c9 c0 c2), (.int .u64 (IntKind.u64.wrap b3)), (.int .i64 4)] h8 (fun vv h9 => ∃ b6 : Option Addr, ∃ b2 b1 : Nat, vv = (.slice b6 b2 b1) ∧ (∃ c3 : Int, HC Tryd.prog 44 #[(.slice b6 b2 b1)] h9 (fun vv h' => vv = (.int .u32 c3) ∧ h' = h9) ∧ HC Tryd.prog 43 #[(.slice b6 b2 b1), (.int .u64 (IntKind.u64.wrap c3)), (.int .i64 4)] h9 (fun vv d9 => ∃ d1 : Option Addr, ∃ b8 c1 : Nat, vv = (.slice d1 b8 c1) ∧ R (.tuple #[(.slice d1 b8 c1), (.int .i64 0)]) d9)))))))))))))))))))) :
  HC Tryd.prog 71 #[(.agg #[(.int .i64 a3), (.int .i64 a2), (.int .i64 a5), (.int .i64 a9)]), (.agg #[(.int .i64 a0), (.int .i64 a1), (.int .u32 b0), (.int .u32 b3)])] h R := by
 refine hc_of (args := [(.agg #[(.int .i64 a3), (.int .i64 a2), (.int .i64 a5), (.int .i64 a9)]), (.agg #[(.int .i64 a0), (.int .i64 a1), (.int .u32 b0), (.int .u32 b3)])]) Tryd.func71 rfl Tryd.ntmps71 (Nat.le_of_ble_eq_true rfl) ?_
 refine xs (xr ?_)
 refine lp rfl rfl (hn_box (v := (.agg #[(.int .i64 a3), (.int .i64 a2), (.int .i64 a5), (.int .i64 a9)])) rfl ?_)
 intro g h1 d7 d6
 have d8 := ext_pushed_f15_sh d6
 have g1 : Array.size h ≤ g := Nat.le_of_eq (Eq.symm d7)
 have b4 : h1[g]? = some (.cells #[(.int .i64 a3), (.int .i64 a2), (.int .i64 a5), (.int .i64 a9)] 24 (0, 0)) := by rw [d6]; exact push_new d7
 refine lp rfl rfl (hn_box (v := (.agg #[(.int .i64 a0), (.int .i64 a1), (.int .u32 b0), (.int .u32 b3)])) rfl ?_)
 intro f h2 d5 e1
 have e0 := ext_pushed_f15_sh e1
 have g2 := Nat.ne_of_lt (Nat.lt_of_lt_of_eq (row_lt b4) (Eq.symm d5))
 have f5 : Array.size h ≤ f := Nat.le_trans (Ext.size d8) (Nat.le_of_eq (Eq.symm d5))
 have a7 : h2[f]? = some (.cells #[(.int .i64 a0), (.int .i64 a1), (.int .u32 b0), (.int .u32 b3)] 88 (0, 0)) := by rw [e1]; exact push_new d5
 replace b4 := Ext.row e0 b4
 have f9 := Ext.trans d8 e0
 refine lv rfl rfl (va rfl) (lv rfl rfl (va rfl) ?_)
 refine ln (qn (xs (xs (xr ?_))))
 refine lv rfl rfl (vL (vs := [(.int .i64 a3), (.int .i64 a2), (.int .i64 a5), (.int .i64 a9)]) TyTBb.agg24 TyTBb.sz24 rfl (cc (rc b4 rfl) (cc (rc b4 rfl) (cc (rc b4 rfl) (cc (rc b4 rfl) cn))))) ?_
 replace H := H g f h2 g1 (row_lt b4) f5 (row_lt a7) f9
 refine lp rfl rfl (sc TyTBb.cb16 rfl (HC.mono H ?_))
 rintro _ h3 ⟨d2, r, rfl, H⟩
 replace b4 := Ext.row d2 b4
 replace a7 := Ext.row d2 a7
 refine lv rfl rfl (va rfl) ?_
 refine ln (qn (xs (xr ?_)))
 refine lv rfl rfl (vm rfl) (lv rfl rfl (vr rfl rfl rfl) ?_)
 refine ln (qn ?_)
 refine xc (b := r != 0) rfl (fun c5 => ?_) (fun c5 => ?_)
 ·replace H := H.1 c5
  refine xs (xr ?_)
  refine lv rfl rfl (vm rfl) (lv rfl rfl (va rfl) (lv rfl rfl (va rfl) ?_))
  refine ln (qn (xt (qr ?_)))
  exact endQ_ret _ (res_two Tryd.results71 (rv_tmp rfl) (rv_tmp rfl)) H
 ·replace H := H.2 c5
  refine xi (qn (xs ?_))
  refine xk (fun ρ h' => h3 = h' ∧ Has ρ [(3, (ptr f 0)), (36, (.bool ((decide (a0 < 0)) || ((decide (a0 > 2147483647)) || ((decide (a1 < 32)) || (decide (a1 > (IntKind.i64.wrap ((IntKind.i64.wrap (a3 * a2)) - 24)))))))))]) ?_ ?_
  ·refine xr ?_
   refine lv rfl rfl (v := (ptr f 0)) (vf TyTBb.fld88_0 (b := f) (o := 0) rfl) (lv rfl rfl (vl TyTBb.agg3 rfl (rc a7 rfl)) (lv rfl rfl (vr rfl rfl rfl) (lv rfl rfl (vm rfl) ?_)))
   rcases bool_or (decide (a0 < 0)) with a6 | a6
   ·refine lo (wanted_n rfl rfl rfl a6) rfl ?_
    refine lo (wanted_n rfl rfl rfl a6) rfl ?_
    refine lo (wanted_n rfl rfl rfl a6) rfl ?_
    refine lv rfl rfl (v := (.bool true)) (hv_pick_t rfl a6 rfl) (lv rfl rfl (vm rfl) ?_)
    refine lo (wanted_n rfl rfl (c := true) rfl rfl) rfl ?_
    refine lo (wanted_n rfl rfl (c := true) rfl rfl) rfl ?_
    refine lo (wanted_n rfl rfl (c := true) rfl rfl) rfl ?_
    refine lv rfl rfl (v := (.bool true)) (hv_pick (t := true) rfl rfl) (lv rfl rfl (vm rfl) ?_)
    refine lo (wanted_n rfl rfl (c := true) rfl rfl) rfl ?_
    refine lo (wanted_n rfl rfl (c := true) rfl rfl) rfl ?_
    refine lo (wanted_n rfl rfl (c := true) rfl rfl) rfl ?_
    refine lo (wanted_n rfl rfl (c := true) rfl rfl) rfl ?_
    refine lo (wanted_n rfl rfl (c := true) rfl rfl) rfl ?_
    refine lo (wanted_n rfl rfl (c := true) rfl rfl) rfl ?_
    refine lo (wanted_n rfl rfl (c := true) rfl rfl) rfl ?_
    refine lo (wanted_n rfl rfl (c := true) rfl rfl) rfl ?_
    refine lo (wanted_n rfl rfl (c := true) rfl rfl) rfl ?_
    refine lv rfl rfl (v := (.bool true)) (hv_pick (t := true) rfl rfl) ?_
    refine ln (qn ?_)
    exact ⟨rfl, (hc rfl (hc (show ((.bool true) : Value) = (.bool ((decide (a0 < 0)) || ((decide (a0 > 2147483647)) || ((decide (a1 < 32)) || (decide (a1 > (IntKind.i64.wrap ((IntKind.i64.wrap (a3 * a2)) - 24)))))))) from (by first | rfl | ((try rw [a6]); all_goals first | rfl | (simp only [Bool.true_or, Bool.or_true, Bool.false_or, Bool.or_false, Bool.true_and, Bool.and_true, Bool.false_and, Bool.and_false, Bool.not_true, Bool.not_false, Bool.cond_true, Bool.cond_false]; done)) | simp [a6])) hn))⟩
   ·refine ly (wanted_y rfl rfl rfl a6) rfl (HStep.of_val (v := (ptr f 0)) (vf TyTBb.fld88_0 (b := f) (o := 0) rfl) ?_)
    refine ly (wanted_y rfl rfl rfl a6) rfl (HStep.of_val (v := (.int .i64 a0)) (vl TyTBb.agg3 rfl (rc a7 rfl)) ?_)
    refine ly (wanted_y rfl rfl rfl a6) rfl (HStep.of_val (v := (.bool (decide (a0 > 2147483647)))) (vr rfl rfl rfl) ?_)
    refine lv rfl rfl (v := (.bool (decide (a0 > 2147483647)))) (hv_pick_f rfl a6 rfl) (lv rfl rfl (vm rfl) ?_)
    rcases bool_or (decide (a0 > 2147483647)) with a8 | a8
    ·refine lo (wanted_n rfl rfl rfl a8) rfl ?_
     refine lo (wanted_n rfl rfl rfl a8) rfl ?_
     refine lo (wanted_n rfl rfl rfl a8) rfl ?_
     refine lv rfl rfl (v := (.bool true)) (hv_pick_t rfl a8 rfl) (lv rfl rfl (vm rfl) ?_)
     refine lo (wanted_n rfl rfl (c := true) rfl rfl) rfl ?_
     refine lo (wanted_n rfl rfl (c := true) rfl rfl) rfl ?_
     refine lo (wanted_n rfl rfl (c := true) rfl rfl) rfl ?_
     refine lo (wanted_n rfl rfl (c := true) rfl rfl) rfl ?_
     refine lo (wanted_n rfl rfl (c := true) rfl rfl) rfl ?_
     refine lo (wanted_n rfl rfl (c := true) rfl rfl) rfl ?_
     refine lo (wanted_n rfl rfl (c := true) rfl rfl) rfl ?_
     refine lo (wanted_n rfl rfl (c := true) rfl rfl) rfl ?_
     refine lo (wanted_n rfl rfl (c := true) rfl rfl) rfl ?_
     refine lv rfl rfl (v := (.bool true)) (hv_pick (t := true) rfl rfl) ?_
     refine ln (qn ?_)
     exact ⟨rfl, (hc rfl (hc (show ((.bool true) : Value) = (.bool ((decide (a0 < 0)) || ((decide (a0 > 2147483647)) || ((decide (a1 < 32)) || (decide (a1 > (IntKind.i64.wrap ((IntKind.i64.wrap (a3 * a2)) - 24)))))))) from (by first | rfl | ((try rw [a6]); (try rw [a8]); all_goals first | rfl | (simp only [Bool.true_or, Bool.or_true, Bool.false_or, Bool.or_false, Bool.true_and, Bool.and_true, Bool.false_and, Bool.and_false, Bool.not_true, Bool.not_false, Bool.cond_true, Bool.cond_false]; done)) | simp [a6, a8])) hn))⟩
    ·refine ly (wanted_y rfl rfl rfl a8) rfl (HStep.of_val (v := (ptr f 1)) (vf TyTBb.fld88_1 (b := f) (o := 0) rfl) ?_)
     refine ly (wanted_y rfl rfl rfl a8) rfl (HStep.of_val (v := (.int .i64 a1)) (vl TyTBb.agg3 rfl (rc a7 rfl)) ?_)
     refine ly (wanted_y rfl rfl rfl a8) rfl (HStep.of_val (v := (.bool (decide (a1 < 32)))) (vr rfl rfl rfl) ?_)
     refine lv rfl rfl (v := (.bool (decide (a1 < 32)))) (hv_pick_f rfl a8 rfl) (lv rfl rfl (vm rfl) ?_)
     rcases bool_or (decide (a1 < 32)) with a4 | a4
     ·refine lo (wanted_n rfl rfl rfl a4) rfl ?_
      refine lo (wanted_n rfl rfl rfl a4) rfl ?_
      refine lo (wanted_n rfl rfl rfl a4) rfl ?_
      refine lo (wanted_n rfl rfl rfl a4) rfl ?_
      refine lo (wanted_n rfl rfl rfl a4) rfl ?_
      refine lo (wanted_n rfl rfl rfl a4) rfl ?_
      refine lo (wanted_n rfl rfl rfl a4) rfl ?_
      refine lo (wanted_n rfl rfl rfl a4) rfl ?_
      refine lo (wanted_n rfl rfl rfl a4) rfl ?_
      refine lv rfl rfl (v := (.bool true)) (hv_pick_t rfl a4 rfl) ?_
      refine ln (qn ?_)
      exact ⟨rfl, (hc rfl (hc (show ((.bool true) : Value) = (.bool ((decide (a0 < 0)) || ((decide (a0 > 2147483647)) || ((decide (a1 < 32)) || (decide (a1 > (IntKind.i64.wrap ((IntKind.i64.wrap (a3 * a2)) - 24)))))))) from (by first | rfl | ((try rw [a6]); (try rw [a8]); (try rw [a4]); all_goals first | rfl | (simp only [Bool.true_or, Bool.or_true, Bool.false_or, Bool.or_false, Bool.true_and, Bool.and_true, Bool.false_and, Bool.and_false, Bool.not_true, Bool.not_false, Bool.cond_true, Bool.cond_false]; done)) | simp [a6, a8, a4])) hn))⟩
     ·refine ly (wanted_y rfl rfl rfl a4) rfl (HStep.of_val (v := (ptr f 1)) (vf TyTBb.fld88_1 (b := f) (o := 0) rfl) ?_)
      refine ly (wanted_y rfl rfl rfl a4) rfl (HStep.of_val (v := (.int .i64 a1)) (vl TyTBb.agg3 rfl (rc a7 rfl)) ?_)
      refine ly (wanted_y rfl rfl rfl a4) rfl (HStep.of_val (v := (ptr g 0)) (vf TyTBb.fld24_0 (b := g) (o := 0) rfl) ?_)
      refine ly (wanted_y rfl rfl rfl a4) rfl (HStep.of_val (v := (.int .i64 a3)) (vl TyTBb.agg3 rfl (rc b4 rfl)) ?_)
      refine ly (wanted_y rfl rfl rfl a4) rfl (HStep.of_val (v := (ptr g 1)) (vf TyTBb.fld24_1 (b := g) (o := 0) rfl) ?_)
      refine ly (wanted_y rfl rfl rfl a4) rfl (HStep.of_val (v := (.int .i64 a2)) (vl TyTBb.agg3 rfl (rc b4 rfl)) ?_)
      refine ly (wanted_y rfl rfl rfl a4) rfl (HStep.of_val (v := (.int .i64 (IntKind.i64.wrap (a3 * a2)))) (vr rfl rfl rfl) ?_)
      refine ly (wanted_y rfl rfl rfl a4) rfl (HStep.of_val (v := (.int .i64 (IntKind.i64.wrap ((IntKind.i64.wrap (a3 * a2)) - 24)))) (vr rfl rfl rfl) ?_)
      refine ly (wanted_y rfl rfl rfl a4) rfl (HStep.of_val (v := (.bool (decide (a1 > (IntKind.i64.wrap ((IntKind.i64.wrap (a3 * a2)) - 24)))))) (vr rfl rfl rfl) ?_)
      refine lv rfl rfl (v := (.bool (decide (a1 > (IntKind.i64.wrap ((IntKind.i64.wrap (a3 * a2)) - 24)))))) (hv_pick_f rfl a4 rfl) ?_
      refine ln (qn ?_)
      exact ⟨rfl, (hc rfl (hc (show ((.bool (decide (a1 > (IntKind.i64.wrap ((IntKind.i64.wrap (a3 * a2)) - 24))))) : Value) = (.bool ((decide (a0 < 0)) || ((decide (a0 > 2147483647)) || ((decide (a1 < 32)) || (decide (a1 > (IntKind.i64.wrap ((IntKind.i64.wrap (a3 * a2)) - 24)))))))) from (by first | rfl | ((try rw [a6]); (try rw [a8]); (try rw [a4]); all_goals first | rfl | (simp only [Bool.true_or, Bool.or_true, Bool.false_or, Bool.or_false, Bool.true_and, Bool.and_true, Bool.false_and, Bool.and_false, Bool.not_true, Bool.not_false, Bool.cond_true, Bool.cond_false]; done)) | simp [a6, a8, a4])) hn))⟩
  ·rintro ρ _ ⟨rfl, hH⟩
   refine xh _ hH ?_
   refine xc (b := ((decide (a0 < 0)) || ((decide (a0 > 2147483647)) || ((decide (a1 < 32)) || (decide (a1 > (IntKind.i64.wrap ((IntKind.i64.wrap (a3 * a2)) - 24)))))))) rfl (fun c4 => ?_) (fun c4 => ?_)
   ·replace H := H.1 c4
    refine xs (xr ?_)
    refine lv rfl rfl (va rfl) (lv rfl rfl (va rfl) ?_)
    refine ln (qn (xt (qr ?_)))
    exact endQ_ret _ (res_two Tryd.results71 (rv_tmp rfl) (rv_tmp rfl)) H
   ·replace H := H.2 c4
    refine xi (qn (xs ?_))
    obtain ⟨b5, e4, H⟩ := H
    refine hx_drawT TyTBb.mixed b5 e4 [.ext, .tame, .pure, .stay, .pure, .tame, .pure, .stay, .pure, .tame, .pure, .stay, .pure, .tame, .pure, .stay, .pure, .wild, .pure] [2, 3, 4, 6, 7, 8, 10, 11, 12, 14, 15, 16, 0, 1, 5, 9, 13, 17, 18] (by kernel_rfl) ?_
    refine pp (i := 2) rfl (wanted_0 rfl) rfl (ptr f 0) (fun _ => vf TyTBb.fld88_0 (b := f) (o := 0) rfl) ?_
    obtain ⟨f1, H⟩ := H
    refine hp_stay (i := 3) rfl (wanted_0 rfl) rfl (.int .i64 a0) (fun _ he => vl TyTBb.agg3 rfl ((fun hx he => rc (Kp.row (f1 hx he) (by simp) a7) rfl) _ he)) ?_
    refine pp (i := 4) rfl (wanted_0 rfl) rfl (.int .u64 (IntKind.u64.wrap a0)) (fun _ => hv_convInt TyTBb.u3 TyTBb.u29 rfl) ?_
    refine pp (i := 6) rfl (wanted_0 rfl) rfl (ptr f 1) (fun _ => vf TyTBb.fld88_1 (b := f) (o := 0) rfl) ?_
    obtain ⟨f0, H⟩ := H
    refine hp_stay (i := 7) rfl (wanted_0 rfl) rfl (.int .i64 a1) (fun _ he => vl TyTBb.agg3 rfl ((fun hx he => rc (Kp.row (f0 hx he) (by simp) a7) rfl) _ he)) ?_
    refine pp (i := 8) rfl (wanted_0 rfl) rfl (.int .u64 (IntKind.u64.wrap a1)) (fun _ => hv_convInt TyTBb.u3 TyTBb.u29 rfl) ?_
    refine pp (i := 10) rfl (wanted_0 rfl) rfl (ptr f 2) (fun _ => vf TyTBb.fld88_2 (b := f) (o := 0) rfl) ?_
    obtain ⟨f6, H⟩ := H
    refine hp_stay (i := 11) rfl (wanted_0 rfl) rfl (.int .u32 b0) (fun _ he => vl TyTBb.agg86 rfl ((fun hx he => rc (Kp.row (f6 hx he) (by simp) a7) rfl) _ he)) ?_
    refine pp (i := 12) rfl (wanted_0 rfl) rfl (.int .u64 (IntKind.u64.wrap b0)) (fun _ => hv_convInt TyTBb.u86 TyTBb.u29 rfl) ?_
    refine pp (i := 14) rfl (wanted_0 rfl) rfl (ptr f 3) (fun _ => vf TyTBb.fld88_3 (b := f) (o := 0) rfl) ?_
    obtain ⟨e9, H⟩ := H
    refine hp_stay (i := 15) rfl (wanted_0 rfl) rfl (.int .u32 b3) (fun _ he => vl TyTBb.agg86 rfl ((fun hx he => rc (Kp.row (e9 hx he) (by simp) a7) rfl) _ he)) ?_
    refine pp (i := 16) rfl (wanted_0 rfl) rfl (.int .u64 (IntKind.u64.wrap b3)) (fun _ => hv_convInt TyTBb.u86 TyTBb.u29 rfl) ?_
    refine hp_ext (i := 0) rfl (wanted_0 rfl) rfl (hn_buildSlice (n := 4) (vs := [(0, (.int .u8 67)), (1, (.int .u8 76)), (2, (.int .u8 82)), (3, (.int .u8 70))]) (cs := #[(.int .u8 67), (.int .u8 76), (.int .u8 82), (.int .u8 70)]) TyTBb.u25 TyTBb.sz5 TyTBb.z5 rfl rfl (by kernel_rfl) ?_)
    intro nb h4 e3 d4
    replace H := H nb h4 e3 d4
    have d3 := ext_pushed_f15_sh d4
    replace a7 := Ext.row d3 a7
    refine ⟨d3, ?_⟩
    obtain ⟨cs, T, f7, H⟩ := H
    refine hp_tame (i := 1) rfl (wanted_0 rfl) rfl (hs_mark TyTBb.u25 TyTBb.u5 rfl f7 ?_)
    intro h5 e8
    replace H := H h5 e8
    obtain ⟨f2, g0, H⟩ := H
    refine ⟨f2, ?_⟩
    replace a7 := Kp.row g0 (by simp) a7
    refine hp_tame (i := 5) rfl (wanted_0 rfl) rfl (sc TyTBb.cb43 rfl (HC.mono H ?_))
    rintro _ h6 ⟨f8, e7, c6, c7, d0, rfl, H⟩
    refine ⟨f8, ?_⟩
    replace a7 := Kp.row e7 (by simp) a7
    refine hp_tame (i := 9) rfl (wanted_0 rfl) rfl (sc TyTBb.cb43 rfl (HC.mono H ?_))
    rintro _ h7 ⟨e2, f4, c8, b9, b7, rfl, H⟩
    refine ⟨e2, ?_⟩
    replace a7 := Kp.row f4 (by simp) a7
    refine hp_tame (i := 13) rfl (wanted_0 rfl) rfl (sc TyTBb.cb43 rfl (HC.mono H ?_))
    rintro _ h8 ⟨f3, e6, c9, c0, c2, rfl, H⟩
    refine ⟨f3, ?_⟩
    replace a7 := Kp.row e6 (by simp) a7
    refine hp_wild (i := 17) rfl (wanted_0 rfl) rfl (sc TyTBb.cb43 rfl (HC.mono H ?_))
    rintro _ h9 ⟨b6, b2, b1, rfl, H⟩
    refine pp (i := 18) rfl (wanted_0 rfl) rfl (.slice b6 b2 b1) (fun _ => va rfl) ?_
    refine hp_nil ?_
    refine qn (xs (xr ?_))
    refine lv rfl rfl (vm rfl) (lv rfl rfl (vm rfl) ?_)
    obtain ⟨c3, e5, H⟩ := H
    refine lv rfl rfl (hv_call TyTBb.cb44 (vs := [(.slice b6 b2 b1)]) rfl e5) (lv rfl rfl (v := (.int .u64 (IntKind.u64.wrap c3))) (hv_convInt TyTBb.u86 TyTBb.u29 rfl) ?_)
    refine lp rfl rfl (sc TyTBb.cb43 rfl (HC.mono H ?_))
    rintro _ d9 ⟨d1, b8, c1, rfl, H⟩
    refine lv rfl rfl (va rfl) (lv rfl rfl (va rfl) ?_)
    refine ln (qn (xt ?_))
    exact endQ_ret _ (res_two Tryd.results71 (rv_tmp rfl) (rv_tmp rfl)) H
theorem f47_sh (b2 : Int) (a8 : Int) (a5 : Int) (a7 : Int) (c6 : Int) (c0 : Option Addr) (a0 : Nat) (a2 : Nat) (a1 : Int) (h : Heap) (R : Value → Heap → Prop)
  (H : (∀ (g : Nat) (pb : Nat) (h2 : Heap), Array.size h ≤ g → g < Array.size h2 → Array.size h ≤ pb → pb < Array.size h2 → Ext h h2 → HC Tryd.prog 16 #[(.agg #[(.int .i64 b2), (.int .i64 a8), (.int .i64 a5), (.int .i64 a7)])] h2 (fun vv h3 => Ext h2 h3 ∧ ∃ r : Int, vv = (.int .i64 r) ∧ (((r != 0) = true → (∀ h4, Fr (fun i => i = pb) h3 h4 → R (.tuple #[(.agg #[(.int .i64 0), (.int .u64 0), (.string ByteArray.empty), (.string ByteArray.empty)]), (.int .i64 0), (.int .i64 r)]) h4)) ∧ ((r != 0) = false → ((((decide (a1 < 0)) || (decide (a1 > (a0 : Int)))) = true → (∀ h5, Fr (fun i => i = pb) h3 h5 → R (.tuple #[(.agg #[(.int .i64 0), (.int .u64 0), (.string ByteArray.empty), (.string ByteArray.empty)]), (.int .i64 0), (.int .i64 1)]) h5)) ∧ (((decide (a1 < 0)) || (decide (a1 > (a0 : Int)))) = false → (∃ c9 : Bool, (((a1 == (a0 : Int)) = true → (c9 = true)) ∧ ((a1 == (a0 : Int)) = false → (∃ c4 c5 : Nat, c0 = some ⟨c4, c5, none⟩ ∧ (0 : Int) ≤ a1 ∧ a1 < (a0 : Int) ∧ (∃ x : Int, hcell h3 c4 (c5 + (Int.toNat a1) * 1) = some (.int .u8 x) ∧ (c9 = (x == 255)))))) ∧ ((c9 = true → (∀ h6, Fr (fun i => i = pb) h3 h6 → R (.tuple #[(.agg #[(.int .i64 0), (.int .u64 0), (.string ByteArray.empty), (.string ByteArray.empty)]), (.int .i64 0), (.int .i64 53)]) h6)) ∧ (c9 = false → (0 ≤ (a1 : Int) ∧ a1 ≤ (a0 : Int) ∧ (a0 : Int) ≤ (a2 : Int) ∧ ∀ sl : Option Addr, sl = slA c0 (Int.toNat a1) 1 a2 → (((decide ((((Int.toNat (a0 : Int) - Int.toNat a1) : Nat) : Int) < 24)) = true → (∀ h7, Fr (fun i => i = pb) h3 h7 → R (.tuple #[(.agg #[(.int .i64 0), (.int .u64 0), (.string ByteArray.empty), (.string ByteArray.empty)]), (.int .i64 0), (.int .i64 52)]) h7)) ∧ ((decide ((((Int.toNat (a0 : Int) - Int.toNat a1) : Nat) : Int) < 24)) = false → (∃ a4 : Int, HC Tryd.prog 69 #[(.slice sl (Int.toNat (a0 : Int) - Int.toNat a1) (a2 - Int.toNat a1)), (.int .i64 2), (.int .i64 2)] h3 (fun vv h' => vv = (.int .u64 a4) ∧ h' = h3) ∧ (∃ b0 : Int, HC Tryd.prog 69 #[(.slice sl (Int.toNat (a0 : Int) - Int.toNat a1) (a2 - Int.toNat a1)), (.int .i64 4), (.int .i64 4)] h3 (fun vv h' => vv = (.int .u64 b0) ∧ h' = h3) ∧ (((decide ((IntKind.i64.wrap ((IntKind.i64.wrap a4) + (IntKind.i64.wrap b0))) > (IntKind.i64.wrap ((((Int.toNat (a0 : Int) - Int.toNat a1) : Nat) : Int) - 24)))) = true → (∀ h8, Fr (fun i => i = pb) h3 h8 → R (.tuple #[(.agg #[(.int .i64 0), (.int .u64 0), (.string ByteArray.empty), (.string ByteArray.empty)]), (.int .i64 0), (.int .i64 52)]) h8)) ∧ ((decide ((IntKind.i64.wrap ((IntKind.i64.wrap a4) + (IntKind.i64.wrap b0))) > (IntKind.i64.wrap ((((Int.toNat (a0 : Int) - Int.toNat a1) : Nat) : Int) - 24)))) = false → (∃ b5 b6 : Nat, sl = some ⟨b5, b6, none⟩ ∧ (0 : Int) ≤ 0 ∧ 0 < (((Int.toNat (a0 : Int) - Int.toNat a1) : Nat) : Int) ∧ (∃ c1 : Int, hcell h3 b5 (b6 + (Int.toNat 0) * 1) = some (.int .u8 c1) ∧ (∃ c2 : Int, (∀ g0, Ext h3 g0 → HC Tryd.prog 69 #[(.slice (some ⟨b5, b6, none⟩) (Int.toNat (a0 : Int) - Int.toNat a1) (a2 - Int.toNat a1)), (.int .i64 8), (.int .i64 8)] g0 (fun vv h' => vv = (.int .u64 c2) ∧ h' = g0)) ∧ (0 ≤ ((24 : Int) : Int) ∧ (24 : Int) ≤ IntKind.i64.wrap (24 + (IntKind.i64.wrap a4)) ∧ IntKind.i64.wrap (24 + (IntKind.i64.wrap a4)) ≤ (((a2 - Int.toNat a1) : Nat) : Int) ∧ ∀ d3 : Option Addr, d3 = slA (some ⟨b5, b6, none⟩) (Int.toNat 24) 1 (a2 - Int.toNat a1) → (∃ bs : List Int, Byt h3 d3 (Int.toNat (IntKind.i64.wrap (24 + (IntKind.i64.wrap a4))) - Int.toNat 24) bs ∧ (0 ≤ (IntKind.i64.wrap (24 + (IntKind.i64.wrap a4)) : Int) ∧ IntKind.i64.wrap (24 + (IntKind.i64.wrap a4)) ≤ IntKind.i64.wrap ((IntKind.i64.wrap (24 + (IntKind.i64.wrap a4))) + (IntKind.i64.wrap b0)) ∧ IntKind.i64.wrap ((IntKind.i64.wrap (24 + (IntKind.i64.wrap a4))) + (IntKind.i64.wrap b0)) ≤ (((a2 - Int.toNat a1) : Nat) : Int) ∧ ∀ d1 : Option Addr, d1 = slA (some ⟨b5, b6, none⟩) (Int.toNat (IntKind.i64.wrap (24 + (IntKind.i64.wrap a4)))) 1 (a2 - Int.toNat a1) → (∃ b3 : List Int, Byt h3 d1 (Int.toNat (IntKind.i64.wrap ((IntKind.i64.wrap (24 + (IntKind.i64.wrap a4))) + (IntKind.i64.wrap b0))) - Int.toNat (IntKind.i64.wrap (24 + (IntKind.i64.wrap a4)))) b3 ∧ (∀ (c8 : Nat) (d0 : Heap), Array.size h3 ≤ c8 → c8 < Array.size d0 → Ext h3 d0 → HC Tryd.prog 46 #[(.agg #[(.int .i64 b2), (.int .i64 a8), (.int .i64 a5), (.int .i64 a7)]), (.int .u32 c6), (.agg #[(.int .i64 (IntKind.i64.wrap c1)), (.int .u64 c2), (.string (ofL bs)), (.string (ofL b3))])] d0 (fun vv d6 => Ext d0 d6 ∧ ∃ r0 : Option Addr, ∃ b7 c3 : Nat, ∃ r1 : Int, vv = (.tuple #[(.slice r0 b7 c3), (.int .i64 r1)]) ∧ (∃ d4 : Bool, (((r1 != 0) = true → (d4 = true)) ∧ ((r1 != 0) = false → (0 ≤ ((0 : Int) : Int) ∧ (0 : Int) ≤ IntKind.i64.wrap ((IntKind.i64.wrap (24 + (IntKind.i64.wrap a4))) + (IntKind.i64.wrap b0)) ∧ IntKind.i64.wrap ((IntKind.i64.wrap (24 + (IntKind.i64.wrap a4))) + (IntKind.i64.wrap b0)) ≤ (((a2 - Int.toNat a1) : Nat) : Int) ∧ ∀ c7 : Option Addr, c7 = slA (some ⟨b5, b6, none⟩) (Int.toNat 0) 1 (a2 - Int.toNat a1) → (∃ d2 : Bool, HC Tryd.prog 70 #[(.slice r0 b7 c3), (.slice c7 (Int.toNat (IntKind.i64.wrap ((IntKind.i64.wrap (24 + (IntKind.i64.wrap a4))) + (IntKind.i64.wrap b0))) - Int.toNat 0) ((a2 - Int.toNat a1) - Int.toNat 0))] d6 (fun vv h' => vv = (.bool d2) ∧ h' = d6) ∧ (d4 = (!d2)))))) ∧ ((d4 = true → (∀ e0, Fr (fun i => i = pb) d6 e0 → R (.tuple #[(.agg #[(.int .i64 0), (.int .u64 0), (.string ByteArray.empty), (.string ByteArray.empty)]), (.int .i64 0), (.int .i64 52)]) e0)) ∧ (d4 = false → (∀ e1, Fr (fun i => i = pb) d6 e1 → R (.tuple #[(.agg #[(.int .i64 (IntKind.i64.wrap c1)), (.int .u64 c2), (.string (ofL bs)), (.string (ofL b3))]), (.int .i64 (b7 : Int)), (.int .i64 0)]) e1)))))))))))))))))))))))))))))) :
  HC Tryd.prog 47 #[(.agg #[(.int .i64 b2), (.int .i64 a8), (.int .i64 a5), (.int .i64 a7)]), (.int .u32 c6), (.slice c0 a0 a2), (.int .i64 a1)] h R := by
 refine hc_of (args := [(.agg #[(.int .i64 b2), (.int .i64 a8), (.int .i64 a5), (.int .i64 a7)]), (.int .u32 c6), (.slice c0 a0 a2), (.int .i64 a1)]) Tryd.func47 rfl Tryd.ntmps47 (Nat.le_of_ble_eq_true rfl) ?_
 refine xs (xr ?_)
 refine lp rfl rfl (hn_box (v := (.agg #[(.int .i64 b2), (.int .i64 a8), (.int .i64 a5), (.int .i64 a7)])) rfl ?_)
 intro g h1 g9 g8
 have i0 := ext_pushed_f15_sh g8
 have l1 : Array.size h ≤ g := Nat.le_of_eq (Eq.symm g9)
 have a9 : h1[g]? = some (.cells #[(.int .i64 b2), (.int .i64 a8), (.int .i64 a5), (.int .i64 a7)] 24 (0, 0)) := by rw [g8]; exact push_new g9
 refine lp rfl rfl (hn_alloc TyTBb.z43 ?_)
 intro pb h2 g6 i2
 have i1 := ext_pushed_f15_sh i2
 have d5 := Nat.ne_of_lt (Nat.lt_of_lt_of_eq (row_lt a9) (Eq.symm g6))
 have j5 : Array.size h ≤ pb := Nat.le_trans (Ext.size i0) (Nat.le_of_eq (Eq.symm g6))
 have b4 : h2[pb]? = some (.cells #[(.int .i64 0), (.int .u64 0), (.string ByteArray.empty), (.string ByteArray.empty)] 43 (0, 0)) := by rw [i2]; exact push_new g6
 replace a9 := Ext.row i1 a9
 have j9 := Ext.trans i0 i1
 refine lv rfl rfl (va rfl) (lv rfl rfl (va rfl) ?_)
 refine ln (qn (xs (xs (xr ?_))))
 refine lv rfl rfl (vL (vs := [(.int .i64 b2), (.int .i64 a8), (.int .i64 a5), (.int .i64 a7)]) TyTBb.agg24 TyTBb.sz24 rfl (cc (rc a9 rfl) (cc (rc a9 rfl) (cc (rc a9 rfl) (cc (rc a9 rfl) cn))))) ?_
 replace H := H g pb h2 l1 (row_lt a9) j5 (row_lt b4) j9
 refine lp rfl rfl (sc TyTBb.cb16 rfl (HC.mono H ?_))
 rintro _ h3 ⟨g1, r, rfl, H⟩
 replace a9 := Ext.row g1 a9
 replace b4 := Ext.row g1 b4
 refine lv rfl rfl (va rfl) ?_
 refine ln (qn (xs (xr ?_)))
 refine lv rfl rfl (vm rfl) (lv rfl rfl (vr rfl rfl rfl) ?_)
 refine ln (qn ?_)
 refine xc (b := r != 0) rfl (fun e7 => ?_) (fun e7 => ?_)
 ·replace H := H.1 e7
  refine xs (xr ?_)
  refine lv rfl rfl (v := (.agg #[(.int .i64 0), (.int .u64 0), (.string ByteArray.empty), (.string ByteArray.empty)])) (vb (vs := []) (cs := #[(.int .i64 0), (.int .u64 0), (.string ByteArray.empty), (.string ByteArray.empty)]) TyTBb.z43 TyTBb.pl43 rfl (by kernel_rfl)) (lv rfl rfl (vm rfl) ?_)
  refine lp rfl rfl (hn_stores (vs := [(.int .i64 0), (.int .u64 0), (.string ByteArray.empty), (.string ByteArray.empty)]) rfl rfl TyTBb.sz43 rfl (HWs_row b4 (by simp)) ?_)
  intro h4 f9
  replace a9 := row_hsets_ne f9 d5 a9
  have a3 : h4[pb]? = some (.cells #[(.int .i64 0), (.int .u64 0), (.string ByteArray.empty), (.string ByteArray.empty)] 43 (0, 0)) := row_hsets_eq f9 b4 rfl
  replace H := H h4 (fr_hsets_of f9)
  refine lv rfl rfl (va rfl) (lv rfl rfl (va rfl) ?_)
  refine ln (qn (xt (qr ?_)))
  exact endQ_ret _ (res_three Tryd.results47 (rv_cell (vs := [(.int .i64 0), (.int .u64 0), (.string ByteArray.empty), (.string ByteArray.empty)]) TyTBb.agg43 TyTBb.sz43 rfl (cc (rc a3 rfl) (cc (rc a3 rfl) (cc (rc a3 rfl) (cc (rc a3 rfl) cn))))) (rv_tmp rfl) (rv_tmp rfl)) H
 ·replace H := H.2 e7
  refine xi (qn (xs ?_))
  refine xk (fun ρ h' => h3 = h' ∧ Has ρ [(1, (.int .u32 c6)), (2, (.slice c0 a0 a2)), (3, (.int .i64 a1)), (4, (ptr g 0)), (8, (ptr pb 0)), (31, (.bool ((decide (a1 < 0)) || (decide (a1 > (a0 : Int))))))]) ?_ ?_
  ·refine xr ?_
   refine lv rfl rfl (vm rfl) (lv rfl rfl (vr rfl rfl rfl) (lv rfl rfl (vm rfl) ?_))
   rcases bool_or (decide (a1 < 0)) with b9 | b9
   ·refine lo (wanted_n rfl rfl rfl b9) rfl ?_
    refine lo (wanted_n rfl rfl rfl b9) rfl ?_
    refine lo (wanted_n rfl rfl rfl b9) rfl ?_
    refine lo (wanted_n rfl rfl rfl b9) rfl ?_
    refine lv rfl rfl (v := (.bool true)) (hv_pick_t rfl b9 rfl) ?_
    refine ln (qn ?_)
    exact ⟨rfl, (hc rfl (hc rfl (hc rfl (hc rfl (hc rfl (hc (show ((.bool true) : Value) = (.bool ((decide (a1 < 0)) || (decide (a1 > (a0 : Int))))) from (by first | rfl | ((try rw [b9]); all_goals first | rfl | (simp only [Bool.true_or, Bool.or_true, Bool.false_or, Bool.or_false, Bool.true_and, Bool.and_true, Bool.false_and, Bool.and_false, Bool.not_true, Bool.not_false, Bool.cond_true, Bool.cond_false]; done)) | simp [b9])) hn))))))⟩
   ·refine ly (wanted_y rfl rfl rfl b9) rfl (HStep.of_val (v := (.int .i64 a1)) (vm rfl) ?_)
    refine ly (wanted_y rfl rfl rfl b9) rfl (HStep.of_val (v := (.slice c0 a0 a2)) (vm rfl) ?_)
    refine ly (wanted_y rfl rfl rfl b9) rfl (HStep.of_val (v := (.int .i64 (a0 : Int))) (hv_len (n := a0) TyTBb.u25 rfl) ?_)
    refine ly (wanted_y rfl rfl rfl b9) rfl (HStep.of_val (v := (.bool (decide (a1 > (a0 : Int))))) (vr rfl rfl rfl) ?_)
    refine lv rfl rfl (v := (.bool (decide (a1 > (a0 : Int))))) (hv_pick_f rfl b9 rfl) ?_
    refine ln (qn ?_)
    exact ⟨rfl, (hc rfl (hc rfl (hc rfl (hc rfl (hc rfl (hc (show ((.bool (decide (a1 > (a0 : Int)))) : Value) = (.bool ((decide (a1 < 0)) || (decide (a1 > (a0 : Int))))) from (by first | rfl | ((try rw [b9]); all_goals first | rfl | (simp only [Bool.true_or, Bool.or_true, Bool.false_or, Bool.or_false, Bool.true_and, Bool.and_true, Bool.false_and, Bool.and_false, Bool.not_true, Bool.not_false, Bool.cond_true, Bool.cond_false]; done)) | simp [b9])) hn))))))⟩
  ·rintro ρ _ ⟨rfl, hH⟩
   refine xh _ hH ?_
   refine xc (b := ((decide (a1 < 0)) || (decide (a1 > (a0 : Int))))) rfl (fun f3 => ?_) (fun f3 => ?_)
   ·replace H := H.1 f3
    refine xs (xr ?_)
    refine lv rfl rfl (v := (.agg #[(.int .i64 0), (.int .u64 0), (.string ByteArray.empty), (.string ByteArray.empty)])) (vb (vs := []) (cs := #[(.int .i64 0), (.int .u64 0), (.string ByteArray.empty), (.string ByteArray.empty)]) TyTBb.z43 TyTBb.pl43 rfl (by kernel_rfl)) ?_
    refine lp rfl rfl (hn_stores (vs := [(.int .i64 0), (.int .u64 0), (.string ByteArray.empty), (.string ByteArray.empty)]) rfl rfl TyTBb.sz43 rfl (HWs_row b4 (by simp)) ?_)
    intro h5 e9
    replace a9 := row_hsets_ne e9 d5 a9
    have a3 : h5[pb]? = some (.cells #[(.int .i64 0), (.int .u64 0), (.string ByteArray.empty), (.string ByteArray.empty)] 43 (0, 0)) := row_hsets_eq e9 b4 rfl
    replace H := H h5 (fr_hsets_of e9)
    refine lv rfl rfl (va rfl) (lv rfl rfl (va rfl) ?_)
    refine ln (qn (xt (qr ?_)))
    exact endQ_ret _ (res_three Tryd.results47 (rv_cell (vs := [(.int .i64 0), (.int .u64 0), (.string ByteArray.empty), (.string ByteArray.empty)]) TyTBb.agg43 TyTBb.sz43 rfl (cc (rc a3 rfl) (cc (rc a3 rfl) (cc (rc a3 rfl) (cc (rc a3 rfl) cn))))) (rv_tmp rfl) (rv_tmp rfl)) H
   ·replace H := H.2 f3
    refine xi (qn (xs ?_))
    obtain ⟨c9, e2, f8⟩ := H
    refine xk (fun ρ h' => h3 = h' ∧ Has ρ [(1, (.int .u32 c6)), (2, (.slice c0 a0 a2)), (3, (.int .i64 a1)), (4, (ptr g 0)), (8, (ptr pb 0)), (43, (.bool c9))]) ?_ ?_
    ·have H := e2; clear e2 f8
     refine xr ?_
     refine lv rfl rfl (vm rfl) (lv rfl rfl (vm rfl) (lv rfl rfl (v := (.int .i64 (a0 : Int))) (hv_len (n := a0) TyTBb.u25 rfl) (lv rfl rfl (vr rfl rfl rfl) (lv rfl rfl (vm rfl) ?_))))
     rcases bool_or (a1 == (a0 : Int)) with b8 | b8
     ·replace H := H.1 b8
      refine lo (wanted_n rfl rfl rfl b8) rfl ?_
      refine lo (wanted_n rfl rfl rfl b8) rfl ?_
      refine lo (wanted_n rfl rfl rfl b8) rfl ?_
      refine lo (wanted_n rfl rfl rfl b8) rfl ?_
      refine lo (wanted_n rfl rfl rfl b8) rfl ?_
      refine lv rfl rfl (v := (.bool true)) (hv_pick_t rfl b8 rfl) ?_
      refine ln (qn ?_)
      obtain rfl := H
      exact ⟨rfl, (hc rfl (hc rfl (hc rfl (hc rfl (hc rfl (hc rfl hn))))))⟩
     ·replace H := H.2 b8
      refine ly (wanted_y rfl rfl rfl b8) rfl (HStep.of_val (v := (.slice c0 a0 a2)) (vm rfl) ?_)
      refine ly (wanted_y rfl rfl rfl b8) rfl (HStep.of_val (v := (.int .i64 a1)) (vm rfl) ?_)
      obtain ⟨c4, c5, g4, i8, k1, Hq⟩ := H
      subst g4
      have H := Hq; clear Hq
      refine ly (wanted_y rfl rfl rfl b8) rfl (HStep.of_val (v := (ptr c4 (c5 + (Int.toNat a1) * 1))) (vi TyTBb.el25 rfl rfl i8 k1) ?_)
      obtain ⟨x, k4, H⟩ := H
      refine ly (wanted_y rfl rfl rfl b8) rfl (HStep.of_val (v := (.int .u8 x)) (vl TyTBb.agg5 rfl k4) ?_)
      refine ly (wanted_y rfl rfl rfl b8) rfl (HStep.of_val (v := (.bool (x == 255))) (vr rfl rfl rfl) ?_)
      refine lv rfl rfl (v := (.bool (x == 255))) (hv_pick_f rfl b8 rfl) ?_
      refine ln (qn ?_)
      obtain rfl := H
      exact ⟨rfl, (hc rfl (hc rfl (hc rfl (hc rfl (hc rfl (hc rfl hn))))))⟩
    ·have H := f8; clear e2 f8
     rintro ρ _ ⟨rfl, hH⟩
     refine xh _ hH ?_
     refine xc (b := c9) rfl (fun f0 => ?_) (fun f0 => ?_)
     ·replace H := H.1 f0
      refine xs (xr ?_)
      refine lv rfl rfl (v := (.agg #[(.int .i64 0), (.int .u64 0), (.string ByteArray.empty), (.string ByteArray.empty)])) (vb (vs := []) (cs := #[(.int .i64 0), (.int .u64 0), (.string ByteArray.empty), (.string ByteArray.empty)]) TyTBb.z43 TyTBb.pl43 rfl (by kernel_rfl)) ?_
      refine lp rfl rfl (hn_stores (vs := [(.int .i64 0), (.int .u64 0), (.string ByteArray.empty), (.string ByteArray.empty)]) rfl rfl TyTBb.sz43 rfl (HWs_row b4 (by simp)) ?_)
      intro h6 e6
      replace a9 := row_hsets_ne e6 d5 a9
      have a3 : h6[pb]? = some (.cells #[(.int .i64 0), (.int .u64 0), (.string ByteArray.empty), (.string ByteArray.empty)] 43 (0, 0)) := row_hsets_eq e6 b4 rfl
      replace H := H h6 (fr_hsets_of e6)
      refine lv rfl rfl (va rfl) (lv rfl rfl (va rfl) ?_)
      refine ln (qn (xt (qr ?_)))
      exact endQ_ret _ (res_three Tryd.results47 (rv_cell (vs := [(.int .i64 0), (.int .u64 0), (.string ByteArray.empty), (.string ByteArray.empty)]) TyTBb.agg43 TyTBb.sz43 rfl (cc (rc a3 rfl) (cc (rc a3 rfl) (cc (rc a3 rfl) (cc (rc a3 rfl) cn))))) (rv_tmp rfl) (rv_tmp rfl)) H
     ·replace H := H.2 f0
      refine xi (qn (xs (xr ?_)))
      refine lv rfl rfl (vm rfl) (lv rfl rfl (vm rfl) ?_)
      obtain ⟨k5, i5, i4, H⟩ := H
      obtain ⟨sl, hq32⟩ : ∃ q, q = slA c0 (Int.toNat a1) 1 a2 := ⟨_, rfl⟩
      replace H := H sl hq32
      refine lv rfl rfl (v := (.slice sl (Int.toNat (a0 : Int) - Int.toNat a1) (a2 - Int.toNat a1))) (hv_slice (l := a1) (r := (a0 : Int)) TyTBb.u25 TyTBb.sz5 rfl (sl_some rfl) sh_none k5 i5 i4 hq32) (lv rfl rfl (va rfl) ?_)
      refine ln (qn (xs (xs (xr ?_))))
      refine lv rfl rfl (vm rfl) (lv rfl rfl (v := (.int .i64 (((Int.toNat (a0 : Int) - Int.toNat a1) : Nat) : Int))) (hv_len (n := (Int.toNat (a0 : Int) - Int.toNat a1)) TyTBb.u25 rfl) (lv rfl rfl (vr rfl rfl rfl) ?_))
      refine ln (qn ?_)
      refine xc (b := decide ((((Int.toNat (a0 : Int) - Int.toNat a1) : Nat) : Int) < 24)) rfl (fun e5 => ?_) (fun e5 => ?_)
      ·replace H := H.1 e5
       refine xs (xr ?_)
       refine lv rfl rfl (v := (.agg #[(.int .i64 0), (.int .u64 0), (.string ByteArray.empty), (.string ByteArray.empty)])) (vb (vs := []) (cs := #[(.int .i64 0), (.int .u64 0), (.string ByteArray.empty), (.string ByteArray.empty)]) TyTBb.z43 TyTBb.pl43 rfl (by kernel_rfl)) ?_
       refine lp rfl rfl (hn_stores (vs := [(.int .i64 0), (.int .u64 0), (.string ByteArray.empty), (.string ByteArray.empty)]) rfl rfl TyTBb.sz43 rfl (HWs_row b4 (by simp)) ?_)
       intro h7 f1
       replace a9 := row_hsets_ne f1 d5 a9
       have a3 : h7[pb]? = some (.cells #[(.int .i64 0), (.int .u64 0), (.string ByteArray.empty), (.string ByteArray.empty)] 43 (0, 0)) := row_hsets_eq f1 b4 rfl
       replace H := H h7 (fr_hsets_of f1)
       refine lv rfl rfl (va rfl) (lv rfl rfl (va rfl) ?_)
       refine ln (qn (xt (qr ?_)))
       exact endQ_ret _ (res_three Tryd.results47 (rv_cell (vs := [(.int .i64 0), (.int .u64 0), (.string ByteArray.empty), (.string ByteArray.empty)]) TyTBb.agg43 TyTBb.sz43 rfl (cc (rc a3 rfl) (cc (rc a3 rfl) (cc (rc a3 rfl) (cc (rc a3 rfl) cn))))) (rv_tmp rfl) (rv_tmp rfl)) H
      ·replace H := H.2 e5
       refine xi (qn (xs (xr ?_)))
       refine lv rfl rfl (vm rfl) ?_
       obtain ⟨a4, j6, H⟩ := H
       refine lv rfl rfl (hv_call TyTBb.cb69 (vs := [(.slice sl (Int.toNat (a0 : Int) - Int.toNat a1) (a2 - Int.toNat a1)), (.int .i64 2), (.int .i64 2)]) rfl j6) (lv rfl rfl (v := (.int .i64 (IntKind.i64.wrap a4))) (hv_convInt TyTBb.u29 TyTBb.u3 rfl) (lv rfl rfl (vm rfl) ?_))
       obtain ⟨b0, j0, H⟩ := H
       refine lv rfl rfl (hv_call TyTBb.cb69 (vs := [(.slice sl (Int.toNat (a0 : Int) - Int.toNat a1) (a2 - Int.toNat a1)), (.int .i64 4), (.int .i64 4)]) rfl j0) (lv rfl rfl (v := (.int .i64 (IntKind.i64.wrap b0))) (hv_convInt TyTBb.u29 TyTBb.u3 rfl) (lv rfl rfl (va rfl) (lv rfl rfl (va rfl) ?_)))
       refine ln (qn (xs (xs (xr ?_))))
       refine lv rfl rfl (vm rfl) (lv rfl rfl (vm rfl) (lv rfl rfl (vr rfl rfl rfl) (lv rfl rfl (vm rfl) (lv rfl rfl (v := (.int .i64 (((Int.toNat (a0 : Int) - Int.toNat a1) : Nat) : Int))) (hv_len (n := (Int.toNat (a0 : Int) - Int.toNat a1)) TyTBb.u25 rfl) (lv rfl rfl (vr rfl rfl rfl) ?_)))))
       refine lv rfl rfl (vr rfl rfl rfl) ?_
       refine ln (qn ?_)
       refine xc (b := decide ((IntKind.i64.wrap ((IntKind.i64.wrap a4) + (IntKind.i64.wrap b0))) > (IntKind.i64.wrap ((((Int.toNat (a0 : Int) - Int.toNat a1) : Nat) : Int) - 24)))) rfl (fun f6 => ?_) (fun f6 => ?_)
       ·replace H := H.1 f6
        refine xs (xr ?_)
        refine lv rfl rfl (v := (.agg #[(.int .i64 0), (.int .u64 0), (.string ByteArray.empty), (.string ByteArray.empty)])) (vb (vs := []) (cs := #[(.int .i64 0), (.int .u64 0), (.string ByteArray.empty), (.string ByteArray.empty)]) TyTBb.z43 TyTBb.pl43 rfl (by kernel_rfl)) ?_
        refine lp rfl rfl (hn_stores (vs := [(.int .i64 0), (.int .u64 0), (.string ByteArray.empty), (.string ByteArray.empty)]) rfl rfl TyTBb.sz43 rfl (HWs_row b4 (by simp)) ?_)
        intro h8 f4
        replace a9 := row_hsets_ne f4 d5 a9
        have a3 : h8[pb]? = some (.cells #[(.int .i64 0), (.int .u64 0), (.string ByteArray.empty), (.string ByteArray.empty)] 43 (0, 0)) := row_hsets_eq f4 b4 rfl
        replace H := H h8 (fr_hsets_of f4)
        refine lv rfl rfl (va rfl) (lv rfl rfl (va rfl) ?_)
        refine ln (qn (xt (qr ?_)))
        exact endQ_ret _ (res_three Tryd.results47 (rv_cell (vs := [(.int .i64 0), (.int .u64 0), (.string ByteArray.empty), (.string ByteArray.empty)]) TyTBb.agg43 TyTBb.sz43 rfl (cc (rc a3 rfl) (cc (rc a3 rfl) (cc (rc a3 rfl) (cc (rc a3 rfl) cn))))) (rv_tmp rfl) (rv_tmp rfl)) H
       ·replace H := H.2 f6
        refine xi (qn (xs ?_))
        refine hx_draw TyTBb.mixed [.pure, .pure, .read, .pure, .pure, .read, .pure, .pure, .pure, .pure, .read, .pure, .pure, .pure, .pure, .pure, .pure, .pure, .pure, .read, .pure, .ext, .wild] [0, 1, 2, 3, 4, 5, 6, 7, 8, 9, 10, 11, 12, 13, 14, 15, 16, 17, 18, 19, 20, 21, 22] (by kernel_rfl) ?_
        refine pp (i := 0) rfl (wanted_0 rfl) rfl (.slice sl (Int.toNat (a0 : Int) - Int.toNat a1) (a2 - Int.toNat a1)) (fun _ => vm rfl) ?_
        obtain ⟨b5, b6, g4, k0, k8, Hq⟩ := H
        subst g4
        have H := Hq; clear Hq
        refine pp (i := 1) rfl (wanted_0 rfl) rfl (ptr b5 (b6 + (Int.toNat 0) * 1)) (fun _ => vi TyTBb.el25 rfl rfl k0 k8) ?_
        obtain ⟨c1, k9, H⟩ := H
        refine pr (i := 2) rfl (wanted_0 rfl) rfl (.int .u8 c1) (fun _ he => vl TyTBb.agg5 rfl (Ext.cell he k9)) ?_
        refine pp (i := 3) rfl (wanted_0 rfl) rfl (.int .i64 (IntKind.i64.wrap c1)) (fun _ => hv_convInt TyTBb.u5 TyTBb.u3 rfl) ?_
        refine pp (i := 4) rfl (wanted_0 rfl) rfl (.slice (some ⟨b5, b6, none⟩) (Int.toNat (a0 : Int) - Int.toNat a1) (a2 - Int.toNat a1)) (fun _ => vm rfl) ?_
        obtain ⟨c2, j3, H⟩ := H
        refine pr (i := 5) rfl (wanted_0 rfl) rfl (.int .u64 c2) (fun _ he => hv_call TyTBb.cb69 (vs := [(.slice (some ⟨b5, b6, none⟩) (Int.toNat (a0 : Int) - Int.toNat a1) (a2 - Int.toNat a1)), (.int .i64 8), (.int .i64 8)]) rfl (j3 _ he)) ?_
        refine pp (i := 6) rfl (wanted_0 rfl) rfl (.slice (some ⟨b5, b6, none⟩) (Int.toNat (a0 : Int) - Int.toNat a1) (a2 - Int.toNat a1)) (fun _ => vm rfl) ?_
        refine pp (i := 7) rfl (wanted_0 rfl) rfl (.int .i64 (IntKind.i64.wrap a4)) (fun _ => vm rfl) ?_
        refine pp (i := 8) rfl (wanted_0 rfl) rfl (.int .i64 (IntKind.i64.wrap (24 + (IntKind.i64.wrap a4)))) (fun _ => vr rfl rfl rfl) ?_
        obtain ⟨j7, j4, i3, H⟩ := H
        obtain ⟨d3, hq46⟩ : ∃ q, q = slA (some ⟨b5, b6, none⟩) (Int.toNat 24) 1 (a2 - Int.toNat a1) := ⟨_, rfl⟩
        replace H := H d3 hq46
        refine pp (i := 9) rfl (wanted_0 rfl) rfl (.slice d3 (Int.toNat (IntKind.i64.wrap (24 + (IntKind.i64.wrap a4))) - Int.toNat 24) ((a2 - Int.toNat a1) - Int.toNat 24)) (fun _ => hv_slice (l := 24) (r := IntKind.i64.wrap (24 + (IntKind.i64.wrap a4))) TyTBb.u25 TyTBb.sz5 rfl (sl_some rfl) (sh_some rfl) j7 j4 i3 hq46) ?_
        obtain ⟨bs, k7, H⟩ := H
        refine pr (i := 10) rfl (wanted_0 rfl) rfl (.string (ofL bs)) (fun _ he => hv_b2s TyTBb.u25 TyTBb.u5 TyTBb.u9 rfl (Byt.ext he k7)) ?_
        refine pp (i := 11) rfl (wanted_0 rfl) rfl (.slice (some ⟨b5, b6, none⟩) (Int.toNat (a0 : Int) - Int.toNat a1) (a2 - Int.toNat a1)) (fun _ => vm rfl) ?_
        refine pp (i := 12) rfl (wanted_0 rfl) rfl (.int .i64 (IntKind.i64.wrap a4)) (fun _ => vm rfl) ?_
        refine pp (i := 13) rfl (wanted_0 rfl) rfl (.int .i64 (IntKind.i64.wrap (24 + (IntKind.i64.wrap a4)))) (fun _ => vr rfl rfl rfl) ?_
        refine pp (i := 14) rfl (wanted_0 rfl) rfl (.int .i64 (IntKind.i64.wrap a4)) (fun _ => vm rfl) ?_
        refine pp (i := 15) rfl (wanted_0 rfl) rfl (.int .i64 (IntKind.i64.wrap (24 + (IntKind.i64.wrap a4)))) (fun _ => vr rfl rfl rfl) ?_
        refine pp (i := 16) rfl (wanted_0 rfl) rfl (.int .i64 (IntKind.i64.wrap b0)) (fun _ => vm rfl) ?_
        refine pp (i := 17) rfl (wanted_0 rfl) rfl (.int .i64 (IntKind.i64.wrap ((IntKind.i64.wrap (24 + (IntKind.i64.wrap a4))) + (IntKind.i64.wrap b0)))) (fun _ => vr rfl rfl rfl) ?_
        obtain ⟨j2, j1, k2, H⟩ := H
        obtain ⟨d1, hq51⟩ : ∃ q, q = slA (some ⟨b5, b6, none⟩) (Int.toNat (IntKind.i64.wrap (24 + (IntKind.i64.wrap a4)))) 1 (a2 - Int.toNat a1) := ⟨_, rfl⟩
        replace H := H d1 hq51
        refine pp (i := 18) rfl (wanted_0 rfl) rfl (.slice d1 (Int.toNat (IntKind.i64.wrap ((IntKind.i64.wrap (24 + (IntKind.i64.wrap a4))) + (IntKind.i64.wrap b0))) - Int.toNat (IntKind.i64.wrap (24 + (IntKind.i64.wrap a4)))) ((a2 - Int.toNat a1) - Int.toNat (IntKind.i64.wrap (24 + (IntKind.i64.wrap a4))))) (fun _ => hv_slice (l := IntKind.i64.wrap (24 + (IntKind.i64.wrap a4))) (r := IntKind.i64.wrap ((IntKind.i64.wrap (24 + (IntKind.i64.wrap a4))) + (IntKind.i64.wrap b0))) TyTBb.u25 TyTBb.sz5 rfl (sl_some rfl) (sh_some rfl) j2 j1 k2 hq51) ?_
        obtain ⟨b3, i6, H⟩ := H
        refine pr (i := 19) rfl (wanted_0 rfl) rfl (.string (ofL b3)) (fun _ he => hv_b2s TyTBb.u25 TyTBb.u5 TyTBb.u9 rfl (Byt.ext he i6)) ?_
        refine pp (i := 20) rfl (wanted_0 rfl) rfl (.agg #[(.int .i64 (IntKind.i64.wrap c1)), (.int .u64 c2), (.string (ofL bs)), (.string (ofL b3))]) (fun _ => vb (vs := [(0, (.int .i64 (IntKind.i64.wrap c1))), (1, (.int .u64 c2)), (2, (.string (ofL bs))), (3, (.string (ofL b3)))]) (cs := #[(.int .i64 (IntKind.i64.wrap c1)), (.int .u64 c2), (.string (ofL bs)), (.string (ofL b3))]) TyTBb.z43 TyTBb.pl43 rfl (by kernel_rfl)) ?_
        refine hp_ext (i := 21) rfl (wanted_0 rfl) rfl (hn_alloc TyTBb.z43 ?_)
        intro c8 h9 d9 g5
        have d8 := ext_pushed_f15_sh g5
        refine ⟨d8, ?_⟩
        have k6 := Nat.ne_of_lt (Nat.lt_of_lt_of_eq (row_lt a9) (Eq.symm d9))
        have e3 := Nat.ne_of_lt (Nat.lt_of_lt_of_eq (row_lt b4) (Eq.symm d9))
        have g2 : Array.size h3 ≤ c8 := Nat.le_of_eq (Eq.symm d9)
        have g3 : h9[c8]? = some (.cells #[(.int .i64 0), (.int .u64 0), (.string ByteArray.empty), (.string ByteArray.empty)] 43 (0, 0)) := by rw [g5]; exact push_new d9
        replace a9 := Ext.row d8 a9
        replace b4 := Ext.row d8 b4
        refine hp_wild (i := 22) rfl (wanted_0 rfl) rfl (hn_stores (vs := [(.int .i64 (IntKind.i64.wrap c1)), (.int .u64 c2), (.string (ofL bs)), (.string (ofL b3))]) rfl rfl TyTBb.sz43 rfl (HWs_row g3 (by simp)) ?_)
        intro d0 d7
        replace a9 := row_hsets_ne d7 k6 a9
        replace b4 := row_hsets_ne d7 e3 b4
        have b1 : d0[c8]? = some (.cells #[(.int .i64 (IntKind.i64.wrap c1)), (.int .u64 c2), (.string (ofL bs)), (.string (ofL b3))] 43 (0, 0)) := row_hsets_eq d7 g3 rfl
        have i9 := ext_hsets d7 d8 g2
        refine hp_nil ?_
        refine qn (xs (xr ?_))
        refine lv rfl rfl (vL (vs := [(.int .i64 b2), (.int .i64 a8), (.int .i64 a5), (.int .i64 a7)]) TyTBb.agg24 TyTBb.sz24 rfl (cc (rc a9 rfl) (cc (rc a9 rfl) (cc (rc a9 rfl) (cc (rc a9 rfl) cn))))) (lv rfl rfl (vm rfl) (lv rfl rfl (vL (vs := [(.int .i64 (IntKind.i64.wrap c1)), (.int .u64 c2), (.string (ofL bs)), (.string (ofL b3))]) TyTBb.agg43 TyTBb.sz43 rfl (cc (rc b1 rfl) (cc (rc b1 rfl) (cc (rc b1 rfl) (cc (rc b1 rfl) cn))))) ?_))
        replace H := H c8 d0 g2 (row_lt b1) i9
        refine lp rfl rfl (sc TyTBb.cb46 rfl (HC.mono H ?_))
        rintro _ d6 ⟨g7, r0, b7, c3, r1, rfl, H⟩
        replace b4 := Ext.row g7 b4
        replace b1 := Ext.row g7 b1
        refine lv rfl rfl (vm rfl) (lv rfl rfl (vx rfl rfl) (lv rfl rfl (vx rfl rfl) (lv rfl rfl (va rfl) (lv rfl rfl (va rfl) ?_))))
        refine ln (qn (xs ?_))
        obtain ⟨d4, f7, f5⟩ := H
        refine xk (fun ρ h' => d6 = h' ∧ Has ρ [(8, (ptr pb 0)), (15, (ptr c8 0)), (16, (.slice r0 b7 c3)), (106, (.bool d4))]) ?_ ?_
        ·have H := f7; clear f7 f5
         refine xr ?_
         refine lv rfl rfl (vm rfl) (lv rfl rfl (vr rfl rfl rfl) (lv rfl rfl (vm rfl) ?_))
         rcases bool_or (r1 != 0) with a6 | a6
         ·replace H := H.1 a6
          refine lo (wanted_n rfl rfl rfl a6) rfl ?_
          refine lo (wanted_n rfl rfl rfl a6) rfl ?_
          refine lo (wanted_n rfl rfl rfl a6) rfl ?_
          refine lo (wanted_n rfl rfl rfl a6) rfl ?_
          refine lo (wanted_n rfl rfl rfl a6) rfl ?_
          refine lo (wanted_n rfl rfl rfl a6) rfl ?_
          refine lo (wanted_n rfl rfl rfl a6) rfl ?_
          refine lo (wanted_n rfl rfl rfl a6) rfl ?_
          refine lo (wanted_n rfl rfl rfl a6) rfl ?_
          refine lv rfl rfl (v := (.bool true)) (hv_pick_t rfl a6 rfl) ?_
          refine ln (qn ?_)
          obtain rfl := H
          exact ⟨rfl, (hc rfl (hc rfl (hc rfl (hc rfl hn))))⟩
         ·replace H := H.2 a6
          refine ly (wanted_y rfl rfl rfl a6) rfl (HStep.of_val (v := (.slice r0 b7 c3)) (vm rfl) ?_)
          refine ly (wanted_y rfl rfl rfl a6) rfl (HStep.of_val (v := (.slice (some ⟨b5, b6, none⟩) (Int.toNat (a0 : Int) - Int.toNat a1) (a2 - Int.toNat a1))) (vm rfl) ?_)
          refine ly (wanted_y rfl rfl rfl a6) rfl (HStep.of_val (v := (.int .i64 (IntKind.i64.wrap a4))) (vm rfl) ?_)
          refine ly (wanted_y rfl rfl rfl a6) rfl (HStep.of_val (v := (.int .i64 (IntKind.i64.wrap (24 + (IntKind.i64.wrap a4))))) (vr rfl rfl rfl) ?_)
          refine ly (wanted_y rfl rfl rfl a6) rfl (HStep.of_val (v := (.int .i64 (IntKind.i64.wrap b0))) (vm rfl) ?_)
          refine ly (wanted_y rfl rfl rfl a6) rfl (HStep.of_val (v := (.int .i64 (IntKind.i64.wrap ((IntKind.i64.wrap (24 + (IntKind.i64.wrap a4))) + (IntKind.i64.wrap b0))))) (vr rfl rfl rfl) ?_)
          obtain ⟨k3, i7, l0, H⟩ := H
          obtain ⟨c7, hq69⟩ : ∃ q, q = slA (some ⟨b5, b6, none⟩) (Int.toNat 0) 1 (a2 - Int.toNat a1) := ⟨_, rfl⟩
          replace H := H c7 hq69
          refine ly (wanted_y rfl rfl rfl a6) rfl (HStep.of_val (v := (.slice c7 (Int.toNat (IntKind.i64.wrap ((IntKind.i64.wrap (24 + (IntKind.i64.wrap a4))) + (IntKind.i64.wrap b0))) - Int.toNat 0) ((a2 - Int.toNat a1) - Int.toNat 0))) (hv_slice (l := 0) (r := IntKind.i64.wrap ((IntKind.i64.wrap (24 + (IntKind.i64.wrap a4))) + (IntKind.i64.wrap b0))) TyTBb.u25 TyTBb.sz5 rfl sl_none (sh_some rfl) k3 i7 l0 hq69) ?_)
          obtain ⟨d2, j8, H⟩ := H
          refine ly (wanted_y rfl rfl rfl a6) rfl (HStep.of_val (v := (.bool d2)) (hv_call TyTBb.cb70 (vs := [(.slice r0 b7 c3), (.slice c7 (Int.toNat (IntKind.i64.wrap ((IntKind.i64.wrap (24 + (IntKind.i64.wrap a4))) + (IntKind.i64.wrap b0))) - Int.toNat 0) ((a2 - Int.toNat a1) - Int.toNat 0))]) rfl j8) ?_)
          refine ly (wanted_y rfl rfl rfl a6) rfl (HStep.of_val (v := (.bool (!d2))) (hv_not (b := d2) rfl) ?_)
          refine lv rfl rfl (v := (.bool (!d2))) (hv_pick_f rfl a6 rfl) ?_
          refine ln (qn ?_)
          obtain rfl := H
          exact ⟨rfl, (hc rfl (hc rfl (hc rfl (hc rfl hn))))⟩
        ·have H := f5; clear f7 f5
         rintro ρ _ ⟨rfl, hH⟩
         refine xh _ hH ?_
         refine xc (b := d4) rfl (fun e4 => ?_) (fun e4 => ?_)
         ·replace H := H.1 e4
          refine xs (xr ?_)
          refine lv rfl rfl (v := (.agg #[(.int .i64 0), (.int .u64 0), (.string ByteArray.empty), (.string ByteArray.empty)])) (vb (vs := []) (cs := #[(.int .i64 0), (.int .u64 0), (.string ByteArray.empty), (.string ByteArray.empty)]) TyTBb.z43 TyTBb.pl43 rfl (by kernel_rfl)) ?_
          refine lp rfl rfl (hn_stores (vs := [(.int .i64 0), (.int .u64 0), (.string ByteArray.empty), (.string ByteArray.empty)]) rfl rfl TyTBb.sz43 rfl (HWs_row b4 (by simp)) ?_)
          intro e0 e8
          replace b1 := row_hsets_ne e8 (Ne.symm e3) b1
          have a3 : e0[pb]? = some (.cells #[(.int .i64 0), (.int .u64 0), (.string ByteArray.empty), (.string ByteArray.empty)] 43 (0, 0)) := row_hsets_eq e8 b4 rfl
          replace H := H e0 (fr_hsets_of e8)
          refine lv rfl rfl (va rfl) (lv rfl rfl (va rfl) ?_)
          refine ln (qn (xt (qr ?_)))
          exact endQ_ret _ (res_three Tryd.results47 (rv_cell (vs := [(.int .i64 0), (.int .u64 0), (.string ByteArray.empty), (.string ByteArray.empty)]) TyTBb.agg43 TyTBb.sz43 rfl (cc (rc a3 rfl) (cc (rc a3 rfl) (cc (rc a3 rfl) (cc (rc a3 rfl) cn))))) (rv_tmp rfl) (rv_tmp rfl)) H
         ·replace H := H.2 e4
          refine xi (qn (xs (xr ?_)))
          refine lv rfl rfl (vL (vs := [(.int .i64 (IntKind.i64.wrap c1)), (.int .u64 c2), (.string (ofL bs)), (.string (ofL b3))]) TyTBb.agg43 TyTBb.sz43 rfl (cc (rc b1 rfl) (cc (rc b1 rfl) (cc (rc b1 rfl) (cc (rc b1 rfl) cn))))) (lv rfl rfl (vm rfl) (lv rfl rfl (v := (.int .i64 (b7 : Int))) (hv_len (n := b7) TyTBb.u25 rfl) ?_))
          refine lp rfl rfl (hn_stores (vs := [(.int .i64 (IntKind.i64.wrap c1)), (.int .u64 c2), (.string (ofL bs)), (.string (ofL b3))]) rfl rfl TyTBb.sz43 rfl (HWs_row b4 (by simp)) ?_)
          intro e1 f2
          replace b1 := row_hsets_ne f2 (Ne.symm e3) b1
          have a3 : e1[pb]? = some (.cells #[(.int .i64 (IntKind.i64.wrap c1)), (.int .u64 c2), (.string (ofL bs)), (.string (ofL b3))] 43 (0, 0)) := row_hsets_eq f2 b4 rfl
          replace H := H e1 (fr_hsets_of f2)
          refine lv rfl rfl (va rfl) (lv rfl rfl (va rfl) ?_)
          refine ln (qn (xt ?_))
          exact endQ_ret _ (res_three Tryd.results47 (rv_cell (vs := [(.int .i64 (IntKind.i64.wrap c1)), (.int .u64 c2), (.string (ofL bs)), (.string (ofL b3))]) TyTBb.agg43 TyTBb.sz43 rfl (cc (rc a3 rfl) (cc (rc a3 rfl) (cc (rc a3 rfl) (cc (rc a3 rfl) cn))))) (rv_tmp rfl) (rv_tmp rfl)) H
theorem f70_sh (a : Option Addr) (a0 : Nat) (a3 : Nat) (b : Option Addr) (a1 : Nat) (a4 : Nat) (h : Heap) (R : Value → Heap → Prop)
  (H : ((((a0 : Int) != (a1 : Int)) = true → R (.bool false) h) ∧ (((a0 : Int) != (a1 : Int)) = false → (∃ (I2 : Int → Prop) (a8 : Int → Nat), I2 0 ∧ (∀ (i : Int), I2 i → (((decide (i < (a0 : Int))) = true → (∃ a9 a7 : Nat, a = some ⟨a9, a7, none⟩ ∧ (0 : Int) ≤ i ∧ i < (a0 : Int) ∧ (∃ x : Int, hcell h a9 (a7 + (Int.toNat i) * 1) = some (.int .u8 x) ∧ (∃ b0 a6 : Nat, b = some ⟨b0, a6, none⟩ ∧ (0 : Int) ≤ i ∧ i < (a1 : Int) ∧ (∃ a2 : Int, hcell h b0 (a6 + (Int.toNat i) * 1) = some (.int .u8 a2) ∧ (((x != a2) = true → R (.bool false) h) ∧ ((x != a2) = false → (I2 (IntKind.i64.wrap (i + 1)) ∧ a8 (IntKind.i64.wrap (i + 1)) < a8 i)))))))) ∧ ((decide (i < (a0 : Int))) = false → R (.bool true) h))))))) :
  HC Tryd.prog 70 #[(.slice a a0 a3), (.slice b a1 a4)] h R := by
 refine hc_of (args := [(.slice a a0 a3), (.slice b a1 a4)]) Tryd.func70 rfl Tryd.ntmps70 (Nat.le_of_ble_eq_true rfl) ?_
 refine xs (xr ?_)
 refine lv rfl rfl (va rfl) ?_
 refine ln (qn (xs (xs (xr ?_))))
 refine lv rfl rfl (vm rfl) (lv rfl rfl (v := (.int .i64 (a0 : Int))) (hv_len (n := a0) TyTBb.u25 rfl) (lv rfl rfl (vm rfl) (lv rfl rfl (v := (.int .i64 (a1 : Int))) (hv_len (n := a1) TyTBb.u25 rfl) (lv rfl rfl (vr rfl rfl rfl) ?_))))
 refine ln (qn ?_)
 refine xc (b := (a0 : Int) != (a1 : Int)) rfl (fun b1 => ?_) (fun b1 => ?_)
 ·replace H := H.1 b1
  refine xs (xr ?_)
  refine lv rfl rfl (va rfl) ?_
  refine ln (qn (xt (qr ?_)))
  exact endQ_ret _ (res_one Tryd.results70 (rv_tmp rfl)) H
 ·replace H := H.2 b1
  refine xi (qn (xs (xs (xr ?_))))
  refine lv rfl rfl (va rfl) ?_
  refine ln (qn (xb ?_))
  obtain ⟨I2, a8, c0, c1⟩ := H
  refine xl (σ := Int) (fun s => [(0, (.slice a a0 a3)), (1, (.slice b a1 a4)), (5, (.int .i64 s))]) (fun s h' => I2 s ∧ h = h') (fun s _ => a8 s) 0 ⟨c0, rfl⟩ (hc rfl (hc rfl (hc rfl hn))) ?_
  rintro i ρ _ ⟨c2, rfl⟩
  have H := c1 i c2
  refine xs (xs (xr ?_))
  refine lv rfl rfl (vm rfl) (lv rfl rfl (vm rfl) (lv rfl rfl (v := (.int .i64 (a0 : Int))) (hv_len (n := a0) TyTBb.u25 rfl) (lv rfl rfl (vr rfl rfl rfl) ?_)))
  refine ln (qn ?_)
  refine xc (b := decide (i < (a0 : Int))) rfl (fun b3 => ?_) (fun b3 => ?_)
  ·replace H := H.1 b3
   refine xi (qn (xs (xb (xs ?_))))
   refine hx_draw TyTBb.mixed [.pure, .pure, .pure, .read, .pure, .pure, .pure, .read, .pure] [0, 1, 2, 3, 4, 5, 6, 7, 8] (by kernel_rfl) ?_
   refine pp (i := 0) rfl (wanted_0 rfl) rfl (.slice a a0 a3) (fun _ => vm rfl) ?_
   refine pp (i := 1) rfl (wanted_0 rfl) rfl (.int .i64 i) (fun _ => vm rfl) ?_
   obtain ⟨a9, a7, b2, b8, b9, Hq⟩ := H
   subst b2
   have H := Hq; clear Hq
   refine pp (i := 2) rfl (wanted_0 rfl) rfl (ptr a9 (a7 + (Int.toNat i) * 1)) (fun _ => vi TyTBb.el25 rfl rfl b8 b9) ?_
   obtain ⟨x, b4, H⟩ := H
   refine pr (i := 3) rfl (wanted_0 rfl) rfl (.int .u8 x) (fun _ he => vl TyTBb.agg5 rfl (Ext.cell he b4)) ?_
   refine pp (i := 4) rfl (wanted_0 rfl) rfl (.slice b a1 a4) (fun _ => vm rfl) ?_
   refine pp (i := 5) rfl (wanted_0 rfl) rfl (.int .i64 i) (fun _ => vm rfl) ?_
   obtain ⟨b0, a6, b2, b5, b6, Hq⟩ := H
   subst b2
   have H := Hq; clear Hq
   refine pp (i := 6) rfl (wanted_0 rfl) rfl (ptr b0 (a6 + (Int.toNat i) * 1)) (fun _ => vi TyTBb.el25 rfl rfl b5 b6) ?_
   obtain ⟨a2, b7, H⟩ := H
   refine pr (i := 7) rfl (wanted_0 rfl) rfl (.int .u8 a2) (fun _ he => vl TyTBb.agg5 rfl (Ext.cell he b7)) ?_
   refine pp (i := 8) rfl (wanted_0 rfl) rfl (.bool (x != a2)) (fun _ => vr rfl rfl rfl) ?_
   refine hp_nil ?_
   refine qn ?_
   refine xc (b := x != a2) rfl (fun a5 => ?_) (fun a5 => ?_)
   ·replace H := H.1 a5
    refine xs (xr ?_)
    refine lv rfl rfl (va rfl) ?_
    refine ln (qn (xt (br (qr (qr (br (qr ?_)))))))
    exact endQ_ret _ (res_one Tryd.results70 (rv_tmp rfl)) H
   ·replace H := H.2 a5
    refine xi (bn (qn (xr ?_)))
    refine lv rfl rfl (vm rfl) (lv rfl rfl (vr rfl rfl rfl) (lv rfl rfl (va rfl) ?_))
    refine ln (qn ?_)
    exact ⟨IntKind.i64.wrap (i + 1), ⟨⟨H.1, rfl⟩, H.2⟩, (hc rfl (hc rfl (hc rfl hn)))⟩
  ·replace H := H.2 b3
   refine xe (qe (qe (bh (qn (xs (xr ?_))))))
   refine lv rfl rfl (va rfl) ?_
   refine ln (qn (xt ?_))
   exact endQ_ret _ (res_one Tryd.results70 (rv_tmp rfl)) H
theorem f48_sh (sv : Option Addr) (a2 : Nat) (a3 : Nat) (h : Heap) (R : Value → Heap → Prop)
  (H : ((sv.isNone = true → R (.slice none 0 0) h) ∧ (sv.isNone = false → (∀ nb h1, nb = Array.size h → h1 = Array.push h (.cells #[] 5) → HAppend Tryd.prog 25 25 (.slice (some ⟨nb, 0, none⟩) 0 0) (.slice sv a2 a3) h1 (fun vv h2 => ∃ ap : Option Addr, ∃ a1 a0 : Nat, vv = (.slice ap a1 a0) ∧ R (.slice ap a1 a0) h2))))) :
  HC Tryd.prog 48 #[(.slice sv a2 a3)] h R := by
 refine hc_of (args := [(.slice sv a2 a3)]) Tryd.func48 rfl Tryd.ntmps48 (Nat.le_of_ble_eq_true rfl) ?_
 refine xs (xr ?_)
 refine lv rfl rfl (va rfl) ?_
 refine ln (qn (xs (xs (xr ?_))))
 refine lv rfl rfl (vm rfl) (lv rfl rfl (v := (.bool sv.isNone)) (hv_sliceNil TyTBb.u25 rfl rfl) ?_)
 refine ln (qn ?_)
 refine xc (b := sv.isNone) rfl (fun a4 => ?_) (fun a4 => ?_)
 ·replace H := H.1 a4
  refine xs (xr ?_)
  refine lv rfl rfl (va rfl) ?_
  refine ln (qn (xt (qr ?_)))
  exact endQ_ret _ (res_one Tryd.results48 (rv_tmp rfl)) H
 ·replace H := H.2 a4
  refine xi (qn (xs (xr ?_)))
  refine lp rfl rfl (hn_buildSlice (n := 0) (vs := []) (cs := #[]) TyTBb.u25 TyTBb.sz5 TyTBb.z5 rfl rfl (by kernel_rfl) ?_)
  intro nb h1 a6 a5
  replace H := H nb h1 a6 a5
  have a7 := ext_pushed_f15_sh a5
  refine lv rfl rfl (vm rfl) ?_
  refine lp rfl rfl (hs_append rfl rfl (HAppend.mono H ?_))
  rintro _ h2 ⟨ap, a1, a0, rfl, H⟩
  refine lv rfl rfl (va rfl) ?_
  refine ln (qn (xt ?_))
  exact endQ_ret _ (res_one Tryd.results48 (rv_tmp rfl)) H
theorem f15_sh (a : Option Addr) (a1 : Nat) (a4 : Nat) (b : Option Addr) (a2 : Nat) (a3 : Nat) (h : Heap) (R : Value → Heap → Prop)
  (H : (∃ bs : List Int, Byt h a a1 bs ∧ (∃ a0 : List Int, Byt h b a2 a0 ∧ R (.bool (decide ((ofL bs) = (ofL a0)))) h))) :
  HC Tryd.prog 15 #[(.slice a a1 a4), (.slice b a2 a3)] h R := by
 refine hc_of (args := [(.slice a a1 a4), (.slice b a2 a3)]) Tryd.func15 rfl Tryd.ntmps15 (Nat.le_of_ble_eq_true rfl) ?_
 refine xs (xr ?_)
 refine lv rfl rfl (va rfl) ?_
 refine ln (qn (xs (xr ?_)))
 refine lv rfl rfl (vm rfl) ?_
 obtain ⟨bs, a5, H⟩ := H
 refine lv rfl rfl (v := (.string (ofL bs))) (hv_b2s TyTBb.u25 TyTBb.u5 TyTBb.u9 rfl a5) (lv rfl rfl (vm rfl) ?_)
 obtain ⟨a0, a6, H⟩ := H
 refine lv rfl rfl (v := (.string (ofL a0))) (hv_b2s TyTBb.u25 TyTBb.u5 TyTBb.u9 rfl a6) (lv rfl rfl (v := (.bool (decide ((ofL bs) = (ofL a0))))) (hv_str rfl rfl rfl) (lv rfl rfl (va rfl) ?_))
 refine ln (qn (xt ?_))
 exact endQ_ret _ (res_one Tryd.results15 (rv_tmp rfl)) H
end Go.Proofs.YthjehlocmikchaaDoor
