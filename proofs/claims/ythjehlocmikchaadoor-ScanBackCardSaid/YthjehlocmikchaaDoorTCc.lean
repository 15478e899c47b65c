/-
Shallow forms, written by gen2.py (a program of ours) out of the print of the program.
-/
import Derived.Test.YthjehlocmikchaaDoorDeq
import Derived.Test.YthjehlocmikchaaDoorDrw
import Derived.Test.YthjehlocmikchaaDoorRng
import Derived.Test.YthjehlocmikchaaDoorTBb
import Derived.Test.YthjehlocmikchaaDoorProg
namespace Go.Proofs.YthjehlocmikchaaDoor
open Go
open Go.Proofs.YthjehlocmikchaaDoor renaming hl_val → lv, hl_step → lp, hl_nil → ln, hl_yes → ly, hl_no → lo, hx_seq → xs, hx_region → xr, hx_cond → xc, hx_block → xb, hx_cut → xk, hx_has → xh, hx_skip → xi, hx_ret → xt, seqQ_n → qn, seqQ_ret → qr, blockQ_n → bn, blockQ_ret → br, hv_move → vm, hv_assign → va, hv_arith → vr, hv_load → vl, hv_loads → vL, hv_extract → vx, hv_field → vf, has_cons → hc, has_nil → hn, hcells_cons → cc, hcells_nil → cn, hs_call → sc
set_option maxRecDepth 100000
set_option maxHeartbeats 4000000

theorem TyTCc.agg100 : aggB Tryd.prog 100 = some false := by kernel_rfl
theorem TyTCc.agg24 : aggB Tryd.prog 24 = some true := by kernel_rfl
theorem TyTCc.agg25 : aggB Tryd.prog 25 = some false := by kernel_rfl
theorem TyTCc.agg3 : aggB Tryd.prog 3 = some false := by kernel_rfl
theorem TyTCc.agg43 : aggB Tryd.prog 43 = some true := by kernel_rfl
theorem TyTCc.cb31 : CallB Tryd.prog 31 := fun _ _ => Tryd.call31 _ _
theorem TyTCc.cb34 : CallB Tryd.prog 34 := fun _ _ => Tryd.call34 _ _
theorem TyTCc.cb48 : CallB Tryd.prog 48 := fun _ _ => Tryd.call48 _ _
theorem TyTCc.fld45_1 : fldB Tryd.prog 45 1 = some 1 := by kernel_rfl
theorem TyTCc.fld45_3 : fldB Tryd.prog 45 3 = some 3 := by kernel_rfl
theorem TyTCc.sz24 : szB Tryd.prog 24 = some 4 := by kernel_rfl
theorem TyTCc.sz25 : szB Tryd.prog 25 = some 1 := by kernel_rfl
theorem TyTCc.sz43 : szB Tryd.prog 43 = some 4 := by kernel_rfl
theorem TyTCc.sz45 : szB Tryd.prog 45 = some 7 := by kernel_rfl
theorem TyTCc.u25 : Tryd.prog.underlying 25 = some (.slice 5) := by kernel_rfl
theorem TyTCc.z34 : zeroB Tryd.prog 34 (.agg #[(.int .i64 0), (.int .i64 0)]) := by unfold zeroB; kernel_rfl
theorem TyTCc.z45 : zeroB Tryd.prog 45 (.agg #[(.int .i64 0), (.int .i64 0), (.int .i64 0), (.int .i64 0), (.int .u64 0), (.string ByteArray.empty), (.string ByteArray.empty)]) := by unfold zeroB; kernel_rfl
theorem ext_pushed_f49_sh {h h1 : Heap} {o : Obj} (e : h1 = Array.push h o) : Ext h h1 := by rw [e]; exact Ext.push _ _
theorem f22_sh (a6 : Int) (a5 : Int) (a1 : Int) (a3 : Int) (a7 : Option Addr) (a2 : Nat) (a4 : Nat) (h : Heap) (R : Value → Heap → Prop)
  (H : (∀ g h1, g = Array.size h → h1 = Array.push h (.cells #[(.int .i64 a6), (.int .i64 a5), (.int .i64 a1), (.int .i64 a3)] 24) → (∀ a0 h2, a0 = Array.size h1 → h2 = Array.push h1 (.cells #[(.slice a7 a2 a4)] 25) → (∃ x : Option Addr, ∃ a8 a9 : Nat, hcell h2 a0 0 = some (.slice x a8 a9) ∧ HC Tryd.prog 48 #[(.slice x a8 a9)] h2 (fun vv h3 => ∃ r : Option Addr, ∃ b1 b0 : Nat, vv = (.slice r b1 b0) ∧ (HW h3 a0 0 ∧ ∀ h4, h4 = hset h3 a0 0 (.slice r b1 b0) → R (.func (.func 49) #[] #[(ptr g 0), (ptr a0 0)]) h4)))))) :
  HC Tryd.prog 22 #[(.agg #[(.int .i64 a6), (.int .i64 a5), (.int .i64 a1), (.int .i64 a3)]), (.slice a7 a2 a4)] h R := by
 refine hc_of (args := [(.agg #[(.int .i64 a6), (.int .i64 a5), (.int .i64 a1), (.int .i64 a3)]), (.slice a7 a2 a4)]) Tryd.func22 rfl Tryd.ntmps22 (Nat.le_of_ble_eq_true rfl) ?_
 refine xs (xr ?_)
 refine lp rfl rfl (hn_box (v := (.agg #[(.int .i64 a6), (.int .i64 a5), (.int .i64 a1), (.int .i64 a3)])) rfl ?_)
 intro g h1 b7 b2
 replace H := H g h1 b7 b2
 have c0 := ext_pushed_f49_sh b2
 refine lp rfl rfl (hn_box (v := (.slice a7 a2 a4)) rfl ?_)
 intro a0 h2 b5 b3
 replace H := H a0 h2 b5 b3
 have b9 := ext_pushed_f49_sh b3
 refine lv rfl rfl (va rfl) ?_
 refine ln (qn (xs (xr ?_)))
 obtain ⟨x, a8, a9, b4, H⟩ := H
 refine lv rfl rfl (vl TyTCc.agg25 rfl b4) ?_
 refine lp rfl rfl (sc TyTCc.cb48 rfl (HC.mono H ?_))
 rintro _ h3 ⟨r, b1, b0, rfl, H⟩
 obtain ⟨b8, H⟩ := H
 refine lp rfl rfl (hn_store (v := (.slice r b1 b0)) rfl rfl TyTCc.sz25 rfl b8 ?_)
 intro h4 b6
 replace H := H h4 b6
 refine ln (qn (xs (xr ?_)))
 refine lv rfl rfl (v := (.func (.func 49) #[] #[(ptr g 0), (ptr a0 0)])) (hv_makeFunc (fv := []) (cv := [(ptr g 0), (ptr a0 0)]) rfl rfl) (lv rfl rfl (va rfl) ?_)
 refine ln (qn (xt ?_))
 exact endQ_ret _ (res_one Tryd.results22 (rv_tmp rfl)) H
theorem f49_sh (c7 : Value) (a3 : Nat) (a4 : Nat) (c2 : Nat) (c4 : Nat) (h : Heap) (R : Value → Heap → Prop)
  (H : (Value.cells c7 = #[c7] ∧ (∀ c1 h1, c1 = Array.size h → h1 = Array.push h (.cells #[c7] 100) → (∃ b9 b4 b0 b5 : Int, hcell h1 a3 a4 = some (.int .i64 b9) ∧ hcell h1 a3 (a4 + 1) = some (.int .i64 b4) ∧ hcell h1 a3 (a4 + 2) = some (.int .i64 b0) ∧ hcell h1 a3 (a4 + 3) = some (.int .i64 b5) ∧ HC Tryd.prog 31 #[(.agg #[(.int .i64 b9), (.int .i64 b4), (.int .i64 b0), (.int .i64 b5)])] h1 (fun vv h2 => Ext h1 h2 ∧ ∃ r0 r1 r2 : Int, vv = (.tuple #[(.int .i64 r0), (.int .i64 r1), (.int .i64 r2)]) ∧ (∃ j : Bool, (((r2 != 0) = true → (j = true)) ∧ ((r2 != 0) = false → (∃ x : Option Addr, ∃ d1 e6 : Nat, hcell h2 c2 c4 = some (.slice x d1 e6) ∧ (j = (r0 != (d1 : Int)))))) ∧ ((j = true → (∀ h3, Shut' (Array.size h) h2 h3 → R (.tuple #[]) h3)) ∧ (j = false → (∀ d2 h4, d2 = Array.size h2 → h4 = Array.push h2 (.cells #[(.int .i64 0), (.int .i64 0)] 34) → (∃ b1 a9 a1 a7 : Int, hcell h4 a3 a4 = some (.int .i64 b1) ∧ hcell h4 a3 (a4 + 1) = some (.int .i64 a9) ∧ hcell h4 a3 (a4 + 2) = some (.int .i64 a1) ∧ hcell h4 a3 (a4 + 3) = some (.int .i64 a7) ∧ (∃ d8 : Option Addr, ∃ c9 c8 : Nat, hcell h4 c2 c4 = some (.slice d8 c9 c8) ∧ HC Tryd.prog 34 #[(.agg #[(.int .i64 b1), (.int .i64 a9), (.int .i64 a1), (.int .i64 a7)]), (.slice d8 c9 c8), (ptr d2 0)] h4 (fun vv h5 => ∃ r : Value, vv = r ∧ (∀ (b3 : LoopState → Option Code → Heap → Prop) (l : Nat) (h6 : Heap) (y : Value), (∀ s p h h', b3 s p h → h'[l]? = h[l]? → b3 s p h') → l = Array.size h5 + 1 → Ext h5 h6 → Array.size h6 = Array.size h5 + 2 → b3 .ready none h6 → (∀ (b7 : Int) (b8 : Int) (c5 : Int) (a5 : Int) (a0 : Int) (a6 : ByteArray) (a2 : ByteArray) (h7 : Heap) (e3 : Value → Heap → Prop), b3 .ready none h7 → (∀ f d4, f = Array.size h7 → d4 = Array.push h7 (.cells #[(.int .i64 0), (.int .i64 0), (.int .i64 0), (.int .i64 0), (.int .u64 0), (.string ByteArray.empty), (.string ByteArray.empty)] 45) → (HWs d4 f 0 7 ∧ ∀ d5, d5 = hsets d4 f 0 [(.int .i64 b7), (.int .i64 b8), (.int .i64 c5), (.int .i64 a5), (.int .u64 a0), (.string a6), (.string a2)] → (b3 .ready none d5 ∧ ∀ c3, Only l d5 c3 → b3 .busy none c3 → (∃ e4 : Value, hcell c3 c1 0 = some e4 ∧ (∃ d7 : Int, hcell c3 f 1 = some (.int .i64 d7) ∧ (∃ c0 a8 : Int, ∃ c6 b6 : ByteArray, hcell c3 f 3 = some (.int .i64 c0) ∧ hcell c3 f 4 = some (.int .u64 a8) ∧ hcell c3 f 5 = some (.string c6) ∧ hcell c3 f 6 = some (.string b6) ∧ HCV Tryd.prog e4 [(.int .i64 d7), (.agg #[(.int .i64 c0), (.int .u64 a8), (.string c6), (.string b6)])] c3 (fun vv d6 => ∃ d3 : Bool, vv = (.bool d3) ∧ (((!d3) = true → (b3 .busy none d6 ∧ ∀ e8, Only l d6 e8 → b3 .done (some .ret) e8 → e3 (.bool false) e8)) ∧ ((!d3) = false → (b3 .busy none d6 ∧ ∀ e9, Only l d6 e9 → b3 .ready none e9 → e3 (.bool true) e9)))))))))) → HCV Tryd.prog y [(.agg #[(.int .i64 b7), (.int .i64 b8), (.int .i64 c5), (.int .i64 a5), (.int .u64 a0), (.string a6), (.string a2)])] h7 e3) → HCF Tryd.prog r [y] h6 (fun _ h8 => ∃ (st : LoopState) (d0 : Option Code), b3 st d0 h8 ∧ st ≠ .busy ∧ ∀ h9, Only l h8 h9 → b3 .exhausted d0 h9 → ((d0 = none ∧ (∀ f3, Shut' (Array.size h) h9 f3 → R (.tuple #[]) f3)) ∨ (d0 = some .ret ∧ (∀ f2, Shut' (Array.size h) h9 f2 → R (.tuple #[]) f2))))))))))))))))) :
  HC Tryd.prog 49 #[c7, (ptr a3 a4), (ptr c2 c4)] h R := by
 refine hc_ofM (args := [c7, (ptr a3 a4), (ptr c2 c4)]) Tryd.func49 rfl Tryd.ntmps49 (Nat.le_of_ble_eq_true rfl) ?_
 refine xs (xr ?_)
 obtain ⟨j6, H⟩ := H
 refine lp rfl rfl (hn_boxV rfl j6 ?_)
 intro c1 h1 j4 f1
 replace H := H c1 h1 j4 f1
 have k0 := ext_pushed_f49_sh f1
 refine ln (qn (xs (xr ?_)))
 obtain ⟨b9, b4, b0, b5, j2, j3, j1, j5, H⟩ := H
 refine lv rfl rfl (vL (vs := [(.int .i64 b9), (.int .i64 b4), (.int .i64 b0), (.int .i64 b5)]) TyTCc.agg24 TyTCc.sz24 rfl (cc j2 (cc j3 (cc j1 (cc j5 cn))))) ?_
 refine lp rfl rfl (sc TyTCc.cb31 rfl (HC.mono H ?_))
 rintro _ h2 ⟨j9, r0, r1, r2, rfl, H⟩
 refine lv rfl rfl (vm rfl) (lv rfl rfl (vx rfl rfl) (lv rfl rfl (vx rfl rfl) (lv rfl rfl (vx rfl rfl) (lv rfl rfl (va rfl) (lv rfl rfl (va rfl) ?_)))))
 refine lv rfl rfl (va rfl) ?_
 refine ln (qn (xs ?_))
 obtain ⟨j, e1, e2⟩ := H
 refine xk (fun ρ h' => h2 = h' ∧ Has ρ [(1, (ptr a3 a4)), (2, (ptr c2 c4)), (3, (ptr c1 0)), (22, (.bool j))]) ?_ ?_
 ·have H := e1; clear e1 e2
  refine xr ?_
  refine lv rfl rfl (vm rfl) (lv rfl rfl (vr rfl rfl rfl) (lv rfl rfl (vm rfl) ?_))
  rcases bool_or (r2 != 0) with b2 | b2
  ·replace H := H.1 b2
   refine lo (wanted_n rfl rfl rfl b2) rfl ?_
   refine lo (wanted_n rfl rfl rfl b2) rfl ?_
   refine lo (wanted_n rfl rfl rfl b2) rfl ?_
   refine lo (wanted_n rfl rfl rfl b2) rfl ?_
   refine lv rfl rfl (v := (.bool true)) (hv_pick_t rfl b2 rfl) ?_
   refine ln (qn ?_)
   obtain rfl := H
   exact ⟨rfl, (hc rfl (hc rfl (hc rfl (hc rfl hn))))⟩
  ·replace H := H.2 b2
   refine ly (wanted_y rfl rfl rfl b2) rfl (HStep.of_val (v := (.int .i64 r0)) (vm rfl) ?_)
   obtain ⟨x, d1, e6, f4, H⟩ := H
   refine ly (wanted_y rfl rfl rfl b2) rfl (HStep.of_val (v := (.slice x d1 e6)) (vl TyTCc.agg25 rfl f4) ?_)
   refine ly (wanted_y rfl rfl rfl b2) rfl (HStep.of_val (v := (.int .i64 (d1 : Int))) (hv_len (n := d1) TyTCc.u25 rfl) ?_)
   refine ly (wanted_y rfl rfl rfl b2) rfl (HStep.of_val (v := (.bool (r0 != (d1 : Int)))) (vr rfl rfl rfl) ?_)
   refine lv rfl rfl (v := (.bool (r0 != (d1 : Int)))) (hv_pick_f rfl b2 rfl) ?_
   refine ln (qn ?_)
   obtain rfl := H
   exact ⟨rfl, (hc rfl (hc rfl (hc rfl (hc rfl hn))))⟩
 ·have H := e2; clear e1 e2
  rintro ρ _ ⟨rfl, hH⟩
  refine xh _ hH ?_
  refine xc (b := j) rfl (fun d9 => ?_) (fun d9 => ?_)
  ·replace H := H.1 d9
   refine xt (qr ?_)
   exact endQM_ret _ (fun h' hs => ⟨res_none Tryd.results49 , H h' hs⟩)
  ·replace H := H.2 d9
   refine xi (qn (xs (xr ?_)))
   refine lp rfl rfl (hn_alloc TyTCc.z34 ?_)
   intro d2 h4 g5 e5
   replace H := H d2 h4 g5 e5
   have j7 := ext_pushed_f49_sh e5
   refine ln (qn (xs (xr ?_)))
   obtain ⟨b1, a9, a1, a7, i6, i2, g6, f6, H⟩ := H
   refine lv rfl rfl (vL (vs := [(.int .i64 b1), (.int .i64 a9), (.int .i64 a1), (.int .i64 a7)]) TyTCc.agg24 TyTCc.sz24 rfl (cc i6 (cc i2 (cc g6 (cc f6 cn))))) ?_
   obtain ⟨d8, c9, c8, g3, H⟩ := H
   refine lv rfl rfl (vl TyTCc.agg25 rfl g3) ?_
   refine lp rfl rfl (sc TyTCc.cb34 rfl (HC.mono H ?_))
   rintro r h5 ⟨_, rfl, H⟩
   refine ln (qn (xb ?_))
   refine hx_range rfl rfl rfl (fun h6 l i4 i1 i7 i9 => ?_)
   refine HCF.mono (H (fun st p h => LoopAt h l _ _ _ _ _ st p) l h6 _ (fun s p h h' k e => k.same e) i4 i1 i7 i9 ?_) ?_
   ·intro b7 b8 c5 a5 a0 a6 a2 h7 e3 g4 H
    refine hcv_yield g4 rfl rfl ?_
    refine xr ?_
    refine lp rfl rfl (hn_alloc TyTCc.z45 ?_)
    intro f d4 g1 e7
    replace H := H f d4 g1 e7
    have j8 := ext_pushed_f49_sh e7
    obtain ⟨f8, H⟩ := H
    refine lp rfl rfl (hn_stores (vs := [(.int .i64 b7), (.int .i64 b8), (.int .i64 c5), (.int .i64 a5), (.int .u64 a0), (.string a6), (.string a2)]) rfl rfl TyTCc.sz45 rfl f8 ?_)
    intro d5 g0
    replace H := H d5 g0
    refine ln ?_
    obtain ⟨f7, H⟩ := H
    refine ⟨rfl, f7, ?_⟩
    intro c3 f5 f9
    replace H := H c3 f5 f9
    refine xb (xs (xr ?_))
    obtain ⟨e4, g7, H⟩ := H
    refine lv rfl rfl (vl TyTCc.agg100 rfl g7) (lv rfl rfl (v := (ptr f 1)) (vf TyTCc.fld45_1 (b := f) (o := 0) rfl) ?_)
    obtain ⟨d7, g9, H⟩ := H
    refine lv rfl rfl (vl TyTCc.agg3 rfl g9) (lv rfl rfl (v := (ptr f 3)) (vf TyTCc.fld45_3 (b := f) (o := 0) rfl) ?_)
    obtain ⟨c0, a8, c6, b6, i3, i5, i8, g2, H⟩ := H
    refine lv rfl rfl (vL (vs := [(.int .i64 c0), (.int .u64 a8), (.string c6), (.string b6)]) TyTCc.agg43 TyTCc.sz43 rfl (cc i3 (cc i5 (cc i8 (cc g2 cn))))) ?_
    refine lp rfl rfl (hs_callF (vs := [(.int .i64 d7), (.agg #[(.int .i64 c0), (.int .u64 a8), (.string c6), (.string b6)])]) rfl rfl (HCV.mono H ?_))
    rintro _ d6 ⟨d3, rfl, H⟩
    refine lv rfl rfl (v := (.bool (!d3))) (hv_not (b := d3) rfl) ?_
    refine ln (qn ?_)
    refine xc (b := !d3) rfl (fun e0 => ?_) (fun e0 => ?_)
    ·replace H := H.1 e0
     refine xt (br ?_)
     exact H
    ·replace H := H.2 e0
     refine xi (bn ?_)
     exact H
   ·rintro _ h8 ⟨st, d0, j0, f0, H⟩
    refine ⟨st, d0, j0, f0, ?_⟩
    intro h9 i0 g8
    replace H := H h9 i0 g8
    rcases H with ⟨rfl, H⟩ | ⟨rfl, H⟩
    ·refine jumpQ_n ?_
     refine bn ?_
     exact endQM_n _ (fun h' hs => ⟨res_none Tryd.results49 , H h' hs⟩)
    ·refine jumpQ_ret ?_
     refine br ?_
     exact endQM_ret _ (fun h' hs => ⟨res_none Tryd.results49 , H h' hs⟩)

end Go.Proofs.YthjehlocmikchaaDoor
