import Derived.Test.YthjehlocmikchaaDoorDvDeq
import Derived.Test.YthjehlocmikchaaDoorDvDrw
import Derived.Test.YthjehlocmikchaaDoorDvRng
import Derived.Test.YthjehlocmikchaaDoorDvTBb
import Derived.Test.YthjehlocmikchaaDoorProg
namespace Go.Proofs.YthjehlocmikchaaDoor
open Go
open Go.Proofs.YthjehlocmikchaaDoor renaming hl_val → lv, hl_step → lp, hl_nil → ln, hx_seq → xs, hx_region → xr, hx_cond → xc, hx_block → xb, hx_loopT → xl, hx_cut → xk, hx_has → xh, hx_skip → xi, hx_ret → xt, hx_exit → xe, seqQ_n → qn, seqQ_ret → qr, seqQ_exit → qe, blockQ_n → bn, blockQ_ret → br, blockQ_here → bh, hv_move → vm, hv_assign → va, hv_arith → vr, hv_load → vl, hv_loads → vL, hv_field → vf, hv_index → vi, hp_pure → pp, hp_read → pr, hp_no → pn, has_cons → hc, has_nil → hn, hcells_cons → cc, hcells_nil → cn, rowcell → rc, hs_call → sc
set_option maxRecDepth 100000
set_option maxHeartbeats 4000000
theorem TyTCd.agg29 : aggB Tryd.prog 29 = some false := by kernel_rfl
theorem TyTCd.agg3 : aggB Tryd.prog 3 = some false := by kernel_rfl
theorem TyTCd.agg36 : aggB Tryd.prog 36 = some true := by kernel_rfl
theorem TyTCd.agg4 : aggB Tryd.prog 4 = some false := by kernel_rfl
theorem TyTCd.agg65 : aggB Tryd.prog 65 = some false := by kernel_rfl
theorem TyTCd.cb52 : CallB Tryd.prog 52 := fun _ _ => Tryd.call52 _ _
theorem TyTCd.cb54 : CallB Tryd.prog 54 := fun _ _ => Tryd.call54 _ _
theorem TyTCd.cb58 : CallB Tryd.prog 58 := fun _ _ => Tryd.call58 _ _
theorem TyTCd.cb75 : CallB Tryd.prog 75 := fun _ _ => Tryd.call75 _ _
theorem TyTCd.cb76 : CallB Tryd.prog 76 := fun _ _ => Tryd.call76 _ _
theorem TyTCd.cb77 : CallB Tryd.prog 77 := fun _ _ => Tryd.call77 _ _
theorem TyTCd.cb90 : CallB Tryd.prog 90 := fun _ _ => Tryd.call90 _ _
theorem TyTCd.cb91 : CallB Tryd.prog 91 := fun _ _ => Tryd.call91 _ _
theorem TyTCd.el65 : elB Tryd.prog 65 = some 9 := by kernel_rfl
theorem TyTCd.el71 : elB Tryd.prog 71 = some 1 := by kernel_rfl
theorem TyTCd.fld31_1 : fldB Tryd.prog 31 1 = some 1 := by kernel_rfl
theorem TyTCd.fld36_0 : fldB Tryd.prog 36 0 = some 0 := by kernel_rfl
theorem TyTCd.fld36_1 : fldB Tryd.prog 36 1 = some 1 := by kernel_rfl
theorem TyTCd.fld36_2 : fldB Tryd.prog 36 2 = some 2 := by kernel_rfl
theorem TyTCd.mixed : Tryd.prog.follows .mixedOrders = true := by kernel_rfl
theorem TyTCd.sz3 : szB Tryd.prog 3 = some 1 := by kernel_rfl
theorem TyTCd.sz36 : szB Tryd.prog 36 = some 9 := by kernel_rfl
theorem TyTCd.u4 : Tryd.prog.underlying 4 = some (.bool) := by kernel_rfl
theorem TyTCd.u65 : Tryd.prog.underlying 65 = some (.slice 36) := by kernel_rfl
theorem TyTCd.u71 : Tryd.prog.underlying 71 = some (.slice 3) := by kernel_rfl
theorem TyTCd.z3 : zeroB Tryd.prog 3 (.int .i64 0) := by unfold zeroB; kernel_rfl
theorem ext_pushed_f28_sh {h h1 : Heap} {o : Obj} (e : h1 = Array.push h o) : Ext h h1 := by rw [e]; exact Ext.push _ _
theorem f90_sh (x : Int) (h : Heap) (R : Value → Heap → Prop)
  (H : R (.bool (x != x)) h) :
  HC Tryd.prog 90 #[(.int .u64 x)] h R := by
 refine hc_of (args := [(.int .u64 x)]) Tryd.func90 rfl Tryd.ntmps90 (Nat.le_of_ble_eq_true rfl) ?_
 refine xs (xr ?_)
 refine lv rfl rfl (va rfl) ?_
 refine ln (qn (xs (xr ?_)))
 refine lv rfl rfl (vm rfl) (lv rfl rfl (vm rfl) (lv rfl rfl (vr rfl rfl rfl) (lv rfl rfl (va rfl) ?_)))
 refine ln (qn (xt ?_))
 exact endQ_ret _ (res_one Tryd.results90 (rv_tmp rfl)) H
theorem f91_sh (x : Int) (h : Heap) (R : Value → Heap → Prop)
  (H : R (.bool (x != x)) h) :
  HC Tryd.prog 91 #[(.int .i64 x)] h R := by
 refine hc_of (args := [(.int .i64 x)]) Tryd.func91 rfl Tryd.ntmps91 (Nat.le_of_ble_eq_true rfl) ?_
 refine xs (xr ?_)
 refine lv rfl rfl (va rfl) ?_
 refine ln (qn (xs (xr ?_)))
 refine lv rfl rfl (vm rfl) (lv rfl rfl (vm rfl) (lv rfl rfl (vr rfl rfl rfl) (lv rfl rfl (va rfl) ?_)))
 refine ln (qn (xt ?_))
 exact endQ_ret _ (res_one Tryd.results91 (rv_tmp rfl)) H
theorem f75_sh (a4 : Option Addr) (a0 : Nat) (a1 : Nat) (h : Heap) (R : Value → Heap → Prop)
  (H : (∃ (I1 : Int → Prop) (a6 : Int → Nat), I1 0 ∧ (∀ (v : Int), I1 v → (((decide (v < (a0 : Int))) = true → (∃ a3 a2 : Nat, a4 = some ⟨a3, a2, none⟩ ∧ (0 : Int) ≤ v ∧ v < (a0 : Int) ∧ (∃ x : Int, hcell h a3 (a2 + (Int.toNat v) * 1) = some (.int .i64 x) ∧ (((x != 0) = true → R (.int .i64 x) h) ∧ ((x != 0) = false → (I1 (IntKind.i64.wrap (v + 1)) ∧ a6 (IntKind.i64.wrap (v + 1)) < a6 v)))))) ∧ ((decide (v < (a0 : Int))) = false → R (.int .i64 0) h))))) :
  HC Tryd.prog 75 #[(.slice a4 a0 a1)] h R := by
 refine hc_of (args := [(.slice a4 a0 a1)]) Tryd.func75 rfl Tryd.ntmps75 (Nat.le_of_ble_eq_true rfl) ?_
 refine xs (xr ?_)
 refine lv rfl rfl (va rfl) ?_
 refine ln (qn (xs (xr ?_)))
 refine lv rfl rfl (va rfl) ?_
 refine ln (qn (xs (xs (xr ?_))))
 refine lv rfl rfl (vm rfl) (lv rfl rfl (v := (.int .i64 (a0 : Int))) (hv_len (n := a0) TyTCd.u71 rfl) (lv rfl rfl (vm rfl) ?_))
 refine ln (qn (xb ?_))
 obtain ⟨I1, a6, b3, b4⟩ := H
 refine xl (σ := Int) (fun s => [(3, (.int .i64 0)), (6, (.slice a4 a0 a1)), (7, (.int .i64 (a0 : Int))), (8, (.int .i64 s))]) (fun s h' => I1 s ∧ h = h') (fun s _ => a6 s) 0 ⟨b3, rfl⟩ (hc rfl (hc rfl (hc rfl (hc rfl hn)))) ?_
 rintro v ρ _ ⟨b0, rfl⟩
 have H := b4 v b0
 refine xs (xr ?_)
 refine lv rfl rfl (vr rfl rfl rfl) ?_
 refine ln (qn (xs ?_))
 refine xc (b := decide (v < (a0 : Int))) rfl (fun a7 => ?_) (fun a7 => ?_)
 ·replace H := H.1 a7
  refine xi (qn (xs (xb (xs (xr ?_)))))
  obtain ⟨a3, a2, a8, b2, b1, Hq⟩ := H
  subst a8
  have H := Hq; clear Hq
  refine lv rfl rfl (v := (ptr a3 (a2 + (Int.toNat v) * 1))) (vi TyTCd.el71 rfl rfl b2 b1) ?_
  obtain ⟨x, a9, H⟩ := H
  refine lv rfl rfl (vl TyTCd.agg3 rfl a9) (lv rfl rfl (va rfl) ?_)
  refine ln (qn (xs (xr ?_)))
  refine lv rfl rfl (vm rfl) (lv rfl rfl (vm rfl) (lv rfl rfl (vr rfl rfl rfl) ?_))
  refine ln (qn ?_)
  refine xc (b := x != 0) rfl (fun a5 => ?_) (fun a5 => ?_)
  ·replace H := H.1 a5
   refine xs (xr ?_)
   refine lv rfl rfl (vm rfl) (lv rfl rfl (va rfl) ?_)
   refine ln (qn (xt (br (qr (qr (br (qr ?_)))))))
   exact endQ_ret _ (res_one Tryd.results75 (rv_tmp rfl)) H
  ·replace H := H.2 a5
   refine xi (bn (qn (xr ?_)))
   refine lv rfl rfl (vr rfl rfl rfl) (lv rfl rfl (vm rfl) ?_)
   refine ln (qn ?_)
   exact ⟨IntKind.i64.wrap (v + 1), ⟨⟨H.1, rfl⟩, H.2⟩, (hc rfl (hc rfl (hc rfl (hc rfl hn))))⟩
 ·replace H := H.2 a7
  refine xe (qe (qe (bh (qn (xs (xr ?_))))))
  refine lv rfl rfl (vm rfl) (lv rfl rfl (va rfl) ?_)
  refine ln (qn (xt ?_))
  exact endQ_ret _ (res_one Tryd.results75 (rv_tmp rfl)) H
theorem f76_sh (x : Int) (y : Int) (h : Heap) (R : Value → Heap → Prop)
  (H : HC Tryd.prog 90 #[(.int .u64 x)] h (fun vv h1 => ∃ r : Bool, vv = (.bool r) ∧ HC Tryd.prog 90 #[(.int .u64 y)] h1 (fun vv h2 => ∃ a0 : Bool, vv = (.bool a0) ∧ ((r = true → ((a0 = true → R (.int .i64 0) h2) ∧ (a0 = false → R (.int .i64 (-1)) h2))) ∧ (r = false → ((a0 = true → R (.int .i64 1) h2) ∧ (a0 = false → (((decide (x < y)) = true → R (.int .i64 (-1)) h2) ∧ ((decide (x < y)) = false → (((decide (x > y)) = true → R (.int .i64 1) h2) ∧ ((decide (x > y)) = false → R (.int .i64 0) h2))))))))))) :
  HC Tryd.prog 76 #[(.int .u64 x), (.int .u64 y)] h R := by
 refine hc_of (args := [(.int .u64 x), (.int .u64 y)]) Tryd.func76 rfl Tryd.ntmps76 (Nat.le_of_ble_eq_true rfl) ?_
 refine xs (xr ?_)
 refine lv rfl rfl (va rfl) ?_
 refine ln (qn (xs (xr ?_)))
 refine lv rfl rfl (vm rfl) ?_
 refine lp rfl rfl (sc TyTCd.cb90 rfl (HC.mono H ?_))
 rintro _ h1 ⟨r, rfl, H⟩
 refine lv rfl rfl (va rfl) ?_
 refine ln (qn (xs (xr ?_)))
 refine lv rfl rfl (vm rfl) ?_
 refine lp rfl rfl (sc TyTCd.cb90 rfl (HC.mono H ?_))
 rintro _ h2 ⟨a0, rfl, H⟩
 refine lv rfl rfl (va rfl) ?_
 refine ln (qn (xs (xs (xr ?_))))
 refine lv rfl rfl (vm rfl) ?_
 refine ln (qn ?_)
 refine xc (b := r) rfl (fun a3 => ?_) (fun a3 => ?_)
 ·replace H := H.1 a3
  refine xs (xs (xr ?_))
  refine lv rfl rfl (vm rfl) ?_
  refine ln (qn ?_)
  refine xc (b := a0) rfl (fun a5 => ?_) (fun a5 => ?_)
  ·replace H := H.1 a5
   refine xs (xr ?_)
   refine lv rfl rfl (va rfl) ?_
   refine ln (qn (xt (qr (qr ?_))))
   exact endQ_ret _ (res_one Tryd.results76 (rv_tmp rfl)) H
  ·replace H := H.2 a5
   refine xi (qn (xs (xr ?_)))
   refine lv rfl rfl (va rfl) ?_
   refine ln (qn (xt (qr ?_)))
   exact endQ_ret _ (res_one Tryd.results76 (rv_tmp rfl)) H
 ·replace H := H.2 a3
  refine xi (qn (xs (xs (xr ?_))))
  refine lv rfl rfl (vm rfl) ?_
  refine ln (qn ?_)
  refine xc (b := a0) rfl (fun a1 => ?_) (fun a1 => ?_)
  ·replace H := H.1 a1
   refine xs (xr ?_)
   refine lv rfl rfl (va rfl) ?_
   refine ln (qn (xt (qr ?_)))
   exact endQ_ret _ (res_one Tryd.results76 (rv_tmp rfl)) H
  ·replace H := H.2 a1
   refine xi (qn (xs (xs (xr ?_))))
   refine lv rfl rfl (vm rfl) (lv rfl rfl (vm rfl) (lv rfl rfl (vr rfl rfl rfl) ?_))
   refine ln (qn ?_)
   refine xc (b := decide (x < y)) rfl (fun a4 => ?_) (fun a4 => ?_)
   ·replace H := H.1 a4
    refine xs (xr ?_)
    refine lv rfl rfl (va rfl) ?_
    refine ln (qn (xt (qr ?_)))
    exact endQ_ret _ (res_one Tryd.results76 (rv_tmp rfl)) H
   ·replace H := H.2 a4
    refine xi (qn (xs (xs (xr ?_))))
    refine lv rfl rfl (vm rfl) (lv rfl rfl (vm rfl) (lv rfl rfl (vr rfl rfl rfl) ?_))
    refine ln (qn ?_)
    refine xc (b := decide (x > y)) rfl (fun a2 => ?_) (fun a2 => ?_)
    ·replace H := H.1 a2
     refine xs (xr ?_)
     refine lv rfl rfl (va rfl) ?_
     refine ln (qn (xt (qr ?_)))
     exact endQ_ret _ (res_one Tryd.results76 (rv_tmp rfl)) H
    ·replace H := H.2 a2
     refine xi (qn (xs (xr ?_)))
     refine lv rfl rfl (va rfl) ?_
     refine ln (qn (xt ?_))
     exact endQ_ret _ (res_one Tryd.results76 (rv_tmp rfl)) H
theorem f77_sh (x : Int) (y : Int) (h : Heap) (R : Value → Heap → Prop)
  (H : HC Tryd.prog 91 #[(.int .i64 x)] h (fun vv h1 => ∃ r : Bool, vv = (.bool r) ∧ HC Tryd.prog 91 #[(.int .i64 y)] h1 (fun vv h2 => ∃ a0 : Bool, vv = (.bool a0) ∧ ((r = true → ((a0 = true → R (.int .i64 0) h2) ∧ (a0 = false → R (.int .i64 (-1)) h2))) ∧ (r = false → ((a0 = true → R (.int .i64 1) h2) ∧ (a0 = false → (((decide (x < y)) = true → R (.int .i64 (-1)) h2) ∧ ((decide (x < y)) = false → (((decide (x > y)) = true → R (.int .i64 1) h2) ∧ ((decide (x > y)) = false → R (.int .i64 0) h2))))))))))) :
  HC Tryd.prog 77 #[(.int .i64 x), (.int .i64 y)] h R := by
 refine hc_of (args := [(.int .i64 x), (.int .i64 y)]) Tryd.func77 rfl Tryd.ntmps77 (Nat.le_of_ble_eq_true rfl) ?_
 refine xs (xr ?_)
 refine lv rfl rfl (va rfl) ?_
 refine ln (qn (xs (xr ?_)))
 refine lv rfl rfl (vm rfl) ?_
 refine lp rfl rfl (sc TyTCd.cb91 rfl (HC.mono H ?_))
 rintro _ h1 ⟨r, rfl, H⟩
 refine lv rfl rfl (va rfl) ?_
 refine ln (qn (xs (xr ?_)))
 refine lv rfl rfl (vm rfl) ?_
 refine lp rfl rfl (sc TyTCd.cb91 rfl (HC.mono H ?_))
 rintro _ h2 ⟨a0, rfl, H⟩
 refine lv rfl rfl (va rfl) ?_
 refine ln (qn (xs (xs (xr ?_))))
 refine lv rfl rfl (vm rfl) ?_
 refine ln (qn ?_)
 refine xc (b := r) rfl (fun a3 => ?_) (fun a3 => ?_)
 ·replace H := H.1 a3
  refine xs (xs (xr ?_))
  refine lv rfl rfl (vm rfl) ?_
  refine ln (qn ?_)
  refine xc (b := a0) rfl (fun a5 => ?_) (fun a5 => ?_)
  ·replace H := H.1 a5
   refine xs (xr ?_)
   refine lv rfl rfl (va rfl) ?_
   refine ln (qn (xt (qr (qr ?_))))
   exact endQ_ret _ (res_one Tryd.results77 (rv_tmp rfl)) H
  ·replace H := H.2 a5
   refine xi (qn (xs (xr ?_)))
   refine lv rfl rfl (va rfl) ?_
   refine ln (qn (xt (qr ?_)))
   exact endQ_ret _ (res_one Tryd.results77 (rv_tmp rfl)) H
 ·replace H := H.2 a3
  refine xi (qn (xs (xs (xr ?_))))
  refine lv rfl rfl (vm rfl) ?_
  refine ln (qn ?_)
  refine xc (b := a0) rfl (fun a1 => ?_) (fun a1 => ?_)
  ·replace H := H.1 a1
   refine xs (xr ?_)
   refine lv rfl rfl (va rfl) ?_
   refine ln (qn (xt (qr ?_)))
   exact endQ_ret _ (res_one Tryd.results77 (rv_tmp rfl)) H
  ·replace H := H.2 a1
   refine xi (qn (xs (xs (xr ?_))))
   refine lv rfl rfl (vm rfl) (lv rfl rfl (vm rfl) (lv rfl rfl (vr rfl rfl rfl) ?_))
   refine ln (qn ?_)
   refine xc (b := decide (x < y)) rfl (fun a4 => ?_) (fun a4 => ?_)
   ·replace H := H.1 a4
    refine xs (xr ?_)
    refine lv rfl rfl (va rfl) ?_
    refine ln (qn (xt (qr ?_)))
    exact endQ_ret _ (res_one Tryd.results77 (rv_tmp rfl)) H
   ·replace H := H.2 a4
    refine xi (qn (xs (xs (xr ?_))))
    refine lv rfl rfl (vm rfl) (lv rfl rfl (vm rfl) (lv rfl rfl (vr rfl rfl rfl) ?_))
    refine ln (qn ?_)
    refine xc (b := decide (x > y)) rfl (fun a2 => ?_) (fun a2 => ?_)
    ·replace H := H.1 a2
     refine xs (xr ?_)
     refine lv rfl rfl (va rfl) ?_
     refine ln (qn (xt (qr ?_)))
     exact endQ_ret _ (res_one Tryd.results77 (rv_tmp rfl)) H
    ·replace H := H.2 a2
     refine xi (qn (xs (xr ?_)))
     refine lv rfl rfl (va rfl) ?_
     refine ln (qn (xt ?_))
     exact endQ_ret _ (res_one Tryd.results77 (rv_tmp rfl)) H
theorem f54_sh (a5 : Int) (a2 : Bool) (a7 : Int) (a0 : Int) (a4 : Int) (b7 : Option Addr) (b0 : Nat) (a9 : Nat) (c1 : Int) (b5 : Int) (c0 : Bool) (a6 : Int) (b3 : Bool) (a8 : Int) (a1 : Int) (a3 : Int) (b6 : Option Addr) (b2 : Nat) (b1 : Nat) (b8 : Int) (b4 : Int) (b9 : Bool) (h : Heap) (R : Value → Heap → Prop)
  (H : (((a2 != b3) = true → ((a2 = true → (∀ (h2 : Heap), Ext h h2 → R (.int .i64 (-1)) h2)) ∧ (a2 = false → (∀ (h2 : Heap), Ext h h2 → R (.int .i64 1) h2)))) ∧ ((a2 != b3) = false → (∀ (a : Nat) (b : Nat) (h2 : Heap), Array.size h ≤ a → a < Array.size h2 → Array.size h ≤ b → b < Array.size h2 → Ext h h2 → (∃ r : Int, (∀ h6, Ext h2 h6 → HC Tryd.prog 76 #[(.int .u64 a0), (.int .u64 a1)] h6 (fun vv h' => vv = (.int .i64 r) ∧ h' = h6)) ∧ (∃ c4 : Int, (∀ h5, Ext h2 h5 → HC Tryd.prog 77 #[(.int .i64 a5), (.int .i64 a6)] h5 (fun vv h' => vv = (.int .i64 c4) ∧ h' = h5)) ∧ (∀ nb h3, nb = Array.size h2 → h3 = Array.push h2 (.cells #[(.int .i64 r), (.int .i64 c4)] 3) → HC Tryd.prog 75 #[(.slice (some ⟨nb, 0, none⟩) 2 2)] h3 (fun vv h4 => ∃ c9 : Int, vv = (.int .i64 c9) ∧ R (.int .i64 c9) h4)))))))) :
  HC Tryd.prog 54 #[(.agg #[(.int .i64 a5), (.bool a2), (.int .u64 a7), (.int .u64 a0), (.int .i64 a4), (.slice b7 b0 a9), (.int .i64 c1), (.int .i64 b5), (.bool c0)]), (.agg #[(.int .i64 a6), (.bool b3), (.int .u64 a8), (.int .u64 a1), (.int .i64 a3), (.slice b6 b2 b1), (.int .i64 b8), (.int .i64 b4), (.bool b9)])] h R := by
 refine hc_of (args := [(.agg #[(.int .i64 a5), (.bool a2), (.int .u64 a7), (.int .u64 a0), (.int .i64 a4), (.slice b7 b0 a9), (.int .i64 c1), (.int .i64 b5), (.bool c0)]), (.agg #[(.int .i64 a6), (.bool b3), (.int .u64 a8), (.int .u64 a1), (.int .i64 a3), (.slice b6 b2 b1), (.int .i64 b8), (.int .i64 b4), (.bool b9)])]) Tryd.func54 rfl Tryd.ntmps54 (Nat.le_of_ble_eq_true rfl) ?_
 refine xs (xr ?_)
 refine lp rfl rfl (hn_box (v := (.agg #[(.int .i64 a5), (.bool a2), (.int .u64 a7), (.int .u64 a0), (.int .i64 a4), (.slice b7 b0 a9), (.int .i64 c1), (.int .i64 b5), (.bool c0)])) rfl ?_)
 intro a h1 d6 d2
 have d4 := ext_pushed_f28_sh d2
 have e1 : Array.size h ≤ a := Nat.le_of_eq (Eq.symm d6)
 have c2 : h1[a]? = some (.cells #[(.int .i64 a5), (.bool a2), (.int .u64 a7), (.int .u64 a0), (.int .i64 a4), (.slice b7 b0 a9), (.int .i64 c1), (.int .i64 b5), (.bool c0)] 36 (0, 0)) := by rw [d2]; exact push_new d6
 refine lp rfl rfl (hn_box (v := (.agg #[(.int .i64 a6), (.bool b3), (.int .u64 a8), (.int .u64 a1), (.int .i64 a3), (.slice b6 b2 b1), (.int .i64 b8), (.int .i64 b4), (.bool b9)])) rfl ?_)
 intro b h2 d0 d5
 have d3 := ext_pushed_f28_sh d5
 have e2 := Nat.ne_of_lt (Nat.lt_of_lt_of_eq (row_lt c2) (Eq.symm d0))
 have d7 : Array.size h ≤ b := Nat.le_trans (Ext.size d4) (Nat.le_of_eq (Eq.symm d0))
 have c3 : h2[b]? = some (.cells #[(.int .i64 a6), (.bool b3), (.int .u64 a8), (.int .u64 a1), (.int .i64 a3), (.slice b6 b2 b1), (.int .i64 b8), (.int .i64 b4), (.bool b9)] 36 (0, 0)) := by rw [d5]; exact push_new d0
 replace c2 := Ext.row d3 c2
 have c7 := Ext.trans d4 d3
 refine lv rfl rfl (va rfl) ?_
 refine ln (qn (xs (xs (xr ?_))))
 refine lv rfl rfl (v := (ptr a 1)) (vf TyTCd.fld36_1 (b := a) (o := 0) rfl) (lv rfl rfl (vl TyTCd.agg4 rfl (rc c2 rfl)) (lv rfl rfl (v := (ptr b 1)) (vf TyTCd.fld36_1 (b := b) (o := 0) rfl) (lv rfl rfl (vl TyTCd.agg4 rfl (rc c3 rfl)) (lv rfl rfl (v := (.bool (a2 != b3))) (hv_eqBool TyTCd.u4 rfl rfl rfl) ?_))))
 refine ln (qn ?_)
 refine xc (b := a2 != b3) rfl (fun c8 => ?_) (fun c8 => ?_)
 ·replace H := H.1 c8
  refine xs (xs (xr ?_))
  refine lv rfl rfl (v := (ptr a 1)) (vf TyTCd.fld36_1 (b := a) (o := 0) rfl) (lv rfl rfl (vl TyTCd.agg4 rfl (rc c2 rfl)) ?_)
  refine ln (qn ?_)
  refine xc (b := a2) rfl (fun c5 => ?_) (fun c5 => ?_)
  ·replace H := H.1 c5
   refine xs (xr ?_)
   refine lv rfl rfl (va rfl) ?_
   refine ln (qn (xt (qr (qr ?_))))
   replace H := H h2 c7
   exact endQ_ret _ (res_one Tryd.results54 (rv_tmp rfl)) H
  ·replace H := H.2 c5
   refine xi (qn (xs (xr ?_)))
   refine lv rfl rfl (va rfl) ?_
   refine ln (qn (xt (qr ?_)))
   replace H := H h2 c7
   exact endQ_ret _ (res_one Tryd.results54 (rv_tmp rfl)) H
 ·replace H := H.2 c8
  refine xi (qn (xs ?_))
  refine hx_draw TyTCd.mixed [.pure, .pure, .read, .pure, .pure, .read, .read, .pure, .read, .pure, .read, .read, .ext, .wild, .pure] [0, 1, 2, 3, 4, 5, 6, 7, 8, 9, 10, 11, 12, 13, 14] (by kernel_rfl) ?_
  refine pp (i := 0) rfl (wanted_0 rfl) rfl (ptr a 2) (fun _ => vf TyTCd.fld36_2 (b := a) (o := 0) rfl) ?_
  refine pp (i := 1) rfl (wanted_0 rfl) rfl (ptr a 3) (fun _ => vf TyTCd.fld31_1 (b := a) (o := 2) rfl) ?_
  refine pr (i := 2) rfl (wanted_0 rfl) rfl (.int .u64 a0) (fun _ he => vl TyTCd.agg29 rfl (Ext.cell he (rc c2 rfl))) ?_
  refine pp (i := 3) rfl (wanted_0 rfl) rfl (ptr b 2) (fun _ => vf TyTCd.fld36_2 (b := b) (o := 0) rfl) ?_
  refine pp (i := 4) rfl (wanted_0 rfl) rfl (ptr b 3) (fun _ => vf TyTCd.fld31_1 (b := b) (o := 2) rfl) ?_
  refine pr (i := 5) rfl (wanted_0 rfl) rfl (.int .u64 a1) (fun _ he => vl TyTCd.agg29 rfl (Ext.cell he (rc c3 rfl))) ?_
  replace H := H a b h2 e1 (row_lt c2) d7 (row_lt c3) c7
  obtain ⟨r, d8, H⟩ := H
  refine pr (i := 6) rfl (wanted_0 rfl) rfl (.int .i64 r) (fun _ he => hv_call TyTCd.cb76 (vs := [(.int .u64 a0), (.int .u64 a1)]) rfl (d8 _ he)) ?_
  refine pp (i := 7) rfl (wanted_0 rfl) rfl (ptr a 0) (fun _ => vf TyTCd.fld36_0 (b := a) (o := 0) rfl) ?_
  refine pr (i := 8) rfl (wanted_0 rfl) rfl (.int .i64 a5) (fun _ he => vl TyTCd.agg3 rfl (Ext.cell he (rc c2 rfl))) ?_
  refine pp (i := 9) rfl (wanted_0 rfl) rfl (ptr b 0) (fun _ => vf TyTCd.fld36_0 (b := b) (o := 0) rfl) ?_
  refine pr (i := 10) rfl (wanted_0 rfl) rfl (.int .i64 a6) (fun _ he => vl TyTCd.agg3 rfl (Ext.cell he (rc c3 rfl))) ?_
  obtain ⟨c4, e0, H⟩ := H
  refine pr (i := 11) rfl (wanted_0 rfl) rfl (.int .i64 c4) (fun _ he => hv_call TyTCd.cb77 (vs := [(.int .i64 a5), (.int .i64 a6)]) rfl (e0 _ he)) ?_
  refine hp_ext (i := 12) rfl (wanted_0 rfl) rfl (hn_buildSlice (n := 2) (vs := [(0, (.int .i64 r)), (1, (.int .i64 c4))]) (cs := #[(.int .i64 r), (.int .i64 c4)]) TyTCd.u71 TyTCd.sz3 TyTCd.z3 rfl rfl (by kernel_rfl) ?_)
  intro nb h3 d9 d1
  replace H := H nb h3 d9 d1
  have c6 := ext_pushed_f28_sh d1
  replace c2 := Ext.row c6 c2
  replace c3 := Ext.row c6 c3
  refine ⟨c6, ?_⟩
  refine hp_wild (i := 13) rfl (wanted_0 rfl) rfl (sc TyTCd.cb75 rfl (HC.mono H ?_))
  rintro _ h4 ⟨c9, rfl, H⟩
  refine pp (i := 14) rfl (wanted_0 rfl) rfl (.int .i64 c9) (fun _ => va rfl) ?_
  refine hp_nil ?_
  refine qn (xt ?_)
  exact endQ_ret _ (res_one Tryd.results54 (rv_tmp rfl)) H
theorem f53_sh (a : Int) (b : Int) (c5 : Nat) (c4 : Nat) (h : Heap) (R : Value → Heap → Prop)
  (H : (∃ x : Option Addr, ∃ c6 c7 : Nat, hcell h c5 c4 = some (.slice x c6 c7) ∧ (∃ b2 b3 : Nat, x = some ⟨b2, b3, none⟩ ∧ (0 : Int) ≤ a ∧ a < (c6 : Int) ∧ (∃ c1 : Int, ∃ c3 : Bool, ∃ a7 a1 a4 : Int, ∃ b8 : Option Addr, ∃ a9 a8 : Nat, ∃ c0 b7 : Int, ∃ b9 : Bool, hcell h b2 (b3 + (Int.toNat a) * 9) = some (.int .i64 c1) ∧ hcell h b2 ((b3 + (Int.toNat a) * 9) + 1) = some (.bool c3) ∧ hcell h b2 ((b3 + (Int.toNat a) * 9) + 2) = some (.int .u64 a7) ∧ hcell h b2 ((b3 + (Int.toNat a) * 9) + 3) = some (.int .u64 a1) ∧ hcell h b2 ((b3 + (Int.toNat a) * 9) + 4) = some (.int .i64 a4) ∧ hcell h b2 ((b3 + (Int.toNat a) * 9) + 5) = some (.slice b8 a9 a8) ∧ hcell h b2 ((b3 + (Int.toNat a) * 9) + 6) = some (.int .i64 c0) ∧ hcell h b2 ((b3 + (Int.toNat a) * 9) + 7) = some (.int .i64 b7) ∧ hcell h b2 ((b3 + (Int.toNat a) * 9) + 8) = some (.bool b9) ∧ ((0 : Int) ≤ b ∧ b < (c6 : Int) ∧ (∃ b5 : Int, ∃ c2 : Bool, ∃ a3 a0 a2 : Int, ∃ b1 : Option Addr, ∃ a6 a5 : Nat, ∃ b4 b0 : Int, ∃ b6 : Bool, hcell h b2 (b3 + (Int.toNat b) * 9) = some (.int .i64 b5) ∧ hcell h b2 ((b3 + (Int.toNat b) * 9) + 1) = some (.bool c2) ∧ hcell h b2 ((b3 + (Int.toNat b) * 9) + 2) = some (.int .u64 a3) ∧ hcell h b2 ((b3 + (Int.toNat b) * 9) + 3) = some (.int .u64 a0) ∧ hcell h b2 ((b3 + (Int.toNat b) * 9) + 4) = some (.int .i64 a2) ∧ hcell h b2 ((b3 + (Int.toNat b) * 9) + 5) = some (.slice b1 a6 a5) ∧ hcell h b2 ((b3 + (Int.toNat b) * 9) + 6) = some (.int .i64 b4) ∧ hcell h b2 ((b3 + (Int.toNat b) * 9) + 7) = some (.int .i64 b0) ∧ hcell h b2 ((b3 + (Int.toNat b) * 9) + 8) = some (.bool b6) ∧ HC Tryd.prog 54 #[(.agg #[(.int .i64 c1), (.bool c3), (.int .u64 a7), (.int .u64 a1), (.int .i64 a4), (.slice b8 a9 a8), (.int .i64 c0), (.int .i64 b7), (.bool b9)]), (.agg #[(.int .i64 b5), (.bool c2), (.int .u64 a3), (.int .u64 a0), (.int .i64 a2), (.slice b1 a6 a5), (.int .i64 b4), (.int .i64 b0), (.bool b6)])] h (fun vv h1 => ∃ r : Int, vv = (.int .i64 r) ∧ R (.int .i64 r) h1))))))) :
  HC Tryd.prog 53 #[(.int .i64 a), (.int .i64 b), (ptr c5 c4)] h R := by
 refine hc_of (args := [(.int .i64 a), (.int .i64 b), (ptr c5 c4)]) Tryd.func53 rfl Tryd.ntmps53 (Nat.le_of_ble_eq_true rfl) ?_
 refine xs (xr ?_)
 refine lv rfl rfl (va rfl) ?_
 refine ln (qn (xs ?_))
 refine hx_draw TyTCd.mixed [.read, .pure, .pure, .read, .read, .pure, .pure, .read, .wild, .pure] [0, 1, 2, 3, 4, 5, 6, 7, 8, 9] (by kernel_rfl) ?_
 obtain ⟨x, c6, c7, c8, H⟩ := H
 refine pr (i := 0) rfl (wanted_0 rfl) rfl (.slice x c6 c7) (fun _ he => vl TyTCd.agg65 rfl (Ext.cell he c8)) ?_
 refine pp (i := 1) rfl (wanted_0 rfl) rfl (.int .i64 a) (fun _ => vm rfl) ?_
 obtain ⟨b2, b3, e3, e4, e7, Hq⟩ := H
 subst e3
 have H := Hq; clear Hq
 refine pp (i := 2) rfl (wanted_0 rfl) rfl (ptr b2 (b3 + (Int.toNat a) * 9)) (fun _ => vi TyTCd.el65 rfl rfl e4 e7) ?_
 obtain ⟨c1, c3, a7, a1, a4, b8, a9, a8, c0, b7, b9, e6, e8, e9, e5, f1, f0, d4, d3, d1, H⟩ := H
 refine pr (i := 3) rfl (wanted_0 rfl) rfl (.agg #[(.int .i64 c1), (.bool c3), (.int .u64 a7), (.int .u64 a1), (.int .i64 a4), (.slice b8 a9 a8), (.int .i64 c0), (.int .i64 b7), (.bool b9)]) (fun _ he => vL (vs := [(.int .i64 c1), (.bool c3), (.int .u64 a7), (.int .u64 a1), (.int .i64 a4), (.slice b8 a9 a8), (.int .i64 c0), (.int .i64 b7), (.bool b9)]) TyTCd.agg36 TyTCd.sz36 rfl (cc (Ext.cell he e6) (cc (Ext.cell he e8) (cc (Ext.cell he e9) (cc (Ext.cell he e5) (cc (Ext.cell he f1) (cc (Ext.cell he f0) (cc (Ext.cell he d4) (cc (Ext.cell he d3) (cc (Ext.cell he d1) cn)))))))))) ?_
 refine pr (i := 4) rfl (wanted_0 rfl) rfl (.slice (some ⟨b2, b3, none⟩) c6 c7) (fun _ he => vl TyTCd.agg65 rfl (Ext.cell he c8)) ?_
 refine pp (i := 5) rfl (wanted_0 rfl) rfl (.int .i64 b) (fun _ => vm rfl) ?_
 obtain ⟨d7, d6, H⟩ := H
 refine pp (i := 6) rfl (wanted_0 rfl) rfl (ptr b2 (b3 + (Int.toNat b) * 9)) (fun _ => vi TyTCd.el65 rfl rfl d7 d6) ?_
 obtain ⟨b5, c2, a3, a0, a2, b1, a6, a5, b4, b0, b6, d2, d0, e1, d8, e0, d5, d9, c9, e2, H⟩ := H
 refine pr (i := 7) rfl (wanted_0 rfl) rfl (.agg #[(.int .i64 b5), (.bool c2), (.int .u64 a3), (.int .u64 a0), (.int .i64 a2), (.slice b1 a6 a5), (.int .i64 b4), (.int .i64 b0), (.bool b6)]) (fun _ he => vL (vs := [(.int .i64 b5), (.bool c2), (.int .u64 a3), (.int .u64 a0), (.int .i64 a2), (.slice b1 a6 a5), (.int .i64 b4), (.int .i64 b0), (.bool b6)]) TyTCd.agg36 TyTCd.sz36 rfl (cc (Ext.cell he d2) (cc (Ext.cell he d0) (cc (Ext.cell he e1) (cc (Ext.cell he d8) (cc (Ext.cell he e0) (cc (Ext.cell he d5) (cc (Ext.cell he d9) (cc (Ext.cell he c9) (cc (Ext.cell he e2) cn)))))))))) ?_
 refine hp_wild (i := 8) rfl (wanted_0 rfl) rfl (sc TyTCd.cb54 rfl (HC.mono H ?_))
 rintro _ h1 ⟨r, rfl, H⟩
 refine pp (i := 9) rfl (wanted_0 rfl) rfl (.int .i64 r) (fun _ => va rfl) ?_
 refine hp_nil ?_
 refine qn (xt ?_)
 exact endQ_ret _ (res_one Tryd.results53 (rv_tmp rfl)) H
theorem f26_sh (l : Option Addr) (b0 : Nat) (a9 : Nat) (h : Heap) (R : Value → Heap → Prop)
  (H : (∀ a4 h1, a4 = Array.size h → h1 = Array.push h (.cells #[(.slice l b0 a9)] 65) → (∃ x : Option Addr, ∃ a3 b2 : Nat, hcell h1 a4 0 = some (.slice x a3 b2) ∧ (∃ (I5 : Option Addr → Nat → Nat → Int → Heap → Prop) (a8 : Option Addr → Nat → Nat → Int → Heap → Nat), I5 none 0 0 0 h1 ∧ (∀ (a2 : Option Addr) (a1 : Nat) (a0 : Nat) (v : Int) (h2 : Heap), I5 a2 a1 a0 v h2 → (((decide (v < (a3 : Int))) = true → (∀ nb h3, nb = Array.size h2 → h3 = Array.push h2 (.cells #[(.int .i64 v)] 3) → HAppend Tryd.prog 71 71 (.slice a2 a1 a0) (.slice (some ⟨nb, 0, none⟩) 1 1) h3 (fun vv h4 => ∃ ap : Option Addr, ∃ a6 a5 : Nat, vv = (.slice ap a6 a5) ∧ (I5 ap a6 a5 (IntKind.i64.wrap (v + 1)) h4 ∧ a8 ap a6 a5 (IntKind.i64.wrap (v + 1)) h4 < a8 a2 a1 a0 v h2)))) ∧ ((decide (v < (a3 : Int))) = false → HC Tryd.prog 52 #[(.slice a2 a1 a0), (.func (.func 53) #[] #[(ptr a4 0)])] h2 (fun vv h5 => vv = (.tuple #[]) ∧ R (.slice a2 a1 a0) h5)))))))) :
  HC Tryd.prog 26 #[(.slice l b0 a9)] h R := by
 refine hc_of (args := [(.slice l b0 a9)]) Tryd.func26 rfl Tryd.ntmps26 (Nat.le_of_ble_eq_true rfl) ?_
 refine xs (xr ?_)
 refine lp rfl rfl (hn_box (v := (.slice l b0 a9)) rfl ?_)
 intro a4 h1 b8 b3
 replace H := H a4 h1 b8 b3
 have c1 := ext_pushed_f28_sh b3
 refine lv rfl rfl (va rfl) ?_
 refine ln (qn (xs (xr ?_)))
 refine lv rfl rfl (va rfl) ?_
 refine ln (qn (xs (xs (xr ?_))))
 obtain ⟨x, a3, b2, b6, H⟩ := H
 refine lv rfl rfl (vl TyTCd.agg65 rfl b6) (lv rfl rfl (v := (.int .i64 (a3 : Int))) (hv_len (n := a3) TyTCd.u65 rfl) (lv rfl rfl (vm rfl) ?_))
 refine ln (qn (xb ?_))
 obtain ⟨I5, a8, b5, b7⟩ := H
 refine xl (σ := Option Addr × Nat × Nat × Int) (fun s => [(1, (ptr a4 0)), (3, (.slice s.1 s.2.1 s.2.2.1)), (6, (.int .i64 (a3 : Int))), (7, (.int .i64 s.2.2.2))]) (fun s h' => I5 s.1 s.2.1 s.2.2.1 s.2.2.2 h' ∧ True) (fun s h' => a8 s.1 s.2.1 s.2.2.1 s.2.2.2 h') (none, 0, 0, 0) ⟨b5, trivial⟩ (hc rfl (hc rfl (hc rfl (hc rfl hn)))) ?_
 rintro ⟨a2, a1, a0, v⟩ ρ h2 ⟨b9, -⟩
 have H := b7 a2 a1 a0 v h2 b9
 refine xs (xr ?_)
 refine lv rfl rfl (vr rfl rfl rfl) ?_
 refine ln (qn (xs ?_))
 refine xc (b := decide (v < (a3 : Int))) rfl (fun a7 => ?_) (fun a7 => ?_)
 ·replace H := H.1 a7
  refine xi (qn (xs (xb (xs (xr ?_)))))
  refine lv rfl rfl (vm rfl) (lv rfl rfl (va rfl) ?_)
  refine ln (qn (xr ?_))
  refine lv rfl rfl (vm rfl) (lv rfl rfl (vm rfl) ?_)
  refine lp rfl rfl (hn_buildSlice (n := 1) (vs := [(0, (.int .i64 v))]) (cs := #[(.int .i64 v)]) TyTCd.u71 TyTCd.sz3 TyTCd.z3 rfl rfl (by kernel_rfl) ?_)
  intro nb h3 b4 b1
  replace H := H nb h3 b4 b1
  have c0 := ext_pushed_f28_sh b1
  refine lp rfl rfl (hs_append rfl rfl (HAppend.mono H ?_))
  rintro _ h4 ⟨ap, a6, a5, rfl, H⟩
  refine lv rfl rfl (va rfl) ?_
  refine ln (bn (qn (xr ?_)))
  refine lv rfl rfl (vr rfl rfl rfl) (lv rfl rfl (vm rfl) ?_)
  refine ln (qn ?_)
  exact ⟨(ap, a6, a5, IntKind.i64.wrap (v + 1)), ⟨⟨H.1, trivial⟩, H.2⟩, (hc rfl (hc rfl (hc rfl (hc rfl hn))))⟩
 ·replace H := H.2 a7
  refine xe (qe (qe (bh (qn (xs (xr ?_))))))
  refine lv rfl rfl (vm rfl) (lv rfl rfl (v := (.func (.func 53) #[] #[(ptr a4 0)])) (hv_makeFunc (fv := []) (cv := [(ptr a4 0)]) rfl rfl) ?_)
  refine lp rfl rfl (sc TyTCd.cb52 rfl (HC.mono H ?_))
  rintro _ h5 ⟨rfl, H⟩
  refine ln (qn (xs (xr ?_)))
  refine lv rfl rfl (vm rfl) (lv rfl rfl (va rfl) ?_)
  refine ln (qn (xt ?_))
  exact endQ_ret _ (res_one Tryd.results26 (rv_tmp rfl)) H
theorem f58_sh (a2 : Int) (a5 : Bool) (a8 : Int) (a0 : Int) (a6 : Int) (b7 : Option Addr) (b0 : Nat) (a9 : Nat) (c1 : Int) (b5 : Int) (c0 : Bool) (a3 : Int) (b3 : Bool) (a7 : Int) (a1 : Int) (a4 : Int) (b6 : Option Addr) (b2 : Nat) (b1 : Nat) (b8 : Int) (b4 : Int) (b9 : Bool) (h : Heap) (R : Value → Heap → Prop)
  (H : (((a5 != b3) = true → (∀ (h2 : Heap), Ext h h2 → R (.bool a5) h2)) ∧ ((a5 != b3) = false → (((a0 != a1) = true → (∀ (h2 : Heap), Ext h h2 → R (.bool (decide (a0 < a1))) h2)) ∧ ((a0 != a1) = false → (∀ (h2 : Heap), Ext h h2 → R (.bool (decide (a2 < a3))) h2)))))) :
  HC Tryd.prog 58 #[(.agg #[(.int .i64 a2), (.bool a5), (.int .u64 a8), (.int .u64 a0), (.int .i64 a6), (.slice b7 b0 a9), (.int .i64 c1), (.int .i64 b5), (.bool c0)]), (.agg #[(.int .i64 a3), (.bool b3), (.int .u64 a7), (.int .u64 a1), (.int .i64 a4), (.slice b6 b2 b1), (.int .i64 b8), (.int .i64 b4), (.bool b9)])] h R := by
 refine hc_of (args := [(.agg #[(.int .i64 a2), (.bool a5), (.int .u64 a8), (.int .u64 a0), (.int .i64 a6), (.slice b7 b0 a9), (.int .i64 c1), (.int .i64 b5), (.bool c0)]), (.agg #[(.int .i64 a3), (.bool b3), (.int .u64 a7), (.int .u64 a1), (.int .i64 a4), (.slice b6 b2 b1), (.int .i64 b8), (.int .i64 b4), (.bool b9)])]) Tryd.func58 rfl Tryd.ntmps58 (Nat.le_of_ble_eq_true rfl) ?_
 refine xs (xr ?_)
 refine lp rfl rfl (hn_box (v := (.agg #[(.int .i64 a2), (.bool a5), (.int .u64 a8), (.int .u64 a0), (.int .i64 a6), (.slice b7 b0 a9), (.int .i64 c1), (.int .i64 b5), (.bool c0)])) rfl ?_)
 intro a h1 d2 c8
 have d0 := ext_pushed_f28_sh c8
 have d5 : Array.size h ≤ a := Nat.le_of_eq (Eq.symm d2)
 have c2 : h1[a]? = some (.cells #[(.int .i64 a2), (.bool a5), (.int .u64 a8), (.int .u64 a0), (.int .i64 a6), (.slice b7 b0 a9), (.int .i64 c1), (.int .i64 b5), (.bool c0)] 36 (0, 0)) := by rw [c8]; exact push_new d2
 refine lp rfl rfl (hn_box (v := (.agg #[(.int .i64 a3), (.bool b3), (.int .u64 a7), (.int .u64 a1), (.int .i64 a4), (.slice b6 b2 b1), (.int .i64 b8), (.int .i64 b4), (.bool b9)])) rfl ?_)
 intro b h2 c7 d1
 have c9 := ext_pushed_f28_sh d1
 have d4 := Nat.ne_of_lt (Nat.lt_of_lt_of_eq (row_lt c2) (Eq.symm c7))
 have d3 : Array.size h ≤ b := Nat.le_trans (Ext.size d0) (Nat.le_of_eq (Eq.symm c7))
 have c6 : h2[b]? = some (.cells #[(.int .i64 a3), (.bool b3), (.int .u64 a7), (.int .u64 a1), (.int .i64 a4), (.slice b6 b2 b1), (.int .i64 b8), (.int .i64 b4), (.bool b9)] 36 (0, 0)) := by rw [d1]; exact push_new c7
 replace c2 := Ext.row c9 c2
 have c4 := Ext.trans d0 c9
 refine lv rfl rfl (va rfl) ?_
 refine ln (qn (xs (xs (xr ?_))))
 refine lv rfl rfl (v := (ptr a 1)) (vf TyTCd.fld36_1 (b := a) (o := 0) rfl) (lv rfl rfl (vl TyTCd.agg4 rfl (rc c2 rfl)) (lv rfl rfl (v := (ptr b 1)) (vf TyTCd.fld36_1 (b := b) (o := 0) rfl) (lv rfl rfl (vl TyTCd.agg4 rfl (rc c6 rfl)) (lv rfl rfl (v := (.bool (a5 != b3))) (hv_eqBool TyTCd.u4 rfl rfl rfl) ?_))))
 refine ln (qn ?_)
 refine xc (b := a5 != b3) rfl (fun c5 => ?_) (fun c5 => ?_)
 ·replace H := H.1 c5
  refine xs (xr ?_)
  refine lv rfl rfl (v := (ptr a 1)) (vf TyTCd.fld36_1 (b := a) (o := 0) rfl) (lv rfl rfl (vl TyTCd.agg4 rfl (rc c2 rfl)) (lv rfl rfl (va rfl) ?_))
  refine ln (qn (xt (qr ?_)))
  replace H := H h2 c4
  exact endQ_ret _ (res_one Tryd.results58 (rv_tmp rfl)) H
 ·replace H := H.2 c5
  refine xi (qn (xs (xs (xr ?_))))
  refine lv rfl rfl (v := (ptr a 2)) (vf TyTCd.fld36_2 (b := a) (o := 0) rfl) (lv rfl rfl (v := (ptr a 3)) (vf TyTCd.fld31_1 (b := a) (o := 2) rfl) (lv rfl rfl (vl TyTCd.agg29 rfl (rc c2 rfl)) (lv rfl rfl (v := (ptr b 2)) (vf TyTCd.fld36_2 (b := b) (o := 0) rfl) (lv rfl rfl (v := (ptr b 3)) (vf TyTCd.fld31_1 (b := b) (o := 2) rfl) (lv rfl rfl (vl TyTCd.agg29 rfl (rc c6 rfl)) ?_)))))
  refine lv rfl rfl (vr rfl rfl rfl) ?_
  refine ln (qn ?_)
  refine xc (b := a0 != a1) rfl (fun c3 => ?_) (fun c3 => ?_)
  ·replace H := H.1 c3
   refine xs (xr ?_)
   refine lv rfl rfl (v := (ptr a 2)) (vf TyTCd.fld36_2 (b := a) (o := 0) rfl) (lv rfl rfl (v := (ptr a 3)) (vf TyTCd.fld31_1 (b := a) (o := 2) rfl) (lv rfl rfl (vl TyTCd.agg29 rfl (rc c2 rfl)) (lv rfl rfl (v := (ptr b 2)) (vf TyTCd.fld36_2 (b := b) (o := 0) rfl) (lv rfl rfl (v := (ptr b 3)) (vf TyTCd.fld31_1 (b := b) (o := 2) rfl) (lv rfl rfl (vl TyTCd.agg29 rfl (rc c6 rfl)) ?_)))))
   refine lv rfl rfl (vr rfl rfl rfl) (lv rfl rfl (va rfl) ?_)
   refine ln (qn (xt (qr ?_)))
   replace H := H h2 c4
   exact endQ_ret _ (res_one Tryd.results58 (rv_tmp rfl)) H
  ·replace H := H.2 c3
   refine xi (qn (xs (xr ?_)))
   refine lv rfl rfl (v := (ptr a 0)) (vf TyTCd.fld36_0 (b := a) (o := 0) rfl) (lv rfl rfl (vl TyTCd.agg3 rfl (rc c2 rfl)) (lv rfl rfl (v := (ptr b 0)) (vf TyTCd.fld36_0 (b := b) (o := 0) rfl) (lv rfl rfl (vl TyTCd.agg3 rfl (rc c6 rfl)) (lv rfl rfl (vr rfl rfl rfl) (lv rfl rfl (va rfl) ?_)))))
   refine ln (qn (xt ?_))
   replace H := H h2 c4
   exact endQ_ret _ (res_one Tryd.results58 (rv_tmp rfl)) H
theorem f28_sh (l : Option Addr) (c4 : Nat) (d6 : Nat) (h : Heap) (R : Value → Heap → Prop)
  (H : (∃ (I1 : Option Addr → Nat → Nat → Int → Heap → Prop) (e6 : Option Addr → Nat → Nat → Int → Heap → Nat), I1 none 0 0 0 h ∧ (∀ (d5 : Option Addr) (c9 : Nat) (c8 : Nat) (v : Int) (h1 : Heap), I1 d5 c9 c8 v h1 → (((decide (v < (c4 : Int))) = true → (∀ nb h2, nb = Array.size h1 → h2 = Array.push h1 (.cells #[(.int .i64 v)] 3) → HAppend Tryd.prog 71 71 (.slice d5 c9 c8) (.slice (some ⟨nb, 0, none⟩) 1 1) h2 (fun vv h3 => ∃ ap : Option Addr, ∃ a4 c1 : Nat, vv = (.slice ap a4 c1) ∧ (∃ (e1 : Int → Heap → Prop) (d7 : Int → Heap → Nat), e1 (IntKind.i64.wrap ((a4 : Int) - 1)) h3 ∧ (∀ (k : Int) (h4 : Heap), e1 k h4 → (∃ e0 : Bool → Heap → Prop, (((decide (k > 0)) = true → (∃ d4 d3 : Nat, ap = some ⟨d4, d3, none⟩ ∧ (0 : Int) ≤ k ∧ k < (a4 : Int) ∧ (∃ x : Int, hcell h4 d4 (d3 + (Int.toNat k) * 1) = some (.int .i64 x) ∧ (∃ b7 b6 : Nat, l = some ⟨b7, b6, none⟩ ∧ (0 : Int) ≤ x ∧ x < (c4 : Int) ∧ (∃ c7 : Int, ∃ d2 : Bool, ∃ b0 a2 a6 : Int, ∃ c3 : Option Addr, ∃ b2 b3 : Nat, ∃ c5 c2 : Int, ∃ c6 : Bool, hcell h4 b7 (b6 + (Int.toNat x) * 9) = some (.int .i64 c7) ∧ hcell h4 b7 ((b6 + (Int.toNat x) * 9) + 1) = some (.bool d2) ∧ hcell h4 b7 ((b6 + (Int.toNat x) * 9) + 2) = some (.int .u64 b0) ∧ hcell h4 b7 ((b6 + (Int.toNat x) * 9) + 3) = some (.int .u64 a2) ∧ hcell h4 b7 ((b6 + (Int.toNat x) * 9) + 4) = some (.int .i64 a6) ∧ hcell h4 b7 ((b6 + (Int.toNat x) * 9) + 5) = some (.slice c3 b2 b3) ∧ hcell h4 b7 ((b6 + (Int.toNat x) * 9) + 6) = some (.int .i64 c5) ∧ hcell h4 b7 ((b6 + (Int.toNat x) * 9) + 7) = some (.int .i64 c2) ∧ hcell h4 b7 ((b6 + (Int.toNat x) * 9) + 8) = some (.bool c6) ∧ ((0 : Int) ≤ IntKind.i64.wrap (k - 1) ∧ IntKind.i64.wrap (k - 1) < (a4 : Int) ∧ (∃ d1 : Int, hcell h4 d4 (d3 + (Int.toNat (IntKind.i64.wrap (k - 1))) * 1) = some (.int .i64 d1) ∧ ((0 : Int) ≤ d1 ∧ d1 < (c4 : Int) ∧ (∃ b9 : Int, ∃ d0 : Bool, ∃ a5 a1 a3 : Int, ∃ b5 : Option Addr, ∃ a7 a8 : Nat, ∃ b8 b4 : Int, ∃ c0 : Bool, hcell h4 b7 (b6 + (Int.toNat d1) * 9) = some (.int .i64 b9) ∧ hcell h4 b7 ((b6 + (Int.toNat d1) * 9) + 1) = some (.bool d0) ∧ hcell h4 b7 ((b6 + (Int.toNat d1) * 9) + 2) = some (.int .u64 a5) ∧ hcell h4 b7 ((b6 + (Int.toNat d1) * 9) + 3) = some (.int .u64 a1) ∧ hcell h4 b7 ((b6 + (Int.toNat d1) * 9) + 4) = some (.int .i64 a3) ∧ hcell h4 b7 ((b6 + (Int.toNat d1) * 9) + 5) = some (.slice b5 a7 a8) ∧ hcell h4 b7 ((b6 + (Int.toNat d1) * 9) + 6) = some (.int .i64 b8) ∧ hcell h4 b7 ((b6 + (Int.toNat d1) * 9) + 7) = some (.int .i64 b4) ∧ hcell h4 b7 ((b6 + (Int.toNat d1) * 9) + 8) = some (.bool c0) ∧ HC Tryd.prog 58 #[(.agg #[(.int .i64 c7), (.bool d2), (.int .u64 b0), (.int .u64 a2), (.int .i64 a6), (.slice c3 b2 b3), (.int .i64 c5), (.int .i64 c2), (.bool c6)]), (.agg #[(.int .i64 b9), (.bool d0), (.int .u64 a5), (.int .u64 a1), (.int .i64 a3), (.slice b5 a7 a8), (.int .i64 b8), (.int .i64 b4), (.bool c0)])] h4 (fun vv h6 => ∃ r : Bool, vv = (.bool r) ∧ (e0 r h6))))))))))) ∧ ((decide (k > 0)) = false → (e0 false h4))) ∧ (∀ (j : Bool) (h5 : Heap), e0 j h5 → ((j = true → (∃ b1 a9 : Nat, ap = some ⟨b1, a9, none⟩ ∧ (0 : Int) ≤ IntKind.i64.wrap (k - 1) ∧ IntKind.i64.wrap (k - 1) < (a4 : Int) ∧ (∃ d9 : Int, hcell h5 b1 (a9 + (Int.toNat (IntKind.i64.wrap (k - 1))) * 1) = some (.int .i64 d9) ∧ ((0 : Int) ≤ k ∧ k < (a4 : Int) ∧ (∃ e2 : Int, hcell h5 b1 (a9 + (Int.toNat k) * 1) = some (.int .i64 e2) ∧ (HW h5 b1 (a9 + (Int.toNat k) * 1) ∧ ∀ h7, h7 = hset h5 b1 (a9 + (Int.toNat k) * 1) (.int .i64 d9) → (HW h7 b1 (a9 + (Int.toNat (IntKind.i64.wrap (k - 1))) * 1) ∧ ∀ h8, h8 = hset h7 b1 (a9 + (Int.toNat (IntKind.i64.wrap (k - 1))) * 1) (.int .i64 e2) → (e1 (IntKind.i64.wrap (k - 1)) h8 ∧ d7 (IntKind.i64.wrap (k - 1)) h8 < d7 k h4)))))))) ∧ (j = false → (I1 ap a4 c1 (IntKind.i64.wrap (v + 1)) h5 ∧ e6 ap a4 c1 (IntKind.i64.wrap (v + 1)) h5 < e6 d5 c9 c8 v h1)))))))))) ∧ ((decide (v < (c4 : Int))) = false → R (.slice d5 c9 c8) h1))))) :
  HC Tryd.prog 28 #[(.slice l c4 d6)] h R := by
 refine hc_of (args := [(.slice l c4 d6)]) Tryd.func28 rfl Tryd.ntmps28 (Nat.le_of_ble_eq_true rfl) ?_
 refine xs (xr ?_)
 refine lv rfl rfl (va rfl) ?_
 refine ln (qn (xs (xr ?_)))
 refine lv rfl rfl (va rfl) ?_
 refine ln (qn (xs (xs (xr ?_))))
 refine lv rfl rfl (vm rfl) (lv rfl rfl (v := (.int .i64 (c4 : Int))) (hv_len (n := c4) TyTCd.u65 rfl) (lv rfl rfl (vm rfl) ?_))
 refine ln (qn (xb ?_))
 obtain ⟨I1, e6, k3, k4⟩ := H
 refine xl (σ := Option Addr × Nat × Nat × Int) (fun s => [(0, (.slice l c4 d6)), (3, (.slice s.1 s.2.1 s.2.2.1)), (7, (.int .i64 (c4 : Int))), (8, (.int .i64 s.2.2.2))]) (fun s h' => I1 s.1 s.2.1 s.2.2.1 s.2.2.2 h' ∧ True) (fun s h' => e6 s.1 s.2.1 s.2.2.1 s.2.2.2 h') (none, 0, 0, 0) ⟨k3, trivial⟩ (hc rfl (hc rfl (hc rfl (hc rfl hn)))) ?_
 rintro ⟨d5, c9, c8, v⟩ ρ h1 ⟨k1, -⟩
 have H := k4 d5 c9 c8 v h1 k1
 refine xs (xr ?_)
 refine lv rfl rfl (vr rfl rfl rfl) ?_
 refine ln (qn (xs ?_))
 refine xc (b := decide (v < (c4 : Int))) rfl (fun f0 => ?_) (fun f0 => ?_)
 ·replace H := H.1 f0
  refine xi (qn (xs (xb (xs (xr ?_)))))
  refine lv rfl rfl (vm rfl) (lv rfl rfl (va rfl) ?_)
  refine ln (qn (xs (xr ?_)))
  refine lv rfl rfl (vm rfl) (lv rfl rfl (vm rfl) ?_)
  refine lp rfl rfl (hn_buildSlice (n := 1) (vs := [(0, (.int .i64 v))]) (cs := #[(.int .i64 v)]) TyTCd.u71 TyTCd.sz3 TyTCd.z3 rfl rfl (by kernel_rfl) ?_)
  intro nb h2 k2 f2
  replace H := H nb h2 k2 f2
  have k5 := ext_pushed_f28_sh f2
  refine lp rfl rfl (hs_append rfl rfl (HAppend.mono H ?_))
  rintro _ h3 ⟨ap, a4, c1, rfl, H⟩
  refine lv rfl rfl (va rfl) ?_
  refine ln (qn (xs (xr ?_)))
  refine lv rfl rfl (vm rfl) (lv rfl rfl (v := (.int .i64 (a4 : Int))) (hv_len (n := a4) TyTCd.u71 rfl) (lv rfl rfl (vr rfl rfl rfl) (lv rfl rfl (va rfl) ?_)))
  refine ln (qn (xb ?_))
  obtain ⟨e1, d7, f7, i0⟩ := H
  refine xl (σ := Int) (fun s => [(0, (.slice l c4 d6)), (3, (.slice ap a4 c1)), (5, (.int .i64 s)), (7, (.int .i64 (c4 : Int))), (8, (.int .i64 v))]) (fun s h' => e1 s h' ∧ True) (fun s h' => d7 s h') (IntKind.i64.wrap ((a4 : Int) - 1)) ⟨f7, trivial⟩ (hc rfl (hc rfl (hc rfl (hc rfl (hc rfl hn))))) ?_
  rintro k ρ h4 ⟨j1, -⟩
  have H := i0 k h4 j1
  refine xs ?_
  obtain ⟨e0, e4, e3⟩ := H
  refine xk (fun ρ h' => ∃ j : Bool, (e0 j h' ∧ True) ∧ Has ρ [(0, (.slice l c4 d6)), (3, (.slice ap a4 c1)), (5, (.int .i64 k)), (7, (.int .i64 (c4 : Int))), (8, (.int .i64 v)), (37, (.bool j))]) ?_ ?_
  ·have H := e4; clear e4 e3
   refine hx_draw TyTCd.mixed [.pure, .pure, .pure, .pure, .pure, .pure, .pure, .read, .pure, .read, .pure, .pure, .pure, .pure, .pure, .read, .pure, .read, .wild, .pure] [0, 1, 2, 3, 4, 5, 6, 7, 8, 9, 10, 11, 12, 13, 14, 15, 16, 17, 18, 19] (by kernel_rfl) ?_
   refine pp (i := 0) rfl (wanted_0 rfl) rfl (.int .i64 k) (fun _ => vm rfl) ?_
   refine pp (i := 1) rfl (wanted_0 rfl) rfl (.bool (decide (k > 0))) (fun _ => vr rfl rfl rfl) ?_
   refine pp (i := 2) rfl (wanted_0 rfl) rfl (.bool (decide (k > 0))) (fun _ => vm rfl) ?_
   rcases bool_or (decide (k > 0)) with a0 | a0
   ·replace H := H.1 a0
    refine pp (i := 3) rfl (wanted_y rfl rfl rfl a0) rfl (.slice l c4 d6) (fun _ => vm rfl) ?_
    refine pp (i := 4) rfl (wanted_y rfl rfl rfl a0) rfl (.slice ap a4 c1) (fun _ => vm rfl) ?_
    refine pp (i := 5) rfl (wanted_y rfl rfl rfl a0) rfl (.int .i64 k) (fun _ => vm rfl) ?_
    obtain ⟨d4, d3, d8, f4, g5, Hq⟩ := H
    subst d8
    have H := Hq; clear Hq
    refine pp (i := 6) rfl (wanted_y rfl rfl rfl a0) rfl (ptr d4 (d3 + (Int.toNat k) * 1)) (fun _ => vi TyTCd.el71 rfl rfl f4 g5) ?_
    obtain ⟨x, i1, H⟩ := H
    refine pr (i := 7) rfl (wanted_y rfl rfl rfl a0) rfl (.int .i64 x) (fun _ he => vl TyTCd.agg3 rfl (Ext.cell he i1)) ?_
    obtain ⟨b7, b6, d8, i3, f6, Hq⟩ := H
    subst d8
    have H := Hq; clear Hq
    refine pp (i := 8) rfl (wanted_y rfl rfl rfl a0) rfl (ptr b7 (b6 + (Int.toNat x) * 9)) (fun _ => vi TyTCd.el65 rfl rfl i3 f6) ?_
    obtain ⟨c7, d2, b0, a2, a6, c3, b2, b3, c5, c2, c6, g1, i8, j2, i7, g0, i4, g7, g3, j4, H⟩ := H
    refine pr (i := 9) rfl (wanted_y rfl rfl rfl a0) rfl (.agg #[(.int .i64 c7), (.bool d2), (.int .u64 b0), (.int .u64 a2), (.int .i64 a6), (.slice c3 b2 b3), (.int .i64 c5), (.int .i64 c2), (.bool c6)]) (fun _ he => vL (vs := [(.int .i64 c7), (.bool d2), (.int .u64 b0), (.int .u64 a2), (.int .i64 a6), (.slice c3 b2 b3), (.int .i64 c5), (.int .i64 c2), (.bool c6)]) TyTCd.agg36 TyTCd.sz36 rfl (cc (Ext.cell he g1) (cc (Ext.cell he i8) (cc (Ext.cell he j2) (cc (Ext.cell he i7) (cc (Ext.cell he g0) (cc (Ext.cell he i4) (cc (Ext.cell he g7) (cc (Ext.cell he g3) (cc (Ext.cell he j4) cn)))))))))) ?_
    refine pp (i := 10) rfl (wanted_y rfl rfl rfl a0) rfl (.slice (some ⟨b7, b6, none⟩) c4 d6) (fun _ => vm rfl) ?_
    refine pp (i := 11) rfl (wanted_y rfl rfl rfl a0) rfl (.slice (some ⟨d4, d3, none⟩) a4 c1) (fun _ => vm rfl) ?_
    refine pp (i := 12) rfl (wanted_y rfl rfl rfl a0) rfl (.int .i64 k) (fun _ => vm rfl) ?_
    refine pp (i := 13) rfl (wanted_y rfl rfl rfl a0) rfl (.int .i64 (IntKind.i64.wrap (k - 1))) (fun _ => vr rfl rfl rfl) ?_
    obtain ⟨g8, i2, H⟩ := H
    refine pp (i := 14) rfl (wanted_y rfl rfl rfl a0) rfl (ptr d4 (d3 + (Int.toNat (IntKind.i64.wrap (k - 1))) * 1)) (fun _ => vi TyTCd.el71 rfl rfl g8 i2) ?_
    obtain ⟨d1, j6, H⟩ := H
    refine pr (i := 15) rfl (wanted_y rfl rfl rfl a0) rfl (.int .i64 d1) (fun _ he => vl TyTCd.agg3 rfl (Ext.cell he j6)) ?_
    obtain ⟨j3, f3, H⟩ := H
    refine pp (i := 16) rfl (wanted_y rfl rfl rfl a0) rfl (ptr b7 (b6 + (Int.toNat d1) * 9)) (fun _ => vi TyTCd.el65 rfl rfl j3 f3) ?_
    obtain ⟨b9, d0, a5, a1, a3, b5, a7, a8, b8, b4, c0, k0, i9, j0, g4, f8, j7, g9, f5, i6, H⟩ := H
    refine pr (i := 17) rfl (wanted_y rfl rfl rfl a0) rfl (.agg #[(.int .i64 b9), (.bool d0), (.int .u64 a5), (.int .u64 a1), (.int .i64 a3), (.slice b5 a7 a8), (.int .i64 b8), (.int .i64 b4), (.bool c0)]) (fun _ he => vL (vs := [(.int .i64 b9), (.bool d0), (.int .u64 a5), (.int .u64 a1), (.int .i64 a3), (.slice b5 a7 a8), (.int .i64 b8), (.int .i64 b4), (.bool c0)]) TyTCd.agg36 TyTCd.sz36 rfl (cc (Ext.cell he k0) (cc (Ext.cell he i9) (cc (Ext.cell he j0) (cc (Ext.cell he g4) (cc (Ext.cell he f8) (cc (Ext.cell he j7) (cc (Ext.cell he g9) (cc (Ext.cell he f5) (cc (Ext.cell he i6) cn)))))))))) ?_
    refine hp_wild (i := 18) rfl (wanted_y rfl rfl rfl a0) rfl (sc TyTCd.cb58 rfl (HC.mono H ?_))
    rintro _ h6 ⟨r, rfl, H⟩
    refine pp (i := 19) rfl (wanted_0 rfl) rfl (.bool r) (fun _ => hv_pick_t rfl a0 rfl) ?_
    refine hp_nil ?_
    refine qn ?_
    exact ⟨_, ⟨H, trivial⟩, (hc rfl (hc rfl (hc rfl (hc rfl (hc rfl (hc rfl hn))))))⟩
   ·replace H := H.2 a0
    refine pn (i := 3) rfl (wanted_n rfl rfl rfl a0) ?_
    refine pn (i := 4) rfl (wanted_n rfl rfl rfl a0) ?_
    refine pn (i := 5) rfl (wanted_n rfl rfl rfl a0) ?_
    refine pn (i := 6) rfl (wanted_n rfl rfl rfl a0) ?_
    refine pn (i := 7) rfl (wanted_n rfl rfl rfl a0) ?_
    refine pn (i := 8) rfl (wanted_n rfl rfl rfl a0) ?_
    refine pn (i := 9) rfl (wanted_n rfl rfl rfl a0) ?_
    refine pn (i := 10) rfl (wanted_n rfl rfl rfl a0) ?_
    refine pn (i := 11) rfl (wanted_n rfl rfl rfl a0) ?_
    refine pn (i := 12) rfl (wanted_n rfl rfl rfl a0) ?_
    refine pn (i := 13) rfl (wanted_n rfl rfl rfl a0) ?_
    refine pn (i := 14) rfl (wanted_n rfl rfl rfl a0) ?_
    refine pn (i := 15) rfl (wanted_n rfl rfl rfl a0) ?_
    refine pn (i := 16) rfl (wanted_n rfl rfl rfl a0) ?_
    refine pn (i := 17) rfl (wanted_n rfl rfl rfl a0) ?_
    refine pn (i := 18) rfl (wanted_n rfl rfl rfl a0) ?_
    refine pp (i := 19) rfl (wanted_0 rfl) rfl (.bool false) (fun _ => hv_pick_f rfl a0 rfl) ?_
    refine hp_nil ?_
    refine qn ?_
    exact ⟨_, ⟨H, trivial⟩, (hc rfl (hc rfl (hc rfl (hc rfl (hc rfl (hc rfl hn))))))⟩
  ·rintro ρ h5 ⟨j, ⟨i5, -⟩, hH⟩
   have H := e3 j h5 i5; clear e4 e3
   refine xh _ hH ?_
   refine xc (b := j) rfl (fun e5 => ?_) (fun e5 => ?_)
   ·replace H := H.1 e5
    refine xi (qn (xs (xb ?_)))
    refine hx_draw TyTCd.mixed [.pure, .pure, .pure, .pure, .pure, .pure, .pure, .pure, .pure, .read, .pure, .pure, .pure, .read, .pure, .wild, .pure, .wild] [0, 1, 2, 3, 4, 5, 6, 7, 8, 9, 10, 11, 12, 13, 14, 15, 16, 17] (by kernel_rfl) ?_
    refine pp (i := 0) rfl (wanted_0 rfl) rfl (.slice ap a4 c1) (fun _ => vm rfl) ?_
    refine pp (i := 1) rfl (wanted_0 rfl) rfl (.int .i64 k) (fun _ => vm rfl) ?_
    refine pp (i := 2) rfl (wanted_0 rfl) rfl (.slice ap a4 c1) (fun _ => vm rfl) ?_
    refine pp (i := 3) rfl (wanted_0 rfl) rfl (.int .i64 k) (fun _ => vm rfl) ?_
    refine pp (i := 4) rfl (wanted_0 rfl) rfl (.int .i64 (IntKind.i64.wrap (k - 1))) (fun _ => vr rfl rfl rfl) ?_
    refine pp (i := 5) rfl (wanted_0 rfl) rfl (.slice ap a4 c1) (fun _ => vm rfl) ?_
    refine pp (i := 6) rfl (wanted_0 rfl) rfl (.int .i64 k) (fun _ => vm rfl) ?_
    refine pp (i := 7) rfl (wanted_0 rfl) rfl (.int .i64 (IntKind.i64.wrap (k - 1))) (fun _ => vr rfl rfl rfl) ?_
    obtain ⟨b1, a9, d8, e8, f1, Hq⟩ := H
    subst d8
    have H := Hq; clear Hq
    refine pp (i := 8) rfl (wanted_0 rfl) rfl (ptr b1 (a9 + (Int.toNat (IntKind.i64.wrap (k - 1))) * 1)) (fun _ => vi TyTCd.el71 rfl rfl e8 f1) ?_
    obtain ⟨d9, g2, H⟩ := H
    refine pr (i := 9) rfl (wanted_0 rfl) rfl (.int .i64 d9) (fun _ he => vl TyTCd.agg3 rfl (Ext.cell he g2)) ?_
    refine pp (i := 10) rfl (wanted_0 rfl) rfl (.slice (some ⟨b1, a9, none⟩) a4 c1) (fun _ => vm rfl) ?_
    refine pp (i := 11) rfl (wanted_0 rfl) rfl (.int .i64 k) (fun _ => vm rfl) ?_
    obtain ⟨e9, e7, H⟩ := H
    refine pp (i := 12) rfl (wanted_0 rfl) rfl (ptr b1 (a9 + (Int.toNat k) * 1)) (fun _ => vi TyTCd.el71 rfl rfl e9 e7) ?_
    obtain ⟨e2, j8, H⟩ := H
    refine pr (i := 13) rfl (wanted_0 rfl) rfl (.int .i64 e2) (fun _ he => vl TyTCd.agg3 rfl (Ext.cell he j8)) ?_
    refine pp (i := 14) rfl (wanted_0 rfl) rfl (ptr b1 (a9 + (Int.toNat k) * 1)) (fun _ => vi TyTCd.el71 rfl rfl e9 e7) ?_
    obtain ⟨g6, H⟩ := H
    refine hp_wild (i := 15) rfl (wanted_0 rfl) rfl (hn_store (v := (.int .i64 d9)) rfl rfl TyTCd.sz3 rfl g6 ?_)
    intro h7 j5
    replace H := H h7 j5
    refine pp (i := 16) rfl (wanted_0 rfl) rfl (ptr b1 (a9 + (Int.toNat (IntKind.i64.wrap (k - 1))) * 1)) (fun _ => vi TyTCd.el71 rfl rfl e8 f1) ?_
    obtain ⟨f9, H⟩ := H
    refine hp_wild (i := 17) rfl (wanted_0 rfl) rfl (hn_store (v := (.int .i64 e2)) rfl rfl TyTCd.sz3 rfl f9 ?_)
    intro h8 j9
    replace H := H h8 j9
    refine hp_nil ?_
    refine bn (qn (xr ?_))
    refine lv rfl rfl (vm rfl) (lv rfl rfl (vr rfl rfl rfl) (lv rfl rfl (va rfl) ?_))
    refine ln (qn ?_)
    exact ⟨IntKind.i64.wrap (k - 1), ⟨⟨H.1, trivial⟩, H.2⟩, (hc rfl (hc rfl (hc rfl (hc rfl (hc rfl hn)))))⟩
   ·replace H := H.2 e5
    refine xe (qe (qe (bh (bn (qn (xr ?_))))))
    refine lv rfl rfl (vr rfl rfl rfl) (lv rfl rfl (vm rfl) ?_)
    refine ln (qn ?_)
    exact ⟨(ap, a4, c1, IntKind.i64.wrap (v + 1)), ⟨⟨H.1, trivial⟩, H.2⟩, (hc rfl (hc rfl (hc rfl (hc rfl hn))))⟩
 ·replace H := H.2 f0
  refine xe (qe (qe (bh (qn (xs (xr ?_))))))
  refine lv rfl rfl (vm rfl) (lv rfl rfl (va rfl) ?_)
  refine ln (qn (xt ?_))
  exact endQ_ret _ (res_one Tryd.results28 (rv_tmp rfl)) H
end Go.Proofs.YthjehlocmikchaaDoor
