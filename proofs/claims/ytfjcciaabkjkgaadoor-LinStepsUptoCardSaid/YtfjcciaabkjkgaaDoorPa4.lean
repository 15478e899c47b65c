import Derived.Laws.BytesString
import Derived.Test.YtfjcciaabkjkgaaDoorProg
import Derived.Test.YtfjcciaabkjkgaaDoorPa1
import Derived.Test.YtfjcciaabkjkgaaDoorPa3
namespace Go.Proofs.YtfjcciaabkjkgaaDoor
open Go
open Go.Proofs.YtfjcciaabkjkgaaDoor renaming hl_val → lv, hl_step → lp, hl_nil → ln, hl_yes → ly, hl_no → lo, hx_seq → xs, hx_region → xr, hx_cond → xc, hx_block → xb, hx_loopT → xl, hx_cut → xk, hx_has → xh, hx_skip → xi, hx_ret → xt, hx_exit → xe, seqQ_n → qn, seqQ_ret → qr, seqQ_exit → qe, blockQ_n → bn, blockQ_ret → br, blockQ_here → bh, hv_move → vm, hv_assign → va, hv_arith → vr, hv_load → vl, hv_loads → vL, hv_extract → vx, hv_field → vf, hv_index → vi, hp_pure → pp, hp_read → pr, hp_no → pn, has_cons → hc, has_nil → hn, hcells_cons → cc, hcells_nil → cn, rowcell → rc, hs_call → sc
set_option maxRecDepth 100000
set_option maxHeartbeats 4000000
theorem TyShE.agg30 : aggB Tryd.prog 30 = some true := by kernel_rfl
theorem TyShE.agg9 : aggB Tryd.prog 9 = some false := by kernel_rfl
theorem TyShE.cb19 : CallB Tryd.prog 19 := fun _ _ => Tryd.call19 _ _
theorem TyShE.cb20 : CallB Tryd.prog 20 := fun _ _ => Tryd.call20 _ _
theorem TyShE.cb21 : CallB Tryd.prog 21 := fun _ _ => Tryd.call21 _ _
theorem TyShE.cb22 : CallB Tryd.prog 22 := fun _ _ => Tryd.call22 _ _
theorem TyShE.cb23 : CallB Tryd.prog 23 := fun _ _ => Tryd.call23 _ _
theorem TyShE.cb43 : CallB Tryd.prog 43 := fun _ _ => Tryd.call43 _ _
theorem TyShE.cb44 : CallB Tryd.prog 44 := fun _ _ => Tryd.call44 _ _
theorem TyShE.el22 : elB Tryd.prog 22 = some 8 := by kernel_rfl
theorem TyShE.fld30_1 : fldB Tryd.prog 30 1 = some 1 := by kernel_rfl
theorem TyShE.mixed : Tryd.prog.follows .mixedOrders = true := by kernel_rfl
theorem TyShE.sz30 : szB Tryd.prog 30 = some 8 := by kernel_rfl
theorem TyShE.u22 : Tryd.prog.underlying 22 = some (.slice 30) := by kernel_rfl
theorem TyShE.u41 : Tryd.prog.underlying 41 = some (.map 9 43) := by kernel_rfl
theorem TyShE.u43 : Tryd.prog.underlying 43 = some (.slice 62) := by kernel_rfl
theorem TyShE.u9 : Tryd.prog.underlying 9 = some (.string) := by kernel_rfl
theorem TyShE.z30 : zeroB Tryd.prog 30 (.agg #[(.int .i64 0), (.string ByteArray.empty), (.string ByteArray.empty), (.int .i64 0), (.bool false), (.int .i64 0), (.int .i64 0), (.int .i64 0)]) := by unfold zeroB; kernel_rfl
theorem TyShE.z43 : zeroB Tryd.prog 43 (.slice none 0 0) := by unfold zeroB; kernel_rfl
theorem ext_pushed_f23_sh {h h1 : Heap} {o : Obj} (e : h1 = Array.push h o) : Ext h h1 := by rw [e]; exact Ext.push _ _
theorem f13_sh (l : Option Addr) (b1 : Nat) (c1 : Nat) (h : Heap) (R : Value → Heap → Prop)
  (H : (∀ mb h1, mb = Array.size h → Ext h h1 → Array.size h1 = Array.size h + 1 → MapL h1 mb Value.string [] → (∃ (I5 : Int → Heap → Prop) (d8 : Int → Heap → Nat), I5 0 h1 ∧ (∀ (v : Int) (h2 : Heap), I5 v h2 → (((decide (v < (b1 : Int))) = true → (∃ c5 : Heap → Prop, (∃ b5 b4 : Nat, l = some ⟨b5, b4, none⟩ ∧ (0 : Int) ≤ v ∧ v < (b1 : Int) ∧ (∃ a4 : Int, ∃ a0 a1 : ByteArray, ∃ a5 : Int, ∃ a6 : Bool, ∃ a3 a2 a8 : Int, hcell h2 b5 (b4 + (Int.toNat v) * 8) = some (.int .i64 a4) ∧ hcell h2 b5 ((b4 + (Int.toNat v) * 8) + 1) = some (.string a0) ∧ hcell h2 b5 ((b4 + (Int.toNat v) * 8) + 2) = some (.string a1) ∧ hcell h2 b5 ((b4 + (Int.toNat v) * 8) + 3) = some (.int .i64 a5) ∧ hcell h2 b5 ((b4 + (Int.toNat v) * 8) + 4) = some (.bool a6) ∧ hcell h2 b5 ((b4 + (Int.toNat v) * 8) + 5) = some (.int .i64 a3) ∧ hcell h2 b5 ((b4 + (Int.toNat v) * 8) + 6) = some (.int .i64 a2) ∧ hcell h2 b5 ((b4 + (Int.toNat v) * 8) + 7) = some (.int .i64 a8) ∧ (((!(Ml.keyed ⟨a4, a0, a1, a5, a6, a3, a2, a8⟩)) = true → (∀ (h6 : Heap), Ext h2 h6 → (c5 h6))) ∧ ((!(Ml.keyed ⟨a4, a0, a1, a5, a6, a3, a2, a8⟩)) = false → (∃ kv : List (ByteArray × Value), MapL h2 mb Value.string kv ∧ ∃ x : Option Addr, ∃ b8 b9 : Nat, (lk kv a0).getD (.slice none 0 0) = (.slice x b8 b9) ∧ (∃ c4 : Option Addr → Nat → Nat → Heap → Prop, (((!((lk kv a0).isSome)) = true → (∀ (m : Nat) (h6 : Heap), Array.size h2 ≤ m → m < Array.size h6 → Ext h2 h6 → HC Tryd.prog 20 #[] h6 (fun vv h8 => Kp [m] h6 h8 ∧ ∃ r : Option Addr, ∃ d6 d7 : Nat, vv = (.slice r d6 d7) ∧ (c4 r d6 d7 h8)))) ∧ ((!((lk kv a0).isSome)) = false → (∀ (h6 : Heap), Ext h2 h6 → (c4 x b8 b9 h6)))) ∧ (∀ (b7 : Option Addr) (b3 : Nat) (b2 : Nat) (h7 : Heap), c4 b7 b3 b2 h7 → ∀ (m : Nat), Array.size h2 ≤ m → m < Array.size h7 → HC Tryd.prog 21 #[(.slice b7 b3 b2), (.agg #[(.int .i64 a4), (.string a0), (.string a1), (.int .i64 a5), (.bool a6), (.int .i64 a3), (.int .i64 a2), (.int .i64 a8)])] h7 (fun vv h9 => Kp [m] h7 h9 ∧ ∃ c0 : Option Addr, ∃ a9 b6 : Nat, vv = (.slice c0 a9 b6) ∧ ((((a9 : Int) == 0) = true → R (.tuple #[(.bool false), (.int .i64 v)]) h9) ∧ (((a9 : Int) == 0) = false → (∃ c2 : List (ByteArray × Value), MapL h9 mb Value.string c2 ∧ ∀ c6, Only mb h9 c6 → MapL c6 mb Value.string (kput c2 a0 (.slice c0 a9 b6)) → (c5 c6)))))))))))) ∧ (∀ (h3 : Heap), c5 h3 → (I5 (IntKind.i64.wrap (v + 1)) h3 ∧ d8 (IntKind.i64.wrap (v + 1)) h3 < d8 v h2)))) ∧ ((decide (v < (b1 : Int))) = false → R (.tuple #[(.bool true), (.int .i64 0)]) h2)))))) :
  HC Tryd.prog 13 #[(.slice l b1 c1)] h R := by
 refine hc_of (args := [(.slice l b1 c1)]) Tryd.func13 rfl Tryd.ntmps13 (Nat.le_of_ble_eq_true rfl) ?_
 refine xs (xr ?_)
 refine lv rfl rfl (va rfl) (lv rfl rfl (va rfl) ?_)
 refine ln (qn (xs (xr ?_)))
 refine lp rfl rfl (hn_makeMap (enc := Value.string) ?_)
 intro mb h1 g8 i1 g9 g7
 replace H := H mb h1 g8 i1 g9 g7
 refine lv rfl rfl (va rfl) ?_
 refine ln (qn (xs (xs (xr ?_))))
 refine lv rfl rfl (vm rfl) (lv rfl rfl (v := (.int .i64 (b1 : Int))) (hv_len (n := b1) TyShE.u22 rfl) (lv rfl rfl (vm rfl) ?_))
 refine ln (qn (xb ?_))
 obtain ⟨I5, d8, i0, g5⟩ := H
 refine xl (σ := Int) (fun s => [(4, (.map (some mb))), (11, (.slice l b1 c1)), (12, (.int .i64 (b1 : Int))), (13, (.int .i64 s))]) (fun s h' => I5 s h' ∧ True) (fun s h' => d8 s h') 0 ⟨i0, trivial⟩ (hc rfl (hc rfl (hc rfl (hc rfl hn)))) ?_
 rintro v ρ h2 ⟨g6, -⟩
 have H := g5 v h2 g6
 refine xs (xr ?_)
 refine lv rfl rfl (vr rfl rfl rfl) ?_
 refine ln (qn (xs ?_))
 refine xc (b := decide (v < (b1 : Int))) rfl (fun d3 => ?_) (fun d3 => ?_)
 ·replace H := H.1 d3
  refine xi (qn ?_)
  obtain ⟨c5, c7, d5⟩ := H
  refine xk (fun ρ h' => (c5 h' ∧ True) ∧ Has ρ [(4, (.map (some mb))), (11, (.slice l b1 c1)), (12, (.int .i64 (b1 : Int))), (13, (.int .i64 v))]) ?_ ?_
  ·have H := c7; clear c7 d5
   refine xb (xs (xr ?_))
   refine lv rfl rfl (vm rfl) ?_
   obtain ⟨b5, b4, i2, e6, e7, Hq⟩ := H
   subst i2
   have H := Hq; clear Hq
   refine lv rfl rfl (v := (ptr b5 (b4 + (Int.toNat v) * 8))) (vi TyShE.el22 rfl rfl e6 e7) ?_
   obtain ⟨a4, a0, a1, a5, a6, a3, a2, a8, g1, f5, g0, e8, f3, f9, g2, f4, H⟩ := H
   refine lv rfl rfl (vL (vs := [(.int .i64 a4), (.string a0), (.string a1), (.int .i64 a5), (.bool a6), (.int .i64 a3), (.int .i64 a2), (.int .i64 a8)]) TyShE.agg30 TyShE.sz30 rfl (cc g1 (cc f5 (cc g0 (cc e8 (cc f3 (cc f9 (cc g2 (cc f4 cn))))))))) ?_
   refine lp rfl rfl (hn_alloc TyShE.z30 ?_)
   intro m h4 e0 e4
   have f2 := ext_pushed_f23_sh e4
   have d2 : Array.size h2 ≤ m := Nat.le_of_eq (Eq.symm e0)
   have e3 : h4[m]? = some (.cells #[(.int .i64 0), (.string ByteArray.empty), (.string ByteArray.empty), (.int .i64 0), (.bool false), (.int .i64 0), (.int .i64 0), (.int .i64 0)] 30 (0, 0)) := by rw [e4]; exact push_new e0
   refine lv rfl rfl (va rfl) ?_
   refine lp rfl rfl (hn_stores (vs := [(.int .i64 a4), (.string a0), (.string a1), (.int .i64 a5), (.bool a6), (.int .i64 a3), (.int .i64 a2), (.int .i64 a8)]) rfl rfl TyShE.sz30 rfl (HWs_row e3 (by simp)) ?_)
   intro h5 e5
   have a7 : h5[m]? = some (.cells #[(.int .i64 a4), (.string a0), (.string a1), (.int .i64 a5), (.bool a6), (.int .i64 a3), (.int .i64 a2), (.int .i64 a8)] 30 (0, 0)) := row_hsets_eq e5 e3 (by simp [sets])
   have f0 := ext_hsets e5 f2 d2
   refine ln (qn (xs (xs (xr ?_))))
   refine lv rfl rfl (vL (vs := [(.int .i64 a4), (.string a0), (.string a1), (.int .i64 a5), (.bool a6), (.int .i64 a3), (.int .i64 a2), (.int .i64 a8)]) TyShE.agg30 TyShE.sz30 rfl (cc (rc a7 rfl) (cc (rc a7 rfl) (cc (rc a7 rfl) (cc (rc a7 rfl) (cc (rc a7 rfl) (cc (rc a7 rfl) (cc (rc a7 rfl) (cc (rc a7 rfl) cn))))))))) ?_
   refine lp rfl rfl (sc TyShE.cb19 rfl (HC.mono (keyed_c (⟨a4, a0, a1, a5, a6, a3, a2, a8⟩) _) ?_))
   rintro _ h6 ⟨rfl, e1⟩
   replace a7 := Ext.row e1 a7
   have c3 := Ext.trans f0 e1
   refine lv rfl rfl (v := (.bool (!(Ml.keyed ⟨a4, a0, a1, a5, a6, a3, a2, a8⟩)))) (hv_not (b := Ml.keyed ⟨a4, a0, a1, a5, a6, a3, a2, a8⟩) rfl) ?_
   refine ln (qn ?_)
   refine xc (b := !(Ml.keyed ⟨a4, a0, a1, a5, a6, a3, a2, a8⟩)) rfl (fun d0 => ?_) (fun d0 => ?_)
   ·replace H := H.1 d0
    refine xe (qe (bh ?_))
    replace H := H h6 c3
    refine qn ?_
    exact ⟨⟨H, trivial⟩, (hc rfl (hc rfl (hc rfl (hc rfl hn))))⟩
   ·replace H := H.2 d0
    refine xi (qn (xs (xr ?_)))
    refine lv rfl rfl (vm rfl) (lv rfl rfl (v := (ptr m 1)) (vf TyShE.fld30_1 (b := m) (o := 0) rfl) (lv rfl rfl (vl TyShE.agg9 rfl (rc a7 rfl)) ?_))
    obtain ⟨kv, f1, x, b8, b9, g4, H⟩ := H
    refine lv rfl rfl (v := (.tuple #[(.slice x b8 b9), (.bool ((lk kv a0).isSome))])) (hv_look2 (l := kv) (a := a0) strK TyShE.u41 TyShE.u9 TyShE.z43 rfl rfl (MapL.ext c3 f1) g4) (lv rfl rfl (vm rfl) (lv rfl rfl (vx rfl rfl) (lv rfl rfl (vx rfl rfl) (lv rfl rfl (va rfl) (lv rfl rfl (va rfl) ?_)))))
    refine ln (qn ?_)
    obtain ⟨c4, d4, c9⟩ := H
    refine xk (fun ρ h' => ∃ b7 : Option Addr, ∃ b3 b2 : Nat, (c4 b7 b3 b2 h' ∧ h'[m]? = some (.cells #[(.int .i64 a4), (.string a0), (.string a1), (.int .i64 a5), (.bool a6), (.int .i64 a3), (.int .i64 a2), (.int .i64 a8)] 30 (0, 0)) ∧ True) ∧ Has ρ [(4, (.map (some mb))), (5, (.int .i64 v)), (6, (ptr m 0)), (7, (.slice b7 b3 b2)), (11, (.slice (some ⟨b5, b4, none⟩) b1 c1)), (12, (.int .i64 (b1 : Int))), (13, (.int .i64 v))]) ?_ ?_
    ·have H := d4; clear d4 c9
     refine xs (xr ?_)
     refine lv rfl rfl (vm rfl) (lv rfl rfl (v := (.bool (!((lk kv a0).isSome)))) (hv_not (b := (lk kv a0).isSome) rfl) ?_)
     refine ln (qn ?_)
     refine xc (b := !((lk kv a0).isSome)) rfl (fun c8 => ?_) (fun c8 => ?_)
     ·replace H := H.1 c8
      refine xr ?_
      replace H := H m h6 d2 (row_lt a7) c3
      refine lp rfl rfl (sc TyShE.cb20 rfl (HC.mono H ?_))
      rintro _ h8 ⟨f6, r, d6, d7, rfl, H⟩
      replace a7 := Kp.row f6 (by simp) a7
      refine lv rfl rfl (va rfl) ?_
      refine ln (qn ?_)
      exact ⟨_, _, _, ⟨H, a7, trivial⟩, (hc rfl (hc rfl (hc rfl (hc rfl (hc rfl (hc rfl (hc rfl hn)))))))⟩
     ·replace H := H.2 c8
      refine xi ?_
      replace H := H h6 c3
      refine qn ?_
      exact ⟨_, _, _, ⟨H, a7, trivial⟩, (hc rfl (hc rfl (hc rfl (hc rfl (hc rfl (hc rfl (hc rfl hn)))))))⟩
    ·rintro ρ h7 ⟨b7, b3, b2, ⟨e9, b0, -⟩, hH⟩
     have H := c9 b7 b3 b2 h7 e9; clear d4 c9
     refine xh _ hH ?_
     replace H := H m d2 (row_lt b0)
     refine xs (xr ?_)
     refine lv rfl rfl (vm rfl) (lv rfl rfl (vL (vs := [(.int .i64 a4), (.string a0), (.string a1), (.int .i64 a5), (.bool a6), (.int .i64 a3), (.int .i64 a2), (.int .i64 a8)]) TyShE.agg30 TyShE.sz30 rfl (cc (rc b0 rfl) (cc (rc b0 rfl) (cc (rc b0 rfl) (cc (rc b0 rfl) (cc (rc b0 rfl) (cc (rc b0 rfl) (cc (rc b0 rfl) (cc (rc b0 rfl) cn))))))))) ?_)
     refine lp rfl rfl (sc TyShE.cb21 rfl (HC.mono H ?_))
     rintro _ h9 ⟨f7, c0, a9, b6, rfl, H⟩
     replace b0 := Kp.row f7 (by simp) b0
     refine lv rfl rfl (va rfl) ?_
     refine ln (qn (xs (xs (xr ?_))))
     refine lv rfl rfl (vm rfl) (lv rfl rfl (v := (.int .i64 (a9 : Int))) (hv_len (n := a9) TyShE.u43 rfl) (lv rfl rfl (vr rfl rfl rfl) ?_))
     refine ln (qn ?_)
     refine xc (b := (a9 : Int) == 0) rfl (fun d1 => ?_) (fun d1 => ?_)
     ·replace H := H.1 d1
      refine xs (xr ?_)
      refine lv rfl rfl (vm rfl) (lv rfl rfl (va rfl) (lv rfl rfl (va rfl) ?_))
      refine ln (qn (xt (qr (br (qr (qr (br (qr ?_))))))))
      exact endQ_ret _ (res_two Tryd.results13 (rv_tmp rfl) (rv_tmp rfl)) H
     ·replace H := H.2 d1
      refine xi (qn (xr ?_))
      refine lv rfl rfl (vm rfl) (lv rfl rfl (v := (ptr m 1)) (vf TyShE.fld30_1 (b := m) (o := 0) rfl) (lv rfl rfl (vl TyShE.agg9 rfl (rc b0 rfl)) (lv rfl rfl (vm rfl) ?_)))
      obtain ⟨c2, d9, H⟩ := H
      refine lp rfl rfl (hn_mapPut (l := c2) (a := a0) strK TyShE.u41 TyShE.u9 rfl rfl rfl d9 ?_)
      intro c6 e2 g3
      replace H := H c6 e2 g3
      replace b0 := row_only e2 d9 b0
      refine ln (bn (qn ?_))
      exact ⟨⟨H, trivial⟩, (hc rfl (hc rfl (hc rfl (hc rfl hn))))⟩
  ·rintro ρ h3 ⟨⟨f8, -⟩, hH⟩
   have H := d5 h3 f8; clear c7 d5
   refine xh _ hH ?_
   refine xr ?_
   refine lv rfl rfl (vr rfl rfl rfl) (lv rfl rfl (vm rfl) ?_)
   refine ln (qn ?_)
   exact ⟨IntKind.i64.wrap (v + 1), ⟨⟨H.1, trivial⟩, H.2⟩, (hc rfl (hc rfl (hc rfl (hc rfl hn))))⟩
 ·replace H := H.2 d3
  refine xe (qe (qe (bh (qn (xs (xr ?_))))))
  refine lv rfl rfl (va rfl) (lv rfl rfl (va rfl) ?_)
  refine ln (qn (xt ?_))
  exact endQ_ret _ (res_two Tryd.results13 (rv_tmp rfl) (rv_tmp rfl)) H
theorem f15_sh (l : Option Addr) (b0 : Nat) (b1 : Nat) (h : Heap) (R : Value → Heap → Prop)
  (H : (∃ (I1 : Int → Heap → Prop) (b6 : Int → Heap → Nat), I1 0 h ∧ (∀ (i : Int) (h1 : Heap), I1 i h1 → (((decide (i < (b0 : Int))) = true → (∃ A9 : Bool → Heap → Prop, (∃ a6 a7 : Nat, l = some ⟨a6, a7, none⟩ ∧ (0 : Int) ≤ i ∧ i < (b0 : Int) ∧ (∃ a5 : Int, ∃ a2 a1 : ByteArray, ∃ a9 : Int, ∃ a8 : Bool, ∃ a3 a4 b2 : Int, hcell h1 a6 (a7 + (Int.toNat i) * 8) = some (.int .i64 a5) ∧ hcell h1 a6 ((a7 + (Int.toNat i) * 8) + 1) = some (.string a2) ∧ hcell h1 a6 ((a7 + (Int.toNat i) * 8) + 2) = some (.string a1) ∧ hcell h1 a6 ((a7 + (Int.toNat i) * 8) + 3) = some (.int .i64 a9) ∧ hcell h1 a6 ((a7 + (Int.toNat i) * 8) + 4) = some (.bool a8) ∧ hcell h1 a6 ((a7 + (Int.toNat i) * 8) + 5) = some (.int .i64 a3) ∧ hcell h1 a6 ((a7 + (Int.toNat i) * 8) + 6) = some (.int .i64 a4) ∧ hcell h1 a6 ((a7 + (Int.toNat i) * 8) + 7) = some (.int .i64 b2) ∧ (((Ml.keyed ⟨a5, a2, a1, a9, a8, a3, a4, b2⟩) = true → (0 ≤ ((0 : Int) : Int) ∧ (0 : Int) ≤ IntKind.i64.wrap (i + 1) ∧ IntKind.i64.wrap (i + 1) ≤ (b1 : Int) ∧ ∀ sl : Option Addr, sl = slA (some ⟨a6, a7, none⟩) (Int.toNat 0) 8 b1 → (∀ (h3 : Heap), Ext h1 h3 → HC Tryd.prog 23 #[(.slice sl (Int.toNat (IntKind.i64.wrap (i + 1)) - Int.toNat 0) (b1 - Int.toNat 0)), (.string a2)] h3 (fun vv h4 => ∃ r : Option Addr, ∃ b3 c3 : Nat, vv = (.slice r b3 c3) ∧ (A9 ((b3 : Int) == 0) h4))))) ∧ ((Ml.keyed ⟨a5, a2, a1, a9, a8, a3, a4, b2⟩) = false → (∀ (h3 : Heap), Ext h1 h3 → (A9 false h3)))))) ∧ (∀ (j : Bool) (h2 : Heap), A9 j h2 → ((j = true → R (.tuple #[(.bool false), (.int .i64 i)]) h2) ∧ (j = false → (I1 (IntKind.i64.wrap (i + 1)) h2 ∧ b6 (IntKind.i64.wrap (i + 1)) h2 < b6 i h1)))))) ∧ ((decide (i < (b0 : Int))) = false → R (.tuple #[(.bool true), (.int .i64 0)]) h1))))) :
  HC Tryd.prog 15 #[(.slice l b0 b1)] h R := by
 refine hc_of (args := [(.slice l b0 b1)]) Tryd.func15 rfl Tryd.ntmps15 (Nat.le_of_ble_eq_true rfl) ?_
 refine xs (xr ?_)
 refine lv rfl rfl (va rfl) (lv rfl rfl (va rfl) ?_)
 refine ln (qn (xs (xs (xr ?_))))
 refine lv rfl rfl (va rfl) ?_
 refine ln (qn (xb ?_))
 obtain ⟨I1, b6, d8, d7⟩ := H
 refine xl (σ := Int) (fun s => [(0, (.slice l b0 b1)), (4, (.int .i64 s))]) (fun s h' => I1 s h' ∧ True) (fun s h' => b6 s h') 0 ⟨d8, trivial⟩ (hc rfl (hc rfl hn)) ?_
 rintro i ρ h1 ⟨d6, -⟩
 have H := d7 i h1 d6
 refine xs (xs (xr ?_))
 refine lv rfl rfl (vm rfl) (lv rfl rfl (vm rfl) (lv rfl rfl (v := (.int .i64 (b0 : Int))) (hv_len (n := b0) TyShE.u22 rfl) (lv rfl rfl (vr rfl rfl rfl) ?_)))
 refine ln (qn ?_)
 refine xc (b := decide (i < (b0 : Int))) rfl (fun c1 => ?_) (fun c1 => ?_)
 ·replace H := H.1 c1
  refine xi (qn (xs (xb ?_)))
  obtain ⟨A9, b9, b7⟩ := H
  refine xk (fun ρ h' => ∃ j : Bool, (A9 j h' ∧ True) ∧ Has ρ [(0, (.slice l b0 b1)), (4, (.int .i64 i)), (29, (.bool j))]) ?_ ?_
  ·have H := b9; clear b9 b7
   refine hx_draw TyShE.mixed [.pure, .pure, .pure, .read, .ext, .pure, .pure, .pure, .pure, .pure, .pure, .pure, .pure, .pure, .read, .wild, .pure, .pure, .pure] [0, 1, 2, 3, 4, 5, 6, 7, 8, 9, 10, 11, 12, 13, 14, 15, 16, 17, 18] (by kernel_rfl) ?_
   refine pp (i := 0) rfl (wanted_0 rfl) rfl (.slice l b0 b1) (fun _ => vm rfl) ?_
   refine pp (i := 1) rfl (wanted_0 rfl) rfl (.int .i64 i) (fun _ => vm rfl) ?_
   obtain ⟨a6, a7, d5, c2, c0, Hq⟩ := H
   subst d5
   have H := Hq; clear Hq
   refine pp (i := 2) rfl (wanted_0 rfl) rfl (ptr a6 (a7 + (Int.toNat i) * 8)) (fun _ => vi TyShE.el22 rfl rfl c2 c0) ?_
   obtain ⟨a5, a2, a1, a9, a8, a3, a4, b2, d0, b8, d1, d4, d2, d3, c8, c6, H⟩ := H
   refine pr (i := 3) rfl (wanted_0 rfl) rfl (.agg #[(.int .i64 a5), (.string a2), (.string a1), (.int .i64 a9), (.bool a8), (.int .i64 a3), (.int .i64 a4), (.int .i64 b2)]) (fun _ he => vL (vs := [(.int .i64 a5), (.string a2), (.string a1), (.int .i64 a9), (.bool a8), (.int .i64 a3), (.int .i64 a4), (.int .i64 b2)]) TyShE.agg30 TyShE.sz30 rfl (cc (Ext.cell he d0) (cc (Ext.cell he b8) (cc (Ext.cell he d1) (cc (Ext.cell he d4) (cc (Ext.cell he d2) (cc (Ext.cell he d3) (cc (Ext.cell he c8) (cc (Ext.cell he c6) cn))))))))) ?_
   refine hp_ext (i := 4) rfl (wanted_0 rfl) rfl (sc TyShE.cb22 rfl (HC.mono (ofKey_c (⟨a5, a2, a1, a9, a8, a3, a4, b2⟩) _) ?_))
   rintro _ h3 ⟨rfl, b4⟩
   refine ⟨b4, ?_⟩
   refine pp (i := 5) rfl (wanted_0 rfl) rfl (.bool (Ml.keyed ⟨a5, a2, a1, a9, a8, a3, a4, b2⟩)) (fun _ => vm rfl) ?_
   rcases bool_or (Ml.keyed ⟨a5, a2, a1, a9, a8, a3, a4, b2⟩) with a0 | a0
   ·replace H := H.1 a0
    refine pp (i := 6) rfl (wanted_y rfl rfl rfl a0) rfl (.slice (some ⟨a6, a7, none⟩) b0 b1) (fun _ => vm rfl) ?_
    refine pp (i := 7) rfl (wanted_y rfl rfl rfl a0) rfl (.int .i64 i) (fun _ => vm rfl) ?_
    refine pp (i := 8) rfl (wanted_y rfl rfl rfl a0) rfl (.int .i64 (IntKind.i64.wrap (i + 1))) (fun _ => vr rfl rfl rfl) ?_
    obtain ⟨c7, c4, c5, H⟩ := H
    obtain ⟨sl, hq26⟩ : ∃ q, q = slA (some ⟨a6, a7, none⟩) (Int.toNat 0) 8 b1 := ⟨_, rfl⟩
    replace H := H sl hq26
    refine pp (i := 9) rfl (wanted_y rfl rfl rfl a0) rfl (.slice sl (Int.toNat (IntKind.i64.wrap (i + 1)) - Int.toNat 0) (b1 - Int.toNat 0)) (fun _ => hv_slice (l := 0) (r := IntKind.i64.wrap (i + 1)) TyShE.u22 TyShE.sz30 rfl sl_none (sh_some rfl) c7 c4 c5 hq26) ?_
    refine pp (i := 10) rfl (wanted_y rfl rfl rfl a0) rfl (.slice (some ⟨a6, a7, none⟩) b0 b1) (fun _ => vm rfl) ?_
    refine pp (i := 11) rfl (wanted_y rfl rfl rfl a0) rfl (.int .i64 i) (fun _ => vm rfl) ?_
    refine pp (i := 12) rfl (wanted_y rfl rfl rfl a0) rfl (ptr a6 (a7 + (Int.toNat i) * 8)) (fun _ => vi TyShE.el22 rfl rfl c2 c0) ?_
    refine pp (i := 13) rfl (wanted_y rfl rfl rfl a0) rfl (ptr a6 ((a7 + (Int.toNat i) * 8) + 1)) (fun _ => vf TyShE.fld30_1 (b := a6) (o := a7 + (Int.toNat i) * 8) rfl) ?_
    refine pr (i := 14) rfl (wanted_y rfl rfl rfl a0) rfl (.string a2) (fun _ he => vl TyShE.agg9 rfl (Ext.cell he (Ext.cell b4 b8))) ?_
    replace H := H h3 b4
    refine hp_wild (i := 15) rfl (wanted_y rfl rfl rfl a0) rfl (sc TyShE.cb23 rfl (HC.mono H ?_))
    rintro _ h4 ⟨r, b3, c3, rfl, H⟩
    refine pp (i := 16) rfl (wanted_y rfl rfl rfl a0) rfl (.int .i64 (b3 : Int)) (fun _ => hv_len (n := b3) TyShE.u43 rfl) ?_
    refine pp (i := 17) rfl (wanted_y rfl rfl rfl a0) rfl (.bool ((b3 : Int) == 0)) (fun _ => vr rfl rfl rfl) ?_
    refine pp (i := 18) rfl (wanted_0 rfl) rfl (.bool ((b3 : Int) == 0)) (fun _ => hv_pick_t rfl a0 rfl) ?_
    refine hp_nil ?_
    refine qn ?_
    exact ⟨_, ⟨H, trivial⟩, (hc rfl (hc rfl (hc rfl hn)))⟩
   ·replace H := H.2 a0
    refine pn (i := 6) rfl (wanted_n rfl rfl rfl a0) ?_
    refine pn (i := 7) rfl (wanted_n rfl rfl rfl a0) ?_
    refine pn (i := 8) rfl (wanted_n rfl rfl rfl a0) ?_
    refine pn (i := 9) rfl (wanted_n rfl rfl rfl a0) ?_
    refine pn (i := 10) rfl (wanted_n rfl rfl rfl a0) ?_
    refine pn (i := 11) rfl (wanted_n rfl rfl rfl a0) ?_
    refine pn (i := 12) rfl (wanted_n rfl rfl rfl a0) ?_
    refine pn (i := 13) rfl (wanted_n rfl rfl rfl a0) ?_
    refine pn (i := 14) rfl (wanted_n rfl rfl rfl a0) ?_
    refine pn (i := 15) rfl (wanted_n rfl rfl rfl a0) ?_
    refine pn (i := 16) rfl (wanted_n rfl rfl rfl a0) ?_
    refine pn (i := 17) rfl (wanted_n rfl rfl rfl a0) ?_
    refine pp (i := 18) rfl (wanted_0 rfl) rfl (.bool false) (fun _ => hv_pick_f rfl a0 rfl) ?_
    refine hp_nil ?_
    replace H := H h3 b4
    refine qn ?_
    exact ⟨_, ⟨H, trivial⟩, (hc rfl (hc rfl (hc rfl hn)))⟩
  ·rintro ρ h2 ⟨j, ⟨c9, -⟩, hH⟩
   have H := b7 j h2 c9; clear b9 b7
   refine xh _ hH ?_
   refine xc (b := j) rfl (fun b5 => ?_) (fun b5 => ?_)
   ·replace H := H.1 b5
    refine xs (xr ?_)
    refine lv rfl rfl (vm rfl) (lv rfl rfl (va rfl) (lv rfl rfl (va rfl) ?_))
    refine ln (qn (xt (br (qr (qr (br (qr ?_)))))))
    exact endQ_ret _ (res_two Tryd.results15 (rv_tmp rfl) (rv_tmp rfl)) H
   ·replace H := H.2 b5
    refine xi (bn (qn (xr ?_)))
    refine lv rfl rfl (vm rfl) (lv rfl rfl (vr rfl rfl rfl) (lv rfl rfl (va rfl) ?_))
    refine ln (qn ?_)
    exact ⟨IntKind.i64.wrap (i + 1), ⟨⟨H.1, trivial⟩, H.2⟩, (hc rfl (hc rfl hn))⟩
 ·replace H := H.2 c1
  refine xe (qe (qe (bh (qn (xs (xr ?_))))))
  refine lv rfl rfl (va rfl) (lv rfl rfl (va rfl) ?_)
  refine ln (qn (xt ?_))
  exact endQ_ret _ (res_two Tryd.results15 (rv_tmp rfl) (rv_tmp rfl)) H
theorem f23_sh (l : Option Addr) (c0 : Nat) (d0 : Nat) (c9 : ByteArray) (h : Heap) (R : Value → Heap → Prop)
  (H : HC Tryd.prog 43 #[] h (fun vv h1 => ∃ r : Option Addr, ∃ d3 d4 : Nat, vv = (.slice r d3 d4) ∧ (∃ (I1 : Option Addr → Nat → Nat → Int → Heap → Prop) (d9 : Option Addr → Nat → Nat → Int → Heap → Nat), I1 r d3 d4 0 h1 ∧ (∀ (b1 : Option Addr) (a0 : Nat) (a1 : Nat) (i : Int) (h2 : Heap), I1 b1 a0 a1 i h2 → (((decide (i < (c0 : Int))) = true → (∃ A9 : Option Addr → Nat → Nat → Heap → Prop, (∃ j : Bool, (∃ c5 c4 : Nat, l = some ⟨c5, c4, none⟩ ∧ (0 : Int) ≤ i ∧ i < (c0 : Int) ∧ (∃ b0 : Int, ∃ a6 a5 : ByteArray, ∃ b8 : Int, ∃ b9 : Bool, ∃ a9 a8 c6 : Int, hcell h2 c5 (c4 + (Int.toNat i) * 8) = some (.int .i64 b0) ∧ hcell h2 c5 ((c4 + (Int.toNat i) * 8) + 1) = some (.string a6) ∧ hcell h2 c5 ((c4 + (Int.toNat i) * 8) + 2) = some (.string a5) ∧ hcell h2 c5 ((c4 + (Int.toNat i) * 8) + 3) = some (.int .i64 b8) ∧ hcell h2 c5 ((c4 + (Int.toNat i) * 8) + 4) = some (.bool b9) ∧ hcell h2 c5 ((c4 + (Int.toNat i) * 8) + 5) = some (.int .i64 a9) ∧ hcell h2 c5 ((c4 + (Int.toNat i) * 8) + 6) = some (.int .i64 a8) ∧ hcell h2 c5 ((c4 + (Int.toNat i) * 8) + 7) = some (.int .i64 c6) ∧ (((Ml.keyed ⟨b0, a6, a5, b8, b9, a9, a8, c6⟩) = true → (j = (decide (a6 = c9)))) ∧ ((Ml.keyed ⟨b0, a6, a5, b8, b9, a9, a8, c6⟩) = false → (j = false))))) ∧ ((j = true → (∃ b3 b4 : Nat, l = some ⟨b3, b4, none⟩ ∧ (0 : Int) ≤ i ∧ i < (c0 : Int) ∧ (∃ b5 : Int, ∃ c2 b2 : ByteArray, ∃ c3 : Int, ∃ c1 : Bool, ∃ b6 b7 c8 : Int, hcell h2 b3 (b4 + (Int.toNat i) * 8) = some (.int .i64 b5) ∧ hcell h2 b3 ((b4 + (Int.toNat i) * 8) + 1) = some (.string c2) ∧ hcell h2 b3 ((b4 + (Int.toNat i) * 8) + 2) = some (.string b2) ∧ hcell h2 b3 ((b4 + (Int.toNat i) * 8) + 3) = some (.int .i64 c3) ∧ hcell h2 b3 ((b4 + (Int.toNat i) * 8) + 4) = some (.bool c1) ∧ hcell h2 b3 ((b4 + (Int.toNat i) * 8) + 5) = some (.int .i64 b6) ∧ hcell h2 b3 ((b4 + (Int.toNat i) * 8) + 6) = some (.int .i64 b7) ∧ hcell h2 b3 ((b4 + (Int.toNat i) * 8) + 7) = some (.int .i64 c8) ∧ (∀ (h4 : Heap), Ext h2 h4 → HC Tryd.prog 44 #[(.slice b1 a0 a1), (.agg #[(.int .i64 b5), (.string c2), (.string b2), (.int .i64 c3), (.bool c1), (.int .i64 b6), (.int .i64 b7), (.int .i64 c8)])] h4 (fun vv h6 => ∃ e0 : Option Addr, ∃ d2 d1 : Nat, vv = (.slice e0 d2 d1) ∧ (A9 e0 d2 d1 h6)))))) ∧ (j = false → (∀ (h4 : Heap), Ext h2 h4 → (A9 b1 a0 a1 h4))))) ∧ (∀ (a7 : Option Addr) (a3 : Nat) (a2 : Nat) (h3 : Heap), A9 a7 a3 a2 h3 → (I1 a7 a3 a2 (IntKind.i64.wrap (i + 1)) h3 ∧ d9 a7 a3 a2 (IntKind.i64.wrap (i + 1)) h3 < d9 b1 a0 a1 i h2)))) ∧ ((decide (i < (c0 : Int))) = false → R (.slice b1 a0 a1) h2)))))) :
  HC Tryd.prog 23 #[(.slice l c0 d0), (.string c9)] h R := by
 refine hc_of (args := [(.slice l c0 d0), (.string c9)]) Tryd.func23 rfl Tryd.ntmps23 (Nat.le_of_ble_eq_true rfl) ?_
 refine xs (xr ?_)
 refine lv rfl rfl (va rfl) ?_
 refine ln (qn (xs (xr ?_)))
 refine lp rfl rfl (sc TyShE.cb43 rfl (HC.mono H ?_))
 rintro _ h1 ⟨r, d3, d4, rfl, H⟩
 refine lv rfl rfl (va rfl) ?_
 refine ln (qn (xs (xs (xr ?_))))
 refine lv rfl rfl (va rfl) ?_
 refine ln (qn (xb ?_))
 obtain ⟨I1, d9, g8, g7⟩ := H
 refine xl (σ := Option Addr × Nat × Nat × Int) (fun s => [(0, (.slice l c0 d0)), (1, (.string c9)), (5, (.slice s.1 s.2.1 s.2.2.1)), (6, (.int .i64 s.2.2.2))]) (fun s h' => I1 s.1 s.2.1 s.2.2.1 s.2.2.2 h' ∧ True) (fun s h' => d9 s.1 s.2.1 s.2.2.1 s.2.2.2 h') (r, d3, d4, 0) ⟨g8, trivial⟩ (hc rfl (hc rfl (hc rfl (hc rfl hn)))) ?_
 rintro ⟨b1, a0, a1, i⟩ ρ h2 ⟨g6, -⟩
 have H := g7 b1 a0 a1 i h2 g6
 refine xs (xs (xr ?_))
 refine lv rfl rfl (vm rfl) (lv rfl rfl (vm rfl) (lv rfl rfl (v := (.int .i64 (c0 : Int))) (hv_len (n := c0) TyShE.u22 rfl) (lv rfl rfl (vr rfl rfl rfl) ?_)))
 refine ln (qn ?_)
 refine xc (b := decide (i < (c0 : Int))) rfl (fun e7 => ?_) (fun e7 => ?_)
 ·replace H := H.1 e7
  refine xi (qn ?_)
  obtain ⟨A9, e6, e4⟩ := H
  refine xk (fun ρ h' => ∃ a7 : Option Addr, ∃ a3 a2 : Nat, (A9 a7 a3 a2 h' ∧ True) ∧ Has ρ [(0, (.slice l c0 d0)), (1, (.string c9)), (5, (.slice a7 a3 a2)), (6, (.int .i64 i))]) ?_ ?_
  ·have H := e6; clear e6 e4
   refine xb ?_
   obtain ⟨j, d5, d8⟩ := H
   refine xk (fun ρ h' => (Ext h2 h' ∧ True) ∧ Has ρ [(0, (.slice l c0 d0)), (1, (.string c9)), (5, (.slice b1 a0 a1)), (6, (.int .i64 i)), (27, (.bool j))]) ?_ ?_
   ·have H := d5; clear d5 d8
    refine xr ?_
    refine lv rfl rfl (vm rfl) (lv rfl rfl (vm rfl) ?_)
    obtain ⟨c5, c4, e3, e2, e1, Hq⟩ := H
    subst e3
    have H := Hq; clear Hq
    refine lv rfl rfl (v := (ptr c5 (c4 + (Int.toNat i) * 8))) (vi TyShE.el22 rfl rfl e2 e1) ?_
    obtain ⟨b0, a6, a5, b8, b9, a9, a8, c6, g4, e5, f5, g0, e8, f3, f9, g2, H⟩ := H
    refine lv rfl rfl (vL (vs := [(.int .i64 b0), (.string a6), (.string a5), (.int .i64 b8), (.bool b9), (.int .i64 a9), (.int .i64 a8), (.int .i64 c6)]) TyShE.agg30 TyShE.sz30 rfl (cc g4 (cc e5 (cc f5 (cc g0 (cc e8 (cc f3 (cc f9 (cc g2 cn))))))))) ?_
    refine lp rfl rfl (sc TyShE.cb22 rfl (HC.mono (ofKey_c (⟨b0, a6, a5, b8, b9, a9, a8, c6⟩) _) ?_))
    rintro _ h5 ⟨rfl, d6⟩
    refine lv rfl rfl (vm rfl) ?_
    rcases bool_or (Ml.keyed ⟨b0, a6, a5, b8, b9, a9, a8, c6⟩) with a4 | a4
    ·replace H := H.1 a4
     refine ly (wanted_y rfl rfl rfl a4) rfl (HStep.of_val (v := (.slice (some ⟨c5, c4, none⟩) c0 d0)) (vm rfl) ?_)
     refine ly (wanted_y rfl rfl rfl a4) rfl (HStep.of_val (v := (.int .i64 i)) (vm rfl) ?_)
     refine ly (wanted_y rfl rfl rfl a4) rfl (HStep.of_val (v := (ptr c5 (c4 + (Int.toNat i) * 8))) (vi TyShE.el22 rfl rfl e2 e1) ?_)
     refine ly (wanted_y rfl rfl rfl a4) rfl (HStep.of_val (v := (ptr c5 ((c4 + (Int.toNat i) * 8) + 1))) (vf TyShE.fld30_1 (b := c5) (o := c4 + (Int.toNat i) * 8) rfl) ?_)
     refine ly (wanted_y rfl rfl rfl a4) rfl (HStep.of_val (v := (.string a6)) (vl TyShE.agg9 rfl (Ext.cell d6 e5)) ?_)
     refine ly (wanted_y rfl rfl rfl a4) rfl (HStep.of_val (v := (.string c9)) (vm rfl) ?_)
     refine ly (wanted_y rfl rfl rfl a4) rfl (HStep.of_val (v := (.bool (decide (a6 = c9)))) (hv_str rfl rfl rfl) ?_)
     refine lv rfl rfl (v := (.bool (decide (a6 = c9)))) (hv_pick_t rfl a4 rfl) ?_
     refine ln (qn ?_)
     obtain rfl := H
     exact ⟨⟨d6, trivial⟩, (hc rfl (hc rfl (hc rfl (hc rfl (hc rfl hn)))))⟩
    ·replace H := H.2 a4
     refine lo (wanted_n rfl rfl rfl a4) rfl ?_
     refine lo (wanted_n rfl rfl rfl a4) rfl ?_
     refine lo (wanted_n rfl rfl rfl a4) rfl ?_
     refine lo (wanted_n rfl rfl rfl a4) rfl ?_
     refine lo (wanted_n rfl rfl rfl a4) rfl ?_
     refine lo (wanted_n rfl rfl rfl a4) rfl ?_
     refine lo (wanted_n rfl rfl rfl a4) rfl ?_
     refine lv rfl rfl (v := (.bool false)) (hv_pick_f rfl a4 rfl) ?_
     refine ln (qn ?_)
     obtain rfl := H
     exact ⟨⟨d6, trivial⟩, (hc rfl (hc rfl (hc rfl (hc rfl (hc rfl hn)))))⟩
   ·have H := d8; clear d5 d8
    rintro ρ h4 ⟨⟨c7, -⟩, hH⟩
    refine xh _ hH ?_
    refine xc (b := j) rfl (fun d7 => ?_) (fun d7 => ?_)
    ·replace H := H.1 d7
     refine xr ?_
     refine lv rfl rfl (vm rfl) (lv rfl rfl (vm rfl) (lv rfl rfl (vm rfl) ?_))
     obtain ⟨b3, b4, e3, f8, f7, Hq⟩ := H
     subst e3
     have H := Hq; clear Hq
     refine lv rfl rfl (v := (ptr b3 (b4 + (Int.toNat i) * 8))) (vi TyShE.el22 rfl rfl f8 f7) ?_
     obtain ⟨b5, c2, b2, c3, c1, b6, b7, c8, g3, f4, g1, e9, f6, g5, f0, f1, H⟩ := H
     refine lv rfl rfl (vL (vs := [(.int .i64 b5), (.string c2), (.string b2), (.int .i64 c3), (.bool c1), (.int .i64 b6), (.int .i64 b7), (.int .i64 c8)]) TyShE.agg30 TyShE.sz30 rfl (cc (Ext.cell c7 g3) (cc (Ext.cell c7 f4) (cc (Ext.cell c7 g1) (cc (Ext.cell c7 e9) (cc (Ext.cell c7 f6) (cc (Ext.cell c7 g5) (cc (Ext.cell c7 f0) (cc (Ext.cell c7 f1) cn))))))))) ?_
     replace H := H h4 c7
     refine lp rfl rfl (sc TyShE.cb44 rfl (HC.mono H ?_))
     rintro _ h6 ⟨e0, d2, d1, rfl, H⟩
     refine lv rfl rfl (va rfl) ?_
     refine ln (bn (qn ?_))
     exact ⟨_, _, _, ⟨H, trivial⟩, (hc rfl (hc rfl (hc rfl (hc rfl hn))))⟩
    ·replace H := H.2 d7
     refine xi (bn ?_)
     replace H := H h4 c7
     refine qn ?_
     exact ⟨_, _, _, ⟨H, trivial⟩, (hc rfl (hc rfl (hc rfl (hc rfl hn))))⟩
  ·rintro ρ h3 ⟨a7, a3, a2, ⟨f2, -⟩, hH⟩
   have H := e4 a7 a3 a2 h3 f2; clear e6 e4
   refine xh _ hH ?_
   refine xr ?_
   refine lv rfl rfl (vm rfl) (lv rfl rfl (vr rfl rfl rfl) (lv rfl rfl (va rfl) ?_))
   refine ln (qn ?_)
   exact ⟨(a7, a3, a2, IntKind.i64.wrap (i + 1)), ⟨⟨H.1, trivial⟩, H.2⟩, (hc rfl (hc rfl (hc rfl (hc rfl hn))))⟩
 ·replace H := H.2 e7
  refine xe (qe (qe (bh (qn (xs (xr ?_))))))
  refine lv rfl rfl (vm rfl) (lv rfl rfl (va rfl) ?_)
  refine ln (qn (xt ?_))
  exact endQ_ret _ (res_one Tryd.results23 (rv_tmp rfl)) H
end Go.Proofs.YtfjcciaabkjkgaaDoor
namespace Go.Proofs.YtfjcciaabkjkgaaDoor
open Go Ml
theorem dec_key (x y : Str) (b : Bool) : (b && decide (x = y)) = true ↔ b = true ∧ x = y := by simp
theorem take_snoc {β : Type} (L : List β) (j : Nat) (h : j < L.length) : L.take (j + 1) = L.take j ++ [L[j]] := by
  rw [List.take_add_one, List.getElem?_eq_getElem h]; rfl
theorem bad_at (L : List Mv) (j : Nat) (h : j < L.length) : bad L j = (keyed L[j] && (ends (L.take (j + 1)) L[j].key).isEmpty) := by
  unfold bad; rw [List.getElem?_eq_getElem h]
theorem bad_over (L : List Mv) (j : Nat) (h : L.length ≤ j) : bad L j = false := by
  unfold bad; rw [List.getElem?_eq_none h]
theorem ends_bound (L : List Mv) (j : Nat) (key : Str) (hl : L.length ≤ 16777216) : (ends (L.take j) key).length ≤ 33554433 := by
  have h1 := ends_len (L.take j) key
  have h2 : (L.take j).length ≤ L.length := by simp; omega
  omega
theorem rends_c {h : Heap} {a : Option Addr} {c : Nat} {L : List Mv} (s : Sl eMv h a c L) (hl : L.length ≤ 16777216) (key : Str) :
    HC Tryd.prog 23 #[.slice a L.length c, .string key] h fun v h' => Ext h h' ∧ Rd eMt h' v (ends L key) := by
  refine f23_sh _ _ _ _ _ _ ((rstart_c h).mono ?_)
  rintro _ h1 ⟨a1, c1, rfl, x1, s1, _⟩
  refine ⟨a1, _, c1, rfl, fun a' n' c' v h2 => ∃ j : Nat, v = j ∧ j ≤ L.length ∧ n' = (ends (L.take j) key).length ∧ Ext h h2 ∧ Sl eMt h2 a' c' (ends (L.take j) key), fun _ _ _ v _ => L.length - v.toNat, ⟨0, rfl, Nat.zero_le _, rfl, x1, s1⟩, ?_⟩
  rintro out _ c' _ h2 ⟨j, rfl, hj, rfl, x2, s2⟩
  refine ⟨fun hlt => ?_, fun hge => ?_⟩
  · have hjl := lt_of_dec hlt
    have eS := take_snoc L j hjl
    obtain ⟨b, o, e0, hc⟩ := (s.ext x2).at (List.getElem?_eq_getElem hjl)
    refine ⟨fun a' n' c' h3 => n' = (ends (L.take (j + 1)) key).length ∧ Ext h h3 ∧ Sl eMt h3 a' c' (ends (L.take (j + 1)) key),
      ⟨keyed L[j] && decide (L[j].key = key), ⟨b, o, e0, by omega, by omega, L[j].kind, L[j].key, L[j].val, L[j].err, L[j].hit, L[j].life, L[j].fr, L[j].to, hc.1, hc.2.1, hc.2.2.1, hc.2.2.2.1, hc.2.2.2.2.1, hc.2.2.2.2.2.1, hc.2.2.2.2.2.2.1, hc.2.2.2.2.2.2.2.1, fun e => ?_, fun e => ?_⟩, fun e => ?_, fun e h6 x6 => ?_⟩, ?_⟩
    · have : keyed L[j] = true := e
      rw [this]; rfl
    · have : keyed L[j] = false := e
      rw [this]; rfl
    · have e' : keyed L[j] = true ∧ L[j].key = key := (dec_key _ _ _).1 e
      refine ⟨b, o, e0, by omega, by omega, L[j].kind, L[j].key, L[j].val, L[j].err, L[j].hit, L[j].life, L[j].fr, L[j].to, hc.1, hc.2.1, hc.2.2.1, hc.2.2.2.1, hc.2.2.2.2.1, hc.2.2.2.2.2.1, hc.2.2.2.2.2.2.1, hc.2.2.2.2.2.2.2.1, fun h6 x6 => ?_⟩
      refine (rnext_c (s2.ext x6) (by have := ends_bound L j key hl; omega) (ends_nm _ _) L[j]).mono ?_
      rintro _ h8 ⟨x8, a8, c8, rfl, s8⟩
      refine ⟨a8, _, c8, rfl, ?_, x2.trans (x6.trans x8), ?_⟩
      · rw [eS, ends_snoc, if_pos e']
      · rw [eS, ends_snoc, if_pos e']; exact s8
    · have e' : ¬ (keyed L[j] = true ∧ L[j].key = key) := fun h => by
        rw [(dec_key _ _ _).2 h] at e; cases e
      rw [eS, ends_snoc, if_neg e']
      exact ⟨rfl, x2.trans x6, s2.ext x6⟩
    · rintro a3 _ c3 h3 ⟨rfl, x3, s3⟩
      rw [wadd j (by omega)]
      exact ⟨⟨j + 1, rfl, hjl, rfl, x3, s3⟩, by simp only [Int.toNat_natCast]; omega⟩
  · have hjl : j = L.length := by have := ge_of_dec hge; omega
    subst hjl
    rw [List.take_length] at *
    exact ⟨x2, out, c', rfl, s2⟩
def Knows (h : Heap) (kv : List (ByteArray × Value)) (L : List Mv) : Prop :=
  ∀ key, (lk kv key = none → ends L key = Ml.start) ∧ ∀ v, lk kv key = some v → Rd eMt h v (ends L key)
theorem accepts_c {h : Heap} {a : Option Addr} {c : Nat} {L : List Mv} (s : Sl eMv h a c L) (hl : L.length ≤ 16777216) :
    HC Tryd.prog 13 #[.slice a L.length c] h fun v h' => Ext h h' ∧ ∃ ok n, v = .tuple #[.bool ok, .int .i64 n] ∧ AccR L ok n := by
  refine f13_sh _ _ _ _ _ fun mb h1 eb x1 _ m1 => ?_
  refine ⟨fun v h2 => ∃ (j : Nat) (kv : List (ByteArray × Value)), v = j ∧ j ≤ L.length ∧ Ext h h2 ∧ MapL h2 mb Value.string kv ∧ Knows h2 kv (L.take j) ∧ ∀ i, i < j → bad L i = false, fun v _ => L.length - v.toNat,
    ⟨0, [], rfl, Nat.zero_le _, x1, m1, fun key => ⟨fun _ => rfl, fun v hv => by cases hv⟩, fun i hi => by omega⟩, ?_⟩
  rintro _ h2 ⟨j, kv, rfl, hj, x2, m2, kn, hb⟩
  have hmb : h.size ≤ mb := by omega
  refine ⟨fun hlt => ?_, fun hge => ?_⟩
  · have hjl := lt_of_dec hlt
    have eS := take_snoc L j hjl
    obtain ⟨b, o, e0, hc⟩ := (s.ext x2).at (List.getElem?_eq_getElem hjl)
    refine ⟨fun h3 => ∃ kv, Ext h h3 ∧ MapL h3 mb Value.string kv ∧ Knows h3 kv (L.take (j + 1)) ∧ bad L j = false, ⟨b, o, e0, by omega, by omega, L[j].kind, L[j].key, L[j].val, L[j].err, L[j].hit, L[j].life, L[j].fr, L[j].to, hc.1, hc.2.1, hc.2.2.1, hc.2.2.2.1, hc.2.2.2.2.1, hc.2.2.2.2.2.1, hc.2.2.2.2.2.2.1, hc.2.2.2.2.2.2.2.1, fun e h6 x6 => ?_, fun e => ?_⟩, ?_⟩
    · have e' : keyed L[j] = false := by
        have : (!keyed L[j]) = true := e
        simpa using this
      refine ⟨kv, x2.trans x6, m2.ext x6, fun key => ?_, by rw [bad_at L j hjl, e']; rfl⟩
      rw [eS, ends_snoc, if_neg (fun h => by rw [e'] at h; cases h.1)]
      exact ⟨(kn key).1, fun v hv => let ⟨a, c, e, s⟩ := (kn key).2 v hv; ⟨a, c, e, s.ext x6⟩⟩
    · have e' : keyed L[j] = true := by
        have : (!keyed L[j]) = false := e
        simpa using this
      have eE : ends (L.take (j + 1)) L[j].key = next (ends (L.take j) L[j].key) L[j] := by rw [eS, ends_snoc, if_pos ⟨e', rfl⟩]
      have hbd := ends_bound L j L[j].key hl
      -- what it was
      have was : ∃ a7 n7 c7, (lk kv L[j].key).getD (.slice none 0 0) = .slice a7 n7 c7 ∧ (lk kv L[j].key ≠ none → n7 = (ends (L.take j) L[j].key).length ∧ Sl eMt h2 a7 c7 (ends (L.take j) L[j].key)) := by
        cases hk : lk kv L[j].key with
        | none => exact ⟨none, 0, 0, rfl, fun h => absurd rfl h⟩
        | some v =>
          obtain ⟨a7, c7, e7, s7⟩ := (kn L[j].key).2 v hk
          exact ⟨a7, _, c7, e7, fun _ => ⟨rfl, s7⟩⟩
      obtain ⟨a7, n7, c7, ew, hw⟩ := was
      refine ⟨kv, m2, a7, n7, c7, ew, fun a' n' c' h7 => n' = (ends (L.take j) L[j].key).length ∧ Ext h2 h7 ∧ Sl eMt h7 a' c' (ends (L.take j) L[j].key), ⟨fun hk m_b h6 _ _ x6 => ?_, fun hk h6 x6 => ?_⟩, ?_⟩
      · have hk' : lk kv L[j].key = none := by
          cases hq : lk kv L[j].key with
          | none => rfl
          | some v =>
            have : (!(lk kv L[j].key).isSome) = true := hk
            rw [hq] at this; cases this
        rw [(kn L[j].key).1 hk']
        refine (start_c h6).mono ?_
        rintro _ h8 ⟨a8, c8, rfl, x8, s8, _⟩
        exact ⟨x8.kp _, a8, _, c8, rfl, rfl, x6.trans x8, s8⟩
      · have hk' : lk kv L[j].key ≠ none := fun hq => by
          have : (!(lk kv L[j].key).isSome) = false := hk
          rw [hq] at this; cases this
        obtain ⟨e1, e2⟩ := hw hk'
        exact ⟨e1, x6, e2.ext x6⟩
      · rintro a8 _ c8 h7 ⟨rfl, x7, s7⟩ m_b lo lt
        refine (next_c s7 (by omega) L[j]).mono ?_
        rintro _ h9 ⟨a9, c9, rfl, x9, s9, _⟩
        refine ⟨x9.kp _, a9, _, c9, rfl, fun e0 => ?_, fun e0 => ?_⟩
        · refine ⟨x2.trans (x7.trans x9), false, j, rfl, .inr ⟨rfl, j, rfl, hjl, ?_, hb⟩⟩
          rw [bad_at L j hjl, e', eE]
          have : (next (ends (L.take j) L[j].key) L[j]).length = 0 := by simp at e0; simp [e0]
          rw [List.length_eq_zero_iff.1 this]; rfl
        · have m9 := m2.ext (x7.trans x9)
          refine ⟨kv, m9, fun h10 o10 m10 => ⟨_, ext_only (x2.trans (x7.trans x9)) o10 hmb, m10, fun key => ?_, ?_⟩⟩
          · rw [lk_kput]
            by_cases hk : key = L[j].key
            · subst hk
              rw [if_pos rfl, eE]
              exact ⟨fun h => (by cases h), fun v hv => (by cases hv; exact ⟨a9, c9, rfl, s9.only o10 m9⟩)⟩
            · rw [if_neg hk, eS, ends_snoc, if_neg (fun h => hk h.2.symm)]
              exact ⟨(kn key).1, fun v hv => let ⟨a, c, e, s⟩ := (kn key).2 v hv; ⟨a, c, e, (s.ext (x7.trans x9)).only o10 m9⟩⟩
          · rw [bad_at L j hjl, e', eE]
            cases hq : next (ends (L.take j) L[j].key) L[j] with
            | nil => rw [hq] at e0; simp at e0
            | cons y ys => rfl
    · rintro h3 ⟨kv3, x3, m3, kn3, hb3⟩
      rw [wadd j (by omega)]
      refine ⟨⟨j + 1, kv3, rfl, hjl, x3, m3, kn3, fun i hi => ?_⟩, by simp only [Int.toNat_natCast]; omega⟩
      by_cases hij : i = j
      · subst hij; exact hb3
      · exact hb i (by omega)
  · have hjl := ge_of_dec hge
    refine ⟨x2, true, 0, rfl, .inl ⟨rfl, rfl, fun i => ?_⟩⟩
    by_cases hi : i < j
    · exact hb i hi
    · exact bad_over L i (by omega)
theorem raccepts_c {h : Heap} {a : Option Addr} {c : Nat} {L : List Mv} (s : Sl eMv h a c L) (hl : L.length ≤ 16777216) :
    HC Tryd.prog 15 #[.slice a L.length c] h fun v h' => Ext h h' ∧ ∃ ok n, v = .tuple #[.bool ok, .int .i64 n] ∧ AccR L ok n := by
  have hle := s.le
  refine f15_sh _ _ _ _ _ ⟨fun v h2 => ∃ j : Nat, v = j ∧ j ≤ L.length ∧ Ext h h2 ∧ ∀ i, i < j → bad L i = false, fun v _ => L.length - v.toNat, ⟨0, rfl, Nat.zero_le _, Ext.refl _, fun i hi => by omega⟩, ?_⟩
  rintro _ h1 ⟨j, rfl, hj, x1, hb⟩
  refine ⟨fun hlt => ?_, fun hge => ?_⟩
  · have hjl := lt_of_dec hlt
    rw [wadd j (by omega)]
    obtain ⟨b, o, e0, hc⟩ := (s.ext x1).at (List.getElem?_eq_getElem hjl)
    refine ⟨fun q h2 => q = bad L j ∧ Ext h h2, ⟨b, o, e0, by omega, by omega, L[j].kind, L[j].key, L[j].val, L[j].err, L[j].hit, L[j].life, L[j].fr, L[j].to, hc.1, hc.2.1, hc.2.2.1, hc.2.2.2.1, hc.2.2.2.2.1, hc.2.2.2.2.2.1, hc.2.2.2.2.2.2.1, hc.2.2.2.2.2.2.2.1, fun e => ?_, fun e h3 x3 => ?_⟩, ?_⟩
    · have e' : keyed L[j] = true := e
      refine ⟨by omega, by omega, by omega, fun sl es h3 x3 => ?_⟩
      rw [← e0] at es
      have s3 := (s.ext (x1.trans x3)).cut (l := 0) (r := j + 1) (Nat.zero_le _) hjl
      have en : Int.toNat ((j + 1 : Nat) : Int) - Int.toNat 0 = ((L.take (j + 1)).drop 0).length := by simp; omega
      rw [es, en]
      refine (rends_c s3 (by simp; omega) L[j].key).mono ?_
      rintro _ h4 ⟨x4, a4, c4, rfl, s4⟩
      refine ⟨a4, _, c4, rfl, ?_, x1.trans (x3.trans x4)⟩
      rw [bad_at L j hjl, e', List.drop_zero]
      cases ends (L.take (j + 1)) L[j].key with
      | nil => rfl
      | cons y ys => simp; omega
    · have e' : keyed L[j] = false := e
      exact ⟨by rw [bad_at L j hjl, e']; rfl, x1.trans x3⟩
    · rintro _ h2 ⟨rfl, x2⟩
      refine ⟨fun e => ?_, fun e => ?_⟩
      · exact ⟨x2, false, j, rfl, .inr ⟨rfl, j, rfl, hjl, e, hb⟩⟩
      · refine ⟨⟨j + 1, rfl, hjl, x2, fun i hi => ?_⟩, by simp only [Int.toNat_natCast]; omega⟩
        by_cases hij : i = j
        · subst hij; exact e
        · exact hb i (by omega)
  · have hjl := ge_of_dec hge
    refine ⟨x1, true, 0, rfl, .inl ⟨rfl, rfl, fun i => ?_⟩⟩
    by_cases hi : i < j
    · exact hb i hi
    · exact bad_over L i (by omega)
end Go.Proofs.YtfjcciaabkjkgaaDoor
namespace Go.Proofs.YtfjcciaabkjkgaaDoor
namespace Ml
def stepK (key : Str) (s : List Mt) (m : Mv) : List Mt := if keyed m = true ∧ m.key = key then next s m else s
def run (key : Str) (s : List Mt) (l : List Mv) : List Mt := l.foldl (stepK key) s
theorem ends_run (l : List Mv) (key : Str) : ends l key = run key start l := rfl
theorem run_app (key : Str) (s : List Mt) (a b : List Mv) : run key s (a ++ b) = run key (run key s a) b := by simp [run]
theorem stepK_nil (key : Str) (m : Mv) : stepK key [] m = [] := by unfold stepK; split <;> rfl
theorem run_nil (key : Str) : ∀ l : List Mv, run key [] l = []
  | [] => rfl
  | m :: l => by rw [run, List.foldl_cons, stepK_nil]; exact run_nil key l
def Sub (s t : List Mt) : Prop := ∀ x ∈ s, x ∈ t
theorem next_sub {s t : List Mt} (h : Sub s t) (m : Mv) : Sub (next s m) (next t m) := fun x hx => by
  rw [next_mem] at *; obtain ⟨w, hw, hx⟩ := hx; exact ⟨w, h w hw, hx⟩
theorem Sub.ne {s t : List Mt} (h : Sub s t) (hs : s ≠ []) : t ≠ [] := fun e => by
  cases s with
  | nil => exact hs rfl
  | cons x l => have := h x (by simp); rw [e] at this; cases this
theorem take_cons (L : List Mv) (i : Nat) (h : i < L.length) : L.take (i + 1) = L.take i ++ [L[i]] := by rw [List.take_add_one, List.getElem?_eq_getElem h]; rfl
theorem ends_dead (L : List Mv) (n : Nat) (key : Str) (h : ends (L.take n) key = []) : ends L key = [] := by
  rw [ends_run, ← List.take_append_drop n L, run_app, ← ends_run, h, run_nil]
theorem acc_iff (L : List Mv) : Acc L ↔ ∀ key, ends L key ≠ [] := by
  constructor
  · intro h key e
    have : ∀ n, n ≤ L.length → ends (L.take n) key ≠ [] := by
      intro n
      induction n with
      | zero => intro _ e; rw [List.take_zero] at e; cases e
      | succ i ih =>
        intro hi e
        rw [take_cons L i hi, ends_snoc] at e
        split at e
        · rename_i hk
          have hb := h i
          rw [bad_at L i hi, hk.1, hk.2, take_cons L i hi, ends_snoc, if_pos ⟨hk.1, hk.2⟩, e] at hb
          cases hb
        · exact ih (by omega) e
    exact this L.length (Nat.le_refl _) (by rw [List.take_length]; exact e)
  · intro h i
    by_cases hi : i < L.length
    · rw [bad_at L i hi]
      cases hk : keyed L[i] with
      | false => rfl
      | true =>
        cases he : ends (L.take (i + 1)) L[i].key with
        | cons x l => rfl
        | nil =>
          exact absurd (ends_dead L (i + 1) _ he) (h _)
    · exact bad_over L i (by omega)
end Ml
end Go.Proofs.YtfjcciaabkjkgaaDoor
namespace Go.Proofs.YtfjcciaabkjkgaaDoor
namespace Ml
instance : Inhabited Mv := ⟨⟨0, ByteArray.empty, ByteArray.empty, 0, false, 0, 0, 0⟩⟩
def ah (a b : Mv) : Prop := a.life < b.life ∨ (a.life = b.life ∧ 0 ≤ a.to ∧ a.to < b.fr)
instance (a b : Mv) : Decidable (ah a b) := by unfold ah; infer_instance
def okT (a : Mv) : Prop := 0 ≤ a.to → a.fr ≤ a.to
theorem ah_irr {a : Mv} (h : okT a) : ¬ ah a a := by
  rintro (g | ⟨_, g1, g2⟩)
  · omega
  · have := h g1; omega
def mv (l : List Mv) (i : Nat) : Mv := l.getD i default
theorem mv_at {l : List Mv} {i : Nat} (h : i < l.length) : mv l i = l[i] := by unfold mv; rw [List.getD_eq_getElem?_getD, List.getElem?_eq_getElem h]; rfl
abbrev Fam := Str → List Mt
def upd (st : Fam) (m : Mv) : Fam := fun k => stepK k (st k) m
def Lv (st : Fam) (m : Mv) : Prop := keyed m = true → next (st m.key) m ≠ []
def del (R : Nat → Prop) (i : Nat) : Nat → Prop := fun j => R j ∧ j ≠ i
def mini (l : List Mv) (R : Nat → Prop) (i : Nat) : Prop := R i ∧ ∀ j, R j → ¬ ah (mv l j) (mv l i)
inductive Cmp (l : List Mv) : (Nat → Prop) → Fam → Prop
  | done {R : Nat → Prop} {st : Fam} (h : ∀ i, ¬ R i) : Cmp l R st
  | step {R : Nat → Prop} {st : Fam} (i : Nat) (h : mini l R i) (g : Lv st (mv l i)) (k : Cmp l (del R i) (upd st (mv l i))) : Cmp l R st
def ofK (l : List Mv) (R : Nat → Prop) (k : Str) : Nat → Prop := fun i => R i ∧ keyed (mv l i) = true ∧ (mv l i).key = k
section
variable {l : List Mv} {R : Nat → Prop} {st : Fam}
theorem upd_other {m : Mv} {k : Str} (h : ¬ (keyed m = true ∧ m.key = k)) : upd st m k = st k := by unfold upd stepK; rw [if_neg h]
theorem upd_own {m : Mv} (h : keyed m = true) : upd st m m.key = next (st m.key) m := by unfold upd stepK; rw [if_pos ⟨h, rfl⟩]
theorem Cmp.congr {R : Nat → Prop} {st : Fam} (c : Cmp l R st) : ∀ {st' : Fam}, (∀ i, R i → keyed (mv l i) = true → st' (mv l i).key = st (mv l i).key) → Cmp l R st' := by
  induction c with
  | done h => exact fun _ => .done h
  | @step R st i h g k ih =>
    intro st' e
    refine .step i h (fun q => ?_) (ih fun j hj kj => ?_)
    · rw [e i h.1 q]; exact g q
    · unfold upd
      rw [e j hj.1 kj]
theorem ofK_del_in {i : Nat} {k : Str} : ofK l (del R i) k = del (ofK l R k) i := by
  funext j; unfold ofK del; apply propext
  constructor
  · rintro ⟨⟨a, b⟩, c⟩; exact ⟨⟨a, c⟩, b⟩
  · rintro ⟨⟨a, c⟩, b⟩; exact ⟨⟨a, b⟩, c⟩
theorem ofK_del_out {i : Nat} {k : Str} (h : ¬ (keyed (mv l i) = true ∧ (mv l i).key = k)) : ofK l (del R i) k = ofK l R k := by
  funext j; unfold ofK del; apply propext
  constructor
  · rintro ⟨⟨a, _⟩, c⟩; exact ⟨a, c⟩
  · rintro ⟨a, c⟩; exact ⟨⟨a, fun e => h (by rw [← e]; exact c)⟩, c⟩
theorem Cmp.ofK {R : Nat → Prop} {st : Fam} (c : Cmp l R st) (k : Str) : Cmp l (Ml.ofK l R k) st := by
  induction c with
  | done h => exact .done fun i q => h i q.1
  | @step R st i h g _ ih =>
    by_cases hk : keyed (mv l i) = true ∧ (mv l i).key = k
    · rw [ofK_del_in] at ih
      exact .step i ⟨⟨h.1, hk⟩, fun j q => h.2 j q.1⟩ g ih
    · rw [ofK_del_out hk] at ih
      exact ih.congr fun j hj kj => by rw [hj.2.2, upd_other hk]
def Fst (l : List Mv) (R : Nat → Prop) (st : Fam) (c : Nat) : Prop :=
  R c ∧ (keyed (mv l c) = true → mini l (Ml.ofK l R (mv l c).key) c ∧ Lv st (mv l c) ∧ Cmp l (del (Ml.ofK l R (mv l c).key) c) (upd st (mv l c)))
def erl (a b : Mv) : Prop := a.life < b.life ∨ (a.life = b.life ∧ a.fr ≤ b.fr)
theorem exists_erl : ∀ (L : List Nat) (P : Nat → Prop), (∃ i ∈ L, P i) → ∃ c ∈ L, P c ∧ ∀ d ∈ L, P d → erl (mv l c) (mv l d)
  | [], _, ⟨_, h, _⟩ => by cases h
  | x :: L, P, _ => by
    by_cases hL : ∃ i ∈ L, P i
    · obtain ⟨c, hc, pc, mc⟩ := exists_erl L P hL
      by_cases hx : P x ∧ ¬ erl (mv l c) (mv l x)
      · refine ⟨x, by simp, hx.1, fun d hd pd => ?_⟩
        rcases List.mem_cons.1 hd with rfl | hd
        · exact .inr ⟨rfl, Int.le_refl _⟩
        · have := mc d hd pd
          have h2 := hx.2
          unfold erl at *
          omega
      · refine ⟨c, by simp [hc], pc, fun d hd pd => ?_⟩
        rcases List.mem_cons.1 hd with rfl | hd
        · exact Classical.byContradiction fun q => hx ⟨pd, q⟩
        · exact mc d hd pd
    · obtain ⟨i, hi, pi⟩ := ‹∃ i ∈ x :: L, P i›
      rcases List.mem_cons.1 hi with rfl | hi
      · refine ⟨i, by simp, pi, fun d hd pd => ?_⟩
        rcases List.mem_cons.1 hd with rfl | hd
        · exact .inr ⟨rfl, Int.le_refl _⟩
        · exact absurd ⟨d, hd, pd⟩ hL
      · exact absurd ⟨i, hi, pi⟩ hL
theorem some_next {L : List Nat} (hR : ∀ i, R i ↔ i ∈ L) (ht : ∀ i, R i → okT (mv l i)) (hk : ∀ k, Cmp l (ofK l R k) st) (hne : ∃ i, R i) : ∃ c, mini l R c ∧ Fst l R st c := by
  have cand : ∀ i, R i → ∃ c, Fst l R st c ∧ (c = i ∨ (keyed (mv l c) = true ∧ keyed (mv l i) = true ∧ (mv l c).key = (mv l i).key)) := by
    intro i hi
    by_cases q : keyed (mv l i) = true
    · cases hk (mv l i).key with
      | done h => exact absurd ⟨hi, q, rfl⟩ (h i)
      | step c h g k => exact ⟨c, ⟨h.1.1, fun _ => by rw [h.1.2.2]; exact ⟨h, g, k⟩⟩, .inr ⟨h.1.2.1, q, h.1.2.2⟩⟩
    · exact ⟨i, ⟨hi, fun g => absurd g q⟩, .inl rfl⟩
  obtain ⟨i, hi⟩ := hne
  obtain ⟨c0, f0, _⟩ := cand i hi
  obtain ⟨c, hc, fc, mc⟩ := exists_erl (l := l) L (Fst l R st) ⟨c0, (hR _).1 f0.1, f0⟩
  refine ⟨c, ⟨fc.1, fun j hj a => ?_⟩, fc⟩
  obtain ⟨d, fd, e⟩ := cand j hj
  have hcd := mc d ((hR _).1 fd.1) fd
  have ad : ah (mv l j) (mv l d) := by unfold ah erl at *; omega
  rcases e with rfl | ⟨q1, q2, q3⟩
  · exact ah_irr (ht _ hj) ad
  · exact (fd.2 q1).1.2 j ⟨hj, q2, q3.symm⟩ ad
theorem ofK_step {c : Nat} (hk : ∀ k, Cmp l (ofK l R k) st) (f : Fst l R st c) (k : Str) : Cmp l (ofK l (del R c) k) (upd st (mv l c)) := by
  by_cases q : keyed (mv l c) = true ∧ (mv l c).key = k
  · obtain ⟨_, _, g⟩ := f.2 q.1
    rw [q.2] at g
    rw [ofK_del_in]; exact g
  · rw [ofK_del_out q]
    exact (hk k).congr fun j hj kj => by rw [hj.2.2, upd_other q]
theorem cmp_of_keys : ∀ (n : Nat) {L : List Nat} {R : Nat → Prop} {st : Fam}, L.Nodup → L.length = n → (∀ i, R i ↔ i ∈ L) → (∀ i, R i → okT (mv l i)) → (∀ k, Cmp l (ofK l R k) st) → Cmp l R st
  | 0, L, R, st, _, hn, hR, _, _ => .done fun i q => by
    rw [List.eq_nil_of_length_eq_zero hn] at hR; cases (hR i).1 q
  | n + 1, L, R, st, hd, hn, hR, ht, hk => by
    obtain ⟨i, hi⟩ : ∃ i, R i := by
      cases L with
      | nil => cases hn
      | cons x L => exact ⟨x, (hR x).2 (by simp)⟩
    obtain ⟨c, hm, f⟩ := some_next hR ht hk ⟨i, hi⟩
    refine .step c hm (fun q => (f.2 q).2.1 q) (cmp_of_keys n (L := L.erase c) (hd.erase c) ?_ (fun j => ?_) (fun j q => ht j q.1) (ofK_step hk f))
    · rw [List.length_erase_of_mem ((hR c).1 hm.1)]; omega
    · rw [hd.mem_erase_iff]
      unfold del
      rw [hR j]
      exact And.comm
def Ok (l : List Mv) (R : Nat → Prop) (st : Fam) (i : Nat) : Prop := mini l R i ∧ Lv st (mv l i) ∧ Cmp l (del R i) (upd st (mv l i))
theorem ok_iff {L : List Nat} (hd : L.Nodup) (hR : ∀ i, R i ↔ i ∈ L) (ht : ∀ i, R i → okT (mv l i)) (hk : ∀ k, Cmp l (ofK l R k) st) {i : Nat} (hm : mini l R i) :
    Ok l R st i ↔ (keyed (mv l i) = true → Lv st (mv l i) ∧ Cmp l (del (ofK l R (mv l i).key) i) (upd st (mv l i))) := by
  constructor
  · rintro ⟨_, g, c⟩ q
    have := c.ofK (mv l i).key
    rw [ofK_del_in] at this
    exact ⟨g, this⟩
  · intro f
    have hF : Fst l R st i := ⟨hm.1, fun q => ⟨⟨⟨hm.1, q, rfl⟩, fun j hj => hm.2 j hj.1⟩, (f q).1, (f q).2⟩⟩
    refine ⟨hm, fun q => (f q).1 q, cmp_of_keys _ (hd.erase i) rfl (fun j => ?_) (fun j q => ht j q.1) (ofK_step hk hF)⟩
    rw [hd.mem_erase_iff]
    unfold del
    rw [hR j]
    exact And.comm
theorem ok_some {L : List Nat} (hd : L.Nodup) (hR : ∀ i, R i ↔ i ∈ L) (ht : ∀ i, R i → okT (mv l i)) (hk : ∀ k, Cmp l (ofK l R k) st) (hne : ∃ i, R i) : ∃ i, Ok l R st i := by
  obtain ⟨c, hm, f⟩ := some_next hR ht hk hne
  exact ⟨c, (ok_iff hd hR ht hk hm).2 fun q => (f.2 q).2⟩
theorem Ok.cmp {i : Nat} (h : Ok l R st i) : Cmp l R st := .step i h.1 h.2.1 h.2.2
inductive Gr (l : List Mv) : (Nat → Prop) → Fam → List Nat → Prop
  | nil {R : Nat → Prop} {st : Fam} (h : ∀ i, ¬ R i) : Gr l R st []
  | cons {R : Nat → Prop} {st : Fam} {i : Nat} {t : List Nat} (h : Ok l R st i) (g : ∀ j, j < i → ¬ Ok l R st j) (k : Gr l (del R i) (upd st (mv l i)) t) : Gr l R st (i :: t)
theorem Gr.unique {R : Nat → Prop} {st : Fam} {a : List Nat} (p : Gr l R st a) : ∀ {b : List Nat}, Gr l R st b → a = b := by
  induction p with
  | nil h =>
    intro b q
    cases q with
    | nil => rfl
    | cons g _ _ => exact absurd g.1.1 (h _)
  | @cons R st i t h g k ih =>
    intro b q
    cases q with
    | nil h' => exact absurd h.1.1 (h' _)
    | @cons _ _ j t' h' g' k' =>
      have : i = j := by
        rcases Nat.lt_trichotomy i j with e | e | e
        · exact absurd h (g' i e)
        · exact e
        · exact absurd h' (g j e)
      subst this
      rw [ih k']
theorem Gr.cmp {a : List Nat} (p : Gr l R st a) : Cmp l R st := by
  cases p with
  | nil h => exact .done h
  | cons h _ _ => exact h.cmp
theorem Gr.mem {R : Nat → Prop} {st : Fam} {a : List Nat} (p : Gr l R st a) : (∀ i, R i ↔ i ∈ a) ∧ a.Nodup := by
  induction p with
  | nil h => exact ⟨fun i => ⟨fun q => absurd q (h i), fun q => by cases q⟩, List.nodup_nil⟩
  | @cons R st i t h g k ih =>
    refine ⟨fun j => ⟨fun q => ?_, fun q => ?_⟩, List.nodup_cons.2 ⟨fun q => ((ih.1 i).2 q).2 rfl, ih.2⟩⟩
    · by_cases e : j = i
      · simp [e]
      · exact List.mem_cons_of_mem _ ((ih.1 j).1 ⟨q, e⟩)
    · rcases List.mem_cons.1 q with rfl | q
      · exact h.1.1
      · exact ((ih.1 j).2 q).1
def Shows (l : List Mv) (st : Fam) (a : List Nat) : Prop := a.Pairwise (fun i j => ¬ ah (mv l j) (mv l i)) ∧ ∀ k, run k (st k) (a.map (mv l)) ≠ []
theorem run_cons {k : Str} {s : List Mt} {m : Mv} {L : List Mv} : run k s (m :: L) = run k (stepK k s m) L := rfl
theorem Shows.cmp : ∀ {a : List Nat} {R : Nat → Prop} {st : Fam}, (∀ i, R i → okT (mv l i)) → (∀ i, R i ↔ i ∈ a) → a.Nodup → Shows l st a → Cmp l R st
  | [], R, st, _, hR, _, _ => .done fun i q => by cases (hR i).1 q
  | i :: a, R, st, ht, hR, hd, ⟨h1, h2⟩ => by
    obtain ⟨p1, p2⟩ := List.pairwise_cons.1 h1
    obtain ⟨d1, d2⟩ := List.nodup_cons.1 hd
    have hi : R i := (hR i).2 (by simp)
    refine .step i ⟨hi, fun j hj => ?_⟩ (fun q e => ?_) (Shows.cmp (a := a) (fun j q => ht j q.1) (fun j => ?_) d2 ⟨p2, h2⟩)
    · rcases List.mem_cons.1 ((hR j).1 hj) with rfl | hj'
      · exact ah_irr (ht _ hj)
      · exact p1 j hj'
    · refine h2 (mv l i).key ?_
      rw [List.map_cons, run_cons]
      have : stepK (mv l i).key (st (mv l i).key) (mv l i) = [] := by unfold stepK; rw [if_pos ⟨q, rfl⟩]; exact e
      rw [this, run_nil]
    · unfold del
      rw [hR j]
      constructor
      · rintro ⟨q, e⟩
        rcases List.mem_cons.1 q with rfl | q
        · exact absurd rfl e
        · exact q
      · intro q
        exact ⟨by simp [q], fun e => d1 (by rw [← e]; exact q)⟩
end
end Ml
end Go.Proofs.YtfjcciaabkjkgaaDoor
namespace Go.Proofs.YtfjcciaabkjkgaaDoor
namespace Ml
section
variable {l l' : List Mv}
theorem Cmp.mono (f : Nat → Nat) {R : Nat → Prop} {st : Fam} (c : Cmp l R st) : ∀ {R' : Nat → Prop} {st' : Fam}, (∀ i, R' i → R (f i)) → (∀ i j, R' i → R' j → f i = f j → i = j) →
    (∀ i j, R' i → R' j → ah (mv l' j) (mv l' i) → ah (mv l (f j)) (mv l (f i))) → (∀ i, R' i → keyed (mv l' i) = keyed (mv l (f i)) ∧ (mv l' i).key = (mv l (f i)).key) →
    (∀ i, R' i → ∀ s s', Srt s' → Sub s s' → Sub (next s (mv l (f i))) (next s' (mv l' i))) → (∀ i, R i → (∃ j, R' j ∧ f j = i) ∨ ∀ s, Sub (next s (mv l i)) s) → (∀ k, Sub (st k) (st' k) ∧ Srt (st' k)) → Cmp l' R' st' := by
  induction c with
  | done h => exact fun h1 _ _ _ _ _ _ => .done fun i q => h _ (h1 i q)
  | @step R st i h g _ ih =>
    intro R' st' h1 h2 h3 h4 h5 h6 h7
    by_cases q : ∃ j, R' j ∧ f j = i
    · obtain ⟨j, hj, rfl⟩ := q
      refine .step j ⟨hj, fun j' hj' a => h.2 _ (h1 j' hj') (h3 j j' hj hj' a)⟩ (fun q => ?_) (ih (fun i q => ⟨h1 i q.1, fun e => q.2 (h2 i j q.1 hj e)⟩) (fun i j p q => h2 i j p.1 q.1) (fun i j p q => h3 i j p.1 q.1) (fun i p => h4 i p.1) (fun i p => h5 i p.1) (fun i p => ?_) fun k => ?_)
      · rw [(h4 j hj).2]
        exact Sub.ne (h5 j hj _ _ (h7 _).2 (h7 _).1) (g (by rw [← (h4 j hj).1]; exact q))
      · rcases h6 i p.1 with ⟨j', a, b⟩ | b
        · exact .inl ⟨j', ⟨a, fun e => p.2 (by rw [← b, e])⟩, b⟩
        · exact .inr b
      · unfold upd stepK
        rw [(h4 j hj).1, (h4 j hj).2]
        split
        · exact ⟨h5 j hj _ _ (h7 _).2 (h7 _).1, next_srt _ _⟩
        · exact h7 k
    · have hs := (h6 i h.1).resolve_left q
      refine ih (fun j p => ⟨h1 j p, fun e => q ⟨j, p, e⟩⟩) h2 h3 h4 h5 (fun j p => h6 j p.1) fun k => ⟨fun x hx => (h7 k).1 x ?_, (h7 k).2⟩
      unfold upd stepK at hx
      split at hx
      · exact hs _ x hx
      · exact hx
theorem open_sub {m : Mv} (h : m.to < 0) (s : List Mt) : Sub s (next s m) := fun x hx => by
  rw [next_mem]
  refine ⟨x, hx, ?_⟩
  have hf : fate m = 3 := by unfold fate; rw [if_pos (.inl h)]
  have hh : ¬ (hits m = true ∧ (x.has = false ∨ x.val ≠ m.val)) := by
    rintro ⟨q, _⟩; simp [hits] at q; omega
  unfold outs
  split
  · first | (rw [if_neg hh]; simp) | simp
  · split
    · rw [hf]; simp [putF]
    · split
      · rw [hf]; simp [delF]
      · simp
theorem cmp_open : ∀ (n : Nat) {L : List Nat} {R : Nat → Prop} {st : Fam}, L.Nodup → L.length = n → (∀ i, R i ↔ i ∈ L) → (∀ i, R i → (mv l i).to < 0) → (∀ k, st k ≠ []) → Cmp l R st
  | 0, L, R, st, _, hn, hR, _, _ => .done fun i q => by
    rw [List.eq_nil_of_length_eq_zero hn] at hR; cases (hR i).1 q
  | n + 1, L, R, st, hd, hn, hR, ht, hs => by
    obtain ⟨i, hi⟩ : ∃ i, i ∈ L := by
      cases L with
      | nil => cases hn
      | cons x L => exact ⟨x, by simp⟩
    obtain ⟨c, hc, _, mc⟩ := exists_erl (l := l) L (fun _ => True) ⟨i, hi, trivial⟩
    have hcR := (hR c).2 hc
    refine .step c ⟨hcR, fun j hj a => ?_⟩ (fun _ => Sub.ne (open_sub (ht c hcR) _) (hs _)) (cmp_open n (L := L.erase c) (hd.erase c) ?_ (fun j => ?_) (fun j q => ht j q.1) fun k => ?_)
    · have h1 := mc j ((hR j).1 hj) trivial
      have h2 := ht j hj
      unfold ah erl at *; omega
    · rw [List.length_erase_of_mem hc]; omega
    · rw [hd.mem_erase_iff]
      unfold del
      rw [hR j]
      exact And.comm
    · unfold upd stepK
      split
      · exact Sub.ne (open_sub (ht c hcR) _) (hs _)
      · exact hs k
theorem Cmp.cut (f : Nat → Nat) (drp : Nat → Prop) {R : Nat → Prop} {st : Fam} (c : Cmp l R st) : ∀ {R' : Nat → Prop} {st' : Fam} {L : List Nat}, L.Nodup → (∀ i, R' i ↔ i ∈ L) → (∀ i, R' i → R (f i)) → (∀ i j, R' i → R' j → f i = f j → i = j) →
    (∀ i j, R' i → R' j → ah (mv l' j) (mv l' i) → ah (mv l (f j)) (mv l (f i))) → (∀ i, R' i → keyed (mv l' i) = keyed (mv l (f i)) ∧ (mv l' i).key = (mv l (f i)).key) →
    (∀ i, R' i → ∀ s s', Srt s' → Sub s s' → Sub (next s (mv l (f i))) (next s' (mv l' i))) → (∀ i, R i → (∃ j, R' j ∧ f j = i) ∨ drp i) → (∀ i j, R i → drp i → R' j → ¬ ah (mv l (f j)) (mv l i) → (mv l' j).to < 0) → (∀ k, Sub (st k) (st' k) ∧ Srt (st' k)) → (∀ k, st' k ≠ []) → Cmp l' R' st' := by
  induction c with
  | done h => exact fun _ _ h1 _ _ _ _ _ _ _ _ => .done fun i q => h _ (h1 i q)
  | @step R st i h g _ ih =>
    intro R' st' L hd hL h1 h2 h3 h4 h5 h6 h8 h7 h9
    by_cases q : ∃ j, R' j ∧ f j = i
    · obtain ⟨j, hj, rfl⟩ := q
      have hlv : Lv st' (mv l' j) := fun q => by
        rw [(h4 j hj).2]
        exact Sub.ne (h5 j hj _ _ (h7 _).2 (h7 _).1) (g (by rw [← (h4 j hj).1]; exact q))
      refine .step j ⟨hj, fun j' hj' a => h.2 _ (h1 j' hj') (h3 j j' hj hj' a)⟩ hlv (ih (hd.erase j) (fun i => ?_) (fun i q => ⟨h1 i q.1, fun e => q.2 (h2 i j q.1 hj e)⟩) (fun i j p q => h2 i j p.1 q.1) (fun i j p q => h3 i j p.1 q.1) (fun i p => h4 i p.1) (fun i p => h5 i p.1) (fun i p => ?_) (fun i j p q r => h8 i j p.1 q r.1) (fun k => ?_) fun k => ?_)
      · rw [hd.mem_erase_iff]
        unfold del
        rw [hL i]
        exact And.comm
      · rcases h6 i p.1 with ⟨j', a, b⟩ | b
        · exact .inl ⟨j', ⟨a, fun e => p.2 (by rw [← b, e])⟩, b⟩
        · exact .inr b
      · unfold upd stepK
        rw [(h4 j hj).1, (h4 j hj).2]
        split
        · exact ⟨h5 j hj _ _ (h7 _).2 (h7 _).1, next_srt _ _⟩
        · exact h7 k
      · unfold upd stepK
        split
        · next q => rw [← q.2]; exact hlv q.1
        · exact h9 k
    · have hdr := (h6 i h.1).resolve_left q
      exact cmp_open _ hd rfl hL (fun j hj => h8 i j h.1 hdr hj (h.2 _ (h1 j hj))) h9
theorem steps_first {n a : Nat} {R : Nat → Prop} (hR : ∀ i, R i ↔ a ≤ i ∧ i < n) (ha : ∀ i j, i < n → j < n → (ah (mv l j) (mv l i) ↔ j < i)) {i : Nat} (h : mini l R i) : i = a := by
  have h1 := (hR i).1 h.1
  rcases Nat.lt_or_ge a i with q | q
  · exact absurd ((ha i a h1.2 (by omega)).2 q) (h.2 a ((hR a).2 ⟨Nat.le_refl _, by omega⟩))
  · omega
theorem steps_gr : ∀ {n a : Nat} {R : Nat → Prop} {st : Fam} {o : List Nat}, (∀ i, R i ↔ a ≤ i ∧ i < n) → (∀ i j, i < n → j < n → (ah (mv l j) (mv l i) ↔ j < i)) → Gr l R st o → o = List.range' a (n - a)
  | n, a, R, st, [], hR, ha, p => by
    cases p with
    | nil h =>
      have : n - a = 0 := by
        rcases Nat.lt_or_ge a n with q | q
        · exact absurd ((hR a).2 ⟨Nat.le_refl _, q⟩) (h a)
        · omega
      rw [this]; rfl
  | n, a, R, st, i :: t, hR, ha, p => by
    cases p with
    | cons h g k =>
      have hi := steps_first hR ha h.1
      subst hi
      have h1 := (hR i).1 h.1.1
      rw [steps_gr (a := i + 1) (fun j => ?_) ha k, show n - i = n - (i + 1) + 1 by omega, List.range'_succ]
      unfold del
      rw [hR j]; omega
theorem steps_shows {n : Nat} : ∀ {R : Nat → Prop} {st : Fam}, Cmp l R st → ∀ {a : Nat}, (∀ i, R i ↔ a ≤ i ∧ i < n) → (∀ i j, i < n → j < n → (ah (mv l j) (mv l i) ↔ j < i)) → (∀ k, st k ≠ []) → ∀ k, run k (st k) ((List.range' a (n - a)).map (mv l)) ≠ [] := by
  intro R st c
  induction c with
  | @done R st h =>
    intro a hR _ hs k
    have : n - a = 0 := by
      rcases Nat.lt_or_ge a n with q | q
      · exact absurd ((hR a).2 ⟨Nat.le_refl _, q⟩) (h a)
      · omega
    rw [this]; exact hs k
  | @step R st i h g _ ih =>
    intro a hR ha hs k
    have hi := steps_first hR ha h
    subst hi
    have h1 := (hR i).1 h.1
    rw [show n - i = n - (i + 1) + 1 by omega, List.range'_succ, List.map_cons, run_cons]
    refine ih (fun j => ?_) ha (fun κ => ?_) k
    · unfold del
      rw [hR j]; omega
    · unfold upd stepK
      split
      · next q => rw [← q.2]; exact g q.1
      · exact hs κ
end
end Ml
end Go.Proofs.YtfjcciaabkjkgaaDoor
namespace Go.Proofs.YtfjcciaabkjkgaaDoor
namespace Ml
section
variable {l m : List Mv}
def img (f : Nat → Nat) (R : Nat → Prop) : Nat → Prop := fun j => ∃ i, R i ∧ f i = j
theorem img_del {f : Nat → Nat} {R : Nat → Prop} (hf : ∀ i j, R i → R j → f i = f j → i = j) {i : Nat} (hi : R i) : img f (del R i) = del (img f R) (f i) := by
  funext j
  apply propext
  constructor
  · rintro ⟨q, ⟨h1, h2⟩, rfl⟩
    exact ⟨⟨q, h1, rfl⟩, fun e => h2 (hf q i h1 hi e)⟩
  · rintro ⟨⟨q, h1, rfl⟩, h2⟩
    exact ⟨q, ⟨h1, fun e => h2 (by rw [e])⟩, rfl⟩
theorem mini_img {f : Nat → Nat} {R : Nat → Prop} (he : ∀ i, R i → mv l (f i) = mv m i) {i : Nat} (hi : R i) : mini l (img f R) (f i) ↔ mini m R i := by
  constructor
  · rintro ⟨_, h⟩
    refine ⟨hi, fun j hj a => h (f j) ⟨j, hj, rfl⟩ ?_⟩
    rw [he i hi, he j hj]; exact a
  · rintro ⟨_, h⟩
    refine ⟨⟨i, hi, rfl⟩, ?_⟩
    rintro _ ⟨j, hj, rfl⟩ a
    rw [he i hi, he j hj] at a
    exact h j hj a
theorem Cmp.map (f : Nat → Nat) {R : Nat → Prop} {st : Fam} (c : Cmp m R st) : (∀ i j, R i → R j → f i = f j → i = j) → (∀ i, R i → mv l (f i) = mv m i) → Cmp l (img f R) st := by
  induction c with
  | done h => exact fun _ _ => .done fun j ⟨i, hi, _⟩ => h i hi
  | @step R st i h g _ ih =>
    intro hf he
    have ei := he i h.1
    refine .step (f i) ((mini_img he h.1).2 h) (by rw [ei]; exact g) ?_
    rw [← img_del hf h.1, ei]
    exact ih (fun a b p q => hf a b p.1 q.1) fun a p => he a p.1
theorem Cmp.unmap (f : Nat → Nat) {R : Nat → Prop} {st : Fam} (hs : ∀ k, Srt (st k)) (hf : ∀ i j, R i → R j → f i = f j → i = j) (he : ∀ i, R i → mv l (f i) = mv m i) (c : Cmp l (img f R) st) : Cmp m R st :=
  c.mono f (fun i h => ⟨i, h, rfl⟩) hf (fun i j hi hj a => by rw [he i hi, he j hj]; exact a) (fun i hi => by rw [he i hi]; exact ⟨rfl, rfl⟩)
    (fun i hi s s' _ h => by rw [he i hi]; exact next_sub h _) (fun _ ⟨i, hi, e⟩ => .inl ⟨i, hi, e⟩) fun k => ⟨fun _ h => h, hs k⟩
theorem upd_srt {st : Fam} (hs : ∀ k, Srt (st k)) (x : Mv) : ∀ k, Srt (upd st x k) := fun k => by
  unfold upd stepK
  split
  · exact next_srt _ _
  · exact hs k
theorem ok_img {f : Nat → Nat} {R : Nat → Prop} {st : Fam} (hs : ∀ k, Srt (st k)) (hf : ∀ i j, R i → R j → f i = f j → i = j) (he : ∀ i, R i → mv l (f i) = mv m i) {i : Nat} (hi : R i) : Ok l (img f R) st (f i) ↔ Ok m R st i := by
  unfold Ok
  rw [mini_img he hi, he i hi, ← img_del hf hi]
  refine and_congr_right fun _ => and_congr_right fun _ => ⟨fun c => ?_, fun c => ?_⟩
  · exact c.unmap f (upd_srt hs _) (fun a b p q => hf a b p.1 q.1) fun a p => he a p.1
  · exact c.map f (fun a b p q => hf a b p.1 q.1) fun a p => he a p.1
theorem Gr.map (f : Nat → Nat) {R : Nat → Prop} {st : Fam} {o : List Nat} (p : Gr m R st o) : (∀ k, Srt (st k)) → (∀ i j, R i → R j → i < j → f i < f j) → (∀ i, R i → mv l (f i) = mv m i) → Gr l (img f R) st (o.map f) := by
  induction p with
  | nil h => exact fun _ _ _ => .nil fun j ⟨i, hi, _⟩ => h i hi
  | @cons R st i t h g k ih =>
    intro hs hm he
    have hf : ∀ i j, R i → R j → f i = f j → i = j := fun a b p q e => by
      rcases Nat.lt_trichotomy a b with c | c | c
      · have := hm a b p q c; omega
      · exact c
      · have := hm b a q p c; omega
    have hi := h.1.1
    refine .cons ((ok_img hs hf he hi).2 h) (fun j hj q => ?_) ?_
    · obtain ⟨a, ha, rfl⟩ := q.1.1
      refine g a ?_ ((ok_img hs hf he ha).1 q)
      rcases Nat.lt_trichotomy a i with c | c | c
      · exact c
      · subst c; omega
      · have := hm i a hi ha c; omega
    · rw [← img_del hf hi, he i hi]
      exact ih (upd_srt hs _) (fun a b p q => hm a b p.1 q.1) fun a p => he a p.1
def keepI (l : List Mv) (n : Int) : List Nat := (List.range l.length).filter fun i => decide ((mv l i).fr ≤ n)
end
end Ml
end Go.Proofs.YtfjcciaabkjkgaaDoor
namespace Go.Proofs.YtfjcciaabkjkgaaDoor
namespace Ml
section
variable {l : List Mv} {n : Int}
def was (l : List Mv) (n : Int) (j : Nat) : Nat := (keepI l n).getD j 0
end
end Ml
end Go.Proofs.YtfjcciaabkjkgaaDoor
namespace Go.Proofs.YtfjcciaabkjkgaaDoor
namespace Ml
def kX : Str := ByteArray.mk #[107]
def aX : Str := ByteArray.mk #[97]
def hitX : Mv := ⟨1, kX, aX, 0, true, 0, 1, 2⟩
def putX (f : Int) : Mv := ⟨2, kX, aX, 0, false, 0, f, 5⟩
def stX : Fam := fun _ => start
theorem nx1 : next start hitX = [] := by decide +kernel
theorem nx2 (f : Int) : next start (putX f) = [⟨true, aX⟩] := by
  have : outs (putX f) = outs (putX 0) := rfl
  unfold next; rw [this]; decide +kernel
theorem nx3 : next [⟨true, aX⟩] hitX = [⟨true, aX⟩] := by decide +kernel
theorem two {i : Nat} (h : i < 2) : i = 0 ∨ i = 1 := by omega
theorem lives_yes : Gr [hitX, putX 0] (fun i => i < 2) stX [1, 0] := by
  have e0 : mv [hitX, putX 0] 0 = hitX := rfl
  have e1 : mv [hitX, putX 0] 1 = putX 0 := rfl
  have hs : upd stX (putX 0) kX = [⟨true, aX⟩] := by
    have : upd stX (putX 0) (putX 0).key = next (stX (putX 0).key) (putX 0) := upd_own rfl
    exact this.trans (nx2 0)
  have no0 : ¬ Lv stX (mv [hitX, putX 0] 0) := fun g => g rfl nx1
  have lv0 : Lv (upd stX (putX 0)) hitX := fun _ e => by
    have e : next (upd stX (putX 0) kX) hitX = [] := e
    rw [hs, nx3] at e; cases e
  have m1 : mini [hitX, putX 0] (fun i => i < 2) 1 := ⟨by decide, fun j hj => by
    rcases two hj with rfl | rfl
    · rw [e0, e1]; decide
    · rw [e1]; decide⟩
  have m0 : mini [hitX, putX 0] (del (fun i => i < 2) 1) 0 := ⟨⟨by decide, by decide⟩, fun j hj => by
    rcases two hj.1 with rfl | rfl
    · rw [e0]; decide
    · exact absurd rfl hj.2⟩
  have em : ∀ i, ¬ del (del (fun i => i < 2) 1) 0 i := fun i h => by
    rcases two h.1.1 with rfl | rfl
    · exact h.2 rfl
    · exact h.1.2 rfl
  have ok0 : Ok [hitX, putX 0] (del (fun i => i < 2) 1) (upd stX (putX 0)) 0 := ⟨m0, lv0, .done em⟩
  refine .cons ⟨m1, fun _ e => ?_, ok0.cmp⟩ (fun j hj q => ?_) (.cons ok0 (fun j hj => by omega) (.nil em))
  · have e : next start (putX 0) = [] := e
    rw [nx2] at e; cases e
  · have : j = 0 := by omega
    subst this
    exact no0 q.2.1
theorem lives_no : ¬ Cmp [hitX, putX 3] (fun i => i < 2) stX := by
  intro c
  cases c with
  | done h => exact h 0 (by decide)
  | step i h g k =>
    rcases two h.1 with rfl | rfl
    · exact g rfl nx1
    · exact h.2 0 (by decide) (by decide)
end Ml
end Go.Proofs.YtfjcciaabkjkgaaDoor
namespace Go.Proofs.YtfjcciaabkjkgaaDoor
namespace Ml
theorem stX_ne : ∀ k, stX k ≠ [] := fun _ => by simp [stX, start]
def over (k i : Nat) : Nat := if i < k then i else i + 1
theorem check_zero {m : Mv} : check m = 0 ↔ ¬ ((m.kind < 1 ∨ m.kind > 5 ∨ m.fr < 0 ∨ (m.to ≥ 0 ∧ m.to < m.fr)) ∨ (m.hit = true ∧ ¬ (m.kind = 1 ∧ m.err = 0 ∧ m.to ≥ 0)) ∨ (m.kind = 1 ∧ m.hit = false ∧ m.val ≠ ByteArray.empty) ∨ (m.kind > 2 ∧ m.val ≠ ByteArray.empty) ∨ (m.kind > 3 ∧ m.key ≠ ByteArray.empty)) := by
  unfold check
  constructor
  · intro h q; rw [if_pos q] at h; exact absurd h (by decide)
  · intro h; rw [if_neg h]
theorem check_okT {m : Mv} (h : check m = 0) : okT m ∧ 0 ≤ m.fr := by
  have := check_zero.1 h
  unfold okT
  constructor
  · intro q; omega
  · omega
end Ml
end Go.Proofs.YtfjcciaabkjkgaaDoor
namespace Go.Proofs.YtfjcciaabkjkgaaDoor
open Go
def toL (s : ByteArray) : List Int := s.data.toList.map fun b => (b.toNat : Int)
def ofL (L : List Int) : ByteArray := ⟨(L.map fun n => UInt8.ofNat n.toNat).toArray⟩
def isB (L : List Int) : Prop := ∀ x ∈ L, 0 ≤ x ∧ x < 256
theorem toL_ofL {L : List Int} (h : isB L) : toL (ofL L) = L := by
  simp only [ofL, toL, List.map_map]
  conv => rhs; rw [← List.map_id L]
  apply List.map_congr_left
  intro x hx
  have := h x hx
  simp only [Function.comp_apply, UInt8.toNat_ofNat', id_eq]
  omega
theorem ofL_size (L : List Int) : (ofL L).size = L.length := by simp [ofL, ByteArray.size]
section
variable {P : Program} {ρ : Regs} {h : Heap} {d : Option Nat} {ty : TypeId} {p : String} {af : Array Edge} {g : Option (Nat × Bool)}
def ibV (op : BinOp) (k : IntKind) (x y : Int) : Option Int :=
  match op with
  | .and => some (k.wrap (BitVec.ofInt k.bits x &&& BitVec.ofInt k.bits y).toNat)
  | .or => some (k.wrap (BitVec.ofInt k.bits x ||| BitVec.ofInt k.bits y).toNat)
  | .xor => some (k.wrap (BitVec.ofInt k.bits x ^^^ BitVec.ofInt k.bits y).toNat)
  | .andNot => some (k.wrap (BitVec.ofInt k.bits x &&& ~~~ BitVec.ofInt k.bits y).toNat)
  | _ => none
def iband (k : IntKind) (x y : Int) : Int := k.wrap (BitVec.ofInt k.bits x &&& BitVec.ofInt k.bits y).toNat
def ibor (k : IntKind) (x y : Int) : Int := k.wrap (BitVec.ofInt k.bits x ||| BitVec.ofInt k.bits y).toNat
def ibandNot (k : IntKind) (x y : Int) : Int := k.wrap (BitVec.ofInt k.bits x &&& ~~~ BitVec.ofInt k.bits y).toNat
theorem hv_bits {op : BinOp} {t t' : TypeId} {x y : Operand} {k : IntKind} {a b v : Int} (hx : ev ρ x = .int k a) (hy : ev ρ y = .int k b) (hv : ibV op k a b = some v) : HVal P ρ ⟨d, .binOp op t x y t', ty, p, af, g⟩ h (.int k v) :=
  hv_of fun w _ => by
    cases op <;> simp only [ibV, Option.some.injEq, reduceCtorEq] at hv <;> subst hv <;> simp [execOp, hx, hy, go_sem, eqGuard, binOp, Op.intBits]
def elA (P : Program) (t : TypeId) : Option (Nat × Nat) := match P.underlying t with | some (.array n e) => (szB P e).map fun z => (n, z) | _ => none
theorem hv_indexA {t : TypeId} {x y : Operand} {b o n sz : Nat} {k : IntKind} {i : Int} (he : elA P t = some (n, sz)) (hx : ev ρ x = ptr b o) (hy : ev ρ y = .int k i) (h0 : 0 ≤ i) (h1 : i < n) : HVal P ρ ⟨d, .indexAddr t x y, ty, p, af, g⟩ h (ptr b (o + i.toNat * sz)) :=
  hv_of fun w _ => by
    unfold elA at he
    split at he <;> try cases he
    rename_i n' e hu
    cases hz : szB P e with
    | none => rw [hz] at he; cases he
    | some z =>
      rw [hz] at he
      simp only [Option.map_some, Option.some.injEq, Prod.mk.injEq] at he
      obtain ⟨rfl, rfl⟩ := he
      simp [execOp, hx, hy, ptr, go_sem, Instr.indexAt, Instr.sureAddr, asIntOf, run_underlying hu, h0, h1, run_sizeOf hz, add_lit]
theorem foldl_push (ns : List Int) : ∀ r : ByteArray, ns.foldl (fun r n => r.push (UInt8.ofNat n.toNat)) r = ⟨r.data ++ (ns.map fun n => UInt8.ofNat n.toNat).toArray⟩ := by
  induction ns with
  | nil => intro r; simp
  | cons n ns ih => intro r; simp only [List.foldl_cons]; rw [ih]; simp [ByteArray.push]
def Byt (h : Heap) (a : Option Addr) (n : Nat) (L : List Int) : Prop := L.length = n ∧ (n = 0 ∨ ∃ b o, a = some ⟨b, o, none⟩ ∧ HCells h b o (L.map (Value.int .u8)))
theorem Byt.ext {h h' : Heap} (he : Ext h h') {a : Option Addr} {n : Nat} {L : List Int} (b : Byt h a n L) : Byt h' a n L :=
  ⟨b.1, b.2.imp id fun ⟨q, o, e, hc⟩ => ⟨q, o, e, HCells.mk fun _ _ hj => he.cell (hc.get hj)⟩⟩
theorem hv_b2s {src dst e : TypeId} {x : Operand} {a : Option Addr} {n c : Nat} {L : List Int} (hs : P.underlying src = some (.slice e)) (he : P.underlying e = some (.int .u8)) (hd : P.underlying dst = some .string)
    (hx : ev ρ x = .slice a n c) (hb : Byt h a n L) : HVal P ρ ⟨d, .convert src dst x, ty, p, af, g⟩ h (.string (ofL L)) :=
  hv_of fun w hw => by
    obtain ⟨hl, hn⟩ := hb
    have key : (convert src dst (.slice a n c)).run P w = .ok (.string (ofL L)) w := by
      rw [run_convert_bytes_string w src dst e a n c hs he hd]
      cases a with
      | none =>
        have : L = [] := by
          rcases hn with h0 | ⟨b, o, e, _⟩
          · exact List.eq_nil_of_length_eq_zero (by omega)
          · cases e
        subst this
        simp [Conv.bytesToString, go_sem, ofL]; rfl
      | some ad =>
        have hload : (loadCells ad n).run P w = .ok (L.map (Value.int .u8)).toArray w := by
          rcases hn with h0 | ⟨b, o, e, hc⟩
          · have : L = [] := List.eq_nil_of_length_eq_zero (by omega)
            subst this; subst h0
            simp [loadCells, loadCellsFrom, go_sem]
          · cases e
            have := run_loadFrom (P := P) w b o (L.map (Value.int .u8)) 0 #[] (by rw [hw]; exact hc)
            simp only [Array.empty_append, List.length_map, hl] at this
            exact this
        rw [run_bytesToString w ad n c L hload, foldl_push]
        congr 1
        simp [ofL]
    simp only [execOp, hx, Sem.run_bind, key, Result.andThen_ok, Sem.run_pure]
end
end Go.Proofs.YtfjcciaabkjkgaaDoor
namespace Go.Proofs.YtfjcciaabkjkgaaDoor
namespace Ml
open Go
def U32 (x : Int) : Prop := 0 ≤ x ∧ x < 4294967296
theorem w32 {x : Int} (h : U32 x) : IntKind.u32.wrap x = x := by
  obtain ⟨h0, h1⟩ := h
  simp only [IntKind.wrap, IntKind.signed, IntKind.bits]
  exact Int.emod_eq_of_lt h0 (by simpa using h1)
theorem bv32 {a : Int} (h : U32 a) : (BitVec.ofInt 32 a).toNat = a.toNat := by
  obtain ⟨h0, h1⟩ := h
  rw [BitVec.toNat_ofInt]
  have : a % (2 ^ 32 : Nat) = a := Int.emod_eq_of_lt h0 (by simpa using h1)
  rw [this]
theorem and32 {a b : Int} (ha : U32 a) (hb : U32 b) : iband .u32 a b = ((a.toNat &&& b.toNat : Nat) : Int) := by
  unfold iband
  show IntKind.u32.wrap ((BitVec.ofInt 32 a &&& BitVec.ofInt 32 b).toNat : Int) = _
  rw [BitVec.toNat_and, bv32 ha, bv32 hb, w32]
  have := Nat.and_le_left (n := a.toNat) (m := b.toNat)
  have := ha.1; have := ha.2
  exact ⟨by omega, by omega⟩
theorem or32 {a b : Int} (ha : U32 a) (hb : U32 b) : ibor .u32 a b = ((a.toNat ||| b.toNat : Nat) : Int) := by
  unfold ibor
  show IntKind.u32.wrap ((BitVec.ofInt 32 a ||| BitVec.ofInt 32 b).toNat : Int) = _
  rw [BitVec.toNat_or, bv32 ha, bv32 hb, w32]
  have h1 := ha.1; have h2 := ha.2; have h3 := hb.1; have h4 := hb.2
  have : a.toNat ||| b.toNat < 2 ^ 32 := Nat.or_lt_two_pow (by omega) (by omega)
  exact ⟨by omega, by omega⟩
def clr (a k : Nat) : Nat := (BitVec.ofNat 32 a &&& ~~~ BitVec.ofNat 32 (2 ^ k)).toNat
theorem clr_bit {a k : Nat} (ha : a < 4294967296) (j : Nat) : (clr a k).testBit j = (a.testBit j && !decide (j = k)) := by
  unfold clr
  rw [BitVec.testBit_toNat]
  simp only [BitVec.getLsbD_and, BitVec.getLsbD_not, BitVec.getLsbD_ofNat]
  by_cases hj : j < 32
  · simp only [hj, decide_true, Bool.true_and]
    rw [Nat.testBit_two_pow]
    congr 2
    exact decide_eq_decide.2 eq_comm
  · have : a.testBit j = false := Nat.testBit_lt_two_pow (Nat.lt_of_lt_of_le ha (by
      have : (2:Nat) ^ 32 ≤ 2 ^ j := Nat.pow_le_pow_right (by decide) (by omega)
      simpa using this))
    simp [hj, this]
theorem clr_lt (a k : Nat) : clr a k < 4294967296 := by unfold clr; exact BitVec.isLt _
theorem clr_le {a k : Nat} (ha : a < 4294967296) {n : Nat} (h : a < 2 ^ n) : clr a k < 2 ^ n := by
  refine Nat.lt_pow_two_of_testBit _ fun i hi => ?_
  rw [clr_bit ha, Nat.testBit_lt_two_pow (Nat.lt_of_lt_of_le h (Nat.pow_le_pow_right (by decide) hi))]
  rfl
theorem clr_less {a k : Nat} (ha : a < 4294967296) (h : a.testBit k = true) : clr a k < a := by
  have h1 : clr a k ≤ a := by
    unfold clr
    rw [BitVec.toNat_and, BitVec.toNat_ofNat, Nat.mod_eq_of_lt (by simpa using ha)]
    exact Nat.and_le_left
  refine Nat.lt_of_le_of_ne h1 fun e => ?_
  have h2 := clr_bit (k := k) ha k
  rw [e, h] at h2
  simp at h2
theorem andn32 {a : Int} (ha : U32 a) {k : Nat} (hk : k < 32) : ibandNot .u32 a (IntKind.u32.wrap (1 * 2 ^ k)) = ((clr a.toNat k : Nat) : Int) := by
  have hp : (2 : Nat) ^ k < 2 ^ 32 := Nat.pow_lt_pow_right (by decide) hk
  have h2 : ((1 : Int) * 2 ^ k) = ((2 ^ k : Nat) : Int) := by simp
  have hu : U32 (((2 ^ k : Nat) : Int)) := ⟨Int.natCast_nonneg _, by generalize (2 : Nat) ^ k = z at hp; omega⟩
  rw [h2, w32 hu]
  unfold ibandNot
  show IntKind.u32.wrap ((BitVec.ofInt 32 a &&& ~~~ BitVec.ofInt 32 ((2 ^ k : Nat) : Int)).toNat : Int) = _
  have e1 : BitVec.ofInt 32 a = BitVec.ofNat 32 a.toNat := BitVec.eq_of_toNat_eq (by rw [bv32 ha, BitVec.toNat_ofNat, Nat.mod_eq_of_lt]; have := ha.2; have := ha.1; omega)
  have e2 : BitVec.ofInt 32 ((2 ^ k : Nat) : Int) = BitVec.ofNat 32 (2 ^ k) := BitVec.eq_of_toNat_eq (by rw [bv32 hu, BitVec.toNat_ofNat, Int.toNat_natCast, Nat.mod_eq_of_lt hp])
  rw [e1, e2]
  have := clr_lt a.toNat k
  unfold clr at *
  rw [w32 ⟨by omega, by omega⟩]
theorem shr_bit {x : Int} (h : U32 x) (j : Nat) : (iband .u32 (Int.fdiv x (2 ^ j)) 1 == 0) = !(x.toNat.testBit j) := by
  obtain ⟨n, rfl⟩ : ∃ n : Nat, x = n := ⟨x.toNat, by have := h.1; omega⟩
  have e : Int.fdiv (n : Int) (2 ^ j) = ((n / 2 ^ j : Nat) : Int) := by
    rw [Int.fdiv_eq_ediv_of_nonneg _ (Int.pow_nonneg (by decide))]
    simp
  have hle : n / 2 ^ j ≤ n := Nat.div_le_self _ _
  have h2 := h.2
  have hu : U32 (((n / 2 ^ j : Nat)) : Int) := ⟨Int.natCast_nonneg _, by generalize n / 2 ^ j = z at hle; omega⟩
  rw [e, and32 hu ⟨by decide, by decide⟩, Int.toNat_natCast, Int.toNat_natCast, show Int.toNat 1 = 1 from rfl, Nat.and_one_is_mod, Nat.testBit_eq_decide_div_mod_eq]
  have hm := Nat.mod_two_eq_zero_or_one (n / 2 ^ j)
  rcases hm with q | q <;> rw [q] <;> rfl
def Rm (own : List Nat) (left : Nat) : Nat → Prop := fun i => ∃ k, left.testBit k = true ∧ own[k]? = some i
section
variable {l : List Mv} {own : List Nat} {left : Nat}
theorem nodup_at {i j x : Nat} (hd : own.Nodup) (hi : own[i]? = some x) (hj : own[j]? = some x) : i = j := by
  have h := List.pairwise_iff_getElem.1 hd
  obtain ⟨hil, e1⟩ := List.getElem?_eq_some_iff.1 hi
  obtain ⟨hjl, e2⟩ := List.getElem?_eq_some_iff.1 hj
  rcases Nat.lt_trichotomy i j with q | q | q
  · exact absurd (e1.trans e2.symm) (h i j hil hjl q)
  · exact q
  · exact absurd (e2.trans e1.symm) (h j i hjl hil q)
theorem rm_zero (i : Nat) : ¬ Rm own 0 i := fun ⟨k, h, _⟩ => by rw [Nat.zero_testBit] at h; cases h
theorem rm_empty (hl : left < 2 ^ own.length) (h : ∀ i, ¬ Rm own left i) : left = 0 := by
  refine Nat.eq_of_testBit_eq fun k => ?_
  rw [Nat.zero_testBit]
  rcases Nat.lt_or_ge k own.length with q | q
  · cases hb : left.testBit k with
    | false => rfl
    | true => exact absurd ⟨k, hb, List.getElem?_eq_getElem q⟩ (h own[k])
  · exact Nat.testBit_lt_two_pow (Nat.lt_of_lt_of_le hl (Nat.pow_le_pow_right (by decide) q))
theorem rm_all : Rm own (2 ^ own.length - 1) = fun i => i ∈ own := by
  funext i
  apply propext
  constructor
  · rintro ⟨k, _, h⟩; exact List.mem_of_getElem? h
  · intro h
    obtain ⟨k, hk, e⟩ := List.getElem_of_mem h
    exact ⟨k, by rw [Nat.testBit_two_pow_sub_one]; exact decide_eq_true hk, by rw [List.getElem?_eq_getElem hk, e]⟩
theorem rm_clr (hd : own.Nodup) (hl : left < 4294967296) {k i : Nat} (hk : own[k]? = some i) : Rm own (clr left k) = del (Rm own left) i := by
  funext j
  apply propext
  constructor
  · rintro ⟨q, hq, e⟩
    rw [clr_bit hl] at hq
    simp only [Bool.and_eq_true, Bool.not_eq_true', decide_eq_false_iff_not] at hq
    refine ⟨⟨q, hq.1, e⟩, fun r => hq.2 ?_⟩
    subst r
    exact nodup_at hd e hk
  · rintro ⟨⟨q, hq, e⟩, r⟩
    refine ⟨q, ?_, e⟩
    rw [clr_bit hl, hq]
    have : q ≠ k := fun s => r (by subst s; rw [e] at hk; cases hk; rfl)
    simp [this]
def Wt (l : List Mv) (own : List Nat) (i : Nat) (w : Nat) : Prop := ∀ k, w.testBit k = true ↔ ∃ j, own[k]? = some j ∧ ah (mv l j) (mv l i)
theorem wt_none {i w : Nat} (hw : Wt l own i w) : w &&& left = 0 ↔ ∀ j, Rm own left j → ¬ ah (mv l j) (mv l i) := by
  constructor
  · rintro h j ⟨k, hk, e⟩ a
    have h1 := (hw k).2 ⟨j, e, a⟩
    have : (w &&& left).testBit k = true := by rw [Nat.testBit_and, h1, hk]; rfl
    rw [h, Nat.zero_testBit] at this; cases this
  · intro h
    refine Nat.eq_of_testBit_eq fun k => ?_
    rw [Nat.zero_testBit, Nat.testBit_and]
    cases h1 : w.testBit k with
    | false => rfl
    | true =>
      cases h2 : left.testBit k with
      | false => rfl
      | true =>
        obtain ⟨j, e, a⟩ := (hw k).1 h1
        exact absurd a (h j ⟨k, h2, e⟩)
end
end Ml
end Go.Proofs.YtfjcciaabkjkgaaDoor
namespace Go.Proofs.YtfjcciaabkjkgaaDoor
namespace Ml
section
variable {l : List Mv} {own : List Nat} {left : Nat} {key : Str} {s : List Mt}
def OfOne (l : List Mv) (own : List Nat) (key : Str) : Prop := ∀ i ∈ own, keyed (mv l i) = true ∧ (mv l i).key = key
theorem rm_mem {i : Nat} (h : Rm own left i) : i ∈ own := let ⟨_, _, e⟩ := h; List.mem_of_getElem? e
theorem one_congr (hk : OfOne l own key) {R : Nat → Prop} (hR : ∀ i, R i → i ∈ own) {st st' : Fam} (e : st' key = st key) : Cmp l R st → Cmp l R st' := fun c =>
  c.congr fun i hi _ => by rw [(hk i (hR i hi)).2]; exact e
theorem can_iff (hd : own.Nodup) (hk : OfOne l own key) (hl : left < 2 ^ own.length) (h32 : left < 4294967296) (h0 : left ≠ 0) :
    Cmp l (Rm own left) (fun _ => s) ↔ ∃ k i, own[k]? = some i ∧ left.testBit k = true ∧ (∀ j, Rm own left j → ¬ ah (mv l j) (mv l i)) ∧ next s (mv l i) ≠ [] ∧ Cmp l (Rm own (clr left k)) (fun _ => next s (mv l i)) := by
  constructor
  · intro c
    cases c with
    | done h => exact absurd (rm_empty hl h) h0
    | step i h g c =>
      obtain ⟨k, hb, e⟩ := h.1
      have hi := hk i (List.mem_of_getElem? e)
      refine ⟨k, i, e, hb, h.2, g hi.1, ?_⟩
      rw [rm_clr hd h32 e]
      refine one_congr hk (fun j q => rm_mem q.1) ?_ c
      unfold upd stepK
      rw [if_pos hi]
  · rintro ⟨k, i, e, hb, hm, hne, c⟩
    have hi := hk i (List.mem_of_getElem? e)
    refine .step i ⟨⟨k, hb, e⟩, hm⟩ (fun _ => hne) ?_
    rw [rm_clr hd h32 e] at c
    refine one_congr hk (fun j q => rm_mem q.1) ?_ c
    unfold upd stepK
    rw [if_pos hi]
theorem can_zero : Cmp l (Rm own 0) (fun _ => s) := .done rm_zero
theorem ofK_mem {Lt : List Nat} {k : Str} : ofK l (fun i => i ∈ Lt) k = fun i => i ∈ Lt.filter fun i => keyed (mv l i) && decide ((mv l i).key = k) := by
  funext i
  unfold ofK
  simp
theorem gr_step {R R0 : Nat → Prop} {st s0 : Fam} {out : List Nat} {i : Nat} (g : ∀ t, Gr l R st t → Gr l R0 s0 (out ++ t)) (h : Ok l R st i) (hn : ∀ j, j < i → ¬ Ok l R st j) : ∀ t, Gr l (del R i) (upd st (mv l i)) t → Gr l R0 s0 ((out ++ [i]) ++ t) := fun t p => by
  rw [List.append_assoc, List.singleton_append]
  exact g _ (.cons h hn p)
theorem gr_end {R R0 : Nat → Prop} {st s0 : Fam} {out : List Nat} (g : ∀ t, Gr l R st t → Gr l R0 s0 (out ++ t)) (h : ∀ i, ¬ R i) : Gr l R0 s0 out := by
  have := g [] (.nil h)
  rw [List.append_nil] at this; exact this
end
end Ml
end Go.Proofs.YtfjcciaabkjkgaaDoor
namespace Go.Proofs.YtfjcciaabkjkgaaDoor
open Go
open Go.Proofs.YtfjcciaabkjkgaaDoor renaming hl_val → lv, hl_step → lp, hl_nil → ln, hl_yes → ly, hl_no → lo, hx_seq → xs, hx_region → xr, hx_cond → xc, hx_cut → xk, hx_has → xh, hx_skip → xi, hx_ret → xt, seqQ_n → qn, seqQ_ret → qr, hv_move → vm, hv_assign → va, hv_arith → vr, hv_load → vl, hv_field → vf, has_cons → hc, has_nil → hn, rowcell → rc
set_option maxRecDepth 100000
set_option maxHeartbeats 4000000
theorem TyTA.agg3 : aggB Tryd.prog 3 = some false := by kernel_rfl
theorem TyTA.fld30_0 : fldB Tryd.prog 30 0 = some 0 := by kernel_rfl
theorem TyTA.fld30_5 : fldB Tryd.prog 30 5 = some 5 := by kernel_rfl
theorem TyTA.fld30_6 : fldB Tryd.prog 30 6 = some 6 := by kernel_rfl
theorem TyTA.fld30_7 : fldB Tryd.prog 30 7 = some 7 := by kernel_rfl
theorem ext_pushed_f14_sh {h h1 : Heap} {o : Obj} (e : h1 = Array.push h o) : Ext h h1 := by rw [e]; exact Ext.push _ _
theorem f24_sh (a0 : Int) (a8 : ByteArray) (a3 : ByteArray) (a6 : Int) (a7 : Bool) (a4 : Int) (a5 : Int) (a9 : Int) (h : Heap) (R : Value → Heap → Prop)
  (H : (∀ (h1 : Heap), Ext h h1 → R (.bool ((a0 == 1) || ((a0 == 2) || (a0 == 3)))) h1)) :
  HC Tryd.prog 24 #[(.agg #[(.int .i64 a0), (.string a8), (.string a3), (.int .i64 a6), (.bool a7), (.int .i64 a4), (.int .i64 a5), (.int .i64 a9)])] h R := by
 refine hc_of (args := [(.agg #[(.int .i64 a0), (.string a8), (.string a3), (.int .i64 a6), (.bool a7), (.int .i64 a4), (.int .i64 a5), (.int .i64 a9)])]) Tryd.func24 rfl Tryd.ntmps24 (Nat.le_of_ble_eq_true rfl) ?_
 refine xs (xr ?_)
 refine lp rfl rfl (hn_box (v := (.agg #[(.int .i64 a0), (.string a8), (.string a3), (.int .i64 a6), (.bool a7), (.int .i64 a4), (.int .i64 a5), (.int .i64 a9)])) rfl ?_)
 intro m h1 b2 b1
 have b3 := ext_pushed_f14_sh b1
 have b4 : Array.size h ≤ m := Nat.le_of_eq (Eq.symm b2)
 have b0 : h1[m]? = some (.cells #[(.int .i64 a0), (.string a8), (.string a3), (.int .i64 a6), (.bool a7), (.int .i64 a4), (.int .i64 a5), (.int .i64 a9)] 30 (0, 0)) := by rw [b1]; exact push_new b2
 refine lv rfl rfl (va rfl) ?_
 refine ln (qn ?_)
 refine xk (fun ρ h' => h1 = h' ∧ Has ρ [(2, (.bool ((a0 == 1) || ((a0 == 2) || (a0 == 3)))))]) ?_ ?_
 ·refine xr ?_
  refine lv rfl rfl (v := (ptr m 0)) (vf TyTA.fld30_0 (b := m) (o := 0) rfl) (lv rfl rfl (vl TyTA.agg3 rfl (rc b0 rfl)) (lv rfl rfl (vr rfl rfl rfl) (lv rfl rfl (vm rfl) ?_)))
  rcases bool_or (a0 == 1) with a1 | a1
  ·refine lo (wanted_n rfl rfl rfl a1) rfl ?_
   refine lo (wanted_n rfl rfl rfl a1) rfl ?_
   refine lo (wanted_n rfl rfl rfl a1) rfl ?_
   refine lv rfl rfl (v := (.bool true)) (hv_pick_t rfl a1 rfl) (lv rfl rfl (vm rfl) ?_)
   refine lo (wanted_n rfl rfl (c := true) rfl rfl) rfl ?_
   refine lo (wanted_n rfl rfl (c := true) rfl rfl) rfl ?_
   refine lo (wanted_n rfl rfl (c := true) rfl rfl) rfl ?_
   refine lv rfl rfl (v := (.bool true)) (hv_pick (t := true) rfl rfl) (lv rfl rfl (va rfl) ?_)
   refine ln (qn ?_)
   exact ⟨rfl, (hc (show ((.bool true) : Value) = (.bool ((a0 == 1) || ((a0 == 2) || (a0 == 3)))) from (by first | rfl | ((try rw [a1]); all_goals first | rfl | (simp only [Bool.true_or, Bool.or_true, Bool.false_or, Bool.or_false, Bool.true_and, Bool.and_true, Bool.false_and, Bool.and_false, Bool.not_true, Bool.not_false, Bool.cond_true, Bool.cond_false]; done)) | simp [a1])) hn)⟩
  ·refine ly (wanted_y rfl rfl rfl a1) rfl (HStep.of_val (v := (ptr m 0)) (vf TyTA.fld30_0 (b := m) (o := 0) rfl) ?_)
   refine ly (wanted_y rfl rfl rfl a1) rfl (HStep.of_val (v := (.int .i64 a0)) (vl TyTA.agg3 rfl (rc b0 rfl)) ?_)
   refine ly (wanted_y rfl rfl rfl a1) rfl (HStep.of_val (v := (.bool (a0 == 2))) (vr rfl rfl rfl) ?_)
   refine lv rfl rfl (v := (.bool (a0 == 2))) (hv_pick_f rfl a1 rfl) (lv rfl rfl (vm rfl) ?_)
   rcases bool_or (a0 == 2) with a2 | a2
   ·refine lo (wanted_n rfl rfl rfl a2) rfl ?_
    refine lo (wanted_n rfl rfl rfl a2) rfl ?_
    refine lo (wanted_n rfl rfl rfl a2) rfl ?_
    refine lv rfl rfl (v := (.bool true)) (hv_pick_t rfl a2 rfl) (lv rfl rfl (va rfl) ?_)
    refine ln (qn ?_)
    exact ⟨rfl, (hc (show ((.bool true) : Value) = (.bool ((a0 == 1) || ((a0 == 2) || (a0 == 3)))) from (by first | rfl | ((try rw [a1]); (try rw [a2]); all_goals first | rfl | (simp only [Bool.true_or, Bool.or_true, Bool.false_or, Bool.or_false, Bool.true_and, Bool.and_true, Bool.false_and, Bool.and_false, Bool.not_true, Bool.not_false, Bool.cond_true, Bool.cond_false]; done)) | simp [a1, a2])) hn)⟩
   ·refine ly (wanted_y rfl rfl rfl a2) rfl (HStep.of_val (v := (ptr m 0)) (vf TyTA.fld30_0 (b := m) (o := 0) rfl) ?_)
    refine ly (wanted_y rfl rfl rfl a2) rfl (HStep.of_val (v := (.int .i64 a0)) (vl TyTA.agg3 rfl (rc b0 rfl)) ?_)
    refine ly (wanted_y rfl rfl rfl a2) rfl (HStep.of_val (v := (.bool (a0 == 3))) (vr rfl rfl rfl) ?_)
    refine lv rfl rfl (v := (.bool (a0 == 3))) (hv_pick_f rfl a2 rfl) (lv rfl rfl (va rfl) ?_)
    refine ln (qn ?_)
    exact ⟨rfl, (hc (show ((.bool (a0 == 3)) : Value) = (.bool ((a0 == 1) || ((a0 == 2) || (a0 == 3)))) from (by first | rfl | ((try rw [a1]); (try rw [a2]); all_goals first | rfl | (simp only [Bool.true_or, Bool.or_true, Bool.false_or, Bool.or_false, Bool.true_and, Bool.and_true, Bool.false_and, Bool.and_false, Bool.not_true, Bool.not_false, Bool.cond_true, Bool.cond_false]; done)) | simp [a1, a2])) hn)⟩
 ·rintro ρ _ ⟨rfl, hH⟩
  refine xh _ hH ?_
  refine xt ?_
  replace H := H h1 b3
  exact endQ_ret _ (res_one Tryd.results24 (rv_tmp rfl)) H
theorem f12_sh (a8 : Int) (b5 : ByteArray) (a5 : ByteArray) (b4 : Int) (b3 : Bool) (a1 : Int) (a9 : Int) (a0 : Int) (a7 : Int) (b1 : ByteArray) (a6 : ByteArray) (b0 : Int) (b2 : Bool) (a2 : Int) (a3 : Int) (b7 : Int) (h : Heap) (R : Value → Heap → Prop)
  (H : (((a1 != a2) = true → (∀ (h2 : Heap), Ext h h2 → R (.bool (decide (a1 < a2))) h2)) ∧ ((a1 != a2) = false → (∀ (h2 : Heap), Ext h h2 → R (.bool ((decide (a0 ≥ 0)) && (decide (a0 < a3)))) h2)))) :
  HC Tryd.prog 12 #[(.agg #[(.int .i64 a8), (.string b5), (.string a5), (.int .i64 b4), (.bool b3), (.int .i64 a1), (.int .i64 a9), (.int .i64 a0)]), (.agg #[(.int .i64 a7), (.string b1), (.string a6), (.int .i64 b0), (.bool b2), (.int .i64 a2), (.int .i64 a3), (.int .i64 b7)])] h R := by
 refine hc_of (args := [(.agg #[(.int .i64 a8), (.string b5), (.string a5), (.int .i64 b4), (.bool b3), (.int .i64 a1), (.int .i64 a9), (.int .i64 a0)]), (.agg #[(.int .i64 a7), (.string b1), (.string a6), (.int .i64 b0), (.bool b2), (.int .i64 a2), (.int .i64 a3), (.int .i64 b7)])]) Tryd.func12 rfl Tryd.ntmps12 (Nat.le_of_ble_eq_true rfl) ?_
 refine xs (xr ?_)
 refine lp rfl rfl (hn_box (v := (.agg #[(.int .i64 a8), (.string b5), (.string a5), (.int .i64 b4), (.bool b3), (.int .i64 a1), (.int .i64 a9), (.int .i64 a0)])) rfl ?_)
 intro a h1 c2 c5
 have c3 := ext_pushed_f14_sh c5
 have c9 : Array.size h ≤ a := Nat.le_of_eq (Eq.symm c2)
 have b6 : h1[a]? = some (.cells #[(.int .i64 a8), (.string b5), (.string a5), (.int .i64 b4), (.bool b3), (.int .i64 a1), (.int .i64 a9), (.int .i64 a0)] 30 (0, 0)) := by rw [c5]; exact push_new c2
 refine lp rfl rfl (hn_box (v := (.agg #[(.int .i64 a7), (.string b1), (.string a6), (.int .i64 b0), (.bool b2), (.int .i64 a2), (.int .i64 a3), (.int .i64 b7)])) rfl ?_)
 intro b h2 b9 c4
 have c6 := ext_pushed_f14_sh c4
 have c7 := Nat.ne_of_lt (Nat.lt_of_lt_of_eq (row_lt b6) (Eq.symm b9))
 have c8 : Array.size h ≤ b := Nat.le_trans (Ext.size c3) (Nat.le_of_eq (Eq.symm b9))
 have c0 : h2[b]? = some (.cells #[(.int .i64 a7), (.string b1), (.string a6), (.int .i64 b0), (.bool b2), (.int .i64 a2), (.int .i64 a3), (.int .i64 b7)] 30 (0, 0)) := by rw [c4]; exact push_new b9
 replace b6 := Ext.row c6 b6
 have c1 := Ext.trans c3 c6
 refine lv rfl rfl (va rfl) ?_
 refine ln (qn (xs (xs (xr ?_))))
 refine lv rfl rfl (v := (ptr a 5)) (vf TyTA.fld30_5 (b := a) (o := 0) rfl) (lv rfl rfl (vl TyTA.agg3 rfl (rc b6 rfl)) (lv rfl rfl (v := (ptr b 5)) (vf TyTA.fld30_5 (b := b) (o := 0) rfl) (lv rfl rfl (vl TyTA.agg3 rfl (rc c0 rfl)) (lv rfl rfl (vr rfl rfl rfl) ?_))))
 refine ln (qn ?_)
 refine xc (b := a1 != a2) rfl (fun b8 => ?_) (fun b8 => ?_)
 ·replace H := H.1 b8
  refine xs (xr ?_)
  refine lv rfl rfl (v := (ptr a 5)) (vf TyTA.fld30_5 (b := a) (o := 0) rfl) (lv rfl rfl (vl TyTA.agg3 rfl (rc b6 rfl)) (lv rfl rfl (v := (ptr b 5)) (vf TyTA.fld30_5 (b := b) (o := 0) rfl) (lv rfl rfl (vl TyTA.agg3 rfl (rc c0 rfl)) (lv rfl rfl (vr rfl rfl rfl) (lv rfl rfl (va rfl) ?_)))))
  refine ln (qn (xt (qr ?_)))
  replace H := H h2 c1
  exact endQ_ret _ (res_one Tryd.results12 (rv_tmp rfl)) H
 ·replace H := H.2 b8
  refine xi (qn ?_)
  refine xk (fun ρ h' => h2 = h' ∧ Has ρ [(4, (.bool ((decide (a0 ≥ 0)) && (decide (a0 < a3)))))]) ?_ ?_
  ·refine xr ?_
   refine lv rfl rfl (v := (ptr a 7)) (vf TyTA.fld30_7 (b := a) (o := 0) rfl) (lv rfl rfl (vl TyTA.agg3 rfl (rc b6 rfl)) (lv rfl rfl (vr rfl rfl rfl) (lv rfl rfl (vm rfl) ?_)))
   rcases bool_or (decide (a0 ≥ 0)) with a4 | a4
   ·refine ly (wanted_y rfl rfl rfl a4) rfl (HStep.of_val (v := (ptr a 7)) (vf TyTA.fld30_7 (b := a) (o := 0) rfl) ?_)
    refine ly (wanted_y rfl rfl rfl a4) rfl (HStep.of_val (v := (.int .i64 a0)) (vl TyTA.agg3 rfl (rc b6 rfl)) ?_)
    refine ly (wanted_y rfl rfl rfl a4) rfl (HStep.of_val (v := (ptr b 6)) (vf TyTA.fld30_6 (b := b) (o := 0) rfl) ?_)
    refine ly (wanted_y rfl rfl rfl a4) rfl (HStep.of_val (v := (.int .i64 a3)) (vl TyTA.agg3 rfl (rc c0 rfl)) ?_)
    refine ly (wanted_y rfl rfl rfl a4) rfl (HStep.of_val (v := (.bool (decide (a0 < a3)))) (vr rfl rfl rfl) ?_)
    refine lv rfl rfl (v := (.bool (decide (a0 < a3)))) (hv_pick_t rfl a4 rfl) (lv rfl rfl (va rfl) ?_)
    refine ln (qn ?_)
    exact ⟨rfl, (hc (show ((.bool (decide (a0 < a3))) : Value) = (.bool ((decide (a0 ≥ 0)) && (decide (a0 < a3)))) from (by first | rfl | ((try rw [a4]); all_goals first | rfl | (simp only [Bool.true_or, Bool.or_true, Bool.false_or, Bool.or_false, Bool.true_and, Bool.and_true, Bool.false_and, Bool.and_false, Bool.not_true, Bool.not_false, Bool.cond_true, Bool.cond_false]; done)) | simp [a4])) hn)⟩
   ·refine lo (wanted_n rfl rfl rfl a4) rfl ?_
    refine lo (wanted_n rfl rfl rfl a4) rfl ?_
    refine lo (wanted_n rfl rfl rfl a4) rfl ?_
    refine lo (wanted_n rfl rfl rfl a4) rfl ?_
    refine lo (wanted_n rfl rfl rfl a4) rfl ?_
    refine lv rfl rfl (v := (.bool false)) (hv_pick_f rfl a4 rfl) (lv rfl rfl (va rfl) ?_)
    refine ln (qn ?_)
    exact ⟨rfl, (hc (show ((.bool false) : Value) = (.bool ((decide (a0 ≥ 0)) && (decide (a0 < a3)))) from (by first | rfl | ((try rw [a4]); all_goals first | rfl | (simp only [Bool.true_or, Bool.or_true, Bool.false_or, Bool.or_false, Bool.true_and, Bool.and_true, Bool.false_and, Bool.and_false, Bool.not_true, Bool.not_false, Bool.cond_true, Bool.cond_false]; done)) | simp [a4])) hn)⟩
  ·rintro ρ _ ⟨rfl, hH⟩
   refine xh _ hH ?_
   refine xt ?_
   replace H := H h2 c1
   exact endQ_ret _ (res_one Tryd.results12 (rv_tmp rfl)) H
theorem f14_sh (b0 : Int) (b7 : ByteArray) (a7 : ByteArray) (b6 : Int) (b5 : Bool) (a0 : Int) (b1 : Int) (a3 : Int) (a9 : Int) (b3 : ByteArray) (a8 : ByteArray) (b2 : Int) (b4 : Bool) (a1 : Int) (a4 : Int) (b9 : Int) (h : Heap) (R : Value → Heap → Prop)
  (H : (∀ (h2 : Heap), Ext h h2 → R (.bool ((decide (a0 < a1)) || ((a0 == a1) && ((decide (a3 ≥ 0)) && (decide (a3 < a4)))))) h2)) :
  HC Tryd.prog 14 #[(.agg #[(.int .i64 b0), (.string b7), (.string a7), (.int .i64 b6), (.bool b5), (.int .i64 a0), (.int .i64 b1), (.int .i64 a3)]), (.agg #[(.int .i64 a9), (.string b3), (.string a8), (.int .i64 b2), (.bool b4), (.int .i64 a1), (.int .i64 a4), (.int .i64 b9)])] h R := by
 refine hc_of (args := [(.agg #[(.int .i64 b0), (.string b7), (.string a7), (.int .i64 b6), (.bool b5), (.int .i64 a0), (.int .i64 b1), (.int .i64 a3)]), (.agg #[(.int .i64 a9), (.string b3), (.string a8), (.int .i64 b2), (.bool b4), (.int .i64 a1), (.int .i64 a4), (.int .i64 b9)])]) Tryd.func14 rfl Tryd.ntmps14 (Nat.le_of_ble_eq_true rfl) ?_
 refine xs (xr ?_)
 refine lp rfl rfl (hn_box (v := (.agg #[(.int .i64 b0), (.string b7), (.string a7), (.int .i64 b6), (.bool b5), (.int .i64 a0), (.int .i64 b1), (.int .i64 a3)])) rfl ?_)
 intro a h1 c2 c5
 have c3 := ext_pushed_f14_sh c5
 have d0 : Array.size h ≤ a := Nat.le_of_eq (Eq.symm c2)
 have b8 : h1[a]? = some (.cells #[(.int .i64 b0), (.string b7), (.string a7), (.int .i64 b6), (.bool b5), (.int .i64 a0), (.int .i64 b1), (.int .i64 a3)] 30 (0, 0)) := by rw [c5]; exact push_new c2
 refine lp rfl rfl (hn_box (v := (.agg #[(.int .i64 a9), (.string b3), (.string a8), (.int .i64 b2), (.bool b4), (.int .i64 a1), (.int .i64 a4), (.int .i64 b9)])) rfl ?_)
 intro b h2 c0 c4
 have c6 := ext_pushed_f14_sh c4
 have c8 := Nat.ne_of_lt (Nat.lt_of_lt_of_eq (row_lt b8) (Eq.symm c0))
 have c9 : Array.size h ≤ b := Nat.le_trans (Ext.size c3) (Nat.le_of_eq (Eq.symm c0))
 have c1 : h2[b]? = some (.cells #[(.int .i64 a9), (.string b3), (.string a8), (.int .i64 b2), (.bool b4), (.int .i64 a1), (.int .i64 a4), (.int .i64 b9)] 30 (0, 0)) := by rw [c4]; exact push_new c0
 replace b8 := Ext.row c6 b8
 have c7 := Ext.trans c3 c6
 refine lv rfl rfl (va rfl) ?_
 refine ln (qn ?_)
 refine xk (fun ρ h' => h2 = h' ∧ Has ρ [(4, (.bool ((decide (a0 < a1)) || ((a0 == a1) && ((decide (a3 ≥ 0)) && (decide (a3 < a4)))))))]) ?_ ?_
 ·refine xr ?_
  refine lv rfl rfl (v := (ptr a 5)) (vf TyTA.fld30_5 (b := a) (o := 0) rfl) (lv rfl rfl (vl TyTA.agg3 rfl (rc b8 rfl)) (lv rfl rfl (v := (ptr b 5)) (vf TyTA.fld30_5 (b := b) (o := 0) rfl) (lv rfl rfl (vl TyTA.agg3 rfl (rc c1 rfl)) (lv rfl rfl (vr rfl rfl rfl) (lv rfl rfl (vm rfl) ?_)))))
  rcases bool_or (decide (a0 < a1)) with a2 | a2
  ·refine lo (wanted_n rfl rfl rfl a2) rfl ?_
   refine lo (wanted_n rfl rfl rfl a2) rfl ?_
   refine lo (wanted_n rfl rfl rfl a2) rfl ?_
   refine lo (wanted_n rfl rfl rfl a2) rfl ?_
   refine lo (wanted_n rfl rfl rfl a2) rfl ?_
   refine lo (wanted_n rfl rfl rfl a2) rfl ?_
   refine lo (wanted_u rfl rfl rfl) rfl ?_
   refine lo (wanted_u rfl rfl rfl) rfl ?_
   refine lo (wanted_u rfl rfl rfl) rfl ?_
   refine lo (wanted_n rfl rfl rfl a2) rfl ?_
   refine lo (wanted_n rfl rfl rfl a2) rfl ?_
   refine lo (wanted_u rfl rfl rfl) rfl ?_
   refine lo (wanted_u rfl rfl rfl) rfl ?_
   refine lo (wanted_u rfl rfl rfl) rfl ?_
   refine lo (wanted_u rfl rfl rfl) rfl ?_
   refine lo (wanted_u rfl rfl rfl) rfl ?_
   refine lo (wanted_n rfl rfl rfl a2) rfl ?_
   refine lv rfl rfl (v := (.bool true)) (hv_pick_t rfl a2 rfl) (lv rfl rfl (va rfl) ?_)
   refine ln (qn ?_)
   exact ⟨rfl, (hc (show ((.bool true) : Value) = (.bool ((decide (a0 < a1)) || ((a0 == a1) && ((decide (a3 ≥ 0)) && (decide (a3 < a4)))))) from (by first | rfl | ((try rw [a2]); all_goals first | rfl | (simp only [Bool.true_or, Bool.or_true, Bool.false_or, Bool.or_false, Bool.true_and, Bool.and_true, Bool.false_and, Bool.and_false, Bool.not_true, Bool.not_false, Bool.cond_true, Bool.cond_false]; done)) | simp [a2])) hn)⟩
  ·refine ly (wanted_y rfl rfl rfl a2) rfl (HStep.of_val (v := (ptr a 5)) (vf TyTA.fld30_5 (b := a) (o := 0) rfl) ?_)
   refine ly (wanted_y rfl rfl rfl a2) rfl (HStep.of_val (v := (.int .i64 a0)) (vl TyTA.agg3 rfl (rc b8 rfl)) ?_)
   refine ly (wanted_y rfl rfl rfl a2) rfl (HStep.of_val (v := (ptr b 5)) (vf TyTA.fld30_5 (b := b) (o := 0) rfl) ?_)
   refine ly (wanted_y rfl rfl rfl a2) rfl (HStep.of_val (v := (.int .i64 a1)) (vl TyTA.agg3 rfl (rc c1 rfl)) ?_)
   refine ly (wanted_y rfl rfl rfl a2) rfl (HStep.of_val (v := (.bool (a0 == a1))) (vr rfl rfl rfl) ?_)
   refine ly (wanted_y rfl rfl rfl a2) rfl (HStep.of_val (v := (.bool (a0 == a1))) (vm rfl) ?_)
   rcases bool_or (a0 == a1) with a6 | a6
   ·refine ly (wanted_y rfl rfl rfl a6) rfl (HStep.of_val (v := (ptr a 7)) (vf TyTA.fld30_7 (b := a) (o := 0) rfl) ?_)
    refine ly (wanted_y rfl rfl rfl a6) rfl (HStep.of_val (v := (.int .i64 a3)) (vl TyTA.agg3 rfl (rc b8 rfl)) ?_)
    refine ly (wanted_y rfl rfl rfl a6) rfl (HStep.of_val (v := (.bool (decide (a3 ≥ 0)))) (vr rfl rfl rfl) ?_)
    refine ly (wanted_y rfl rfl rfl a2) rfl (HStep.of_val (v := (.bool (decide (a3 ≥ 0)))) (hv_pick_t rfl a6 rfl) ?_)
    refine ly (wanted_y rfl rfl rfl a2) rfl (HStep.of_val (v := (.bool (decide (a3 ≥ 0)))) (vm rfl) ?_)
    rcases bool_or (decide (a3 ≥ 0)) with a5 | a5
    ·refine ly (wanted_y rfl rfl rfl a5) rfl (HStep.of_val (v := (ptr a 7)) (vf TyTA.fld30_7 (b := a) (o := 0) rfl) ?_)
     refine ly (wanted_y rfl rfl rfl a5) rfl (HStep.of_val (v := (.int .i64 a3)) (vl TyTA.agg3 rfl (rc b8 rfl)) ?_)
     refine ly (wanted_y rfl rfl rfl a5) rfl (HStep.of_val (v := (ptr b 6)) (vf TyTA.fld30_6 (b := b) (o := 0) rfl) ?_)
     refine ly (wanted_y rfl rfl rfl a5) rfl (HStep.of_val (v := (.int .i64 a4)) (vl TyTA.agg3 rfl (rc c1 rfl)) ?_)
     refine ly (wanted_y rfl rfl rfl a5) rfl (HStep.of_val (v := (.bool (decide (a3 < a4)))) (vr rfl rfl rfl) ?_)
     refine ly (wanted_y rfl rfl rfl a2) rfl (HStep.of_val (v := (.bool (decide (a3 < a4)))) (hv_pick_t rfl a5 rfl) ?_)
     refine lv rfl rfl (v := (.bool (decide (a3 < a4)))) (hv_pick_f rfl a2 rfl) (lv rfl rfl (va rfl) ?_)
     refine ln (qn ?_)
     exact ⟨rfl, (hc (show ((.bool (decide (a3 < a4))) : Value) = (.bool ((decide (a0 < a1)) || ((a0 == a1) && ((decide (a3 ≥ 0)) && (decide (a3 < a4)))))) from (by first | rfl | ((try rw [a2]); (try rw [a6]); (try rw [a5]); all_goals first | rfl | (simp only [Bool.true_or, Bool.or_true, Bool.false_or, Bool.or_false, Bool.true_and, Bool.and_true, Bool.false_and, Bool.and_false, Bool.not_true, Bool.not_false, Bool.cond_true, Bool.cond_false]; done)) | simp [a2, a6, a5])) hn)⟩
    ·refine lo (wanted_n rfl rfl rfl a5) rfl ?_
     refine lo (wanted_n rfl rfl rfl a5) rfl ?_
     refine lo (wanted_n rfl rfl rfl a5) rfl ?_
     refine lo (wanted_n rfl rfl rfl a5) rfl ?_
     refine lo (wanted_n rfl rfl rfl a5) rfl ?_
     refine ly (wanted_y rfl rfl rfl a2) rfl (HStep.of_val (v := (.bool false)) (hv_pick_f rfl a5 rfl) ?_)
     refine lv rfl rfl (v := (.bool false)) (hv_pick_f rfl a2 rfl) (lv rfl rfl (va rfl) ?_)
     refine ln (qn ?_)
     exact ⟨rfl, (hc (show ((.bool false) : Value) = (.bool ((decide (a0 < a1)) || ((a0 == a1) && ((decide (a3 ≥ 0)) && (decide (a3 < a4)))))) from (by first | rfl | ((try rw [a2]); (try rw [a6]); (try rw [a5]); all_goals first | rfl | (simp only [Bool.true_or, Bool.or_true, Bool.false_or, Bool.or_false, Bool.true_and, Bool.and_true, Bool.false_and, Bool.and_false, Bool.not_true, Bool.not_false, Bool.cond_true, Bool.cond_false]; done)) | simp [a2, a6, a5])) hn)⟩
   ·refine lo (wanted_n rfl rfl rfl a6) rfl ?_
    refine lo (wanted_n rfl rfl rfl a6) rfl ?_
    refine lo (wanted_n rfl rfl rfl a6) rfl ?_
    refine ly (wanted_y rfl rfl rfl a2) rfl (HStep.of_val (v := (.bool false)) (hv_pick_f rfl a6 rfl) ?_)
    refine ly (wanted_y rfl rfl rfl a2) rfl (HStep.of_val (v := (.bool false)) (vm rfl) ?_)
    refine lo (wanted_n rfl rfl (c := false) rfl rfl) rfl ?_
    refine lo (wanted_n rfl rfl (c := false) rfl rfl) rfl ?_
    refine lo (wanted_n rfl rfl (c := false) rfl rfl) rfl ?_
    refine lo (wanted_n rfl rfl (c := false) rfl rfl) rfl ?_
    refine lo (wanted_n rfl rfl (c := false) rfl rfl) rfl ?_
    refine ly (wanted_y rfl rfl rfl a2) rfl (HStep.of_val (v := (.bool false)) (hv_pick (t := false) rfl rfl) ?_)
    refine lv rfl rfl (v := (.bool false)) (hv_pick_f rfl a2 rfl) (lv rfl rfl (va rfl) ?_)
    refine ln (qn ?_)
    exact ⟨rfl, (hc (show ((.bool false) : Value) = (.bool ((decide (a0 < a1)) || ((a0 == a1) && ((decide (a3 ≥ 0)) && (decide (a3 < a4)))))) from (by first | rfl | ((try rw [a2]); (try rw [a6]); all_goals first | rfl | (simp only [Bool.true_or, Bool.or_true, Bool.false_or, Bool.or_false, Bool.true_and, Bool.and_true, Bool.false_and, Bool.and_false, Bool.not_true, Bool.not_false, Bool.cond_true, Bool.cond_false]; done)) | simp [a2, a6])) hn)⟩
 ·rintro ρ _ ⟨rfl, hH⟩
  refine xh _ hH ?_
  refine xt ?_
  replace H := H h2 c7
  exact endQ_ret _ (res_one Tryd.results14 (rv_tmp rfl)) H
end Go.Proofs.YtfjcciaabkjkgaaDoor
namespace Go.Proofs.YtfjcciaabkjkgaaDoor
open Go Ml
def Ml.ahB (a b : Mv) : Bool := decide (ah a b)
theorem lkeyed_c (m : Mv) (h : Heap) : HC Tryd.prog 24 #[mvV m] h fun v h' => v = .bool (keyed m) ∧ Ext h h' :=
  f24_sh _ _ _ _ _ _ _ _ _ _ fun _ x => ⟨by simp [keyed, Bool.or_assoc], x⟩
theorem ahead_c (a b : Mv) (h : Heap) : HC Tryd.prog 12 #[mvV a, mvV b] h fun v h' => v = .bool (ahB a b) ∧ Ext h h' := by
  refine f12_sh _ _ _ _ _ _ _ _ _ _ _ _ _ _ _ _ _ _ ⟨fun g h2 x => ⟨?_, x⟩, fun g h2 x => ⟨?_, x⟩⟩
  · congr 1
    have : a.life ≠ b.life := by simpa using g
    unfold ahB ah
    exact decide_eq_decide.2 ⟨.inl, fun q => q.elim id fun q => absurd q.1 this⟩
  · congr 1
    have : a.life = b.life := by simpa using g
    unfold ahB ah
    rw [← Bool.decide_and]
    exact decide_eq_decide.2 ⟨fun q => .inr ⟨this, q⟩, fun q => q.elim (fun q => by omega) fun q => q.2⟩
theorem rahead_c (a b : Mv) (h : Heap) : HC Tryd.prog 14 #[mvV a, mvV b] h fun v h' => v = .bool (ahB a b) ∧ Ext h h' := by
  refine f14_sh _ _ _ _ _ _ _ _ _ _ _ _ _ _ _ _ _ _ fun h2 x => ⟨?_, x⟩
  congr 1
  unfold ahB ah
  rw [Bool.eq_iff_iff]
  simp only [Bool.or_eq_true, Bool.and_eq_true, beq_iff_eq, decide_eq_true_eq]
  exact ⟨fun q => decide_eq_true q, fun q => of_decide_eq_true q⟩
end Go.Proofs.YtfjcciaabkjkgaaDoor
namespace Go.Proofs.YtfjcciaabkjkgaaDoor
open Go
inductive PT where
  | done
  | one (i : Nat) (t : PT)
  | fork (is : List Nat) (t : Nat → PT)
end Go.Proofs.YtfjcciaabkjkgaaDoor
