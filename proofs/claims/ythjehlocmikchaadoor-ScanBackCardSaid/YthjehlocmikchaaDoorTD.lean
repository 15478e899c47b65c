/-
Shallow forms, written by gen2.py (a program of ours) out of the print of the program.
-/
import Derived.Test.YthjehlocmikchaaDoorDeq
import Derived.Test.YthjehlocmikchaaDoorDrw
import Derived.Test.YthjehlocmikchaaDoorRng
import Derived.Test.YthjehlocmikchaaDoorTBb
import Derived.Test.YthjehlocmikchaaDoorProg
namespace Go.Proofs.YthjehlocmikchaaDoor
open Go
open Go.Proofs.YthjehlocmikchaaDoor renaming hl_val → lv, hl_step → lp, hl_nil → ln, hl_yes → ly, hl_no → lo, hx_seq → xs, hx_region → xr, hx_cond → xc, hx_block → xb, hx_loopT → xl, hx_cut → xk, hx_has → xh, hx_skip → xi, hx_ret → xt, hx_exit → xe, seqQ_n → qn, seqQ_ret → qr, seqQ_exit → qe, blockQ_n → bn, blockQ_ret → br, blockQ_here → bh, hv_move → vm, hv_assign → va, hv_arith → vr, hv_load → vl, hv_loads → vL, hv_extract → vx, hv_field → vf, hv_build → vb, hv_index → vi, has_cons → hc, has_nil → hn, hcells_cons → cc, hcells_nil → cn, rowcell → rc, hs_call → sc
set_option maxRecDepth 100000
set_option maxHeartbeats 4000000

theorem TyTD.agg24 : aggB Tryd.prog 24 = some true := by kernel_rfl
theorem TyTD.agg25 : aggB Tryd.prog 25 = some false := by kernel_rfl
theorem TyTD.agg3 : aggB Tryd.prog 3 = some false := by kernel_rfl
theorem TyTD.agg31 : aggB Tryd.prog 31 = some true := by kernel_rfl
theorem TyTD.agg32 : aggB Tryd.prog 32 = some false := by kernel_rfl
theorem TyTD.agg36 : aggB Tryd.prog 36 = some true := by kernel_rfl
theorem TyTD.agg4 : aggB Tryd.prog 4 = some false := by kernel_rfl
theorem TyTD.agg45 : aggB Tryd.prog 45 = some true := by kernel_rfl
theorem TyTD.agg47 : aggB Tryd.prog 47 = some false := by kernel_rfl
theorem TyTD.agg48 : aggB Tryd.prog 48 = some false := by kernel_rfl
theorem TyTD.cb10 : CallB Tryd.prog 10 := fun _ _ => Tryd.call10 _ _
theorem TyTD.cb11 : CallB Tryd.prog 11 := fun _ _ => Tryd.call11 _ _
theorem TyTD.cb12 : CallB Tryd.prog 12 := fun _ _ => Tryd.call12 _ _
theorem TyTD.cb13 : CallB Tryd.prog 13 := fun _ _ => Tryd.call13 _ _
theorem TyTD.cb14 : CallB Tryd.prog 14 := fun _ _ => Tryd.call14 _ _
theorem TyTD.cb15 : CallB Tryd.prog 15 := fun _ _ => Tryd.call15 _ _
theorem TyTD.cb16 : CallB Tryd.prog 16 := fun _ _ => Tryd.call16 _ _
theorem TyTD.cb17 : CallB Tryd.prog 17 := fun _ _ => Tryd.call17 _ _
theorem TyTD.cb18 : CallB Tryd.prog 18 := fun _ _ => Tryd.call18 _ _
theorem TyTD.cb19 : CallB Tryd.prog 19 := fun _ _ => Tryd.call19 _ _
theorem TyTD.el32 : elB Tryd.prog 32 = some 7 := by kernel_rfl
theorem TyTD.fld27_0 : fldB Tryd.prog 27 0 = some 0 := by kernel_rfl
theorem TyTD.fld27_1 : fldB Tryd.prog 27 1 = some 4 := by kernel_rfl
theorem TyTD.fld31_2 : fldB Tryd.prog 31 2 = some 2 := by kernel_rfl
theorem TyTD.fld34_1 : fldB Tryd.prog 34 1 = some 1 := by kernel_rfl
theorem TyTD.fld36_1 : fldB Tryd.prog 36 1 = some 1 := by kernel_rfl
theorem TyTD.fld36_2 : fldB Tryd.prog 36 2 = some 2 := by kernel_rfl
theorem TyTD.fld36_3 : fldB Tryd.prog 36 3 = some 5 := by kernel_rfl
theorem TyTD.fld36_4 : fldB Tryd.prog 36 4 = some 6 := by kernel_rfl
theorem TyTD.fld50_0 : fldB Tryd.prog 50 0 = some 0 := by kernel_rfl
theorem TyTD.fld50_1 : fldB Tryd.prog 50 1 = some 4 := by kernel_rfl
theorem TyTD.fld50_2 : fldB Tryd.prog 50 2 = some 7 := by kernel_rfl
theorem TyTD.fld50_3 : fldB Tryd.prog 50 3 = some 8 := by kernel_rfl
theorem TyTD.gd45 : Tryd.prog.eqGuardType Tryd.prog.depth 45 = false := by kernel_rfl
theorem TyTD.pl45 : plB Tryd.prog 45 = some [(0, 1), (1, 1), (2, 1), (3, 4)] := by kernel_rfl
theorem TyTD.se31 : seB Tryd.prog 31 = some [(29, 0), (29, 1), (3, 2)] := by kernel_rfl
theorem TyTD.sz24 : szB Tryd.prog 24 = some 4 := by kernel_rfl
theorem TyTD.sz31 : szB Tryd.prog 31 = some 3 := by kernel_rfl
theorem TyTD.sz36 : szB Tryd.prog 36 = some 9 := by kernel_rfl
theorem TyTD.sz45 : szB Tryd.prog 45 = some 7 := by kernel_rfl
theorem TyTD.u32 : Tryd.prog.underlying 32 = some (.slice 45) := by kernel_rfl
theorem TyTD.z36 : zeroB Tryd.prog 36 (.agg #[(.int .i64 0), (.bool false), (.int .u64 0), (.int .u64 0), (.int .i64 0), (.slice none 0 0), (.int .i64 0), (.int .i64 0), (.bool false)]) := by unfold zeroB; kernel_rfl
theorem TyTD.z45 : zeroB Tryd.prog 45 (.agg #[(.int .i64 0), (.int .i64 0), (.int .i64 0), (.int .i64 0), (.int .u64 0), (.string ByteArray.empty), (.string ByteArray.empty)]) := by unfold zeroB; kernel_rfl
theorem ext_pushed_f5_sh {h h1 : Heap} {o : Obj} (e : h1 = Array.push h o) : Ext h h1 := by rw [e]; exact Ext.push _ _
theorem f3_sh  (h : Heap) (R : Value → Heap → Prop)
  (H : HC Tryd.prog 10 #[] h (fun vv h1 => Ext h h1 ∧ ∃ r : Bool, vv = (.bool r) ∧ R (.bool (bif bif bif bif bif r then true else false then true else false then true else false then true else false then true else false)) h1)) :
  HC Tryd.prog 3 #[] h R := by
 refine hc_of (args := []) Tryd.func3 rfl Tryd.ntmps3 (Nat.le_of_ble_eq_true rfl) ?_
 refine xs (xr ?_)
 refine lv rfl rfl (va rfl) ?_
 refine ln (qn (xs (xr ?_)))
 refine lp rfl rfl (sc TyTD.cb10 rfl (HC.mono H ?_))
 rintro _ h1 ⟨a0, r, rfl, H⟩
 refine lv rfl rfl (vm rfl) (lv rfl rfl (v := (.bool (bif r then true else false))) (hv_pickB rfl rfl rfl) (lv rfl rfl (vm rfl) (lv rfl rfl (v := (.bool (bif bif r then true else false then true else false))) (hv_pickB rfl rfl rfl) (lv rfl rfl (vm rfl) (lv rfl rfl (v := (.bool (bif bif bif r then true else false then true else false then true else false))) (hv_pickB rfl rfl rfl) ?_)))))
 refine lv rfl rfl (vm rfl) (lv rfl rfl (v := (.bool (bif bif bif bif r then true else false then true else false then true else false then true else false))) (hv_pickB rfl rfl rfl) (lv rfl rfl (vm rfl) (lv rfl rfl (v := (.bool (bif bif bif bif bif r then true else false then true else false then true else false then true else false then true else false))) (hv_pickB rfl rfl rfl) (lv rfl rfl (va rfl) ?_))))
 refine ln (qn (xt ?_))
 exact endQ_ret _ (res_one Tryd.results3 (rv_tmp rfl)) H
theorem f4_sh (d2 : Int) (c6 : Int) (b7 : Int) (c5 : Int) (e5 : Option Addr) (d7 : Nat) (d5 : Nat) (f2 : Int) (h : Heap) (R : Value → Heap → Prop)
  (H : (∀ (b : Nat) (h1 : Heap), Array.size h ≤ b → b < Array.size h1 → Ext h h1 → HC Tryd.prog 10 #[] h1 (fun vv h2 => Ext h1 h2 ∧ ∃ r : Bool, vv = (.bool r) ∧ (((!r) = true → R (.bool false) h2) ∧ ((!r) = false → HC Tryd.prog 11 #[(.slice e5 d7 d5)] h2 (fun vv h3 => Ext h2 h3 ∧ ∃ g3 : Option Addr, ∃ g6 g5 : Nat, vv = (.slice g3 g6 g5) ∧ HC Tryd.prog 12 #[(.agg #[(.int .i64 d2), (.int .i64 c6), (.int .i64 b7), (.int .i64 c5)]), (.int .i64 f2), (.slice g3 g6 g5)] h3 (fun vv h4 => Ext h3 h4 ∧ ∃ d4 : Int, ∃ e8 : Bool, ∃ b8 a6 b1 : Int, ∃ b2 : Option Addr, ∃ a0 a7 : Nat, ∃ d3 c7 : Int, ∃ d6 : Bool, ∃ r1 : Int, vv = (.tuple #[(.agg #[(.int .i64 d4), (.bool e8), (.int .u64 b8), (.int .u64 a6), (.int .i64 b1), (.slice b2 a0 a7), (.int .i64 d3), (.int .i64 c7), (.bool d6)]), (.int .i64 r1)]) ∧ (∀ (sv : Nat) (h6 : Heap), Array.size h4 ≤ sv → sv < Array.size h6 → Ext h4 h6 → HC Tryd.prog 13 #[(.agg #[(.int .i64 d2), (.int .i64 c6), (.int .i64 b7), (.int .i64 c5)]), (.int .i64 f2), (.slice e5 d7 d5)] h6 (fun vv h7 => Ext h6 h7 ∧ ∃ b4 : Int, ∃ d1 : Bool, ∃ a3 a1 a2 : Int, ∃ b0 : Option Addr, ∃ a5 a4 : Nat, ∃ b6 a9 : Int, ∃ b5 : Bool, ∃ f1 : Int, vv = (.tuple #[(.agg #[(.int .i64 b4), (.bool d1), (.int .u64 a3), (.int .u64 a1), (.int .i64 a2), (.slice b0 a5 a4), (.int .i64 b6), (.int .i64 a9), (.bool b5)]), (.int .i64 f1)]) ∧ (∃ i4 : Bool → Heap → Prop, (∀ (f5 : Nat) (h9 : Heap), Array.size h7 ≤ f5 → f5 < Array.size h9 → Ext h7 h9 → HC Tryd.prog 14 #[(.agg #[(.int .i64 d4), (.bool e8), (.int .u64 b8), (.int .u64 a6), (.int .i64 b1), (.slice b2 a0 a7), (.int .i64 d3), (.int .i64 c7), (.bool d6)]), (.agg #[(.int .i64 b4), (.bool d1), (.int .u64 a3), (.int .u64 a1), (.int .i64 a2), (.slice b0 a5 a4), (.int .i64 b6), (.int .i64 a9), (.bool b5)])] h9 (fun vv i2 => Kp [b, sv, f5] h9 i2 ∧ ∃ i0 : Bool, vv = (.bool i0) ∧ (((!i0) = true → (i4 true i2)) ∧ ((!i0) = false → (((r1 != f1) = true → (i4 true i2)) ∧ ((r1 != f1) = false → (∃ i3 : Bool, HC Tryd.prog 15 #[(.slice g3 g6 g5), (.slice e5 d7 d5)] i2 (fun vv h' => vv = (.bool i3) ∧ h' = i2) ∧ (i4 (!i3) i2)))))))) ∧ (∀ (j : Bool) (i5 : Heap), i4 j i5 → ∀ (f5 : Nat), Array.size h7 ≤ f5 → f5 < Array.size i5 → ((j = true → R (.bool false) i5) ∧ (j = false → (∃ (j8 : Int → Heap → Prop) (i8 : Int → Heap → Nat), j8 0 i5 ∧ (∀ (v : Int) (g9 : Heap), j8 v g9 → (((decide (v < (a0 : Int))) = true → (∃ b3 c0 : Nat, b2 = some ⟨b3, c0, none⟩ ∧ (0 : Int) ≤ v ∧ v < (a0 : Int) ∧ (HWs g9 b3 (c0 + (Int.toNat v) * 7) 7 ∧ Off b3 [b, sv, f5] ∧ ∀ j7, j7 = hsets g9 b3 (c0 + (Int.toNat v) * 7) [(.int .i64 0), (.int .i64 (IntKind.i64.wrap ((-1) - v))), (.int .i64 0), (.int .i64 0), (.int .u64 0), (.string ByteArray.empty), (.string ByteArray.empty)] → (j8 (IntKind.i64.wrap (v + 1)) j7 ∧ i8 (IntKind.i64.wrap (v + 1)) j7 < i8 v g9)))) ∧ ((decide (v < (a0 : Int))) = false → HC Tryd.prog 12 #[(.agg #[(.int .i64 d2), (.int .i64 c6), (.int .i64 b7), (.int .i64 c5)]), (.int .i64 f2), (.slice g3 g6 g5)] g9 (fun vv j9 => Ext g9 j9 ∧ ∃ d9 : Int, ∃ e7 : Bool, ∃ c1 a8 b9 : Int, ∃ c9 : Option Addr, ∃ c3 c2 : Nat, ∃ d8 c8 : Int, ∃ e0 : Bool, ∃ g1 : Int, vv = (.tuple #[(.agg #[(.int .i64 d9), (.bool e7), (.int .u64 c1), (.int .u64 a8), (.int .i64 b9), (.slice c9 c3 c2), (.int .i64 d8), (.int .i64 c8), (.bool e0)]), (.int .i64 g1)]) ∧ (∃ j6 : Bool → Heap → Prop, (∀ (i6 : Heap), Ext j9 i6 → HC Tryd.prog 14 #[(.agg #[(.int .i64 d9), (.bool e7), (.int .u64 c1), (.int .u64 a8), (.int .i64 b9), (.slice c9 c3 c2), (.int .i64 d8), (.int .i64 c8), (.bool e0)]), (.agg #[(.int .i64 b4), (.bool d1), (.int .u64 a3), (.int .u64 a1), (.int .i64 a2), (.slice b0 a5 a4), (.int .i64 b6), (.int .i64 a9), (.bool b5)])] i6 (fun vv l6 => Kp [sv] i6 l6 ∧ ∃ i1 : Bool, vv = (.bool i1) ∧ (((!i1) = true → (j6 true l6)) ∧ ((!i1) = false → (j6 (g1 != f1) l6))))) ∧ (∀ (g8 : Bool) (g4 : Heap), j6 g8 g4 → ((g8 = true → R (.bool false) g4) ∧ (g8 = false → (∃ (j5 : Int → Prop) (j1 : Int → Nat), j5 0 ∧ (∀ (e4 : Int), j5 e4 → (((decide (e4 < (a0 : Int))) = true → (∃ b3 c0 : Nat, b2 = some ⟨b3, c0, none⟩ ∧ (0 : Int) ≤ e4 ∧ e4 < (a0 : Int) ∧ (∃ e9 f0 f6 e1 c4 : Int, ∃ e2 d0 : ByteArray, hcell g4 b3 (c0 + (Int.toNat e4) * 7) = some (.int .i64 e9) ∧ hcell g4 b3 ((c0 + (Int.toNat e4) * 7) + 1) = some (.int .i64 f0) ∧ hcell g4 b3 ((c0 + (Int.toNat e4) * 7) + 2) = some (.int .i64 f6) ∧ hcell g4 b3 ((c0 + (Int.toNat e4) * 7) + 3) = some (.int .i64 e1) ∧ hcell g4 b3 ((c0 + (Int.toNat e4) * 7) + 4) = some (.int .u64 c4) ∧ hcell g4 b3 ((c0 + (Int.toNat e4) * 7) + 5) = some (.string e2) ∧ hcell g4 b3 ((c0 + (Int.toNat e4) * 7) + 6) = some (.string d0) ∧ (((!((e9 == 0 && (f0 == (IntKind.i64.wrap ((-1) - e4)) && (f6 == 0 && ((e1 == 0 && (c4 == 0 && (e2 == ByteArray.empty && (d0 == ByteArray.empty && true)))) && true)))))) = true → R (.bool false) g4) ∧ ((!((e9 == 0 && (f0 == (IntKind.i64.wrap ((-1) - e4)) && (f6 == 0 && ((e1 == 0 && (c4 == 0 && (e2 == ByteArray.empty && (d0 == ByteArray.empty && true)))) && true)))))) = false → (j5 (IntKind.i64.wrap (e4 + 1)) ∧ j1 (IntKind.i64.wrap (e4 + 1)) < j1 e4)))))) ∧ ((decide (e4 < (a0 : Int))) = false → R (.bool true) g4)))))))))))))))))))))))))) :
  HC Tryd.prog 4 #[(.agg #[(.int .i64 d2), (.int .i64 c6), (.int .i64 b7), (.int .i64 c5), (.slice e5 d7 d5)]), (.int .i64 f2)] h R := by
 refine hc_of (args := [(.agg #[(.int .i64 d2), (.int .i64 c6), (.int .i64 b7), (.int .i64 c5), (.slice e5 d7 d5)]), (.int .i64 f2)]) Tryd.func4 rfl Tryd.ntmps4 (Nat.le_of_ble_eq_true rfl) ?_
 refine xs (xr ?_)
 refine lp rfl rfl (hn_box (v := (.agg #[(.int .i64 d2), (.int .i64 c6), (.int .i64 b7), (.int .i64 c5), (.slice e5 d7 d5)])) rfl ?_)
 intro b h1 n4 n2
 have q7 := ext_pushed_f5_sh n2
 have r2 : Array.size h ≤ b := Nat.le_of_eq (Eq.symm n4)
 have e6 : h1[b]? = some (.cells #[(.int .i64 d2), (.int .i64 c6), (.int .i64 b7), (.int .i64 c5), (.slice e5 d7 d5)] 27 (0, 0)) := by rw [n2]; exact push_new n4
 refine lv rfl rfl (va rfl) ?_
 refine ln (qn (xs (xs (xr ?_))))
 replace H := H b h1 r2 (row_lt e6) q7
 refine lp rfl rfl (sc TyTD.cb10 rfl (HC.mono H ?_))
 rintro _ h2 ⟨r0, r, rfl, H⟩
 replace e6 := Ext.row r0 e6
 refine lv rfl rfl (v := (.bool (!r))) (hv_not (b := r) rfl) ?_
 refine ln (qn ?_)
 refine xc (b := !r) rfl (fun n0 => ?_) (fun n0 => ?_)
 ·replace H := H.1 n0
  refine xs (xr ?_)
  refine lv rfl rfl (va rfl) ?_
  refine ln (qn (xt (qr ?_)))
  exact endQ_ret _ (res_one Tryd.results4 (rv_tmp rfl)) H
 ·replace H := H.2 n0
  refine xi (qn (xs (xr ?_)))
  refine lv rfl rfl (v := (ptr b 4)) (vf TyTD.fld27_1 (b := b) (o := 0) rfl) (lv rfl rfl (vl TyTD.agg25 rfl (rc e6 rfl)) ?_)
  refine lp rfl rfl (sc TyTD.cb11 rfl (HC.mono H ?_))
  rintro _ h3 ⟨q8, g3, g6, g5, rfl, H⟩
  replace e6 := Ext.row q8 e6
  refine lv rfl rfl (va rfl) ?_
  refine ln (qn (xs (xr ?_)))
  refine lv rfl rfl (v := (ptr b 0)) (vf TyTD.fld27_0 (b := b) (o := 0) rfl) (lv rfl rfl (vL (vs := [(.int .i64 d2), (.int .i64 c6), (.int .i64 b7), (.int .i64 c5)]) TyTD.agg24 TyTD.sz24 rfl (cc (rc e6 rfl) (cc (rc e6 rfl) (cc (rc e6 rfl) (cc (rc e6 rfl) cn))))) (lv rfl rfl (vm rfl) (lv rfl rfl (vm rfl) ?_)))
  refine lp rfl rfl (sc TyTD.cb12 rfl (HC.mono H ?_))
  rintro _ h4 ⟨q9, d4, e8, b8, a6, b1, b2, a0, a7, d3, c7, d6, r1, rfl, H⟩
  replace e6 := Ext.row q9 e6
  refine lv rfl rfl (vm rfl) (lv rfl rfl (vx rfl rfl) (lv rfl rfl (vx rfl rfl) ?_))
  refine lp rfl rfl (hn_alloc TyTD.z36 ?_)
  intro sv h5 k1 m4
  have l9 := ext_pushed_f5_sh m4
  have q5 := Nat.ne_of_lt (Nat.lt_of_lt_of_eq (row_lt e6) (Eq.symm k1))
  have m2 : Array.size h4 ≤ sv := Nat.le_of_eq (Eq.symm k1)
  have m3 : h5[sv]? = some (.cells #[(.int .i64 0), (.bool false), (.int .u64 0), (.int .u64 0), (.int .i64 0), (.slice none 0 0), (.int .i64 0), (.int .i64 0), (.bool false)] 36 (0, 0)) := by rw [m4]; exact push_new k1
  replace e6 := Ext.row l9 e6
  refine lp rfl rfl (hn_stores (vs := [(.int .i64 d4), (.bool e8), (.int .u64 b8), (.int .u64 a6), (.int .i64 b1), (.slice b2 a0 a7), (.int .i64 d3), (.int .i64 c7), (.bool d6)]) rfl rfl TyTD.sz36 rfl (HWs_row m3 (by simp)) ?_)
  intro h6 l5
  replace e6 := row_hsets_ne l5 q5 e6
  have e3 : h6[sv]? = some (.cells #[(.int .i64 d4), (.bool e8), (.int .u64 b8), (.int .u64 a6), (.int .i64 b1), (.slice b2 a0 a7), (.int .i64 d3), (.int .i64 c7), (.bool d6)] 36 (0, 0)) := row_hsets_eq l5 m3 (by simp [sets])
  have n9 := ext_hsets l5 l9 m2
  refine lv rfl rfl (va rfl) ?_
  refine ln (qn (xs (xr ?_)))
  refine lv rfl rfl (v := (ptr b 0)) (vf TyTD.fld27_0 (b := b) (o := 0) rfl) (lv rfl rfl (vL (vs := [(.int .i64 d2), (.int .i64 c6), (.int .i64 b7), (.int .i64 c5)]) TyTD.agg24 TyTD.sz24 rfl (cc (rc e6 rfl) (cc (rc e6 rfl) (cc (rc e6 rfl) (cc (rc e6 rfl) cn))))) (lv rfl rfl (vm rfl) (lv rfl rfl (v := (ptr b 4)) (vf TyTD.fld27_1 (b := b) (o := 0) rfl) (lv rfl rfl (vl TyTD.agg25 rfl (rc e6 rfl)) ?_))))
  replace H := H sv h6 m2 (row_lt e3) n9
  refine lp rfl rfl (sc TyTD.cb13 rfl (HC.mono H ?_))
  rintro _ h7 ⟨l8, b4, d1, a3, a1, a2, b0, a5, a4, b6, a9, b5, f1, rfl, H⟩
  replace e6 := Ext.row l8 e6
  replace e3 := Ext.row l8 e3
  refine lv rfl rfl (vm rfl) (lv rfl rfl (vx rfl rfl) (lv rfl rfl (vx rfl rfl) ?_))
  refine lp rfl rfl (hn_alloc TyTD.z36 ?_)
  intro f5 h8 j2 l7
  have k9 := ext_pushed_f5_sh l7
  have o1 := Nat.ne_of_lt (Nat.lt_of_lt_of_eq (row_lt e6) (Eq.symm j2))
  have p8 := Nat.ne_of_lt (Nat.lt_of_lt_of_eq (row_lt e3) (Eq.symm j2))
  have k0 : Array.size h7 ≤ f5 := Nat.le_of_eq (Eq.symm j2)
  have m0 : h8[f5]? = some (.cells #[(.int .i64 0), (.bool false), (.int .u64 0), (.int .u64 0), (.int .i64 0), (.slice none 0 0), (.int .i64 0), (.int .i64 0), (.bool false)] 36 (0, 0)) := by rw [l7]; exact push_new j2
  replace e6 := Ext.row k9 e6
  replace e3 := Ext.row k9 e3
  refine lp rfl rfl (hn_stores (vs := [(.int .i64 b4), (.bool d1), (.int .u64 a3), (.int .u64 a1), (.int .i64 a2), (.slice b0 a5 a4), (.int .i64 b6), (.int .i64 a9), (.bool b5)]) rfl rfl TyTD.sz36 rfl (HWs_row m0 (by simp)) ?_)
  intro h9 j3
  replace e6 := row_hsets_ne j3 o1 e6
  replace e3 := row_hsets_ne j3 p8 e3
  have f4 : h9[f5]? = some (.cells #[(.int .i64 b4), (.bool d1), (.int .u64 a3), (.int .u64 a1), (.int .i64 a2), (.slice b0 a5 a4), (.int .i64 b6), (.int .i64 a9), (.bool b5)] 36 (0, 0)) := row_hsets_eq j3 m0 (by simp [sets])
  have q2 := ext_hsets j3 k9 k0
  refine lv rfl rfl (va rfl) ?_
  refine ln (qn (xs ?_))
  obtain ⟨i4, l0, l2⟩ := H
  refine xk (fun ρ h' => ∃ j : Bool, (i4 j h' ∧ h'[b]? = some (.cells #[(.int .i64 d2), (.int .i64 c6), (.int .i64 b7), (.int .i64 c5), (.slice e5 d7 d5)] 27 (0, 0)) ∧ h'[sv]? = some (.cells #[(.int .i64 d4), (.bool e8), (.int .u64 b8), (.int .u64 a6), (.int .i64 b1), (.slice b2 a0 a7), (.int .i64 d3), (.int .i64 c7), (.bool d6)] 36 (0, 0)) ∧ h'[f5]? = some (.cells #[(.int .i64 b4), (.bool d1), (.int .u64 a3), (.int .u64 a1), (.int .i64 a2), (.slice b0 a5 a4), (.int .i64 b6), (.int .i64 a9), (.bool b5)] 36 (0, 0)) ∧ True) ∧ Has ρ [(1, (.int .i64 f2)), (2, (ptr b 0)), (5, (.slice g3 g6 g5)), (6, (ptr sv 0)), (8, (ptr f5 0)), (9, (.int .i64 f1)), (50, (.bool j))]) ?_ ?_
  ·have H := l0; clear l0 l2
   refine xr ?_
   refine lv rfl rfl (vL (vs := [(.int .i64 d4), (.bool e8), (.int .u64 b8), (.int .u64 a6), (.int .i64 b1), (.slice b2 a0 a7), (.int .i64 d3), (.int .i64 c7), (.bool d6)]) TyTD.agg36 TyTD.sz36 rfl (cc (rc e3 rfl) (cc (rc e3 rfl) (cc (rc e3 rfl) (cc (rc e3 rfl) (cc (rc e3 rfl) (cc (rc e3 rfl) (cc (rc e3 rfl) (cc (rc e3 rfl) (cc (rc e3 rfl) cn)))))))))) (lv rfl rfl (vL (vs := [(.int .i64 b4), (.bool d1), (.int .u64 a3), (.int .u64 a1), (.int .i64 a2), (.slice b0 a5 a4), (.int .i64 b6), (.int .i64 a9), (.bool b5)]) TyTD.agg36 TyTD.sz36 rfl (cc (rc f4 rfl) (cc (rc f4 rfl) (cc (rc f4 rfl) (cc (rc f4 rfl) (cc (rc f4 rfl) (cc (rc f4 rfl) (cc (rc f4 rfl) (cc (rc f4 rfl) (cc (rc f4 rfl) cn)))))))))) ?_)
   replace H := H f5 h9 k0 (row_lt f4) q2
   refine lp rfl rfl (sc TyTD.cb14 rfl (HC.mono H ?_))
   rintro _ i2 ⟨k2, i0, rfl, H⟩
   replace e6 := Kp.row k2 (by simp) e6
   replace e3 := Kp.row k2 (by simp) e3
   replace f4 := Kp.row k2 (by simp) f4
   refine lv rfl rfl (v := (.bool (!i0))) (hv_not (b := i0) rfl) (lv rfl rfl (vm rfl) ?_)
   rcases bool_or (!i0) with g0 | g0
   ·replace H := H.1 g0
    refine lo (wanted_n rfl rfl rfl g0) rfl ?_
    refine lo (wanted_n rfl rfl rfl g0) rfl ?_
    refine lo (wanted_n rfl rfl rfl g0) rfl ?_
    refine lv rfl rfl (v := (.bool true)) (hv_pick_t rfl g0 rfl) (lv rfl rfl (vm rfl) ?_)
    refine lo (wanted_n rfl rfl (c := true) rfl rfl) rfl ?_
    refine lo (wanted_n rfl rfl (c := true) rfl rfl) rfl ?_
    refine lo (wanted_n rfl rfl (c := true) rfl rfl) rfl ?_
    refine lo (wanted_n rfl rfl (c := true) rfl rfl) rfl ?_
    refine lo (wanted_n rfl rfl (c := true) rfl rfl) rfl ?_
    refine lv rfl rfl (v := (.bool true)) (hv_pick (t := true) rfl rfl) ?_
    refine ln (qn ?_)
    exact ⟨_, ⟨H, e6, e3, f4, trivial⟩, (hc rfl (hc rfl (hc rfl (hc rfl (hc rfl (hc rfl (hc rfl hn)))))))⟩
   ·replace H := H.2 g0
    refine ly (wanted_y rfl rfl rfl g0) rfl (HStep.of_val (v := (.int .i64 r1)) (vm rfl) ?_)
    refine ly (wanted_y rfl rfl rfl g0) rfl (HStep.of_val (v := (.int .i64 f1)) (vm rfl) ?_)
    refine ly (wanted_y rfl rfl rfl g0) rfl (HStep.of_val (v := (.bool (r1 != f1))) (vr rfl rfl rfl) ?_)
    refine lv rfl rfl (v := (.bool (r1 != f1))) (hv_pick_f rfl g0 rfl) (lv rfl rfl (vm rfl) ?_)
    rcases bool_or (r1 != f1) with f7 | f7
    ·replace H := H.1 f7
     refine lo (wanted_n rfl rfl rfl f7) rfl ?_
     refine lo (wanted_n rfl rfl rfl f7) rfl ?_
     refine lo (wanted_n rfl rfl rfl f7) rfl ?_
     refine lo (wanted_n rfl rfl rfl f7) rfl ?_
     refine lo (wanted_n rfl rfl rfl f7) rfl ?_
     refine lv rfl rfl (v := (.bool true)) (hv_pick_t rfl f7 rfl) ?_
     refine ln (qn ?_)
     exact ⟨_, ⟨H, e6, e3, f4, trivial⟩, (hc rfl (hc rfl (hc rfl (hc rfl (hc rfl (hc rfl (hc rfl hn)))))))⟩
    ·replace H := H.2 f7
     refine ly (wanted_y rfl rfl rfl f7) rfl (HStep.of_val (v := (.slice g3 g6 g5)) (vm rfl) ?_)
     refine ly (wanted_y rfl rfl rfl f7) rfl (HStep.of_val (v := (ptr b 4)) (vf TyTD.fld27_1 (b := b) (o := 0) rfl) ?_)
     refine ly (wanted_y rfl rfl rfl f7) rfl (HStep.of_val (v := (.slice e5 d7 d5)) (vl TyTD.agg25 rfl (rc e6 rfl)) ?_)
     obtain ⟨i3, p1, H⟩ := H
     refine ly (wanted_y rfl rfl rfl f7) rfl (HStep.of_val (v := (.bool i3)) (hv_call TyTD.cb15 (vs := [(.slice g3 g6 g5), (.slice e5 d7 d5)]) rfl p1) ?_)
     refine ly (wanted_y rfl rfl rfl f7) rfl (HStep.of_val (v := (.bool (!i3))) (hv_not (b := i3) rfl) ?_)
     refine lv rfl rfl (v := (.bool (!i3))) (hv_pick_f rfl f7 rfl) ?_
     refine ln (qn ?_)
     exact ⟨_, ⟨H, e6, e3, f4, trivial⟩, (hc rfl (hc rfl (hc rfl (hc rfl (hc rfl (hc rfl (hc rfl hn)))))))⟩
  ·rintro ρ i5 ⟨j, ⟨o4, p4, m5, m6, -⟩, hH⟩
   have H := l2 j i5 o4; clear l0 l2
   refine xh _ hH ?_
   replace H := H f5 k0 (row_lt m6)
   refine xc (b := j) rfl (fun l3 => ?_) (fun l3 => ?_)
   ·replace H := H.1 l3
    refine xs (xr ?_)
    refine lv rfl rfl (va rfl) ?_
    refine ln (qn (xt (qr ?_)))
    exact endQ_ret _ (res_one Tryd.results4 (rv_tmp rfl)) H
   ·replace H := H.2 l3
    refine xi (qn (xs (xs (xr ?_))))
    refine lv rfl rfl (v := (ptr sv 5)) (vf TyTD.fld36_3 (b := sv) (o := 0) rfl) (lv rfl rfl (vl TyTD.agg32 rfl (rc m5 rfl)) (lv rfl rfl (v := (.int .i64 (a0 : Int))) (hv_len (n := a0) TyTD.u32 rfl) (lv rfl rfl (vm rfl) ?_)))
    refine ln (qn (xb ?_))
    obtain ⟨j8, i8, o0, n5⟩ := H
    refine xl (σ := Int) (fun s => [(1, (.int .i64 f2)), (2, (ptr b 0)), (5, (.slice g3 g6 g5)), (6, (ptr sv 0)), (8, (ptr f5 0)), (9, (.int .i64 f1)), (53, (.int .i64 (a0 : Int))), (54, (.int .i64 s))]) (fun s h' => j8 s h' ∧ h'[b]? = some (.cells #[(.int .i64 d2), (.int .i64 c6), (.int .i64 b7), (.int .i64 c5), (.slice e5 d7 d5)] 27 (0, 0)) ∧ h'[sv]? = some (.cells #[(.int .i64 d4), (.bool e8), (.int .u64 b8), (.int .u64 a6), (.int .i64 b1), (.slice b2 a0 a7), (.int .i64 d3), (.int .i64 c7), (.bool d6)] 36 (0, 0)) ∧ h'[f5]? = some (.cells #[(.int .i64 b4), (.bool d1), (.int .u64 a3), (.int .u64 a1), (.int .i64 a2), (.slice b0 a5 a4), (.int .i64 b6), (.int .i64 a9), (.bool b5)] 36 (0, 0)) ∧ True) (fun s h' => i8 s h') 0 ⟨o0, p4, m5, m6, trivial⟩ (hc rfl (hc rfl (hc rfl (hc rfl (hc rfl (hc rfl (hc rfl (hc rfl hn)))))))) ?_
    rintro v ρ g9 ⟨q1, g7, f8, f3, -⟩
    have H := n5 v g9 q1
    refine xs (xr ?_)
    refine lv rfl rfl (vr rfl rfl rfl) ?_
    refine ln (qn (xs ?_))
    refine xc (b := decide (v < (a0 : Int))) rfl (fun k4 => ?_) (fun k4 => ?_)
    ·replace H := H.1 k4
     refine xi (qn (xs (xb (xs (xr ?_)))))
     refine lv rfl rfl (vm rfl) (lv rfl rfl (va rfl) ?_)
     refine ln (qn (xr ?_))
     refine lv rfl rfl (v := (ptr sv 5)) (vf TyTD.fld36_3 (b := sv) (o := 0) rfl) (lv rfl rfl (vl TyTD.agg32 rfl (rc f8 rfl)) (lv rfl rfl (vm rfl) (lv rfl rfl (vm rfl) (lv rfl rfl (vr rfl rfl rfl) (lv rfl rfl (v := (.agg #[(.int .i64 0), (.int .i64 (IntKind.i64.wrap ((-1) - v))), (.int .i64 0), (.int .i64 0), (.int .u64 0), (.string ByteArray.empty), (.string ByteArray.empty)])) (vb (vs := [(1, (.int .i64 (IntKind.i64.wrap ((-1) - v))))]) (cs := #[(.int .i64 0), (.int .i64 (IntKind.i64.wrap ((-1) - v))), (.int .i64 0), (.int .i64 0), (.int .u64 0), (.string ByteArray.empty), (.string ByteArray.empty)]) TyTD.z45 TyTD.pl45 rfl (by kernel_rfl)) ?_)))))
     obtain ⟨b3, c0, m7, p3, o9, Hq⟩ := H
     subst m7
     have H := Hq; clear Hq
     refine lv rfl rfl (v := (ptr b3 (c0 + (Int.toNat v) * 7))) (vi TyTD.el32 rfl rfl p3 o9) ?_
     obtain ⟨q0, k5, H⟩ := H
     refine lp rfl rfl (hn_stores (vs := [(.int .i64 0), (.int .i64 (IntKind.i64.wrap ((-1) - v))), (.int .i64 0), (.int .i64 0), (.int .u64 0), (.string ByteArray.empty), (.string ByteArray.empty)]) rfl rfl TyTD.sz45 rfl q0 ?_)
     intro j7 i7
     replace H := H j7 i7
     replace g7 := row_hsets_ne i7 (k5 _ (by simp)) g7
     replace f8 := row_hsets_ne i7 (k5 _ (by simp)) f8
     replace f3 := row_hsets_ne i7 (k5 _ (by simp)) f3
     refine ln (bn (qn (xr ?_)))
     refine lv rfl rfl (vr rfl rfl rfl) (lv rfl rfl (vm rfl) ?_)
     refine ln (qn ?_)
     exact ⟨IntKind.i64.wrap (v + 1), ⟨⟨H.1, g7, f8, f3, trivial⟩, H.2⟩, (hc rfl (hc rfl (hc rfl (hc rfl (hc rfl (hc rfl (hc rfl (hc rfl hn))))))))⟩
    ·replace H := H.2 k4
     refine xe (qe (qe (bh (qn (xs (xr ?_))))))
     refine lv rfl rfl (v := (ptr b 0)) (vf TyTD.fld27_0 (b := b) (o := 0) rfl) (lv rfl rfl (vL (vs := [(.int .i64 d2), (.int .i64 c6), (.int .i64 b7), (.int .i64 c5)]) TyTD.agg24 TyTD.sz24 rfl (cc (rc g7 rfl) (cc (rc g7 rfl) (cc (rc g7 rfl) (cc (rc g7 rfl) cn))))) (lv rfl rfl (vm rfl) (lv rfl rfl (vm rfl) ?_)))
     refine lp rfl rfl (sc TyTD.cb12 rfl (HC.mono H ?_))
     rintro _ j9 ⟨m1, d9, e7, c1, a8, b9, c9, c3, c2, d8, c8, e0, g1, rfl, H⟩
     replace f8 := Ext.row m1 f8
     replace f3 := Ext.row m1 f3
     refine lv rfl rfl (vm rfl) (lv rfl rfl (vx rfl rfl) (lv rfl rfl (vx rfl rfl) ?_))
     refine lp rfl rfl (hn_alloc TyTD.z36 ?_)
     intro j4 n3 i9 m8
     have l4 := ext_pushed_f5_sh m8
     have n7 := Nat.ne_of_lt (Nat.lt_of_lt_of_eq (row_lt f8) (Eq.symm i9))
     have q4 := Nat.ne_of_lt (Nat.lt_of_lt_of_eq (row_lt f3) (Eq.symm i9))
     have o2 : Array.size j9 ≤ j4 := Nat.le_of_eq (Eq.symm i9)
     have n1 : n3[j4]? = some (.cells #[(.int .i64 0), (.bool false), (.int .u64 0), (.int .u64 0), (.int .i64 0), (.slice none 0 0), (.int .i64 0), (.int .i64 0), (.bool false)] 36 (0, 0)) := by rw [m8]; exact push_new i9
     replace f8 := Ext.row l4 f8
     replace f3 := Ext.row l4 f3
     refine lp rfl rfl (hn_stores (vs := [(.int .i64 d9), (.bool e7), (.int .u64 c1), (.int .u64 a8), (.int .i64 b9), (.slice c9 c3 c2), (.int .i64 d8), (.int .i64 c8), (.bool e0)]) rfl rfl TyTD.sz36 rfl (HWs_row n1 (by simp)) ?_)
     intro i6 j0
     replace f8 := row_hsets_ne j0 n7 f8
     replace f3 := row_hsets_ne j0 q4 f3
     have f9 : i6[j4]? = some (.cells #[(.int .i64 d9), (.bool e7), (.int .u64 c1), (.int .u64 a8), (.int .i64 b9), (.slice c9 c3 c2), (.int .i64 d8), (.int .i64 c8), (.bool e0)] 36 (0, 0)) := row_hsets_eq j0 n1 (by simp [sets])
     have o3 := ext_hsets j0 l4 o2
     refine lv rfl rfl (va rfl) ?_
     refine ln (qn (xs ?_))
     obtain ⟨j6, k8, k6⟩ := H
     refine xk (fun ρ h' => ∃ g8 : Bool, (j6 g8 h' ∧ h'[sv]? = some (.cells #[(.int .i64 d4), (.bool e8), (.int .u64 b8), (.int .u64 a6), (.int .i64 b1), (.slice b2 a0 a7), (.int .i64 d3), (.int .i64 c7), (.bool d6)] 36 (0, 0)) ∧ True) ∧ Has ρ [(6, (ptr sv 0)), (81, (.bool g8))]) ?_ ?_
     ·have H := k8; clear k8 k6
      refine xr ?_
      refine lv rfl rfl (vL (vs := [(.int .i64 d9), (.bool e7), (.int .u64 c1), (.int .u64 a8), (.int .i64 b9), (.slice c9 c3 c2), (.int .i64 d8), (.int .i64 c8), (.bool e0)]) TyTD.agg36 TyTD.sz36 rfl (cc (rc f9 rfl) (cc (rc f9 rfl) (cc (rc f9 rfl) (cc (rc f9 rfl) (cc (rc f9 rfl) (cc (rc f9 rfl) (cc (rc f9 rfl) (cc (rc f9 rfl) (cc (rc f9 rfl) cn)))))))))) (lv rfl rfl (vL (vs := [(.int .i64 b4), (.bool d1), (.int .u64 a3), (.int .u64 a1), (.int .i64 a2), (.slice b0 a5 a4), (.int .i64 b6), (.int .i64 a9), (.bool b5)]) TyTD.agg36 TyTD.sz36 rfl (cc (rc f3 rfl) (cc (rc f3 rfl) (cc (rc f3 rfl) (cc (rc f3 rfl) (cc (rc f3 rfl) (cc (rc f3 rfl) (cc (rc f3 rfl) (cc (rc f3 rfl) (cc (rc f3 rfl) cn)))))))))) ?_)
      replace H := H i6 o3
      refine lp rfl rfl (sc TyTD.cb14 rfl (HC.mono H ?_))
      rintro _ l6 ⟨o5, i1, rfl, H⟩
      replace f8 := Kp.row o5 (by simp) f8
      refine lv rfl rfl (v := (.bool (!i1))) (hv_not (b := i1) rfl) (lv rfl rfl (vm rfl) ?_)
      rcases bool_or (!i1) with g2 | g2
      ·replace H := H.1 g2
       refine lo (wanted_n rfl rfl rfl g2) rfl ?_
       refine lo (wanted_n rfl rfl rfl g2) rfl ?_
       refine lo (wanted_n rfl rfl rfl g2) rfl ?_
       refine lv rfl rfl (v := (.bool true)) (hv_pick_t rfl g2 rfl) ?_
       refine ln (qn ?_)
       exact ⟨_, ⟨H, f8, trivial⟩, (hc rfl (hc rfl hn))⟩
      ·replace H := H.2 g2
       refine ly (wanted_y rfl rfl rfl g2) rfl (HStep.of_val (v := (.int .i64 g1)) (vm rfl) ?_)
       refine ly (wanted_y rfl rfl rfl g2) rfl (HStep.of_val (v := (.int .i64 f1)) (vm rfl) ?_)
       refine ly (wanted_y rfl rfl rfl g2) rfl (HStep.of_val (v := (.bool (g1 != f1))) (vr rfl rfl rfl) ?_)
       refine lv rfl rfl (v := (.bool (g1 != f1))) (hv_pick_f rfl g2 rfl) ?_
       refine ln (qn ?_)
       exact ⟨_, ⟨H, f8, trivial⟩, (hc rfl (hc rfl hn))⟩
     ·rintro ρ g4 ⟨g8, ⟨p7, m9, -⟩, hH⟩
      have H := k6 g8 g4 p7; clear k8 k6
      refine xh _ hH ?_
      refine xc (b := g8) rfl (fun k3 => ?_) (fun k3 => ?_)
      ·replace H := H.1 k3
       refine xs (xr ?_)
       refine lv rfl rfl (va rfl) ?_
       refine ln (qn (xt (qr ?_)))
       exact endQ_ret _ (res_one Tryd.results4 (rv_tmp rfl)) H
      ·replace H := H.2 k3
       refine xi (qn (xs (xs (xr ?_))))
       refine lv rfl rfl (v := (ptr sv 5)) (vf TyTD.fld36_3 (b := sv) (o := 0) rfl) (lv rfl rfl (vl TyTD.agg32 rfl (rc m9 rfl)) (lv rfl rfl (v := (.int .i64 (a0 : Int))) (hv_len (n := a0) TyTD.u32 rfl) (lv rfl rfl (vm rfl) ?_)))
       refine ln (qn (xb ?_))
       obtain ⟨j5, j1, p9, o7⟩ := H
       refine xl (σ := Int) (fun s => [(6, (ptr sv 0)), (84, (.int .i64 (a0 : Int))), (85, (.int .i64 s))]) (fun s h' => j5 s ∧ g4 = h') (fun s _ => j1 s) 0 ⟨p9, rfl⟩ (hc rfl (hc rfl (hc rfl hn))) ?_
       rintro e4 ρ _ ⟨p0, rfl⟩
       have H := o7 e4 p0
       refine xs (xr ?_)
       refine lv rfl rfl (vr rfl rfl rfl) ?_
       refine ln (qn (xs ?_))
       refine xc (b := decide (e4 < (a0 : Int))) rfl (fun l1 => ?_) (fun l1 => ?_)
       ·replace H := H.1 l1
        refine xi (qn (xs (xb (xs (xr ?_)))))
        refine lv rfl rfl (vm rfl) (lv rfl rfl (va rfl) ?_)
        refine ln (qn (xs (xr ?_)))
        refine lv rfl rfl (v := (ptr sv 5)) (vf TyTD.fld36_3 (b := sv) (o := 0) rfl) (lv rfl rfl (vl TyTD.agg32 rfl (rc m9 rfl)) (lv rfl rfl (vm rfl) ?_))
        obtain ⟨b3, c0, m7, q3, p2, Hq⟩ := H
        subst m7
        have H := Hq; clear Hq
        refine lv rfl rfl (v := (ptr b3 (c0 + (Int.toNat e4) * 7))) (vi TyTD.el32 rfl rfl q3 p2) ?_
        obtain ⟨e9, f0, f6, e1, c4, e2, d0, n8, q6, o6, n6, p6, o8, p5, H⟩ := H
        refine lv rfl rfl (vL (vs := [(.int .i64 e9), (.int .i64 f0), (.int .i64 f6), (.int .i64 e1), (.int .u64 c4), (.string e2), (.string d0)]) TyTD.agg45 TyTD.sz45 rfl (cc n8 (cc q6 (cc o6 (cc n6 (cc p6 (cc o8 (cc p5 cn)))))))) (lv rfl rfl (vm rfl) (lv rfl rfl (vr rfl rfl rfl) (lv rfl rfl (v := (.agg #[(.int .i64 0), (.int .i64 (IntKind.i64.wrap ((-1) - e4))), (.int .i64 0), (.int .i64 0), (.int .u64 0), (.string ByteArray.empty), (.string ByteArray.empty)])) (vb (vs := [(1, (.int .i64 (IntKind.i64.wrap ((-1) - e4))))]) (cs := #[(.int .i64 0), (.int .i64 (IntKind.i64.wrap ((-1) - e4))), (.int .i64 0), (.int .i64 0), (.int .u64 0), (.string ByteArray.empty), (.string ByteArray.empty)]) TyTD.z45 TyTD.pl45 rfl (by kernel_rfl)) (lv rfl rfl (v := (.bool (!((e9 == 0 && (f0 == (IntKind.i64.wrap ((-1) - e4)) && (f6 == 0 && ((e1 == 0 && (c4 == 0 && (e2 == ByteArray.empty && (d0 == ByteArray.empty && true)))) && true)))))))) (hv_structEqD (xs := [(.int .i64 e9), (.int .i64 f0), (.int .i64 f6), (.int .i64 e1), (.int .u64 c4), (.string e2), (.string d0)]) (ys := [(.int .i64 0), (.int .i64 (IntKind.i64.wrap ((-1) - e4))), (.int .i64 0), (.int .i64 0), (.int .u64 0), (.string ByteArray.empty), (.string ByteArray.empty)]) (b := (e9 == 0 && (f0 == (IntKind.i64.wrap ((-1) - e4)) && (f6 == 0 && ((e1 == 0 && (c4 == 0 && (e2 == ByteArray.empty && (d0 == ByteArray.empty && true)))) && true))))) TyTD.gd45 rfl rfl (by kernel_rfl) rfl) ?_))))
        refine ln (qn ?_)
        refine xc (b := !((e9 == 0 && (f0 == (IntKind.i64.wrap ((-1) - e4)) && (f6 == 0 && ((e1 == 0 && (c4 == 0 && (e2 == ByteArray.empty && (d0 == ByteArray.empty && true)))) && true)))))) rfl (fun k7 => ?_) (fun k7 => ?_)
        ·replace H := H.1 k7
         refine xs (xr ?_)
         refine lv rfl rfl (va rfl) ?_
         refine ln (qn (xt (br (qr (qr (br (qr ?_)))))))
         exact endQ_ret _ (res_one Tryd.results4 (rv_tmp rfl)) H
        ·replace H := H.2 k7
         refine xi (bn (qn (xr ?_)))
         refine lv rfl rfl (vr rfl rfl rfl) (lv rfl rfl (vm rfl) ?_)
         refine ln (qn ?_)
         exact ⟨IntKind.i64.wrap (e4 + 1), ⟨⟨H.1, rfl⟩, H.2⟩, (hc rfl (hc rfl (hc rfl hn)))⟩
       ·replace H := H.2 l1
        refine xe (qe (qe (bh (qn (xs (xr ?_))))))
        refine lv rfl rfl (va rfl) ?_
        refine ln (qn (xt ?_))
        exact endQ_ret _ (res_one Tryd.results4 (rv_tmp rfl)) H
theorem f5_sh (b0 : Int) (a8 : Int) (a6 : Int) (a9 : Int) (a3 : Int) (a0 : Int) (a1 : Int) (c2 : Option Addr) (b6 : Nat) (b7 : Nat) (d1 : Option Addr) (c5 : Nat) (c7 : Nat) (h : Heap) (R : Value → Heap → Prop)
  (H : (∀ (l : Nat) (h1 : Heap), Array.size h ≤ l → l < Array.size h1 → Ext h h1 → HC Tryd.prog 10 #[] h1 (fun vv h2 => Ext h1 h2 ∧ ∃ r : Bool, vv = (.bool r) ∧ (((!r) = true → R (.bool false) h2) ∧ ((!r) = false → HC Tryd.prog 16 #[(.agg #[(.int .i64 b0), (.int .i64 a8), (.int .i64 a6), (.int .i64 a9)])] h2 (fun vv h3 => Ext h2 h3 ∧ ∃ e1 : Int, vv = (.int .i64 e1) ∧ (((e1 != 0) = true → R (.bool true) h3) ∧ ((e1 != 0) = false → HC Tryd.prog 17 #[(.agg #[(.int .i64 b0), (.int .i64 a8), (.int .i64 a6), (.int .i64 a9)]), (.agg #[(.int .u64 a3), (.int .u64 a0), (.int .i64 a1)])] h3 (fun vv h4 => Ext h3 h4 ∧ ∃ r0 : Option Addr, ∃ d8 d9 : Nat, ∃ r1 : Int, vv = (.tuple #[(.slice r0 d8 d9), (.int .i64 r1)]) ∧ (((r1 != 0) = true → R (.bool true) h4) ∧ ((r1 != 0) = false → HC Tryd.prog 18 #[(.agg #[(.int .i64 b0), (.int .i64 a8), (.int .i64 a6), (.int .i64 a9)]), (.agg #[(.int .u64 a3), (.int .u64 a0), (.int .i64 a1)]), (.slice c2 b6 b7), (.slice d1 c5 c7)] h4 (fun vv h5 => Kp [l] h4 h5 ∧ ∃ d6 : Option Addr, ∃ c3 c4 : Nat, ∃ d5 : Option Addr, ∃ d3 d4 : Nat, vv = (.tuple #[(.slice d6 c3 c4), (.slice d5 d3 d4)]) ∧ HC Tryd.prog 12 #[(.agg #[(.int .i64 b0), (.int .i64 a8), (.int .i64 a6), (.int .i64 a9)]), (.int .i64 a1), (.slice d6 c3 c4)] h5 (fun vv h6 => Ext h5 h6 ∧ ∃ b9 : Int, ∃ b5 : Bool, ∃ a5 a2 a4 : Int, ∃ b4 : Option Addr, ∃ b2 b1 : Nat, ∃ b8 a7 : Int, ∃ c0 : Bool, ∃ c9 : Int, vv = (.tuple #[(.agg #[(.int .i64 b9), (.bool b5), (.int .u64 a5), (.int .u64 a2), (.int .i64 a4), (.slice b4 b2 b1), (.int .i64 b8), (.int .i64 a7), (.bool c0)]), (.int .i64 c9)]) ∧ (∃ j : Bool, (((c9 == 0) = true → ((b5 = true → ((((a5 == a3 && (a2 == a0 && (a4 == a1 && true)))) = true → (∀ (sv : Nat) (h8 : Heap), Array.size h6 ≤ sv → sv < Array.size h8 → Ext h6 h8 → (∃ e0 : Bool, HC Tryd.prog 19 #[(.slice b4 b2 b1), (.slice d5 d3 d4)] h8 (fun vv h' => vv = (.bool e0) ∧ h' = h8) ∧ ((e0 = true → (((a7 == 2) = true → (j = true)) ∧ ((a7 == 2) = false → (j = (a7 == 4))))) ∧ (e0 = false → (j = false)))))) ∧ (((a5 == a3 && (a2 == a0 && (a4 == a1 && true)))) = false → (j = false)))) ∧ (b5 = false → (j = false)))) ∧ ((c9 == 0) = false → (j = false))) ∧ (∀ (h8 : Heap), Ext h6 h8 → R (.bool j) h8))))))))))))))) :
  HC Tryd.prog 5 #[(.agg #[(.int .i64 b0), (.int .i64 a8), (.int .i64 a6), (.int .i64 a9), (.int .u64 a3), (.int .u64 a0), (.int .i64 a1), (.slice c2 b6 b7), (.slice d1 c5 c7)])] h R := by
 refine hc_of (args := [(.agg #[(.int .i64 b0), (.int .i64 a8), (.int .i64 a6), (.int .i64 a9), (.int .u64 a3), (.int .u64 a0), (.int .i64 a1), (.slice c2 b6 b7), (.slice d1 c5 c7)])]) Tryd.func5 rfl Tryd.ntmps5 (Nat.le_of_ble_eq_true rfl) ?_
 refine xs (xr ?_)
 refine lp rfl rfl (hn_box (v := (.agg #[(.int .i64 b0), (.int .i64 a8), (.int .i64 a6), (.int .i64 a9), (.int .u64 a3), (.int .u64 a0), (.int .i64 a1), (.slice c2 b6 b7), (.slice d1 c5 c7)])) rfl ?_)
 intro l h1 f4 f5
 have g1 := ext_pushed_f5_sh f5
 have g2 : Array.size h ≤ l := Nat.le_of_eq (Eq.symm f4)
 have b3 : h1[l]? = some (.cells #[(.int .i64 b0), (.int .i64 a8), (.int .i64 a6), (.int .i64 a9), (.int .u64 a3), (.int .u64 a0), (.int .i64 a1), (.slice c2 b6 b7), (.slice d1 c5 c7)] 50 (0, 0)) := by rw [f5]; exact push_new f4
 refine lv rfl rfl (va rfl) ?_
 refine ln (qn (xs (xs (xr ?_))))
 replace H := H l h1 g2 (row_lt b3) g1
 refine lp rfl rfl (sc TyTD.cb10 rfl (HC.mono H ?_))
 rintro _ h2 ⟨g4, r, rfl, H⟩
 replace b3 := Ext.row g4 b3
 refine lv rfl rfl (v := (.bool (!r))) (hv_not (b := r) rfl) ?_
 refine ln (qn ?_)
 refine xc (b := !r) rfl (fun f1 => ?_) (fun f1 => ?_)
 ·replace H := H.1 f1
  refine xs (xr ?_)
  refine lv rfl rfl (va rfl) ?_
  refine ln (qn (xt (qr ?_)))
  exact endQ_ret _ (res_one Tryd.results5 (rv_tmp rfl)) H
 ·replace H := H.2 f1
  refine xi (qn (xs (xs (xr ?_))))
  refine lv rfl rfl (v := (ptr l 0)) (vf TyTD.fld50_0 (b := l) (o := 0) rfl) (lv rfl rfl (vL (vs := [(.int .i64 b0), (.int .i64 a8), (.int .i64 a6), (.int .i64 a9)]) TyTD.agg24 TyTD.sz24 rfl (cc (rc b3 rfl) (cc (rc b3 rfl) (cc (rc b3 rfl) (cc (rc b3 rfl) cn))))) ?_)
  refine lp rfl rfl (sc TyTD.cb16 rfl (HC.mono H ?_))
  rintro _ h3 ⟨g3, e1, rfl, H⟩
  replace b3 := Ext.row g3 b3
  refine lv rfl rfl (vr rfl rfl rfl) ?_
  refine ln (qn ?_)
  refine xc (b := e1 != 0) rfl (fun e9 => ?_) (fun e9 => ?_)
  ·replace H := H.1 e9
   refine xs (xr ?_)
   refine lv rfl rfl (va rfl) ?_
   refine ln (qn (xt (qr ?_)))
   exact endQ_ret _ (res_one Tryd.results5 (rv_tmp rfl)) H
  ·replace H := H.2 e9
   refine xi (qn (xs (xs (xr ?_))))
   refine lv rfl rfl (v := (ptr l 0)) (vf TyTD.fld50_0 (b := l) (o := 0) rfl) (lv rfl rfl (vL (vs := [(.int .i64 b0), (.int .i64 a8), (.int .i64 a6), (.int .i64 a9)]) TyTD.agg24 TyTD.sz24 rfl (cc (rc b3 rfl) (cc (rc b3 rfl) (cc (rc b3 rfl) (cc (rc b3 rfl) cn))))) (lv rfl rfl (v := (ptr l 4)) (vf TyTD.fld50_1 (b := l) (o := 0) rfl) (lv rfl rfl (vL (vs := [(.int .u64 a3), (.int .u64 a0), (.int .i64 a1)]) TyTD.agg31 TyTD.sz31 rfl (cc (rc b3 rfl) (cc (rc b3 rfl) (cc (rc b3 rfl) cn)))) ?_)))
   refine lp rfl rfl (sc TyTD.cb17 rfl (HC.mono H ?_))
   rintro _ h4 ⟨f9, r0, d8, d9, r1, rfl, H⟩
   replace b3 := Ext.row f9 b3
   refine lv rfl rfl (vm rfl) (lv rfl rfl (vx rfl rfl) (lv rfl rfl (vx rfl rfl) (lv rfl rfl (va rfl) (lv rfl rfl (va rfl) ?_))))
   refine ln (qn (xs (xr ?_)))
   refine lv rfl rfl (vm rfl) (lv rfl rfl (vr rfl rfl rfl) ?_)
   refine ln (qn ?_)
   refine xc (b := r1 != 0) rfl (fun e4 => ?_) (fun e4 => ?_)
   ·replace H := H.1 e4
    refine xs (xr ?_)
    refine lv rfl rfl (va rfl) ?_
    refine ln (qn (xt (qr ?_)))
    exact endQ_ret _ (res_one Tryd.results5 (rv_tmp rfl)) H
   ·replace H := H.2 e4
    refine xi (qn (xs (xr ?_)))
    refine lv rfl rfl (v := (ptr l 0)) (vf TyTD.fld50_0 (b := l) (o := 0) rfl) (lv rfl rfl (vL (vs := [(.int .i64 b0), (.int .i64 a8), (.int .i64 a6), (.int .i64 a9)]) TyTD.agg24 TyTD.sz24 rfl (cc (rc b3 rfl) (cc (rc b3 rfl) (cc (rc b3 rfl) (cc (rc b3 rfl) cn))))) (lv rfl rfl (v := (ptr l 4)) (vf TyTD.fld50_1 (b := l) (o := 0) rfl) (lv rfl rfl (vL (vs := [(.int .u64 a3), (.int .u64 a0), (.int .i64 a1)]) TyTD.agg31 TyTD.sz31 rfl (cc (rc b3 rfl) (cc (rc b3 rfl) (cc (rc b3 rfl) cn)))) (lv rfl rfl (v := (ptr l 7)) (vf TyTD.fld50_2 (b := l) (o := 0) rfl) (lv rfl rfl (vl TyTD.agg47 rfl (rc b3 rfl)) ?_)))))
    refine lv rfl rfl (v := (ptr l 8)) (vf TyTD.fld50_3 (b := l) (o := 0) rfl) (lv rfl rfl (vl TyTD.agg48 rfl (rc b3 rfl)) ?_)
    refine lp rfl rfl (sc TyTD.cb18 rfl (HC.mono H ?_))
    rintro _ h5 ⟨g0, d6, c3, c4, d5, d3, d4, rfl, H⟩
    replace b3 := Kp.row g0 (by simp) b3
    refine lv rfl rfl (vm rfl) (lv rfl rfl (vx rfl rfl) (lv rfl rfl (vx rfl rfl) (lv rfl rfl (va rfl) (lv rfl rfl (va rfl) ?_))))
    refine ln (qn (xs (xr ?_)))
    refine lv rfl rfl (v := (ptr l 0)) (vf TyTD.fld50_0 (b := l) (o := 0) rfl) (lv rfl rfl (vL (vs := [(.int .i64 b0), (.int .i64 a8), (.int .i64 a6), (.int .i64 a9)]) TyTD.agg24 TyTD.sz24 rfl (cc (rc b3 rfl) (cc (rc b3 rfl) (cc (rc b3 rfl) (cc (rc b3 rfl) cn))))) (lv rfl rfl (v := (ptr l 4)) (vf TyTD.fld50_1 (b := l) (o := 0) rfl) (lv rfl rfl (v := (ptr l 6)) (vf TyTD.fld31_2 (b := l) (o := 4) rfl) (lv rfl rfl (vl TyTD.agg3 rfl (rc b3 rfl)) (lv rfl rfl (vm rfl) ?_)))))
    refine lp rfl rfl (sc TyTD.cb12 rfl (HC.mono H ?_))
    rintro _ h6 ⟨f7, b9, b5, a5, a2, a4, b4, b2, b1, b8, a7, c0, c9, rfl, H⟩
    replace b3 := Ext.row f7 b3
    refine lv rfl rfl (vm rfl) (lv rfl rfl (vx rfl rfl) (lv rfl rfl (vx rfl rfl) ?_))
    refine lp rfl rfl (hn_alloc TyTD.z36 ?_)
    intro sv h7 e5 f3
    have e8 := ext_pushed_f5_sh f3
    have f6 := Nat.ne_of_lt (Nat.lt_of_lt_of_eq (row_lt b3) (Eq.symm e5))
    have e7 : Array.size h6 ≤ sv := Nat.le_of_eq (Eq.symm e5)
    have f2 : h7[sv]? = some (.cells #[(.int .i64 0), (.bool false), (.int .u64 0), (.int .u64 0), (.int .i64 0), (.slice none 0 0), (.int .i64 0), (.int .i64 0), (.bool false)] 36 (0, 0)) := by rw [f3]; exact push_new e5
    replace b3 := Ext.row e8 b3
    refine lp rfl rfl (hn_stores (vs := [(.int .i64 b9), (.bool b5), (.int .u64 a5), (.int .u64 a2), (.int .i64 a4), (.slice b4 b2 b1), (.int .i64 b8), (.int .i64 a7), (.bool c0)]) rfl rfl TyTD.sz36 rfl (HWs_row f2 (by simp)) ?_)
    intro h8 e2
    replace b3 := row_hsets_ne e2 f6 b3
    have d2 : h8[sv]? = some (.cells #[(.int .i64 b9), (.bool b5), (.int .u64 a5), (.int .u64 a2), (.int .i64 a4), (.slice b4 b2 b1), (.int .i64 b8), (.int .i64 a7), (.bool c0)] 36 (0, 0)) := row_hsets_eq e2 f2 (by simp [sets])
    have f0 := ext_hsets e2 e8 e7
    refine lv rfl rfl (va rfl) ?_
    refine ln (qn ?_)
    obtain ⟨j, e3, e6⟩ := H
    refine xk (fun ρ h' => h8 = h' ∧ Has ρ [(2, (.bool j))]) ?_ ?_
    ·have H := e3; clear e3 e6
     refine xr ?_
     refine lv rfl rfl (vm rfl) (lv rfl rfl (vr rfl rfl rfl) (lv rfl rfl (vm rfl) ?_))
     rcases bool_or (c9 == 0) with d7 | d7
     ·replace H := H.1 d7
      refine ly (wanted_y rfl rfl rfl d7) rfl (HStep.of_val (v := (ptr sv 1)) (vf TyTD.fld36_1 (b := sv) (o := 0) rfl) ?_)
      refine ly (wanted_y rfl rfl rfl d7) rfl (HStep.of_val (v := (.bool b5)) (vl TyTD.agg4 rfl (rc d2 rfl)) ?_)
      refine lv rfl rfl (v := (.bool b5)) (hv_pick_t rfl d7 rfl) (lv rfl rfl (vm rfl) ?_)
      rcases bool_or (b5) with c6 | c6
      ·replace H := H.1 c6
       refine ly (wanted_y rfl rfl rfl c6) rfl (HStep.of_val (v := (ptr sv 2)) (vf TyTD.fld36_2 (b := sv) (o := 0) rfl) ?_)
       refine ly (wanted_y rfl rfl rfl c6) rfl (HStep.of_val (v := (.agg #[(.int .u64 a5), (.int .u64 a2), (.int .i64 a4)])) (vL (vs := [(.int .u64 a5), (.int .u64 a2), (.int .i64 a4)]) TyTD.agg31 TyTD.sz31 rfl (cc (rc d2 rfl) (cc (rc d2 rfl) (cc (rc d2 rfl) cn)))) ?_)
       refine ly (wanted_y rfl rfl rfl c6) rfl (HStep.of_val (v := (ptr l 4)) (vf TyTD.fld50_1 (b := l) (o := 0) rfl) ?_)
       refine ly (wanted_y rfl rfl rfl c6) rfl (HStep.of_val (v := (.agg #[(.int .u64 a3), (.int .u64 a0), (.int .i64 a1)])) (vL (vs := [(.int .u64 a3), (.int .u64 a0), (.int .i64 a1)]) TyTD.agg31 TyTD.sz31 rfl (cc (rc b3 rfl) (cc (rc b3 rfl) (cc (rc b3 rfl) cn)))) ?_)
       refine ly (wanted_y rfl rfl rfl c6) rfl (HStep.of_val (v := (.bool ((a5 == a3 && (a2 == a0 && (a4 == a1 && true)))))) (hv_structEq (xs := [(.int .u64 a5), (.int .u64 a2), (.int .i64 a4)]) (ys := [(.int .u64 a3), (.int .u64 a0), (.int .i64 a1)]) (b := (a5 == a3 && (a2 == a0 && (a4 == a1 && true)))) TyTD.se31 rfl rfl (by kernel_rfl) rfl) ?_)
       refine lv rfl rfl (v := (.bool ((a5 == a3 && (a2 == a0 && (a4 == a1 && true)))))) (hv_pick_t rfl c6 rfl) (lv rfl rfl (vm rfl) ?_)
       rcases bool_or (((a5 == a3 && (a2 == a0 && (a4 == a1 && true))))) with c8 | c8
       ·replace H := H.1 c8
        refine ly (wanted_y rfl rfl rfl c8) rfl (HStep.of_val (v := (ptr sv 5)) (vf TyTD.fld36_3 (b := sv) (o := 0) rfl) ?_)
        refine ly (wanted_y rfl rfl rfl c8) rfl (HStep.of_val (v := (.slice b4 b2 b1)) (vl TyTD.agg32 rfl (rc d2 rfl)) ?_)
        refine ly (wanted_y rfl rfl rfl c8) rfl (HStep.of_val (v := (.slice d5 d3 d4)) (vm rfl) ?_)
        replace H := H sv h8 e7 (row_lt d2) f0
        obtain ⟨e0, f8, H⟩ := H
        refine ly (wanted_y rfl rfl rfl c8) rfl (HStep.of_val (v := (.bool e0)) (hv_call TyTD.cb19 (vs := [(.slice b4 b2 b1), (.slice d5 d3 d4)]) rfl f8) ?_)
        refine lv rfl rfl (v := (.bool e0)) (hv_pick_t rfl c8 rfl) (lv rfl rfl (vm rfl) ?_)
        rcases bool_or (e0) with c1 | c1
        ·replace H := H.1 c1
         refine ly (wanted_y rfl rfl rfl c1) rfl (HStep.of_val (v := (ptr sv 6)) (vf TyTD.fld36_4 (b := sv) (o := 0) rfl) ?_)
         refine ly (wanted_y rfl rfl rfl c1) rfl (HStep.of_val (v := (ptr sv 7)) (vf TyTD.fld34_1 (b := sv) (o := 6) rfl) ?_)
         refine ly (wanted_y rfl rfl rfl c1) rfl (HStep.of_val (v := (.int .i64 a7)) (vl TyTD.agg3 rfl (rc d2 rfl)) ?_)
         refine ly (wanted_y rfl rfl rfl c1) rfl (HStep.of_val (v := (.bool (a7 == 2))) (vr rfl rfl rfl) ?_)
         refine ly (wanted_y rfl rfl rfl c1) rfl (HStep.of_val (v := (.bool (a7 == 2))) (vm rfl) ?_)
         rcases bool_or (a7 == 2) with d0 | d0
         ·replace H := H.1 d0
          refine lo (wanted_n rfl rfl rfl d0) rfl ?_
          refine lo (wanted_n rfl rfl rfl d0) rfl ?_
          refine lo (wanted_n rfl rfl rfl d0) rfl ?_
          refine lo (wanted_n rfl rfl rfl d0) rfl ?_
          refine ly (wanted_y rfl rfl rfl c1) rfl (HStep.of_val (v := (.bool true)) (hv_pick_t rfl d0 rfl) ?_)
          refine lv rfl rfl (v := (.bool true)) (hv_pick_t rfl c1 rfl) (lv rfl rfl (va rfl) ?_)
          refine ln (qn ?_)
          obtain rfl := H
          exact ⟨rfl, (hc rfl hn)⟩
         ·replace H := H.2 d0
          refine ly (wanted_y rfl rfl rfl d0) rfl (HStep.of_val (v := (ptr sv 6)) (vf TyTD.fld36_4 (b := sv) (o := 0) rfl) ?_)
          refine ly (wanted_y rfl rfl rfl d0) rfl (HStep.of_val (v := (ptr sv 7)) (vf TyTD.fld34_1 (b := sv) (o := 6) rfl) ?_)
          refine ly (wanted_y rfl rfl rfl d0) rfl (HStep.of_val (v := (.int .i64 a7)) (vl TyTD.agg3 rfl (rc d2 rfl)) ?_)
          refine ly (wanted_y rfl rfl rfl d0) rfl (HStep.of_val (v := (.bool (a7 == 4))) (vr rfl rfl rfl) ?_)
          refine ly (wanted_y rfl rfl rfl c1) rfl (HStep.of_val (v := (.bool (a7 == 4))) (hv_pick_f rfl d0 rfl) ?_)
          refine lv rfl rfl (v := (.bool (a7 == 4))) (hv_pick_t rfl c1 rfl) (lv rfl rfl (va rfl) ?_)
          refine ln (qn ?_)
          obtain rfl := H
          exact ⟨rfl, (hc rfl hn)⟩
        ·replace H := H.2 c1
         refine lo (wanted_n rfl rfl rfl c1) rfl ?_
         refine lo (wanted_n rfl rfl rfl c1) rfl ?_
         refine lo (wanted_n rfl rfl rfl c1) rfl ?_
         refine lo (wanted_n rfl rfl rfl c1) rfl ?_
         refine lo (wanted_n rfl rfl rfl c1) rfl ?_
         refine lo (wanted_u rfl rfl rfl) rfl ?_
         refine lo (wanted_u rfl rfl rfl) rfl ?_
         refine lo (wanted_u rfl rfl rfl) rfl ?_
         refine lo (wanted_u rfl rfl rfl) rfl ?_
         refine lo (wanted_n rfl rfl rfl c1) rfl ?_
         refine lv rfl rfl (v := (.bool false)) (hv_pick_f rfl c1 rfl) (lv rfl rfl (va rfl) ?_)
         refine ln (qn ?_)
         obtain rfl := H
         exact ⟨rfl, (hc rfl hn)⟩
       ·replace H := H.2 c8
        refine lo (wanted_n rfl rfl rfl c8) rfl ?_
        refine lo (wanted_n rfl rfl rfl c8) rfl ?_
        refine lo (wanted_n rfl rfl rfl c8) rfl ?_
        refine lo (wanted_n rfl rfl rfl c8) rfl ?_
        refine lv rfl rfl (v := (.bool false)) (hv_pick_f rfl c8 rfl) (lv rfl rfl (vm rfl) ?_)
        refine lo (wanted_n rfl rfl (c := false) rfl rfl) rfl ?_
        refine lo (wanted_n rfl rfl (c := false) rfl rfl) rfl ?_
        refine lo (wanted_n rfl rfl (c := false) rfl rfl) rfl ?_
        refine lo (wanted_n rfl rfl (c := false) rfl rfl) rfl ?_
        refine lo (wanted_n rfl rfl (c := false) rfl rfl) rfl ?_
        refine lo (wanted_u rfl rfl rfl) rfl ?_
        refine lo (wanted_u rfl rfl rfl) rfl ?_
        refine lo (wanted_u rfl rfl rfl) rfl ?_
        refine lo (wanted_u rfl rfl rfl) rfl ?_
        refine lo (wanted_n rfl rfl (c := false) rfl rfl) rfl ?_
        refine lv rfl rfl (v := (.bool false)) (hv_pick (t := false) rfl rfl) (lv rfl rfl (va rfl) ?_)
        refine ln (qn ?_)
        obtain rfl := H
        exact ⟨rfl, (hc rfl hn)⟩
      ·replace H := H.2 c6
       refine lo (wanted_n rfl rfl rfl c6) rfl ?_
       refine lo (wanted_n rfl rfl rfl c6) rfl ?_
       refine lo (wanted_n rfl rfl rfl c6) rfl ?_
       refine lo (wanted_n rfl rfl rfl c6) rfl ?_
       refine lo (wanted_n rfl rfl rfl c6) rfl ?_
       refine lv rfl rfl (v := (.bool false)) (hv_pick_f rfl c6 rfl) (lv rfl rfl (vm rfl) ?_)
       refine lo (wanted_n rfl rfl (c := false) rfl rfl) rfl ?_
       refine lo (wanted_n rfl rfl (c := false) rfl rfl) rfl ?_
       refine lo (wanted_n rfl rfl (c := false) rfl rfl) rfl ?_
       refine lo (wanted_n rfl rfl (c := false) rfl rfl) rfl ?_
       refine lv rfl rfl (v := (.bool false)) (hv_pick (t := false) rfl rfl) (lv rfl rfl (vm rfl) ?_)
       refine lo (wanted_n rfl rfl (c := false) rfl rfl) rfl ?_
       refine lo (wanted_n rfl rfl (c := false) rfl rfl) rfl ?_
       refine lo (wanted_n rfl rfl (c := false) rfl rfl) rfl ?_
       refine lo (wanted_n rfl rfl (c := false) rfl rfl) rfl ?_
       refine lo (wanted_n rfl rfl (c := false) rfl rfl) rfl ?_
       refine lo (wanted_u rfl rfl rfl) rfl ?_
       refine lo (wanted_u rfl rfl rfl) rfl ?_
       refine lo (wanted_u rfl rfl rfl) rfl ?_
       refine lo (wanted_u rfl rfl rfl) rfl ?_
       refine lo (wanted_n rfl rfl (c := false) rfl rfl) rfl ?_
       refine lv rfl rfl (v := (.bool false)) (hv_pick (t := false) rfl rfl) (lv rfl rfl (va rfl) ?_)
       refine ln (qn ?_)
       obtain rfl := H
       exact ⟨rfl, (hc rfl hn)⟩
     ·replace H := H.2 d7
      refine lo (wanted_n rfl rfl rfl d7) rfl ?_
      refine lo (wanted_n rfl rfl rfl d7) rfl ?_
      refine lv rfl rfl (v := (.bool false)) (hv_pick_f rfl d7 rfl) (lv rfl rfl (vm rfl) ?_)
      refine lo (wanted_n rfl rfl (c := false) rfl rfl) rfl ?_
      refine lo (wanted_n rfl rfl (c := false) rfl rfl) rfl ?_
      refine lo (wanted_n rfl rfl (c := false) rfl rfl) rfl ?_
      refine lo (wanted_n rfl rfl (c := false) rfl rfl) rfl ?_
      refine lo (wanted_n rfl rfl (c := false) rfl rfl) rfl ?_
      refine lv rfl rfl (v := (.bool false)) (hv_pick (t := false) rfl rfl) (lv rfl rfl (vm rfl) ?_)
      refine lo (wanted_n rfl rfl (c := false) rfl rfl) rfl ?_
      refine lo (wanted_n rfl rfl (c := false) rfl rfl) rfl ?_
      refine lo (wanted_n rfl rfl (c := false) rfl rfl) rfl ?_
      refine lo (wanted_n rfl rfl (c := false) rfl rfl) rfl ?_
      refine lv rfl rfl (v := (.bool false)) (hv_pick (t := false) rfl rfl) (lv rfl rfl (vm rfl) ?_)
      refine lo (wanted_n rfl rfl (c := false) rfl rfl) rfl ?_
      refine lo (wanted_n rfl rfl (c := false) rfl rfl) rfl ?_
      refine lo (wanted_n rfl rfl (c := false) rfl rfl) rfl ?_
      refine lo (wanted_n rfl rfl (c := false) rfl rfl) rfl ?_
      refine lo (wanted_n rfl rfl (c := false) rfl rfl) rfl ?_
      refine lo (wanted_u rfl rfl rfl) rfl ?_
      refine lo (wanted_u rfl rfl rfl) rfl ?_
      refine lo (wanted_u rfl rfl rfl) rfl ?_
      refine lo (wanted_u rfl rfl rfl) rfl ?_
      refine lo (wanted_n rfl rfl (c := false) rfl rfl) rfl ?_
      refine lv rfl rfl (v := (.bool false)) (hv_pick (t := false) rfl rfl) (lv rfl rfl (va rfl) ?_)
      refine ln (qn ?_)
      obtain rfl := H
      exact ⟨rfl, (hc rfl hn)⟩
    ·have H := e6; clear e3 e6
     rintro ρ _ ⟨rfl, hH⟩
     refine xh _ hH ?_
     refine xt ?_
     replace H := H h8 f0
     exact endQ_ret _ (res_one Tryd.results5 (rv_tmp rfl)) H

end Go.Proofs.YthjehlocmikchaaDoor
