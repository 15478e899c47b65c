import Derived.Test.YthjehlocmikchaaDoorProg
import Derived.Test.YthjehlocmikchaaDoorDo1
import Derived.Test.YthjehlocmikchaaDoorDo2
namespace Go.Proofs.YthjehlocmikchaaDoor
open Go
open Go.Proofs.YthjehlocmikchaaDoor renaming hl_val → lv, hl_step → lp, hl_nil → ln, hl_yes → ly, hl_no → lo, hx_seq → xs, hx_region → xr, hx_cond → xc, hx_block → xb, hx_loopT → xl, hx_cut → xk, hx_has → xh, hx_skip → xi, hx_ret → xt, hx_exit → xe, seqQ_n → qn, seqQ_ret → qr, seqQ_exit → qe, blockQ_n → bn, blockQ_ret → br, blockQ_here → bh, hv_move → vm, hv_assign → va, hv_arith → vr, hv_load → vl, hv_loads → vL, hv_extract → vx, hv_field → vf, hv_build → vb, hv_index → vi, hp_pure → pp, hp_read → pr, hp_no → pn, has_cons → hc, has_nil → hn, hcells_cons → cc, hcells_nil → cn, rowcell → rc, hs_call → sc, ht_one → to
set_option maxRecDepth 100000
set_option maxHeartbeats 4000000
theorem TyTB.agg24 : aggB Tryd.prog 24 = some true := by kernel_rfl
theorem TyTB.agg25 : aggB Tryd.prog 25 = some false := by kernel_rfl
theorem TyTB.agg29 : aggB Tryd.prog 29 = some false := by kernel_rfl
theorem TyTB.agg3 : aggB Tryd.prog 3 = some false := by kernel_rfl
theorem TyTB.agg31 : aggB Tryd.prog 31 = some true := by kernel_rfl
theorem TyTB.agg43 : aggB Tryd.prog 43 = some true := by kernel_rfl
theorem TyTB.agg5 : aggB Tryd.prog 5 = some false := by kernel_rfl
theorem TyTB.agg86 : aggB Tryd.prog 86 = some false := by kernel_rfl
theorem TyTB.agg88 : aggB Tryd.prog 88 = some true := by kernel_rfl
theorem TyTB.agg9 : aggB Tryd.prog 9 = some false := by kernel_rfl
theorem TyTB.cb103 : CallB Tryd.prog 103 := fun _ _ => Tryd.call103 _ _
theorem TyTB.cb105 : CallB Tryd.prog 105 := fun _ _ => Tryd.call105 _ _
theorem TyTB.cb115 : CallB Tryd.prog 115 := fun _ _ => Tryd.call115 _ _
theorem TyTB.cb16 : CallB Tryd.prog 16 := fun _ _ => Tryd.call16 _ _
theorem TyTB.cb31 : CallB Tryd.prog 31 := fun _ _ => Tryd.call31 _ _
theorem TyTB.cb33 : CallB Tryd.prog 33 := fun _ _ => Tryd.call33 _ _
theorem TyTB.cb38 : CallB Tryd.prog 38 := fun _ _ => Tryd.call38 _ _
theorem TyTB.cb42 : CallB Tryd.prog 42 := fun _ _ => Tryd.call42 _ _
theorem TyTB.cb43 : CallB Tryd.prog 43 := fun _ _ => Tryd.call43 _ _
theorem TyTB.cb44 : CallB Tryd.prog 44 := fun _ _ => Tryd.call44 _ _
theorem TyTB.cb59 : CallB Tryd.prog 59 := fun _ _ => Tryd.call59 _ _
theorem TyTB.cb60 : CallB Tryd.prog 60 := fun _ _ => Tryd.call60 _ _
theorem TyTB.cb61 : CallB Tryd.prog 61 := fun _ _ => Tryd.call61 _ _
theorem TyTB.cb62 : CallB Tryd.prog 62 := fun _ _ => Tryd.call62 _ _
theorem TyTB.cb66 : CallB Tryd.prog 66 := fun _ _ => Tryd.call66 _ _
theorem TyTB.cb67 : CallB Tryd.prog 67 := fun _ _ => Tryd.call67 _ _
theorem TyTB.cb68 : CallB Tryd.prog 68 := fun _ _ => Tryd.call68 _ _
theorem TyTB.cb73 : CallB Tryd.prog 73 := fun _ _ => Tryd.call73 _ _
theorem TyTB.cb82 : CallB Tryd.prog 82 := fun _ _ => Tryd.call82 _ _
theorem TyTB.cb83 : CallB Tryd.prog 83 := fun _ _ => Tryd.call83 _ _
theorem TyTB.cb84 : CallB Tryd.prog 84 := fun _ _ => Tryd.call84 _ _
theorem TyTB.cb85 : CallB Tryd.prog 85 := fun _ _ => Tryd.call85 _ _
theorem TyTB.cb86 : CallB Tryd.prog 86 := fun _ _ => Tryd.call86 _ _
theorem TyTB.cb87 : CallB Tryd.prog 87 := fun _ _ => Tryd.call87 _ _
theorem TyTB.el126 : elB Tryd.prog 126 = some 1 := by kernel_rfl
theorem TyTB.el25 : elB Tryd.prog 25 = some 1 := by kernel_rfl
theorem TyTB.fld24_0 : fldB Tryd.prog 24 0 = some 0 := by kernel_rfl
theorem TyTB.fld24_1 : fldB Tryd.prog 24 1 = some 1 := by kernel_rfl
theorem TyTB.fld24_2 : fldB Tryd.prog 24 2 = some 2 := by kernel_rfl
theorem TyTB.fld24_3 : fldB Tryd.prog 24 3 = some 3 := by kernel_rfl
theorem TyTB.fld31_0 : fldB Tryd.prog 31 0 = some 0 := by kernel_rfl
theorem TyTB.fld31_1 : fldB Tryd.prog 31 1 = some 1 := by kernel_rfl
theorem TyTB.fld31_2 : fldB Tryd.prog 31 2 = some 2 := by kernel_rfl
theorem TyTB.fld43_0 : fldB Tryd.prog 43 0 = some 0 := by kernel_rfl
theorem TyTB.fld43_1 : fldB Tryd.prog 43 1 = some 1 := by kernel_rfl
theorem TyTB.fld43_2 : fldB Tryd.prog 43 2 = some 2 := by kernel_rfl
theorem TyTB.fld43_3 : fldB Tryd.prog 43 3 = some 3 := by kernel_rfl
theorem TyTB.fld88_0 : fldB Tryd.prog 88 0 = some 0 := by kernel_rfl
theorem TyTB.fld88_1 : fldB Tryd.prog 88 1 = some 1 := by kernel_rfl
theorem TyTB.fld88_2 : fldB Tryd.prog 88 2 = some 2 := by kernel_rfl
theorem TyTB.fld88_3 : fldB Tryd.prog 88 3 = some 3 := by kernel_rfl
theorem TyTB.mixed : Tryd.prog.follows .mixedOrders = true := by kernel_rfl
theorem TyTB.pl31 : plB Tryd.prog 31 = some [(0, 1), (1, 1), (2, 1)] := by kernel_rfl
theorem TyTB.pl43 : plB Tryd.prog 43 = some [(0, 1), (1, 1), (2, 1), (3, 1)] := by kernel_rfl
theorem TyTB.pl88 : plB Tryd.prog 88 = some [(0, 1), (1, 1), (2, 1), (3, 1)] := by kernel_rfl
theorem TyTB.sz24 : szB Tryd.prog 24 = some 4 := by kernel_rfl
theorem TyTB.sz25 : szB Tryd.prog 25 = some 1 := by kernel_rfl
theorem TyTB.sz29 : szB Tryd.prog 29 = some 1 := by kernel_rfl
theorem TyTB.sz31 : szB Tryd.prog 31 = some 3 := by kernel_rfl
theorem TyTB.sz43 : szB Tryd.prog 43 = some 4 := by kernel_rfl
theorem TyTB.sz5 : szB Tryd.prog 5 = some 1 := by kernel_rfl
theorem TyTB.sz88 : szB Tryd.prog 88 = some 4 := by kernel_rfl
theorem TyTB.u126 : Tryd.prog.underlying 126 = some (.slice 29) := by kernel_rfl
theorem TyTB.u25 : Tryd.prog.underlying 25 = some (.slice 5) := by kernel_rfl
theorem TyTB.u29 : Tryd.prog.underlying 29 = some (.int .u64) := by kernel_rfl
theorem TyTB.u3 : Tryd.prog.underlying 3 = some (.int .i64) := by kernel_rfl
theorem TyTB.u5 : Tryd.prog.underlying 5 = some (.int .u8) := by kernel_rfl
theorem TyTB.u86 : Tryd.prog.underlying 86 = some (.int .u32) := by kernel_rfl
theorem TyTB.u9 : Tryd.prog.underlying 9 = some (.string) := by kernel_rfl
theorem TyTB.z25 : zeroB Tryd.prog 25 (.slice none 0 0) := by unfold zeroB; kernel_rfl
theorem TyTB.z29 : zeroB Tryd.prog 29 (.int .u64 0) := by unfold zeroB; kernel_rfl
theorem TyTB.z31 : zeroB Tryd.prog 31 (.agg #[(.int .u64 0), (.int .u64 0), (.int .i64 0)]) := by unfold zeroB; kernel_rfl
theorem TyTB.z43 : zeroB Tryd.prog 43 (.agg #[(.int .i64 0), (.int .u64 0), (.string ByteArray.empty), (.string ByteArray.empty)]) := by unfold zeroB; kernel_rfl
theorem TyTB.z5 : zeroB Tryd.prog 5 (.int .u8 0) := by unfold zeroB; kernel_rfl
theorem TyTB.z88 : zeroB Tryd.prog 88 (.agg #[(.int .i64 0), (.int .i64 0), (.int .u32 0), (.int .u32 0)]) := by unfold zeroB; kernel_rfl
theorem ext_pushed_f11_sh {h h1 : Heap} {o : Obj} (e : h1 = Array.push h o) : Ext h h1 := by rw [e]; exact Ext.push _ _
theorem f82_sh (a2 : Int) (a0 : Int) (a3 : Int) (a1 : Int) (h : Heap) (R : Value → Heap → Prop)
  (H : (∀ (g : Nat) (h1 : Heap), Array.size h ≤ g → g < Array.size h1 → Ext h h1 → (∃ r : Int, (∀ h4, Ext h1 h4 → HC Tryd.prog 103 #[(.int .i64 a2)] h4 (fun vv h' => vv = (.int .u8 r) ∧ h' = h4)) ∧ (∃ a5 : Int, (∀ h3, Ext h1 h3 → HC Tryd.prog 103 #[(.int .i64 a1)] h3 (fun vv h' => vv = (.int .u8 a5) ∧ h' = h3)) ∧ (∀ nb h2, nb = Array.size h1 → h2 = Array.push h1 (.cells #[(.int .u8 r), (.int .u8 (IntKind.u8.wrap (IntKind.i64.wrap (a0 - 1)))), (.int .u8 a5)] 5) → R (.slice (some ⟨nb, 0, none⟩) 3 3) h2))))) :
  HC Tryd.prog 82 #[(.agg #[(.int .i64 a2), (.int .i64 a0), (.int .i64 a3), (.int .i64 a1)])] h R := by
 refine hc_of (args := [(.agg #[(.int .i64 a2), (.int .i64 a0), (.int .i64 a3), (.int .i64 a1)])]) Tryd.func82 rfl Tryd.ntmps82 (Nat.le_of_ble_eq_true rfl) ?_
 refine xs (xr ?_)
 refine lp rfl rfl (hn_box (v := (.agg #[(.int .i64 a2), (.int .i64 a0), (.int .i64 a3), (.int .i64 a1)])) rfl ?_)
 intro g h1 a8 a9
 have b1 := ext_pushed_f11_sh a9
 have b0 : Array.size h ≤ g := Nat.le_of_eq (Eq.symm a8)
 have a4 : h1[g]? = some (.cells #[(.int .i64 a2), (.int .i64 a0), (.int .i64 a3), (.int .i64 a1)] 24 (0, 0)) := by rw [a9]; exact push_new a8
 refine lv rfl rfl (va rfl) ?_
 refine ln (qn (xs (xr ?_)))
 refine lv rfl rfl (va rfl) ?_
 refine ln (qn (xs ?_))
 refine hx_draw TyTB.mixed [.pure, .pure, .read, .read, .pure, .read, .pure, .pure, .pure, .pure, .read, .read, .ext, .pure] [0, 1, 2, 3, 4, 5, 6, 7, 8, 9, 10, 11, 12, 13] (by kernel_rfl) ?_
 refine pp (i := 0) rfl (wanted_0 rfl) rfl (.func (.func 103) #[] #[]) (fun _ => vm rfl) ?_
 refine pp (i := 1) rfl (wanted_0 rfl) rfl (ptr g 0) (fun _ => vf TyTB.fld24_0 (b := g) (o := 0) rfl) ?_
 refine pr (i := 2) rfl (wanted_0 rfl) rfl (.int .i64 a2) (fun _ he => vl TyTB.agg3 rfl (Ext.cell he (rc a4 rfl))) ?_
 replace H := H g h1 b0 (row_lt a4) b1
 obtain ⟨r, b4, H⟩ := H
 refine pr (i := 3) rfl (wanted_0 rfl) rfl (.int .u8 r) (fun _ he => hs_callV (first := []) (cap := []) (vs := [(.int .i64 a2)]) TyTB.cb103 rfl rfl (b4 _ he)) ?_
 refine pp (i := 4) rfl (wanted_0 rfl) rfl (ptr g 1) (fun _ => vf TyTB.fld24_1 (b := g) (o := 0) rfl) ?_
 refine pr (i := 5) rfl (wanted_0 rfl) rfl (.int .i64 a0) (fun _ he => vl TyTB.agg3 rfl (Ext.cell he (rc a4 rfl))) ?_
 refine pp (i := 6) rfl (wanted_0 rfl) rfl (.int .i64 (IntKind.i64.wrap (a0 - 1))) (fun _ => vr rfl rfl rfl) ?_
 refine pp (i := 7) rfl (wanted_0 rfl) rfl (.int .u8 (IntKind.u8.wrap (IntKind.i64.wrap (a0 - 1)))) (fun _ => hv_convInt TyTB.u3 TyTB.u5 rfl) ?_
 refine pp (i := 8) rfl (wanted_0 rfl) rfl (.func (.func 103) #[] #[]) (fun _ => vm rfl) ?_
 refine pp (i := 9) rfl (wanted_0 rfl) rfl (ptr g 3) (fun _ => vf TyTB.fld24_3 (b := g) (o := 0) rfl) ?_
 refine pr (i := 10) rfl (wanted_0 rfl) rfl (.int .i64 a1) (fun _ he => vl TyTB.agg3 rfl (Ext.cell he (rc a4 rfl))) ?_
 obtain ⟨a5, b2, H⟩ := H
 refine pr (i := 11) rfl (wanted_0 rfl) rfl (.int .u8 a5) (fun _ he => hs_callV (first := []) (cap := []) (vs := [(.int .i64 a1)]) TyTB.cb103 rfl rfl (b2 _ he)) ?_
 refine hp_ext (i := 12) rfl (wanted_0 rfl) rfl (hn_buildSlice (n := 3) (vs := [(0, (.int .u8 r)), (1, (.int .u8 (IntKind.u8.wrap (IntKind.i64.wrap (a0 - 1))))), (2, (.int .u8 a5))]) (cs := #[(.int .u8 r), (.int .u8 (IntKind.u8.wrap (IntKind.i64.wrap (a0 - 1)))), (.int .u8 a5)]) TyTB.u25 TyTB.sz5 TyTB.z5 rfl rfl (by kernel_rfl) ?_)
 intro nb h2 b3 a7
 replace H := H nb h2 b3 a7
 have a6 := ext_pushed_f11_sh a7
 replace a4 := Ext.row a6 a4
 refine ⟨a6, ?_⟩
 refine pp (i := 13) rfl (wanted_0 rfl) rfl (.slice (some ⟨nb, 0, none⟩) 3 3) (fun _ => va rfl) ?_
 refine hp_nil ?_
 refine qn (xt ?_)
 exact endQ_ret _ (res_one Tryd.results82 (rv_tmp rfl)) H
theorem f83_sh (b : Option Addr) (a8 : Nat) (a6 : Nat) (n : Int) (a2 : Int) (h : Heap) (R : Value → Heap → Prop)
  (H : (∃ (I1 : Option Addr → Nat → Nat → Int → Heap → Prop) (a7 : Option Addr → Nat → Nat → Int → Heap → Nat), I1 b a8 a6 0 h ∧ (∀ (a3 : Option Addr) (a1 : Nat) (a0 : Nat) (v : Int) (h1 : Heap), I1 a3 a1 a0 v h1 → (((decide (v < a2)) = true → ((0 : Int) ≤ IntKind.i64.wrap (8 * v) ∧ (∀ nb h2, nb = Array.size h1 → h2 = Array.push h1 (.cells #[(.int .u8 (IntKind.u8.wrap (Int.fdiv n (2 ^ min (Int.toNat (IntKind.i64.wrap (8 * v))) 64))))] 5) → HAppend Tryd.prog 25 25 (.slice a3 a1 a0) (.slice (some ⟨nb, 0, none⟩) 1 1) h2 (fun vv h3 => ∃ ap : Option Addr, ∃ a5 a4 : Nat, vv = (.slice ap a5 a4) ∧ (I1 ap a5 a4 (IntKind.i64.wrap (v + 1)) h3 ∧ a7 ap a5 a4 (IntKind.i64.wrap (v + 1)) h3 < a7 a3 a1 a0 v h1))))) ∧ ((decide (v < a2)) = false → R (.slice a3 a1 a0) h1))))) :
  HC Tryd.prog 83 #[(.slice b a8 a6), (.int .u64 n), (.int .i64 a2)] h R := by
 refine hc_of (args := [(.slice b a8 a6), (.int .u64 n), (.int .i64 a2)]) Tryd.func83 rfl Tryd.ntmps83 (Nat.le_of_ble_eq_true rfl) ?_
 refine xs (xr ?_)
 refine lv rfl rfl (va rfl) ?_
 refine ln (qn (xs (xs (xr ?_))))
 refine lv rfl rfl (vm rfl) (lv rfl rfl (vm rfl) ?_)
 refine ln (qn (xb ?_))
 obtain ⟨I1, a7, b3, b5⟩ := H
 refine xl (σ := Option Addr × Nat × Nat × Int) (fun s => [(0, (.slice s.1 s.2.1 s.2.2.1)), (1, (.int .u64 n)), (8, (.int .i64 a2)), (9, (.int .i64 s.2.2.2))]) (fun s h' => I1 s.1 s.2.1 s.2.2.1 s.2.2.2 h' ∧ True) (fun s h' => a7 s.1 s.2.1 s.2.2.1 s.2.2.2 h') (b, a8, a6, 0) ⟨b3, trivial⟩ (hc rfl (hc rfl (hc rfl (hc rfl hn)))) ?_
 rintro ⟨a3, a1, a0, v⟩ ρ h1 ⟨b2, -⟩
 have H := b5 a3 a1 a0 v h1 b2
 refine xs (xr ?_)
 refine lv rfl rfl (vr rfl rfl rfl) ?_
 refine ln (qn (xs ?_))
 refine xc (b := decide (v < a2)) rfl (fun a9 => ?_) (fun a9 => ?_)
 ·replace H := H.1 a9
  refine xi (qn (xs (xb (xs (xr ?_)))))
  refine lv rfl rfl (vm rfl) (lv rfl rfl (va rfl) ?_)
  refine ln (qn (xr ?_))
  refine lv rfl rfl (vm rfl) (lv rfl rfl (vm rfl) (lv rfl rfl (vm rfl) (lv rfl rfl (vr rfl rfl rfl) ?_)))
  obtain ⟨b1, H⟩ := H
  refine lv rfl rfl (v := (.int .u64 (Int.fdiv n (2 ^ min (Int.toNat (IntKind.i64.wrap (8 * v))) 64)))) (hv_shift rfl rfl b1 rfl) (lv rfl rfl (v := (.int .u8 (IntKind.u8.wrap (Int.fdiv n (2 ^ min (Int.toNat (IntKind.i64.wrap (8 * v))) 64))))) (hv_convInt TyTB.u29 TyTB.u5 rfl) ?_)
  refine lp rfl rfl (hn_buildSlice (n := 1) (vs := [(0, (.int .u8 (IntKind.u8.wrap (Int.fdiv n (2 ^ min (Int.toNat (IntKind.i64.wrap (8 * v))) 64)))))]) (cs := #[(.int .u8 (IntKind.u8.wrap (Int.fdiv n (2 ^ min (Int.toNat (IntKind.i64.wrap (8 * v))) 64))))]) TyTB.u25 TyTB.sz5 TyTB.z5 rfl rfl (by kernel_rfl) ?_)
  intro nb h2 b4 b0
  replace H := H nb h2 b4 b0
  have b6 := ext_pushed_f11_sh b0
  refine lp rfl rfl (hs_append rfl rfl (HAppend.mono H ?_))
  rintro _ h3 ⟨ap, a5, a4, rfl, H⟩
  refine lv rfl rfl (va rfl) ?_
  refine ln (bn (qn (xr ?_)))
  refine lv rfl rfl (vr rfl rfl rfl) (lv rfl rfl (vm rfl) ?_)
  refine ln (qn ?_)
  exact ⟨(ap, a5, a4, IntKind.i64.wrap (v + 1)), ⟨⟨H.1, trivial⟩, H.2⟩, (hc rfl (hc rfl (hc rfl (hc rfl hn))))⟩
 ·replace H := H.2 a9
  refine xe (qe (qe (bh (qn (xs (xr ?_))))))
  refine lv rfl rfl (vm rfl) (lv rfl rfl (va rfl) ?_)
  refine ln (qn (xt ?_))
  exact endQ_ret _ (res_one Tryd.results83 (rv_tmp rfl)) H
theorem f84_sh (b : Option Addr) (a1 : Nat) (a0 : Nat) (h : Heap) (R : Value → Heap → Prop)
  (H : (∃ r : Int, HC Tryd.prog 68 #[(.slice b a1 a0)] h (fun vv h' => vv = (.int .u32 r) ∧ h' = h) ∧ HC Tryd.prog 83 #[(.slice b a1 a0), (.int .u64 (IntKind.u64.wrap r)), (.int .i64 4)] h (fun vv h1 => ∃ a4 : Option Addr, ∃ a2 a3 : Nat, vv = (.slice a4 a2 a3) ∧ R (.slice a4 a2 a3) h1))) :
  HC Tryd.prog 84 #[(.slice b a1 a0)] h R := by
 refine hc_of (args := [(.slice b a1 a0)]) Tryd.func84 rfl Tryd.ntmps84 (Nat.le_of_ble_eq_true rfl) ?_
 refine xs (xr ?_)
 refine lv rfl rfl (va rfl) ?_
 refine ln (qn (xs (xr ?_)))
 refine lv rfl rfl (vm rfl) (lv rfl rfl (vm rfl) ?_)
 obtain ⟨r, a5, H⟩ := H
 refine lv rfl rfl (hv_call TyTB.cb68 (vs := [(.slice b a1 a0)]) rfl a5) (lv rfl rfl (v := (.int .u64 (IntKind.u64.wrap r))) (hv_convInt TyTB.u86 TyTB.u29 rfl) ?_)
 refine lp rfl rfl (sc TyTB.cb83 rfl (HC.mono H ?_))
 rintro _ h1 ⟨a4, a2, a3, rfl, H⟩
 refine lv rfl rfl (va rfl) ?_
 refine ln (qn (xt ?_))
 exact endQ_ret _ (res_one Tryd.results84 (rv_tmp rfl)) H
theorem f43_sh (b : Option Addr) (a8 : Nat) (a6 : Nat) (x : Int) (n : Int) (h : Heap) (R : Value → Heap → Prop)
  (H : (∃ (I1 : Option Addr → Nat → Nat → Int → Int → Heap → Prop) (a7 : Option Addr → Nat → Nat → Int → Int → Heap → Nat), I1 b a8 a6 x 0 h ∧ (∀ (a3 : Option Addr) (a1 : Nat) (a0 : Nat) (a2 : Int) (i : Int) (h1 : Heap), I1 a3 a1 a0 a2 i h1 → (((decide (i < n)) = true → (∀ nb h2, nb = Array.size h1 → h2 = Array.push h1 (.cells #[(.int .u8 (IntKind.u8.wrap a2))] 5) → HAppend Tryd.prog 25 25 (.slice a3 a1 a0) (.slice (some ⟨nb, 0, none⟩) 1 1) h2 (fun vv h3 => ∃ ap : Option Addr, ∃ a5 a4 : Nat, vv = (.slice ap a5 a4) ∧ (I1 ap a5 a4 (IntKind.u64.wrap (Int.tdiv a2 256)) (IntKind.i64.wrap (i + 1)) h3 ∧ a7 ap a5 a4 (IntKind.u64.wrap (Int.tdiv a2 256)) (IntKind.i64.wrap (i + 1)) h3 < a7 a3 a1 a0 a2 i h1)))) ∧ ((decide (i < n)) = false → R (.slice a3 a1 a0) h1))))) :
  HC Tryd.prog 43 #[(.slice b a8 a6), (.int .u64 x), (.int .i64 n)] h R := by
 refine hc_of (args := [(.slice b a8 a6), (.int .u64 x), (.int .i64 n)]) Tryd.func43 rfl Tryd.ntmps43 (Nat.le_of_ble_eq_true rfl) ?_
 refine xs (xr ?_)
 refine lv rfl rfl (va rfl) ?_
 refine ln (qn (xs (xs (xr ?_))))
 refine lv rfl rfl (va rfl) ?_
 refine ln (qn (xb ?_))
 obtain ⟨I1, a7, b2, b4⟩ := H
 refine xl (σ := Option Addr × Nat × Nat × Int × Int) (fun s => [(0, (.slice s.1 s.2.1 s.2.2.1)), (1, (.int .u64 s.2.2.2.1)), (2, (.int .i64 n)), (7, (.int .i64 s.2.2.2.2))]) (fun s h' => I1 s.1 s.2.1 s.2.2.1 s.2.2.2.1 s.2.2.2.2 h' ∧ True) (fun s h' => a7 s.1 s.2.1 s.2.2.1 s.2.2.2.1 s.2.2.2.2 h') (b, a8, a6, x, 0) ⟨b2, trivial⟩ (hc rfl (hc rfl (hc rfl (hc rfl hn)))) ?_
 rintro ⟨a3, a1, a0, a2, i⟩ ρ h1 ⟨b1, -⟩
 have H := b4 a3 a1 a0 a2 i h1 b1
 refine xs (xs (xr ?_))
 refine lv rfl rfl (vm rfl) (lv rfl rfl (vm rfl) (lv rfl rfl (vr rfl rfl rfl) ?_))
 refine ln (qn ?_)
 refine xc (b := decide (i < n)) rfl (fun a9 => ?_) (fun a9 => ?_)
 ·replace H := H.1 a9
  refine xi (qn (xs (xb (xs (xr ?_)))))
  refine lv rfl rfl (vm rfl) (lv rfl rfl (vm rfl) (lv rfl rfl (v := (.int .u8 (IntKind.u8.wrap a2))) (hv_convInt TyTB.u29 TyTB.u5 rfl) ?_))
  refine lp rfl rfl (hn_buildSlice (n := 1) (vs := [(0, (.int .u8 (IntKind.u8.wrap a2)))]) (cs := #[(.int .u8 (IntKind.u8.wrap a2))]) TyTB.u25 TyTB.sz5 TyTB.z5 rfl rfl (by kernel_rfl) ?_)
  intro nb h2 b3 b0
  replace H := H nb h2 b3 b0
  have b5 := ext_pushed_f11_sh b0
  refine lp rfl rfl (hs_append rfl rfl (HAppend.mono H ?_))
  rintro _ h3 ⟨ap, a5, a4, rfl, H⟩
  refine lv rfl rfl (va rfl) ?_
  refine ln (qn (xr ?_))
  refine lv rfl rfl (vm rfl) (lv rfl rfl (v := (.int .u64 (IntKind.u64.wrap (Int.tdiv a2 256)))) (hv_quo rfl rfl (by decide)) (lv rfl rfl (va rfl) ?_))
  refine ln (bn (qn (xr ?_)))
  refine lv rfl rfl (vm rfl) (lv rfl rfl (vr rfl rfl rfl) (lv rfl rfl (va rfl) ?_))
  refine ln (qn ?_)
  exact ⟨(ap, a5, a4, IntKind.u64.wrap (Int.tdiv a2 256), IntKind.i64.wrap (i + 1)), ⟨⟨H.1, trivial⟩, H.2⟩, (hc rfl (hc rfl (hc rfl (hc rfl hn))))⟩
 ·replace H := H.2 a9
  refine xe (qe (qe (bh (qn (xs (xr ?_))))))
  refine lv rfl rfl (vm rfl) (lv rfl rfl (va rfl) ?_)
  refine ln (qn (xt ?_))
  exact endQ_ret _ (res_one Tryd.results43 (rv_tmp rfl)) H
theorem f17_sh (a8 : Int) (a3 : Int) (a2 : Int) (a6 : Int) (b0 : Int) (a1 : Int) (a0 : Int) (h : Heap) (R : Value → Heap → Prop)
  (H : (∀ (g : Nat) (hv : Nat) (h2 : Heap), Array.size h ≤ g → g < Array.size h2 → Array.size h ≤ hv → hv < Array.size h2 → Ext h h2 → HC Tryd.prog 16 #[(.agg #[(.int .i64 a8), (.int .i64 a3), (.int .i64 a2), (.int .i64 a6)])] h2 (fun vv h3 => Ext h2 h3 ∧ ∃ r : Int, vv = (.int .i64 r) ∧ (((r != 0) = true → R (.tuple #[(.slice none 0 0), (.int .i64 r)]) h3) ∧ ((r != 0) = false → ((((decide (a0 < 0)) || ((decide (a0 ≥ a2)) || (a1 == 0))) = true → R (.tuple #[(.slice none 0 0), (.int .i64 1)]) h3) ∧ (((decide (a0 < 0)) || ((decide (a0 ≥ a2)) || (a1 == 0))) = false → (∃ d3 : Option Addr → Nat → Nat → Heap → Prop, (∃ b8 : Heap → Heap → Prop, Fit b8 ∧ ((∀ hx, b8 h3 hx → Kp [g] h3 hx) ∧ (∃ b7 : Int, (∀ f7, b8 h3 f7 → HC Tryd.prog 42 #[(.int .i64 a8)] f7 (fun vv h' => vv = (.int .u8 b7) ∧ h' = f7)) ∧ ((∀ hx, b8 h3 hx → Kp [g] h3 hx) ∧ ((∀ hx, b8 h3 hx → Kp [g] h3 hx) ∧ (∃ b6 : Int, (∀ f5, b8 h3 f5 → HC Tryd.prog 42 #[(.int .i64 a6)] f5 (fun vv h' => vv = (.int .u8 b6) ∧ h' = f5)) ∧ (((∀ nb h5, nb = Array.size h3 → h5 = Array.push h3 (.cells #[(.int .u8 67), (.int .u8 76), (.int .u8 82), (.int .u8 72)] 5) → (((∃ (cs : Array Value) (T : TypeId), h5[nb]? = some (.cells cs T (0, 0)) ∧ ∀ h6, h6 = hfrz h5 nb (Array.size cs) → b8 h5 h6 ∧ Kp [g, hv] h5 h6 ∧ (∀ a9 h7, a9 = Array.size h6 → h7 = Array.push h6 (.cells #[(.int .u8 1), (.int .u8 b7), (.int .u8 (IntKind.u8.wrap (IntKind.i64.wrap (a3 - 1)))), (.int .u8 b6)] 5) → HAppend Tryd.prog 25 25 (.slice (some ⟨nb, 0, none⟩) 4 4) (.slice (some ⟨a9, 0, none⟩) 4 4) h7 (fun vv h8 => Kp [hv] h7 h8 ∧ ∃ ap : Option Addr, ∃ b2 b1 : Nat, vv = (.slice ap b2 b1) ∧ (d3 ap b2 b1 h8))))) ∧ ((∀ a9 h9, a9 = Array.size h5 → h9 = Array.push h5 (.cells #[(.int .u8 1), (.int .u8 b7), (.int .u8 (IntKind.u8.wrap (IntKind.i64.wrap (a3 - 1)))), (.int .u8 b6)] 5) → (∃ (cs : Array Value) (T : TypeId), h9[nb]? = some (.cells cs T (0, 0)) ∧ ∀ c8, c8 = hfrz h9 nb (Array.size cs) → b8 h9 c8 ∧ Kp [g, hv] h9 c8 ∧ HAppend Tryd.prog 25 25 (.slice (some ⟨nb, 0, none⟩) 4 4) (.slice (some ⟨a9, 0, none⟩) 4 4) c8 (fun vv f4 => Kp [hv] c8 f4 ∧ ∃ ap : Option Addr, ∃ b2 b1 : Nat, vv = (.slice ap b2 b1) ∧ (d3 ap b2 b1 f4)))))))) ∧ ((∀ nb c9, nb = Array.size h3 → c9 = Array.push h3 (.cells #[(.int .u8 1), (.int .u8 b7), (.int .u8 (IntKind.u8.wrap (IntKind.i64.wrap (a3 - 1)))), (.int .u8 b6)] 5) → (∀ a9 c3, a9 = Array.size c9 → c3 = Array.push c9 (.cells #[(.int .u8 67), (.int .u8 76), (.int .u8 82), (.int .u8 72)] 5) → (∃ (cs : Array Value) (T : TypeId), c3[a9]? = some (.cells cs T (0, 0)) ∧ ∀ d0, d0 = hfrz c3 a9 (Array.size cs) → b8 c3 d0 ∧ Kp [g, hv] c3 d0 ∧ HAppend Tryd.prog 25 25 (.slice (some ⟨a9, 0, none⟩) 4 4) (.slice (some ⟨nb, 0, none⟩) 4 4) d0 (fun vv f6 => Kp [hv] d0 f6 ∧ ∃ ap : Option Addr, ∃ b2 b1 : Nat, vv = (.slice ap b2 b1) ∧ (d3 ap b2 b1 f6))))))))))))) ∧ (∀ (b : Option Addr) (c0 : Nat) (c2 : Nat) (h4 : Heap), d3 b c0 c2 h4 → (∃ d1 : Heap → Heap → Prop, Fit d1 ∧ ((∀ hx, d1 h4 hx → Kp [hv] h4 hx) ∧ ((∀ hx, d1 h4 hx → Kp [hv] h4 hx) ∧ HC Tryd.prog 43 #[(.slice b c0 c2), (.int .u64 b0), (.int .i64 8)] h4 (fun vv d4 => d1 h4 d4 ∧ Kp [hv] h4 d4 ∧ ∃ e6 : Option Addr, ∃ e4 e7 : Nat, vv = (.slice e6 e4 e7) ∧ HC Tryd.prog 43 #[(.slice e6 e4 e7), (.int .u64 a1), (.int .i64 8)] d4 (fun vv e9 => d1 d4 e9 ∧ Kp [hv] d4 e9 ∧ ∃ e5 : Option Addr, ∃ c6 c5 : Nat, vv = (.slice e5 c6 c5) ∧ HC Tryd.prog 43 #[(.slice e5 c6 c5), (.int .u64 (IntKind.u64.wrap a0)), (.int .i64 4)] e9 (fun vv f0 => ∃ c1 : Option Addr, ∃ b4 b5 : Nat, vv = (.slice c1 b4 b5) ∧ (∃ d2 : Int, HC Tryd.prog 44 #[(.slice c1 b4 b5)] f0 (fun vv h' => vv = (.int .u32 d2) ∧ h' = f0) ∧ HC Tryd.prog 43 #[(.slice c1 b4 b5), (.int .u64 (IntKind.u64.wrap d2)), (.int .i64 4)] f0 (fun vv g9 => ∃ e8 : Option Addr, ∃ c7 c4 : Nat, vv = (.slice e8 c7 c4) ∧ R (.tuple #[(.slice e8 c7 c4), (.int .i64 0)]) g9))))))))))))))))) :
  HC Tryd.prog 17 #[(.agg #[(.int .i64 a8), (.int .i64 a3), (.int .i64 a2), (.int .i64 a6)]), (.agg #[(.int .u64 b0), (.int .u64 a1), (.int .i64 a0)])] h R := by
 refine hc_of (args := [(.agg #[(.int .i64 a8), (.int .i64 a3), (.int .i64 a2), (.int .i64 a6)]), (.agg #[(.int .u64 b0), (.int .u64 a1), (.int .i64 a0)])]) Tryd.func17 rfl Tryd.ntmps17 (Nat.le_of_ble_eq_true rfl) ?_
 refine xs (xr ?_)
 refine lp rfl rfl (hn_box (v := (.agg #[(.int .i64 a8), (.int .i64 a3), (.int .i64 a2), (.int .i64 a6)])) rfl ?_)
 intro g h1 g6 g7
 have g8 := ext_pushed_f11_sh g7
 have l5 : Array.size h ≤ g := Nat.le_of_eq (Eq.symm g6)
 have a5 : h1[g]? = some (.cells #[(.int .i64 a8), (.int .i64 a3), (.int .i64 a2), (.int .i64 a6)] 24 (0, 0)) := by rw [g7]; exact push_new g6
 refine lp rfl rfl (hn_box (v := (.agg #[(.int .u64 b0), (.int .u64 a1), (.int .i64 a0)])) rfl ?_)
 intro hv h2 g3 i0
 have g5 := ext_pushed_f11_sh i0
 have l6 := Nat.ne_of_lt (Nat.lt_of_lt_of_eq (row_lt a5) (Eq.symm g3))
 have j2 : Array.size h ≤ hv := Nat.le_trans (Ext.size g8) (Nat.le_of_eq (Eq.symm g3))
 have a4 : h2[hv]? = some (.cells #[(.int .u64 b0), (.int .u64 a1), (.int .i64 a0)] 31 (0, 0)) := by rw [i0]; exact push_new g3
 replace a5 := Ext.row g5 a5
 have k8 := Ext.trans g8 g5
 refine lv rfl rfl (va rfl) (lv rfl rfl (va rfl) ?_)
 refine ln (qn (xs (xs (xr ?_))))
 refine lv rfl rfl (vL (vs := [(.int .i64 a8), (.int .i64 a3), (.int .i64 a2), (.int .i64 a6)]) TyTB.agg24 TyTB.sz24 rfl (cc (rc a5 rfl) (cc (rc a5 rfl) (cc (rc a5 rfl) (cc (rc a5 rfl) cn))))) ?_
 replace H := H g hv h2 l5 (row_lt a5) j2 (row_lt a4) k8
 refine lp rfl rfl (sc TyTB.cb16 rfl (HC.mono H ?_))
 rintro _ h3 ⟨f2, r, rfl, H⟩
 replace a5 := Ext.row f2 a5
 replace a4 := Ext.row f2 a4
 refine lv rfl rfl (va rfl) ?_
 refine ln (qn (xs (xr ?_)))
 refine lv rfl rfl (vm rfl) (lv rfl rfl (vr rfl rfl rfl) ?_)
 refine ln (qn ?_)
 refine xc (b := r != 0) rfl (fun d6 => ?_) (fun d6 => ?_)
 ·replace H := H.1 d6
  refine xs (xr ?_)
  refine lv rfl rfl (vm rfl) (lv rfl rfl (va rfl) (lv rfl rfl (va rfl) ?_))
  refine ln (qn (xt (qr ?_)))
  exact endQ_ret _ (res_two Tryd.results17 (rv_tmp rfl) (rv_tmp rfl)) H
 ·replace H := H.2 d6
  refine xi (qn (xs ?_))
  refine xk (fun ρ h' => h3 = h' ∧ Has ρ [(2, (ptr g 0)), (3, (ptr hv 0)), (27, (.bool ((decide (a0 < 0)) || ((decide (a0 ≥ a2)) || (a1 == 0)))))]) ?_ ?_
  ·refine xr ?_
   refine lv rfl rfl (v := (ptr hv 2)) (vf TyTB.fld31_2 (b := hv) (o := 0) rfl) (lv rfl rfl (vl TyTB.agg3 rfl (rc a4 rfl)) (lv rfl rfl (vr rfl rfl rfl) (lv rfl rfl (vm rfl) ?_)))
   rcases bool_or (decide (a0 < 0)) with a7 | a7
   ·refine lo (wanted_n rfl rfl rfl a7) rfl ?_
    refine lo (wanted_n rfl rfl rfl a7) rfl ?_
    refine lo (wanted_n rfl rfl rfl a7) rfl ?_
    refine lo (wanted_n rfl rfl rfl a7) rfl ?_
    refine lo (wanted_n rfl rfl rfl a7) rfl ?_
    refine lv rfl rfl (v := (.bool true)) (hv_pick_t rfl a7 rfl) (lv rfl rfl (vm rfl) ?_)
    refine lo (wanted_n rfl rfl (c := true) rfl rfl) rfl ?_
    refine lo (wanted_n rfl rfl (c := true) rfl rfl) rfl ?_
    refine lo (wanted_n rfl rfl (c := true) rfl rfl) rfl ?_
    refine lv rfl rfl (v := (.bool true)) (hv_pick (t := true) rfl rfl) ?_
    refine ln (qn ?_)
    exact ⟨rfl, (hc rfl (hc rfl (hc (show ((.bool true) : Value) = (.bool ((decide (a0 < 0)) || ((decide (a0 ≥ a2)) || (a1 == 0)))) from (by first | rfl | ((try rw [a7]); all_goals first | rfl | (simp only [Bool.true_or, Bool.or_true, Bool.false_or, Bool.or_false, Bool.true_and, Bool.and_true, Bool.false_and, Bool.and_false, Bool.not_true, Bool.not_false, Bool.cond_true, Bool.cond_false]; done)) | simp [a7])) hn)))⟩
   ·refine ly (wanted_y rfl rfl rfl a7) rfl (HStep.of_val (v := (ptr hv 2)) (vf TyTB.fld31_2 (b := hv) (o := 0) rfl) ?_)
    refine ly (wanted_y rfl rfl rfl a7) rfl (HStep.of_val (v := (.int .i64 a0)) (vl TyTB.agg3 rfl (rc a4 rfl)) ?_)
    refine ly (wanted_y rfl rfl rfl a7) rfl (HStep.of_val (v := (ptr g 2)) (vf TyTB.fld24_2 (b := g) (o := 0) rfl) ?_)
    refine ly (wanted_y rfl rfl rfl a7) rfl (HStep.of_val (v := (.int .i64 a2)) (vl TyTB.agg3 rfl (rc a5 rfl)) ?_)
    refine ly (wanted_y rfl rfl rfl a7) rfl (HStep.of_val (v := (.bool (decide (a0 ≥ a2)))) (vr rfl rfl rfl) ?_)
    refine lv rfl rfl (v := (.bool (decide (a0 ≥ a2)))) (hv_pick_f rfl a7 rfl) (lv rfl rfl (vm rfl) ?_)
    rcases bool_or (decide (a0 ≥ a2)) with b3 | b3
    ·refine lo (wanted_n rfl rfl rfl b3) rfl ?_
     refine lo (wanted_n rfl rfl rfl b3) rfl ?_
     refine lo (wanted_n rfl rfl rfl b3) rfl ?_
     refine lv rfl rfl (v := (.bool true)) (hv_pick_t rfl b3 rfl) ?_
     refine ln (qn ?_)
     exact ⟨rfl, (hc rfl (hc rfl (hc (show ((.bool true) : Value) = (.bool ((decide (a0 < 0)) || ((decide (a0 ≥ a2)) || (a1 == 0)))) from (by first | rfl | ((try rw [a7]); (try rw [b3]); all_goals first | rfl | (simp only [Bool.true_or, Bool.or_true, Bool.false_or, Bool.or_false, Bool.true_and, Bool.and_true, Bool.false_and, Bool.and_false, Bool.not_true, Bool.not_false, Bool.cond_true, Bool.cond_false]; done)) | simp [a7, b3])) hn)))⟩
    ·refine ly (wanted_y rfl rfl rfl b3) rfl (HStep.of_val (v := (ptr hv 1)) (vf TyTB.fld31_1 (b := hv) (o := 0) rfl) ?_)
     refine ly (wanted_y rfl rfl rfl b3) rfl (HStep.of_val (v := (.int .u64 a1)) (vl TyTB.agg29 rfl (rc a4 rfl)) ?_)
     refine ly (wanted_y rfl rfl rfl b3) rfl (HStep.of_val (v := (.bool (a1 == 0))) (vr rfl rfl rfl) ?_)
     refine lv rfl rfl (v := (.bool (a1 == 0))) (hv_pick_f rfl b3 rfl) ?_
     refine ln (qn ?_)
     exact ⟨rfl, (hc rfl (hc rfl (hc (show ((.bool (a1 == 0)) : Value) = (.bool ((decide (a0 < 0)) || ((decide (a0 ≥ a2)) || (a1 == 0)))) from (by first | rfl | ((try rw [a7]); (try rw [b3]); all_goals first | rfl | (simp only [Bool.true_or, Bool.or_true, Bool.false_or, Bool.or_false, Bool.true_and, Bool.and_true, Bool.false_and, Bool.and_false, Bool.not_true, Bool.not_false, Bool.cond_true, Bool.cond_false]; done)) | simp [a7, b3])) hn)))⟩
  ·rintro ρ _ ⟨rfl, hH⟩
   refine xh _ hH ?_
   refine xc (b := ((decide (a0 < 0)) || ((decide (a0 ≥ a2)) || (a1 == 0)))) rfl (fun e1 => ?_) (fun e1 => ?_)
   ·replace H := H.1 e1
    refine xs (xr ?_)
    refine lv rfl rfl (va rfl) (lv rfl rfl (va rfl) ?_)
    refine ln (qn (xt (qr ?_)))
    exact endQ_ret _ (res_two Tryd.results17 (rv_tmp rfl) (rv_tmp rfl)) H
   ·replace H := H.2 e1
    refine xi (qn ?_)
    obtain ⟨d3, e0, e2⟩ := H
    refine xk (fun ρ h' => ∃ b : Option Addr, ∃ c0 c2 : Nat, (d3 b c0 c2 h' ∧ h'[hv]? = some (.cells #[(.int .u64 b0), (.int .u64 a1), (.int .i64 a0)] 31 (0, 0)) ∧ True) ∧ Has ρ [(3, (ptr hv 0)), (7, (.slice b c0 c2))]) ?_ ?_
    ·have H := e0; clear e0 e2
     obtain ⟨b8, i8, H⟩ := H
     refine hx_tree TyTB.mixed b8 i8 [.ext, .tame, .pure, .stay, .stay, .pure, .stay, .pure, .pure, .pure, .stay, .stay, .ext, .wild, .pure] (.one 2 (.one 3 (.one 4 (.one 5 (.one 6 (.one 7 (.one 8 (.one 9 (.one 10 (.one 11 (.fork [0, 12] fun k => bif k == 0 then (.fork [1, 12] fun k => bif k == 1 then (.one 12 (.one 13 (.one 14 .done))) else (.one 1 (.one 13 (.one 14 .done)))) else (.one 0 (.one 1 (.one 13 (.one 14 .done))))))))))))))) (by kernel_rfl) ?_
     refine to (ho_pure (i := 2) rfl (wanted_0 rfl) rfl (ptr g 0) (fun _ => vf TyTB.fld24_0 (b := g) (o := 0) rfl) ?_)
     obtain ⟨k4, H⟩ := H
     refine to (ho_stay (i := 3) rfl (wanted_0 rfl) rfl (.int .i64 a8) (fun _ he => vl TyTB.agg3 rfl ((fun hx he => rc (Kp.row (k4 hx he) (by simp) a5) rfl) _ he)) ?_)
     obtain ⟨b7, i1, H⟩ := H
     refine to (ho_stay (i := 4) rfl (wanted_0 rfl) rfl (.int .u8 b7) (fun _ he => hv_call TyTB.cb42 (vs := [(.int .i64 a8)]) rfl (i1 _ he)) ?_)
     refine to (ho_pure (i := 5) rfl (wanted_0 rfl) rfl (ptr g 1) (fun _ => vf TyTB.fld24_1 (b := g) (o := 0) rfl) ?_)
     obtain ⟨k6, H⟩ := H
     refine to (ho_stay (i := 6) rfl (wanted_0 rfl) rfl (.int .i64 a3) (fun _ he => vl TyTB.agg3 rfl ((fun hx he => rc (Kp.row (k6 hx he) (by simp) a5) rfl) _ he)) ?_)
     refine to (ho_pure (i := 7) rfl (wanted_0 rfl) rfl (.int .i64 (IntKind.i64.wrap (a3 - 1))) (fun _ => vr rfl rfl rfl) ?_)
     refine to (ho_pure (i := 8) rfl (wanted_0 rfl) rfl (.int .u8 (IntKind.u8.wrap (IntKind.i64.wrap (a3 - 1)))) (fun _ => hv_convInt TyTB.u3 TyTB.u5 rfl) ?_)
     refine to (ho_pure (i := 9) rfl (wanted_0 rfl) rfl (ptr g 3) (fun _ => vf TyTB.fld24_3 (b := g) (o := 0) rfl) ?_)
     obtain ⟨j7, H⟩ := H
     refine to (ho_stay (i := 10) rfl (wanted_0 rfl) rfl (.int .i64 a6) (fun _ he => vl TyTB.agg3 rfl ((fun hx he => rc (Kp.row (j7 hx he) (by simp) a5) rfl) _ he)) ?_)
     obtain ⟨b6, i6, H⟩ := H
     refine to (ho_stay (i := 11) rfl (wanted_0 rfl) rfl (.int .u8 b6) (fun _ he => hv_call TyTB.cb42 (vs := [(.int .i64 a6)]) rfl (i6 _ he)) ?_)
     refine ht_fork2 rfl rfl ?_ ?_
     ·replace H := H.1
      refine ho_ext (i := 0) rfl (wanted_0 rfl) rfl (hn_buildSlice (n := 4) (vs := [(0, (.int .u8 67)), (1, (.int .u8 76)), (2, (.int .u8 82)), (3, (.int .u8 72))]) (cs := #[(.int .u8 67), (.int .u8 76), (.int .u8 82), (.int .u8 72)]) TyTB.u25 TyTB.sz5 TyTB.z5 rfl rfl (by kernel_rfl) ?_)
      intro nb h5 k7 f1
      replace H := H nb h5 k7 f1
      have d9 := ext_pushed_f11_sh f1
      replace a5 := Ext.row d9 a5
      replace a4 := Ext.row d9 a4
      refine ⟨d9, ?_⟩
      refine ht_fork2 rfl rfl ?_ ?_
      ·replace H := H.1
       obtain ⟨cs, T, i4, H⟩ := H
       refine ho_tame (i := 1) rfl (wanted_0 rfl) rfl (hs_mark TyTB.u25 TyTB.u5 rfl i4 ?_)
       intro h6 j5
       replace H := H h6 j5
       obtain ⟨k1, g2, H⟩ := H
       refine ⟨k1, ?_⟩
       replace a5 := Kp.row g2 (by simp) a5
       replace a4 := Kp.row g2 (by simp) a4
       refine to (ho_ext (i := 12) rfl (wanted_0 rfl) rfl (hn_buildSlice (n := 4) (vs := [(0, (.int .u8 1)), (1, (.int .u8 b7)), (2, (.int .u8 (IntKind.u8.wrap (IntKind.i64.wrap (a3 - 1))))), (3, (.int .u8 b6))]) (cs := #[(.int .u8 1), (.int .u8 b7), (.int .u8 (IntKind.u8.wrap (IntKind.i64.wrap (a3 - 1)))), (.int .u8 b6)]) TyTB.u25 TyTB.sz5 TyTB.z5 rfl rfl (by kernel_rfl) ?_))
       intro a9 h7 l0 g0
       replace H := H a9 h7 l0 g0
       have e3 := ext_pushed_f11_sh g0
       replace a5 := Ext.row e3 a5
       replace a4 := Ext.row e3 a4
       refine ⟨e3, ?_⟩
       refine to (ho_wild (i := 13) rfl (wanted_0 rfl) rfl (hs_append rfl rfl (HAppend.mono H ?_)))
       rintro _ h8 ⟨i3, ap, b2, b1, rfl, H⟩
       replace a4 := Kp.row i3 (by simp) a4
       refine to (ho_pure (i := 14) rfl (wanted_0 rfl) rfl (.slice ap b2 b1) (fun _ => va rfl) ?_)
       refine ht_done ?_
       refine qn ?_
       exact ⟨_, _, _, ⟨H, a4, trivial⟩, (hc rfl (hc rfl hn))⟩
      ·replace H := H.2
       refine ho_ext (i := 12) rfl (wanted_0 rfl) rfl (hn_buildSlice (n := 4) (vs := [(0, (.int .u8 1)), (1, (.int .u8 b7)), (2, (.int .u8 (IntKind.u8.wrap (IntKind.i64.wrap (a3 - 1))))), (3, (.int .u8 b6))]) (cs := #[(.int .u8 1), (.int .u8 b7), (.int .u8 (IntKind.u8.wrap (IntKind.i64.wrap (a3 - 1)))), (.int .u8 b6)]) TyTB.u25 TyTB.sz5 TyTB.z5 rfl rfl (by kernel_rfl) ?_)
       intro a9 h9 j0 f8
       replace H := H a9 h9 j0 f8
       have d5 := ext_pushed_f11_sh f8
       replace a5 := Ext.row d5 a5
       replace a4 := Ext.row d5 a4
       refine ⟨d5, ?_⟩
       obtain ⟨cs, T, i2, H⟩ := H
       refine to (ho_tame (i := 1) rfl (wanted_0 rfl) rfl (hs_mark TyTB.u25 TyTB.u5 rfl i2 ?_))
       intro c8 j9
       replace H := H c8 j9
       obtain ⟨i5, f9, H⟩ := H
       refine ⟨i5, ?_⟩
       replace a5 := Kp.row f9 (by simp) a5
       replace a4 := Kp.row f9 (by simp) a4
       refine to (ho_wild (i := 13) rfl (wanted_0 rfl) rfl (hs_append rfl rfl (HAppend.mono H ?_)))
       rintro _ f4 ⟨k9, ap, b2, b1, rfl, H⟩
       replace a4 := Kp.row k9 (by simp) a4
       refine to (ho_pure (i := 14) rfl (wanted_0 rfl) rfl (.slice ap b2 b1) (fun _ => va rfl) ?_)
       refine ht_done ?_
       refine qn ?_
       exact ⟨_, _, _, ⟨H, a4, trivial⟩, (hc rfl (hc rfl hn))⟩
     ·replace H := H.2
      refine ho_ext (i := 12) rfl (wanted_0 rfl) rfl (hn_buildSlice (n := 4) (vs := [(0, (.int .u8 1)), (1, (.int .u8 b7)), (2, (.int .u8 (IntKind.u8.wrap (IntKind.i64.wrap (a3 - 1))))), (3, (.int .u8 b6))]) (cs := #[(.int .u8 1), (.int .u8 b7), (.int .u8 (IntKind.u8.wrap (IntKind.i64.wrap (a3 - 1)))), (.int .u8 b6)]) TyTB.u25 TyTB.sz5 TyTB.z5 rfl rfl (by kernel_rfl) ?_)
      intro nb c9 l3 f3
      replace H := H nb c9 l3 f3
      have d7 := ext_pushed_f11_sh f3
      replace a5 := Ext.row d7 a5
      replace a4 := Ext.row d7 a4
      refine ⟨d7, ?_⟩
      refine to (ho_ext (i := 0) rfl (wanted_0 rfl) rfl (hn_buildSlice (n := 4) (vs := [(0, (.int .u8 67)), (1, (.int .u8 76)), (2, (.int .u8 82)), (3, (.int .u8 72))]) (cs := #[(.int .u8 67), (.int .u8 76), (.int .u8 82), (.int .u8 72)]) TyTB.u25 TyTB.sz5 TyTB.z5 rfl rfl (by kernel_rfl) ?_))
      intro a9 c3 j8 g4
      replace H := H a9 c3 j8 g4
      have d8 := ext_pushed_f11_sh g4
      replace a5 := Ext.row d8 a5
      replace a4 := Ext.row d8 a4
      refine ⟨d8, ?_⟩
      obtain ⟨cs, T, l4, H⟩ := H
      refine to (ho_tame (i := 1) rfl (wanted_0 rfl) rfl (hs_mark TyTB.u25 TyTB.u5 rfl l4 ?_))
      intro d0 j3
      replace H := H d0 j3
      obtain ⟨l1, g1, H⟩ := H
      refine ⟨l1, ?_⟩
      replace a5 := Kp.row g1 (by simp) a5
      replace a4 := Kp.row g1 (by simp) a4
      refine to (ho_wild (i := 13) rfl (wanted_0 rfl) rfl (hs_append rfl rfl (HAppend.mono H ?_)))
      rintro _ f6 ⟨j6, ap, b2, b1, rfl, H⟩
      replace a4 := Kp.row j6 (by simp) a4
      refine to (ho_pure (i := 14) rfl (wanted_0 rfl) rfl (.slice ap b2 b1) (fun _ => va rfl) ?_)
      refine ht_done ?_
      refine qn ?_
      exact ⟨_, _, _, ⟨H, a4, trivial⟩, (hc rfl (hc rfl hn))⟩
    ·rintro ρ h4 ⟨b, c0, c2, ⟨k3, b9, -⟩, hH⟩
     have H := e2 b c0 c2 h4 k3; clear e0 e2
     refine xh _ hH ?_
     refine xs ?_
     obtain ⟨d1, j1, H⟩ := H
     refine hx_drawT TyTB.mixed d1 j1 [.pure, .pure, .read, .tame, .pure, .stay, .tame, .pure, .stay, .pure, .wild, .pure] [0, 1, 2, 4, 5, 7, 8, 9, 3, 6, 10, 11] (by kernel_rfl) ?_
     refine pp (i := 0) rfl (wanted_0 rfl) rfl (.slice b c0 c2) (fun _ => vm rfl) ?_
     refine pp (i := 1) rfl (wanted_0 rfl) rfl (ptr hv 0) (fun _ => vf TyTB.fld31_0 (b := hv) (o := 0) rfl) ?_
     refine pr (i := 2) rfl (wanted_0 rfl) rfl (.int .u64 b0) (fun _ he => vl TyTB.agg29 rfl (Ext.cell he (rc b9 rfl))) ?_
     refine pp (i := 4) rfl (wanted_0 rfl) rfl (ptr hv 1) (fun _ => vf TyTB.fld31_1 (b := hv) (o := 0) rfl) ?_
     obtain ⟨j4, H⟩ := H
     refine hp_stay (i := 5) rfl (wanted_0 rfl) rfl (.int .u64 a1) (fun _ he => vl TyTB.agg29 rfl ((fun hx he => rc (Kp.row (j4 hx he) (by simp) b9) rfl) _ he)) ?_
     refine pp (i := 7) rfl (wanted_0 rfl) rfl (ptr hv 2) (fun _ => vf TyTB.fld31_2 (b := hv) (o := 0) rfl) ?_
     obtain ⟨k2, H⟩ := H
     refine hp_stay (i := 8) rfl (wanted_0 rfl) rfl (.int .i64 a0) (fun _ he => vl TyTB.agg3 rfl ((fun hx he => rc (Kp.row (k2 hx he) (by simp) b9) rfl) _ he)) ?_
     refine pp (i := 9) rfl (wanted_0 rfl) rfl (.int .u64 (IntKind.u64.wrap a0)) (fun _ => hv_convInt TyTB.u3 TyTB.u29 rfl) ?_
     refine hp_tame (i := 3) rfl (wanted_0 rfl) rfl (sc TyTB.cb43 rfl (HC.mono H ?_))
     rintro _ d4 ⟨k0, i7, e6, e4, e7, rfl, H⟩
     refine ⟨k0, ?_⟩
     replace b9 := Kp.row i7 (by simp) b9
     refine hp_tame (i := 6) rfl (wanted_0 rfl) rfl (sc TyTB.cb43 rfl (HC.mono H ?_))
     rintro _ e9 ⟨l2, k5, e5, c6, c5, rfl, H⟩
     refine ⟨l2, ?_⟩
     replace b9 := Kp.row k5 (by simp) b9
     refine hp_wild (i := 10) rfl (wanted_0 rfl) rfl (sc TyTB.cb43 rfl (HC.mono H ?_))
     rintro _ f0 ⟨c1, b4, b5, rfl, H⟩
     refine pp (i := 11) rfl (wanted_0 rfl) rfl (.slice c1 b4 b5) (fun _ => va rfl) ?_
     refine hp_nil ?_
     refine qn (xs (xr ?_))
     refine lv rfl rfl (vm rfl) (lv rfl rfl (vm rfl) ?_)
     obtain ⟨d2, i9, H⟩ := H
     refine lv rfl rfl (hv_call TyTB.cb44 (vs := [(.slice c1 b4 b5)]) rfl i9) (lv rfl rfl (v := (.int .u64 (IntKind.u64.wrap d2))) (hv_convInt TyTB.u86 TyTB.u29 rfl) ?_)
     refine lp rfl rfl (sc TyTB.cb43 rfl (HC.mono H ?_))
     rintro _ g9 ⟨e8, c7, c4, rfl, H⟩
     refine lv rfl rfl (va rfl) (lv rfl rfl (va rfl) ?_)
     refine ln (qn (xt ?_))
     exact endQ_ret _ (res_two Tryd.results17 (rv_tmp rfl) (rv_tmp rfl)) H
theorem f61_sh (a7 : Int) (a4 : Int) (a1 : Int) (a3 : Int) (b0 : Int) (a2 : Int) (a0 : Int) (h : Heap) (R : Value → Heap → Prop)
  (H : (∀ (g : Nat) (hv : Nat) (h2 : Heap), Array.size h ≤ g → g < Array.size h2 → Array.size h ≤ hv → hv < Array.size h2 → Ext h h2 → HC Tryd.prog 59 #[(.agg #[(.int .i64 a7), (.int .i64 a4), (.int .i64 a1), (.int .i64 a3)])] h2 (fun vv h3 => Ext h2 h3 ∧ ∃ r : Int, vv = (.int .i64 r) ∧ (((r != 0) = true → R (.tuple #[(.slice none 0 0), (.int .i64 r)]) h3) ∧ ((r != 0) = false → ((((decide (a0 < 0)) || ((decide (a0 ≥ a1)) || (a2 == 0))) = true → R (.tuple #[(.slice none 0 0), (.int .i64 1)]) h3) ∧ (((decide (a0 < 0)) || ((decide (a0 ≥ a1)) || (a2 == 0))) = false → (∀ nb h4, nb = Array.size h3 → h4 = Array.push h3 (.cells #[(.int .u8 67), (.int .u8 76), (.int .u8 82), (.int .u8 72)] 5) → (∃ (cs : Array Value) (T : TypeId), h4[nb]? = some (.cells cs T (0, 0)) ∧ ∀ h5, h5 = hfrz h4 nb (Array.size cs) → Kp [g, hv] h4 h5 ∧ (∀ c6 h6, c6 = Array.size h5 → h6 = Array.push h5 (.cells #[(.int .u8 1)] 5) → HAppend Tryd.prog 25 25 (.slice (some ⟨nb, 0, none⟩) 4 4) (.slice (some ⟨c6, 0, none⟩) 1 1) h6 (fun vv h7 => Kp [g, hv] h6 h7 ∧ ∃ ap : Option Addr, ∃ c3 c2 : Nat, vv = (.slice ap c3 c2) ∧ HC Tryd.prog 82 #[(.agg #[(.int .i64 a7), (.int .i64 a4), (.int .i64 a1), (.int .i64 a3)])] h7 (fun vv h8 => Ext h7 h8 ∧ ∃ d5 : Option Addr, ∃ d2 d9 : Nat, vv = (.slice d5 d2 d9) ∧ HAppend Tryd.prog 25 25 (.slice ap c3 c2) (.slice d5 d2 d9) h8 (fun vv h9 => Kp [hv] h8 h9 ∧ ∃ b7 : Option Addr, ∃ b1 b2 : Nat, vv = (.slice b7 b1 b2) ∧ HC Tryd.prog 83 #[(.slice b7 b1 b2), (.int .u64 b0), (.int .i64 8)] h9 (fun vv c9 => Kp [hv] h9 c9 ∧ ∃ c4 : Option Addr, ∃ b5 b3 : Nat, vv = (.slice c4 b5 b3) ∧ HC Tryd.prog 83 #[(.slice c4 b5 b3), (.int .u64 a2), (.int .i64 8)] c9 (fun vv d4 => Kp [hv] c9 d4 ∧ ∃ c5 : Option Addr, ∃ b4 b6 : Nat, vv = (.slice c5 b4 b6) ∧ HC Tryd.prog 83 #[(.slice c5 b4 b6), (.int .u64 (IntKind.u64.wrap a0)), (.int .i64 4)] d4 (fun vv e4 => ∃ d1 : Option Addr, ∃ c1 b8 : Nat, vv = (.slice d1 c1 b8) ∧ HC Tryd.prog 84 #[(.slice d1 c1 b8)] e4 (fun vv e9 => ∃ d0 : Option Addr, ∃ b9 c0 : Nat, vv = (.slice d0 b9 c0) ∧ R (.tuple #[(.slice d0 b9 c0), (.int .i64 0)]) e9))))))))))))))))) :
  HC Tryd.prog 61 #[(.agg #[(.int .i64 a7), (.int .i64 a4), (.int .i64 a1), (.int .i64 a3)]), (.agg #[(.int .u64 b0), (.int .u64 a2), (.int .i64 a0)])] h R := by
 refine hc_of (args := [(.agg #[(.int .i64 a7), (.int .i64 a4), (.int .i64 a1), (.int .i64 a3)]), (.agg #[(.int .u64 b0), (.int .u64 a2), (.int .i64 a0)])]) Tryd.func61 rfl Tryd.ntmps61 (Nat.le_of_ble_eq_true rfl) ?_
 refine xs (xr ?_)
 refine lp rfl rfl (hn_box (v := (.agg #[(.int .i64 a7), (.int .i64 a4), (.int .i64 a1), (.int .i64 a3)])) rfl ?_)
 intro g h1 e6 e7
 have e8 := ext_pushed_f11_sh e7
 have g1 : Array.size h ≤ g := Nat.le_of_eq (Eq.symm e6)
 have a8 : h1[g]? = some (.cells #[(.int .i64 a7), (.int .i64 a4), (.int .i64 a1), (.int .i64 a3)] 24 (0, 0)) := by rw [e7]; exact push_new e6
 refine lp rfl rfl (hn_box (v := (.agg #[(.int .u64 b0), (.int .u64 a2), (.int .i64 a0)])) rfl ?_)
 intro hv h2 e2 f0
 have e5 := ext_pushed_f11_sh f0
 have g2 := Nat.ne_of_lt (Nat.lt_of_lt_of_eq (row_lt a8) (Eq.symm e2))
 have f3 : Array.size h ≤ hv := Nat.le_trans (Ext.size e8) (Nat.le_of_eq (Eq.symm e2))
 have a6 : h2[hv]? = some (.cells #[(.int .u64 b0), (.int .u64 a2), (.int .i64 a0)] 31 (0, 0)) := by rw [f0]; exact push_new e2
 replace a8 := Ext.row e5 a8
 have f9 := Ext.trans e8 e5
 refine lv rfl rfl (va rfl) (lv rfl rfl (va rfl) ?_)
 refine ln (qn (xs (xs (xr ?_))))
 refine lv rfl rfl (vL (vs := [(.int .i64 a7), (.int .i64 a4), (.int .i64 a1), (.int .i64 a3)]) TyTB.agg24 TyTB.sz24 rfl (cc (rc a8 rfl) (cc (rc a8 rfl) (cc (rc a8 rfl) (cc (rc a8 rfl) cn))))) ?_
 replace H := H g hv h2 g1 (row_lt a8) f3 (row_lt a6) f9
 refine lp rfl rfl (sc TyTB.cb59 rfl (HC.mono H ?_))
 rintro _ h3 ⟨d3, r, rfl, H⟩
 replace a8 := Ext.row d3 a8
 replace a6 := Ext.row d3 a6
 refine lv rfl rfl (va rfl) ?_
 refine ln (qn (xs (xr ?_)))
 refine lv rfl rfl (vm rfl) (lv rfl rfl (vr rfl rfl rfl) ?_)
 refine ln (qn ?_)
 refine xc (b := r != 0) rfl (fun c7 => ?_) (fun c7 => ?_)
 ·replace H := H.1 c7
  refine xs (xr ?_)
  refine lv rfl rfl (vm rfl) (lv rfl rfl (va rfl) (lv rfl rfl (va rfl) ?_))
  refine ln (qn (xt (qr ?_)))
  exact endQ_ret _ (res_two Tryd.results61 (rv_tmp rfl) (rv_tmp rfl)) H
 ·replace H := H.2 c7
  refine xi (qn (xs ?_))
  refine xk (fun ρ h' => h3 = h' ∧ Has ρ [(2, (ptr g 0)), (3, (ptr hv 0)), (27, (.bool ((decide (a0 < 0)) || ((decide (a0 ≥ a1)) || (a2 == 0)))))]) ?_ ?_
  ·refine xr ?_
   refine lv rfl rfl (v := (ptr hv 2)) (vf TyTB.fld31_2 (b := hv) (o := 0) rfl) (lv rfl rfl (vl TyTB.agg3 rfl (rc a6 rfl)) (lv rfl rfl (vr rfl rfl rfl) (lv rfl rfl (vm rfl) ?_)))
   rcases bool_or (decide (a0 < 0)) with a5 | a5
   ·refine lo (wanted_n rfl rfl rfl a5) rfl ?_
    refine lo (wanted_n rfl rfl rfl a5) rfl ?_
    refine lo (wanted_n rfl rfl rfl a5) rfl ?_
    refine lo (wanted_n rfl rfl rfl a5) rfl ?_
    refine lo (wanted_n rfl rfl rfl a5) rfl ?_
    refine lv rfl rfl (v := (.bool true)) (hv_pick_t rfl a5 rfl) (lv rfl rfl (vm rfl) ?_)
    refine lo (wanted_n rfl rfl (c := true) rfl rfl) rfl ?_
    refine lo (wanted_n rfl rfl (c := true) rfl rfl) rfl ?_
    refine lo (wanted_n rfl rfl (c := true) rfl rfl) rfl ?_
    refine lv rfl rfl (v := (.bool true)) (hv_pick (t := true) rfl rfl) ?_
    refine ln (qn ?_)
    exact ⟨rfl, (hc rfl (hc rfl (hc (show ((.bool true) : Value) = (.bool ((decide (a0 < 0)) || ((decide (a0 ≥ a1)) || (a2 == 0)))) from (by first | rfl | ((try rw [a5]); all_goals first | rfl | (simp only [Bool.true_or, Bool.or_true, Bool.false_or, Bool.or_false, Bool.true_and, Bool.and_true, Bool.false_and, Bool.and_false, Bool.not_true, Bool.not_false, Bool.cond_true, Bool.cond_false]; done)) | simp [a5])) hn)))⟩
   ·refine ly (wanted_y rfl rfl rfl a5) rfl (HStep.of_val (v := (ptr hv 2)) (vf TyTB.fld31_2 (b := hv) (o := 0) rfl) ?_)
    refine ly (wanted_y rfl rfl rfl a5) rfl (HStep.of_val (v := (.int .i64 a0)) (vl TyTB.agg3 rfl (rc a6 rfl)) ?_)
    refine ly (wanted_y rfl rfl rfl a5) rfl (HStep.of_val (v := (ptr g 2)) (vf TyTB.fld24_2 (b := g) (o := 0) rfl) ?_)
    refine ly (wanted_y rfl rfl rfl a5) rfl (HStep.of_val (v := (.int .i64 a1)) (vl TyTB.agg3 rfl (rc a8 rfl)) ?_)
    refine ly (wanted_y rfl rfl rfl a5) rfl (HStep.of_val (v := (.bool (decide (a0 ≥ a1)))) (vr rfl rfl rfl) ?_)
    refine lv rfl rfl (v := (.bool (decide (a0 ≥ a1)))) (hv_pick_f rfl a5 rfl) (lv rfl rfl (vm rfl) ?_)
    rcases bool_or (decide (a0 ≥ a1)) with a9 | a9
    ·refine lo (wanted_n rfl rfl rfl a9) rfl ?_
     refine lo (wanted_n rfl rfl rfl a9) rfl ?_
     refine lo (wanted_n rfl rfl rfl a9) rfl ?_
     refine lv rfl rfl (v := (.bool true)) (hv_pick_t rfl a9 rfl) ?_
     refine ln (qn ?_)
     exact ⟨rfl, (hc rfl (hc rfl (hc (show ((.bool true) : Value) = (.bool ((decide (a0 < 0)) || ((decide (a0 ≥ a1)) || (a2 == 0)))) from (by first | rfl | ((try rw [a5]); (try rw [a9]); all_goals first | rfl | (simp only [Bool.true_or, Bool.or_true, Bool.false_or, Bool.or_false, Bool.true_and, Bool.and_true, Bool.false_and, Bool.and_false, Bool.not_true, Bool.not_false, Bool.cond_true, Bool.cond_false]; done)) | simp [a5, a9])) hn)))⟩
    ·refine ly (wanted_y rfl rfl rfl a9) rfl (HStep.of_val (v := (ptr hv 1)) (vf TyTB.fld31_1 (b := hv) (o := 0) rfl) ?_)
     refine ly (wanted_y rfl rfl rfl a9) rfl (HStep.of_val (v := (.int .u64 a2)) (vl TyTB.agg29 rfl (rc a6 rfl)) ?_)
     refine ly (wanted_y rfl rfl rfl a9) rfl (HStep.of_val (v := (.bool (a2 == 0))) (vr rfl rfl rfl) ?_)
     refine lv rfl rfl (v := (.bool (a2 == 0))) (hv_pick_f rfl a9 rfl) ?_
     refine ln (qn ?_)
     exact ⟨rfl, (hc rfl (hc rfl (hc (show ((.bool (a2 == 0)) : Value) = (.bool ((decide (a0 < 0)) || ((decide (a0 ≥ a1)) || (a2 == 0)))) from (by first | rfl | ((try rw [a5]); (try rw [a9]); all_goals first | rfl | (simp only [Bool.true_or, Bool.or_true, Bool.false_or, Bool.or_false, Bool.true_and, Bool.and_true, Bool.false_and, Bool.and_false, Bool.not_true, Bool.not_false, Bool.cond_true, Bool.cond_false]; done)) | simp [a5, a9])) hn)))⟩
  ·rintro ρ _ ⟨rfl, hH⟩
   refine xh _ hH ?_
   refine xc (b := ((decide (a0 < 0)) || ((decide (a0 ≥ a1)) || (a2 == 0)))) rfl (fun c8 => ?_) (fun c8 => ?_)
   ·replace H := H.1 c8
    refine xs (xr ?_)
    refine lv rfl rfl (va rfl) (lv rfl rfl (va rfl) ?_)
    refine ln (qn (xt (qr ?_)))
    exact endQ_ret _ (res_two Tryd.results61 (rv_tmp rfl) (rv_tmp rfl)) H
   ·replace H := H.2 c8
    refine xi (qn (xs (xr ?_)))
    refine lp rfl rfl (hn_buildSlice (n := 4) (vs := [(0, (.int .u8 67)), (1, (.int .u8 76)), (2, (.int .u8 82)), (3, (.int .u8 72))]) (cs := #[(.int .u8 67), (.int .u8 76), (.int .u8 82), (.int .u8 72)]) TyTB.u25 TyTB.sz5 TyTB.z5 rfl rfl (by kernel_rfl) ?_)
    intro nb h4 f1 e1
    replace H := H nb h4 f1 e1
    have e0 := ext_pushed_f11_sh e1
    replace a8 := Ext.row e0 a8
    replace a6 := Ext.row e0 a6
    obtain ⟨cs, T, f6, H⟩ := H
    refine lp rfl rfl (hs_mark TyTB.u25 TyTB.u5 rfl f6 ?_)
    intro h5 f5
    replace H := H h5 f5
    obtain ⟨d8, H⟩ := H
    replace a8 := Kp.row d8 (by simp) a8
    replace a6 := Kp.row d8 (by simp) a6
    refine lp rfl rfl (hn_buildSlice (n := 1) (vs := [(0, (.int .u8 1))]) (cs := #[(.int .u8 1)]) TyTB.u25 TyTB.sz5 TyTB.z5 rfl rfl (by kernel_rfl) ?_)
    intro c6 h6 f2 d6
    replace H := H c6 h6 f2 d6
    have d7 := ext_pushed_f11_sh d6
    replace a8 := Ext.row d7 a8
    replace a6 := Ext.row d7 a6
    refine lp rfl rfl (hs_append rfl rfl (HAppend.mono H ?_))
    rintro _ h7 ⟨e3, ap, c3, c2, rfl, H⟩
    replace a8 := Kp.row e3 (by simp) a8
    replace a6 := Kp.row e3 (by simp) a6
    refine lv rfl rfl (va rfl) ?_
    refine ln (qn (xs (xr ?_)))
    refine lv rfl rfl (vm rfl) (lv rfl rfl (vL (vs := [(.int .i64 a7), (.int .i64 a4), (.int .i64 a1), (.int .i64 a3)]) TyTB.agg24 TyTB.sz24 rfl (cc (rc a8 rfl) (cc (rc a8 rfl) (cc (rc a8 rfl) (cc (rc a8 rfl) cn))))) ?_)
    refine lp rfl rfl (sc TyTB.cb82 rfl (HC.mono H ?_))
    rintro _ h8 ⟨f4, d5, d2, d9, rfl, H⟩
    replace a6 := Ext.row f4 a6
    refine lp rfl rfl (hs_append rfl rfl (HAppend.mono H ?_))
    rintro _ h9 ⟨f7, b7, b1, b2, rfl, H⟩
    replace a6 := Kp.row f7 (by simp) a6
    refine lv rfl rfl (va rfl) ?_
    refine ln (qn (xs (xr ?_)))
    refine lv rfl rfl (vm rfl) (lv rfl rfl (v := (ptr hv 0)) (vf TyTB.fld31_0 (b := hv) (o := 0) rfl) (lv rfl rfl (vl TyTB.agg29 rfl (rc a6 rfl)) ?_))
    refine lp rfl rfl (sc TyTB.cb83 rfl (HC.mono H ?_))
    rintro _ c9 ⟨g0, c4, b5, b3, rfl, H⟩
    replace a6 := Kp.row g0 (by simp) a6
    refine lv rfl rfl (va rfl) ?_
    refine ln (qn (xs (xr ?_)))
    refine lv rfl rfl (vm rfl) (lv rfl rfl (v := (ptr hv 1)) (vf TyTB.fld31_1 (b := hv) (o := 0) rfl) (lv rfl rfl (vl TyTB.agg29 rfl (rc a6 rfl)) ?_))
    refine lp rfl rfl (sc TyTB.cb83 rfl (HC.mono H ?_))
    rintro _ d4 ⟨f8, c5, b4, b6, rfl, H⟩
    replace a6 := Kp.row f8 (by simp) a6
    refine lv rfl rfl (va rfl) ?_
    refine ln (qn (xs (xr ?_)))
    refine lv rfl rfl (vm rfl) (lv rfl rfl (v := (ptr hv 2)) (vf TyTB.fld31_2 (b := hv) (o := 0) rfl) (lv rfl rfl (vl TyTB.agg3 rfl (rc a6 rfl)) (lv rfl rfl (v := (.int .u64 (IntKind.u64.wrap a0))) (hv_convInt TyTB.u3 TyTB.u29 rfl) ?_)))
    refine lp rfl rfl (sc TyTB.cb83 rfl (HC.mono H ?_))
    rintro _ e4 ⟨d1, c1, b8, rfl, H⟩
    refine lp rfl rfl (sc TyTB.cb84 rfl (HC.mono H ?_))
    rintro _ e9 ⟨d0, b9, c0, rfl, H⟩
    refine lv rfl rfl (va rfl) (lv rfl rfl (va rfl) ?_)
    refine ln (qn (xt ?_))
    exact endQ_ret _ (res_two Tryd.results61 (rv_tmp rfl) (rv_tmp rfl)) H
theorem f67_sh (a5 : Int) (a4 : Int) (a2 : Int) (a3 : Int) (a0 : Int) (a1 : Int) (b0 : Int) (b1 : Int) (h : Heap) (R : Value → Heap → Prop)
  (H : (∀ (g : Nat) (f : Nat) (h2 : Heap), Array.size h ≤ g → g < Array.size h2 → Array.size h ≤ f → f < Array.size h2 → Ext h h2 → HC Tryd.prog 59 #[(.agg #[(.int .i64 a5), (.int .i64 a4), (.int .i64 a2), (.int .i64 a3)])] h2 (fun vv h3 => Ext h2 h3 ∧ ∃ r : Int, vv = (.int .i64 r) ∧ (((r != 0) = true → R (.tuple #[(.slice none 0 0), (.int .i64 r)]) h3) ∧ ((r != 0) = false → HC Tryd.prog 31 #[(.agg #[(.int .i64 a5), (.int .i64 a4), (.int .i64 a2), (.int .i64 a3)])] h3 (fun vv h4 => Ext h3 h4 ∧ ∃ r0 r1 r2 : Int, vv = (.tuple #[(.int .i64 r0), (.int .i64 r1), (.int .i64 r2)]) ∧ ((((decide (a0 < 0)) || ((decide (a0 > 2147483647)) || ((decide (a1 < 32)) || (decide (a1 > (IntKind.i64.wrap (r0 - 24))))))) = true → R (.tuple #[(.slice none 0 0), (.int .i64 1)]) h4) ∧ (((decide (a0 < 0)) || ((decide (a0 > 2147483647)) || ((decide (a1 < 32)) || (decide (a1 > (IntKind.i64.wrap (r0 - 24))))))) = false → (∀ nb h5, nb = Array.size h4 → h5 = Array.push h4 (.cells #[(.int .u8 67), (.int .u8 76), (.int .u8 82), (.int .u8 70)] 5) → (∃ (cs : Array Value) (T : TypeId), h5[nb]? = some (.cells cs T (0, 0)) ∧ ∀ h6, h6 = hfrz h5 nb (Array.size cs) → Kp [f] h5 h6 ∧ (∀ b8 h7, b8 = Array.size h6 → h7 = Array.push h6 (.cells #[(.int .u64 (IntKind.u64.wrap a0)), (.int .u64 (IntKind.u64.wrap a1)), (.int .u64 (IntKind.u64.wrap b0)), (.int .u64 (IntKind.u64.wrap b1))] 29) → (∃ (c0 : Option Addr → Nat → Nat → Int → Heap → Prop) (b9 : Option Addr → Nat → Nat → Int → Heap → Nat), c0 (some ⟨nb, 0, none⟩) 4 4 0 h7 ∧ (∀ (b : Option Addr) (b6 : Nat) (b7 : Nat) (v : Int) (h8 : Heap), c0 b b6 b7 v h8 → (((decide (v < 4)) = true → ((0 : Int) ≤ v ∧ v < (4 : Int) ∧ (∃ x : Int, hcell h8 b8 (0 + (Int.toNat v) * 1) = some (.int .u64 x) ∧ HC Tryd.prog 83 #[(.slice b b6 b7), (.int .u64 x), (.int .i64 4)] h8 (fun vv h9 => ∃ b4 : Option Addr, ∃ b3 b5 : Nat, vv = (.slice b4 b3 b5) ∧ (c0 b4 b3 b5 (IntKind.i64.wrap (v + 1)) h9 ∧ b9 b4 b3 b5 (IntKind.i64.wrap (v + 1)) h9 < b9 b b6 b7 v h8))))) ∧ ((decide (v < 4)) = false → HC Tryd.prog 84 #[(.slice b b6 b7)] h8 (fun vv c8 => ∃ b4 : Option Addr, ∃ b3 b5 : Nat, vv = (.slice b4 b3 b5) ∧ R (.tuple #[(.slice b4 b3 b5), (.int .i64 0)]) c8)))))))))))))))) :
  HC Tryd.prog 67 #[(.agg #[(.int .i64 a5), (.int .i64 a4), (.int .i64 a2), (.int .i64 a3)]), (.agg #[(.int .i64 a0), (.int .i64 a1), (.int .u32 b0), (.int .u32 b1)])] h R := by
 refine hc_of (args := [(.agg #[(.int .i64 a5), (.int .i64 a4), (.int .i64 a2), (.int .i64 a3)]), (.agg #[(.int .i64 a0), (.int .i64 a1), (.int .u32 b0), (.int .u32 b1)])]) Tryd.func67 rfl Tryd.ntmps67 (Nat.le_of_ble_eq_true rfl) ?_
 refine xs (xr ?_)
 refine lp rfl rfl (hn_box (v := (.agg #[(.int .i64 a5), (.int .i64 a4), (.int .i64 a2), (.int .i64 a3)])) rfl ?_)
 intro g h1 d0 d1
 have d2 := ext_pushed_f11_sh d1
 have f0 : Array.size h ≤ g := Nat.le_of_eq (Eq.symm d0)
 have b2 : h1[g]? = some (.cells #[(.int .i64 a5), (.int .i64 a4), (.int .i64 a2), (.int .i64 a3)] 24 (0, 0)) := by rw [d1]; exact push_new d0
 refine lp rfl rfl (hn_box (v := (.agg #[(.int .i64 a0), (.int .i64 a1), (.int .u32 b0), (.int .u32 b1)])) rfl ?_)
 intro f h2 c6 d3
 have c9 := ext_pushed_f11_sh d3
 have f1 := Nat.ne_of_lt (Nat.lt_of_lt_of_eq (row_lt b2) (Eq.symm c6))
 have d4 : Array.size h ≤ f := Nat.le_trans (Ext.size d2) (Nat.le_of_eq (Eq.symm c6))
 have a9 : h2[f]? = some (.cells #[(.int .i64 a0), (.int .i64 a1), (.int .u32 b0), (.int .u32 b1)] 88 (0, 0)) := by rw [d3]; exact push_new c6
 replace b2 := Ext.row c9 b2
 have e7 := Ext.trans d2 c9
 refine lv rfl rfl (va rfl) (lv rfl rfl (va rfl) ?_)
 refine ln (qn (xs (xs (xr ?_))))
 refine lv rfl rfl (vL (vs := [(.int .i64 a5), (.int .i64 a4), (.int .i64 a2), (.int .i64 a3)]) TyTB.agg24 TyTB.sz24 rfl (cc (rc b2 rfl) (cc (rc b2 rfl) (cc (rc b2 rfl) (cc (rc b2 rfl) cn))))) ?_
 replace H := H g f h2 f0 (row_lt b2) d4 (row_lt a9) e7
 refine lp rfl rfl (sc TyTB.cb59 rfl (HC.mono H ?_))
 rintro _ h3 ⟨c4, r, rfl, H⟩
 replace b2 := Ext.row c4 b2
 replace a9 := Ext.row c4 a9
 refine lv rfl rfl (va rfl) ?_
 refine ln (qn (xs (xr ?_)))
 refine lv rfl rfl (vm rfl) (lv rfl rfl (vr rfl rfl rfl) ?_)
 refine ln (qn ?_)
 refine xc (b := r != 0) rfl (fun c3 => ?_) (fun c3 => ?_)
 ·replace H := H.1 c3
  refine xs (xr ?_)
  refine lv rfl rfl (vm rfl) (lv rfl rfl (va rfl) (lv rfl rfl (va rfl) ?_))
  refine ln (qn (xt (qr ?_)))
  exact endQ_ret _ (res_two Tryd.results67 (rv_tmp rfl) (rv_tmp rfl)) H
 ·replace H := H.2 c3
  refine xi (qn (xs (xr ?_)))
  refine lv rfl rfl (vL (vs := [(.int .i64 a5), (.int .i64 a4), (.int .i64 a2), (.int .i64 a3)]) TyTB.agg24 TyTB.sz24 rfl (cc (rc b2 rfl) (cc (rc b2 rfl) (cc (rc b2 rfl) (cc (rc b2 rfl) cn))))) ?_
  refine lp rfl rfl (sc TyTB.cb31 rfl (HC.mono H ?_))
  rintro _ h4 ⟨e6, r0, r1, r2, rfl, H⟩
  replace a9 := Ext.row e6 a9
  refine lv rfl rfl (vm rfl) (lv rfl rfl (vx rfl rfl) (lv rfl rfl (vx rfl rfl) (lv rfl rfl (vx rfl rfl) (lv rfl rfl (va rfl) (lv rfl rfl (va rfl) ?_)))))
  refine lv rfl rfl (va rfl) ?_
  refine ln (qn (xs ?_))
  refine xk (fun ρ h' => h4 = h' ∧ Has ρ [(3, (ptr f 0)), (43, (.bool ((decide (a0 < 0)) || ((decide (a0 > 2147483647)) || ((decide (a1 < 32)) || (decide (a1 > (IntKind.i64.wrap (r0 - 24)))))))))]) ?_ ?_
  ·refine xr ?_
   refine lv rfl rfl (v := (ptr f 0)) (vf TyTB.fld88_0 (b := f) (o := 0) rfl) (lv rfl rfl (vl TyTB.agg3 rfl (rc a9 rfl)) (lv rfl rfl (vr rfl rfl rfl) (lv rfl rfl (vm rfl) ?_)))
   rcases bool_or (decide (a0 < 0)) with a6 | a6
   ·refine lo (wanted_n rfl rfl rfl a6) rfl ?_
    refine lo (wanted_n rfl rfl rfl a6) rfl ?_
    refine lo (wanted_n rfl rfl rfl a6) rfl ?_
    refine lv rfl rfl (v := (.bool true)) (hv_pick_t rfl a6 rfl) (lv rfl rfl (vm rfl) ?_)
    refine lo (wanted_n rfl rfl (c := true) rfl rfl) rfl ?_
    refine lo (wanted_n rfl rfl (c := true) rfl rfl) rfl ?_
    refine lo (wanted_n rfl rfl (c := true) rfl rfl) rfl ?_
    refine lv rfl rfl (v := (.bool true)) (hv_pick (t := true) rfl rfl) (lv rfl rfl (vm rfl) ?_)
    refine lo (wanted_n rfl rfl (c := true) rfl rfl) rfl ?_
    refine lo (wanted_n rfl rfl (c := true) rfl rfl) rfl ?_
    refine lo (wanted_n rfl rfl (c := true) rfl rfl) rfl ?_
    refine lo (wanted_n rfl rfl (c := true) rfl rfl) rfl ?_
    refine lo (wanted_n rfl rfl (c := true) rfl rfl) rfl ?_
    refine lv rfl rfl (v := (.bool true)) (hv_pick (t := true) rfl rfl) ?_
    refine ln (qn ?_)
    exact ⟨rfl, (hc rfl (hc (show ((.bool true) : Value) = (.bool ((decide (a0 < 0)) || ((decide (a0 > 2147483647)) || ((decide (a1 < 32)) || (decide (a1 > (IntKind.i64.wrap (r0 - 24)))))))) from (by first | rfl | ((try rw [a6]); all_goals first | rfl | (simp only [Bool.true_or, Bool.or_true, Bool.false_or, Bool.or_false, Bool.true_and, Bool.and_true, Bool.false_and, Bool.and_false, Bool.not_true, Bool.not_false, Bool.cond_true, Bool.cond_false]; done)) | simp [a6])) hn))⟩
   ·refine ly (wanted_y rfl rfl rfl a6) rfl (HStep.of_val (v := (ptr f 0)) (vf TyTB.fld88_0 (b := f) (o := 0) rfl) ?_)
    refine ly (wanted_y rfl rfl rfl a6) rfl (HStep.of_val (v := (.int .i64 a0)) (vl TyTB.agg3 rfl (rc a9 rfl)) ?_)
    refine ly (wanted_y rfl rfl rfl a6) rfl (HStep.of_val (v := (.bool (decide (a0 > 2147483647)))) (vr rfl rfl rfl) ?_)
    refine lv rfl rfl (v := (.bool (decide (a0 > 2147483647)))) (hv_pick_f rfl a6 rfl) (lv rfl rfl (vm rfl) ?_)
    rcases bool_or (decide (a0 > 2147483647)) with a8 | a8
    ·refine lo (wanted_n rfl rfl rfl a8) rfl ?_
     refine lo (wanted_n rfl rfl rfl a8) rfl ?_
     refine lo (wanted_n rfl rfl rfl a8) rfl ?_
     refine lv rfl rfl (v := (.bool true)) (hv_pick_t rfl a8 rfl) (lv rfl rfl (vm rfl) ?_)
     refine lo (wanted_n rfl rfl (c := true) rfl rfl) rfl ?_
     refine lo (wanted_n rfl rfl (c := true) rfl rfl) rfl ?_
     refine lo (wanted_n rfl rfl (c := true) rfl rfl) rfl ?_
     refine lo (wanted_n rfl rfl (c := true) rfl rfl) rfl ?_
     refine lo (wanted_n rfl rfl (c := true) rfl rfl) rfl ?_
     refine lv rfl rfl (v := (.bool true)) (hv_pick (t := true) rfl rfl) ?_
     refine ln (qn ?_)
     exact ⟨rfl, (hc rfl (hc (show ((.bool true) : Value) = (.bool ((decide (a0 < 0)) || ((decide (a0 > 2147483647)) || ((decide (a1 < 32)) || (decide (a1 > (IntKind.i64.wrap (r0 - 24)))))))) from (by first | rfl | ((try rw [a6]); (try rw [a8]); all_goals first | rfl | (simp only [Bool.true_or, Bool.or_true, Bool.false_or, Bool.or_false, Bool.true_and, Bool.and_true, Bool.false_and, Bool.and_false, Bool.not_true, Bool.not_false, Bool.cond_true, Bool.cond_false]; done)) | simp [a6, a8])) hn))⟩
    ·refine ly (wanted_y rfl rfl rfl a8) rfl (HStep.of_val (v := (ptr f 1)) (vf TyTB.fld88_1 (b := f) (o := 0) rfl) ?_)
     refine ly (wanted_y rfl rfl rfl a8) rfl (HStep.of_val (v := (.int .i64 a1)) (vl TyTB.agg3 rfl (rc a9 rfl)) ?_)
     refine ly (wanted_y rfl rfl rfl a8) rfl (HStep.of_val (v := (.bool (decide (a1 < 32)))) (vr rfl rfl rfl) ?_)
     refine lv rfl rfl (v := (.bool (decide (a1 < 32)))) (hv_pick_f rfl a8 rfl) (lv rfl rfl (vm rfl) ?_)
     rcases bool_or (decide (a1 < 32)) with a7 | a7
     ·refine lo (wanted_n rfl rfl rfl a7) rfl ?_
      refine lo (wanted_n rfl rfl rfl a7) rfl ?_
      refine lo (wanted_n rfl rfl rfl a7) rfl ?_
      refine lo (wanted_n rfl rfl rfl a7) rfl ?_
      refine lo (wanted_n rfl rfl rfl a7) rfl ?_
      refine lv rfl rfl (v := (.bool true)) (hv_pick_t rfl a7 rfl) ?_
      refine ln (qn ?_)
      exact ⟨rfl, (hc rfl (hc (show ((.bool true) : Value) = (.bool ((decide (a0 < 0)) || ((decide (a0 > 2147483647)) || ((decide (a1 < 32)) || (decide (a1 > (IntKind.i64.wrap (r0 - 24)))))))) from (by first | rfl | ((try rw [a6]); (try rw [a8]); (try rw [a7]); all_goals first | rfl | (simp only [Bool.true_or, Bool.or_true, Bool.false_or, Bool.or_false, Bool.true_and, Bool.and_true, Bool.false_and, Bool.and_false, Bool.not_true, Bool.not_false, Bool.cond_true, Bool.cond_false]; done)) | simp [a6, a8, a7])) hn))⟩
     ·refine ly (wanted_y rfl rfl rfl a7) rfl (HStep.of_val (v := (ptr f 1)) (vf TyTB.fld88_1 (b := f) (o := 0) rfl) ?_)
      refine ly (wanted_y rfl rfl rfl a7) rfl (HStep.of_val (v := (.int .i64 a1)) (vl TyTB.agg3 rfl (rc a9 rfl)) ?_)
      refine ly (wanted_y rfl rfl rfl a7) rfl (HStep.of_val (v := (.int .i64 r0)) (vm rfl) ?_)
      refine ly (wanted_y rfl rfl rfl a7) rfl (HStep.of_val (v := (.int .i64 (IntKind.i64.wrap (r0 - 24)))) (vr rfl rfl rfl) ?_)
      refine ly (wanted_y rfl rfl rfl a7) rfl (HStep.of_val (v := (.bool (decide (a1 > (IntKind.i64.wrap (r0 - 24)))))) (vr rfl rfl rfl) ?_)
      refine lv rfl rfl (v := (.bool (decide (a1 > (IntKind.i64.wrap (r0 - 24)))))) (hv_pick_f rfl a7 rfl) ?_
      refine ln (qn ?_)
      exact ⟨rfl, (hc rfl (hc (show ((.bool (decide (a1 > (IntKind.i64.wrap (r0 - 24))))) : Value) = (.bool ((decide (a0 < 0)) || ((decide (a0 > 2147483647)) || ((decide (a1 < 32)) || (decide (a1 > (IntKind.i64.wrap (r0 - 24)))))))) from (by first | rfl | ((try rw [a6]); (try rw [a8]); (try rw [a7]); all_goals first | rfl | (simp only [Bool.true_or, Bool.or_true, Bool.false_or, Bool.or_false, Bool.true_and, Bool.and_true, Bool.false_and, Bool.and_false, Bool.not_true, Bool.not_false, Bool.cond_true, Bool.cond_false]; done)) | simp [a6, a8, a7])) hn))⟩
  ·rintro ρ _ ⟨rfl, hH⟩
   refine xh _ hH ?_
   refine xc (b := ((decide (a0 < 0)) || ((decide (a0 > 2147483647)) || ((decide (a1 < 32)) || (decide (a1 > (IntKind.i64.wrap (r0 - 24)))))))) rfl (fun c2 => ?_) (fun c2 => ?_)
   ·replace H := H.1 c2
    refine xs (xr ?_)
    refine lv rfl rfl (va rfl) (lv rfl rfl (va rfl) ?_)
    refine ln (qn (xt (qr ?_)))
    exact endQ_ret _ (res_two Tryd.results67 (rv_tmp rfl) (rv_tmp rfl)) H
   ·replace H := H.2 c2
    refine xi (qn (xs (xr ?_)))
    refine lp rfl rfl (hn_buildSlice (n := 4) (vs := [(0, (.int .u8 67)), (1, (.int .u8 76)), (2, (.int .u8 82)), (3, (.int .u8 70))]) (cs := #[(.int .u8 67), (.int .u8 76), (.int .u8 82), (.int .u8 70)]) TyTB.u25 TyTB.sz5 TyTB.z5 rfl rfl (by kernel_rfl) ?_)
    intro nb h5 e2 c7
    replace H := H nb h5 e2 c7
    have d9 := ext_pushed_f11_sh c7
    replace a9 := Ext.row d9 a9
    obtain ⟨cs, T, d5, H⟩ := H
    refine lp rfl rfl (hs_mark TyTB.u25 TyTB.u5 rfl d5 ?_)
    intro h6 d7
    replace H := H h6 d7
    obtain ⟨e3, H⟩ := H
    replace a9 := Kp.row e3 (by simp) a9
    refine lv rfl rfl (va rfl) ?_
    refine ln (qn (xs (xs (xr ?_))))
    refine lv rfl rfl (v := (ptr f 0)) (vf TyTB.fld88_0 (b := f) (o := 0) rfl) (lv rfl rfl (vl TyTB.agg3 rfl (rc a9 rfl)) (lv rfl rfl (v := (.int .u64 (IntKind.u64.wrap a0))) (hv_convInt TyTB.u3 TyTB.u29 rfl) (lv rfl rfl (v := (ptr f 1)) (vf TyTB.fld88_1 (b := f) (o := 0) rfl) (lv rfl rfl (vl TyTB.agg3 rfl (rc a9 rfl)) (lv rfl rfl (v := (.int .u64 (IntKind.u64.wrap a1))) (hv_convInt TyTB.u3 TyTB.u29 rfl) ?_)))))
    refine lv rfl rfl (v := (ptr f 2)) (vf TyTB.fld88_2 (b := f) (o := 0) rfl) (lv rfl rfl (vl TyTB.agg86 rfl (rc a9 rfl)) (lv rfl rfl (v := (.int .u64 (IntKind.u64.wrap b0))) (hv_convInt TyTB.u86 TyTB.u29 rfl) (lv rfl rfl (v := (ptr f 3)) (vf TyTB.fld88_3 (b := f) (o := 0) rfl) (lv rfl rfl (vl TyTB.agg86 rfl (rc a9 rfl)) (lv rfl rfl (v := (.int .u64 (IntKind.u64.wrap b1))) (hv_convInt TyTB.u86 TyTB.u29 rfl) ?_)))))
    refine lp rfl rfl (hn_buildSlice (n := 4) (vs := [(0, (.int .u64 (IntKind.u64.wrap a0))), (1, (.int .u64 (IntKind.u64.wrap a1))), (2, (.int .u64 (IntKind.u64.wrap b0))), (3, (.int .u64 (IntKind.u64.wrap b1)))]) (cs := #[(.int .u64 (IntKind.u64.wrap a0)), (.int .u64 (IntKind.u64.wrap a1)), (.int .u64 (IntKind.u64.wrap b0)), (.int .u64 (IntKind.u64.wrap b1))]) TyTB.u126 TyTB.sz29 TyTB.z29 rfl rfl (by kernel_rfl) ?_)
    intro b8 h7 d8 c5
    replace H := H b8 h7 d8 c5
    have e0 := ext_pushed_f11_sh c5
    replace a9 := Ext.row e0 a9
    refine lv rfl rfl (v := (.int .i64 4)) (hv_len (n := 4) TyTB.u126 rfl) (lv rfl rfl (vm rfl) ?_)
    refine ln (qn (xb ?_))
    obtain ⟨c0, b9, e4, e8⟩ := H
    refine xl (σ := Option Addr × Nat × Nat × Int) (fun s => [(10, (.slice s.1 s.2.1 s.2.2.1)), (58, (.slice (some ⟨b8, 0, none⟩) 4 4)), (59, (.int .i64 4)), (60, (.int .i64 s.2.2.2))]) (fun s h' => c0 s.1 s.2.1 s.2.2.1 s.2.2.2 h' ∧ True) (fun s h' => b9 s.1 s.2.1 s.2.2.1 s.2.2.2 h') ((some ⟨nb, 0, none⟩), 4, 4, 0) ⟨e4, trivial⟩ (hc rfl (hc rfl (hc rfl (hc rfl hn)))) ?_
    rintro ⟨b, b6, b7, v⟩ ρ h8 ⟨e5, -⟩
    have H := e8 b b6 b7 v h8 e5
    refine xs (xr ?_)
    refine lv rfl rfl (vr rfl rfl rfl) ?_
    refine ln (qn (xs ?_))
    refine xc (b := decide (v < 4)) rfl (fun c1 => ?_) (fun c1 => ?_)
    ·replace H := H.1 c1
     refine xi (qn (xs (xb (xs (xr ?_)))))
     obtain ⟨e9, e1, H⟩ := H
     refine lv rfl rfl (v := (ptr b8 (0 + (Int.toNat v) * 1))) (vi TyTB.el126 rfl rfl e9 e1) ?_
     obtain ⟨x, d6, H⟩ := H
     refine lv rfl rfl (vl TyTB.agg29 rfl d6) (lv rfl rfl (va rfl) ?_)
     refine ln (qn (xr ?_))
     refine lv rfl rfl (vm rfl) (lv rfl rfl (vm rfl) ?_)
     refine lp rfl rfl (sc TyTB.cb83 rfl (HC.mono H ?_))
     rintro _ h9 ⟨b4, b3, b5, rfl, H⟩
     refine lv rfl rfl (va rfl) ?_
     refine ln (bn (qn (xr ?_)))
     refine lv rfl rfl (vr rfl rfl rfl) (lv rfl rfl (vm rfl) ?_)
     refine ln (qn ?_)
     exact ⟨(b4, b3, b5, IntKind.i64.wrap (v + 1)), ⟨⟨H.1, trivial⟩, H.2⟩, (hc rfl (hc rfl (hc rfl (hc rfl hn))))⟩
    ·replace H := H.2 c1
     refine xe (qe (qe (bh (qn (xs (xr ?_))))))
     refine lv rfl rfl (vm rfl) ?_
     refine lp rfl rfl (sc TyTB.cb84 rfl (HC.mono H ?_))
     rintro _ c8 ⟨b4, b3, b5, rfl, H⟩
     refine lv rfl rfl (va rfl) (lv rfl rfl (va rfl) ?_)
     refine ln (qn (xt ?_))
     exact endQ_ret _ (res_two Tryd.results67 (rv_tmp rfl) (rv_tmp rfl)) H
theorem f73_sh (a1 : Int) (a0 : Int) (a4 : Int) (a5 : Int) (a3 : Int) (a2 : Int) (h : Heap) (R : Value → Heap → Prop)
  (H : (∀ (g : Nat) (h1 : Heap), Array.size h ≤ g → g < Array.size h1 → Ext h h1 → HC Tryd.prog 16 #[(.agg #[(.int .i64 a1), (.int .i64 a0), (.int .i64 a4), (.int .i64 a5)])] h1 (fun vv h2 => Ext h1 h2 ∧ ∃ r : Int, vv = (.int .i64 r) ∧ (((r != 0) = true → R (.tuple #[(.int .i64 0), (.int .i64 r)]) h2) ∧ ((r != 0) = false → ((((decide (a3 < 1)) || (decide (a3 > 255))) = true → R (.tuple #[(.int .i64 0), (.int .i64 54)]) h2) ∧ (((decide (a3 < 1)) || (decide (a3 > 255))) = false → HC Tryd.prog 38 #[(.agg #[(.int .i64 a1), (.int .i64 a0), (.int .i64 a4), (.int .i64 a5)]), (.int .i64 32)] h2 (fun vv h3 => Ext h2 h3 ∧ ∃ r0 r1 : Int, vv = (.tuple #[(.int .i64 r0), (.int .i64 r1)]) ∧ ((((decide (a2 < 0)) || (decide (a2 > (IntKind.i64.wrap ((IntKind.i64.wrap ((IntKind.i64.wrap ((IntKind.i64.wrap ((IntKind.i64.wrap (a1 * a0)) - r0)) - 24)) - 24)) - a3))))) = true → R (.tuple #[(.int .i64 0), (.int .i64 55)]) h3) ∧ (((decide (a2 < 0)) || (decide (a2 > (IntKind.i64.wrap ((IntKind.i64.wrap ((IntKind.i64.wrap ((IntKind.i64.wrap ((IntKind.i64.wrap (a1 * a0)) - r0)) - 24)) - 24)) - a3))))) = false → R (.tuple #[(.int .i64 (IntKind.i64.wrap ((IntKind.i64.wrap (24 + a3)) + a2))), (.int .i64 0)]) h3)))))))))) :
  HC Tryd.prog 73 #[(.agg #[(.int .i64 a1), (.int .i64 a0), (.int .i64 a4), (.int .i64 a5)]), (.int .i64 a3), (.int .i64 a2)] h R := by
 refine hc_of (args := [(.agg #[(.int .i64 a1), (.int .i64 a0), (.int .i64 a4), (.int .i64 a5)]), (.int .i64 a3), (.int .i64 a2)]) Tryd.func73 rfl Tryd.ntmps73 (Nat.le_of_ble_eq_true rfl) ?_
 refine xs (xr ?_)
 refine lp rfl rfl (hn_box (v := (.agg #[(.int .i64 a1), (.int .i64 a0), (.int .i64 a4), (.int .i64 a5)])) rfl ?_)
 intro g h1 b2 b3
 have b7 := ext_pushed_f11_sh b3
 have b5 : Array.size h ≤ g := Nat.le_of_eq (Eq.symm b2)
 have a7 : h1[g]? = some (.cells #[(.int .i64 a1), (.int .i64 a0), (.int .i64 a4), (.int .i64 a5)] 24 (0, 0)) := by rw [b3]; exact push_new b2
 refine lv rfl rfl (va rfl) (lv rfl rfl (va rfl) ?_)
 refine ln (qn (xs (xs (xr ?_))))
 refine lv rfl rfl (vL (vs := [(.int .i64 a1), (.int .i64 a0), (.int .i64 a4), (.int .i64 a5)]) TyTB.agg24 TyTB.sz24 rfl (cc (rc a7 rfl) (cc (rc a7 rfl) (cc (rc a7 rfl) (cc (rc a7 rfl) cn))))) ?_
 replace H := H g h1 b5 (row_lt a7) b7
 refine lp rfl rfl (sc TyTB.cb16 rfl (HC.mono H ?_))
 rintro _ h2 ⟨b6, r, rfl, H⟩
 replace a7 := Ext.row b6 a7
 refine lv rfl rfl (va rfl) ?_
 refine ln (qn (xs (xr ?_)))
 refine lv rfl rfl (vm rfl) (lv rfl rfl (vr rfl rfl rfl) ?_)
 refine ln (qn ?_)
 refine xc (b := r != 0) rfl (fun b1 => ?_) (fun b1 => ?_)
 ·replace H := H.1 b1
  refine xs (xr ?_)
  refine lv rfl rfl (vm rfl) (lv rfl rfl (va rfl) (lv rfl rfl (va rfl) ?_))
  refine ln (qn (xt (qr ?_)))
  exact endQ_ret _ (res_two Tryd.results73 (rv_tmp rfl) (rv_tmp rfl)) H
 ·replace H := H.2 b1
  refine xi (qn (xs ?_))
  refine xk (fun ρ h' => h2 = h' ∧ Has ρ [(1, (.int .i64 a3)), (2, (.int .i64 a2)), (3, (ptr g 0)), (22, (.bool ((decide (a3 < 1)) || (decide (a3 > 255)))))]) ?_ ?_
  ·refine xr ?_
   refine lv rfl rfl (vm rfl) (lv rfl rfl (vr rfl rfl rfl) (lv rfl rfl (vm rfl) ?_))
   rcases bool_or (decide (a3 < 1)) with a8 | a8
   ·refine lo (wanted_n rfl rfl rfl a8) rfl ?_
    refine lo (wanted_n rfl rfl rfl a8) rfl ?_
    refine lv rfl rfl (v := (.bool true)) (hv_pick_t rfl a8 rfl) ?_
    refine ln (qn ?_)
    exact ⟨rfl, (hc rfl (hc rfl (hc rfl (hc (show ((.bool true) : Value) = (.bool ((decide (a3 < 1)) || (decide (a3 > 255)))) from (by first | rfl | ((try rw [a8]); all_goals first | rfl | (simp only [Bool.true_or, Bool.or_true, Bool.false_or, Bool.or_false, Bool.true_and, Bool.and_true, Bool.false_and, Bool.and_false, Bool.not_true, Bool.not_false, Bool.cond_true, Bool.cond_false]; done)) | simp [a8])) hn))))⟩
   ·refine ly (wanted_y rfl rfl rfl a8) rfl (HStep.of_val (v := (.int .i64 a3)) (vm rfl) ?_)
    refine ly (wanted_y rfl rfl rfl a8) rfl (HStep.of_val (v := (.bool (decide (a3 > 255)))) (vr rfl rfl rfl) ?_)
    refine lv rfl rfl (v := (.bool (decide (a3 > 255)))) (hv_pick_f rfl a8 rfl) ?_
    refine ln (qn ?_)
    exact ⟨rfl, (hc rfl (hc rfl (hc rfl (hc (show ((.bool (decide (a3 > 255))) : Value) = (.bool ((decide (a3 < 1)) || (decide (a3 > 255)))) from (by first | rfl | ((try rw [a8]); all_goals first | rfl | (simp only [Bool.true_or, Bool.or_true, Bool.false_or, Bool.or_false, Bool.true_and, Bool.and_true, Bool.false_and, Bool.and_false, Bool.not_true, Bool.not_false, Bool.cond_true, Bool.cond_false]; done)) | simp [a8])) hn))))⟩
  ·rintro ρ _ ⟨rfl, hH⟩
   refine xh _ hH ?_
   refine xc (b := ((decide (a3 < 1)) || (decide (a3 > 255)))) rfl (fun a9 => ?_) (fun a9 => ?_)
   ·replace H := H.1 a9
    refine xs (xr ?_)
    refine lv rfl rfl (va rfl) (lv rfl rfl (va rfl) ?_)
    refine ln (qn (xt (qr ?_)))
    exact endQ_ret _ (res_two Tryd.results73 (rv_tmp rfl) (rv_tmp rfl)) H
   ·replace H := H.2 a9
    refine xi (qn (xs (xr ?_)))
    refine lv rfl rfl (vL (vs := [(.int .i64 a1), (.int .i64 a0), (.int .i64 a4), (.int .i64 a5)]) TyTB.agg24 TyTB.sz24 rfl (cc (rc a7 rfl) (cc (rc a7 rfl) (cc (rc a7 rfl) (cc (rc a7 rfl) cn))))) ?_
    refine lp rfl rfl (sc TyTB.cb38 rfl (HC.mono H ?_))
    rintro _ h3 ⟨b4, r0, r1, rfl, H⟩
    replace a7 := Ext.row b4 a7
    refine lv rfl rfl (vm rfl) (lv rfl rfl (vx rfl rfl) (lv rfl rfl (vx rfl rfl) (lv rfl rfl (va rfl) (lv rfl rfl (va rfl) ?_))))
    refine ln (qn (xs (xr ?_)))
    refine lv rfl rfl (v := (ptr g 0)) (vf TyTB.fld24_0 (b := g) (o := 0) rfl) (lv rfl rfl (vl TyTB.agg3 rfl (rc a7 rfl)) (lv rfl rfl (v := (ptr g 1)) (vf TyTB.fld24_1 (b := g) (o := 0) rfl) (lv rfl rfl (vl TyTB.agg3 rfl (rc a7 rfl)) (lv rfl rfl (vr rfl rfl rfl) (lv rfl rfl (vm rfl) ?_)))))
    refine lv rfl rfl (vr rfl rfl rfl) (lv rfl rfl (vr rfl rfl rfl) (lv rfl rfl (vr rfl rfl rfl) (lv rfl rfl (vm rfl) (lv rfl rfl (vr rfl rfl rfl) (lv rfl rfl (va rfl) ?_)))))
    refine ln (qn (xs ?_))
    refine xk (fun ρ h' => h3 = h' ∧ Has ρ [(1, (.int .i64 a3)), (2, (.int .i64 a2)), (45, (.bool ((decide (a2 < 0)) || (decide (a2 > (IntKind.i64.wrap ((IntKind.i64.wrap ((IntKind.i64.wrap ((IntKind.i64.wrap ((IntKind.i64.wrap (a1 * a0)) - r0)) - 24)) - 24)) - a3)))))))]) ?_ ?_
    ·refine xr ?_
     refine lv rfl rfl (vm rfl) (lv rfl rfl (vr rfl rfl rfl) (lv rfl rfl (vm rfl) ?_))
     rcases bool_or (decide (a2 < 0)) with a6 | a6
     ·refine lo (wanted_n rfl rfl rfl a6) rfl ?_
      refine lo (wanted_n rfl rfl rfl a6) rfl ?_
      refine lo (wanted_n rfl rfl rfl a6) rfl ?_
      refine lv rfl rfl (v := (.bool true)) (hv_pick_t rfl a6 rfl) ?_
      refine ln (qn ?_)
      exact ⟨rfl, (hc rfl (hc rfl (hc (show ((.bool true) : Value) = (.bool ((decide (a2 < 0)) || (decide (a2 > (IntKind.i64.wrap ((IntKind.i64.wrap ((IntKind.i64.wrap ((IntKind.i64.wrap ((IntKind.i64.wrap (a1 * a0)) - r0)) - 24)) - 24)) - a3)))))) from (by first | rfl | ((try rw [a6]); all_goals first | rfl | (simp only [Bool.true_or, Bool.or_true, Bool.false_or, Bool.or_false, Bool.true_and, Bool.and_true, Bool.false_and, Bool.and_false, Bool.not_true, Bool.not_false, Bool.cond_true, Bool.cond_false]; done)) | simp [a6])) hn)))⟩
     ·refine ly (wanted_y rfl rfl rfl a6) rfl (HStep.of_val (v := (.int .i64 a2)) (vm rfl) ?_)
      refine ly (wanted_y rfl rfl rfl a6) rfl (HStep.of_val (v := (.int .i64 (IntKind.i64.wrap ((IntKind.i64.wrap ((IntKind.i64.wrap ((IntKind.i64.wrap ((IntKind.i64.wrap (a1 * a0)) - r0)) - 24)) - 24)) - a3)))) (vm rfl) ?_)
      refine ly (wanted_y rfl rfl rfl a6) rfl (HStep.of_val (v := (.bool (decide (a2 > (IntKind.i64.wrap ((IntKind.i64.wrap ((IntKind.i64.wrap ((IntKind.i64.wrap ((IntKind.i64.wrap (a1 * a0)) - r0)) - 24)) - 24)) - a3)))))) (vr rfl rfl rfl) ?_)
      refine lv rfl rfl (v := (.bool (decide (a2 > (IntKind.i64.wrap ((IntKind.i64.wrap ((IntKind.i64.wrap ((IntKind.i64.wrap ((IntKind.i64.wrap (a1 * a0)) - r0)) - 24)) - 24)) - a3)))))) (hv_pick_f rfl a6 rfl) ?_
      refine ln (qn ?_)
      exact ⟨rfl, (hc rfl (hc rfl (hc (show ((.bool (decide (a2 > (IntKind.i64.wrap ((IntKind.i64.wrap ((IntKind.i64.wrap ((IntKind.i64.wrap ((IntKind.i64.wrap (a1 * a0)) - r0)) - 24)) - 24)) - a3))))) : Value) = (.bool ((decide (a2 < 0)) || (decide (a2 > (IntKind.i64.wrap ((IntKind.i64.wrap ((IntKind.i64.wrap ((IntKind.i64.wrap ((IntKind.i64.wrap (a1 * a0)) - r0)) - 24)) - 24)) - a3)))))) from (by first | rfl | ((try rw [a6]); all_goals first | rfl | (simp only [Bool.true_or, Bool.or_true, Bool.false_or, Bool.or_false, Bool.true_and, Bool.and_true, Bool.false_and, Bool.and_false, Bool.not_true, Bool.not_false, Bool.cond_true, Bool.cond_false]; done)) | simp [a6])) hn)))⟩
    ·rintro ρ _ ⟨rfl, hH⟩
     refine xh _ hH ?_
     refine xc (b := ((decide (a2 < 0)) || (decide (a2 > (IntKind.i64.wrap ((IntKind.i64.wrap ((IntKind.i64.wrap ((IntKind.i64.wrap ((IntKind.i64.wrap (a1 * a0)) - r0)) - 24)) - 24)) - a3)))))) rfl (fun b0 => ?_) (fun b0 => ?_)
     ·replace H := H.1 b0
      refine xs (xr ?_)
      refine lv rfl rfl (va rfl) (lv rfl rfl (va rfl) ?_)
      refine ln (qn (xt (qr ?_)))
      exact endQ_ret _ (res_two Tryd.results73 (rv_tmp rfl) (rv_tmp rfl)) H
     ·replace H := H.2 b0
      refine xi (qn (xs (xr ?_)))
      refine lv rfl rfl (vm rfl) (lv rfl rfl (vr rfl rfl rfl) (lv rfl rfl (vm rfl) (lv rfl rfl (vr rfl rfl rfl) (lv rfl rfl (va rfl) (lv rfl rfl (va rfl) ?_)))))
      refine ln (qn (xt ?_))
      exact endQ_ret _ (res_two Tryd.results73 (rv_tmp rfl) (rv_tmp rfl)) H
theorem f105_sh (a6 : Int) (a4 : Int) (a0 : Int) (a3 : Int) (a1 : Int) (a2 : Int) (h : Heap) (R : Value → Heap → Prop)
  (H : (∀ (g : Nat) (h1 : Heap), Array.size h ≤ g → g < Array.size h1 → Ext h h1 → HC Tryd.prog 59 #[(.agg #[(.int .i64 a6), (.int .i64 a4), (.int .i64 a0), (.int .i64 a3)])] h1 (fun vv h2 => Ext h1 h2 ∧ ∃ r : Int, vv = (.int .i64 r) ∧ (((r != 0) = true → R (.tuple #[(.int .i64 0), (.int .i64 r)]) h2) ∧ ((r != 0) = false → ((((decide (a1 < 1)) || (decide (a1 > 255))) = true → R (.tuple #[(.int .i64 0), (.int .i64 54)]) h2) ∧ (((decide (a1 < 1)) || (decide (a1 > 255))) = false → (∃ b1 : Bool → Heap → Prop, (((decide (a2 < 0)) = true → (b1 true h2)) ∧ ((decide (a2 < 0)) = false → HC Tryd.prog 115 #[(.agg #[(.int .i64 a6), (.int .i64 a4), (.int .i64 a0), (.int .i64 a3)])] h2 (fun vv h4 => Ext h2 h4 ∧ ∃ b0 : Int, vv = (.int .i64 b0) ∧ (b1 (decide (a2 > (IntKind.i64.wrap ((IntKind.i64.wrap (b0 - 24)) - a1)))) h4)))) ∧ (∀ (a9 : Bool) (h3 : Heap), b1 a9 h3 → ((a9 = true → R (.tuple #[(.int .i64 0), (.int .i64 55)]) h3) ∧ (a9 = false → R (.tuple #[(.int .i64 (IntKind.i64.wrap ((IntKind.i64.wrap (24 + a1)) + a2))), (.int .i64 0)]) h3))))))))))) :
  HC Tryd.prog 105 #[(.agg #[(.int .i64 a6), (.int .i64 a4), (.int .i64 a0), (.int .i64 a3)]), (.int .i64 a1), (.int .i64 a2)] h R := by
 refine hc_of (args := [(.agg #[(.int .i64 a6), (.int .i64 a4), (.int .i64 a0), (.int .i64 a3)]), (.int .i64 a1), (.int .i64 a2)]) Tryd.func105 rfl Tryd.ntmps105 (Nat.le_of_ble_eq_true rfl) ?_
 refine xs (xr ?_)
 refine lp rfl rfl (hn_box (v := (.agg #[(.int .i64 a6), (.int .i64 a4), (.int .i64 a0), (.int .i64 a3)])) rfl ?_)
 intro g h1 b7 b8
 have c2 := ext_pushed_f11_sh b8
 have c0 : Array.size h ≤ g := Nat.le_of_eq (Eq.symm b7)
 have a8 : h1[g]? = some (.cells #[(.int .i64 a6), (.int .i64 a4), (.int .i64 a0), (.int .i64 a3)] 24 (0, 0)) := by rw [b8]; exact push_new b7
 refine lv rfl rfl (va rfl) (lv rfl rfl (va rfl) ?_)
 refine ln (qn (xs (xs (xr ?_))))
 refine lv rfl rfl (vL (vs := [(.int .i64 a6), (.int .i64 a4), (.int .i64 a0), (.int .i64 a3)]) TyTB.agg24 TyTB.sz24 rfl (cc (rc a8 rfl) (cc (rc a8 rfl) (cc (rc a8 rfl) (cc (rc a8 rfl) cn))))) ?_
 replace H := H g h1 c0 (row_lt a8) c2
 refine lp rfl rfl (sc TyTB.cb59 rfl (HC.mono H ?_))
 rintro _ h2 ⟨c1, r, rfl, H⟩
 replace a8 := Ext.row c1 a8
 refine lv rfl rfl (va rfl) ?_
 refine ln (qn (xs (xr ?_)))
 refine lv rfl rfl (vm rfl) (lv rfl rfl (vr rfl rfl rfl) ?_)
 refine ln (qn ?_)
 refine xc (b := r != 0) rfl (fun b6 => ?_) (fun b6 => ?_)
 ·replace H := H.1 b6
  refine xs (xr ?_)
  refine lv rfl rfl (vm rfl) (lv rfl rfl (va rfl) (lv rfl rfl (va rfl) ?_))
  refine ln (qn (xt (qr ?_)))
  exact endQ_ret _ (res_two Tryd.results105 (rv_tmp rfl) (rv_tmp rfl)) H
 ·replace H := H.2 b6
  refine xi (qn (xs ?_))
  refine xk (fun ρ h' => h2 = h' ∧ Has ρ [(1, (.int .i64 a1)), (2, (.int .i64 a2)), (3, (ptr g 0)), (19, (.bool ((decide (a1 < 1)) || (decide (a1 > 255)))))]) ?_ ?_
  ·refine xr ?_
   refine lv rfl rfl (vm rfl) (lv rfl rfl (vr rfl rfl rfl) (lv rfl rfl (vm rfl) ?_))
   rcases bool_or (decide (a1 < 1)) with a7 | a7
   ·refine lo (wanted_n rfl rfl rfl a7) rfl ?_
    refine lo (wanted_n rfl rfl rfl a7) rfl ?_
    refine lv rfl rfl (v := (.bool true)) (hv_pick_t rfl a7 rfl) ?_
    refine ln (qn ?_)
    exact ⟨rfl, (hc rfl (hc rfl (hc rfl (hc (show ((.bool true) : Value) = (.bool ((decide (a1 < 1)) || (decide (a1 > 255)))) from (by first | rfl | ((try rw [a7]); all_goals first | rfl | (simp only [Bool.true_or, Bool.or_true, Bool.false_or, Bool.or_false, Bool.true_and, Bool.and_true, Bool.false_and, Bool.and_false, Bool.not_true, Bool.not_false, Bool.cond_true, Bool.cond_false]; done)) | simp [a7])) hn))))⟩
   ·refine ly (wanted_y rfl rfl rfl a7) rfl (HStep.of_val (v := (.int .i64 a1)) (vm rfl) ?_)
    refine ly (wanted_y rfl rfl rfl a7) rfl (HStep.of_val (v := (.bool (decide (a1 > 255)))) (vr rfl rfl rfl) ?_)
    refine lv rfl rfl (v := (.bool (decide (a1 > 255)))) (hv_pick_f rfl a7 rfl) ?_
    refine ln (qn ?_)
    exact ⟨rfl, (hc rfl (hc rfl (hc rfl (hc (show ((.bool (decide (a1 > 255))) : Value) = (.bool ((decide (a1 < 1)) || (decide (a1 > 255)))) from (by first | rfl | ((try rw [a7]); all_goals first | rfl | (simp only [Bool.true_or, Bool.or_true, Bool.false_or, Bool.or_false, Bool.true_and, Bool.and_true, Bool.false_and, Bool.and_false, Bool.not_true, Bool.not_false, Bool.cond_true, Bool.cond_false]; done)) | simp [a7])) hn))))⟩
  ·rintro ρ _ ⟨rfl, hH⟩
   refine xh _ hH ?_
   refine xc (b := ((decide (a1 < 1)) || (decide (a1 > 255)))) rfl (fun b3 => ?_) (fun b3 => ?_)
   ·replace H := H.1 b3
    refine xs (xr ?_)
    refine lv rfl rfl (va rfl) (lv rfl rfl (va rfl) ?_)
    refine ln (qn (xt (qr ?_)))
    exact endQ_ret _ (res_two Tryd.results105 (rv_tmp rfl) (rv_tmp rfl)) H
   ·replace H := H.2 b3
    refine xi (qn (xs ?_))
    obtain ⟨b1, b5, b4⟩ := H
    refine xk (fun ρ h' => ∃ a9 : Bool, (b1 a9 h' ∧ True) ∧ Has ρ [(1, (.int .i64 a1)), (2, (.int .i64 a2)), (30, (.bool a9))]) ?_ ?_
    ·have H := b5; clear b5 b4
     refine xr ?_
     refine lv rfl rfl (vm rfl) (lv rfl rfl (vr rfl rfl rfl) (lv rfl rfl (vm rfl) ?_))
     rcases bool_or (decide (a2 < 0)) with a5 | a5
     ·replace H := H.1 a5
      refine lo (wanted_n rfl rfl rfl a5) rfl ?_
      refine lo (wanted_n rfl rfl rfl a5) rfl ?_
      refine lo (wanted_n rfl rfl rfl a5) rfl ?_
      refine lo (wanted_n rfl rfl rfl a5) rfl ?_
      refine lo (wanted_n rfl rfl rfl a5) rfl ?_
      refine lo (wanted_n rfl rfl rfl a5) rfl ?_
      refine lo (wanted_n rfl rfl rfl a5) rfl ?_
      refine lv rfl rfl (v := (.bool true)) (hv_pick_t rfl a5 rfl) ?_
      refine ln (qn ?_)
      exact ⟨_, ⟨H, trivial⟩, (hc rfl (hc rfl (hc rfl hn)))⟩
     ·replace H := H.2 a5
      refine ly (wanted_y rfl rfl rfl a5) rfl (HStep.of_val (v := (.int .i64 a2)) (vm rfl) ?_)
      refine ly (wanted_y rfl rfl rfl a5) rfl (HStep.of_val (v := (.agg #[(.int .i64 a6), (.int .i64 a4), (.int .i64 a0), (.int .i64 a3)])) (vL (vs := [(.int .i64 a6), (.int .i64 a4), (.int .i64 a0), (.int .i64 a3)]) TyTB.agg24 TyTB.sz24 rfl (cc (rc a8 rfl) (cc (rc a8 rfl) (cc (rc a8 rfl) (cc (rc a8 rfl) cn))))) ?_)
      refine ly (wanted_y rfl rfl rfl a5) rfl (sc TyTB.cb115 rfl (HC.mono H ?_))
      rintro _ h4 ⟨c3, b0, rfl, H⟩
      refine ly (wanted_y rfl rfl rfl a5) rfl (HStep.of_val (v := (.int .i64 (IntKind.i64.wrap (b0 - 24)))) (vr rfl rfl rfl) ?_)
      refine ly (wanted_y rfl rfl rfl a5) rfl (HStep.of_val (v := (.int .i64 a1)) (vm rfl) ?_)
      refine ly (wanted_y rfl rfl rfl a5) rfl (HStep.of_val (v := (.int .i64 (IntKind.i64.wrap ((IntKind.i64.wrap (b0 - 24)) - a1)))) (vr rfl rfl rfl) ?_)
      refine ly (wanted_y rfl rfl rfl a5) rfl (HStep.of_val (v := (.bool (decide (a2 > (IntKind.i64.wrap ((IntKind.i64.wrap (b0 - 24)) - a1)))))) (vr rfl rfl rfl) ?_)
      refine lv rfl rfl (v := (.bool (decide (a2 > (IntKind.i64.wrap ((IntKind.i64.wrap (b0 - 24)) - a1)))))) (hv_pick_f rfl a5 rfl) ?_
      refine ln (qn ?_)
      exact ⟨_, ⟨H, trivial⟩, (hc rfl (hc rfl (hc rfl hn)))⟩
    ·rintro ρ h3 ⟨a9, ⟨b9, -⟩, hH⟩
     have H := b4 a9 h3 b9; clear b5 b4
     refine xh _ hH ?_
     refine xc (b := a9) rfl (fun b2 => ?_) (fun b2 => ?_)
     ·replace H := H.1 b2
      refine xs (xr ?_)
      refine lv rfl rfl (va rfl) (lv rfl rfl (va rfl) ?_)
      refine ln (qn (xt (qr ?_)))
      exact endQ_ret _ (res_two Tryd.results105 (rv_tmp rfl) (rv_tmp rfl)) H
     ·replace H := H.2 b2
      refine xi (qn (xs (xr ?_)))
      refine lv rfl rfl (vm rfl) (lv rfl rfl (vr rfl rfl rfl) (lv rfl rfl (vm rfl) (lv rfl rfl (vr rfl rfl rfl) (lv rfl rfl (va rfl) (lv rfl rfl (va rfl) ?_)))))
      refine ln (qn (xt ?_))
      exact endQ_ret _ (res_two Tryd.results105 (rv_tmp rfl) (rv_tmp rfl)) H
theorem f115_sh (a3 : Int) (a2 : Int) (a0 : Int) (a1 : Int) (h : Heap) (R : Value → Heap → Prop)
  (H : (∀ (g : Nat) (h1 : Heap), Array.size h ≤ g → g < Array.size h1 → Ext h h1 → HC Tryd.prog 31 #[(.agg #[(.int .i64 a3), (.int .i64 a2), (.int .i64 a0), (.int .i64 a1)])] h1 (fun vv h2 => Ext h1 h2 ∧ ∃ r0 r1 r2 : Int, vv = (.tuple #[(.int .i64 r0), (.int .i64 r1), (.int .i64 r2)]) ∧ HC Tryd.prog 33 #[(.agg #[(.int .i64 a3), (.int .i64 a2), (.int .i64 a0), (.int .i64 a1)]), (.int .i64 32)] h2 (fun vv h3 => Ext h2 h3 ∧ ∃ a4 a6 : Int, vv = (.tuple #[(.int .i64 a4), (.int .i64 a6)]) ∧ R (.int .i64 (IntKind.i64.wrap ((IntKind.i64.wrap (r0 - 24)) - a4))) h3)))) :
  HC Tryd.prog 115 #[(.agg #[(.int .i64 a3), (.int .i64 a2), (.int .i64 a0), (.int .i64 a1)])] h R := by
 refine hc_of (args := [(.agg #[(.int .i64 a3), (.int .i64 a2), (.int .i64 a0), (.int .i64 a1)])]) Tryd.func115 rfl Tryd.ntmps115 (Nat.le_of_ble_eq_true rfl) ?_
 refine xs (xr ?_)
 refine lp rfl rfl (hn_box (v := (.agg #[(.int .i64 a3), (.int .i64 a2), (.int .i64 a0), (.int .i64 a1)])) rfl ?_)
 intro g h1 a8 a7
 have b1 := ext_pushed_f11_sh a7
 have a9 : Array.size h ≤ g := Nat.le_of_eq (Eq.symm a8)
 have a5 : h1[g]? = some (.cells #[(.int .i64 a3), (.int .i64 a2), (.int .i64 a0), (.int .i64 a1)] 24 (0, 0)) := by rw [a7]; exact push_new a8
 refine lv rfl rfl (va rfl) ?_
 refine ln (qn (xs (xr ?_)))
 refine lv rfl rfl (vL (vs := [(.int .i64 a3), (.int .i64 a2), (.int .i64 a0), (.int .i64 a1)]) TyTB.agg24 TyTB.sz24 rfl (cc (rc a5 rfl) (cc (rc a5 rfl) (cc (rc a5 rfl) (cc (rc a5 rfl) cn))))) ?_
 replace H := H g h1 a9 (row_lt a5) b1
 refine lp rfl rfl (sc TyTB.cb31 rfl (HC.mono H ?_))
 rintro _ h2 ⟨b0, r0, r1, r2, rfl, H⟩
 replace a5 := Ext.row b0 a5
 refine lv rfl rfl (vm rfl) (lv rfl rfl (vx rfl rfl) (lv rfl rfl (vx rfl rfl) (lv rfl rfl (vx rfl rfl) (lv rfl rfl (va rfl) (lv rfl rfl (va rfl) ?_)))))
 refine lv rfl rfl (va rfl) ?_
 refine ln (qn (xs (xr ?_)))
 refine lv rfl rfl (vL (vs := [(.int .i64 a3), (.int .i64 a2), (.int .i64 a0), (.int .i64 a1)]) TyTB.agg24 TyTB.sz24 rfl (cc (rc a5 rfl) (cc (rc a5 rfl) (cc (rc a5 rfl) (cc (rc a5 rfl) cn))))) ?_
 refine lp rfl rfl (sc TyTB.cb33 rfl (HC.mono H ?_))
 rintro _ h3 ⟨b2, a4, a6, rfl, H⟩
 refine lv rfl rfl (vm rfl) (lv rfl rfl (vx rfl rfl) (lv rfl rfl (vx rfl rfl) (lv rfl rfl (va rfl) (lv rfl rfl (va rfl) ?_))))
 refine ln (qn (xs (xr ?_)))
 refine lv rfl rfl (vm rfl) (lv rfl rfl (vr rfl rfl rfl) (lv rfl rfl (vm rfl) (lv rfl rfl (vr rfl rfl rfl) (lv rfl rfl (va rfl) ?_))))
 refine ln (qn (xt ?_))
 exact endQ_ret _ (res_one Tryd.results115 (rv_tmp rfl)) H
theorem f32_sh (a6 : Int) (a4 : Int) (a1 : Int) (a3 : Int) (a5 : Option Addr) (a2 : Nat) (a0 : Nat) (h : Heap) (R : Value → Heap → Prop)
  (H : (∀ (g : Nat) (pb : Nat) (h2 : Heap), Array.size h ≤ g → g < Array.size h2 → Array.size h ≤ pb → pb < Array.size h2 → Ext h h2 → HC Tryd.prog 59 #[(.agg #[(.int .i64 a6), (.int .i64 a4), (.int .i64 a1), (.int .i64 a3)])] h2 (fun vv h3 => Ext h2 h3 ∧ ∃ r : Int, vv = (.int .i64 r) ∧ (((r != 0) = true → (∀ h4, Fr (fun i => i = pb) h3 h4 → R (.tuple #[(.agg #[(.int .u64 0), (.int .u64 0), (.int .i64 0)]), (.int .i64 r)]) h4)) ∧ ((r != 0) = false → (((decide ((a2 : Int) < 32)) = true → (∀ h5, Fr (fun i => i = pb) h3 h5 → R (.tuple #[(.agg #[(.int .u64 0), (.int .u64 0), (.int .i64 0)]), (.int .i64 50)]) h5)) ∧ ((decide ((a2 : Int) < 32)) = false → (0 ≤ ((8 : Int) : Int) ∧ (8 : Int) ≤ (16 : Int) ∧ (16 : Int) ≤ (a0 : Int) ∧ ∀ sl : Option Addr, sl = slA a5 (Int.toNat 8) 1 a0 → (∃ b3 : Int, (∀ e1, Ext h3 e1 → HC Tryd.prog 60 #[(.slice sl (Int.toNat 16 - Int.toNat 8) (a0 - Int.toNat 8))] e1 (fun vv h' => vv = (.int .u64 b3) ∧ h' = e1)) ∧ (0 ≤ ((16 : Int) : Int) ∧ (16 : Int) ≤ (24 : Int) ∧ (24 : Int) ≤ (a0 : Int) ∧ ∀ b8 : Option Addr, b8 = slA a5 (Int.toNat 16) 1 a0 → (∃ b2 : Int, (∀ d8, Ext h3 d8 → HC Tryd.prog 60 #[(.slice b8 (Int.toNat 24 - Int.toNat 16) (a0 - Int.toNat 16))] d8 (fun vv h' => vv = (.int .u64 b2) ∧ h' = d8)) ∧ (0 ≤ ((24 : Int) : Int) ∧ (24 : Int) ≤ (28 : Int) ∧ (28 : Int) ≤ (a0 : Int) ∧ ∀ b9 : Option Addr, b9 = slA a5 (Int.toNat 24) 1 a0 → (∃ b1 : Int, (∀ d7, Ext h3 d7 → HC Tryd.prog 60 #[(.slice b9 (Int.toNat 28 - Int.toNat 24) (a0 - Int.toNat 24))] d7 (fun vv h' => vv = (.int .u64 b1) ∧ h' = d7)) ∧ (∀ (hv : Nat) (h7 : Heap), Array.size h3 ≤ hv → hv < Array.size h7 → Ext h3 h7 → HC Tryd.prog 61 #[(.agg #[(.int .i64 a6), (.int .i64 a4), (.int .i64 a1), (.int .i64 a3)]), (.agg #[(.int .u64 b3), (.int .u64 b2), (.int .i64 (IntKind.i64.wrap b1))])] h7 (fun vv h8 => Ext h7 h8 ∧ ∃ r0 : Option Addr, ∃ b5 b6 : Nat, ∃ r1 : Int, vv = (.tuple #[(.slice r0 b5 b6), (.int .i64 r1)]) ∧ (∃ j : Bool, (((r1 != 0) = true → (j = true)) ∧ ((r1 != 0) = false → (0 ≤ ((0 : Int) : Int) ∧ (0 : Int) ≤ (32 : Int) ∧ (32 : Int) ≤ (a0 : Int) ∧ ∀ b7 : Option Addr, b7 = slA a5 (Int.toNat 0) 1 a0 → (∃ c0 : Bool, HC Tryd.prog 62 #[(.slice r0 b5 b6), (.slice b7 (Int.toNat 32 - Int.toNat 0) (a0 - Int.toNat 0))] h8 (fun vv h' => vv = (.bool c0) ∧ h' = h8) ∧ (j = (!c0)))))) ∧ ((j = true → (∀ h9, Fr (fun i => i = pb) h8 h9 → R (.tuple #[(.agg #[(.int .u64 0), (.int .u64 0), (.int .i64 0)]), (.int .i64 50)]) h9)) ∧ (j = false → (∀ c4, Fr (fun i => i = pb) h8 c4 → R (.tuple #[(.agg #[(.int .u64 b3), (.int .u64 b2), (.int .i64 (IntKind.i64.wrap b1))]), (.int .i64 0)]) c4))))))))))))))))))) :
  HC Tryd.prog 32 #[(.agg #[(.int .i64 a6), (.int .i64 a4), (.int .i64 a1), (.int .i64 a3)]), (.slice a5 a2 a0)] h R := by
 refine hc_of (args := [(.agg #[(.int .i64 a6), (.int .i64 a4), (.int .i64 a1), (.int .i64 a3)]), (.slice a5 a2 a0)]) Tryd.func32 rfl Tryd.ntmps32 (Nat.le_of_ble_eq_true rfl) ?_
 refine xs (xr ?_)
 refine lp rfl rfl (hn_box (v := (.agg #[(.int .i64 a6), (.int .i64 a4), (.int .i64 a1), (.int .i64 a3)])) rfl ?_)
 intro g h1 e6 e7
 have e8 := ext_pushed_f11_sh e7
 have i0 : Array.size h ≤ g := Nat.le_of_eq (Eq.symm e6)
 have a7 : h1[g]? = some (.cells #[(.int .i64 a6), (.int .i64 a4), (.int .i64 a1), (.int .i64 a3)] 24 (0, 0)) := by rw [e7]; exact push_new e6
 refine lp rfl rfl (hn_alloc TyTB.z31 ?_)
 intro pb h2 e3 e9
 have e5 := ext_pushed_f11_sh e9
 have e4 := Nat.ne_of_lt (Nat.lt_of_lt_of_eq (row_lt a7) (Eq.symm e3))
 have f7 : Array.size h ≤ pb := Nat.le_trans (Ext.size e8) (Nat.le_of_eq (Eq.symm e3))
 have b4 : h2[pb]? = some (.cells #[(.int .u64 0), (.int .u64 0), (.int .i64 0)] 31 (0, 0)) := by rw [e9]; exact push_new e3
 replace a7 := Ext.row e5 a7
 have g6 := Ext.trans e8 e5
 refine lv rfl rfl (va rfl) ?_
 refine ln (qn (xs (xs (xr ?_))))
 refine lv rfl rfl (vL (vs := [(.int .i64 a6), (.int .i64 a4), (.int .i64 a1), (.int .i64 a3)]) TyTB.agg24 TyTB.sz24 rfl (cc (rc a7 rfl) (cc (rc a7 rfl) (cc (rc a7 rfl) (cc (rc a7 rfl) cn))))) ?_
 replace H := H g pb h2 i0 (row_lt a7) f7 (row_lt b4) g6
 refine lp rfl rfl (sc TyTB.cb59 rfl (HC.mono H ?_))
 rintro _ h3 ⟨d6, r, rfl, H⟩
 replace a7 := Ext.row d6 a7
 replace b4 := Ext.row d6 b4
 refine lv rfl rfl (va rfl) ?_
 refine ln (qn (xs (xr ?_)))
 refine lv rfl rfl (vm rfl) (lv rfl rfl (vr rfl rfl rfl) ?_)
 refine ln (qn ?_)
 refine xc (b := r != 0) rfl (fun c6 => ?_) (fun c6 => ?_)
 ·replace H := H.1 c6
  refine xs (xr ?_)
  refine lv rfl rfl (v := (.agg #[(.int .u64 0), (.int .u64 0), (.int .i64 0)])) (vb (vs := []) (cs := #[(.int .u64 0), (.int .u64 0), (.int .i64 0)]) TyTB.z31 TyTB.pl31 rfl (by kernel_rfl)) (lv rfl rfl (vm rfl) ?_)
  refine lp rfl rfl (hn_stores (vs := [(.int .u64 0), (.int .u64 0), (.int .i64 0)]) rfl rfl TyTB.sz31 rfl (HWs_row b4 (by simp)) ?_)
  intro h4 d0
  replace a7 := row_hsets_ne d0 e4 a7
  have a9 : h4[pb]? = some (.cells #[(.int .u64 0), (.int .u64 0), (.int .i64 0)] 31 (0, 0)) := row_hsets_eq d0 b4 rfl
  replace H := H h4 (fr_hsets_of d0)
  refine lv rfl rfl (va rfl) ?_
  refine ln (qn (xt (qr ?_)))
  exact endQ_ret _ (res_two Tryd.results32 (rv_cell (vs := [(.int .u64 0), (.int .u64 0), (.int .i64 0)]) TyTB.agg31 TyTB.sz31 rfl (cc (rc a9 rfl) (cc (rc a9 rfl) (cc (rc a9 rfl) cn)))) (rv_tmp rfl)) H
 ·replace H := H.2 c6
  refine xi (qn (xs (xs (xr ?_))))
  refine lv rfl rfl (vm rfl) (lv rfl rfl (v := (.int .i64 (a2 : Int))) (hv_len (n := a2) TyTB.u25 rfl) (lv rfl rfl (vr rfl rfl rfl) ?_))
  refine ln (qn ?_)
  refine xc (b := decide ((a2 : Int) < 32)) rfl (fun c7 => ?_) (fun c7 => ?_)
  ·replace H := H.1 c7
   refine xs (xr ?_)
   refine lv rfl rfl (v := (.agg #[(.int .u64 0), (.int .u64 0), (.int .i64 0)])) (vb (vs := []) (cs := #[(.int .u64 0), (.int .u64 0), (.int .i64 0)]) TyTB.z31 TyTB.pl31 rfl (by kernel_rfl)) ?_
   refine lp rfl rfl (hn_stores (vs := [(.int .u64 0), (.int .u64 0), (.int .i64 0)]) rfl rfl TyTB.sz31 rfl (HWs_row b4 (by simp)) ?_)
   intro h5 d3
   replace a7 := row_hsets_ne d3 e4 a7
   have a9 : h5[pb]? = some (.cells #[(.int .u64 0), (.int .u64 0), (.int .i64 0)] 31 (0, 0)) := row_hsets_eq d3 b4 rfl
   replace H := H h5 (fr_hsets_of d3)
   refine lv rfl rfl (va rfl) ?_
   refine ln (qn (xt (qr ?_)))
   exact endQ_ret _ (res_two Tryd.results32 (rv_cell (vs := [(.int .u64 0), (.int .u64 0), (.int .i64 0)]) TyTB.agg31 TyTB.sz31 rfl (cc (rc a9 rfl) (cc (rc a9 rfl) (cc (rc a9 rfl) cn)))) (rv_tmp rfl)) H
  ·replace H := H.2 c7
   refine xi (qn (xs ?_))
   refine hx_draw TyTB.mixed [.pure, .pure, .read, .pure, .pure, .read, .pure, .pure, .read, .pure, .pure, .ext, .wild] [0, 1, 2, 3, 4, 5, 6, 7, 8, 9, 10, 11, 12] (by kernel_rfl) ?_
   refine pp (i := 0) rfl (wanted_0 rfl) rfl (.slice a5 a2 a0) (fun _ => vm rfl) ?_
   obtain ⟨g7, f2, f3, H⟩ := H
   obtain ⟨sl, hq21⟩ : ∃ q, q = slA a5 (Int.toNat 8) 1 a0 := ⟨_, rfl⟩
   replace H := H sl hq21
   refine pp (i := 1) rfl (wanted_0 rfl) rfl (.slice sl (Int.toNat 16 - Int.toNat 8) (a0 - Int.toNat 8)) (fun _ => hv_slice (l := 8) (r := 16) TyTB.u25 TyTB.sz5 rfl (sl_some rfl) (sh_some rfl) g7 f2 f3 hq21) ?_
   obtain ⟨b3, g9, H⟩ := H
   refine pr (i := 2) rfl (wanted_0 rfl) rfl (.int .u64 b3) (fun _ he => hv_call TyTB.cb60 (vs := [(.slice sl (Int.toNat 16 - Int.toNat 8) (a0 - Int.toNat 8))]) rfl (g9 _ he)) ?_
   refine pp (i := 3) rfl (wanted_0 rfl) rfl (.slice a5 a2 a0) (fun _ => vm rfl) ?_
   obtain ⟨g8, g2, g1, H⟩ := H
   obtain ⟨b8, hq26⟩ : ∃ q, q = slA a5 (Int.toNat 16) 1 a0 := ⟨_, rfl⟩
   replace H := H b8 hq26
   refine pp (i := 4) rfl (wanted_0 rfl) rfl (.slice b8 (Int.toNat 24 - Int.toNat 16) (a0 - Int.toNat 16)) (fun _ => hv_slice (l := 16) (r := 24) TyTB.u25 TyTB.sz5 rfl (sl_some rfl) (sh_some rfl) g8 g2 g1 hq26) ?_
   obtain ⟨b2, f0, H⟩ := H
   refine pr (i := 5) rfl (wanted_0 rfl) rfl (.int .u64 b2) (fun _ he => hv_call TyTB.cb60 (vs := [(.slice b8 (Int.toNat 24 - Int.toNat 16) (a0 - Int.toNat 16))]) rfl (f0 _ he)) ?_
   refine pp (i := 6) rfl (wanted_0 rfl) rfl (.slice a5 a2 a0) (fun _ => vm rfl) ?_
   obtain ⟨f5, f1, f6, H⟩ := H
   obtain ⟨b9, hq31⟩ : ∃ q, q = slA a5 (Int.toNat 24) 1 a0 := ⟨_, rfl⟩
   replace H := H b9 hq31
   refine pp (i := 7) rfl (wanted_0 rfl) rfl (.slice b9 (Int.toNat 28 - Int.toNat 24) (a0 - Int.toNat 24)) (fun _ => hv_slice (l := 24) (r := 28) TyTB.u25 TyTB.sz5 rfl (sl_some rfl) (sh_some rfl) f5 f1 f6 hq31) ?_
   obtain ⟨b1, f9, H⟩ := H
   refine pr (i := 8) rfl (wanted_0 rfl) rfl (.int .u64 b1) (fun _ he => hv_call TyTB.cb60 (vs := [(.slice b9 (Int.toNat 28 - Int.toNat 24) (a0 - Int.toNat 24))]) rfl (f9 _ he)) ?_
   refine pp (i := 9) rfl (wanted_0 rfl) rfl (.int .i64 (IntKind.i64.wrap b1)) (fun _ => hv_convInt TyTB.u29 TyTB.u3 rfl) ?_
   refine pp (i := 10) rfl (wanted_0 rfl) rfl (.agg #[(.int .u64 b3), (.int .u64 b2), (.int .i64 (IntKind.i64.wrap b1))]) (fun _ => vb (vs := [(0, (.int .u64 b3)), (1, (.int .u64 b2)), (2, (.int .i64 (IntKind.i64.wrap b1)))]) (cs := #[(.int .u64 b3), (.int .u64 b2), (.int .i64 (IntKind.i64.wrap b1))]) TyTB.z31 TyTB.pl31 rfl (by kernel_rfl)) ?_
   refine hp_ext (i := 11) rfl (wanted_0 rfl) rfl (hn_alloc TyTB.z31 ?_)
   intro hv h6 c1 d9
   have c2 := ext_pushed_f11_sh d9
   refine ⟨c2, ?_⟩
   have g5 := Nat.ne_of_lt (Nat.lt_of_lt_of_eq (row_lt a7) (Eq.symm c1))
   have c5 := Nat.ne_of_lt (Nat.lt_of_lt_of_eq (row_lt b4) (Eq.symm c1))
   have e0 : Array.size h3 ≤ hv := Nat.le_of_eq (Eq.symm c1)
   have e2 : h6[hv]? = some (.cells #[(.int .u64 0), (.int .u64 0), (.int .i64 0)] 31 (0, 0)) := by rw [d9]; exact push_new c1
   replace a7 := Ext.row c2 a7
   replace b4 := Ext.row c2 b4
   refine hp_wild (i := 12) rfl (wanted_0 rfl) rfl (hn_stores (vs := [(.int .u64 b3), (.int .u64 b2), (.int .i64 (IntKind.i64.wrap b1))]) rfl rfl TyTB.sz31 rfl (HWs_row e2 (by simp)) ?_)
   intro h7 c3
   replace a7 := row_hsets_ne c3 g5 a7
   replace b4 := row_hsets_ne c3 c5 b4
   have a8 : h7[hv]? = some (.cells #[(.int .u64 b3), (.int .u64 b2), (.int .i64 (IntKind.i64.wrap b1))] 31 (0, 0)) := row_hsets_eq c3 e2 rfl
   have g3 := ext_hsets c3 c2 e0
   refine hp_nil ?_
   refine qn (xs (xr ?_))
   refine lv rfl rfl (vL (vs := [(.int .i64 a6), (.int .i64 a4), (.int .i64 a1), (.int .i64 a3)]) TyTB.agg24 TyTB.sz24 rfl (cc (rc a7 rfl) (cc (rc a7 rfl) (cc (rc a7 rfl) (cc (rc a7 rfl) cn))))) (lv rfl rfl (vL (vs := [(.int .u64 b3), (.int .u64 b2), (.int .i64 (IntKind.i64.wrap b1))]) TyTB.agg31 TyTB.sz31 rfl (cc (rc a8 rfl) (cc (rc a8 rfl) (cc (rc a8 rfl) cn)))) ?_)
   replace H := H hv h7 e0 (row_lt a8) g3
   refine lp rfl rfl (sc TyTB.cb61 rfl (HC.mono H ?_))
   rintro _ h8 ⟨d5, r0, b5, b6, r1, rfl, H⟩
   replace b4 := Ext.row d5 b4
   replace a8 := Ext.row d5 a8
   refine lv rfl rfl (vm rfl) (lv rfl rfl (vx rfl rfl) (lv rfl rfl (vx rfl rfl) (lv rfl rfl (va rfl) (lv rfl rfl (va rfl) ?_))))
   refine ln (qn (xs ?_))
   obtain ⟨j, c9, c8⟩ := H
   refine xk (fun ρ h' => h8 = h' ∧ Has ρ [(4, (ptr pb 0)), (7, (ptr hv 0)), (45, (.bool j))]) ?_ ?_
   ·have H := c9; clear c9 c8
    refine xr ?_
    refine lv rfl rfl (vm rfl) (lv rfl rfl (vr rfl rfl rfl) (lv rfl rfl (vm rfl) ?_))
    rcases bool_or (r1 != 0) with b0 | b0
    ·replace H := H.1 b0
     refine lo (wanted_n rfl rfl rfl b0) rfl ?_
     refine lo (wanted_n rfl rfl rfl b0) rfl ?_
     refine lo (wanted_n rfl rfl rfl b0) rfl ?_
     refine lo (wanted_n rfl rfl rfl b0) rfl ?_
     refine lo (wanted_n rfl rfl rfl b0) rfl ?_
     refine lv rfl rfl (v := (.bool true)) (hv_pick_t rfl b0 rfl) ?_
     refine ln (qn ?_)
     obtain rfl := H
     exact ⟨rfl, (hc rfl (hc rfl (hc rfl hn)))⟩
    ·replace H := H.2 b0
     refine ly (wanted_y rfl rfl rfl b0) rfl (HStep.of_val (v := (.slice r0 b5 b6)) (vm rfl) ?_)
     refine ly (wanted_y rfl rfl rfl b0) rfl (HStep.of_val (v := (.slice a5 a2 a0)) (vm rfl) ?_)
     obtain ⟨g4, g0, f8, H⟩ := H
     obtain ⟨b7, hq49⟩ : ∃ q, q = slA a5 (Int.toNat 0) 1 a0 := ⟨_, rfl⟩
     replace H := H b7 hq49
     refine ly (wanted_y rfl rfl rfl b0) rfl (HStep.of_val (v := (.slice b7 (Int.toNat 32 - Int.toNat 0) (a0 - Int.toNat 0))) (hv_slice (l := 0) (r := 32) TyTB.u25 TyTB.sz5 rfl sl_none (sh_some rfl) g4 g0 f8 hq49) ?_)
     obtain ⟨c0, f4, H⟩ := H
     refine ly (wanted_y rfl rfl rfl b0) rfl (HStep.of_val (v := (.bool c0)) (hv_call TyTB.cb62 (vs := [(.slice r0 b5 b6), (.slice b7 (Int.toNat 32 - Int.toNat 0) (a0 - Int.toNat 0))]) rfl f4) ?_)
     refine ly (wanted_y rfl rfl rfl b0) rfl (HStep.of_val (v := (.bool (!c0))) (hv_not (b := c0) rfl) ?_)
     refine lv rfl rfl (v := (.bool (!c0))) (hv_pick_f rfl b0 rfl) ?_
     refine ln (qn ?_)
     obtain rfl := H
     exact ⟨rfl, (hc rfl (hc rfl (hc rfl hn)))⟩
   ·have H := c8; clear c9 c8
    rintro ρ _ ⟨rfl, hH⟩
    refine xh _ hH ?_
    refine xc (b := j) rfl (fun d1 => ?_) (fun d1 => ?_)
    ·replace H := H.1 d1
     refine xs (xr ?_)
     refine lv rfl rfl (v := (.agg #[(.int .u64 0), (.int .u64 0), (.int .i64 0)])) (vb (vs := []) (cs := #[(.int .u64 0), (.int .u64 0), (.int .i64 0)]) TyTB.z31 TyTB.pl31 rfl (by kernel_rfl)) ?_
     refine lp rfl rfl (hn_stores (vs := [(.int .u64 0), (.int .u64 0), (.int .i64 0)]) rfl rfl TyTB.sz31 rfl (HWs_row b4 (by simp)) ?_)
     intro h9 d4
     replace a8 := row_hsets_ne d4 (Ne.symm c5) a8
     have a9 : h9[pb]? = some (.cells #[(.int .u64 0), (.int .u64 0), (.int .i64 0)] 31 (0, 0)) := row_hsets_eq d4 b4 rfl
     replace H := H h9 (fr_hsets_of d4)
     refine lv rfl rfl (va rfl) ?_
     refine ln (qn (xt (qr ?_)))
     exact endQ_ret _ (res_two Tryd.results32 (rv_cell (vs := [(.int .u64 0), (.int .u64 0), (.int .i64 0)]) TyTB.agg31 TyTB.sz31 rfl (cc (rc a9 rfl) (cc (rc a9 rfl) (cc (rc a9 rfl) cn)))) (rv_tmp rfl)) H
    ·replace H := H.2 d1
     refine xi (qn (xs (xr ?_)))
     refine lv rfl rfl (vL (vs := [(.int .u64 b3), (.int .u64 b2), (.int .i64 (IntKind.i64.wrap b1))]) TyTB.agg31 TyTB.sz31 rfl (cc (rc a8 rfl) (cc (rc a8 rfl) (cc (rc a8 rfl) cn)))) ?_
     refine lp rfl rfl (hn_stores (vs := [(.int .u64 b3), (.int .u64 b2), (.int .i64 (IntKind.i64.wrap b1))]) rfl rfl TyTB.sz31 rfl (HWs_row b4 (by simp)) ?_)
     intro c4 d2
     replace a8 := row_hsets_ne d2 (Ne.symm c5) a8
     have a9 : c4[pb]? = some (.cells #[(.int .u64 b3), (.int .u64 b2), (.int .i64 (IntKind.i64.wrap b1))] 31 (0, 0)) := row_hsets_eq d2 b4 rfl
     replace H := H c4 (fr_hsets_of d2)
     refine lv rfl rfl (va rfl) ?_
     refine ln (qn (xt ?_))
     exact endQ_ret _ (res_two Tryd.results32 (rv_cell (vs := [(.int .u64 b3), (.int .u64 b2), (.int .i64 (IntKind.i64.wrap b1))]) TyTB.agg31 TyTB.sz31 rfl (cc (rc a9 rfl) (cc (rc a9 rfl) (cc (rc a9 rfl) cn)))) (rv_tmp rfl)) H
theorem f35_sh (a6 : Int) (a4 : Int) (a0 : Int) (a3 : Int) (b7 : Option Addr) (a2 : Nat) (a1 : Nat) (h : Heap) (R : Value → Heap → Prop)
  (H : (∀ (g : Nat) (pb : Nat) (h2 : Heap), Array.size h ≤ g → g < Array.size h2 → Array.size h ≤ pb → pb < Array.size h2 → Ext h h2 → HC Tryd.prog 59 #[(.agg #[(.int .i64 a6), (.int .i64 a4), (.int .i64 a0), (.int .i64 a3)])] h2 (fun vv h3 => Ext h2 h3 ∧ ∃ r : Int, vv = (.int .i64 r) ∧ (((r != 0) = true → (∀ h4, Fr (fun i => i = pb) h3 h4 → R (.tuple #[(.agg #[(.int .i64 0), (.int .i64 0), (.int .u32 0), (.int .u32 0)]), (.int .i64 r)]) h4)) ∧ ((r != 0) = false → HC Tryd.prog 31 #[(.agg #[(.int .i64 a6), (.int .i64 a4), (.int .i64 a0), (.int .i64 a3)])] h3 (fun vv h5 => Ext h3 h5 ∧ ∃ r0 r1 r2 : Int, vv = (.tuple #[(.int .i64 r0), (.int .i64 r1), (.int .i64 r2)]) ∧ ((((a2 : Int) != r0) = true → (∀ h6, Fr (fun i => i = pb) h5 h6 → R (.tuple #[(.agg #[(.int .i64 0), (.int .i64 0), (.int .u32 0), (.int .u32 0)]), (.int .i64 51)]) h6)) ∧ (((a2 : Int) != r0) = false → (0 ≤ (IntKind.i64.wrap (r0 - 24) : Int) ∧ IntKind.i64.wrap (r0 - 24) ≤ (a2 : Int) ∧ (a2 : Int) ≤ (a1 : Int) ∧ ∀ sl : Option Addr, sl = slA b7 (Int.toNat (IntKind.i64.wrap (r0 - 24))) 1 a1 → (∀ b h7, b = Array.size h5 → h7 = Array.push h5 (.cells #[(.slice none 0 0)] 25) → (HW h7 b 0 ∧ Off b [g, pb] ∧ ∀ h8, h8 = hset h7 b 0 (.slice sl (Int.toNat (a2 : Int) - Int.toNat (IntKind.i64.wrap (r0 - 24))) (a1 - Int.toNat (IntKind.i64.wrap (r0 - 24)))) → (∃ b3 : Int, HC Tryd.prog 66 #[(.int .i64 1), (ptr b 0)] h8 (fun vv h' => vv = (.int .u64 b3) ∧ h' = h8) ∧ (∃ a9 : Int, HC Tryd.prog 66 #[(.int .i64 2), (ptr b 0)] h8 (fun vv h' => vv = (.int .u64 a9) ∧ h' = h8) ∧ (∃ b4 : Int, HC Tryd.prog 66 #[(.int .i64 3), (ptr b 0)] h8 (fun vv h' => vv = (.int .u64 b4) ∧ h' = h8) ∧ (∃ b2 : Int, HC Tryd.prog 66 #[(.int .i64 4), (ptr b 0)] h8 (fun vv h' => vv = (.int .u64 b2) ∧ h' = h8) ∧ (∀ (f : Nat) (c4 : Heap), Array.size h8 ≤ f → f < Array.size c4 → Ext h8 c4 → HC Tryd.prog 67 #[(.agg #[(.int .i64 a6), (.int .i64 a4), (.int .i64 a0), (.int .i64 a3)]), (.agg #[(.int .i64 (IntKind.i64.wrap b3)), (.int .i64 (IntKind.i64.wrap a9)), (.int .u32 (IntKind.u32.wrap b4)), (.int .u32 (IntKind.u32.wrap b2))])] c4 (fun vv c3 => Kp [pb, f] c4 c3 ∧ ∃ b9 : Option Addr, ∃ b8 c0 : Nat, ∃ b6 : Int, vv = (.tuple #[(.slice b9 b8 c0), (.int .i64 b6)]) ∧ (∃ j : Bool, (((b6 != 0) = true → (j = true)) ∧ ((b6 != 0) = false → (∃ x : Option Addr, ∃ d1 d0 : Nat, hcell c3 b 0 = some (.slice x d1 d0) ∧ (∃ c1 : Bool, (∀ f3, Ext c3 f3 → HC Tryd.prog 62 #[(.slice b9 b8 c0), (.slice x d1 d0)] f3 (fun vv h' => vv = (.bool c1) ∧ h' = f3)) ∧ (((!c1) = true → (j = true)) ∧ ((!c1) = false → (0 ≤ ((0 : Int) : Int) ∧ (0 : Int) ≤ IntKind.i64.wrap a9 ∧ IntKind.i64.wrap a9 ≤ (a1 : Int) ∧ ∀ c2 : Option Addr, c2 = slA b7 (Int.toNat 0) 1 a1 → (∃ c5 : Int, (∀ e5, Ext c3 e5 → HC Tryd.prog 68 #[(.slice c2 (Int.toNat (IntKind.i64.wrap a9) - Int.toNat 0) (a1 - Int.toNat 0))] e5 (fun vv h' => vv = (.int .u32 c5) ∧ h' = e5)) ∧ (j = (c5 != (IntKind.u32.wrap b2))))))))))) ∧ ((j = true → (∀ c9, Fr (fun i => i = pb) c3 c9 → R (.tuple #[(.agg #[(.int .i64 0), (.int .i64 0), (.int .u32 0), (.int .u32 0)]), (.int .i64 51)]) c9)) ∧ (j = false → (∀ c8, Fr (fun i => i = pb) c3 c8 → R (.tuple #[(.agg #[(.int .i64 (IntKind.i64.wrap b3)), (.int .i64 (IntKind.i64.wrap a9)), (.int .u32 (IntKind.u32.wrap b4)), (.int .u32 (IntKind.u32.wrap b2))]), (.int .i64 0)]) c8))))))))))))))))))))) :
  HC Tryd.prog 35 #[(.agg #[(.int .i64 a6), (.int .i64 a4), (.int .i64 a0), (.int .i64 a3)]), (.slice b7 a2 a1)] h R := by
 refine hc_of (args := [(.agg #[(.int .i64 a6), (.int .i64 a4), (.int .i64 a0), (.int .i64 a3)]), (.slice b7 a2 a1)]) Tryd.func35 rfl Tryd.ntmps35 (Nat.le_of_ble_eq_true rfl) ?_
 refine xs (xr ?_)
 refine lp rfl rfl (hn_box (v := (.agg #[(.int .i64 a6), (.int .i64 a4), (.int .i64 a0), (.int .i64 a3)])) rfl ?_)
 intro g h1 f8 f9
 have g0 := ext_pushed_f11_sh f9
 have j1 : Array.size h ≤ g := Nat.le_of_eq (Eq.symm f8)
 have a5 : h1[g]? = some (.cells #[(.int .i64 a6), (.int .i64 a4), (.int .i64 a0), (.int .i64 a3)] 24 (0, 0)) := by rw [f9]; exact push_new f8
 refine lp rfl rfl (hn_alloc TyTB.z88 ?_)
 intro pb h2 f5 g1
 have f7 := ext_pushed_f11_sh g1
 have f6 := Nat.ne_of_lt (Nat.lt_of_lt_of_eq (row_lt a5) (Eq.symm f5))
 have g6 : Array.size h ≤ pb := Nat.le_trans (Ext.size g0) (Nat.le_of_eq (Eq.symm f5))
 have b1 : h2[pb]? = some (.cells #[(.int .i64 0), (.int .i64 0), (.int .u32 0), (.int .u32 0)] 88 (0, 0)) := by rw [g1]; exact push_new f5
 replace a5 := Ext.row f7 a5
 have i6 := Ext.trans g0 f7
 refine lv rfl rfl (va rfl) ?_
 refine ln (qn (xs (xs (xr ?_))))
 refine lv rfl rfl (vL (vs := [(.int .i64 a6), (.int .i64 a4), (.int .i64 a0), (.int .i64 a3)]) TyTB.agg24 TyTB.sz24 rfl (cc (rc a5 rfl) (cc (rc a5 rfl) (cc (rc a5 rfl) (cc (rc a5 rfl) cn))))) ?_
 replace H := H g pb h2 j1 (row_lt a5) g6 (row_lt b1) i6
 refine lp rfl rfl (sc TyTB.cb59 rfl (HC.mono H ?_))
 rintro _ h3 ⟨e4, r, rfl, H⟩
 replace a5 := Ext.row e4 a5
 replace b1 := Ext.row e4 b1
 refine lv rfl rfl (va rfl) ?_
 refine ln (qn (xs (xr ?_)))
 refine lv rfl rfl (vm rfl) (lv rfl rfl (vr rfl rfl rfl) ?_)
 refine ln (qn ?_)
 refine xc (b := r != 0) rfl (fun d3 => ?_) (fun d3 => ?_)
 ·replace H := H.1 d3
  refine xs (xr ?_)
  refine lv rfl rfl (v := (.agg #[(.int .i64 0), (.int .i64 0), (.int .u32 0), (.int .u32 0)])) (vb (vs := []) (cs := #[(.int .i64 0), (.int .i64 0), (.int .u32 0), (.int .u32 0)]) TyTB.z88 TyTB.pl88 rfl (by kernel_rfl)) (lv rfl rfl (vm rfl) ?_)
  refine lp rfl rfl (hn_stores (vs := [(.int .i64 0), (.int .i64 0), (.int .u32 0), (.int .u32 0)]) rfl rfl TyTB.sz88 rfl (HWs_row b1 (by simp)) ?_)
  intro h4 d9
  replace a5 := row_hsets_ne d9 f6 a5
  have b0 : h4[pb]? = some (.cells #[(.int .i64 0), (.int .i64 0), (.int .u32 0), (.int .u32 0)] 88 (0, 0)) := row_hsets_eq d9 b1 rfl
  replace H := H h4 (fr_hsets_of d9)
  refine lv rfl rfl (va rfl) ?_
  refine ln (qn (xt (qr ?_)))
  exact endQ_ret _ (res_two Tryd.results35 (rv_cell (vs := [(.int .i64 0), (.int .i64 0), (.int .u32 0), (.int .u32 0)]) TyTB.agg88 TyTB.sz88 rfl (cc (rc b0 rfl) (cc (rc b0 rfl) (cc (rc b0 rfl) (cc (rc b0 rfl) cn))))) (rv_tmp rfl)) H
 ·replace H := H.2 d3
  refine xi (qn (xs (xr ?_)))
  refine lv rfl rfl (vL (vs := [(.int .i64 a6), (.int .i64 a4), (.int .i64 a0), (.int .i64 a3)]) TyTB.agg24 TyTB.sz24 rfl (cc (rc a5 rfl) (cc (rc a5 rfl) (cc (rc a5 rfl) (cc (rc a5 rfl) cn))))) ?_
  refine lp rfl rfl (sc TyTB.cb31 rfl (HC.mono H ?_))
  rintro _ h5 ⟨f0, r0, r1, r2, rfl, H⟩
  replace a5 := Ext.row f0 a5
  replace b1 := Ext.row f0 b1
  refine lv rfl rfl (vm rfl) (lv rfl rfl (vx rfl rfl) (lv rfl rfl (vx rfl rfl) (lv rfl rfl (vx rfl rfl) (lv rfl rfl (va rfl) (lv rfl rfl (va rfl) ?_)))))
  refine lv rfl rfl (va rfl) ?_
  refine ln (qn (xs (xs (xr ?_))))
  refine lv rfl rfl (vm rfl) (lv rfl rfl (v := (.int .i64 (a2 : Int))) (hv_len (n := a2) TyTB.u25 rfl) (lv rfl rfl (vm rfl) (lv rfl rfl (vr rfl rfl rfl) ?_)))
  refine ln (qn ?_)
  refine xc (b := (a2 : Int) != r0) rfl (fun e3 => ?_) (fun e3 => ?_)
  ·replace H := H.1 e3
   refine xs (xr ?_)
   refine lv rfl rfl (v := (.agg #[(.int .i64 0), (.int .i64 0), (.int .u32 0), (.int .u32 0)])) (vb (vs := []) (cs := #[(.int .i64 0), (.int .i64 0), (.int .u32 0), (.int .u32 0)]) TyTB.z88 TyTB.pl88 rfl (by kernel_rfl)) ?_
   refine lp rfl rfl (hn_stores (vs := [(.int .i64 0), (.int .i64 0), (.int .u32 0), (.int .u32 0)]) rfl rfl TyTB.sz88 rfl (HWs_row b1 (by simp)) ?_)
   intro h6 e1
   replace a5 := row_hsets_ne e1 f6 a5
   have b0 : h6[pb]? = some (.cells #[(.int .i64 0), (.int .i64 0), (.int .u32 0), (.int .u32 0)] 88 (0, 0)) := row_hsets_eq e1 b1 rfl
   replace H := H h6 (fr_hsets_of e1)
   refine lv rfl rfl (va rfl) ?_
   refine ln (qn (xt (qr ?_)))
   exact endQ_ret _ (res_two Tryd.results35 (rv_cell (vs := [(.int .i64 0), (.int .i64 0), (.int .u32 0), (.int .u32 0)]) TyTB.agg88 TyTB.sz88 rfl (cc (rc b0 rfl) (cc (rc b0 rfl) (cc (rc b0 rfl) (cc (rc b0 rfl) cn))))) (rv_tmp rfl)) H
  ·replace H := H.2 e3
   refine xi (qn (xs (xr ?_)))
   refine lv rfl rfl (vm rfl) (lv rfl rfl (vm rfl) (lv rfl rfl (vr rfl rfl rfl) ?_))
   obtain ⟨g3, g4, i4, H⟩ := H
   obtain ⟨sl, hq22⟩ : ∃ q, q = slA b7 (Int.toNat (IntKind.i64.wrap (r0 - 24))) 1 a1 := ⟨_, rfl⟩
   replace H := H sl hq22
   refine lv rfl rfl (v := (.slice sl (Int.toNat (a2 : Int) - Int.toNat (IntKind.i64.wrap (r0 - 24))) (a1 - Int.toNat (IntKind.i64.wrap (r0 - 24))))) (hv_slice (l := IntKind.i64.wrap (r0 - 24)) (r := (a2 : Int)) TyTB.u25 TyTB.sz5 rfl (sl_some rfl) sh_none g3 g4 i4 hq22) ?_
   refine lp rfl rfl (hn_alloc TyTB.z25 ?_)
   intro b h7 g5 e9
   replace H := H b h7 g5 e9
   have f2 := ext_pushed_f11_sh e9
   replace a5 := Ext.row f2 a5
   replace b1 := Ext.row f2 b1
   obtain ⟨j0, e6, H⟩ := H
   refine lp rfl rfl (hn_store (v := (.slice sl (Int.toNat (a2 : Int) - Int.toNat (IntKind.i64.wrap (r0 - 24))) (a1 - Int.toNat (IntKind.i64.wrap (r0 - 24))))) rfl rfl TyTB.sz25 rfl j0 ?_)
   intro h8 d6
   replace H := H h8 d6
   replace a5 := row_hset_ne d6 (e6 _ (by simp)) a5
   replace b1 := row_hset_ne d6 (e6 _ (by simp)) b1
   refine ln (qn (xs (xr ?_)))
   refine lv rfl rfl (v := (.func (.func 66) #[] #[(ptr b 0)])) (hv_makeFunc (fv := []) (cv := [(ptr b 0)]) rfl rfl) (lv rfl rfl (va rfl) ?_)
   refine ln (qn (xs (xr ?_)))
   refine lv rfl rfl (vm rfl) ?_
   obtain ⟨b3, i9, H⟩ := H
   refine lv rfl rfl (v := (.int .u64 b3)) (hs_callV (first := []) (cap := [(ptr b 0)]) (vs := [(.int .i64 1)]) TyTB.cb66 rfl rfl i9) (lv rfl rfl (v := (.int .i64 (IntKind.i64.wrap b3))) (hv_convInt TyTB.u29 TyTB.u3 rfl) (lv rfl rfl (vm rfl) ?_))
   obtain ⟨a9, i0, H⟩ := H
   refine lv rfl rfl (v := (.int .u64 a9)) (hs_callV (first := []) (cap := [(ptr b 0)]) (vs := [(.int .i64 2)]) TyTB.cb66 rfl rfl i0) (lv rfl rfl (v := (.int .i64 (IntKind.i64.wrap a9))) (hv_convInt TyTB.u29 TyTB.u3 rfl) (lv rfl rfl (vm rfl) ?_))
   obtain ⟨b4, i8, H⟩ := H
   refine lv rfl rfl (v := (.int .u64 b4)) (hs_callV (first := []) (cap := [(ptr b 0)]) (vs := [(.int .i64 3)]) TyTB.cb66 rfl rfl i8) (lv rfl rfl (v := (.int .u32 (IntKind.u32.wrap b4))) (hv_convInt TyTB.u29 TyTB.u86 rfl) (lv rfl rfl (vm rfl) ?_))
   obtain ⟨b2, g7, H⟩ := H
   refine lv rfl rfl (v := (.int .u64 b2)) (hs_callV (first := []) (cap := [(ptr b 0)]) (vs := [(.int .i64 4)]) TyTB.cb66 rfl rfl g7) (lv rfl rfl (v := (.int .u32 (IntKind.u32.wrap b2))) (hv_convInt TyTB.u29 TyTB.u86 rfl) (lv rfl rfl (v := (.agg #[(.int .i64 (IntKind.i64.wrap b3)), (.int .i64 (IntKind.i64.wrap a9)), (.int .u32 (IntKind.u32.wrap b4)), (.int .u32 (IntKind.u32.wrap b2))])) (vb (vs := [(0, (.int .i64 (IntKind.i64.wrap b3))), (1, (.int .i64 (IntKind.i64.wrap a9))), (2, (.int .u32 (IntKind.u32.wrap b4))), (3, (.int .u32 (IntKind.u32.wrap b2)))]) (cs := #[(.int .i64 (IntKind.i64.wrap b3)), (.int .i64 (IntKind.i64.wrap a9)), (.int .u32 (IntKind.u32.wrap b4)), (.int .u32 (IntKind.u32.wrap b2))]) TyTB.z88 TyTB.pl88 rfl (by kernel_rfl)) ?_))
   refine lp rfl rfl (hn_alloc TyTB.z88 ?_)
   intro f h9 c6 e7
   have d8 := ext_pushed_f11_sh e7
   have i3 := Nat.ne_of_lt (Nat.lt_of_lt_of_eq (row_lt a5) (Eq.symm c6))
   have d2 := Nat.ne_of_lt (Nat.lt_of_lt_of_eq (row_lt b1) (Eq.symm c6))
   have e8 : Array.size h8 ≤ f := Nat.le_of_eq (Eq.symm c6)
   have f4 : h9[f]? = some (.cells #[(.int .i64 0), (.int .i64 0), (.int .u32 0), (.int .u32 0)] 88 (0, 0)) := by rw [e7]; exact push_new c6
   replace a5 := Ext.row d8 a5
   replace b1 := Ext.row d8 b1
   refine lp rfl rfl (hn_stores (vs := [(.int .i64 (IntKind.i64.wrap b3)), (.int .i64 (IntKind.i64.wrap a9)), (.int .u32 (IntKind.u32.wrap b4)), (.int .u32 (IntKind.u32.wrap b2))]) rfl rfl TyTB.sz88 rfl (HWs_row f4 (by simp)) ?_)
   intro c4 c7
   replace a5 := row_hsets_ne c7 i3 a5
   replace b1 := row_hsets_ne c7 d2 b1
   have a7 : c4[f]? = some (.cells #[(.int .i64 (IntKind.i64.wrap b3)), (.int .i64 (IntKind.i64.wrap a9)), (.int .u32 (IntKind.u32.wrap b4)), (.int .u32 (IntKind.u32.wrap b2))] 88 (0, 0)) := row_hsets_eq c7 f4 rfl
   have g8 := ext_hsets c7 d8 e8
   refine ln (qn (xs (xr ?_)))
   refine lv rfl rfl (vL (vs := [(.int .i64 a6), (.int .i64 a4), (.int .i64 a0), (.int .i64 a3)]) TyTB.agg24 TyTB.sz24 rfl (cc (rc a5 rfl) (cc (rc a5 rfl) (cc (rc a5 rfl) (cc (rc a5 rfl) cn))))) (lv rfl rfl (vL (vs := [(.int .i64 (IntKind.i64.wrap b3)), (.int .i64 (IntKind.i64.wrap a9)), (.int .u32 (IntKind.u32.wrap b4)), (.int .u32 (IntKind.u32.wrap b2))]) TyTB.agg88 TyTB.sz88 rfl (cc (rc a7 rfl) (cc (rc a7 rfl) (cc (rc a7 rfl) (cc (rc a7 rfl) cn))))) ?_)
   replace H := H f c4 e8 (row_lt a7) g8
   refine lp rfl rfl (sc TyTB.cb67 rfl (HC.mono H ?_))
   rintro _ c3 ⟨f1, b9, b8, c0, b6, rfl, H⟩
   replace b1 := Kp.row f1 (by simp) b1
   replace a7 := Kp.row f1 (by simp) a7
   refine lv rfl rfl (vm rfl) (lv rfl rfl (vx rfl rfl) (lv rfl rfl (vx rfl rfl) (lv rfl rfl (va rfl) (lv rfl rfl (va rfl) ?_))))
   refine ln (qn (xs ?_))
   obtain ⟨j, d7, d5⟩ := H
   refine xk (fun ρ h' => c3 = h' ∧ Has ρ [(4, (ptr pb 0)), (12, (ptr f 0)), (73, (.bool j))]) ?_ ?_
   ·have H := d7; clear d7 d5
    refine hx_draw TyTB.mixed [.pure, .pure, .pure, .pure, .read, .read, .pure, .pure, .pure, .pure, .pure, .read, .pure, .read, .pure, .read, .pure, .pure] [0, 1, 2, 3, 4, 5, 6, 7, 8, 9, 10, 11, 12, 13, 14, 15, 16, 17] (by kernel_rfl) ?_
    refine pp (i := 0) rfl (wanted_0 rfl) rfl (.int .i64 b6) (fun _ => vm rfl) ?_
    refine pp (i := 1) rfl (wanted_0 rfl) rfl (.bool (b6 != 0)) (fun _ => vr rfl rfl rfl) ?_
    refine pp (i := 2) rfl (wanted_0 rfl) rfl (.bool (b6 != 0)) (fun _ => vm rfl) ?_
    rcases bool_or (b6 != 0) with b5 | b5
    ·replace H := H.1 b5
     refine pn (i := 3) rfl (wanted_n rfl rfl rfl b5) ?_
     refine pn (i := 4) rfl (wanted_n rfl rfl rfl b5) ?_
     refine pn (i := 5) rfl (wanted_n rfl rfl rfl b5) ?_
     refine pn (i := 6) rfl (wanted_n rfl rfl rfl b5) ?_
     refine pp (i := 7) rfl (wanted_0 rfl) rfl (.bool true) (fun _ => hv_pick_t rfl b5 rfl) ?_
     refine pp (i := 8) rfl (wanted_0 rfl) rfl (.bool true) (fun _ => vm rfl) ?_
     refine pn (i := 9) rfl (wanted_n rfl rfl (c := true) rfl rfl) ?_
     refine pn (i := 10) rfl (wanted_n rfl rfl (c := true) rfl rfl) ?_
     refine pn (i := 11) rfl (wanted_n rfl rfl (c := true) rfl rfl) ?_
     refine pn (i := 12) rfl (wanted_n rfl rfl (c := true) rfl rfl) ?_
     refine pn (i := 13) rfl (wanted_n rfl rfl (c := true) rfl rfl) ?_
     refine pn (i := 14) rfl (wanted_n rfl rfl (c := true) rfl rfl) ?_
     refine pn (i := 15) rfl (wanted_n rfl rfl (c := true) rfl rfl) ?_
     refine pn (i := 16) rfl (wanted_n rfl rfl (c := true) rfl rfl) ?_
     refine pp (i := 17) rfl (wanted_0 rfl) rfl (.bool true) (fun _ => hv_pick (t := true) rfl rfl) ?_
     refine hp_nil ?_
     refine qn ?_
     obtain rfl := H
     exact ⟨rfl, (hc rfl (hc rfl (hc rfl hn)))⟩
    ·replace H := H.2 b5
     refine pp (i := 3) rfl (wanted_y rfl rfl rfl b5) rfl (.slice b9 b8 c0) (fun _ => vm rfl) ?_
     obtain ⟨x, d1, d0, i7, H⟩ := H
     refine pr (i := 4) rfl (wanted_y rfl rfl rfl b5) rfl (.slice x d1 d0) (fun _ he => vl TyTB.agg25 rfl (Ext.cell he i7)) ?_
     obtain ⟨c1, g9, H⟩ := H
     refine pr (i := 5) rfl (wanted_y rfl rfl rfl b5) rfl (.bool c1) (fun _ he => hv_call TyTB.cb62 (vs := [(.slice b9 b8 c0), (.slice x d1 d0)]) rfl (g9 _ he)) ?_
     refine pp (i := 6) rfl (wanted_y rfl rfl rfl b5) rfl (.bool (!c1)) (fun _ => hv_not (b := c1) rfl) ?_
     refine pp (i := 7) rfl (wanted_0 rfl) rfl (.bool (!c1)) (fun _ => hv_pick_f rfl b5 rfl) ?_
     refine pp (i := 8) rfl (wanted_0 rfl) rfl (.bool (!c1)) (fun _ => vm rfl) ?_
     rcases bool_or (!c1) with a8 | a8
     ·replace H := H.1 a8
      refine pn (i := 9) rfl (wanted_n rfl rfl rfl a8) ?_
      refine pn (i := 10) rfl (wanted_n rfl rfl rfl a8) ?_
      refine pn (i := 11) rfl (wanted_n rfl rfl rfl a8) ?_
      refine pn (i := 12) rfl (wanted_n rfl rfl rfl a8) ?_
      refine pn (i := 13) rfl (wanted_n rfl rfl rfl a8) ?_
      refine pn (i := 14) rfl (wanted_n rfl rfl rfl a8) ?_
      refine pn (i := 15) rfl (wanted_n rfl rfl rfl a8) ?_
      refine pn (i := 16) rfl (wanted_n rfl rfl rfl a8) ?_
      refine pp (i := 17) rfl (wanted_0 rfl) rfl (.bool true) (fun _ => hv_pick_t rfl a8 rfl) ?_
      refine hp_nil ?_
      refine qn ?_
      obtain rfl := H
      exact ⟨rfl, (hc rfl (hc rfl (hc rfl hn)))⟩
     ·replace H := H.2 a8
      refine pp (i := 9) rfl (wanted_y rfl rfl rfl a8) rfl (.slice b7 a2 a1) (fun _ => vm rfl) ?_
      refine pp (i := 10) rfl (wanted_y rfl rfl rfl a8) rfl (ptr f 1) (fun _ => vf TyTB.fld88_1 (b := f) (o := 0) rfl) ?_
      refine pr (i := 11) rfl (wanted_y rfl rfl rfl a8) rfl (.int .i64 (IntKind.i64.wrap a9)) (fun _ he => vl TyTB.agg3 rfl (Ext.cell he (rc a7 rfl))) ?_
      obtain ⟨i1, g2, i2, H⟩ := H
      obtain ⟨c2, hq52⟩ : ∃ q, q = slA b7 (Int.toNat 0) 1 a1 := ⟨_, rfl⟩
      replace H := H c2 hq52
      refine pp (i := 12) rfl (wanted_y rfl rfl rfl a8) rfl (.slice c2 (Int.toNat (IntKind.i64.wrap a9) - Int.toNat 0) (a1 - Int.toNat 0)) (fun _ => hv_slice (l := 0) (r := IntKind.i64.wrap a9) TyTB.u25 TyTB.sz5 rfl sl_none (sh_some rfl) i1 g2 i2 hq52) ?_
      obtain ⟨c5, i5, H⟩ := H
      refine pr (i := 13) rfl (wanted_y rfl rfl rfl a8) rfl (.int .u32 c5) (fun _ he => hv_call TyTB.cb68 (vs := [(.slice c2 (Int.toNat (IntKind.i64.wrap a9) - Int.toNat 0) (a1 - Int.toNat 0))]) rfl (i5 _ he)) ?_
      refine pp (i := 14) rfl (wanted_y rfl rfl rfl a8) rfl (ptr f 3) (fun _ => vf TyTB.fld88_3 (b := f) (o := 0) rfl) ?_
      refine pr (i := 15) rfl (wanted_y rfl rfl rfl a8) rfl (.int .u32 (IntKind.u32.wrap b2)) (fun _ he => vl TyTB.agg86 rfl (Ext.cell he (rc a7 rfl))) ?_
      refine pp (i := 16) rfl (wanted_y rfl rfl rfl a8) rfl (.bool (c5 != (IntKind.u32.wrap b2))) (fun _ => vr rfl rfl rfl) ?_
      refine pp (i := 17) rfl (wanted_0 rfl) rfl (.bool (c5 != (IntKind.u32.wrap b2))) (fun _ => hv_pick_f rfl a8 rfl) ?_
      refine hp_nil ?_
      refine qn ?_
      obtain rfl := H
      exact ⟨rfl, (hc rfl (hc rfl (hc rfl hn)))⟩
   ·have H := d5; clear d7 d5
    rintro ρ _ ⟨rfl, hH⟩
    refine xh _ hH ?_
    refine xc (b := j) rfl (fun e2 => ?_) (fun e2 => ?_)
    ·replace H := H.1 e2
     refine xs (xr ?_)
     refine lv rfl rfl (v := (.agg #[(.int .i64 0), (.int .i64 0), (.int .u32 0), (.int .u32 0)])) (vb (vs := []) (cs := #[(.int .i64 0), (.int .i64 0), (.int .u32 0), (.int .u32 0)]) TyTB.z88 TyTB.pl88 rfl (by kernel_rfl)) ?_
     refine lp rfl rfl (hn_stores (vs := [(.int .i64 0), (.int .i64 0), (.int .u32 0), (.int .u32 0)]) rfl rfl TyTB.sz88 rfl (HWs_row b1 (by simp)) ?_)
     intro c9 e0
     replace a7 := row_hsets_ne e0 (Ne.symm d2) a7
     have b0 : c9[pb]? = some (.cells #[(.int .i64 0), (.int .i64 0), (.int .u32 0), (.int .u32 0)] 88 (0, 0)) := row_hsets_eq e0 b1 rfl
     replace H := H c9 (fr_hsets_of e0)
     refine lv rfl rfl (va rfl) ?_
     refine ln (qn (xt (qr ?_)))
     exact endQ_ret _ (res_two Tryd.results35 (rv_cell (vs := [(.int .i64 0), (.int .i64 0), (.int .u32 0), (.int .u32 0)]) TyTB.agg88 TyTB.sz88 rfl (cc (rc b0 rfl) (cc (rc b0 rfl) (cc (rc b0 rfl) (cc (rc b0 rfl) cn))))) (rv_tmp rfl)) H
    ·replace H := H.2 e2
     refine xi (qn (xs (xr ?_)))
     refine lv rfl rfl (vL (vs := [(.int .i64 (IntKind.i64.wrap b3)), (.int .i64 (IntKind.i64.wrap a9)), (.int .u32 (IntKind.u32.wrap b4)), (.int .u32 (IntKind.u32.wrap b2))]) TyTB.agg88 TyTB.sz88 rfl (cc (rc a7 rfl) (cc (rc a7 rfl) (cc (rc a7 rfl) (cc (rc a7 rfl) cn))))) ?_
     refine lp rfl rfl (hn_stores (vs := [(.int .i64 (IntKind.i64.wrap b3)), (.int .i64 (IntKind.i64.wrap a9)), (.int .u32 (IntKind.u32.wrap b4)), (.int .u32 (IntKind.u32.wrap b2))]) rfl rfl TyTB.sz88 rfl (HWs_row b1 (by simp)) ?_)
     intro c8 d4
     replace a7 := row_hsets_ne d4 (Ne.symm d2) a7
     have b0 : c8[pb]? = some (.cells #[(.int .i64 (IntKind.i64.wrap b3)), (.int .i64 (IntKind.i64.wrap a9)), (.int .u32 (IntKind.u32.wrap b4)), (.int .u32 (IntKind.u32.wrap b2))] 88 (0, 0)) := row_hsets_eq d4 b1 rfl
     replace H := H c8 (fr_hsets_of d4)
     refine lv rfl rfl (va rfl) ?_
     refine ln (qn (xt ?_))
     exact endQ_ret _ (res_two Tryd.results35 (rv_cell (vs := [(.int .i64 (IntKind.i64.wrap b3)), (.int .i64 (IntKind.i64.wrap a9)), (.int .u32 (IntKind.u32.wrap b4)), (.int .u32 (IntKind.u32.wrap b2))]) TyTB.agg88 TyTB.sz88 rfl (cc (rc b0 rfl) (cc (rc b0 rfl) (cc (rc b0 rfl) (cc (rc b0 rfl) cn))))) (rv_tmp rfl)) H
theorem f46_sh (a9 : Int) (a5 : Int) (a3 : Int) (a4 : Int) (b9 : Int) (a0 : Int) (b0 : Int) (a6 : ByteArray) (a1 : ByteArray) (h : Heap) (R : Value → Heap → Prop)
  (H : (∀ (g : Nat) (r : Nat) (h2 : Heap), Array.size h ≤ g → g < Array.size h2 → Array.size h ≤ r → r < Array.size h2 → Ext h h2 → HC Tryd.prog 16 #[(.agg #[(.int .i64 a9), (.int .i64 a5), (.int .i64 a3), (.int .i64 a4)])] h2 (fun vv h3 => Ext h2 h3 ∧ ∃ b8 : Int, vv = (.int .i64 b8) ∧ (((b8 != 0) = true → R (.tuple #[(.slice none 0 0), (.int .i64 b8)]) h3) ∧ ((b8 != 0) = false → (((bif a0 != 1 then (a0 != 2) || ((a0 == 2) && (decide ((a1.size : Int) > 0))) else (a0 == 2) && (decide ((a1.size : Int) > 0))) = true → R (.tuple #[(.slice none 0 0), (.int .i64 52)]) h3) ∧ ((bif a0 != 1 then (a0 != 2) || ((a0 == 2) && (decide ((a1.size : Int) > 0))) else (a0 == 2) && (decide ((a1.size : Int) > 0))) = false → HC Tryd.prog 73 #[(.agg #[(.int .i64 a9), (.int .i64 a5), (.int .i64 a3), (.int .i64 a4)]), (.int .i64 (a6.size : Int)), (.int .i64 (a1.size : Int))] h3 (fun vv h4 => Ext h3 h4 ∧ ∃ r0 r1 : Int, vv = (.tuple #[(.int .i64 r0), (.int .i64 r1)]) ∧ (((r1 != 0) = true → R (.tuple #[(.slice none 0 0), (.int .i64 r1)]) h4) ∧ ((r1 != 0) = false → (∀ nb h5, nb = Array.size h4 → h5 = Array.push h4 (.cells #[(.int .u8 (IntKind.u8.wrap a0)), (.int .u8 0)] 5) → (∃ d5 : Heap → Heap → Prop, Fit d5 ∧ ((∀ hx, d5 h5 hx → Kp [r] h5 hx) ∧ ((∀ hx, d5 h5 hx → Kp [r] h5 hx) ∧ HC Tryd.prog 43 #[(.slice (some ⟨nb, 0, none⟩) 2 2), (.int .u64 (IntKind.u64.wrap (a6.size : Int))), (.int .i64 2)] h5 (fun vv h6 => d5 h5 h6 ∧ Kp [r] h5 h6 ∧ ∃ f4 : Option Addr, ∃ f3 f8 : Nat, vv = (.slice f4 f3 f8) ∧ HC Tryd.prog 43 #[(.slice f4 f3 f8), (.int .u64 (IntKind.u64.wrap (a1.size : Int))), (.int .i64 4)] h6 (fun vv h7 => d5 h6 h7 ∧ Kp [r] h6 h7 ∧ ∃ f7 : Option Addr, ∃ c8 c6 : Nat, vv = (.slice f7 c8 c6) ∧ HC Tryd.prog 43 #[(.slice f7 c8 c6), (.int .u64 b0), (.int .i64 8)] h7 (fun vv h8 => Kp [r] h7 h8 ∧ ∃ f6 : Option Addr, ∃ c7 c9 : Nat, vv = (.slice f6 c7 c9) ∧ HC Tryd.prog 43 #[(.slice f6 c7 c9), (.int .u64 (IntKind.u64.wrap b9)), (.int .i64 4)] h8 (fun vv h9 => Kp [r] h8 h9 ∧ ∃ c5 : Option Addr, ∃ b5 b3 : Nat, vv = (.slice c5 b5 b3) ∧ (∃ d4 : Heap → Heap → Prop, Fit d4 ∧ ((∀ hx, d4 h9 hx → Kp [r] h9 hx) ∧ ((∀ hx, d4 h9 hx → Kp [r] h9 hx) ∧ (∀ e2 d2, e2 = Array.size h9 → d2 = Array.push h9 (.cells #[] 5) → HAppend Tryd.prog 25 25 (.slice (some ⟨e2, 0, none⟩) 0 0) (.slice c5 b5 b3) d2 (fun vv d8 => d4 d2 d8 ∧ Kp [r] d2 d8 ∧ ∃ ap : Option Addr, ∃ f2 e6 : Nat, vv = (.slice ap f2 e6) ∧ HAppend Tryd.prog 25 9 (.slice ap f2 e6) (.string a6) d8 (fun vv e3 => d4 d8 e3 ∧ Kp [r] d8 e3 ∧ ∃ e9 : Option Addr, ∃ d0 d7 : Nat, vv = (.slice e9 d0 d7) ∧ HAppend Tryd.prog 25 9 (.slice e9 d0 d7) (.string a1) e3 (fun vv e0 => Kp [r] e3 e0 ∧ ∃ c4 : Option Addr, ∃ b7 b6 : Nat, vv = (.slice c4 b7 b6) ∧ (∃ d9 : Int, HC Tryd.prog 44 #[(.slice c4 b7 b6)] e0 (fun vv h' => vv = (.int .u32 d9) ∧ h' = e0) ∧ HC Tryd.prog 43 #[(.slice c5 b5 b3), (.int .u64 (IntKind.u64.wrap d9)), (.int .i64 4)] e0 (fun vv d3 => Kp [r] e0 d3 ∧ ∃ e5 : Option Addr, ∃ c0 c2 : Nat, vv = (.slice e5 c0 c2) ∧ (∃ e4 : Heap → Heap → Prop, Fit e4 ∧ ((∀ hx, e4 d3 hx → Kp [r] d3 hx) ∧ HAppend Tryd.prog 25 9 (.slice e5 c0 c2) (.string a6) d3 (fun vv f5 => e4 d3 f5 ∧ Kp [r] d3 f5 ∧ ∃ f0 : Option Addr, ∃ d1 d6 : Nat, vv = (.slice f0 d1 d6) ∧ HAppend Tryd.prog 25 9 (.slice f0 d1 d6) (.string a1) f5 (fun vv g5 => ∃ e1 : Option Addr, ∃ c1 c3 : Nat, vv = (.slice e1 c1 c3) ∧ R (.tuple #[(.slice e1 c1 c3), (.int .i64 0)]) g5))))))))))))))))))))))))))))))) :
  HC Tryd.prog 46 #[(.agg #[(.int .i64 a9), (.int .i64 a5), (.int .i64 a3), (.int .i64 a4)]), (.int .u32 b9), (.agg #[(.int .i64 a0), (.int .u64 b0), (.string a6), (.string a1)])] h R := by
 refine hc_of (args := [(.agg #[(.int .i64 a9), (.int .i64 a5), (.int .i64 a3), (.int .i64 a4)]), (.int .u32 b9), (.agg #[(.int .i64 a0), (.int .u64 b0), (.string a6), (.string a1)])]) Tryd.func46 rfl Tryd.ntmps46 (Nat.le_of_ble_eq_true rfl) ?_
 refine xs (xr ?_)
 refine lp rfl rfl (hn_box (v := (.agg #[(.int .i64 a9), (.int .i64 a5), (.int .i64 a3), (.int .i64 a4)])) rfl ?_)
 intro g h1 g6 g7
 have g8 := ext_pushed_f11_sh g7
 have k9 : Array.size h ≤ g := Nat.le_of_eq (Eq.symm g6)
 have b4 : h1[g]? = some (.cells #[(.int .i64 a9), (.int .i64 a5), (.int .i64 a3), (.int .i64 a4)] 24 (0, 0)) := by rw [g7]; exact push_new g6
 refine lp rfl rfl (hn_box (v := (.agg #[(.int .i64 a0), (.int .u64 b0), (.string a6), (.string a1)])) rfl ?_)
 intro r h2 g3 g9
 have g4 := ext_pushed_f11_sh g9
 have l0 := Nat.ne_of_lt (Nat.lt_of_lt_of_eq (row_lt b4) (Eq.symm g3))
 have i3 : Array.size h ≤ r := Nat.le_trans (Ext.size g8) (Nat.le_of_eq (Eq.symm g3))
 have a2 : h2[r]? = some (.cells #[(.int .i64 a0), (.int .u64 b0), (.string a6), (.string a1)] 43 (0, 0)) := by rw [g9]; exact push_new g3
 replace b4 := Ext.row g4 b4
 have j9 := Ext.trans g8 g4
 refine lv rfl rfl (va rfl) (lv rfl rfl (va rfl) ?_)
 refine ln (qn (xs (xs (xr ?_))))
 refine lv rfl rfl (vL (vs := [(.int .i64 a9), (.int .i64 a5), (.int .i64 a3), (.int .i64 a4)]) TyTB.agg24 TyTB.sz24 rfl (cc (rc b4 rfl) (cc (rc b4 rfl) (cc (rc b4 rfl) (cc (rc b4 rfl) cn))))) ?_
 replace H := H g r h2 k9 (row_lt b4) i3 (row_lt a2) j9
 refine lp rfl rfl (sc TyTB.cb16 rfl (HC.mono H ?_))
 rintro _ h3 ⟨g0, b8, rfl, H⟩
 replace b4 := Ext.row g0 b4
 replace a2 := Ext.row g0 a2
 refine lv rfl rfl (va rfl) ?_
 refine ln (qn (xs (xr ?_)))
 refine lv rfl rfl (vm rfl) (lv rfl rfl (vr rfl rfl rfl) ?_)
 refine ln (qn ?_)
 refine xc (b := b8 != 0) rfl (fun e8 => ?_) (fun e8 => ?_)
 ·replace H := H.1 e8
  refine xs (xr ?_)
  refine lv rfl rfl (vm rfl) (lv rfl rfl (va rfl) (lv rfl rfl (va rfl) ?_))
  refine ln (qn (xt (qr ?_)))
  exact endQ_ret _ (res_two Tryd.results46 (rv_tmp rfl) (rv_tmp rfl)) H
 ·replace H := H.2 e8
  refine xi (qn (xs ?_))
  refine xk (fun ρ h' => h3 = h' ∧ Has ρ [(1, (.int .u32 b9)), (3, (ptr g 0)), (5, (ptr r 0)), (36, (.bool (bif a0 != 1 then (a0 != 2) || ((a0 == 2) && (decide ((a1.size : Int) > 0))) else (a0 == 2) && (decide ((a1.size : Int) > 0)))))]) ?_ ?_
  ·refine xr ?_
   refine lv rfl rfl (v := (ptr r 0)) (vf TyTB.fld43_0 (b := r) (o := 0) rfl) (lv rfl rfl (vl TyTB.agg3 rfl (rc a2 rfl)) (lv rfl rfl (vr rfl rfl rfl) (lv rfl rfl (vm rfl) ?_)))
   rcases bool_or (a0 != 1) with a8 | a8
   ·refine ly (wanted_y rfl rfl rfl a8) rfl (HStep.of_val (v := (ptr r 0)) (vf TyTB.fld43_0 (b := r) (o := 0) rfl) ?_)
    refine ly (wanted_y rfl rfl rfl a8) rfl (HStep.of_val (v := (.int .i64 a0)) (vl TyTB.agg3 rfl (rc a2 rfl)) ?_)
    refine ly (wanted_y rfl rfl rfl a8) rfl (HStep.of_val (v := (.bool (a0 != 2))) (vr rfl rfl rfl) ?_)
    refine lv rfl rfl (v := (.bool (a0 != 2))) (hv_pick_t rfl a8 rfl) (lv rfl rfl (vm rfl) ?_)
    rcases bool_or (a0 != 2) with a7 | a7
    ·refine lo (wanted_n rfl rfl rfl a7) rfl ?_
     refine lo (wanted_n rfl rfl rfl a7) rfl ?_
     refine lo (wanted_n rfl rfl rfl a7) rfl ?_
     refine lo (wanted_n rfl rfl rfl a7) rfl ?_
     refine lo (wanted_u rfl rfl rfl) rfl ?_
     refine lo (wanted_u rfl rfl rfl) rfl ?_
     refine lo (wanted_u rfl rfl rfl) rfl ?_
     refine lo (wanted_u rfl rfl rfl) rfl ?_
     refine lo (wanted_n rfl rfl rfl a7) rfl ?_
     refine lv rfl rfl (v := (.bool true)) (hv_pick_t rfl a7 rfl) ?_
     refine ln (qn ?_)
     exact ⟨rfl, (hc rfl (hc rfl (hc rfl (hc (show ((.bool true) : Value) = (.bool (bif a0 != 1 then (a0 != 2) || ((a0 == 2) && (decide ((a1.size : Int) > 0))) else (a0 == 2) && (decide ((a1.size : Int) > 0)))) from (by first | rfl | ((try rw [a8]); (try rw [a7]); all_goals first | rfl | (simp only [Bool.true_or, Bool.or_true, Bool.false_or, Bool.or_false, Bool.true_and, Bool.and_true, Bool.false_and, Bool.and_false, Bool.not_true, Bool.not_false, Bool.cond_true, Bool.cond_false]; done)) | simp [a8, a7])) hn))))⟩
    ·refine ly (wanted_y rfl rfl rfl a7) rfl (HStep.of_val (v := (ptr r 0)) (vf TyTB.fld43_0 (b := r) (o := 0) rfl) ?_)
     refine ly (wanted_y rfl rfl rfl a7) rfl (HStep.of_val (v := (.int .i64 a0)) (vl TyTB.agg3 rfl (rc a2 rfl)) ?_)
     refine ly (wanted_y rfl rfl rfl a7) rfl (HStep.of_val (v := (.bool (a0 == 2))) (vr rfl rfl rfl) ?_)
     refine ly (wanted_y rfl rfl rfl a7) rfl (HStep.of_val (v := (.bool (a0 == 2))) (vm rfl) ?_)
     rcases bool_or (a0 == 2) with b2 | b2
     ·refine ly (wanted_y rfl rfl rfl b2) rfl (HStep.of_val (v := (ptr r 3)) (vf TyTB.fld43_3 (b := r) (o := 0) rfl) ?_)
      refine ly (wanted_y rfl rfl rfl b2) rfl (HStep.of_val (v := (.string a1)) (vl TyTB.agg9 rfl (rc a2 rfl)) ?_)
      refine ly (wanted_y rfl rfl rfl b2) rfl (HStep.of_val (v := (.int .i64 (a1.size : Int))) (hv_lenStr TyTB.u9 rfl) ?_)
      refine ly (wanted_y rfl rfl rfl b2) rfl (HStep.of_val (v := (.bool (decide ((a1.size : Int) > 0)))) (vr rfl rfl rfl) ?_)
      refine ly (wanted_y rfl rfl rfl a7) rfl (HStep.of_val (v := (.bool (decide ((a1.size : Int) > 0)))) (hv_pick_t rfl b2 rfl) ?_)
      refine lv rfl rfl (v := (.bool (decide ((a1.size : Int) > 0)))) (hv_pick_f rfl a7 rfl) ?_
      refine ln (qn ?_)
      exact ⟨rfl, (hc rfl (hc rfl (hc rfl (hc (show ((.bool (decide ((a1.size : Int) > 0))) : Value) = (.bool (bif a0 != 1 then (a0 != 2) || ((a0 == 2) && (decide ((a1.size : Int) > 0))) else (a0 == 2) && (decide ((a1.size : Int) > 0)))) from (by first | rfl | ((try rw [a8]); (try rw [a7]); (try rw [b2]); all_goals first | rfl | (simp only [Bool.true_or, Bool.or_true, Bool.false_or, Bool.or_false, Bool.true_and, Bool.and_true, Bool.false_and, Bool.and_false, Bool.not_true, Bool.not_false, Bool.cond_true, Bool.cond_false]; done)) | simp [a8, a7, b2])) hn))))⟩
     ·refine lo (wanted_n rfl rfl rfl b2) rfl ?_
      refine lo (wanted_n rfl rfl rfl b2) rfl ?_
      refine lo (wanted_n rfl rfl rfl b2) rfl ?_
      refine lo (wanted_n rfl rfl rfl b2) rfl ?_
      refine ly (wanted_y rfl rfl rfl a7) rfl (HStep.of_val (v := (.bool false)) (hv_pick_f rfl b2 rfl) ?_)
      refine lv rfl rfl (v := (.bool false)) (hv_pick_f rfl a7 rfl) ?_
      refine ln (qn ?_)
      exact ⟨rfl, (hc rfl (hc rfl (hc rfl (hc (show ((.bool false) : Value) = (.bool (bif a0 != 1 then (a0 != 2) || ((a0 == 2) && (decide ((a1.size : Int) > 0))) else (a0 == 2) && (decide ((a1.size : Int) > 0)))) from (by first | rfl | ((try rw [a8]); (try rw [a7]); (try rw [b2]); all_goals first | rfl | (simp only [Bool.true_or, Bool.or_true, Bool.false_or, Bool.or_false, Bool.true_and, Bool.and_true, Bool.false_and, Bool.and_false, Bool.not_true, Bool.not_false, Bool.cond_true, Bool.cond_false]; done)) | simp [a8, a7, b2])) hn))))⟩
   ·refine lo (wanted_n rfl rfl rfl a8) rfl ?_
    refine lo (wanted_n rfl rfl rfl a8) rfl ?_
    refine lo (wanted_n rfl rfl rfl a8) rfl ?_
    refine lv rfl rfl (v := (.bool false)) (hv_pick_f rfl a8 rfl) (lv rfl rfl (vm rfl) ?_)
    refine ly (wanted_y rfl rfl (c := false) rfl rfl) rfl (HStep.of_val (v := (ptr r 0)) (vf TyTB.fld43_0 (b := r) (o := 0) rfl) ?_)
    refine ly (wanted_y rfl rfl (c := false) rfl rfl) rfl (HStep.of_val (v := (.int .i64 a0)) (vl TyTB.agg3 rfl (rc a2 rfl)) ?_)
    refine ly (wanted_y rfl rfl (c := false) rfl rfl) rfl (HStep.of_val (v := (.bool (a0 == 2))) (vr rfl rfl rfl) ?_)
    refine ly (wanted_y rfl rfl (c := false) rfl rfl) rfl (HStep.of_val (v := (.bool (a0 == 2))) (vm rfl) ?_)
    rcases bool_or (a0 == 2) with b1 | b1
    ·refine ly (wanted_y rfl rfl rfl b1) rfl (HStep.of_val (v := (ptr r 3)) (vf TyTB.fld43_3 (b := r) (o := 0) rfl) ?_)
     refine ly (wanted_y rfl rfl rfl b1) rfl (HStep.of_val (v := (.string a1)) (vl TyTB.agg9 rfl (rc a2 rfl)) ?_)
     refine ly (wanted_y rfl rfl rfl b1) rfl (HStep.of_val (v := (.int .i64 (a1.size : Int))) (hv_lenStr TyTB.u9 rfl) ?_)
     refine ly (wanted_y rfl rfl rfl b1) rfl (HStep.of_val (v := (.bool (decide ((a1.size : Int) > 0)))) (vr rfl rfl rfl) ?_)
     refine ly (wanted_y rfl rfl (c := false) rfl rfl) rfl (HStep.of_val (v := (.bool (decide ((a1.size : Int) > 0)))) (hv_pick_t rfl b1 rfl) ?_)
     refine lv rfl rfl (v := (.bool (decide ((a1.size : Int) > 0)))) (hv_pick (t := false) rfl rfl) ?_
     refine ln (qn ?_)
     exact ⟨rfl, (hc rfl (hc rfl (hc rfl (hc (show ((.bool (decide ((a1.size : Int) > 0))) : Value) = (.bool (bif a0 != 1 then (a0 != 2) || ((a0 == 2) && (decide ((a1.size : Int) > 0))) else (a0 == 2) && (decide ((a1.size : Int) > 0)))) from (by first | rfl | ((try rw [a8]); (try rw [b1]); all_goals first | rfl | (simp only [Bool.true_or, Bool.or_true, Bool.false_or, Bool.or_false, Bool.true_and, Bool.and_true, Bool.false_and, Bool.and_false, Bool.not_true, Bool.not_false, Bool.cond_true, Bool.cond_false]; done)) | simp [a8, b1])) hn))))⟩
    ·refine lo (wanted_n rfl rfl rfl b1) rfl ?_
     refine lo (wanted_n rfl rfl rfl b1) rfl ?_
     refine lo (wanted_n rfl rfl rfl b1) rfl ?_
     refine lo (wanted_n rfl rfl rfl b1) rfl ?_
     refine ly (wanted_y rfl rfl (c := false) rfl rfl) rfl (HStep.of_val (v := (.bool false)) (hv_pick_f rfl b1 rfl) ?_)
     refine lv rfl rfl (v := (.bool false)) (hv_pick (t := false) rfl rfl) ?_
     refine ln (qn ?_)
     exact ⟨rfl, (hc rfl (hc rfl (hc rfl (hc (show ((.bool false) : Value) = (.bool (bif a0 != 1 then (a0 != 2) || ((a0 == 2) && (decide ((a1.size : Int) > 0))) else (a0 == 2) && (decide ((a1.size : Int) > 0)))) from (by first | rfl | ((try rw [a8]); (try rw [b1]); all_goals first | rfl | (simp only [Bool.true_or, Bool.or_true, Bool.false_or, Bool.or_false, Bool.true_and, Bool.and_true, Bool.false_and, Bool.and_false, Bool.not_true, Bool.not_false, Bool.cond_true, Bool.cond_false]; done)) | simp [a8, b1])) hn))))⟩
  ·rintro ρ _ ⟨rfl, hH⟩
   refine xh _ hH ?_
   refine xc (b := (bif a0 != 1 then (a0 != 2) || ((a0 == 2) && (decide ((a1.size : Int) > 0))) else (a0 == 2) && (decide ((a1.size : Int) > 0)))) rfl (fun e7 => ?_) (fun e7 => ?_)
   ·replace H := H.1 e7
    refine xs (xr ?_)
    refine lv rfl rfl (va rfl) (lv rfl rfl (va rfl) ?_)
    refine ln (qn (xt (qr ?_)))
    exact endQ_ret _ (res_two Tryd.results46 (rv_tmp rfl) (rv_tmp rfl)) H
   ·replace H := H.2 e7
    refine xi (qn (xs (xs (xr ?_))))
    refine lv rfl rfl (vL (vs := [(.int .i64 a9), (.int .i64 a5), (.int .i64 a3), (.int .i64 a4)]) TyTB.agg24 TyTB.sz24 rfl (cc (rc b4 rfl) (cc (rc b4 rfl) (cc (rc b4 rfl) (cc (rc b4 rfl) cn))))) (lv rfl rfl (v := (ptr r 2)) (vf TyTB.fld43_2 (b := r) (o := 0) rfl) (lv rfl rfl (vl TyTB.agg9 rfl (rc a2 rfl)) (lv rfl rfl (v := (.int .i64 (a6.size : Int))) (hv_lenStr TyTB.u9 rfl) (lv rfl rfl (v := (ptr r 3)) (vf TyTB.fld43_3 (b := r) (o := 0) rfl) (lv rfl rfl (vl TyTB.agg9 rfl (rc a2 rfl)) ?_)))))
    refine lv rfl rfl (v := (.int .i64 (a1.size : Int))) (hv_lenStr TyTB.u9 rfl) ?_
    refine lp rfl rfl (sc TyTB.cb73 rfl (HC.mono H ?_))
    rintro _ h4 ⟨i6, r0, r1, rfl, H⟩
    replace a2 := Ext.row i6 a2
    refine lv rfl rfl (vm rfl) (lv rfl rfl (vx rfl rfl) (lv rfl rfl (vx rfl rfl) (lv rfl rfl (va rfl) (lv rfl rfl (va rfl) ?_))))
    refine ln (qn (xs (xr ?_)))
    refine lv rfl rfl (vm rfl) (lv rfl rfl (vr rfl rfl rfl) ?_)
    refine ln (qn ?_)
    refine xc (b := r1 != 0) rfl (fun f1 => ?_) (fun f1 => ?_)
    ·replace H := H.1 f1
     refine xs (xr ?_)
     refine lv rfl rfl (vm rfl) (lv rfl rfl (va rfl) (lv rfl rfl (va rfl) ?_))
     refine ln (qn (xt (qr ?_)))
     exact endQ_ret _ (res_two Tryd.results46 (rv_tmp rfl) (rv_tmp rfl)) H
    ·replace H := H.2 f1
     refine xi (qn (xs (xr ?_)))
     refine lv rfl rfl (v := (ptr r 0)) (vf TyTB.fld43_0 (b := r) (o := 0) rfl) (lv rfl rfl (vl TyTB.agg3 rfl (rc a2 rfl)) (lv rfl rfl (v := (.int .u8 (IntKind.u8.wrap a0))) (hv_convInt TyTB.u3 TyTB.u5 rfl) ?_))
     refine lp rfl rfl (hn_buildSlice (n := 2) (vs := [(0, (.int .u8 (IntKind.u8.wrap a0))), (1, (.int .u8 0))]) (cs := #[(.int .u8 (IntKind.u8.wrap a0)), (.int .u8 0)]) TyTB.u25 TyTB.sz5 TyTB.z5 rfl rfl (by kernel_rfl) ?_)
     intro nb h5 i0 g1
     replace H := H nb h5 i0 g1
     have k6 := ext_pushed_f11_sh g1
     replace a2 := Ext.row k6 a2
     refine lv rfl rfl (va rfl) ?_
     refine ln (qn (xs ?_))
     obtain ⟨d5, i2, H⟩ := H
     refine hx_drawT TyTB.mixed d5 i2 [.pure, .pure, .read, .pure, .pure, .tame, .pure, .stay, .pure, .pure, .tame, .pure, .stay, .wild, .pure, .pure, .wild, .pure] [0, 1, 2, 3, 4, 6, 7, 8, 9, 11, 12, 14, 15, 5, 10, 13, 16, 17] (by kernel_rfl) ?_
     refine pp (i := 0) rfl (wanted_0 rfl) rfl (.slice (some ⟨nb, 0, none⟩) 2 2) (fun _ => vm rfl) ?_
     refine pp (i := 1) rfl (wanted_0 rfl) rfl (ptr r 2) (fun _ => vf TyTB.fld43_2 (b := r) (o := 0) rfl) ?_
     refine pr (i := 2) rfl (wanted_0 rfl) rfl (.string a6) (fun _ he => vl TyTB.agg9 rfl (Ext.cell he (rc a2 rfl))) ?_
     refine pp (i := 3) rfl (wanted_0 rfl) rfl (.int .i64 (a6.size : Int)) (fun _ => hv_lenStr TyTB.u9 rfl) ?_
     refine pp (i := 4) rfl (wanted_0 rfl) rfl (.int .u64 (IntKind.u64.wrap (a6.size : Int))) (fun _ => hv_convInt TyTB.u3 TyTB.u29 rfl) ?_
     refine pp (i := 6) rfl (wanted_0 rfl) rfl (ptr r 3) (fun _ => vf TyTB.fld43_3 (b := r) (o := 0) rfl) ?_
     obtain ⟨i1, H⟩ := H
     refine hp_stay (i := 7) rfl (wanted_0 rfl) rfl (.string a1) (fun _ he => vl TyTB.agg9 rfl ((fun hx he => rc (Kp.row (i1 hx he) (by simp) a2) rfl) _ he)) ?_
     refine pp (i := 8) rfl (wanted_0 rfl) rfl (.int .i64 (a1.size : Int)) (fun _ => hv_lenStr TyTB.u9 rfl) ?_
     refine pp (i := 9) rfl (wanted_0 rfl) rfl (.int .u64 (IntKind.u64.wrap (a1.size : Int))) (fun _ => hv_convInt TyTB.u3 TyTB.u29 rfl) ?_
     refine pp (i := 11) rfl (wanted_0 rfl) rfl (ptr r 1) (fun _ => vf TyTB.fld43_1 (b := r) (o := 0) rfl) ?_
     obtain ⟨k8, H⟩ := H
     refine hp_stay (i := 12) rfl (wanted_0 rfl) rfl (.int .u64 b0) (fun _ he => vl TyTB.agg29 rfl ((fun hx he => rc (Kp.row (k8 hx he) (by simp) a2) rfl) _ he)) ?_
     refine pp (i := 14) rfl (wanted_0 rfl) rfl (.int .u32 b9) (fun _ => vm rfl) ?_
     refine pp (i := 15) rfl (wanted_0 rfl) rfl (.int .u64 (IntKind.u64.wrap b9)) (fun _ => hv_convInt TyTB.u86 TyTB.u29 rfl) ?_
     refine hp_tame (i := 5) rfl (wanted_0 rfl) rfl (sc TyTB.cb43 rfl (HC.mono H ?_))
     rintro _ h6 ⟨k3, k7, f4, f3, f8, rfl, H⟩
     refine ⟨k3, ?_⟩
     replace a2 := Kp.row k7 (by simp) a2
     refine hp_tame (i := 10) rfl (wanted_0 rfl) rfl (sc TyTB.cb43 rfl (HC.mono H ?_))
     rintro _ h7 ⟨j6, k2, f7, c8, c6, rfl, H⟩
     refine ⟨j6, ?_⟩
     replace a2 := Kp.row k2 (by simp) a2
     refine hp_wild (i := 13) rfl (wanted_0 rfl) rfl (sc TyTB.cb43 rfl (HC.mono H ?_))
     rintro _ h8 ⟨j7, f6, c7, c9, rfl, H⟩
     replace a2 := Kp.row j7 (by simp) a2
     refine hp_wild (i := 16) rfl (wanted_0 rfl) rfl (sc TyTB.cb43 rfl (HC.mono H ?_))
     rintro _ h9 ⟨j8, c5, b5, b3, rfl, H⟩
     replace a2 := Kp.row j8 (by simp) a2
     refine pp (i := 17) rfl (wanted_0 rfl) rfl (.slice c5 b5 b3) (fun _ => va rfl) ?_
     refine hp_nil ?_
     refine qn (xs ?_)
     obtain ⟨d4, k5, H⟩ := H
     refine hx_drawT TyTB.mixed d4 k5 [.ext, .pure, .tame, .pure, .stay, .tame, .pure, .stay, .wild, .pure] [1, 3, 4, 6, 7, 0, 2, 5, 8, 9] (by kernel_rfl) ?_
     refine pp (i := 1) rfl (wanted_0 rfl) rfl (.slice c5 b5 b3) (fun _ => vm rfl) ?_
     refine pp (i := 3) rfl (wanted_0 rfl) rfl (ptr r 2) (fun _ => vf TyTB.fld43_2 (b := r) (o := 0) rfl) ?_
     obtain ⟨j0, H⟩ := H
     refine hp_stay (i := 4) rfl (wanted_0 rfl) rfl (.string a6) (fun _ he => vl TyTB.agg9 rfl ((fun hx he => rc (Kp.row (j0 hx he) (by simp) a2) rfl) _ he)) ?_
     refine pp (i := 6) rfl (wanted_0 rfl) rfl (ptr r 3) (fun _ => vf TyTB.fld43_3 (b := r) (o := 0) rfl) ?_
     obtain ⟨j2, H⟩ := H
     refine hp_stay (i := 7) rfl (wanted_0 rfl) rfl (.string a1) (fun _ he => vl TyTB.agg9 rfl ((fun hx he => rc (Kp.row (j2 hx he) (by simp) a2) rfl) _ he)) ?_
     refine hp_ext (i := 0) rfl (wanted_0 rfl) rfl (hn_buildSlice (n := 0) (vs := []) (cs := #[]) TyTB.u25 TyTB.sz5 TyTB.z5 rfl rfl (by kernel_rfl) ?_)
     intro e2 d2 i8 f9
     replace H := H e2 d2 i8 f9
     have g2 := ext_pushed_f11_sh f9
     replace a2 := Ext.row g2 a2
     refine ⟨g2, ?_⟩
     refine hp_tame (i := 2) rfl (wanted_0 rfl) rfl (hs_append rfl rfl (HAppend.mono H ?_))
     rintro _ d8 ⟨i9, i4, ap, f2, e6, rfl, H⟩
     refine ⟨i9, ?_⟩
     replace a2 := Kp.row i4 (by simp) a2
     refine hp_tame (i := 5) rfl (wanted_0 rfl) rfl (hs_append rfl rfl (HAppend.mono H ?_))
     rintro _ e3 ⟨i7, k1, e9, d0, d7, rfl, H⟩
     refine ⟨i7, ?_⟩
     replace a2 := Kp.row k1 (by simp) a2
     refine hp_wild (i := 8) rfl (wanted_0 rfl) rfl (hs_append rfl rfl (HAppend.mono H ?_))
     rintro _ e0 ⟨j5, c4, b7, b6, rfl, H⟩
     replace a2 := Kp.row j5 (by simp) a2
     refine pp (i := 9) rfl (wanted_0 rfl) rfl (.slice c4 b7 b6) (fun _ => va rfl) ?_
     refine hp_nil ?_
     refine qn (xs (xr ?_))
     refine lv rfl rfl (vm rfl) (lv rfl rfl (vm rfl) ?_)
     obtain ⟨d9, j4, H⟩ := H
     refine lv rfl rfl (hv_call TyTB.cb44 (vs := [(.slice c4 b7 b6)]) rfl j4) (lv rfl rfl (v := (.int .u64 (IntKind.u64.wrap d9))) (hv_convInt TyTB.u86 TyTB.u29 rfl) ?_)
     refine lp rfl rfl (sc TyTB.cb43 rfl (HC.mono H ?_))
     rintro _ d3 ⟨k4, e5, c0, c2, rfl, H⟩
     replace a2 := Kp.row k4 (by simp) a2
     refine lv rfl rfl (va rfl) ?_
     refine ln (qn (xs ?_))
     obtain ⟨e4, j3, H⟩ := H
     refine hx_drawT TyTB.mixed e4 j3 [.pure, .pure, .read, .tame, .pure, .stay, .wild, .pure, .pure] [0, 1, 2, 4, 5, 3, 6, 7, 8] (by kernel_rfl) ?_
     refine pp (i := 0) rfl (wanted_0 rfl) rfl (.slice e5 c0 c2) (fun _ => vm rfl) ?_
     refine pp (i := 1) rfl (wanted_0 rfl) rfl (ptr r 2) (fun _ => vf TyTB.fld43_2 (b := r) (o := 0) rfl) ?_
     refine pr (i := 2) rfl (wanted_0 rfl) rfl (.string a6) (fun _ he => vl TyTB.agg9 rfl (Ext.cell he (rc a2 rfl))) ?_
     refine pp (i := 4) rfl (wanted_0 rfl) rfl (ptr r 3) (fun _ => vf TyTB.fld43_3 (b := r) (o := 0) rfl) ?_
     obtain ⟨i5, H⟩ := H
     refine hp_stay (i := 5) rfl (wanted_0 rfl) rfl (.string a1) (fun _ he => vl TyTB.agg9 rfl ((fun hx he => rc (Kp.row (i5 hx he) (by simp) a2) rfl) _ he)) ?_
     refine hp_tame (i := 3) rfl (wanted_0 rfl) rfl (hs_append rfl rfl (HAppend.mono H ?_))
     rintro _ f5 ⟨j1, k0, f0, d1, d6, rfl, H⟩
     refine ⟨j1, ?_⟩
     replace a2 := Kp.row k0 (by simp) a2
     refine hp_wild (i := 6) rfl (wanted_0 rfl) rfl (hs_append rfl rfl (HAppend.mono H ?_))
     rintro _ g5 ⟨e1, c1, c3, rfl, H⟩
     refine pp (i := 7) rfl (wanted_0 rfl) rfl (.slice e1 c1 c3) (fun _ => va rfl) ?_
     refine pp (i := 8) rfl (wanted_0 rfl) rfl (.int .i64 0) (fun _ => va rfl) ?_
     refine hp_nil ?_
     refine qn (xt ?_)
     exact endQ_ret _ (res_two Tryd.results46 (rv_tmp rfl) (rv_tmp rfl)) H
theorem f86_sh (a9 : Int) (a5 : Int) (a3 : Int) (a4 : Int) (c1 : Int) (a1 : Int) (b0 : Int) (a2 : ByteArray) (a0 : ByteArray) (h : Heap) (R : Value → Heap → Prop)
  (H : (∀ (g : Nat) (r : Nat) (h2 : Heap), Array.size h ≤ g → g < Array.size h2 → Array.size h ≤ r → r < Array.size h2 → Ext h h2 → HC Tryd.prog 59 #[(.agg #[(.int .i64 a9), (.int .i64 a5), (.int .i64 a3), (.int .i64 a4)])] h2 (fun vv h3 => Ext h2 h3 ∧ ∃ b6 : Int, vv = (.int .i64 b6) ∧ (((b6 != 0) = true → R (.tuple #[(.slice none 0 0), (.int .i64 b6)]) h3) ∧ ((b6 != 0) = false → (((bif a1 != 1 then (a1 != 2) || ((a1 == 2) && (!decide (a0 = ByteArray.empty))) else (a1 == 2) && (!decide (a0 = ByteArray.empty))) = true → R (.tuple #[(.slice none 0 0), (.int .i64 52)]) h3) ∧ ((bif a1 != 1 then (a1 != 2) || ((a1 == 2) && (!decide (a0 = ByteArray.empty))) else (a1 == 2) && (!decide (a0 = ByteArray.empty))) = false → HC Tryd.prog 105 #[(.agg #[(.int .i64 a9), (.int .i64 a5), (.int .i64 a3), (.int .i64 a4)]), (.int .i64 (a2.size : Int)), (.int .i64 (a0.size : Int))] h3 (fun vv h4 => Ext h3 h4 ∧ ∃ r0 r1 : Int, vv = (.tuple #[(.int .i64 r0), (.int .i64 r1)]) ∧ (((r1 != 0) = true → R (.tuple #[(.slice none 0 0), (.int .i64 r1)]) h4) ∧ ((r1 != 0) = false → (∀ nb h5, nb = Array.size h4 → h5 = Array.push h4 (.cells #[(.int .u8 (IntKind.u8.wrap a1)), (.int .u8 0)] 5) → HC Tryd.prog 83 #[(.slice (some ⟨nb, 0, none⟩) 2 2), (.int .u64 (IntKind.u64.wrap (a2.size : Int))), (.int .i64 2)] h5 (fun vv h6 => Kp [r] h5 h6 ∧ ∃ c9 : Option Addr, ∃ c8 d2 : Nat, vv = (.slice c9 c8 d2) ∧ HC Tryd.prog 83 #[(.slice c9 c8 d2), (.int .u64 (IntKind.u64.wrap (a0.size : Int))), (.int .i64 4)] h6 (fun vv h7 => Kp [r] h6 h7 ∧ ∃ d1 : Option Addr, ∃ b9 b7 : Nat, vv = (.slice d1 b9 b7) ∧ HC Tryd.prog 83 #[(.slice d1 b9 b7), (.int .u64 b0), (.int .i64 8)] h7 (fun vv h8 => Kp [r] h7 h8 ∧ ∃ d0 : Option Addr, ∃ b8 c0 : Nat, vv = (.slice d0 b8 c0) ∧ HC Tryd.prog 83 #[(.slice d0 b8 c0), (.int .u64 (IntKind.u64.wrap c1)), (.int .i64 4)] h8 (fun vv h9 => Kp [r] h8 h9 ∧ ∃ c3 : Option Addr, ∃ b4 b3 : Nat, vv = (.slice c3 b4 b3) ∧ (ByteArray.size a2 + ByteArray.size a0 ≤ 9223372036854775807 ∧ (∃ d7 : Int, HC Tryd.prog 68 #[(.slice c3 b4 b3)] h9 (fun vv h' => vv = (.int .u32 d7) ∧ h' = h9) ∧ ((a2 ++ a0).size < 9223372036854775807 ∧ ∀ c7 c5 c6, c7 = Array.size h9 → (a2 ++ a0).size ≤ c5 → c5 ≤ 9223372036854775807 → c6 = Array.push h9 (.cells ((toL (a2 ++ a0)).map (Value.int .u8) ++ List.replicate (c5 - (a2 ++ a0).size) (Value.int .u8 0)).toArray 5 (c5, c5 + 1)) → (∃ d3 : Int, HC Tryd.prog 87 #[(.int .u32 d7), (.slice (some ⟨c7, 0, none⟩) ((a2 ++ a0).size) c5)] c6 (fun vv h' => vv = (.int .u32 d3) ∧ h' = c6) ∧ HC Tryd.prog 83 #[(.slice c3 b4 b3), (.int .u64 (IntKind.u64.wrap d3)), (.int .i64 4)] c6 (fun vv e5 => ∃ d6 : Option Addr, ∃ c2 c4 : Nat, vv = (.slice d6 c2 c4) ∧ HAppend Tryd.prog 25 9 (.slice d6 c2 c4) (.string (a2 ++ a0)) e5 (fun vv e6 => ∃ ap : Option Addr, ∃ d5 d4 : Nat, vv = (.slice ap d5 d4) ∧ R (.tuple #[(.slice ap d5 d4), (.int .i64 0)]) e6))))))))))))))))))))) :
  HC Tryd.prog 86 #[(.agg #[(.int .i64 a9), (.int .i64 a5), (.int .i64 a3), (.int .i64 a4)]), (.int .u32 c1), (.agg #[(.int .i64 a1), (.int .u64 b0), (.string a2), (.string a0)])] h R := by
 refine hc_of (args := [(.agg #[(.int .i64 a9), (.int .i64 a5), (.int .i64 a3), (.int .i64 a4)]), (.int .u32 c1), (.agg #[(.int .i64 a1), (.int .u64 b0), (.string a2), (.string a0)])]) Tryd.func86 rfl Tryd.ntmps86 (Nat.le_of_ble_eq_true rfl) ?_
 refine xs (xr ?_)
 refine lp rfl rfl (hn_box (v := (.agg #[(.int .i64 a9), (.int .i64 a5), (.int .i64 a3), (.int .i64 a4)])) rfl ?_)
 intro g h1 e8 e9
 have f0 := ext_pushed_f11_sh e9
 have g8 : Array.size h ≤ g := Nat.le_of_eq (Eq.symm e8)
 have b5 : h1[g]? = some (.cells #[(.int .i64 a9), (.int .i64 a5), (.int .i64 a3), (.int .i64 a4)] 24 (0, 0)) := by rw [e9]; exact push_new e8
 refine lp rfl rfl (hn_box (v := (.agg #[(.int .i64 a1), (.int .u64 b0), (.string a2), (.string a0)])) rfl ?_)
 intro r h2 e4 f1
 have e7 := ext_pushed_f11_sh f1
 have i0 := Nat.ne_of_lt (Nat.lt_of_lt_of_eq (row_lt b5) (Eq.symm e4))
 have f4 : Array.size h ≤ r := Nat.le_trans (Ext.size f0) (Nat.le_of_eq (Eq.symm e4))
 have a6 : h2[r]? = some (.cells #[(.int .i64 a1), (.int .u64 b0), (.string a2), (.string a0)] 43 (0, 0)) := by rw [f1]; exact push_new e4
 replace b5 := Ext.row e7 b5
 have g4 := Ext.trans f0 e7
 refine lv rfl rfl (va rfl) (lv rfl rfl (va rfl) ?_)
 refine ln (qn (xs (xs (xr ?_))))
 refine lv rfl rfl (vL (vs := [(.int .i64 a9), (.int .i64 a5), (.int .i64 a3), (.int .i64 a4)]) TyTB.agg24 TyTB.sz24 rfl (cc (rc b5 rfl) (cc (rc b5 rfl) (cc (rc b5 rfl) (cc (rc b5 rfl) cn))))) ?_
 replace H := H g r h2 g8 (row_lt b5) f4 (row_lt a6) g4
 refine lp rfl rfl (sc TyTB.cb59 rfl (HC.mono H ?_))
 rintro _ h3 ⟨e1, b6, rfl, H⟩
 replace b5 := Ext.row e1 b5
 replace a6 := Ext.row e1 a6
 refine lv rfl rfl (va rfl) ?_
 refine ln (qn (xs (xr ?_)))
 refine lv rfl rfl (vm rfl) (lv rfl rfl (vr rfl rfl rfl) ?_)
 refine ln (qn ?_)
 refine xc (b := b6 != 0) rfl (fun d9 => ?_) (fun d9 => ?_)
 ·replace H := H.1 d9
  refine xs (xr ?_)
  refine lv rfl rfl (vm rfl) (lv rfl rfl (va rfl) (lv rfl rfl (va rfl) ?_))
  refine ln (qn (xt (qr ?_)))
  exact endQ_ret _ (res_two Tryd.results86 (rv_tmp rfl) (rv_tmp rfl)) H
 ·replace H := H.2 d9
  refine xi (qn (xs ?_))
  refine xk (fun ρ h' => h3 = h' ∧ Has ρ [(1, (.int .u32 c1)), (3, (ptr g 0)), (5, (ptr r 0)), (35, (.bool (bif a1 != 1 then (a1 != 2) || ((a1 == 2) && (!decide (a0 = ByteArray.empty))) else (a1 == 2) && (!decide (a0 = ByteArray.empty)))))]) ?_ ?_
  ·refine xr ?_
   refine lv rfl rfl (v := (ptr r 0)) (vf TyTB.fld43_0 (b := r) (o := 0) rfl) (lv rfl rfl (vl TyTB.agg3 rfl (rc a6 rfl)) (lv rfl rfl (vr rfl rfl rfl) (lv rfl rfl (vm rfl) ?_)))
   rcases bool_or (a1 != 1) with a8 | a8
   ·refine ly (wanted_y rfl rfl rfl a8) rfl (HStep.of_val (v := (ptr r 0)) (vf TyTB.fld43_0 (b := r) (o := 0) rfl) ?_)
    refine ly (wanted_y rfl rfl rfl a8) rfl (HStep.of_val (v := (.int .i64 a1)) (vl TyTB.agg3 rfl (rc a6 rfl)) ?_)
    refine ly (wanted_y rfl rfl rfl a8) rfl (HStep.of_val (v := (.bool (a1 != 2))) (vr rfl rfl rfl) ?_)
    refine lv rfl rfl (v := (.bool (a1 != 2))) (hv_pick_t rfl a8 rfl) (lv rfl rfl (vm rfl) ?_)
    rcases bool_or (a1 != 2) with a7 | a7
    ·refine lo (wanted_n rfl rfl rfl a7) rfl ?_
     refine lo (wanted_n rfl rfl rfl a7) rfl ?_
     refine lo (wanted_n rfl rfl rfl a7) rfl ?_
     refine lo (wanted_n rfl rfl rfl a7) rfl ?_
     refine lo (wanted_u rfl rfl rfl) rfl ?_
     refine lo (wanted_u rfl rfl rfl) rfl ?_
     refine lo (wanted_u rfl rfl rfl) rfl ?_
     refine lo (wanted_n rfl rfl rfl a7) rfl ?_
     refine lv rfl rfl (v := (.bool true)) (hv_pick_t rfl a7 rfl) ?_
     refine ln (qn ?_)
     exact ⟨rfl, (hc rfl (hc rfl (hc rfl (hc (show ((.bool true) : Value) = (.bool (bif a1 != 1 then (a1 != 2) || ((a1 == 2) && (!decide (a0 = ByteArray.empty))) else (a1 == 2) && (!decide (a0 = ByteArray.empty)))) from (by first | rfl | ((try rw [a8]); (try rw [a7]); all_goals first | rfl | (simp only [Bool.true_or, Bool.or_true, Bool.false_or, Bool.or_false, Bool.true_and, Bool.and_true, Bool.false_and, Bool.and_false, Bool.not_true, Bool.not_false, Bool.cond_true, Bool.cond_false]; done)) | simp [a8, a7])) hn))))⟩
    ·refine ly (wanted_y rfl rfl rfl a7) rfl (HStep.of_val (v := (ptr r 0)) (vf TyTB.fld43_0 (b := r) (o := 0) rfl) ?_)
     refine ly (wanted_y rfl rfl rfl a7) rfl (HStep.of_val (v := (.int .i64 a1)) (vl TyTB.agg3 rfl (rc a6 rfl)) ?_)
     refine ly (wanted_y rfl rfl rfl a7) rfl (HStep.of_val (v := (.bool (a1 == 2))) (vr rfl rfl rfl) ?_)
     refine ly (wanted_y rfl rfl rfl a7) rfl (HStep.of_val (v := (.bool (a1 == 2))) (vm rfl) ?_)
     rcases bool_or (a1 == 2) with b2 | b2
     ·refine ly (wanted_y rfl rfl rfl b2) rfl (HStep.of_val (v := (ptr r 3)) (vf TyTB.fld43_3 (b := r) (o := 0) rfl) ?_)
      refine ly (wanted_y rfl rfl rfl b2) rfl (HStep.of_val (v := (.string a0)) (vl TyTB.agg9 rfl (rc a6 rfl)) ?_)
      refine ly (wanted_y rfl rfl rfl b2) rfl (HStep.of_val (v := (.bool (!decide (a0 = ByteArray.empty)))) (hv_str rfl rfl rfl) ?_)
      refine ly (wanted_y rfl rfl rfl a7) rfl (HStep.of_val (v := (.bool (!decide (a0 = ByteArray.empty)))) (hv_pick_t rfl b2 rfl) ?_)
      refine lv rfl rfl (v := (.bool (!decide (a0 = ByteArray.empty)))) (hv_pick_f rfl a7 rfl) ?_
      refine ln (qn ?_)
      exact ⟨rfl, (hc rfl (hc rfl (hc rfl (hc (show ((.bool (!decide (a0 = ByteArray.empty))) : Value) = (.bool (bif a1 != 1 then (a1 != 2) || ((a1 == 2) && (!decide (a0 = ByteArray.empty))) else (a1 == 2) && (!decide (a0 = ByteArray.empty)))) from (by first | rfl | ((try rw [a8]); (try rw [a7]); (try rw [b2]); all_goals first | rfl | (simp only [Bool.true_or, Bool.or_true, Bool.false_or, Bool.or_false, Bool.true_and, Bool.and_true, Bool.false_and, Bool.and_false, Bool.not_true, Bool.not_false, Bool.cond_true, Bool.cond_false]; done)) | simp [a8, a7, b2])) hn))))⟩
     ·refine lo (wanted_n rfl rfl rfl b2) rfl ?_
      refine lo (wanted_n rfl rfl rfl b2) rfl ?_
      refine lo (wanted_n rfl rfl rfl b2) rfl ?_
      refine ly (wanted_y rfl rfl rfl a7) rfl (HStep.of_val (v := (.bool false)) (hv_pick_f rfl b2 rfl) ?_)
      refine lv rfl rfl (v := (.bool false)) (hv_pick_f rfl a7 rfl) ?_
      refine ln (qn ?_)
      exact ⟨rfl, (hc rfl (hc rfl (hc rfl (hc (show ((.bool false) : Value) = (.bool (bif a1 != 1 then (a1 != 2) || ((a1 == 2) && (!decide (a0 = ByteArray.empty))) else (a1 == 2) && (!decide (a0 = ByteArray.empty)))) from (by first | rfl | ((try rw [a8]); (try rw [a7]); (try rw [b2]); all_goals first | rfl | (simp only [Bool.true_or, Bool.or_true, Bool.false_or, Bool.or_false, Bool.true_and, Bool.and_true, Bool.false_and, Bool.and_false, Bool.not_true, Bool.not_false, Bool.cond_true, Bool.cond_false]; done)) | simp [a8, a7, b2])) hn))))⟩
   ·refine lo (wanted_n rfl rfl rfl a8) rfl ?_
    refine lo (wanted_n rfl rfl rfl a8) rfl ?_
    refine lo (wanted_n rfl rfl rfl a8) rfl ?_
    refine lv rfl rfl (v := (.bool false)) (hv_pick_f rfl a8 rfl) (lv rfl rfl (vm rfl) ?_)
    refine ly (wanted_y rfl rfl (c := false) rfl rfl) rfl (HStep.of_val (v := (ptr r 0)) (vf TyTB.fld43_0 (b := r) (o := 0) rfl) ?_)
    refine ly (wanted_y rfl rfl (c := false) rfl rfl) rfl (HStep.of_val (v := (.int .i64 a1)) (vl TyTB.agg3 rfl (rc a6 rfl)) ?_)
    refine ly (wanted_y rfl rfl (c := false) rfl rfl) rfl (HStep.of_val (v := (.bool (a1 == 2))) (vr rfl rfl rfl) ?_)
    refine ly (wanted_y rfl rfl (c := false) rfl rfl) rfl (HStep.of_val (v := (.bool (a1 == 2))) (vm rfl) ?_)
    rcases bool_or (a1 == 2) with b1 | b1
    ·refine ly (wanted_y rfl rfl rfl b1) rfl (HStep.of_val (v := (ptr r 3)) (vf TyTB.fld43_3 (b := r) (o := 0) rfl) ?_)
     refine ly (wanted_y rfl rfl rfl b1) rfl (HStep.of_val (v := (.string a0)) (vl TyTB.agg9 rfl (rc a6 rfl)) ?_)
     refine ly (wanted_y rfl rfl rfl b1) rfl (HStep.of_val (v := (.bool (!decide (a0 = ByteArray.empty)))) (hv_str rfl rfl rfl) ?_)
     refine ly (wanted_y rfl rfl (c := false) rfl rfl) rfl (HStep.of_val (v := (.bool (!decide (a0 = ByteArray.empty)))) (hv_pick_t rfl b1 rfl) ?_)
     refine lv rfl rfl (v := (.bool (!decide (a0 = ByteArray.empty)))) (hv_pick (t := false) rfl rfl) ?_
     refine ln (qn ?_)
     exact ⟨rfl, (hc rfl (hc rfl (hc rfl (hc (show ((.bool (!decide (a0 = ByteArray.empty))) : Value) = (.bool (bif a1 != 1 then (a1 != 2) || ((a1 == 2) && (!decide (a0 = ByteArray.empty))) else (a1 == 2) && (!decide (a0 = ByteArray.empty)))) from (by first | rfl | ((try rw [a8]); (try rw [b1]); all_goals first | rfl | (simp only [Bool.true_or, Bool.or_true, Bool.false_or, Bool.or_false, Bool.true_and, Bool.and_true, Bool.false_and, Bool.and_false, Bool.not_true, Bool.not_false, Bool.cond_true, Bool.cond_false]; done)) | simp [a8, b1])) hn))))⟩
    ·refine lo (wanted_n rfl rfl rfl b1) rfl ?_
     refine lo (wanted_n rfl rfl rfl b1) rfl ?_
     refine lo (wanted_n rfl rfl rfl b1) rfl ?_
     refine ly (wanted_y rfl rfl (c := false) rfl rfl) rfl (HStep.of_val (v := (.bool false)) (hv_pick_f rfl b1 rfl) ?_)
     refine lv rfl rfl (v := (.bool false)) (hv_pick (t := false) rfl rfl) ?_
     refine ln (qn ?_)
     exact ⟨rfl, (hc rfl (hc rfl (hc rfl (hc (show ((.bool false) : Value) = (.bool (bif a1 != 1 then (a1 != 2) || ((a1 == 2) && (!decide (a0 = ByteArray.empty))) else (a1 == 2) && (!decide (a0 = ByteArray.empty)))) from (by first | rfl | ((try rw [a8]); (try rw [b1]); all_goals first | rfl | (simp only [Bool.true_or, Bool.or_true, Bool.false_or, Bool.or_false, Bool.true_and, Bool.and_true, Bool.false_and, Bool.and_false, Bool.not_true, Bool.not_false, Bool.cond_true, Bool.cond_false]; done)) | simp [a8, b1])) hn))))⟩
  ·rintro ρ _ ⟨rfl, hH⟩
   refine xh _ hH ?_
   refine xc (b := (bif a1 != 1 then (a1 != 2) || ((a1 == 2) && (!decide (a0 = ByteArray.empty))) else (a1 == 2) && (!decide (a0 = ByteArray.empty)))) rfl (fun d8 => ?_) (fun d8 => ?_)
   ·replace H := H.1 d8
    refine xs (xr ?_)
    refine lv rfl rfl (va rfl) (lv rfl rfl (va rfl) ?_)
    refine ln (qn (xt (qr ?_)))
    exact endQ_ret _ (res_two Tryd.results86 (rv_tmp rfl) (rv_tmp rfl)) H
   ·replace H := H.2 d8
    refine xi (qn (xs (xs (xr ?_))))
    refine lv rfl rfl (vL (vs := [(.int .i64 a9), (.int .i64 a5), (.int .i64 a3), (.int .i64 a4)]) TyTB.agg24 TyTB.sz24 rfl (cc (rc b5 rfl) (cc (rc b5 rfl) (cc (rc b5 rfl) (cc (rc b5 rfl) cn))))) (lv rfl rfl (v := (ptr r 2)) (vf TyTB.fld43_2 (b := r) (o := 0) rfl) (lv rfl rfl (vl TyTB.agg9 rfl (rc a6 rfl)) (lv rfl rfl (v := (.int .i64 (a2.size : Int))) (hv_lenStr TyTB.u9 rfl) (lv rfl rfl (v := (ptr r 3)) (vf TyTB.fld43_3 (b := r) (o := 0) rfl) (lv rfl rfl (vl TyTB.agg9 rfl (rc a6 rfl)) ?_)))))
    refine lv rfl rfl (v := (.int .i64 (a0.size : Int))) (hv_lenStr TyTB.u9 rfl) ?_
    refine lp rfl rfl (sc TyTB.cb105 rfl (HC.mono H ?_))
    rintro _ h4 ⟨f7, r0, r1, rfl, H⟩
    replace a6 := Ext.row f7 a6
    refine lv rfl rfl (vm rfl) (lv rfl rfl (vx rfl rfl) (lv rfl rfl (vx rfl rfl) (lv rfl rfl (va rfl) (lv rfl rfl (va rfl) ?_))))
    refine ln (qn (xs (xr ?_)))
    refine lv rfl rfl (vm rfl) (lv rfl rfl (vr rfl rfl rfl) ?_)
    refine ln (qn ?_)
    refine xc (b := r1 != 0) rfl (fun e0 => ?_) (fun e0 => ?_)
    ·replace H := H.1 e0
     refine xs (xr ?_)
     refine lv rfl rfl (vm rfl) (lv rfl rfl (va rfl) (lv rfl rfl (va rfl) ?_))
     refine ln (qn (xt (qr ?_)))
     exact endQ_ret _ (res_two Tryd.results86 (rv_tmp rfl) (rv_tmp rfl)) H
    ·replace H := H.2 e0
     refine xi (qn (xs (xr ?_)))
     refine lv rfl rfl (v := (ptr r 0)) (vf TyTB.fld43_0 (b := r) (o := 0) rfl) (lv rfl rfl (vl TyTB.agg3 rfl (rc a6 rfl)) (lv rfl rfl (v := (.int .u8 (IntKind.u8.wrap a1))) (hv_convInt TyTB.u3 TyTB.u5 rfl) ?_))
     refine lp rfl rfl (hn_buildSlice (n := 2) (vs := [(0, (.int .u8 (IntKind.u8.wrap a1))), (1, (.int .u8 0))]) (cs := #[(.int .u8 (IntKind.u8.wrap a1)), (.int .u8 0)]) TyTB.u25 TyTB.sz5 TyTB.z5 rfl rfl (by kernel_rfl) ?_)
     intro nb h5 f3 e3
     replace H := H nb h5 f3 e3
     have g5 := ext_pushed_f11_sh e3
     replace a6 := Ext.row g5 a6
     refine lv rfl rfl (va rfl) ?_
     refine ln (qn (xs (xr ?_)))
     refine lv rfl rfl (vm rfl) (lv rfl rfl (v := (ptr r 2)) (vf TyTB.fld43_2 (b := r) (o := 0) rfl) (lv rfl rfl (vl TyTB.agg9 rfl (rc a6 rfl)) (lv rfl rfl (v := (.int .i64 (a2.size : Int))) (hv_lenStr TyTB.u9 rfl) (lv rfl rfl (v := (.int .u64 (IntKind.u64.wrap (a2.size : Int)))) (hv_convInt TyTB.u3 TyTB.u29 rfl) ?_))))
     refine lp rfl rfl (sc TyTB.cb83 rfl (HC.mono H ?_))
     rintro _ h6 ⟨g1, c9, c8, d2, rfl, H⟩
     replace a6 := Kp.row g1 (by simp) a6
     refine lv rfl rfl (va rfl) ?_
     refine ln (qn (xs (xr ?_)))
     refine lv rfl rfl (vm rfl) (lv rfl rfl (v := (ptr r 3)) (vf TyTB.fld43_3 (b := r) (o := 0) rfl) (lv rfl rfl (vl TyTB.agg9 rfl (rc a6 rfl)) (lv rfl rfl (v := (.int .i64 (a0.size : Int))) (hv_lenStr TyTB.u9 rfl) (lv rfl rfl (v := (.int .u64 (IntKind.u64.wrap (a0.size : Int)))) (hv_convInt TyTB.u3 TyTB.u29 rfl) ?_))))
     refine lp rfl rfl (sc TyTB.cb83 rfl (HC.mono H ?_))
     rintro _ h7 ⟨f8, d1, b9, b7, rfl, H⟩
     replace a6 := Kp.row f8 (by simp) a6
     refine lv rfl rfl (va rfl) ?_
     refine ln (qn (xs (xr ?_)))
     refine lv rfl rfl (vm rfl) (lv rfl rfl (v := (ptr r 1)) (vf TyTB.fld43_1 (b := r) (o := 0) rfl) (lv rfl rfl (vl TyTB.agg29 rfl (rc a6 rfl)) ?_))
     refine lp rfl rfl (sc TyTB.cb83 rfl (HC.mono H ?_))
     rintro _ h8 ⟨g7, d0, b8, c0, rfl, H⟩
     replace a6 := Kp.row g7 (by simp) a6
     refine lv rfl rfl (va rfl) ?_
     refine ln (qn (xs (xr ?_)))
     refine lv rfl rfl (vm rfl) (lv rfl rfl (vm rfl) (lv rfl rfl (v := (.int .u64 (IntKind.u64.wrap c1))) (hv_convInt TyTB.u86 TyTB.u29 rfl) ?_))
     refine lp rfl rfl (sc TyTB.cb83 rfl (HC.mono H ?_))
     rintro _ h9 ⟨g6, c3, b4, b3, rfl, H⟩
     replace a6 := Kp.row g6 (by simp) a6
     refine lv rfl rfl (va rfl) ?_
     refine ln (qn (xs (xr ?_)))
     refine lv rfl rfl (v := (ptr r 2)) (vf TyTB.fld43_2 (b := r) (o := 0) rfl) (lv rfl rfl (vl TyTB.agg9 rfl (rc a6 rfl)) (lv rfl rfl (v := (ptr r 3)) (vf TyTB.fld43_3 (b := r) (o := 0) rfl) (lv rfl rfl (vl TyTB.agg9 rfl (rc a6 rfl)) ?_)))
     obtain ⟨f6, H⟩ := H
     refine lv rfl rfl (v := (.string (a2 ++ a0))) (hv_strAdd rfl rfl f6) (lv rfl rfl (va rfl) ?_)
     refine ln (qn (xs (xr ?_)))
     refine lv rfl rfl (vm rfl) (lv rfl rfl (vm rfl) ?_)
     obtain ⟨d7, f9, H⟩ := H
     refine lv rfl rfl (hv_call TyTB.cb68 (vs := [(.slice c3 b4 b3)]) rfl f9) (lv rfl rfl (vm rfl) ?_)
     obtain ⟨g3, H⟩ := H
     refine lp rfl rfl (hs_s2b TyTB.u9 TyTB.u25 TyTB.u5 rfl g3 ?_)
     intro c7 c5 c6 g2 g0 f5 e2
     have g9 := ext_pushed_f11_sh e2
     replace H := H c7 c5 c6 g2 g0 f5 e2
     obtain ⟨d3, f2, H⟩ := H
     refine lv rfl rfl (hv_call TyTB.cb87 (vs := [(.int .u32 d7), (.slice (some ⟨c7, 0, none⟩) ((a2 ++ a0).size) c5)]) rfl f2) (lv rfl rfl (v := (.int .u64 (IntKind.u64.wrap d3))) (hv_convInt TyTB.u86 TyTB.u29 rfl) ?_)
     refine lp rfl rfl (sc TyTB.cb83 rfl (HC.mono H ?_))
     rintro _ e5 ⟨d6, c2, c4, rfl, H⟩
     refine lv rfl rfl (va rfl) ?_
     refine ln (qn (xs (xr ?_)))
     refine lv rfl rfl (vm rfl) (lv rfl rfl (vm rfl) ?_)
     refine lp rfl rfl (hs_append rfl rfl (HAppend.mono H ?_))
     rintro _ e6 ⟨ap, d5, d4, rfl, H⟩
     refine lv rfl rfl (va rfl) (lv rfl rfl (va rfl) ?_)
     refine ln (qn (xt ?_))
     exact endQ_ret _ (res_two Tryd.results86 (rv_tmp rfl) (rv_tmp rfl)) H
theorem f85_sh (b : Option Addr) (a1 : Nat) (a0 : Nat) (h : Heap) (R : Value → Heap → Prop)
  (H : (((decide ((a1 : Int) < 24)) = true → (∀ (h2 : Heap), Ext h h2 → R (.tuple #[(.agg #[(.int .i64 0), (.int .u64 0), (.string ByteArray.empty), (.string ByteArray.empty)]), (.int .i64 0), (.bool false)]) h2)) ∧ ((decide ((a1 : Int) < 24)) = false → (0 ≤ ((2 : Int) : Int) ∧ (2 : Int) ≤ (4 : Int) ∧ (4 : Int) ≤ (a0 : Int) ∧ ∀ sl : Option Addr, sl = slA b (Int.toNat 2) 1 a0 → (∀ (pb : Nat) (h1 : Heap), Array.size h ≤ pb → pb < Array.size h1 → Ext h h1 → (∃ r : Int, (∀ h7, Ext h1 h7 → HC Tryd.prog 60 #[(.slice sl (Int.toNat 4 - Int.toNat 2) (a0 - Int.toNat 2))] h7 (fun vv h' => vv = (.int .u64 r) ∧ h' = h7)) ∧ (0 ≤ ((4 : Int) : Int) ∧ (4 : Int) ≤ (8 : Int) ∧ (8 : Int) ≤ (a0 : Int) ∧ ∀ a9 : Option Addr, a9 = slA b (Int.toNat 4) 1 a0 → (∃ a2 : Int, (∀ h6, Ext h1 h6 → HC Tryd.prog 60 #[(.slice a9 (Int.toNat 8 - Int.toNat 4) (a0 - Int.toNat 4))] h6 (fun vv h' => vv = (.int .u64 a2) ∧ h' = h6)) ∧ (((decide ((IntKind.i64.wrap ((IntKind.i64.wrap (24 + (IntKind.i64.wrap r))) + (IntKind.i64.wrap a2))) > (a1 : Int))) = true → (∀ h3, Fr (fun i => i = pb) h1 h3 → R (.tuple #[(.agg #[(.int .i64 0), (.int .u64 0), (.string ByteArray.empty), (.string ByteArray.empty)]), (.int .i64 0), (.bool false)]) h3)) ∧ ((decide ((IntKind.i64.wrap ((IntKind.i64.wrap (24 + (IntKind.i64.wrap r))) + (IntKind.i64.wrap a2))) > (a1 : Int))) = false → (∃ a6 a5 : Nat, b = some ⟨a6, a5, none⟩ ∧ (0 : Int) ≤ 0 ∧ 0 < (a1 : Int) ∧ (∃ x : Int, hcell h1 a6 (a5 + (Int.toNat 0) * 1) = some (.int .u8 x) ∧ (0 ≤ ((8 : Int) : Int) ∧ (8 : Int) ≤ (16 : Int) ∧ (16 : Int) ≤ (a0 : Int) ∧ ∀ a8 : Option Addr, a8 = slA (some ⟨a6, a5, none⟩) (Int.toNat 8) 1 a0 → (∃ a7 : Int, (∀ h5, Ext h1 h5 → HC Tryd.prog 60 #[(.slice a8 (Int.toNat 16 - Int.toNat 8) (a0 - Int.toNat 8))] h5 (fun vv h' => vv = (.int .u64 a7) ∧ h' = h5)) ∧ (0 ≤ ((24 : Int) : Int) ∧ (24 : Int) ≤ IntKind.i64.wrap (24 + (IntKind.i64.wrap r)) ∧ IntKind.i64.wrap (24 + (IntKind.i64.wrap r)) ≤ (a0 : Int) ∧ ∀ b1 : Option Addr, b1 = slA (some ⟨a6, a5, none⟩) (Int.toNat 24) 1 a0 → (∃ bs : List Int, Byt h1 b1 (Int.toNat (IntKind.i64.wrap (24 + (IntKind.i64.wrap r))) - Int.toNat 24) bs ∧ (0 ≤ (IntKind.i64.wrap (24 + (IntKind.i64.wrap r)) : Int) ∧ IntKind.i64.wrap (24 + (IntKind.i64.wrap r)) ≤ IntKind.i64.wrap ((IntKind.i64.wrap (24 + (IntKind.i64.wrap r))) + (IntKind.i64.wrap a2)) ∧ IntKind.i64.wrap ((IntKind.i64.wrap (24 + (IntKind.i64.wrap r))) + (IntKind.i64.wrap a2)) ≤ (a0 : Int) ∧ ∀ b0 : Option Addr, b0 = slA (some ⟨a6, a5, none⟩) (Int.toNat (IntKind.i64.wrap (24 + (IntKind.i64.wrap r)))) 1 a0 → (∃ a4 : List Int, Byt h1 b0 (Int.toNat (IntKind.i64.wrap ((IntKind.i64.wrap (24 + (IntKind.i64.wrap r))) + (IntKind.i64.wrap a2))) - Int.toNat (IntKind.i64.wrap (24 + (IntKind.i64.wrap r)))) a4 ∧ (∀ h4, Fr (fun i => i = pb) h1 h4 → R (.tuple #[(.agg #[(.int .i64 (IntKind.i64.wrap x)), (.int .u64 a7), (.string (ofL bs)), (.string (ofL a4))]), (.int .i64 (IntKind.i64.wrap ((IntKind.i64.wrap (24 + (IntKind.i64.wrap r))) + (IntKind.i64.wrap a2)))), (.bool true)]) h4))))))))))))))))))) :
  HC Tryd.prog 85 #[(.slice b a1 a0)] h R := by
 refine hc_of (args := [(.slice b a1 a0)]) Tryd.func85 rfl Tryd.ntmps85 (Nat.le_of_ble_eq_true rfl) ?_
 refine xs (xr ?_)
 refine lp rfl rfl (hn_alloc TyTB.z43 ?_)
 intro pb h1 b9 c1
 have b8 := ext_pushed_f11_sh c1
 have b7 : Array.size h ≤ pb := Nat.le_of_eq (Eq.symm b9)
 have b2 : h1[pb]? = some (.cells #[(.int .i64 0), (.int .u64 0), (.string ByteArray.empty), (.string ByteArray.empty)] 43 (0, 0)) := by rw [c1]; exact push_new b9
 refine lv rfl rfl (va rfl) (lv rfl rfl (va rfl) ?_)
 refine ln (qn (xs (xs (xr ?_))))
 refine lv rfl rfl (vm rfl) (lv rfl rfl (v := (.int .i64 (a1 : Int))) (hv_len (n := a1) TyTB.u25 rfl) (lv rfl rfl (vr rfl rfl rfl) ?_))
 refine ln (qn ?_)
 refine xc (b := decide ((a1 : Int) < 24)) rfl (fun b5 => ?_) (fun b5 => ?_)
 ·replace H := H.1 b5
  refine xs (xr ?_)
  refine lv rfl rfl (v := (.agg #[(.int .i64 0), (.int .u64 0), (.string ByteArray.empty), (.string ByteArray.empty)])) (vb (vs := []) (cs := #[(.int .i64 0), (.int .u64 0), (.string ByteArray.empty), (.string ByteArray.empty)]) TyTB.z43 TyTB.pl43 rfl (by kernel_rfl)) ?_
  refine lp rfl rfl (hn_stores (vs := [(.int .i64 0), (.int .u64 0), (.string ByteArray.empty), (.string ByteArray.empty)]) rfl rfl TyTB.sz43 rfl (HWs_row b2 (by simp)) ?_)
  intro h2 c0
  have a3 : h2[pb]? = some (.cells #[(.int .i64 0), (.int .u64 0), (.string ByteArray.empty), (.string ByteArray.empty)] 43 (0, 0)) := row_hsets_eq c0 b2 rfl
  have e4 := ext_hsets c0 b8 b7
  refine lv rfl rfl (va rfl) (lv rfl rfl (va rfl) ?_)
  refine ln (qn (xt (qr ?_)))
  replace H := H h2 e4
  exact endQ_ret _ (res_three Tryd.results85 (rv_cell (vs := [(.int .i64 0), (.int .u64 0), (.string ByteArray.empty), (.string ByteArray.empty)]) TyTB.agg43 TyTB.sz43 rfl (cc (rc a3 rfl) (cc (rc a3 rfl) (cc (rc a3 rfl) (cc (rc a3 rfl) cn))))) (rv_tmp rfl) (rv_tmp rfl)) H
 ·replace H := H.2 b5
  refine xi (qn (xs ?_))
  refine hx_draw TyTB.mixed [.pure, .pure, .read, .pure, .pure, .pure, .read, .pure, .pure, .pure] [0, 1, 2, 3, 4, 5, 6, 7, 8, 9] (by kernel_rfl) ?_
  refine pp (i := 0) rfl (wanted_0 rfl) rfl (.slice b a1 a0) (fun _ => vm rfl) ?_
  obtain ⟨e5, d6, d5, H⟩ := H
  obtain ⟨sl, hq12⟩ : ∃ q, q = slA b (Int.toNat 2) 1 a0 := ⟨_, rfl⟩
  replace H := H sl hq12
  refine pp (i := 1) rfl (wanted_0 rfl) rfl (.slice sl (Int.toNat 4 - Int.toNat 2) (a0 - Int.toNat 2)) (fun _ => hv_slice (l := 2) (r := 4) TyTB.u25 TyTB.sz5 rfl (sl_some rfl) (sh_some rfl) e5 d6 d5 hq12) ?_
  replace H := H pb h1 b7 (row_lt b2) b8
  obtain ⟨r, c8, H⟩ := H
  refine pr (i := 2) rfl (wanted_0 rfl) rfl (.int .u64 r) (fun _ he => hv_call TyTB.cb60 (vs := [(.slice sl (Int.toNat 4 - Int.toNat 2) (a0 - Int.toNat 2))]) rfl (c8 _ he)) ?_
  refine pp (i := 3) rfl (wanted_0 rfl) rfl (.int .i64 (IntKind.i64.wrap r)) (fun _ => hv_convInt TyTB.u29 TyTB.u3 rfl) ?_
  refine pp (i := 4) rfl (wanted_0 rfl) rfl (.slice b a1 a0) (fun _ => vm rfl) ?_
  obtain ⟨c7, d3, e3, H⟩ := H
  obtain ⟨a9, hq17⟩ : ∃ q, q = slA b (Int.toNat 4) 1 a0 := ⟨_, rfl⟩
  replace H := H a9 hq17
  refine pp (i := 5) rfl (wanted_0 rfl) rfl (.slice a9 (Int.toNat 8 - Int.toNat 4) (a0 - Int.toNat 4)) (fun _ => hv_slice (l := 4) (r := 8) TyTB.u25 TyTB.sz5 rfl (sl_some rfl) (sh_some rfl) c7 d3 e3 hq17) ?_
  obtain ⟨a2, c2, H⟩ := H
  refine pr (i := 6) rfl (wanted_0 rfl) rfl (.int .u64 a2) (fun _ he => hv_call TyTB.cb60 (vs := [(.slice a9 (Int.toNat 8 - Int.toNat 4) (a0 - Int.toNat 4))]) rfl (c2 _ he)) ?_
  refine pp (i := 7) rfl (wanted_0 rfl) rfl (.int .i64 (IntKind.i64.wrap a2)) (fun _ => hv_convInt TyTB.u29 TyTB.u3 rfl) ?_
  refine pp (i := 8) rfl (wanted_0 rfl) rfl (.int .i64 (IntKind.i64.wrap r)) (fun _ => va rfl) ?_
  refine pp (i := 9) rfl (wanted_0 rfl) rfl (.int .i64 (IntKind.i64.wrap a2)) (fun _ => va rfl) ?_
  refine hp_nil ?_
  refine qn (xs (xr ?_))
  refine lv rfl rfl (vm rfl) (lv rfl rfl (vr rfl rfl rfl) (lv rfl rfl (vm rfl) (lv rfl rfl (vr rfl rfl rfl) (lv rfl rfl (va rfl) ?_))))
  refine ln (qn (xs (xs (xr ?_))))
  refine lv rfl rfl (vm rfl) (lv rfl rfl (vm rfl) (lv rfl rfl (v := (.int .i64 (a1 : Int))) (hv_len (n := a1) TyTB.u25 rfl) (lv rfl rfl (vr rfl rfl rfl) ?_)))
  refine ln (qn ?_)
  refine xc (b := decide ((IntKind.i64.wrap ((IntKind.i64.wrap (24 + (IntKind.i64.wrap r))) + (IntKind.i64.wrap a2))) > (a1 : Int))) rfl (fun b3 => ?_) (fun b3 => ?_)
  ·replace H := H.1 b3
   refine xs (xr ?_)
   refine lv rfl rfl (v := (.agg #[(.int .i64 0), (.int .u64 0), (.string ByteArray.empty), (.string ByteArray.empty)])) (vb (vs := []) (cs := #[(.int .i64 0), (.int .u64 0), (.string ByteArray.empty), (.string ByteArray.empty)]) TyTB.z43 TyTB.pl43 rfl (by kernel_rfl)) ?_
   refine lp rfl rfl (hn_stores (vs := [(.int .i64 0), (.int .u64 0), (.string ByteArray.empty), (.string ByteArray.empty)]) rfl rfl TyTB.sz43 rfl (HWs_row b2 (by simp)) ?_)
   intro h3 b4
   have a3 : h3[pb]? = some (.cells #[(.int .i64 0), (.int .u64 0), (.string ByteArray.empty), (.string ByteArray.empty)] 43 (0, 0)) := row_hsets_eq b4 b2 rfl
   replace H := H h3 (fr_hsets_of b4)
   refine lv rfl rfl (va rfl) (lv rfl rfl (va rfl) ?_)
   refine ln (qn (xt (qr ?_)))
   exact endQ_ret _ (res_three Tryd.results85 (rv_cell (vs := [(.int .i64 0), (.int .u64 0), (.string ByteArray.empty), (.string ByteArray.empty)]) TyTB.agg43 TyTB.sz43 rfl (cc (rc a3 rfl) (cc (rc a3 rfl) (cc (rc a3 rfl) (cc (rc a3 rfl) cn))))) (rv_tmp rfl) (rv_tmp rfl)) H
  ·replace H := H.2 b3
   refine xi (qn (xs ?_))
   refine hx_draw TyTB.mixed [.pure, .pure, .read, .pure, .pure, .pure, .read, .pure, .pure, .pure, .pure, .read, .pure, .pure, .pure, .pure, .pure, .read, .pure, .pure, .wild, .pure, .pure] [0, 1, 2, 3, 4, 5, 6, 7, 8, 9, 10, 11, 12, 13, 14, 15, 16, 17, 18, 19, 20, 21, 22] (by kernel_rfl) ?_
   refine pp (i := 0) rfl (wanted_0 rfl) rfl (.slice b a1 a0) (fun _ => vm rfl) ?_
   obtain ⟨a6, a5, e6, c6, c9, Hq⟩ := H
   subst e6
   have H := Hq; clear Hq
   refine pp (i := 1) rfl (wanted_0 rfl) rfl (ptr a6 (a5 + (Int.toNat 0) * 1)) (fun _ => vi TyTB.el25 rfl rfl c6 c9) ?_
   obtain ⟨x, c5, H⟩ := H
   refine pr (i := 2) rfl (wanted_0 rfl) rfl (.int .u8 x) (fun _ he => vl TyTB.agg5 rfl (Ext.cell he c5)) ?_
   refine pp (i := 3) rfl (wanted_0 rfl) rfl (.int .i64 (IntKind.i64.wrap x)) (fun _ => hv_convInt TyTB.u5 TyTB.u3 rfl) ?_
   refine pp (i := 4) rfl (wanted_0 rfl) rfl (.slice (some ⟨a6, a5, none⟩) a1 a0) (fun _ => vm rfl) ?_
   obtain ⟨d9, d8, d7, H⟩ := H
   obtain ⟨a8, hq27⟩ : ∃ q, q = slA (some ⟨a6, a5, none⟩) (Int.toNat 8) 1 a0 := ⟨_, rfl⟩
   replace H := H a8 hq27
   refine pp (i := 5) rfl (wanted_0 rfl) rfl (.slice a8 (Int.toNat 16 - Int.toNat 8) (a0 - Int.toNat 8)) (fun _ => hv_slice (l := 8) (r := 16) TyTB.u25 TyTB.sz5 rfl (sl_some rfl) (sh_some rfl) d9 d8 d7 hq27) ?_
   obtain ⟨a7, c4, H⟩ := H
   refine pr (i := 6) rfl (wanted_0 rfl) rfl (.int .u64 a7) (fun _ he => hv_call TyTB.cb60 (vs := [(.slice a8 (Int.toNat 16 - Int.toNat 8) (a0 - Int.toNat 8))]) rfl (c4 _ he)) ?_
   refine pp (i := 7) rfl (wanted_0 rfl) rfl (.slice (some ⟨a6, a5, none⟩) a1 a0) (fun _ => vm rfl) ?_
   refine pp (i := 8) rfl (wanted_0 rfl) rfl (.int .i64 (IntKind.i64.wrap r)) (fun _ => vm rfl) ?_
   refine pp (i := 9) rfl (wanted_0 rfl) rfl (.int .i64 (IntKind.i64.wrap (24 + (IntKind.i64.wrap r)))) (fun _ => vr rfl rfl rfl) ?_
   obtain ⟨c3, d0, d2, H⟩ := H
   obtain ⟨b1, hq32⟩ : ∃ q, q = slA (some ⟨a6, a5, none⟩) (Int.toNat 24) 1 a0 := ⟨_, rfl⟩
   replace H := H b1 hq32
   refine pp (i := 10) rfl (wanted_0 rfl) rfl (.slice b1 (Int.toNat (IntKind.i64.wrap (24 + (IntKind.i64.wrap r))) - Int.toNat 24) (a0 - Int.toNat 24)) (fun _ => hv_slice (l := 24) (r := IntKind.i64.wrap (24 + (IntKind.i64.wrap r))) TyTB.u25 TyTB.sz5 rfl (sl_some rfl) (sh_some rfl) c3 d0 d2 hq32) ?_
   obtain ⟨bs, e0, H⟩ := H
   refine pr (i := 11) rfl (wanted_0 rfl) rfl (.string (ofL bs)) (fun _ he => hv_b2s TyTB.u25 TyTB.u5 TyTB.u9 rfl (Byt.ext he e0)) ?_
   refine pp (i := 12) rfl (wanted_0 rfl) rfl (.slice (some ⟨a6, a5, none⟩) a1 a0) (fun _ => vm rfl) ?_
   refine pp (i := 13) rfl (wanted_0 rfl) rfl (.int .i64 (IntKind.i64.wrap r)) (fun _ => vm rfl) ?_
   refine pp (i := 14) rfl (wanted_0 rfl) rfl (.int .i64 (IntKind.i64.wrap (24 + (IntKind.i64.wrap r)))) (fun _ => vr rfl rfl rfl) ?_
   refine pp (i := 15) rfl (wanted_0 rfl) rfl (.int .i64 (IntKind.i64.wrap ((IntKind.i64.wrap (24 + (IntKind.i64.wrap r))) + (IntKind.i64.wrap a2)))) (fun _ => vm rfl) ?_
   obtain ⟨e1, d4, d1, H⟩ := H
   obtain ⟨b0, hq37⟩ : ∃ q, q = slA (some ⟨a6, a5, none⟩) (Int.toNat (IntKind.i64.wrap (24 + (IntKind.i64.wrap r)))) 1 a0 := ⟨_, rfl⟩
   replace H := H b0 hq37
   refine pp (i := 16) rfl (wanted_0 rfl) rfl (.slice b0 (Int.toNat (IntKind.i64.wrap ((IntKind.i64.wrap (24 + (IntKind.i64.wrap r))) + (IntKind.i64.wrap a2))) - Int.toNat (IntKind.i64.wrap (24 + (IntKind.i64.wrap r)))) (a0 - Int.toNat (IntKind.i64.wrap (24 + (IntKind.i64.wrap r))))) (fun _ => hv_slice (l := IntKind.i64.wrap (24 + (IntKind.i64.wrap r))) (r := IntKind.i64.wrap ((IntKind.i64.wrap (24 + (IntKind.i64.wrap r))) + (IntKind.i64.wrap a2))) TyTB.u25 TyTB.sz5 rfl (sl_some rfl) (sh_some rfl) e1 d4 d1 hq37) ?_
   obtain ⟨a4, e2, H⟩ := H
   refine pr (i := 17) rfl (wanted_0 rfl) rfl (.string (ofL a4)) (fun _ he => hv_b2s TyTB.u25 TyTB.u5 TyTB.u9 rfl (Byt.ext he e2)) ?_
   refine pp (i := 18) rfl (wanted_0 rfl) rfl (.agg #[(.int .i64 (IntKind.i64.wrap x)), (.int .u64 a7), (.string (ofL bs)), (.string (ofL a4))]) (fun _ => vb (vs := [(0, (.int .i64 (IntKind.i64.wrap x))), (1, (.int .u64 a7)), (2, (.string (ofL bs))), (3, (.string (ofL a4)))]) (cs := #[(.int .i64 (IntKind.i64.wrap x)), (.int .u64 a7), (.string (ofL bs)), (.string (ofL a4))]) TyTB.z43 TyTB.pl43 rfl (by kernel_rfl)) ?_
   refine pp (i := 19) rfl (wanted_0 rfl) rfl (.int .i64 (IntKind.i64.wrap ((IntKind.i64.wrap (24 + (IntKind.i64.wrap r))) + (IntKind.i64.wrap a2)))) (fun _ => vm rfl) ?_
   refine hp_wild (i := 20) rfl (wanted_0 rfl) rfl (hn_stores (vs := [(.int .i64 (IntKind.i64.wrap x)), (.int .u64 a7), (.string (ofL bs)), (.string (ofL a4))]) rfl rfl TyTB.sz43 rfl (HWs_row b2 (by simp)) ?_)
   intro h4 b6
   have a3 : h4[pb]? = some (.cells #[(.int .i64 (IntKind.i64.wrap x)), (.int .u64 a7), (.string (ofL bs)), (.string (ofL a4))] 43 (0, 0)) := row_hsets_eq b6 b2 rfl
   replace H := H h4 (fr_hsets_of b6)
   refine pp (i := 21) rfl (wanted_0 rfl) rfl (.int .i64 (IntKind.i64.wrap ((IntKind.i64.wrap (24 + (IntKind.i64.wrap r))) + (IntKind.i64.wrap a2)))) (fun _ => va rfl) ?_
   refine pp (i := 22) rfl (wanted_0 rfl) rfl (.bool true) (fun _ => va rfl) ?_
   refine hp_nil ?_
   refine qn (xt ?_)
   exact endQ_ret _ (res_three Tryd.results85 (rv_cell (vs := [(.int .i64 (IntKind.i64.wrap x)), (.int .u64 a7), (.string (ofL bs)), (.string (ofL a4))]) TyTB.agg43 TyTB.sz43 rfl (cc (rc a3 rfl) (cc (rc a3 rfl) (cc (rc a3 rfl) (cc (rc a3 rfl) cn))))) (rv_tmp rfl) (rv_tmp rfl)) H
theorem f65_sh (b6 : Int) (b4 : Int) (a9 : Int) (b3 : Int) (c9 : Int) (b7 : Option Addr) (a0 : Nat) (a5 : Nat) (a2 : Int) (h : Heap) (R : Value → Heap → Prop)
  (H : (∀ (g : Nat) (pb : Nat) (c0 : Nat) (h4 : Heap), Array.size h ≤ g → g < Array.size h4 → Array.size h ≤ pb → pb < Array.size h4 → Array.size h ≤ c0 → c0 < Array.size h4 → Ext h h4 → HC Tryd.prog 59 #[(.agg #[(.int .i64 b6), (.int .i64 b4), (.int .i64 a9), (.int .i64 b3)])] h4 (fun vv h5 => Ext h4 h5 ∧ ∃ r : Int, vv = (.int .i64 r) ∧ (((r != 0) = true → (∀ h6, Fr (fun i => i = pb) h5 h6 → R (.tuple #[(.agg #[(.int .i64 0), (.int .u64 0), (.string ByteArray.empty), (.string ByteArray.empty)]), (.int .i64 0), (.int .i64 r)]) h6)) ∧ ((r != 0) = false → ((((decide (a2 < 0)) || (decide (a2 > (a0 : Int)))) = true → (∀ h7, Fr (fun i => i = pb) h5 h7 → R (.tuple #[(.agg #[(.int .i64 0), (.int .u64 0), (.string ByteArray.empty), (.string ByteArray.empty)]), (.int .i64 0), (.int .i64 1)]) h7)) ∧ (((decide (a2 < 0)) || (decide (a2 > (a0 : Int)))) = false → (∃ d3 : Bool, (((a2 == (a0 : Int)) = true → (d3 = true)) ∧ ((a2 == (a0 : Int)) = false → (∃ c7 c6 : Nat, b7 = some ⟨c7, c6, none⟩ ∧ (0 : Int) ≤ a2 ∧ a2 < (a0 : Int) ∧ (∃ x : Int, hcell h5 c7 (c6 + (Int.toNat a2) * 1) = some (.int .u8 x) ∧ (d3 = (x == 255)))))) ∧ ((d3 = true → (∀ h8, Fr (fun i => i = pb) h5 h8 → R (.tuple #[(.agg #[(.int .i64 0), (.int .u64 0), (.string ByteArray.empty), (.string ByteArray.empty)]), (.int .i64 0), (.int .i64 53)]) h8)) ∧ (d3 = false → (0 ≤ (a2 : Int) ∧ a2 ≤ (a0 : Int) ∧ (a0 : Int) ≤ (a5 : Int) ∧ ∀ sl : Option Addr, sl = slA b7 (Int.toNat a2) 1 a5 → HC Tryd.prog 85 #[(.slice sl (Int.toNat (a0 : Int) - Int.toNat a2) (a5 - Int.toNat a2))] h5 (fun vv h9 => Kp [g, pb, c0] h5 h9 ∧ ∃ a6 a3 : Int, ∃ a7 a4 : ByteArray, ∃ r1 : Int, ∃ r2 : Bool, vv = (.tuple #[(.agg #[(.int .i64 a6), (.int .u64 a3), (.string a7), (.string a4)]), (.int .i64 r1), (.bool r2)]) ∧ (((!r2) = true → (∀ (c5 : Nat) (c4 : Heap), Array.size h9 ≤ c5 → c5 < Array.size c4 → Ext h9 c4 → (∀ e8, Fr (fun i => i = pb) c4 e8 → R (.tuple #[(.agg #[(.int .i64 0), (.int .u64 0), (.string ByteArray.empty), (.string ByteArray.empty)]), (.int .i64 0), (.int .i64 52)]) e8))) ∧ ((!r2) = false → (∀ (c5 : Nat) (c4 : Heap), Array.size h9 ≤ c5 → c5 < Array.size c4 → Ext h9 c4 → HC Tryd.prog 86 #[(.agg #[(.int .i64 b6), (.int .i64 b4), (.int .i64 a9), (.int .i64 b3)]), (.int .u32 c9), (.agg #[(.int .i64 a6), (.int .u64 a3), (.string a7), (.string a4)])] c4 (fun vv d6 => Ext c4 d6 ∧ ∃ r0 : Option Addr, ∃ c2 c3 : Nat, ∃ c1 : Int, vv = (.tuple #[(.slice r0 c2 c3), (.int .i64 c1)]) ∧ (∃ d2 : Bool, (((c1 != 0) = true → (d2 = true)) ∧ ((c1 != 0) = false → (0 ≤ (a2 : Int) ∧ a2 ≤ IntKind.i64.wrap (a2 + r1) ∧ IntKind.i64.wrap (a2 + r1) ≤ (a5 : Int) ∧ ∀ d0 : Option Addr, d0 = slA b7 (Int.toNat a2) 1 a5 → (∃ d1 : Bool, HC Tryd.prog 62 #[(.slice r0 c2 c3), (.slice d0 (Int.toNat (IntKind.i64.wrap (a2 + r1)) - Int.toNat a2) (a5 - Int.toNat a2))] d6 (fun vv h' => vv = (.bool d1) ∧ h' = d6) ∧ (d2 = (!d1)))))) ∧ ((d2 = true → (∀ f0, Fr (fun i => i = pb) d6 f0 → R (.tuple #[(.agg #[(.int .i64 0), (.int .u64 0), (.string ByteArray.empty), (.string ByteArray.empty)]), (.int .i64 0), (.int .i64 52)]) f0)) ∧ (d2 = false → (∀ e9, Fr (fun i => i = pb) d6 e9 → R (.tuple #[(.agg #[(.int .i64 a6), (.int .u64 a3), (.string a7), (.string a4)]), (.int .i64 r1), (.int .i64 0)]) e9)))))))))))))))))))) :
  HC Tryd.prog 65 #[(.agg #[(.int .i64 b6), (.int .i64 b4), (.int .i64 a9), (.int .i64 b3)]), (.int .u32 c9), (.slice b7 a0 a5), (.int .i64 a2)] h R := by
 refine hc_of (args := [(.agg #[(.int .i64 b6), (.int .i64 b4), (.int .i64 a9), (.int .i64 b3)]), (.int .u32 c9), (.slice b7 a0 a5), (.int .i64 a2)]) Tryd.func65 rfl Tryd.ntmps65 (Nat.le_of_ble_eq_true rfl) ?_
 refine xs (xr ?_)
 refine lp rfl rfl (hn_box (v := (.agg #[(.int .i64 b6), (.int .i64 b4), (.int .i64 a9), (.int .i64 b3)])) rfl ?_)
 intro g h1 i5 i6
 have i7 := ext_pushed_f11_sh i6
 have k6 : Array.size h ≤ g := Nat.le_of_eq (Eq.symm i5)
 have b0 : h1[g]? = some (.cells #[(.int .i64 b6), (.int .i64 b4), (.int .i64 a9), (.int .i64 b3)] 24 (0, 0)) := by rw [i6]; exact push_new i5
 refine lp rfl rfl (hn_alloc TyTB.z43 ?_)
 intro pb h2 i1 i8
 have i4 := ext_pushed_f11_sh i8
 have e7 := Nat.ne_of_lt (Nat.lt_of_lt_of_eq (row_lt b0) (Eq.symm i1))
 have j2 : Array.size h ≤ pb := Nat.le_trans (Ext.size i7) (Nat.le_of_eq (Eq.symm i1))
 have b5 : h2[pb]? = some (.cells #[(.int .i64 0), (.int .u64 0), (.string ByteArray.empty), (.string ByteArray.empty)] 43 (0, 0)) := by rw [i8]; exact push_new i1
 replace b0 := Ext.row i4 b0
 have g8 := Ext.trans i7 i4
 refine lv rfl rfl (va rfl) (lv rfl rfl (va rfl) ?_)
 refine ln (qn (xs (xr ?_)))
 refine lv rfl rfl (v := (.agg #[(.int .i64 0), (.int .u64 0), (.string ByteArray.empty), (.string ByteArray.empty)])) (vb (vs := []) (cs := #[(.int .i64 0), (.int .u64 0), (.string ByteArray.empty), (.string ByteArray.empty)]) TyTB.z43 TyTB.pl43 rfl (by kernel_rfl)) ?_
 refine lp rfl rfl (hn_alloc TyTB.z43 ?_)
 intro c0 h3 e2 g5
 have g1 := ext_pushed_f11_sh g5
 have k4 := Nat.ne_of_lt (Nat.lt_of_lt_of_eq (row_lt b0) (Eq.symm e2))
 have c8 := Nat.ne_of_lt (Nat.lt_of_lt_of_eq (row_lt b5) (Eq.symm e2))
 have i0 : Array.size h ≤ c0 := Nat.le_trans (Ext.size g8) (Nat.le_of_eq (Eq.symm e2))
 have g9 : h3[c0]? = some (.cells #[(.int .i64 0), (.int .u64 0), (.string ByteArray.empty), (.string ByteArray.empty)] 43 (0, 0)) := by rw [g5]; exact push_new e2
 replace b0 := Ext.row g1 b0
 replace b5 := Ext.row g1 b5
 have k0 := Ext.trans g8 g1
 refine lp rfl rfl (hn_stores (vs := [(.int .i64 0), (.int .u64 0), (.string ByteArray.empty), (.string ByteArray.empty)]) rfl rfl TyTB.sz43 rfl (HWs_row g9 (by simp)) ?_)
 intro h4 e6
 replace b0 := row_hsets_ne e6 k4 b0
 replace b5 := row_hsets_ne e6 c8 b5
 have a1 : h4[c0]? = some (.cells #[(.int .i64 0), (.int .u64 0), (.string ByteArray.empty), (.string ByteArray.empty)] 43 (0, 0)) := row_hsets_eq e6 g9 rfl
 have j4 := ext_hsets e6 k0 i0
 refine ln (qn (xs (xs (xr ?_))))
 refine lv rfl rfl (vL (vs := [(.int .i64 b6), (.int .i64 b4), (.int .i64 a9), (.int .i64 b3)]) TyTB.agg24 TyTB.sz24 rfl (cc (rc b0 rfl) (cc (rc b0 rfl) (cc (rc b0 rfl) (cc (rc b0 rfl) cn))))) ?_
 replace H := H g pb c0 h4 k6 (row_lt b0) j2 (row_lt b5) i0 (row_lt a1) j4
 refine lp rfl rfl (sc TyTB.cb59 rfl (HC.mono H ?_))
 rintro _ h5 ⟨f3, r, rfl, H⟩
 replace b0 := Ext.row f3 b0
 replace b5 := Ext.row f3 b5
 replace a1 := Ext.row f3 a1
 refine lv rfl rfl (va rfl) ?_
 refine ln (qn (xs (xr ?_)))
 refine lv rfl rfl (vm rfl) (lv rfl rfl (vr rfl rfl rfl) ?_)
 refine ln (qn ?_)
 refine xc (b := r != 0) rfl (fun g2 => ?_) (fun g2 => ?_)
 ·replace H := H.1 g2
  refine xs (xr ?_)
  refine lv rfl rfl (vL (vs := [(.int .i64 0), (.int .u64 0), (.string ByteArray.empty), (.string ByteArray.empty)]) TyTB.agg43 TyTB.sz43 rfl (cc (rc a1 rfl) (cc (rc a1 rfl) (cc (rc a1 rfl) (cc (rc a1 rfl) cn))))) (lv rfl rfl (vm rfl) ?_)
  refine lp rfl rfl (hn_stores (vs := [(.int .i64 0), (.int .u64 0), (.string ByteArray.empty), (.string ByteArray.empty)]) rfl rfl TyTB.sz43 rfl (HWs_row b5 (by simp)) ?_)
  intro h6 e1
  replace b0 := row_hsets_ne e1 e7 b0
  replace a1 := row_hsets_ne e1 (Ne.symm c8) a1
  have a8 : h6[pb]? = some (.cells #[(.int .i64 0), (.int .u64 0), (.string ByteArray.empty), (.string ByteArray.empty)] 43 (0, 0)) := row_hsets_eq e1 b5 rfl
  replace H := H h6 (fr_hsets_of e1)
  refine lv rfl rfl (va rfl) (lv rfl rfl (va rfl) ?_)
  refine ln (qn (xt (qr ?_)))
  exact endQ_ret _ (res_three Tryd.results65 (rv_cell (vs := [(.int .i64 0), (.int .u64 0), (.string ByteArray.empty), (.string ByteArray.empty)]) TyTB.agg43 TyTB.sz43 rfl (cc (rc a8 rfl) (cc (rc a8 rfl) (cc (rc a8 rfl) (cc (rc a8 rfl) cn))))) (rv_tmp rfl) (rv_tmp rfl)) H
 ·replace H := H.2 g2
  refine xi (qn (xs (xb ?_)))
  refine xk (fun ρ h' => h5 = h' ∧ Has ρ [(1, (.int .u32 c9)), (2, (.slice b7 a0 a5)), (3, (.int .i64 a2)), (4, (ptr g 0)), (8, (ptr pb 0)), (11, (ptr c0 0)), (25, (.bool ((decide (a2 < 0)) || (decide (a2 > (a0 : Int))))))]) ?_ ?_
  ·refine xr ?_
   refine lv rfl rfl (vm rfl) (lv rfl rfl (vr rfl rfl rfl) (lv rfl rfl (vm rfl) ?_))
   rcases bool_or (decide (a2 < 0)) with b9 | b9
   ·refine lo (wanted_n rfl rfl rfl b9) rfl ?_
    refine lo (wanted_n rfl rfl rfl b9) rfl ?_
    refine lo (wanted_n rfl rfl rfl b9) rfl ?_
    refine lo (wanted_n rfl rfl rfl b9) rfl ?_
    refine lv rfl rfl (v := (.bool true)) (hv_pick_t rfl b9 rfl) (lv rfl rfl (va rfl) ?_)
    refine ln (qn ?_)
    exact ⟨rfl, (hc rfl (hc rfl (hc rfl (hc rfl (hc rfl (hc rfl (hc (show ((.bool true) : Value) = (.bool ((decide (a2 < 0)) || (decide (a2 > (a0 : Int))))) from (by first | rfl | ((try rw [b9]); all_goals first | rfl | (simp only [Bool.true_or, Bool.or_true, Bool.false_or, Bool.or_false, Bool.true_and, Bool.and_true, Bool.false_and, Bool.and_false, Bool.not_true, Bool.not_false, Bool.cond_true, Bool.cond_false]; done)) | simp [b9])) hn)))))))⟩
   ·refine ly (wanted_y rfl rfl rfl b9) rfl (HStep.of_val (v := (.int .i64 a2)) (vm rfl) ?_)
    refine ly (wanted_y rfl rfl rfl b9) rfl (HStep.of_val (v := (.slice b7 a0 a5)) (vm rfl) ?_)
    refine ly (wanted_y rfl rfl rfl b9) rfl (HStep.of_val (v := (.int .i64 (a0 : Int))) (hv_len (n := a0) TyTB.u25 rfl) ?_)
    refine ly (wanted_y rfl rfl rfl b9) rfl (HStep.of_val (v := (.bool (decide (a2 > (a0 : Int))))) (vr rfl rfl rfl) ?_)
    refine lv rfl rfl (v := (.bool (decide (a2 > (a0 : Int))))) (hv_pick_f rfl b9 rfl) (lv rfl rfl (va rfl) ?_)
    refine ln (qn ?_)
    exact ⟨rfl, (hc rfl (hc rfl (hc rfl (hc rfl (hc rfl (hc rfl (hc (show ((.bool (decide (a2 > (a0 : Int)))) : Value) = (.bool ((decide (a2 < 0)) || (decide (a2 > (a0 : Int))))) from (by first | rfl | ((try rw [b9]); all_goals first | rfl | (simp only [Bool.true_or, Bool.or_true, Bool.false_or, Bool.or_false, Bool.true_and, Bool.and_true, Bool.false_and, Bool.and_false, Bool.not_true, Bool.not_false, Bool.cond_true, Bool.cond_false]; done)) | simp [b9])) hn)))))))⟩
  ·rintro ρ _ ⟨rfl, hH⟩
   refine xh _ hH ?_
   refine xc (b := ((decide (a2 < 0)) || (decide (a2 > (a0 : Int))))) rfl (fun f1 => ?_) (fun f1 => ?_)
   ·replace H := H.1 f1
    refine xs (xr ?_)
    refine lv rfl rfl (vL (vs := [(.int .i64 0), (.int .u64 0), (.string ByteArray.empty), (.string ByteArray.empty)]) TyTB.agg43 TyTB.sz43 rfl (cc (rc a1 rfl) (cc (rc a1 rfl) (cc (rc a1 rfl) (cc (rc a1 rfl) cn))))) ?_
    refine lp rfl rfl (hn_stores (vs := [(.int .i64 0), (.int .u64 0), (.string ByteArray.empty), (.string ByteArray.empty)]) rfl rfl TyTB.sz43 rfl (HWs_row b5 (by simp)) ?_)
    intro h7 d9
    replace b0 := row_hsets_ne d9 e7 b0
    replace a1 := row_hsets_ne d9 (Ne.symm c8) a1
    have a8 : h7[pb]? = some (.cells #[(.int .i64 0), (.int .u64 0), (.string ByteArray.empty), (.string ByteArray.empty)] 43 (0, 0)) := row_hsets_eq d9 b5 rfl
    replace H := H h7 (fr_hsets_of d9)
    refine lv rfl rfl (va rfl) (lv rfl rfl (va rfl) ?_)
    refine ln (qn (xt (br (qr ?_))))
    exact endQ_ret _ (res_three Tryd.results65 (rv_cell (vs := [(.int .i64 0), (.int .u64 0), (.string ByteArray.empty), (.string ByteArray.empty)]) TyTB.agg43 TyTB.sz43 rfl (cc (rc a8 rfl) (cc (rc a8 rfl) (cc (rc a8 rfl) (cc (rc a8 rfl) cn))))) (rv_tmp rfl) (rv_tmp rfl)) H
   ·replace H := H.2 f1
    obtain ⟨d3, f7, f2⟩ := H
    refine xk (fun ρ h' => h5 = h' ∧ Has ρ [(1, (.int .u32 c9)), (2, (.slice b7 a0 a5)), (3, (.int .i64 a2)), (4, (ptr g 0)), (8, (ptr pb 0)), (11, (ptr c0 0)), (35, (.bool d3))]) ?_ ?_
    ·have H := f7; clear f7 f2
     refine xr ?_
     refine lv rfl rfl (vm rfl) (lv rfl rfl (vm rfl) (lv rfl rfl (v := (.int .i64 (a0 : Int))) (hv_len (n := a0) TyTB.u25 rfl) (lv rfl rfl (vr rfl rfl rfl) (lv rfl rfl (vm rfl) ?_))))
     rcases bool_or (a2 == (a0 : Int)) with b8 | b8
     ·replace H := H.1 b8
      refine lo (wanted_n rfl rfl rfl b8) rfl ?_
      refine lo (wanted_n rfl rfl rfl b8) rfl ?_
      refine lo (wanted_n rfl rfl rfl b8) rfl ?_
      refine lo (wanted_n rfl rfl rfl b8) rfl ?_
      refine lo (wanted_n rfl rfl rfl b8) rfl ?_
      refine lv rfl rfl (v := (.bool true)) (hv_pick_t rfl b8 rfl) (lv rfl rfl (va rfl) ?_)
      refine ln (qn ?_)
      obtain rfl := H
      exact ⟨rfl, (hc rfl (hc rfl (hc rfl (hc rfl (hc rfl (hc rfl (hc rfl hn)))))))⟩
     ·replace H := H.2 b8
      refine ly (wanted_y rfl rfl rfl b8) rfl (HStep.of_val (v := (.slice b7 a0 a5)) (vm rfl) ?_)
      refine ly (wanted_y rfl rfl rfl b8) rfl (HStep.of_val (v := (.int .i64 a2)) (vm rfl) ?_)
      obtain ⟨c7, c6, k5, j5, j6, Hq⟩ := H
      subst k5
      have H := Hq; clear Hq
      refine ly (wanted_y rfl rfl rfl b8) rfl (HStep.of_val (v := (ptr c7 (c6 + (Int.toNat a2) * 1))) (vi TyTB.el25 rfl rfl j5 j6) ?_)
      obtain ⟨x, j7, H⟩ := H
      refine ly (wanted_y rfl rfl rfl b8) rfl (HStep.of_val (v := (.int .u8 x)) (vl TyTB.agg5 rfl j7) ?_)
      refine ly (wanted_y rfl rfl rfl b8) rfl (HStep.of_val (v := (.bool (x == 255))) (vr rfl rfl rfl) ?_)
      refine lv rfl rfl (v := (.bool (x == 255))) (hv_pick_f rfl b8 rfl) (lv rfl rfl (va rfl) ?_)
      refine ln (qn ?_)
      obtain rfl := H
      exact ⟨rfl, (hc rfl (hc rfl (hc rfl (hc rfl (hc rfl (hc rfl (hc rfl hn)))))))⟩
    ·have H := f2; clear f7 f2
     rintro ρ _ ⟨rfl, hH⟩
     refine xh _ hH ?_
     refine xc (b := d3) rfl (fun f9 => ?_) (fun f9 => ?_)
     ·replace H := H.1 f9
      refine xs (xr ?_)
      refine lv rfl rfl (vL (vs := [(.int .i64 0), (.int .u64 0), (.string ByteArray.empty), (.string ByteArray.empty)]) TyTB.agg43 TyTB.sz43 rfl (cc (rc a1 rfl) (cc (rc a1 rfl) (cc (rc a1 rfl) (cc (rc a1 rfl) cn))))) ?_
      refine lp rfl rfl (hn_stores (vs := [(.int .i64 0), (.int .u64 0), (.string ByteArray.empty), (.string ByteArray.empty)]) rfl rfl TyTB.sz43 rfl (HWs_row b5 (by simp)) ?_)
      intro h8 d8
      replace b0 := row_hsets_ne d8 e7 b0
      replace a1 := row_hsets_ne d8 (Ne.symm c8) a1
      have a8 : h8[pb]? = some (.cells #[(.int .i64 0), (.int .u64 0), (.string ByteArray.empty), (.string ByteArray.empty)] 43 (0, 0)) := row_hsets_eq d8 b5 rfl
      replace H := H h8 (fr_hsets_of d8)
      refine lv rfl rfl (va rfl) (lv rfl rfl (va rfl) ?_)
      refine ln (qn (xt (br (qr ?_))))
      exact endQ_ret _ (res_three Tryd.results65 (rv_cell (vs := [(.int .i64 0), (.int .u64 0), (.string ByteArray.empty), (.string ByteArray.empty)]) TyTB.agg43 TyTB.sz43 rfl (cc (rc a8 rfl) (cc (rc a8 rfl) (cc (rc a8 rfl) (cc (rc a8 rfl) cn))))) (rv_tmp rfl) (rv_tmp rfl)) H
     ·replace H := H.2 f9
      refine xi (bn (qn (xs (xr ?_))))
      refine lv rfl rfl (vm rfl) (lv rfl rfl (vm rfl) ?_)
      obtain ⟨j8, j9, j0, H⟩ := H
      obtain ⟨sl, hq42⟩ : ∃ q, q = slA b7 (Int.toNat a2) 1 a5 := ⟨_, rfl⟩
      replace H := H sl hq42
      refine lv rfl rfl (v := (.slice sl (Int.toNat (a0 : Int) - Int.toNat a2) (a5 - Int.toNat a2))) (hv_slice (l := a2) (r := (a0 : Int)) TyTB.u25 TyTB.sz5 rfl (sl_some rfl) sh_none j8 j9 j0 hq42) ?_
      refine lp rfl rfl (sc TyTB.cb85 rfl (HC.mono H ?_))
      rintro _ h9 ⟨g3, a6, a3, a7, a4, r1, r2, rfl, H⟩
      replace b0 := Kp.row g3 (by simp) b0
      replace b5 := Kp.row g3 (by simp) b5
      replace a1 := Kp.row g3 (by simp) a1
      refine lv rfl rfl (vm rfl) (lv rfl rfl (vx rfl rfl) (lv rfl rfl (vx rfl rfl) (lv rfl rfl (vx rfl rfl) ?_)))
      refine lp rfl rfl (hn_alloc TyTB.z43 ?_)
      intro c5 i3 d5 g6
      have e5 := ext_pushed_f11_sh g6
      have k3 := Nat.ne_of_lt (Nat.lt_of_lt_of_eq (row_lt b0) (Eq.symm d5))
      have e4 := Nat.ne_of_lt (Nat.lt_of_lt_of_eq (row_lt b5) (Eq.symm d5))
      have i9 := Nat.ne_of_lt (Nat.lt_of_lt_of_eq (row_lt a1) (Eq.symm d5))
      have g4 : Array.size h9 ≤ c5 := Nat.le_of_eq (Eq.symm d5)
      have g7 : i3[c5]? = some (.cells #[(.int .i64 0), (.int .u64 0), (.string ByteArray.empty), (.string ByteArray.empty)] 43 (0, 0)) := by rw [g6]; exact push_new d5
      replace b0 := Ext.row e5 b0
      replace b5 := Ext.row e5 b5
      replace a1 := Ext.row e5 a1
      refine lp rfl rfl (hn_stores (vs := [(.int .i64 a6), (.int .u64 a3), (.string a7), (.string a4)]) rfl rfl TyTB.sz43 rfl (HWs_row g7 (by simp)) ?_)
      intro c4 d7
      replace b0 := row_hsets_ne d7 k3 b0
      replace b5 := row_hsets_ne d7 e4 b5
      replace a1 := row_hsets_ne d7 i9 a1
      have b2 : c4[c5]? = some (.cells #[(.int .i64 a6), (.int .u64 a3), (.string a7), (.string a4)] 43 (0, 0)) := row_hsets_eq d7 g7 rfl
      have i2 := ext_hsets d7 e5 g4
      refine lv rfl rfl (va rfl) (lv rfl rfl (va rfl) ?_)
      refine ln (qn (xs (xs (xr ?_))))
      refine lv rfl rfl (vm rfl) (lv rfl rfl (v := (.bool (!r2))) (hv_not (b := r2) rfl) ?_)
      refine ln (qn ?_)
      refine xc (b := !r2) rfl (fun g0 => ?_) (fun g0 => ?_)
      ·replace H := H.1 g0
       refine xs (xr ?_)
       refine lv rfl rfl (vL (vs := [(.int .i64 0), (.int .u64 0), (.string ByteArray.empty), (.string ByteArray.empty)]) TyTB.agg43 TyTB.sz43 rfl (cc (rc a1 rfl) (cc (rc a1 rfl) (cc (rc a1 rfl) (cc (rc a1 rfl) cn))))) ?_
       replace H := H c5 c4 g4 (row_lt b2) i2
       refine lp rfl rfl (hn_stores (vs := [(.int .i64 0), (.int .u64 0), (.string ByteArray.empty), (.string ByteArray.empty)]) rfl rfl TyTB.sz43 rfl (HWs_row b5 (by simp)) ?_)
       intro e8 d4
       replace b0 := row_hsets_ne d4 e7 b0
       replace a1 := row_hsets_ne d4 (Ne.symm c8) a1
       replace b2 := row_hsets_ne d4 (Ne.symm e4) b2
       have a8 : e8[pb]? = some (.cells #[(.int .i64 0), (.int .u64 0), (.string ByteArray.empty), (.string ByteArray.empty)] 43 (0, 0)) := row_hsets_eq d4 b5 rfl
       replace H := H e8 (fr_hsets_of d4)
       refine lv rfl rfl (va rfl) (lv rfl rfl (va rfl) ?_)
       refine ln (qn (xt (qr ?_)))
       exact endQ_ret _ (res_three Tryd.results65 (rv_cell (vs := [(.int .i64 0), (.int .u64 0), (.string ByteArray.empty), (.string ByteArray.empty)]) TyTB.agg43 TyTB.sz43 rfl (cc (rc a8 rfl) (cc (rc a8 rfl) (cc (rc a8 rfl) (cc (rc a8 rfl) cn))))) (rv_tmp rfl) (rv_tmp rfl)) H
      ·replace H := H.2 g0
       refine xi (qn (xs (xr ?_)))
       refine lv rfl rfl (vL (vs := [(.int .i64 b6), (.int .i64 b4), (.int .i64 a9), (.int .i64 b3)]) TyTB.agg24 TyTB.sz24 rfl (cc (rc b0 rfl) (cc (rc b0 rfl) (cc (rc b0 rfl) (cc (rc b0 rfl) cn))))) (lv rfl rfl (vm rfl) (lv rfl rfl (vL (vs := [(.int .i64 a6), (.int .u64 a3), (.string a7), (.string a4)]) TyTB.agg43 TyTB.sz43 rfl (cc (rc b2 rfl) (cc (rc b2 rfl) (cc (rc b2 rfl) (cc (rc b2 rfl) cn))))) ?_))
       replace H := H c5 c4 g4 (row_lt b2) i2
       refine lp rfl rfl (sc TyTB.cb86 rfl (HC.mono H ?_))
       rintro _ d6 ⟨f8, r0, c2, c3, c1, rfl, H⟩
       replace b5 := Ext.row f8 b5
       replace a1 := Ext.row f8 a1
       replace b2 := Ext.row f8 b2
       refine lv rfl rfl (vm rfl) (lv rfl rfl (vx rfl rfl) (lv rfl rfl (vx rfl rfl) (lv rfl rfl (va rfl) (lv rfl rfl (va rfl) ?_))))
       refine ln (qn (xs ?_))
       obtain ⟨d2, f4, f5⟩ := H
       refine xk (fun ρ h' => d6 = h' ∧ Has ρ [(8, (ptr pb 0)), (11, (ptr c0 0)), (13, (ptr c5 0)), (14, (.int .i64 r1)), (78, (.bool d2))]) ?_ ?_
       ·have H := f4; clear f4 f5
        refine xr ?_
        refine lv rfl rfl (vm rfl) (lv rfl rfl (vr rfl rfl rfl) (lv rfl rfl (vm rfl) ?_))
        rcases bool_or (c1 != 0) with b1 | b1
        ·replace H := H.1 b1
         refine lo (wanted_n rfl rfl rfl b1) rfl ?_
         refine lo (wanted_n rfl rfl rfl b1) rfl ?_
         refine lo (wanted_n rfl rfl rfl b1) rfl ?_
         refine lo (wanted_n rfl rfl rfl b1) rfl ?_
         refine lo (wanted_n rfl rfl rfl b1) rfl ?_
         refine lo (wanted_n rfl rfl rfl b1) rfl ?_
         refine lo (wanted_n rfl rfl rfl b1) rfl ?_
         refine lo (wanted_n rfl rfl rfl b1) rfl ?_
         refine lo (wanted_n rfl rfl rfl b1) rfl ?_
         refine lv rfl rfl (v := (.bool true)) (hv_pick_t rfl b1 rfl) ?_
         refine ln (qn ?_)
         obtain rfl := H
         exact ⟨rfl, (hc rfl (hc rfl (hc rfl (hc rfl (hc rfl hn)))))⟩
        ·replace H := H.2 b1
         refine ly (wanted_y rfl rfl rfl b1) rfl (HStep.of_val (v := (.slice r0 c2 c3)) (vm rfl) ?_)
         refine ly (wanted_y rfl rfl rfl b1) rfl (HStep.of_val (v := (.slice b7 a0 a5)) (vm rfl) ?_)
         refine ly (wanted_y rfl rfl rfl b1) rfl (HStep.of_val (v := (.int .i64 a2)) (vm rfl) ?_)
         refine ly (wanted_y rfl rfl rfl b1) rfl (HStep.of_val (v := (.int .i64 a2)) (vm rfl) ?_)
         refine ly (wanted_y rfl rfl rfl b1) rfl (HStep.of_val (v := (.int .i64 r1)) (vm rfl) ?_)
         refine ly (wanted_y rfl rfl rfl b1) rfl (HStep.of_val (v := (.int .i64 (IntKind.i64.wrap (a2 + r1)))) (vr rfl rfl rfl) ?_)
         obtain ⟨j1, j3, k2, H⟩ := H
         obtain ⟨d0, hq63⟩ : ∃ q, q = slA b7 (Int.toNat a2) 1 a5 := ⟨_, rfl⟩
         replace H := H d0 hq63
         refine ly (wanted_y rfl rfl rfl b1) rfl (HStep.of_val (v := (.slice d0 (Int.toNat (IntKind.i64.wrap (a2 + r1)) - Int.toNat a2) (a5 - Int.toNat a2))) (hv_slice (l := a2) (r := IntKind.i64.wrap (a2 + r1)) TyTB.u25 TyTB.sz5 rfl (sl_some rfl) (sh_some rfl) j1 j3 k2 hq63) ?_)
         obtain ⟨d1, k1, H⟩ := H
         refine ly (wanted_y rfl rfl rfl b1) rfl (HStep.of_val (v := (.bool d1)) (hv_call TyTB.cb62 (vs := [(.slice r0 c2 c3), (.slice d0 (Int.toNat (IntKind.i64.wrap (a2 + r1)) - Int.toNat a2) (a5 - Int.toNat a2))]) rfl k1) ?_)
         refine ly (wanted_y rfl rfl rfl b1) rfl (HStep.of_val (v := (.bool (!d1))) (hv_not (b := d1) rfl) ?_)
         refine lv rfl rfl (v := (.bool (!d1))) (hv_pick_f rfl b1 rfl) ?_
         refine ln (qn ?_)
         obtain rfl := H
         exact ⟨rfl, (hc rfl (hc rfl (hc rfl (hc rfl (hc rfl hn)))))⟩
       ·have H := f5; clear f4 f5
        rintro ρ _ ⟨rfl, hH⟩
        refine xh _ hH ?_
        refine xc (b := d2) rfl (fun f6 => ?_) (fun f6 => ?_)
        ·replace H := H.1 f6
         refine xs (xr ?_)
         refine lv rfl rfl (vL (vs := [(.int .i64 0), (.int .u64 0), (.string ByteArray.empty), (.string ByteArray.empty)]) TyTB.agg43 TyTB.sz43 rfl (cc (rc a1 rfl) (cc (rc a1 rfl) (cc (rc a1 rfl) (cc (rc a1 rfl) cn))))) ?_
         refine lp rfl rfl (hn_stores (vs := [(.int .i64 0), (.int .u64 0), (.string ByteArray.empty), (.string ByteArray.empty)]) rfl rfl TyTB.sz43 rfl (HWs_row b5 (by simp)) ?_)
         intro f0 e0
         replace a1 := row_hsets_ne e0 (Ne.symm c8) a1
         replace b2 := row_hsets_ne e0 (Ne.symm e4) b2
         have a8 : f0[pb]? = some (.cells #[(.int .i64 0), (.int .u64 0), (.string ByteArray.empty), (.string ByteArray.empty)] 43 (0, 0)) := row_hsets_eq e0 b5 rfl
         replace H := H f0 (fr_hsets_of e0)
         refine lv rfl rfl (va rfl) (lv rfl rfl (va rfl) ?_)
         refine ln (qn (xt (qr ?_)))
         exact endQ_ret _ (res_three Tryd.results65 (rv_cell (vs := [(.int .i64 0), (.int .u64 0), (.string ByteArray.empty), (.string ByteArray.empty)]) TyTB.agg43 TyTB.sz43 rfl (cc (rc a8 rfl) (cc (rc a8 rfl) (cc (rc a8 rfl) (cc (rc a8 rfl) cn))))) (rv_tmp rfl) (rv_tmp rfl)) H
        ·replace H := H.2 f6
         refine xi (qn (xs (xr ?_)))
         refine lv rfl rfl (vL (vs := [(.int .i64 a6), (.int .u64 a3), (.string a7), (.string a4)]) TyTB.agg43 TyTB.sz43 rfl (cc (rc b2 rfl) (cc (rc b2 rfl) (cc (rc b2 rfl) (cc (rc b2 rfl) cn))))) (lv rfl rfl (vm rfl) ?_)
         refine lp rfl rfl (hn_stores (vs := [(.int .i64 a6), (.int .u64 a3), (.string a7), (.string a4)]) rfl rfl TyTB.sz43 rfl (HWs_row b5 (by simp)) ?_)
         intro e9 e3
         replace a1 := row_hsets_ne e3 (Ne.symm c8) a1
         replace b2 := row_hsets_ne e3 (Ne.symm e4) b2
         have a8 : e9[pb]? = some (.cells #[(.int .i64 a6), (.int .u64 a3), (.string a7), (.string a4)] 43 (0, 0)) := row_hsets_eq e3 b5 rfl
         replace H := H e9 (fr_hsets_of e3)
         refine lv rfl rfl (va rfl) (lv rfl rfl (va rfl) ?_)
         refine ln (qn (xt ?_))
         exact endQ_ret _ (res_three Tryd.results65 (rv_cell (vs := [(.int .i64 a6), (.int .u64 a3), (.string a7), (.string a4)]) TyTB.agg43 TyTB.sz43 rfl (cc (rc a8 rfl) (cc (rc a8 rfl) (cc (rc a8 rfl) (cc (rc a8 rfl) cn))))) (rv_tmp rfl) (rv_tmp rfl)) H
theorem f62_sh (a : Option Addr) (a1 : Nat) (a4 : Nat) (b : Option Addr) (a2 : Nat) (a3 : Nat) (h : Heap) (R : Value → Heap → Prop)
  (H : (∃ bs : List Int, Byt h a a1 bs ∧ (∃ a0 : List Int, Byt h b a2 a0 ∧ R (.bool (decide ((ofL bs) = (ofL a0)))) h))) :
  HC Tryd.prog 62 #[(.slice a a1 a4), (.slice b a2 a3)] h R := by
 refine hc_of (args := [(.slice a a1 a4), (.slice b a2 a3)]) Tryd.func62 rfl Tryd.ntmps62 (Nat.le_of_ble_eq_true rfl) ?_
 refine xs (xr ?_)
 refine lv rfl rfl (va rfl) ?_
 refine ln (qn (xs (xr ?_)))
 refine lv rfl rfl (vm rfl) ?_
 obtain ⟨bs, a5, H⟩ := H
 refine lv rfl rfl (v := (.string (ofL bs))) (hv_b2s TyTB.u25 TyTB.u5 TyTB.u9 rfl a5) (lv rfl rfl (vm rfl) ?_)
 obtain ⟨a0, a6, H⟩ := H
 refine lv rfl rfl (v := (.string (ofL a0))) (hv_b2s TyTB.u25 TyTB.u5 TyTB.u9 rfl a6) (lv rfl rfl (v := (.bool (decide ((ofL bs) = (ofL a0))))) (hv_str rfl rfl rfl) (lv rfl rfl (va rfl) ?_))
 refine ln (qn (xt ?_))
 exact endQ_ret _ (res_one Tryd.results62 (rv_tmp rfl)) H
end Go.Proofs.YthjehlocmikchaaDoor
