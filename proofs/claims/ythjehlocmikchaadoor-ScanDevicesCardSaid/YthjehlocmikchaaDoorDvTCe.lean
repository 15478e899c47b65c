import Derived.Test.YthjehlocmikchaaDoorDvDeq
import Derived.Test.YthjehlocmikchaaDoorDvDrw
import Derived.Test.YthjehlocmikchaaDoorDvRng
import Derived.Test.YthjehlocmikchaaDoorDvTBb
import Derived.Test.YthjehlocmikchaaDoorProg
namespace Go.Proofs.YthjehlocmikchaaDoor
open Go
open Go.Proofs.YthjehlocmikchaaDoor renaming hl_val → lv, hl_step → lp, hl_nil → ln, hl_yes → ly, hl_no → lo, hx_seq → xs, hx_region → xr, hx_cond → xc, hx_block → xb, hx_loopT → xl, hx_cut → xk, hx_has → xh, hx_skip → xi, hx_ret → xt, hx_exit → xe, seqQ_n → qn, seqQ_ret → qr, seqQ_exit → qe, blockQ_n → bn, blockQ_ret → br, blockQ_here → bh, hv_move → vm, hv_assign → va, hv_arith → vr, hv_load → vl, hv_loads → vL, hv_extract → vx, hv_field → vf, hv_index → vi, has_cons → hc, has_nil → hn, hcells_cons → cc, hcells_nil → cn, rowcell → rc, hs_call → sc, ht_one → to
set_option maxRecDepth 100000
set_option maxHeartbeats 4000000
theorem TyTCe.agg24 : aggB Tryd.prog 24 = some true := by kernel_rfl
theorem TyTCe.agg25 : aggB Tryd.prog 25 = some false := by kernel_rfl
theorem TyTCe.agg3 : aggB Tryd.prog 3 = some false := by kernel_rfl
theorem TyTCe.agg36 : aggB Tryd.prog 36 = some true := by kernel_rfl
theorem TyTCe.cb12 : CallB Tryd.prog 12 := fun _ _ => Tryd.call12 _ _
theorem TyTCe.cb13 : CallB Tryd.prog 13 := fun _ _ => Tryd.call13 _ _
theorem TyTCe.cb16 : CallB Tryd.prog 16 := fun _ _ => Tryd.call16 _ _
theorem TyTCe.cb26 : CallB Tryd.prog 26 := fun _ _ => Tryd.call26 _ _
theorem TyTCe.cb28 : CallB Tryd.prog 28 := fun _ _ => Tryd.call28 _ _
theorem TyTCe.cb31 : CallB Tryd.prog 31 := fun _ _ => Tryd.call31 _ _
theorem TyTCe.cb45 : CallB Tryd.prog 45 := fun _ _ => Tryd.call45 _ _
theorem TyTCe.cb48 : CallB Tryd.prog 48 := fun _ _ => Tryd.call48 _ _
theorem TyTCe.cb50 : CallB Tryd.prog 50 := fun _ _ => Tryd.call50 _ _
theorem TyTCe.el65 : elB Tryd.prog 65 = some 9 := by kernel_rfl
theorem TyTCe.el71 : elB Tryd.prog 71 = some 1 := by kernel_rfl
theorem TyTCe.fld24_2 : fldB Tryd.prog 24 2 = some 2 := by kernel_rfl
theorem TyTCe.mixed : Tryd.prog.follows .mixedOrders = true := by kernel_rfl
theorem TyTCe.sz24 : szB Tryd.prog 24 = some 4 := by kernel_rfl
theorem TyTCe.sz25 : szB Tryd.prog 25 = some 1 := by kernel_rfl
theorem TyTCe.sz36 : szB Tryd.prog 36 = some 9 := by kernel_rfl
theorem TyTCe.sz5 : szB Tryd.prog 5 = some 1 := by kernel_rfl
theorem TyTCe.u25 : Tryd.prog.underlying 25 = some (.slice 5) := by kernel_rfl
theorem TyTCe.u65 : Tryd.prog.underlying 65 = some (.slice 36) := by kernel_rfl
theorem TyTCe.u71 : Tryd.prog.underlying 71 = some (.slice 3) := by kernel_rfl
theorem TyTCe.z36 : zeroB Tryd.prog 36 (.agg #[(.int .i64 0), (.bool false), (.int .u64 0), (.int .u64 0), (.int .i64 0), (.slice none 0 0), (.int .i64 0), (.int .i64 0), (.bool false)]) := by unfold zeroB; kernel_rfl
theorem ext_pushed_f51_sh {h h1 : Heap} {o : Obj} (e : h1 = Array.push h o) : Ext h h1 := by rw [e]; exact Ext.push _ _
theorem f23_sh (b8 : Int) (a9 : Int) (a1 : Int) (b0 : Int) (d9 : Option Addr) (c8 : Nat) (c5 : Nat) (h : Heap) (R : Value → Heap → Prop)
  (H : (∃ A9 : Bool → Heap → Prop, (∀ (g : Nat) (h1 : Heap), Array.size h ≤ g → g < Array.size h1 → Ext h h1 → HC Tryd.prog 16 #[(.agg #[(.int .i64 b8), (.int .i64 a9), (.int .i64 a1), (.int .i64 b0)])] h1 (fun vv h3 => Ext h1 h3 ∧ ∃ r : Int, vv = (.int .i64 r) ∧ (((r != 0) = true → (A9 true h3)) ∧ ((r != 0) = false → HC Tryd.prog 50 #[(.agg #[(.int .i64 b8), (.int .i64 a9), (.int .i64 a1), (.int .i64 b0)])] h3 (fun vv h4 => Ext h3 h4 ∧ ∃ f9 : Int, vv = (.int .i64 f9) ∧ (A9 ((c8 : Int) != f9) h4)))))) ∧ (∀ (j : Bool) (h2 : Heap), A9 j h2 → ∀ (g : Nat), Array.size h ≤ g → g < Array.size h2 → ((j = true → R (.slice none 0 0) h2) ∧ (j = false → HC Tryd.prog 45 #[(.agg #[(.int .i64 b8), (.int .i64 a9), (.int .i64 a1), (.int .i64 b0)])] h2 (fun vv h5 => Ext h2 h5 ∧ ∃ c7 : Int, vv = (.int .i64 c7) ∧ (∃ (f6 : Option Addr → Nat → Nat → Int → Heap → Prop) (f4 : Option Addr → Nat → Nat → Int → Heap → Nat), f6 none 0 0 0 h5 ∧ (∀ (e5 : Option Addr) (d1 : Nat) (d3 : Nat) (b9 : Int) (h6 : Heap), f6 e5 d1 d3 b9 h6 → (((decide (b9 < a1)) = true → (∃ f7 : Nat → Nat → Heap → Prop, (0 ≤ (IntKind.i64.wrap (b9 * c7) : Int) ∧ IntKind.i64.wrap (b9 * c7) ≤ IntKind.i64.wrap ((IntKind.i64.wrap (b9 + 1)) * c7) ∧ IntKind.i64.wrap ((IntKind.i64.wrap (b9 + 1)) * c7) ≤ (c5 : Int) ∧ ∀ sl : Option Addr, sl = slA d9 (Int.toNat (IntKind.i64.wrap (b9 * c7))) 1 c5 → ((HC Tryd.prog 13 #[(.agg #[(.int .i64 b8), (.int .i64 a9), (.int .i64 a1), (.int .i64 b0)]), (.int .i64 b9), (.slice sl (Int.toNat (IntKind.i64.wrap ((IntKind.i64.wrap (b9 + 1)) * c7)) - Int.toNat (IntKind.i64.wrap (b9 * c7))) (c5 - Int.toNat (IntKind.i64.wrap (b9 * c7))))] h6 (fun vv h8 => Ext h6 h8 ∧ ∃ b7 : Int, ∃ c6 : Bool, ∃ a4 a0 a2 : Int, ∃ b1 : Option Addr, ∃ a5 a6 : Nat, ∃ b5 b2 : Int, ∃ b6 : Bool, ∃ r1 : Int, vv = (.tuple #[(.agg #[(.int .i64 b7), (.bool c6), (.int .u64 a4), (.int .u64 a0), (.int .i64 a2), (.slice b1 a5 a6), (.int .i64 b5), (.int .i64 b2), (.bool b6)]), (.int .i64 r1)]) ∧ (∀ sv h9, sv = Array.size h8 → h9 = Array.push h8 (.cells #[(.int .i64 0), (.bool false), (.int .u64 0), (.int .u64 0), (.int .i64 0), (.slice none 0 0), (.int .i64 0), (.int .i64 0), (.bool false)] 36) → (HWs h9 sv 0 9 ∧ Off sv [g] ∧ ∀ g9, g9 = hsets h9 sv 0 [(.int .i64 b7), (.bool c6), (.int .u64 a4), (.int .u64 a0), (.int .i64 a2), (.slice b1 a5 a6), (.int .i64 b5), (.int .i64 b2), (.bool b6)] → (f7 sv 0 g9))))) ∧ ((∀ sv f3, sv = Array.size h6 → f3 = Array.push h6 (.cells #[(.int .i64 0), (.bool false), (.int .u64 0), (.int .u64 0), (.int .i64 0), (.slice none 0 0), (.int .i64 0), (.int .i64 0), (.bool false)] 36) → HC Tryd.prog 13 #[(.agg #[(.int .i64 b8), (.int .i64 a9), (.int .i64 a1), (.int .i64 b0)]), (.int .i64 b9), (.slice sl (Int.toNat (IntKind.i64.wrap ((IntKind.i64.wrap (b9 + 1)) * c7)) - Int.toNat (IntKind.i64.wrap (b9 * c7))) (c5 - Int.toNat (IntKind.i64.wrap (b9 * c7))))] f3 (fun vv g8 => Ext f3 g8 ∧ ∃ b7 : Int, ∃ c6 : Bool, ∃ a4 a0 a2 : Int, ∃ b1 : Option Addr, ∃ a5 a6 : Nat, ∃ b5 b2 : Int, ∃ b6 : Bool, ∃ r1 : Int, vv = (.tuple #[(.agg #[(.int .i64 b7), (.bool c6), (.int .u64 a4), (.int .u64 a0), (.int .i64 a2), (.slice b1 a5 a6), (.int .i64 b5), (.int .i64 b2), (.bool b6)]), (.int .i64 r1)]) ∧ (HWs g8 sv 0 9 ∧ Off sv [g] ∧ ∀ g6, g6 = hsets g8 sv 0 [(.int .i64 b7), (.bool c6), (.int .u64 a4), (.int .u64 a0), (.int .i64 a2), (.slice b1 a5 a6), (.int .i64 b5), (.int .i64 b2), (.bool b6)] → (f7 sv 0 g6))))))) ∧ (∀ (e3 : Nat) (e4 : Nat) (h7 : Heap), f7 e3 e4 h7 → (∃ c4 : Int, ∃ c9 : Bool, ∃ a8 a3 a7 : Int, ∃ c1 : Option Addr, ∃ b3 b4 : Nat, ∃ c3 c0 : Int, ∃ c2 : Bool, hcell h7 e3 e4 = some (.int .i64 c4) ∧ hcell h7 e3 (e4 + 1) = some (.bool c9) ∧ hcell h7 e3 (e4 + 2) = some (.int .u64 a8) ∧ hcell h7 e3 (e4 + 3) = some (.int .u64 a3) ∧ hcell h7 e3 (e4 + 4) = some (.int .i64 a7) ∧ hcell h7 e3 (e4 + 5) = some (.slice c1 b3 b4) ∧ hcell h7 e3 (e4 + 6) = some (.int .i64 c3) ∧ hcell h7 e3 (e4 + 7) = some (.int .i64 c0) ∧ hcell h7 e3 (e4 + 8) = some (.bool c2) ∧ (∀ nb f2, nb = Array.size h7 → f2 = Array.push h7 (.cells #[(.int .i64 c4), (.bool c9), (.int .u64 a8), (.int .u64 a3), (.int .i64 a7), (.slice c1 b3 b4), (.int .i64 c3), (.int .i64 c0), (.bool c2)] 36) → HAppend Tryd.prog 65 65 (.slice e5 d1 d3) (.slice (some ⟨nb, 0, none⟩) 1 1) f2 (fun vv i0 => Kp [g] f2 i0 ∧ ∃ ap : Option Addr, ∃ d8 d7 : Nat, vv = (.slice ap d8 d7) ∧ (f6 ap d8 d7 (IntKind.i64.wrap (b9 + 1)) i0 ∧ f4 ap d8 d7 (IntKind.i64.wrap (b9 + 1)) i0 < f4 e5 d1 d3 b9 h6))))))) ∧ ((decide (b9 < a1)) = false → HC Tryd.prog 28 #[(.slice e5 d1 d3)] h6 (fun vv j7 => ∃ g7 : Option Addr, ∃ e6 j5 : Nat, vv = (.slice g7 e6 j5) ∧ (∃ (f8 : Option Addr → Nat → Nat → Int → Heap → Prop) (f5 : Option Addr → Nat → Nat → Int → Heap → Nat), f8 none 0 0 0 j7 ∧ (∀ (e7 : Option Addr) (e0 : Nat) (e1 : Nat) (v : Int) (d6 : Heap), f8 e7 e0 e1 v d6 → (((decide (v < (e6 : Int))) = true → (∃ f0 e9 : Nat, g7 = some ⟨f0, e9, none⟩ ∧ (0 : Int) ≤ v ∧ v < (e6 : Int) ∧ (∃ x : Int, hcell d6 f0 (e9 + (Int.toNat v) * 1) = some (.int .i64 x) ∧ (∃ d4 d2 : Nat, e5 = some ⟨d4, d2, none⟩ ∧ (0 : Int) ≤ x ∧ x < (d1 : Int) ∧ (∃ c4 : Int, ∃ c9 : Bool, ∃ a8 a3 a7 : Int, ∃ c1 : Option Addr, ∃ b3 b4 : Nat, ∃ c3 c0 : Int, ∃ c2 : Bool, hcell d6 d4 (d2 + (Int.toNat x) * 9) = some (.int .i64 c4) ∧ hcell d6 d4 ((d2 + (Int.toNat x) * 9) + 1) = some (.bool c9) ∧ hcell d6 d4 ((d2 + (Int.toNat x) * 9) + 2) = some (.int .u64 a8) ∧ hcell d6 d4 ((d2 + (Int.toNat x) * 9) + 3) = some (.int .u64 a3) ∧ hcell d6 d4 ((d2 + (Int.toNat x) * 9) + 4) = some (.int .i64 a7) ∧ hcell d6 d4 ((d2 + (Int.toNat x) * 9) + 5) = some (.slice c1 b3 b4) ∧ hcell d6 d4 ((d2 + (Int.toNat x) * 9) + 6) = some (.int .i64 c3) ∧ hcell d6 d4 ((d2 + (Int.toNat x) * 9) + 7) = some (.int .i64 c0) ∧ hcell d6 d4 ((d2 + (Int.toNat x) * 9) + 8) = some (.bool c2) ∧ (∀ nb g0, nb = Array.size d6 → g0 = Array.push d6 (.cells #[(.int .i64 c4), (.bool c9), (.int .u64 a8), (.int .u64 a3), (.int .i64 a7), (.slice c1 b3 b4), (.int .i64 c3), (.int .i64 c0), (.bool c2)] 36) → HAppend Tryd.prog 65 65 (.slice e7 e0 e1) (.slice (some ⟨nb, 0, none⟩) 1 1) g0 (fun vv j0 => ∃ ap : Option Addr, ∃ d8 d7 : Nat, vv = (.slice ap d8 d7) ∧ (f8 ap d8 d7 (IntKind.i64.wrap (v + 1)) j0 ∧ f5 ap d8 d7 (IntKind.i64.wrap (v + 1)) j0 < f5 e7 e0 e1 v d6)))))))) ∧ ((decide (v < (e6 : Int))) = false → R (.slice e7 e0 e1) d6))))))))))))))) :
  HC Tryd.prog 23 #[(.agg #[(.int .i64 b8), (.int .i64 a9), (.int .i64 a1), (.int .i64 b0)]), (.slice d9 c8 c5)] h R := by
 refine hc_of (args := [(.agg #[(.int .i64 b8), (.int .i64 a9), (.int .i64 a1), (.int .i64 b0)]), (.slice d9 c8 c5)]) Tryd.func23 rfl Tryd.ntmps23 (Nat.le_of_ble_eq_true rfl) ?_
 refine xs (xr ?_)
 refine lp rfl rfl (hn_box (v := (.agg #[(.int .i64 b8), (.int .i64 a9), (.int .i64 a1), (.int .i64 b0)])) rfl ?_)
 intro g h1 j6 j9
 have o7 := ext_pushed_f51_sh j9
 have j8 : Array.size h ≤ g := Nat.le_of_eq (Eq.symm j6)
 have e2 : h1[g]? = some (.cells #[(.int .i64 b8), (.int .i64 a9), (.int .i64 a1), (.int .i64 b0)] 24 (0, 0)) := by rw [j9]; exact push_new j6
 refine lv rfl rfl (va rfl) ?_
 refine ln (qn (xs ?_))
 obtain ⟨A9, i3, i4⟩ := H
 refine xk (fun ρ h' => ∃ j : Bool, (A9 j h' ∧ h'[g]? = some (.cells #[(.int .i64 b8), (.int .i64 a9), (.int .i64 a1), (.int .i64 b0)] 24 (0, 0)) ∧ True) ∧ Has ρ [(1, (.slice d9 c8 c5)), (2, (ptr g 0)), (22, (.bool j))]) ?_ ?_
 ·have H := i3; clear i3 i4
  refine xr ?_
  refine lv rfl rfl (vL (vs := [(.int .i64 b8), (.int .i64 a9), (.int .i64 a1), (.int .i64 b0)]) TyTCe.agg24 TyTCe.sz24 rfl (cc (rc e2 rfl) (cc (rc e2 rfl) (cc (rc e2 rfl) (cc (rc e2 rfl) cn))))) ?_
  replace H := H g h1 j8 (row_lt e2) o7
  refine lp rfl rfl (sc TyTCe.cb16 rfl (HC.mono H ?_))
  rintro _ h3 ⟨m7, r, rfl, H⟩
  replace e2 := Ext.row m7 e2
  refine lv rfl rfl (vr rfl rfl rfl) (lv rfl rfl (vm rfl) ?_)
  rcases bool_or (r != 0) with d5 | d5
  ·replace H := H.1 d5
   refine lo (wanted_n rfl rfl rfl d5) rfl ?_
   refine lo (wanted_n rfl rfl rfl d5) rfl ?_
   refine lo (wanted_n rfl rfl rfl d5) rfl ?_
   refine lo (wanted_n rfl rfl rfl d5) rfl ?_
   refine lo (wanted_n rfl rfl rfl d5) rfl ?_
   refine lv rfl rfl (v := (.bool true)) (hv_pick_t rfl d5 rfl) ?_
   refine ln (qn ?_)
   exact ⟨_, ⟨H, e2, trivial⟩, (hc rfl (hc rfl (hc rfl hn)))⟩
  ·replace H := H.2 d5
   refine ly (wanted_y rfl rfl rfl d5) rfl (HStep.of_val (v := (.slice d9 c8 c5)) (vm rfl) ?_)
   refine ly (wanted_y rfl rfl rfl d5) rfl (HStep.of_val (v := (.int .i64 (c8 : Int))) (hv_len (n := c8) TyTCe.u25 rfl) ?_)
   refine ly (wanted_y rfl rfl rfl d5) rfl (HStep.of_val (v := (.agg #[(.int .i64 b8), (.int .i64 a9), (.int .i64 a1), (.int .i64 b0)])) (vL (vs := [(.int .i64 b8), (.int .i64 a9), (.int .i64 a1), (.int .i64 b0)]) TyTCe.agg24 TyTCe.sz24 rfl (cc (rc e2 rfl) (cc (rc e2 rfl) (cc (rc e2 rfl) (cc (rc e2 rfl) cn))))) ?_)
   refine ly (wanted_y rfl rfl rfl d5) rfl (sc TyTCe.cb50 rfl (HC.mono H ?_))
   rintro _ h4 ⟨k5, f9, rfl, H⟩
   replace e2 := Ext.row k5 e2
   refine ly (wanted_y rfl rfl rfl d5) rfl (HStep.of_val (v := (.bool ((c8 : Int) != f9))) (vr rfl rfl rfl) ?_)
   refine lv rfl rfl (v := (.bool ((c8 : Int) != f9))) (hv_pick_f rfl d5 rfl) ?_
   refine ln (qn ?_)
   exact ⟨_, ⟨H, e2, trivial⟩, (hc rfl (hc rfl (hc rfl hn)))⟩
 ·rintro ρ h2 ⟨j, ⟨m8, e8, -⟩, hH⟩
  have H := i4 j h2 m8; clear i3 i4
  refine xh _ hH ?_
  replace H := H g j8 (row_lt e8)
  refine xc (b := j) rfl (fun g3 => ?_) (fun g3 => ?_)
  ·replace H := H.1 g3
   refine xs (xr ?_)
   refine lv rfl rfl (va rfl) ?_
   refine ln (qn (xt (qr ?_)))
   exact endQ_ret _ (res_one Tryd.results23 (rv_tmp rfl)) H
  ·replace H := H.2 g3
   refine xi (qn (xs (xr ?_)))
   refine lv rfl rfl (va rfl) ?_
   refine ln (qn (xs (xr ?_)))
   refine lv rfl rfl (vL (vs := [(.int .i64 b8), (.int .i64 a9), (.int .i64 a1), (.int .i64 b0)]) TyTCe.agg24 TyTCe.sz24 rfl (cc (rc e8 rfl) (cc (rc e8 rfl) (cc (rc e8 rfl) (cc (rc e8 rfl) cn))))) ?_
   refine lp rfl rfl (sc TyTCe.cb45 rfl (HC.mono H ?_))
   rintro _ h5 ⟨l4, c7, rfl, H⟩
   replace e8 := Ext.row l4 e8
   refine lv rfl rfl (va rfl) ?_
   refine ln (qn (xs (xs (xr ?_))))
   refine lv rfl rfl (va rfl) ?_
   refine ln (qn (xb ?_))
   obtain ⟨f6, f4, k7, n6⟩ := H
   refine xl (σ := Option Addr × Nat × Nat × Int) (fun s => [(1, (.slice d9 c8 c5)), (2, (ptr g 0)), (5, (.slice s.1 s.2.1 s.2.2.1)), (6, (.int .i64 c7)), (7, (.int .i64 s.2.2.2))]) (fun s h' => f6 s.1 s.2.1 s.2.2.1 s.2.2.2 h' ∧ h'[g]? = some (.cells #[(.int .i64 b8), (.int .i64 a9), (.int .i64 a1), (.int .i64 b0)] 24 (0, 0)) ∧ True) (fun s h' => f4 s.1 s.2.1 s.2.2.1 s.2.2.2 h') (none, 0, 0, 0) ⟨k7, e8, trivial⟩ (hc rfl (hc rfl (hc rfl (hc rfl (hc rfl hn))))) ?_
   rintro ⟨e5, d1, d3, b9⟩ ρ h6 ⟨l6, d0, -⟩
   have H := n6 e5 d1 d3 b9 h6 l6
   refine xs (xs (xr ?_))
   refine lv rfl rfl (vm rfl) (lv rfl rfl (v := (ptr g 2)) (vf TyTCe.fld24_2 (b := g) (o := 0) rfl) (lv rfl rfl (vl TyTCe.agg3 rfl (rc d0 rfl)) (lv rfl rfl (vr rfl rfl rfl) ?_)))
   refine ln (qn ?_)
   refine xc (b := decide (b9 < a1)) rfl (fun g4 => ?_) (fun g4 => ?_)
   ·replace H := H.1 g4
    refine xi (qn (xs (xb ?_)))
    obtain ⟨f7, g5, g2⟩ := H
    refine xk (fun ρ h' => ∃ e3 e4 : Nat, (f7 e3 e4 h' ∧ h'[g]? = some (.cells #[(.int .i64 b8), (.int .i64 a9), (.int .i64 a1), (.int .i64 b0)] 24 (0, 0)) ∧ True) ∧ Has ρ [(1, (.slice d9 c8 c5)), (2, (ptr g 0)), (5, (.slice e5 d1 d3)), (6, (.int .i64 c7)), (7, (.int .i64 b9)), (8, (ptr e3 e4))]) ?_ ?_
    ·have H := g5; clear g5 g2
     refine hx_tree TyTCe.mixed (fun _ _ => True) fit_true [.read, .pure, .pure, .pure, .pure, .pure, .pure, .pure, .pure, .pure, .pure, .ext, .pure, .pure, .pure, .ext, .wild, .pure] (.one 0 (.one 1 (.one 2 (.one 3 (.one 4 (.one 5 (.one 6 (.one 7 (.one 8 (.one 9 (.one 10 (.fork [11, 15] fun k => bif k == 11 then (.one 12 (.one 13 (.one 14 (.one 15 (.one 16 (.one 17 .done)))))) else (.one 11 (.one 12 (.one 13 (.one 14 (.one 16 (.one 17 .done)))))))))))))))))) (by kernel_rfl) ?_
     refine to (ho_read (i := 0) rfl (wanted_0 rfl) rfl (.agg #[(.int .i64 b8), (.int .i64 a9), (.int .i64 a1), (.int .i64 b0)]) (fun _ he => vL (vs := [(.int .i64 b8), (.int .i64 a9), (.int .i64 a1), (.int .i64 b0)]) TyTCe.agg24 TyTCe.sz24 rfl (cc (Ext.cell he (rc d0 rfl)) (cc (Ext.cell he (rc d0 rfl)) (cc (Ext.cell he (rc d0 rfl)) (cc (Ext.cell he (rc d0 rfl)) cn))))) ?_)
     refine to (ho_pure (i := 1) rfl (wanted_0 rfl) rfl (.int .i64 b9) (fun _ => vm rfl) ?_)
     refine to (ho_pure (i := 2) rfl (wanted_0 rfl) rfl (.slice d9 c8 c5) (fun _ => vm rfl) ?_)
     refine to (ho_pure (i := 3) rfl (wanted_0 rfl) rfl (.int .i64 b9) (fun _ => vm rfl) ?_)
     refine to (ho_pure (i := 4) rfl (wanted_0 rfl) rfl (.int .i64 c7) (fun _ => vm rfl) ?_)
     refine to (ho_pure (i := 5) rfl (wanted_0 rfl) rfl (.int .i64 (IntKind.i64.wrap (b9 * c7))) (fun _ => vr rfl rfl rfl) ?_)
     refine to (ho_pure (i := 6) rfl (wanted_0 rfl) rfl (.int .i64 b9) (fun _ => vm rfl) ?_)
     refine to (ho_pure (i := 7) rfl (wanted_0 rfl) rfl (.int .i64 (IntKind.i64.wrap (b9 + 1))) (fun _ => vr rfl rfl rfl) ?_)
     refine to (ho_pure (i := 8) rfl (wanted_0 rfl) rfl (.int .i64 c7) (fun _ => vm rfl) ?_)
     refine to (ho_pure (i := 9) rfl (wanted_0 rfl) rfl (.int .i64 (IntKind.i64.wrap ((IntKind.i64.wrap (b9 + 1)) * c7))) (fun _ => vr rfl rfl rfl) ?_)
     obtain ⟨l3, m6, l1, H⟩ := H
     obtain ⟨sl, hq31⟩ : ∃ q, q = slA d9 (Int.toNat (IntKind.i64.wrap (b9 * c7))) 1 c5 := ⟨_, rfl⟩
     replace H := H sl hq31
     refine to (ho_pure (i := 10) rfl (wanted_0 rfl) rfl (.slice sl (Int.toNat (IntKind.i64.wrap ((IntKind.i64.wrap (b9 + 1)) * c7)) - Int.toNat (IntKind.i64.wrap (b9 * c7))) (c5 - Int.toNat (IntKind.i64.wrap (b9 * c7)))) (fun _ => hv_slice (l := IntKind.i64.wrap (b9 * c7)) (r := IntKind.i64.wrap ((IntKind.i64.wrap (b9 + 1)) * c7)) TyTCe.u25 TyTCe.sz5 rfl (sl_some rfl) (sh_some rfl) l3 m6 l1 hq31) ?_)
     refine ht_fork2 rfl rfl ?_ ?_
     ·replace H := H.1
      refine ho_ext (i := 11) rfl (wanted_0 rfl) rfl (sc TyTCe.cb13 rfl (HC.mono H ?_))
      rintro _ h8 ⟨j1, b7, c6, a4, a0, a2, b1, a5, a6, b5, b2, b6, r1, rfl, H⟩
      refine ⟨j1, ?_⟩
      replace d0 := Ext.row j1 d0
      refine to (ho_pure (i := 12) rfl (wanted_0 rfl) rfl (.tuple #[(.agg #[(.int .i64 b7), (.bool c6), (.int .u64 a4), (.int .u64 a0), (.int .i64 a2), (.slice b1 a5 a6), (.int .i64 b5), (.int .i64 b2), (.bool b6)]), (.int .i64 r1)]) (fun _ => vm rfl) ?_)
      refine to (ho_pure (i := 13) rfl (wanted_0 rfl) rfl (.agg #[(.int .i64 b7), (.bool c6), (.int .u64 a4), (.int .u64 a0), (.int .i64 a2), (.slice b1 a5 a6), (.int .i64 b5), (.int .i64 b2), (.bool b6)]) (fun _ => vx (vs := #[(.agg #[(.int .i64 b7), (.bool c6), (.int .u64 a4), (.int .u64 a0), (.int .i64 a2), (.slice b1 a5 a6), (.int .i64 b5), (.int .i64 b2), (.bool b6)]), (.int .i64 r1)]) rfl rfl) ?_)
      refine to (ho_pure (i := 14) rfl (wanted_0 rfl) rfl (.int .i64 r1) (fun _ => vx (vs := #[(.agg #[(.int .i64 b7), (.bool c6), (.int .u64 a4), (.int .u64 a0), (.int .i64 a2), (.slice b1 a5 a6), (.int .i64 b5), (.int .i64 b2), (.bool b6)]), (.int .i64 r1)]) rfl rfl) ?_)
      refine to (ho_ext (i := 15) rfl (wanted_0 rfl) rfl (hn_alloc TyTCe.z36 ?_))
      intro sv h9 k4 j3
      replace H := H sv h9 k4 j3
      have i7 := ext_pushed_f51_sh j3
      replace d0 := Ext.row i7 d0
      refine ⟨i7, ?_⟩
      obtain ⟨k3, m1, H⟩ := H
      refine to (ho_wild (i := 16) rfl (wanted_0 rfl) rfl (hn_stores (vs := [(.int .i64 b7), (.bool c6), (.int .u64 a4), (.int .u64 a0), (.int .i64 a2), (.slice b1 a5 a6), (.int .i64 b5), (.int .i64 b2), (.bool b6)]) rfl rfl TyTCe.sz36 rfl k3 ?_))
      intro g9 j4
      replace H := H g9 j4
      replace d0 := row_hsets_ne j4 (m1 _ (by simp)) d0
      refine to (ho_pure (i := 17) rfl (wanted_0 rfl) rfl (.int .i64 r1) (fun _ => va rfl) ?_)
      refine ht_done ?_
      refine qn ?_
      exact ⟨_, _, ⟨H, d0, trivial⟩, (hc rfl (hc rfl (hc rfl (hc rfl (hc rfl (hc rfl hn))))))⟩
     ·replace H := H.2
      refine ho_ext (i := 15) rfl (wanted_0 rfl) rfl (hn_alloc TyTCe.z36 ?_)
      intro sv f3 o1 i2
      replace H := H sv f3 o1 i2
      have i1 := ext_pushed_f51_sh i2
      replace d0 := Ext.row i1 d0
      refine ⟨i1, ?_⟩
      refine to (ho_ext (i := 11) rfl (wanted_0 rfl) rfl (sc TyTCe.cb13 rfl (HC.mono H ?_)))
      rintro _ g8 ⟨i6, b7, c6, a4, a0, a2, b1, a5, a6, b5, b2, b6, r1, rfl, H⟩
      refine ⟨i6, ?_⟩
      replace d0 := Ext.row i6 d0
      refine to (ho_pure (i := 12) rfl (wanted_0 rfl) rfl (.tuple #[(.agg #[(.int .i64 b7), (.bool c6), (.int .u64 a4), (.int .u64 a0), (.int .i64 a2), (.slice b1 a5 a6), (.int .i64 b5), (.int .i64 b2), (.bool b6)]), (.int .i64 r1)]) (fun _ => vm rfl) ?_)
      refine to (ho_pure (i := 13) rfl (wanted_0 rfl) rfl (.agg #[(.int .i64 b7), (.bool c6), (.int .u64 a4), (.int .u64 a0), (.int .i64 a2), (.slice b1 a5 a6), (.int .i64 b5), (.int .i64 b2), (.bool b6)]) (fun _ => vx (vs := #[(.agg #[(.int .i64 b7), (.bool c6), (.int .u64 a4), (.int .u64 a0), (.int .i64 a2), (.slice b1 a5 a6), (.int .i64 b5), (.int .i64 b2), (.bool b6)]), (.int .i64 r1)]) rfl rfl) ?_)
      refine to (ho_pure (i := 14) rfl (wanted_0 rfl) rfl (.int .i64 r1) (fun _ => vx (vs := #[(.agg #[(.int .i64 b7), (.bool c6), (.int .u64 a4), (.int .u64 a0), (.int .i64 a2), (.slice b1 a5 a6), (.int .i64 b5), (.int .i64 b2), (.bool b6)]), (.int .i64 r1)]) rfl rfl) ?_)
      obtain ⟨k1, n8, H⟩ := H
      refine to (ho_wild (i := 16) rfl (wanted_0 rfl) rfl (hn_stores (vs := [(.int .i64 b7), (.bool c6), (.int .u64 a4), (.int .u64 a0), (.int .i64 a2), (.slice b1 a5 a6), (.int .i64 b5), (.int .i64 b2), (.bool b6)]) rfl rfl TyTCe.sz36 rfl k1 ?_))
      intro g6 i8
      replace H := H g6 i8
      replace d0 := row_hsets_ne i8 (n8 _ (by simp)) d0
      refine to (ho_pure (i := 17) rfl (wanted_0 rfl) rfl (.int .i64 r1) (fun _ => va rfl) ?_)
      refine ht_done ?_
      refine qn ?_
      exact ⟨_, _, ⟨H, d0, trivial⟩, (hc rfl (hc rfl (hc rfl (hc rfl (hc rfl (hc rfl hn))))))⟩
    ·rintro ρ h7 ⟨e3, e4, ⟨n4, f1, -⟩, hH⟩
     have H := g2 e3 e4 h7 n4; clear g5 g2
     refine xh _ hH ?_
     refine xr ?_
     refine lv rfl rfl (vm rfl) ?_
     obtain ⟨c4, c9, a8, a3, a7, c1, b3, b4, c3, c0, c2, o6, o4, o2, n7, k8, m3, m2, k6, m0, H⟩ := H
     refine lv rfl rfl (vL (vs := [(.int .i64 c4), (.bool c9), (.int .u64 a8), (.int .u64 a3), (.int .i64 a7), (.slice c1 b3 b4), (.int .i64 c3), (.int .i64 c0), (.bool c2)]) TyTCe.agg36 TyTCe.sz36 rfl (cc o6 (cc o4 (cc o2 (cc n7 (cc k8 (cc m3 (cc m2 (cc k6 (cc m0 cn)))))))))) ?_
     refine lp rfl rfl (hn_buildSlice (n := 1) (vs := [(0, (.agg #[(.int .i64 c4), (.bool c9), (.int .u64 a8), (.int .u64 a3), (.int .i64 a7), (.slice c1 b3 b4), (.int .i64 c3), (.int .i64 c0), (.bool c2)]))]) (cs := #[(.int .i64 c4), (.bool c9), (.int .u64 a8), (.int .u64 a3), (.int .i64 a7), (.slice c1 b3 b4), (.int .i64 c3), (.int .i64 c0), (.bool c2)]) TyTCe.u65 TyTCe.sz36 TyTCe.z36 rfl rfl (by kernel_rfl) ?_)
     intro nb f2 l8 j2
     replace H := H nb f2 l8 j2
     have k9 := ext_pushed_f51_sh j2
     replace f1 := Ext.row k9 f1
     refine lp rfl rfl (hs_append rfl rfl (HAppend.mono H ?_))
     rintro _ i0 ⟨n3, ap, d8, d7, rfl, H⟩
     replace f1 := Kp.row n3 (by simp) f1
     refine lv rfl rfl (va rfl) ?_
     refine ln (bn (qn (xr ?_)))
     refine lv rfl rfl (vm rfl) (lv rfl rfl (vr rfl rfl rfl) (lv rfl rfl (va rfl) ?_))
     refine ln (qn ?_)
     exact ⟨(ap, d8, d7, IntKind.i64.wrap (b9 + 1)), ⟨⟨H.1, f1, trivial⟩, H.2⟩, (hc rfl (hc rfl (hc rfl (hc rfl (hc rfl hn)))))⟩
   ·replace H := H.2 g4
    refine xe (qe (qe (bh (qn (xs (xr ?_))))))
    refine lv rfl rfl (va rfl) ?_
    refine ln (qn (xs (xs (xr ?_))))
    refine lv rfl rfl (vm rfl) ?_
    refine lp rfl rfl (sc TyTCe.cb28 rfl (HC.mono H ?_))
    rintro _ j7 ⟨g7, e6, j5, rfl, H⟩
    refine lv rfl rfl (v := (.int .i64 (e6 : Int))) (hv_len (n := e6) TyTCe.u71 rfl) (lv rfl rfl (vm rfl) ?_)
    refine ln (qn (xb ?_))
    obtain ⟨f8, f5, n2, n0⟩ := H
    refine xl (σ := Option Addr × Nat × Nat × Int) (fun s => [(5, (.slice e5 d1 d3)), (10, (.slice s.1 s.2.1 s.2.2.1)), (51, (.slice g7 e6 j5)), (52, (.int .i64 (e6 : Int))), (53, (.int .i64 s.2.2.2))]) (fun s h' => f8 s.1 s.2.1 s.2.2.1 s.2.2.2 h' ∧ True) (fun s h' => f5 s.1 s.2.1 s.2.2.1 s.2.2.2 h') (none, 0, 0, 0) ⟨n2, trivial⟩ (hc rfl (hc rfl (hc rfl (hc rfl (hc rfl hn))))) ?_
    rintro ⟨e7, e0, e1, v⟩ ρ d6 ⟨m9, -⟩
    have H := n0 e7 e0 e1 v d6 m9
    refine xs (xr ?_)
    refine lv rfl rfl (vr rfl rfl rfl) ?_
    refine ln (qn (xs ?_))
    refine xc (b := decide (v < (e6 : Int))) rfl (fun g1 => ?_) (fun g1 => ?_)
    ·replace H := H.1 g1
     refine xi (qn (xs (xb (xs (xr ?_)))))
     obtain ⟨f0, e9, i5, k0, n9, Hq⟩ := H
     subst i5
     have H := Hq; clear Hq
     refine lv rfl rfl (v := (ptr f0 (e9 + (Int.toNat v) * 1))) (vi TyTCe.el71 rfl rfl k0 n9) ?_
     obtain ⟨x, o3, H⟩ := H
     refine lv rfl rfl (vl TyTCe.agg3 rfl o3) (lv rfl rfl (va rfl) ?_)
     refine ln (qn (xr ?_))
     refine lv rfl rfl (vm rfl) (lv rfl rfl (vm rfl) (lv rfl rfl (vm rfl) ?_))
     obtain ⟨d4, d2, i5, k2, o5, Hq⟩ := H
     subst i5
     have H := Hq; clear Hq
     refine lv rfl rfl (v := (ptr d4 (d2 + (Int.toNat x) * 9))) (vi TyTCe.el65 rfl rfl k2 o5) ?_
     obtain ⟨c4, c9, a8, a3, a7, c1, b3, b4, c3, c0, c2, n5, l5, l2, l7, o0, m5, l0, n1, m4, H⟩ := H
     refine lv rfl rfl (vL (vs := [(.int .i64 c4), (.bool c9), (.int .u64 a8), (.int .u64 a3), (.int .i64 a7), (.slice c1 b3 b4), (.int .i64 c3), (.int .i64 c0), (.bool c2)]) TyTCe.agg36 TyTCe.sz36 rfl (cc n5 (cc l5 (cc l2 (cc l7 (cc o0 (cc m5 (cc l0 (cc n1 (cc m4 cn)))))))))) ?_
     refine lp rfl rfl (hn_buildSlice (n := 1) (vs := [(0, (.agg #[(.int .i64 c4), (.bool c9), (.int .u64 a8), (.int .u64 a3), (.int .i64 a7), (.slice c1 b3 b4), (.int .i64 c3), (.int .i64 c0), (.bool c2)]))]) (cs := #[(.int .i64 c4), (.bool c9), (.int .u64 a8), (.int .u64 a3), (.int .i64 a7), (.slice c1 b3 b4), (.int .i64 c3), (.int .i64 c0), (.bool c2)]) TyTCe.u65 TyTCe.sz36 TyTCe.z36 rfl rfl (by kernel_rfl) ?_)
     intro nb g0 l9 i9
     replace H := H nb g0 l9 i9
     have o8 := ext_pushed_f51_sh i9
     refine lp rfl rfl (hs_append rfl rfl (HAppend.mono H ?_))
     rintro _ j0 ⟨ap, d8, d7, rfl, H⟩
     refine lv rfl rfl (va rfl) ?_
     refine ln (bn (qn (xr ?_)))
     refine lv rfl rfl (vr rfl rfl rfl) (lv rfl rfl (vm rfl) ?_)
     refine ln (qn ?_)
     exact ⟨(ap, d8, d7, IntKind.i64.wrap (v + 1)), ⟨⟨H.1, trivial⟩, H.2⟩, (hc rfl (hc rfl (hc rfl (hc rfl (hc rfl hn)))))⟩
    ·replace H := H.2 g1
     refine xe (qe (qe (bh (qn (xs (xr ?_))))))
     refine lv rfl rfl (vm rfl) (lv rfl rfl (va rfl) ?_)
     refine ln (qn (xt ?_))
     exact endQ_ret _ (res_one Tryd.results23 (rv_tmp rfl)) H
theorem f24_sh (a6 : Int) (a4 : Int) (a1 : Int) (a5 : Int) (a7 : Option Addr) (a3 : Nat) (a2 : Nat) (h : Heap) (R : Value → Heap → Prop)
  (H : (∀ g h1, g = Array.size h → h1 = Array.push h (.cells #[(.int .i64 a6), (.int .i64 a4), (.int .i64 a1), (.int .i64 a5)] 24) → (∀ a0 h2, a0 = Array.size h1 → h2 = Array.push h1 (.cells #[(.slice a7 a3 a2)] 25) → (∃ x : Option Addr, ∃ a8 a9 : Nat, hcell h2 a0 0 = some (.slice x a8 a9) ∧ HC Tryd.prog 48 #[(.slice x a8 a9)] h2 (fun vv h3 => ∃ r : Option Addr, ∃ b0 b1 : Nat, vv = (.slice r b0 b1) ∧ (HW h3 a0 0 ∧ ∀ h4, h4 = hset h3 a0 0 (.slice r b0 b1) → R (.func (.func 51) #[] #[(ptr g 0), (ptr a0 0)]) h4)))))) :
  HC Tryd.prog 24 #[(.agg #[(.int .i64 a6), (.int .i64 a4), (.int .i64 a1), (.int .i64 a5)]), (.slice a7 a3 a2)] h R := by
 refine hc_of (args := [(.agg #[(.int .i64 a6), (.int .i64 a4), (.int .i64 a1), (.int .i64 a5)]), (.slice a7 a3 a2)]) Tryd.func24 rfl Tryd.ntmps24 (Nat.le_of_ble_eq_true rfl) ?_
 refine xs (xr ?_)
 refine lp rfl rfl (hn_box (v := (.agg #[(.int .i64 a6), (.int .i64 a4), (.int .i64 a1), (.int .i64 a5)])) rfl ?_)
 intro g h1 b5 b2
 replace H := H g h1 b5 b2
 have b9 := ext_pushed_f51_sh b2
 refine lp rfl rfl (hn_box (v := (.slice a7 a3 a2)) rfl ?_)
 intro a0 h2 b6 b3
 replace H := H a0 h2 b6 b3
 have c0 := ext_pushed_f51_sh b3
 refine lv rfl rfl (va rfl) ?_
 refine ln (qn (xs (xr ?_)))
 obtain ⟨x, a8, a9, b7, H⟩ := H
 refine lv rfl rfl (vl TyTCe.agg25 rfl b7) ?_
 refine lp rfl rfl (sc TyTCe.cb48 rfl (HC.mono H ?_))
 rintro _ h3 ⟨r, b0, b1, rfl, H⟩
 obtain ⟨b8, H⟩ := H
 refine lp rfl rfl (hn_store (v := (.slice r b0 b1)) rfl rfl TyTCe.sz25 rfl b8 ?_)
 intro h4 b4
 replace H := H h4 b4
 refine ln (qn (xs (xr ?_)))
 refine lv rfl rfl (v := (.func (.func 51) #[] #[(ptr g 0), (ptr a0 0)])) (hv_makeFunc (fv := []) (cv := [(ptr g 0), (ptr a0 0)]) rfl rfl) (lv rfl rfl (va rfl) ?_)
 refine ln (qn (xt ?_))
 exact endQ_ret _ (res_one Tryd.results24 (rv_tmp rfl)) H
theorem f51_sh (e0 : Value) (c1 : Nat) (c2 : Nat) (d8 : Nat) (d6 : Nat) (h : Heap) (R : Value → Heap → Prop)
  (H : (∃ e1 d5 d0 d4 : Int, hcell h c1 c2 = some (.int .i64 e1) ∧ hcell h c1 (c2 + 1) = some (.int .i64 d5) ∧ hcell h c1 (c2 + 2) = some (.int .i64 d0) ∧ hcell h c1 (c2 + 3) = some (.int .i64 d4) ∧ HC Tryd.prog 31 #[(.agg #[(.int .i64 e1), (.int .i64 d5), (.int .i64 d0), (.int .i64 d4)])] h (fun vv h1 => Ext h h1 ∧ ∃ r0 r1 r2 : Int, vv = (.tuple #[(.int .i64 r0), (.int .i64 r1), (.int .i64 r2)]) ∧ (∃ j : Bool, (((r2 != 0) = true → (j = true)) ∧ ((r2 != 0) = false → (∃ x : Option Addr, ∃ f1 i5 : Nat, hcell h1 d8 d6 = some (.slice x f1 i5) ∧ (j = (r1 != (f1 : Int)))))) ∧ ((j = true → R (.tuple #[]) h1) ∧ (j = false → (∃ e8 : Int, hcell h1 c1 (c2 + 2) = some (.int .i64 e8) ∧ (∃ (f9 : Option Addr → Nat → Nat → Int → Heap → Prop) (f5 : Option Addr → Nat → Nat → Int → Heap → Nat), f9 none 0 0 0 h1 ∧ (∀ (l : Option Addr) (e2 : Nat) (e4 : Nat) (v : Int) (h2 : Heap), f9 l e2 e4 v h2 → (((decide (v < e8)) = true → (∃ f7 : Nat → Nat → Heap → Prop, (∃ c8 c4 c3 c5 : Int, hcell h2 c1 c2 = some (.int .i64 c8) ∧ hcell h2 c1 (c2 + 1) = some (.int .i64 c4) ∧ hcell h2 c1 (c2 + 2) = some (.int .i64 c3) ∧ hcell h2 c1 (c2 + 3) = some (.int .i64 c5) ∧ (∃ c7 : Option Addr, ∃ f3 d1 : Nat, hcell h2 d8 d6 = some (.slice c7 f3 d1) ∧ (0 ≤ (IntKind.i64.wrap (v * r0) : Int) ∧ IntKind.i64.wrap (v * r0) ≤ IntKind.i64.wrap ((IntKind.i64.wrap (v + 1)) * r0) ∧ IntKind.i64.wrap ((IntKind.i64.wrap (v + 1)) * r0) ≤ (d1 : Int) ∧ ∀ sl : Option Addr, sl = slA c7 (Int.toNat (IntKind.i64.wrap (v * r0))) 1 d1 → ((HC Tryd.prog 12 #[(.agg #[(.int .i64 c8), (.int .i64 c4), (.int .i64 c3), (.int .i64 c5)]), (.int .i64 v), (.slice sl (Int.toNat (IntKind.i64.wrap ((IntKind.i64.wrap (v + 1)) * r0)) - Int.toNat (IntKind.i64.wrap (v * r0))) (d1 - Int.toNat (IntKind.i64.wrap (v * r0))))] h2 (fun vv h4 => Ext h2 h4 ∧ ∃ b4 : Int, ∃ c0 : Bool, ∃ a2 a0 a1 : Int, ∃ a7 : Option Addr, ∃ a4 a5 : Nat, ∃ b2 a9 : Int, ∃ b3 : Bool, ∃ c9 : Int, vv = (.tuple #[(.agg #[(.int .i64 b4), (.bool c0), (.int .u64 a2), (.int .u64 a0), (.int .i64 a1), (.slice a7 a4 a5), (.int .i64 b2), (.int .i64 a9), (.bool b3)]), (.int .i64 c9)]) ∧ (∀ sv h5, sv = Array.size h4 → h5 = Array.push h4 (.cells #[(.int .i64 0), (.bool false), (.int .u64 0), (.int .u64 0), (.int .i64 0), (.slice none 0 0), (.int .i64 0), (.int .i64 0), (.bool false)] 36) → (HWs h5 sv 0 9 ∧ ∀ h6, h6 = hsets h5 sv 0 [(.int .i64 b4), (.bool c0), (.int .u64 a2), (.int .u64 a0), (.int .i64 a1), (.slice a7 a4 a5), (.int .i64 b2), (.int .i64 a9), (.bool b3)] → (f7 sv 0 h6))))) ∧ ((∀ sv h7, sv = Array.size h2 → h7 = Array.push h2 (.cells #[(.int .i64 0), (.bool false), (.int .u64 0), (.int .u64 0), (.int .i64 0), (.slice none 0 0), (.int .i64 0), (.int .i64 0), (.bool false)] 36) → HC Tryd.prog 12 #[(.agg #[(.int .i64 c8), (.int .i64 c4), (.int .i64 c3), (.int .i64 c5)]), (.int .i64 v), (.slice sl (Int.toNat (IntKind.i64.wrap ((IntKind.i64.wrap (v + 1)) * r0)) - Int.toNat (IntKind.i64.wrap (v * r0))) (d1 - Int.toNat (IntKind.i64.wrap (v * r0))))] h7 (fun vv h8 => Ext h7 h8 ∧ ∃ b4 : Int, ∃ c0 : Bool, ∃ a2 a0 a1 : Int, ∃ a7 : Option Addr, ∃ a4 a5 : Nat, ∃ b2 a9 : Int, ∃ b3 : Bool, ∃ c9 : Int, vv = (.tuple #[(.agg #[(.int .i64 b4), (.bool c0), (.int .u64 a2), (.int .u64 a0), (.int .i64 a1), (.slice a7 a4 a5), (.int .i64 b2), (.int .i64 a9), (.bool b3)]), (.int .i64 c9)]) ∧ (HWs h8 sv 0 9 ∧ ∀ h9, h9 = hsets h8 sv 0 [(.int .i64 b4), (.bool c0), (.int .u64 a2), (.int .u64 a0), (.int .i64 a1), (.slice a7 a4 a5), (.int .i64 b2), (.int .i64 a9), (.bool b3)] → (f7 sv 0 h9))))))))) ∧ (∀ (d7 : Nat) (d9 : Nat) (h3 : Heap), f7 d7 d9 h3 → (∃ b8 : Int, ∃ c6 : Bool, ∃ a8 a3 a6 : Int, ∃ b6 : Option Addr, ∃ b0 b1 : Nat, ∃ b9 b5 : Int, ∃ b7 : Bool, hcell h3 d7 d9 = some (.int .i64 b8) ∧ hcell h3 d7 (d9 + 1) = some (.bool c6) ∧ hcell h3 d7 (d9 + 2) = some (.int .u64 a8) ∧ hcell h3 d7 (d9 + 3) = some (.int .u64 a3) ∧ hcell h3 d7 (d9 + 4) = some (.int .i64 a6) ∧ hcell h3 d7 (d9 + 5) = some (.slice b6 b0 b1) ∧ hcell h3 d7 (d9 + 6) = some (.int .i64 b9) ∧ hcell h3 d7 (d9 + 7) = some (.int .i64 b5) ∧ hcell h3 d7 (d9 + 8) = some (.bool b7) ∧ (∀ nb f8, nb = Array.size h3 → f8 = Array.push h3 (.cells #[(.int .i64 b8), (.bool c6), (.int .u64 a8), (.int .u64 a3), (.int .i64 a6), (.slice b6 b0 b1), (.int .i64 b9), (.int .i64 b5), (.bool b7)] 36) → HAppend Tryd.prog 65 65 (.slice l e2 e4) (.slice (some ⟨nb, 0, none⟩) 1 1) f8 (fun vv i6 => ∃ ap : Option Addr, ∃ f0 e9 : Nat, vv = (.slice ap f0 e9) ∧ (f9 ap f0 e9 (IntKind.i64.wrap (v + 1)) i6 ∧ f5 ap f0 e9 (IntKind.i64.wrap (v + 1)) i6 < f5 l e2 e4 v h2))))))) ∧ ((decide (v < e8)) = false → HC Tryd.prog 26 #[(.slice l e2 e4)] h2 (fun vv i8 => ∃ r : Option Addr, ∃ e7 i7 : Nat, vv = (.slice r e7 i7) ∧ (∃ (f6 : Int → Heap → Prop) (f4 : Int → Heap → Nat), f6 0 i8 ∧ (∀ (d2 : Int) (d3 : Heap), f6 d2 d3 → (((decide (d2 < (e7 : Int))) = true → (∃ g8 g7 : Nat, r = some ⟨g8, g7, none⟩ ∧ (0 : Int) ≤ d2 ∧ d2 < (e7 : Int) ∧ (∃ c7 : Int, hcell d3 g8 (g7 + (Int.toNat d2) * 1) = some (.int .i64 c7) ∧ (∃ e6 e5 : Nat, l = some ⟨e6, e5, none⟩ ∧ (0 : Int) ≤ c7 ∧ c7 < (e2 : Int) ∧ (∃ b8 : Int, ∃ c6 : Bool, ∃ a8 a3 a6 : Int, ∃ b6 : Option Addr, ∃ b0 b1 : Nat, ∃ b9 b5 : Int, ∃ b7 : Bool, hcell d3 e6 (e5 + (Int.toNat c7) * 9) = some (.int .i64 b8) ∧ hcell d3 e6 ((e5 + (Int.toNat c7) * 9) + 1) = some (.bool c6) ∧ hcell d3 e6 ((e5 + (Int.toNat c7) * 9) + 2) = some (.int .u64 a8) ∧ hcell d3 e6 ((e5 + (Int.toNat c7) * 9) + 3) = some (.int .u64 a3) ∧ hcell d3 e6 ((e5 + (Int.toNat c7) * 9) + 4) = some (.int .i64 a6) ∧ hcell d3 e6 ((e5 + (Int.toNat c7) * 9) + 5) = some (.slice b6 b0 b1) ∧ hcell d3 e6 ((e5 + (Int.toNat c7) * 9) + 6) = some (.int .i64 b9) ∧ hcell d3 e6 ((e5 + (Int.toNat c7) * 9) + 7) = some (.int .i64 b5) ∧ hcell d3 e6 ((e5 + (Int.toNat c7) * 9) + 8) = some (.bool b7) ∧ HCV Tryd.prog e0 [(.agg #[(.int .i64 b8), (.bool c6), (.int .u64 a8), (.int .u64 a3), (.int .i64 a6), (.slice b6 b0 b1), (.int .i64 b9), (.int .i64 b5), (.bool b7)])] d3 (fun vv g6 => ∃ f2 : Bool, vv = (.bool f2) ∧ (((!f2) = true → R (.tuple #[]) g6) ∧ ((!f2) = false → (f6 (IntKind.i64.wrap (d2 + 1)) g6 ∧ f4 (IntKind.i64.wrap (d2 + 1)) g6 < f4 d2 d3))))))))) ∧ ((decide (d2 < (e7 : Int))) = false → R (.tuple #[]) d3)))))))))))))))) :
  HC Tryd.prog 51 #[e0, (ptr c1 c2), (ptr d8 d6)] h R := by
 refine hc_of (args := [e0, (ptr c1 c2), (ptr d8 d6)]) Tryd.func51 rfl Tryd.ntmps51 (Nat.le_of_ble_eq_true rfl) ?_
 refine xs (xr ?_)
 obtain ⟨e1, d5, d0, d4, o0, o3, o2, n9, H⟩ := H
 refine lv rfl rfl (vL (vs := [(.int .i64 e1), (.int .i64 d5), (.int .i64 d0), (.int .i64 d4)]) TyTCe.agg24 TyTCe.sz24 rfl (cc o0 (cc o3 (cc o2 (cc n9 cn))))) ?_
 refine lp rfl rfl (sc TyTCe.cb31 rfl (HC.mono H ?_))
 rintro _ h1 ⟨o5, r0, r1, r2, rfl, H⟩
 refine lv rfl rfl (vm rfl) (lv rfl rfl (vx rfl rfl) (lv rfl rfl (vx rfl rfl) (lv rfl rfl (vx rfl rfl) (lv rfl rfl (va rfl) (lv rfl rfl (va rfl) ?_)))))
 refine lv rfl rfl (va rfl) ?_
 refine ln (qn (xs ?_))
 obtain ⟨j, i2, i3⟩ := H
 refine xk (fun ρ h' => h1 = h' ∧ Has ρ [(0, e0), (1, (ptr c1 c2)), (2, (ptr d8 d6)), (4, (.int .i64 r0)), (26, (.bool j))]) ?_ ?_
 ·have H := i2; clear i2 i3
  refine xr ?_
  refine lv rfl rfl (vm rfl) (lv rfl rfl (vr rfl rfl rfl) (lv rfl rfl (vm rfl) ?_))
  rcases bool_or (r2 != 0) with e3 | e3
  ·replace H := H.1 e3
   refine lo (wanted_n rfl rfl rfl e3) rfl ?_
   refine lo (wanted_n rfl rfl rfl e3) rfl ?_
   refine lo (wanted_n rfl rfl rfl e3) rfl ?_
   refine lo (wanted_n rfl rfl rfl e3) rfl ?_
   refine lv rfl rfl (v := (.bool true)) (hv_pick_t rfl e3 rfl) ?_
   refine ln (qn ?_)
   obtain rfl := H
   exact ⟨rfl, (hc rfl (hc rfl (hc rfl (hc rfl (hc rfl hn)))))⟩
  ·replace H := H.2 e3
   refine ly (wanted_y rfl rfl rfl e3) rfl (HStep.of_val (v := (.int .i64 r1)) (vm rfl) ?_)
   obtain ⟨x, f1, i5, o1, H⟩ := H
   refine ly (wanted_y rfl rfl rfl e3) rfl (HStep.of_val (v := (.slice x f1 i5)) (vl TyTCe.agg25 rfl o1) ?_)
   refine ly (wanted_y rfl rfl rfl e3) rfl (HStep.of_val (v := (.int .i64 (f1 : Int))) (hv_len (n := f1) TyTCe.u25 rfl) ?_)
   refine ly (wanted_y rfl rfl rfl e3) rfl (HStep.of_val (v := (.bool (r1 != (f1 : Int)))) (vr rfl rfl rfl) ?_)
   refine lv rfl rfl (v := (.bool (r1 != (f1 : Int)))) (hv_pick_f rfl e3 rfl) ?_
   refine ln (qn ?_)
   obtain rfl := H
   exact ⟨rfl, (hc rfl (hc rfl (hc rfl (hc rfl (hc rfl hn)))))⟩
 ·have H := i3; clear i2 i3
  rintro ρ _ ⟨rfl, hH⟩
  refine xh _ hH ?_
  refine xc (b := j) rfl (fun g1 => ?_) (fun g1 => ?_)
  ·replace H := H.1 g1
   refine xt (qr ?_)
   exact endQ_ret _ (res_none Tryd.results51 ) H
  ·replace H := H.2 g1
   refine xi (qn (xs (xr ?_)))
   refine lv rfl rfl (va rfl) ?_
   refine ln (qn (xs (xs (xr ?_))))
   refine lv rfl rfl (v := (ptr c1 (c2 + 2))) (vf TyTCe.fld24_2 (b := c1) (o := c2) rfl) ?_
   obtain ⟨e8, n7, H⟩ := H
   refine lv rfl rfl (vl TyTCe.agg3 rfl n7) (lv rfl rfl (vm rfl) ?_)
   refine ln (qn (xb ?_))
   obtain ⟨f9, f5, k4, k8⟩ := H
   refine xl (σ := Option Addr × Nat × Nat × Int) (fun s => [(0, e0), (1, (ptr c1 c2)), (2, (ptr d8 d6)), (4, (.int .i64 r0)), (7, (.slice s.1 s.2.1 s.2.2.1)), (28, (.int .i64 e8)), (29, (.int .i64 s.2.2.2))]) (fun s h' => f9 s.1 s.2.1 s.2.2.1 s.2.2.2 h' ∧ True) (fun s h' => f5 s.1 s.2.1 s.2.2.1 s.2.2.2 h') (none, 0, 0, 0) ⟨k4, trivial⟩ (hc rfl (hc rfl (hc rfl (hc rfl (hc rfl (hc rfl (hc rfl hn))))))) ?_
   rintro ⟨l, e2, e4, v⟩ ρ h2 ⟨j5, -⟩
   have H := k8 l e2 e4 v h2 j5
   refine xs (xr ?_)
   refine lv rfl rfl (vr rfl rfl rfl) ?_
   refine ln (qn (xs ?_))
   refine xc (b := decide (v < e8)) rfl (fun g2 => ?_) (fun g2 => ?_)
   ·replace H := H.1 g2
    refine xi (qn (xs (xb (xs (xr ?_)))))
    refine lv rfl rfl (vm rfl) (lv rfl rfl (va rfl) ?_)
    refine ln (qn ?_)
    obtain ⟨f7, g4, g5⟩ := H
    refine xk (fun ρ h' => ∃ d7 d9 : Nat, (f7 d7 d9 h' ∧ True) ∧ Has ρ [(0, e0), (1, (ptr c1 c2)), (2, (ptr d8 d6)), (4, (.int .i64 r0)), (7, (.slice l e2 e4)), (9, (ptr d7 d9)), (28, (.int .i64 e8)), (29, (.int .i64 v))]) ?_ ?_
    ·have H := g4; clear g4 g5
     refine hx_tree TyTCe.mixed (fun _ _ => True) fit_true [.read, .pure, .read, .pure, .pure, .pure, .pure, .pure, .pure, .pure, .pure, .ext, .pure, .pure, .pure, .ext, .wild, .pure] (.one 0 (.one 1 (.one 2 (.one 3 (.one 4 (.one 5 (.one 6 (.one 7 (.one 8 (.one 9 (.one 10 (.fork [11, 15] fun k => bif k == 11 then (.one 12 (.one 13 (.one 14 (.one 15 (.one 16 (.one 17 .done)))))) else (.one 11 (.one 12 (.one 13 (.one 14 (.one 16 (.one 17 .done)))))))))))))))))) (by kernel_rfl) ?_
     obtain ⟨c8, c4, c3, c5, l8, m4, l2, m7, H⟩ := H
     refine to (ho_read (i := 0) rfl (wanted_0 rfl) rfl (.agg #[(.int .i64 c8), (.int .i64 c4), (.int .i64 c3), (.int .i64 c5)]) (fun _ he => vL (vs := [(.int .i64 c8), (.int .i64 c4), (.int .i64 c3), (.int .i64 c5)]) TyTCe.agg24 TyTCe.sz24 rfl (cc (Ext.cell he l8) (cc (Ext.cell he m4) (cc (Ext.cell he l2) (cc (Ext.cell he m7) cn))))) ?_)
     refine to (ho_pure (i := 1) rfl (wanted_0 rfl) rfl (.int .i64 v) (fun _ => vm rfl) ?_)
     obtain ⟨c7, f3, d1, m3, H⟩ := H
     refine to (ho_read (i := 2) rfl (wanted_0 rfl) rfl (.slice c7 f3 d1) (fun _ he => vl TyTCe.agg25 rfl (Ext.cell he m3)) ?_)
     refine to (ho_pure (i := 3) rfl (wanted_0 rfl) rfl (.int .i64 v) (fun _ => vm rfl) ?_)
     refine to (ho_pure (i := 4) rfl (wanted_0 rfl) rfl (.int .i64 r0) (fun _ => vm rfl) ?_)
     refine to (ho_pure (i := 5) rfl (wanted_0 rfl) rfl (.int .i64 (IntKind.i64.wrap (v * r0))) (fun _ => vr rfl rfl rfl) ?_)
     refine to (ho_pure (i := 6) rfl (wanted_0 rfl) rfl (.int .i64 v) (fun _ => vm rfl) ?_)
     refine to (ho_pure (i := 7) rfl (wanted_0 rfl) rfl (.int .i64 (IntKind.i64.wrap (v + 1))) (fun _ => vr rfl rfl rfl) ?_)
     refine to (ho_pure (i := 8) rfl (wanted_0 rfl) rfl (.int .i64 r0) (fun _ => vm rfl) ?_)
     refine to (ho_pure (i := 9) rfl (wanted_0 rfl) rfl (.int .i64 (IntKind.i64.wrap ((IntKind.i64.wrap (v + 1)) * r0))) (fun _ => vr rfl rfl rfl) ?_)
     obtain ⟨k6, k0, k9, H⟩ := H
     obtain ⟨sl, hq30⟩ : ∃ q, q = slA c7 (Int.toNat (IntKind.i64.wrap (v * r0))) 1 d1 := ⟨_, rfl⟩
     replace H := H sl hq30
     refine to (ho_pure (i := 10) rfl (wanted_0 rfl) rfl (.slice sl (Int.toNat (IntKind.i64.wrap ((IntKind.i64.wrap (v + 1)) * r0)) - Int.toNat (IntKind.i64.wrap (v * r0))) (d1 - Int.toNat (IntKind.i64.wrap (v * r0)))) (fun _ => hv_slice (l := IntKind.i64.wrap (v * r0)) (r := IntKind.i64.wrap ((IntKind.i64.wrap (v + 1)) * r0)) TyTCe.u25 TyTCe.sz5 rfl (sl_some rfl) (sh_some rfl) k6 k0 k9 hq30) ?_)
     refine ht_fork2 rfl rfl ?_ ?_
     ·replace H := H.1
      refine ho_ext (i := 11) rfl (wanted_0 rfl) rfl (sc TyTCe.cb12 rfl (HC.mono H ?_))
      rintro _ h4 ⟨l1, b4, c0, a2, a0, a1, a7, a4, a5, b2, a9, b3, c9, rfl, H⟩
      refine ⟨l1, ?_⟩
      refine to (ho_pure (i := 12) rfl (wanted_0 rfl) rfl (.tuple #[(.agg #[(.int .i64 b4), (.bool c0), (.int .u64 a2), (.int .u64 a0), (.int .i64 a1), (.slice a7 a4 a5), (.int .i64 b2), (.int .i64 a9), (.bool b3)]), (.int .i64 c9)]) (fun _ => vm rfl) ?_)
      refine to (ho_pure (i := 13) rfl (wanted_0 rfl) rfl (.agg #[(.int .i64 b4), (.bool c0), (.int .u64 a2), (.int .u64 a0), (.int .i64 a1), (.slice a7 a4 a5), (.int .i64 b2), (.int .i64 a9), (.bool b3)]) (fun _ => vx (vs := #[(.agg #[(.int .i64 b4), (.bool c0), (.int .u64 a2), (.int .u64 a0), (.int .i64 a1), (.slice a7 a4 a5), (.int .i64 b2), (.int .i64 a9), (.bool b3)]), (.int .i64 c9)]) rfl rfl) ?_)
      refine to (ho_pure (i := 14) rfl (wanted_0 rfl) rfl (.int .i64 c9) (fun _ => vx (vs := #[(.agg #[(.int .i64 b4), (.bool c0), (.int .u64 a2), (.int .u64 a0), (.int .i64 a1), (.slice a7 a4 a5), (.int .i64 b2), (.int .i64 a9), (.bool b3)]), (.int .i64 c9)]) rfl rfl) ?_)
      refine to (ho_ext (i := 15) rfl (wanted_0 rfl) rfl (hn_alloc TyTCe.z36 ?_))
      intro sv h5 j3 i1
      replace H := H sv h5 j3 i1
      have j2 := ext_pushed_f51_sh i1
      refine ⟨j2, ?_⟩
      obtain ⟨l9, H⟩ := H
      refine to (ho_wild (i := 16) rfl (wanted_0 rfl) rfl (hn_stores (vs := [(.int .i64 b4), (.bool c0), (.int .u64 a2), (.int .u64 a0), (.int .i64 a1), (.slice a7 a4 a5), (.int .i64 b2), (.int .i64 a9), (.bool b3)]) rfl rfl TyTCe.sz36 rfl l9 ?_))
      intro h6 k3
      replace H := H h6 k3
      refine to (ho_pure (i := 17) rfl (wanted_0 rfl) rfl (.int .i64 c9) (fun _ => va rfl) ?_)
      refine ht_done ?_
      refine qn ?_
      exact ⟨_, _, ⟨H, trivial⟩, (hc rfl (hc rfl (hc rfl (hc rfl (hc rfl (hc rfl (hc rfl (hc rfl hn))))))))⟩
     ·replace H := H.2
      refine ho_ext (i := 15) rfl (wanted_0 rfl) rfl (hn_alloc TyTCe.z36 ?_)
      intro sv h7 n3 g9
      replace H := H sv h7 n3 g9
      have j1 := ext_pushed_f51_sh g9
      refine ⟨j1, ?_⟩
      refine to (ho_ext (i := 11) rfl (wanted_0 rfl) rfl (sc TyTCe.cb12 rfl (HC.mono H ?_)))
      rintro _ h8 ⟨m6, b4, c0, a2, a0, a1, a7, a4, a5, b2, a9, b3, c9, rfl, H⟩
      refine ⟨m6, ?_⟩
      refine to (ho_pure (i := 12) rfl (wanted_0 rfl) rfl (.tuple #[(.agg #[(.int .i64 b4), (.bool c0), (.int .u64 a2), (.int .u64 a0), (.int .i64 a1), (.slice a7 a4 a5), (.int .i64 b2), (.int .i64 a9), (.bool b3)]), (.int .i64 c9)]) (fun _ => vm rfl) ?_)
      refine to (ho_pure (i := 13) rfl (wanted_0 rfl) rfl (.agg #[(.int .i64 b4), (.bool c0), (.int .u64 a2), (.int .u64 a0), (.int .i64 a1), (.slice a7 a4 a5), (.int .i64 b2), (.int .i64 a9), (.bool b3)]) (fun _ => vx (vs := #[(.agg #[(.int .i64 b4), (.bool c0), (.int .u64 a2), (.int .u64 a0), (.int .i64 a1), (.slice a7 a4 a5), (.int .i64 b2), (.int .i64 a9), (.bool b3)]), (.int .i64 c9)]) rfl rfl) ?_)
      refine to (ho_pure (i := 14) rfl (wanted_0 rfl) rfl (.int .i64 c9) (fun _ => vx (vs := #[(.agg #[(.int .i64 b4), (.bool c0), (.int .u64 a2), (.int .u64 a0), (.int .i64 a1), (.slice a7 a4 a5), (.int .i64 b2), (.int .i64 a9), (.bool b3)]), (.int .i64 c9)]) rfl rfl) ?_)
      obtain ⟨m5, H⟩ := H
      refine to (ho_wild (i := 16) rfl (wanted_0 rfl) rfl (hn_stores (vs := [(.int .i64 b4), (.bool c0), (.int .u64 a2), (.int .u64 a0), (.int .i64 a1), (.slice a7 a4 a5), (.int .i64 b2), (.int .i64 a9), (.bool b3)]) rfl rfl TyTCe.sz36 rfl m5 ?_))
      intro h9 m2
      replace H := H h9 m2
      refine to (ho_pure (i := 17) rfl (wanted_0 rfl) rfl (.int .i64 c9) (fun _ => va rfl) ?_)
      refine ht_done ?_
      refine qn ?_
      exact ⟨_, _, ⟨H, trivial⟩, (hc rfl (hc rfl (hc rfl (hc rfl (hc rfl (hc rfl (hc rfl (hc rfl hn))))))))⟩
    ·rintro ρ h3 ⟨d7, d9, ⟨k5, -⟩, hH⟩
     have H := g5 d7 d9 h3 k5; clear g4 g5
     refine xh _ hH ?_
     refine xr ?_
     refine lv rfl rfl (vm rfl) ?_
     obtain ⟨b8, c6, a8, a3, a6, b6, b0, b1, b9, b5, b7, n5, l0, l5, l3, n4, n1, m1, j4, k7, H⟩ := H
     refine lv rfl rfl (vL (vs := [(.int .i64 b8), (.bool c6), (.int .u64 a8), (.int .u64 a3), (.int .i64 a6), (.slice b6 b0 b1), (.int .i64 b9), (.int .i64 b5), (.bool b7)]) TyTCe.agg36 TyTCe.sz36 rfl (cc n5 (cc l0 (cc l5 (cc l3 (cc n4 (cc n1 (cc m1 (cc j4 (cc k7 cn)))))))))) ?_
     refine lp rfl rfl (hn_buildSlice (n := 1) (vs := [(0, (.agg #[(.int .i64 b8), (.bool c6), (.int .u64 a8), (.int .u64 a3), (.int .i64 a6), (.slice b6 b0 b1), (.int .i64 b9), (.int .i64 b5), (.bool b7)]))]) (cs := #[(.int .i64 b8), (.bool c6), (.int .u64 a8), (.int .u64 a3), (.int .i64 a6), (.slice b6 b0 b1), (.int .i64 b9), (.int .i64 b5), (.bool b7)]) TyTCe.u65 TyTCe.sz36 TyTCe.z36 rfl rfl (by kernel_rfl) ?_)
     intro nb f8 l6 i0
     replace H := H nb f8 l6 i0
     have o4 := ext_pushed_f51_sh i0
     refine lp rfl rfl (hs_append rfl rfl (HAppend.mono H ?_))
     rintro _ i6 ⟨ap, f0, e9, rfl, H⟩
     refine lv rfl rfl (va rfl) ?_
     refine ln (bn (qn (xr ?_)))
     refine lv rfl rfl (vr rfl rfl rfl) (lv rfl rfl (vm rfl) ?_)
     refine ln (qn ?_)
     exact ⟨(ap, f0, e9, IntKind.i64.wrap (v + 1)), ⟨⟨H.1, trivial⟩, H.2⟩, (hc rfl (hc rfl (hc rfl (hc rfl (hc rfl (hc rfl (hc rfl hn)))))))⟩
   ·replace H := H.2 g2
    refine xe (qe (qe (bh (qn (xs (xr ?_))))))
    refine lv rfl rfl (vm rfl) ?_
    refine lp rfl rfl (sc TyTCe.cb26 rfl (HC.mono H ?_))
    rintro _ i8 ⟨r, e7, i7, rfl, H⟩
    refine lv rfl rfl (v := (.int .i64 (e7 : Int))) (hv_len (n := e7) TyTCe.u71 rfl) (lv rfl rfl (vm rfl) ?_)
    refine ln (qn (xb ?_))
    obtain ⟨f6, f4, n0, n6⟩ := H
    refine xl (σ := Int) (fun s => [(0, e0), (7, (.slice l e2 e4)), (53, (.slice r e7 i7)), (54, (.int .i64 (e7 : Int))), (55, (.int .i64 s))]) (fun s h' => f6 s h' ∧ True) (fun s h' => f4 s h') 0 ⟨n0, trivial⟩ (hc rfl (hc rfl (hc rfl (hc rfl (hc rfl hn))))) ?_
    rintro d2 ρ d3 ⟨j9, -⟩
    have H := n6 d2 d3 j9
    refine xs (xr ?_)
    refine lv rfl rfl (vr rfl rfl rfl) ?_
    refine ln (qn (xs ?_))
    refine xc (b := decide (d2 < (e7 : Int))) rfl (fun g0 => ?_) (fun g0 => ?_)
    ·replace H := H.1 g0
     refine xi (qn (xs (xb (xs (xr ?_)))))
     obtain ⟨g8, g7, i4, m8, l7, Hq⟩ := H
     subst i4
     have H := Hq; clear Hq
     refine lv rfl rfl (v := (ptr g8 (g7 + (Int.toNat d2) * 1))) (vi TyTCe.el71 rfl rfl m8 l7) ?_
     obtain ⟨c7, j6, H⟩ := H
     refine lv rfl rfl (vl TyTCe.agg3 rfl j6) (lv rfl rfl (va rfl) ?_)
     refine ln (qn (xs (xr ?_)))
     refine lv rfl rfl (vm rfl) (lv rfl rfl (vm rfl) (lv rfl rfl (vm rfl) ?_))
     obtain ⟨e6, e5, i4, j8, i9, Hq⟩ := H
     subst i4
     have H := Hq; clear Hq
     refine lv rfl rfl (v := (ptr e6 (e5 + (Int.toNat c7) * 9))) (vi TyTCe.el65 rfl rfl j8 i9) ?_
     obtain ⟨b8, c6, a8, a3, a6, b6, b0, b1, b9, b5, b7, j0, n2, l4, n8, m0, k1, j7, k2, m9, H⟩ := H
     refine lv rfl rfl (vL (vs := [(.int .i64 b8), (.bool c6), (.int .u64 a8), (.int .u64 a3), (.int .i64 a6), (.slice b6 b0 b1), (.int .i64 b9), (.int .i64 b5), (.bool b7)]) TyTCe.agg36 TyTCe.sz36 rfl (cc j0 (cc n2 (cc l4 (cc n8 (cc m0 (cc k1 (cc j7 (cc k2 (cc m9 cn)))))))))) ?_
     refine lp rfl rfl (hs_callF (vs := [(.agg #[(.int .i64 b8), (.bool c6), (.int .u64 a8), (.int .u64 a3), (.int .i64 a6), (.slice b6 b0 b1), (.int .i64 b9), (.int .i64 b5), (.bool b7)])]) rfl rfl (HCV.mono H ?_))
     rintro _ g6 ⟨f2, rfl, H⟩
     refine lv rfl rfl (v := (.bool (!f2))) (hv_not (b := f2) rfl) ?_
     refine ln (qn ?_)
     refine xc (b := !f2) rfl (fun g3 => ?_) (fun g3 => ?_)
     ·replace H := H.1 g3
      refine xt (br (qr (qr (br ?_))))
      exact endQ_ret _ (res_none Tryd.results51 ) H
     ·replace H := H.2 g3
      refine xi (bn (qn (xr ?_)))
      refine lv rfl rfl (vr rfl rfl rfl) (lv rfl rfl (vm rfl) ?_)
      refine ln (qn ?_)
      exact ⟨IntKind.i64.wrap (d2 + 1), ⟨⟨H.1, trivial⟩, H.2⟩, (hc rfl (hc rfl (hc rfl (hc rfl (hc rfl hn)))))⟩
    ·replace H := H.2 g0
     refine xe (qe (qe (bh ?_)))
     exact endQ_n _ (res_none Tryd.results51 ) H
end Go.Proofs.YthjehlocmikchaaDoor
